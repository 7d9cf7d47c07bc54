/- The table: grow. -/
import Derived.Test.YtoifiplefjclbaaTbD
namespace Go.Proofs.Ytoifiplefjclbaa
open Go Go.Mv
set_option maxHeartbeats 1000000
set_option linter.unusedVariables false
set_option linter.unusedSimpArgs false
attribute [local irreducible] FCalls IntKind.wrap bits Mem.set Mem.setCell Mem.setCells
theorem writeAt_append (a : List Value) : ∀ (vs X : List Value) (j : Nat), writeAt (a ++ X) (a.length + j) vs = a ++ writeAt X j vs
  | [], _, _ => rfl
  | v :: r, X, j => by
    simp only [writeAt]
    rw [List.set_append_right _ _ (by omega), show a.length + j - a.length = j by omega, show a.length + j + 1 = a.length + (j + 1) by omega]
    exact writeAt_append a r _ _
theorem writeAt_full : ∀ (vs l : List Value), l.length = vs.length → writeAt l 0 vs = vs
  | [], [], _ => rfl
  | [], _ :: _, h => by simp at h
  | v :: r, [], h => by simp at h
  | v :: r, x :: l, h => by
    show writeAt ([v] ++ l) ([v].length + 0) r = v :: r
    rw [writeAt_append, writeAt_full r l (by simpa using h)]
    rfl
theorem oneCells_ints (k : IntKind) : ∀ (xs : List Int), oneCells (intCells k xs) = true
  | [] => rfl
  | x :: r => by
    show (Value.oneCell' (.int k x) && oneCells (intCells k r)) = true
    rw [oneCells_ints k r]
    rfl
theorem ints_length (k : IntKind) (xs : List Int) : (intCells k xs).length = xs.length := by simp [intCells]
theorem ints_at {k : IntKind} {xs : List Int} {i : Nat} {x : Int} (h : xs[i]? = some x) : (intCells k xs)[i]? = some (.int k x) := by simp [intCells, h]
theorem Ints.holds {m : Mem} {A : Option Addr} {xs : List Int} (h : Ints m A xs) : xs = [] ∨ ∃ q, A = some q ∧ m.holds q (intCells .i64 xs) := by
  rcases h with rfl | ⟨b, i, rfl, h⟩
  · exact .inl rfl
  · refine .inr ⟨_, rfl, fun j v hj => ?_⟩
    rw [add_mk]
    simp only [intCells, List.getElem?_map, Option.map_eq_some_iff] at hj
    obtain ⟨x, hx, rfl⟩ := hj
    exact h j x hx
theorem Blk.ints_ {m : Mem} {b : Nat} {xs : List Int} (h : Blk m b (intCells .i64 xs)) : Ints m (some ⟨b, 0, none⟩) xs :=
  .inr ⟨b, 0, rfl, fun k x hk => by rw [Nat.zero_add]; exact h.cell (ints_at hk)⟩
theorem zeros_ints {n : Nat} : (zerosOf tbl 3 n).list = intCells .i64 (List.replicate n 0) := rfl
theorem copy_own {m : Mem} {b : Nat} {xs : List Int} : Ints ((m.set b (.cells (zerosOf tbl 3 xs.length).list.toArray 3 (0, 0))).setCells ⟨b, 0, none⟩ 0 (intCells .i64 xs)) (some ⟨b, 0, none⟩) xs := by
  have h := Blk.puts (i := 0) (intCells .i64 xs) (j := 0) (Blk.new (m := m) (b := b) (e := 3) (l := (zerosOf tbl 3 xs.length).list))
  rw [Nat.zero_add, writeAt_full _ _ (by rw [zeros_ints, ints_length, ints_length]; simp)] at h
  exact Blk.ints_ h
theorem cellsOf_set {s : Slt} : ∀ {l : List Slt} {i : Nat}, i < l.length → cellsOf (l.set i s) = writeAt (cellsOf l) (i * 4) s.cells
  | [], _, h => by simp at h
  | t :: r, 0, _ => rfl
  | t :: r, i + 1, h => by
    show t.cells ++ cellsOf (r.set i s) = writeAt (t.cells ++ cellsOf r) ((i + 1) * 4) s.cells
    rw [cellsOf_set (l := r) (by simpa using h), show (i + 1) * 4 = t.cells.length + i * 4 by simp [Slt.cells]; omega, writeAt_append]
theorem cellsOf_zero {n : Nat} : (zerosOf tbl 69 n).list = cellsOf (List.replicate n Slt.zero) := by
  show ((List.range n).flatMap fun _ => [Value.bool false, .int .u64 0, .slice none 0 0, .int .i64 0]) = _
  induction n with
  | zero => rfl
  | succ n ih =>
    rw [List.range_succ, List.flatMap_append, ih, List.replicate_succ']
    unfold cellsOf
    rw [List.flatMap_append]
    rfl
theorem Keep.cells_new {bad : List Nat} {m M : Mem} {b i j : Nat} {vs : List Value} (h : Keep bad m M) (hb : m b = none) : Keep bad m (M.setCells ⟨b, i, none⟩ j vs) := fun c o h1 h2 => by
  rw [Mem.setCells_ne]
  · exact h c o h1 h2
  · rintro rfl
    rw [h1] at hb
    cases hb
theorem slot_room {m : Mem} {q i z n : Nat} {l : List Slt} (h : Blk m q (cellsOf l)) (hi : i < l.length) (hz : z = 4) (hn : n = 4) : m.room ((⟨q, 0, none⟩ : Addr).add (i * z)) n := by
  rw [hz, hn, add_mk, Nat.zero_add]
  exact h.room (by rw [cellsOf_length]; omega)
theorem slot_put {m : Mem} {q i z : Nat} {l : List Slt} {s : Slt} {vs : List Value} (h : Blk m q (cellsOf l)) (hi : i < l.length) (hz : z = 4) (hv : vs = s.cells) : Blk (m.setCells ((⟨q, 0, none⟩ : Addr).add (i * z)) 0 vs) q (cellsOf (l.set i s)) := by
  rw [hz, hv, add_mk, Nat.zero_add, cellsOf_set hi]
  exact h.puts _
theorem Keep.cells_add {bad : List Nat} {m : Mem} {b i j : Nat} {vs : List Value} (hb : b ∈ bad) : Keep bad m (m.setCells ((⟨b, 0, none⟩ : Addr).add i) j vs) := by
  rw [add_mk]
  exact Keep.cells hb
theorem Keep.cells_new_add {bad : List Nat} {m M : Mem} {b i j : Nat} {vs : List Value} (h : Keep bad m M) (hb : m b = none) : Keep bad m (M.setCells ((⟨b, 0, none⟩ : Addr).add i) j vs) := by
  rw [add_mk]
  exact h.cells_new hb
theorem TabAt.mono {m m' : Mem} {p : Nat} {t : Tab} (ht : TabAt m p t) (hk : Keep [] m m') : TabAt m' p t :=
  ⟨hk.blk ht.head (by simp), fun h => ⟨hk.blk (ht.places h).1 (by simp), (ht.places h).2⟩, fun s hs => ⟨(ht.keys s hs).1.keep hk (by simp), (ht.keys s hs).2⟩, ht.size, fun b hb => ⟨dom_keep hk (ht.far b hb).1 (by simp), (ht.far b hb).2⟩⟩
theorem grow_c {m : Mem} {p : Nat} {t : Tab} (ht : TabAt m p t) (ho : TabOk t) (hm : t.many < t.most) :
    FCalls Try.prog 27 [.pointer (some ⟨p, 0, none⟩)] m fun v m' => ∃ t', v = .tuple #[] ∧ TabAt m' p t' ∧ TabOk t' ∧ t'.w = t.w ∧ (t'.most = t.most ∧ t'.g = t.g) ∧ t'.many = t.many ∧ (∀ ks v, Has t'.sl ks v ↔ Has t.sl ks v) ∧
      2 * (cnt t.sl + 1) ≤ t'.sl.length ∧ (t'.sl.length = t.sl.length ∨ (2 * (cnt t.sl + 1) > t.sl.length ∧ t'.sl.length = max 8 (2 * t.sl.length))) ∧ Keep [p] m m' ∧ (t'.q = t.q ∨ m t'.q = none) := by
  have hhead := ht.head
  have hmany := ho.many
  have hmost := ho.most1
  have hhalf := ho.half
  have hc0 : cnt t.sl < 1000000 := by omega
  have hw1 : IntKind.i64.wrap (t.many + 1) = t.many + 1 := wrap_id (by omega) (by omega)
  have hw2 : IntKind.i64.wrap (2 * (t.many + 1)) = 2 * (t.many + 1) := wrap_id (by omega) (by omega)
  refine fcalls_of_vc (T := tbl) (B := bodies) (pr := [4]) (DR := dr27) (args := [.v (.pointer (some ⟨p, 0, none⟩))]) tbl_ok bodies_ok mixed Try.func27 rfl (by decide +kernel) (by simp [Try.f27]) rfl ?_
  (conv => whnf)
  refine ⟨_, hhead.cell (i := 3) rfl, ?_⟩
  (conv => whnf)
  refine ⟨_, _, _, hhead.cell (i := 2) rfl, ?_⟩
  (conv => whnf)
  rw [hw1, hw2]
  refine brk_intro (fun h => ?_) (fun h => ?_)
  · have h : 2 * (t.many + 1) ≤ t.sl.length := by simpa using h
    (conv => whnf)
    exact ⟨t, rfl, ht, ho, rfl, ⟨rfl, rfl⟩, rfl, fun _ _ => Iff.rfl, by omega, .inl rfl, Keep.refl, .inl rfl⟩
  · have h : ¬ 2 * (t.many + 1) ≤ t.sl.length := by simpa using h
    (conv => whnf)
    refine ⟨_, _, _, hhead.cell (i := 2) rfl, ?_⟩
    (conv => whnf)
    have hlen : t.sl.length < 2000002 := by omega
    have hw3 : IntKind.i64.wrap (2 * (t.sl.length : Int)) = 2 * t.sl.length := wrap_id (by omega) (by omega)
    rw [hw3]
    obtain ⟨N, hN⟩ : ∃ N : Nat, N = max 8 (2 * t.sl.length) := ⟨_, rfl⟩
    have hN' : (if 2 * (t.sl.length : Int) > 8 then 2 * (t.sl.length : Int) else 8) = (N : Int) := by
      rw [hN]; split <;> omega
    rw [hN']
    obtain ⟨k', hk', hNk⟩ : ∃ k', k' < 40 ∧ N = 2 ^ k' := by
      rcases ho.ok with h1 | h1
      · exact ⟨3, by omega, by rw [hN, h1]; rfl⟩
      · obtain ⟨k, hk, hn⟩ := h1.pow
        have hk2 : k < 22 := by
          apply Classical.byContradiction
          intro hc
          have := Nat.pow_le_pow_right (show 0 < 2 by omega) (show 22 ≤ k by omega)
          omega
        by_cases hk3 : k < 3
        · refine ⟨3, by omega, ?_⟩
          have : k = 0 ∨ k = 1 ∨ k = 2 := by omega
          rcases this with rfl | rfl | rfl <;> (rw [hN, hn]; decide)
        · refine ⟨k + 1, by omega, ?_⟩
          have := Nat.pow_le_pow_right (show 0 < 2 by omega) (show 3 ≤ k by omega)
          rw [hN, hn, Nat.pow_succ]
          omega
    refine ⟨by omega, by omega, by omega, ?_, ?_⟩
    · have : ((tbl.at 69).bytes : Int) = 48 := rfl
      rw [this]
      omega
    intro q' hq'
    have hpq : p ≠ q' := hhead.ne hq'
    (conv => whnf)
    refine ⟨⟨⟨_, (hhead.set hq').cell (i := 2) rfl⟩, (hhead.set hq').fz⟩, ?_⟩
    (conv => whnf)
    have hN0 : 0 < N := by omega
    have hsA : ∀ acc : List Slt, acc.length = N → Tab.sA ⟨t.w, t.most, acc, q', t.many, t.g⟩ = some ⟨q', 0, none⟩ := fun acc ha => if_neg (by rintro h1; dsimp only at h1; rw [h1] at ha; simp at ha; omega)
    have hNl : N < 2 ^ 40 := by omega
    refine loop_keep [0, 29, 30] (Int × List Slt × Mem) (fun s => [(31, .v (.int .i64 s.1))]) (fun _ => []) (fun s => s.2.2)
      (fun s => 0 ≤ s.1 ∧ s.1 ≤ t.sl.length ∧ Grown t.sl N s.1.toNat s.2.1 ∧ TabAt s.2.2 p ⟨t.w, t.most, s.2.1, q', t.many, t.g⟩ ∧ Keep [p] m s.2.2) (fun s => t.sl.length - s.1.toNat) (0, List.replicate N .zero, _) ⟨rfl, trivial⟩ rfl rfl ?_ ?_
    · refine ⟨by simp, by simp, ⟨by rw [hNk]; exact good_zero hk', by simp, ?_, ?_, ?_⟩, ⟨?_, fun _ => ⟨?_, hpq⟩, ?_, by simpa using hNl, fun x hx => ⟨dom_setCell (dom_set (ht.far x hx).1), (ht.far x hx).2.1, fun _ => by rintro rfl; exact (ht.far _ hx).1 hq'⟩⟩, ?_⟩
      · intro ks v
        constructor
        · rintro ⟨s, hs, hu, _⟩
          rw [List.mem_replicate] at hs
          rw [hs.2] at hu
          cases hu
        · rintro ⟨s, hs, _⟩
          simp at hs
      · rw [cnt_zero]; rfl
      · intro s hs
        rw [List.mem_replicate] at hs
        exact .inl hs.2
      · have := Blk.put (i := 2) (.slice (some ⟨q', 0, none⟩) (N : Int).toNat (N : Int).toNat) (hhead.set hq' (o := .cells (zerosOf tbl 69 (N : Int).toNat).list.toArray 69 (0, 0)))
        rw [hsA _ (by simp)]
        simpa [add_mk] using this
      · refine Blk.setCell_ne ?_ (Ne.symm hpq)
        rw [← cellsOf_zero]
        exact Blk.new
      · intro s hs
        rw [List.mem_replicate] at hs
        rw [hs.2]
        exact ⟨.inl rfl, .inl rfl, .inl rfl, by simp [Slt.zero], fun _ _ => .inl rfl⟩
      · exact (Keep.set hq').trans (Keep.cell (by simp))
    (conv => whnf)
    refine ⟨rfl, fun s hJ => ?_⟩
    obtain ⟨i, acc, M⟩ := s
    obtain ⟨hJ1, hJ2, hG, hT, hK⟩ := hJ
    dsimp only at hJ1 hJ2 hG hT hK
    (conv => whnf)
    refine brk_intro (fun h1 => ?_) (fun h1 => ?_)
    · have h1 : i < t.sl.length := by simpa using h1
      have hne : t.sl ≠ [] := by rintro e; rw [e] at h1; simp at h1; omega
      have hg := ho.ok.resolve_left hne
      obtain ⟨hq, hpq0⟩ := ht.places hne
      have hsA0 : t.sA = some ⟨t.q, 0, none⟩ := if_neg hne
      have hqM := hK.blk hq (by simp; exact Ne.symm hpq0)
      obtain ⟨s, hs⟩ : ∃ s, t.sl[i.toNat]? = some s := ⟨t.sl[i.toNat]'(by omega), List.getElem?_eq_getElem (by omega)⟩
      have hst := grow_step hg (by omega) hG hs
      (conv => whnf)
      refine ⟨_, hsA0, hJ1, h1, ?_⟩
      (conv => whnf)
      refine ⟨_, slot_cell hqM hs (f := 0) (by decide) rfl rfl, ?_⟩
      (conv => whnf)
      refine ⟨_, slot_cell hqM hs (f := 1) (by decide) rfl rfl, ?_⟩
      (conv => whnf)
      refine ⟨_, _, _, slot_cell hqM hs (f := 2) (by decide) rfl rfl, ?_⟩
      (conv => whnf)
      refine ⟨_, slot_cell hqM hs (f := 3) (by decide) rfl rfl, ?_⟩
      (conv => whnf)
      have hi1 : IntKind.i64.wrap (i + 1) = i + 1 := wrap_id (by omega) (by omega)
      have hi2 : (i + 1).toNat = i.toNat + 1 := by omega
      refine brk_intro (fun h2 => ?_) (fun h2 => ?_)
      · obtain ⟨r, u, hr, hu, hat, _⟩ := grow_at hg hG hs h2
        have hre : reins acc s = acc.set r s := by unfold reins; rw [hat]
        rw [if_pos h2, hre] at hst
        have hTh := hT.head
        rw [hsA acc hG.len] at hTh
        have hane : acc ≠ [] := by rintro e; have := hG.len; rw [e] at this; simp at this; omega
        have hqa := (hT.places hane).1
        have hrl := lt_of hr
        have hsk := ht.keys s (List.mem_of_getElem? hs)
        have hsI : Ints M s.kA s.ks := hsk.1.keep hK (by simpa using hsk.2.1)
        (conv => whnf)
        refine ⟨_, _, _, hTh.cell (i := 2) rfl, ?_⟩
        (conv => whnf)
        refine ⟨_, at_c hT hsI hsk.2.2.2.1 (hG.len.trans hNk) hk' hat, ?_⟩
        (conv => whnf)
        refine ⟨_, rfl, by omega, by dsimp only; omega, ?_⟩
        (conv => whnf)
        refine ⟨slot_room hqa hrl rfl rfl, ?_⟩
        (conv => whnf)
        refine ⟨(_, acc.set r s, _), le_of_more ⟨rfl, rfl, rfl, rfl, trivial⟩ rfl (fun _ _ h => h), ?_⟩
        dsimp only
        rw [hi1, hi2]
        refine ⟨⟨by omega, by omega, hst, ?_, ?_⟩, by omega⟩
        · refine ⟨?_, fun _ => ⟨slot_put hqa hrl rfl rfl, hpq⟩, ?_, by simpa [hG.len] using hNl, fun x hx => ⟨dom_setCells _ (hT.far x hx).1, (hT.far x hx).2.1, fun _ => (hT.far x hx).2.2 hane⟩⟩
          · rw [hsA _ (by simpa using hG.len)]
            have := hTh.setCells_ne (c := q') (i := 0 + (r : Int).toNat * 4) (j := 0) (vs := s.cells) hpq
            rw [List.length_set]
            rw [add_mk]
            exact this
          · intro v hv
            rcases mem_set_at hv with rfl | hv
            · refine ⟨?_, hsk.2.1, hsk.1.off_new hq', hsk.2.2.2⟩
              refine hsI.keep (bad := [q']) (Keep.cells_add (by simp)) (by simpa using hsk.1.off_new hq')
            · have := hT.keys v hv
              exact ⟨this.1.keep (bad := [q']) (Keep.cells_add (by simp)) (by simpa using this.2.2.1), this.2⟩
        · exact hK.cells_new_add hq'
      · rw [h2, if_neg (by simp)] at hst
        (conv => whnf)
        refine ⟨(_, acc, _), le_of_more ⟨rfl, rfl, rfl, rfl, trivial⟩ rfl (fun _ _ h => h), ?_⟩
        dsimp only
        rw [hi1, hi2]
        exact ⟨⟨by omega, by omega, hst, hT, hK⟩, by omega⟩
    · have h1 : ¬ i < t.sl.length := by simpa using h1
      have hi : i.toNat = t.sl.length := by omega
      rw [hi] at hG
      have htk : t.sl.take t.sl.length = t.sl := List.take_length
      (conv => whnf)
      refine ⟨⟨t.w, t.most, acc, q', t.many, t.g⟩, rfl, hT, ⟨.inr hG.good, ?_, ?_, ?_, ho.w0, ho.w1, ho.most0, ho.most1, ho.full⟩, rfl, ⟨rfl, rfl⟩, rfl, ?_, ?_, .inr ⟨by omega, hG.len.trans hN⟩, hK, .inr hq'⟩
      · rw [hmany, hG.cnt, htk]
      · rw [hG.cnt, htk, hG.len]
        omega
      · intro s hs hu
        rcases hG.mem s hs with rfl | hs
        · cases hu
        · exact ho.wid s hs hu
      · intro ks v
        rw [hG.has, htk]
      · rw [hG.len]
        omega
end Go.Proofs.Ytoifiplefjclbaa
