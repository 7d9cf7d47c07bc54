/- Marks: Rising. -/
import Derived.Test.YtlahdleaidhclaaMkSortN
import Derived.Test.YtlahdleaidhclaaMkSort
namespace Go.Proofs.Ytlahdleaidhclaa
open Go Go.Mv
set_option maxHeartbeats 1000000
set_option maxRecDepth 10000
set_option linter.unusedVariables false
set_option linter.unusedSimpArgs false
attribute [local irreducible] FCalls IntKind.wrap bits Mem.set Mem.setCell Mem.setCells YCalls
def up (zs : List Int) : List Int := zs.mergeSort fun x y => decide (x ≤ y)
theorem up_len (zs : List Int) : (up zs).length = zs.length := by simp [up, List.length_mergeSort]
def ints (zs : List Int) : List Value := zs.map (.int .i64)
theorem ints_len (zs : List Int) : (ints zs).length = zs.length * 1 := by simp [ints]
theorem ints_get {zs : List Int} {k : Nat} {x : Int} (h : zs[k]? = some x) : (ints zs)[k]? = some (.int .i64 x) := by simp [ints, h]
theorem put_cells {zs : List Int} {r : List Value} (hl : zs.length ≤ r.length) : Sort.putCells (Value.int .i64) 0 zs.toArray r.toArray = (ints zs ++ r.drop zs.length).toArray := by
  apply Array.ext_getElem?
  intro k
  simp only [Sort.putCells, Array.getElem?_mapIdx, List.getElem?_toArray]
  by_cases hk : k < zs.length
  · rw [List.getElem?_append_left (by simpa [ints] using hk), List.getElem?_eq_getElem (by omega)]
    simp [ints, hk]
  · rw [List.getElem?_append_right (by simpa [ints] using hk)]
    simp [ints, hk]
    rw [show zs.length + (k - zs.length) = k by omega]
theorem sort_c {m : Mem} {F : Nat → Prop} {A : Option Addr} {cap : Nat} {zs : List Int} (h : Sl m F A zs.length cap 1 (ints zs)) (hn : zs.length < 4611686018427387904) :
    FCalls Try.prog 28 [.slice A zs.length cap] m fun v m' => v = .tuple #[] ∧ Sl m' F A zs.length cap 1 (ints (up zs)) ∧ (∀ k, A ≠ some ⟨k, 0, none⟩ → m' k = m k) ∧ ∀ k, m k ≠ none → m' k ≠ none := by
  have h0 := h
  obtain ⟨h1, h2, h3⟩ := h
  rcases h3 with ⟨rfl, rfl⟩ | ⟨b, r, e, rfl, hF, hb, hr, hk⟩
  · have hz : zs = [] := List.length_eq_zero_iff.1 (by omega)
    subst hz
    exact sort_nil.mono fun v m' ⟨h4, h5⟩ => ⟨h4, by rw [h5, show up [] = [] from List.mergeSort_nil]; exact h0, fun k _ => by rw [h5], fun k hk => by rw [h5]; exact hk⟩
  · have hlen : (up zs).length ≤ r.length := by rw [up_len]; omega
    refine (FCalls.of_putRow (d := (up zs).toArray) (enc := Value.int .i64) hb fun w hw => ?_).mono fun v m' ⟨h4, h5⟩ => ?_
    · refine calls_of_every_depth fun D => AnyS.slices_Sort_int_in Try.lays189 D b 0 cap zs w (fun j hj => ?_) ?_ hn
      · have hj : j < zs.length := by simpa using hj
        obtain ⟨b', hA, _, hc, hz⟩ := h0.cell (ints_get (List.getElem?_eq_getElem hj))
        cases hA
        refine ⟨?_, ?_⟩
        · rw [Nat.zero_add, Mem.sub_cell hw hc]
          simp [hj]
        · rw [Nat.zero_add, Mem.sub_fz hw hc, hz]
      · exact Mem.sub_lt hw (by rw [hb]; simp)
    · subst h4 h5
      refine ⟨rfl, ⟨by rw [ints_len, up_len], h2, .inr ⟨b, ints (up zs) ++ r.drop (up zs).length, e, rfl, hF, ?_, ?_, fun k v hv => ?_⟩⟩, fun k hne => Mem.set_ne fun hkb => hne (by rw [hkb]), fun k hne => ?_⟩
      · rw [put_cells hlen]
        simp [Mem.set]
      · rw [List.length_append, ints_len, List.length_drop]
        omega
      · rw [List.getElem?_append_left (List.getElem?_eq_some_iff.1 hv).1]
        exact hv
      · by_cases hkb : k = b
        · subst hkb
          simp [Mem.set]
        · rw [Mem.set_ne hkb]
          exact hne
def cast (l : List Nat) : List Int := l.map fun x => ((x : Nat) : Int)
theorem cap29 {n c : Nat} (h : c < n + 1) (hn : n ≤ 100000) : Builtin.nextslicecap (n + 1) c * (tbl.at 3).bytes ≤ 2 ^ 48 := by
  have := nextslicecap_le h
  show _ * 8 ≤ 2 ^ 48
  omega
theorem zeros3 (n : Nat) : (zerosOf tbl 3 n).list.length = n * 1 := by
  show (intCells .i64 (List.replicate n 0)).length = n * 1
  simp [intCells]
theorem ext3 (bk n : Nat) : (⟨bk, 0, none⟩ : Addr).add (n * (tbl.at 3).size) = ⟨bk, n * 1, none⟩ := by
  rw [add_mk, Nat.zero_add]
  rfl
theorem setCell_at {m : Mem} {b e i : Nat} {f : Nat × Nat} {l : List Value} {v : Value} (h : m b = some (.cells l.toArray e f)) : (m.setCell ⟨b, i, none⟩ v) b = some (.cells (l.set i v).toArray e f) := by
  simp [Mem.setCell, h]
theorem rising_c {F : Nat → Prop} {m : Mem} {p room : Nat} {l : List Nat} (h : Mk F m p room l) : FCalls Try.prog 19 [.pointer (some ⟨p, 0, none⟩)] m fun v m' =>
    ∃ A c, v = .slice A l.length c ∧ Sl m' (fun k => m k = none) A l.length c 1 (ints (up (cast l))) ∧ ∀ k o, m k = some o → m' k = some o := by
  refine fcalls_of_vc (T := tbl) (B := bodies) (pr := []) (DR := dr19) (args := [.v (.pointer (some ⟨p, 0, none⟩))]) tbl_ok bodies_ok mixed Try.func19 rfl (by decide +kernel) (by simp [Try.f19]) rfl ?_
  (conv => whnf)
  intro b3 hb3
  (conv => whnf)
  refine FCalls.mono all_c fun v m' ⟨b, hb, hv, hm⟩ => ?_
  subst hv hm
  have hne : b ≠ b3 := by
    rintro rfl
    simp [Mem.set] at hb
  have hbm : m b = none := by rwa [Mem.set_ne hne] at hb
  (conv => whnf)
  refine range_iter1 (all_iter b p room l) (fun y o hy => ?_) (fun i vs hx => ?_) (fun i M => M b = some (.cells [.pointer (some ⟨p, 0, none⟩)].toArray 23 (0, 0)) ∧ ∃ A c, M b3 = some (.cells [.slice A i c].toArray 29 (0, 0)) ∧
    Sl M (fun k => m k = none ∧ k ≠ b3 ∧ k ≠ b) A i c 1 (ints (cast (l.take i))) ∧ ∀ k o, m k = some o → M k = some o) ?_ (fun i vs M hx ⟨hMb, A, c, hM3, hS, hold⟩ => ?_) (fun M ⟨hMb, A, c, hM3, hS, hold⟩ => ?_)
  · exact ⟨Blk.cell (l := [.pointer (some ⟨p, 0, none⟩)]) (Blk.set ⟨23, by simp [Mem.set]⟩ hy) rfl, F, h.stay (F2 := fun _ => False) (((Stp.set hb3).trans (F' := fun _ => False) (Stp.set hb) fun _ h => .inl h).trans (F' := fun _ => False) (Stp.set hy) fun _ h => .inl h) fun _ _ h => h⟩
  · obtain ⟨x, _, rfl⟩ := List.mem_map.1 (List.mem_of_getElem? hx)
    rfl
  · refine ⟨by simp [Mem.set], none, 0, ?_, Sl.nil, fun k o hk => (Stp.set (F := fun _ => False) hb).old k o ((Stp.set (F := fun _ => False) hb3).old k o hk)⟩
    rw [Mem.set_ne hne.symm]
    simp [Mem.set]
    rfl
  · obtain ⟨x, hx2, rfl⟩ : ∃ x, l[i]? = some x ∧ [.int .i64 ((x : Nat) : Int)] = vs := by
      rw [List.getElem?_map] at hx
      cases hl : l[i]? with
      | none => rw [hl] at hx; cases hx
      | some x => rw [hl] at hx; cases hx; exact ⟨x, rfl, rfl⟩
    have hil := (List.getElem?_eq_some_iff.1 hx2).1
    have hll := h.llen
    have hsm := h.small
    have htake : ints (cast (l.take (i + 1))) = ints (cast (l.take i)) ++ [.int .i64 ((x : Nat) : Int)] := by
      rw [List.take_add_one, hx2]
      simp [ints, cast]
    have hcl : (ints (cast (l.take i))).length = i * 1 := by
      rw [ints_len]
      simp [cast]
      omega
    (conv => whnf)
    refine ⟨_, _, _, Blk.cell (l := [.slice A i c]) (i := 0) ⟨29, hM3⟩ rfl, ?_⟩
    (conv => whnf)
    intro nb hnb
    have hnb3 : b3 ≠ nb := by rintro rfl; rw [hM3] at hnb; cases hnb
    have hnbb : b ≠ nb := by rintro rfl; rw [hMb] at hnb; cases hnb
    have hM2 : (M.set nb (.cells [.int .i64 ((x : Nat) : Int)].toArray 3 (0, 0))) nb = some (.cells [.int .i64 ((x : Nat) : Int)].toArray 3 (0, 0)) := by simp [Mem.set]
    have hM32 : (M.set nb (.cells [.int .i64 ((x : Nat) : Int)].toArray 3 (0, 0))) b3 = some (.cells [.slice A i c].toArray 29 (0, 0)) := by rw [Mem.set_ne hnb3]; exact hM3
    have hMb2 : (M.set nb (.cells [.int .i64 ((x : Nat) : Int)].toArray 3 (0, 0))) b = some (.cells [.pointer (some ⟨p, 0, none⟩)].toArray 23 (0, 0)) := by rw [Mem.set_ne hnbb]; exact hMb
    have hold2 : ∀ k o, m k = some o → (M.set nb (.cells [.int .i64 ((x : Nat) : Int)].toArray 3 (0, 0))) k = some o := fun k o hk => (Stp.set (F := fun _ => False) hnb).old k o (hold k o hk)
    have hS2 := hS.keep (m' := M.set nb (.cells [.int .i64 ((x : Nat) : Int)].toArray 3 (0, 0))) fun k _ hne => Mem.set_ne (by rintro rfl; exact hne hnb)
    (conv => whnf)
    refine ⟨[.int .i64 ((x : Nat) : Int)], rfl, .inr ⟨_, rfl, fun k v hv => ?_⟩, fun hle => ?_, fun hlt => ?_⟩
    · rw [add_mk, Nat.zero_add]
      exact Blk.cell (l := [.int .i64 ((x : Nat) : Int)]) ⟨3, hM2⟩ hv
    · obtain ⟨bk, hA, hFk, hroom, hsl, hoth⟩ := hS2.put (news := [.int .i64 ((x : Nat) : Int)]) (j := 1) rfl hle (by omega)
      refine .inl ⟨_, hA, ?_, rfl, ?_⟩
      · rw [ext3]
        exact hroom
      · rw [ext3]
        have h3 := (hoth b3 fun h => hFk.2.1 h.symm).trans hM32
        have hB := (hoth b fun h => hFk.2.2 h.symm).trans hMb2
        (conv => whnf)
        refine ⟨⟨⟨_, Blk.cell (l := [.slice A i c]) (i := 0) ⟨29, h3⟩ rfl⟩, Blk.fz (l := [.slice A i c]) ⟨29, h3⟩⟩, ?_⟩
        (conv => whnf)
        refine ⟨(Mem.setCell_ne hne).trans hB, A, c, ?_, ?_, fun k o hk => ?_⟩
        · exact setCell_at (i := 0) h3
        · rw [htake]
          exact hsl.keep fun k hk _ => Mem.setCell_ne hk.2.1
        · have hk3 : k ≠ b3 := by rintro rfl; rw [hb3] at hk; cases hk
          exact (Mem.setCell_ne hk3).trans ((hoth k (by rintro rfl; rw [hFk.1] at hk; cases hk)).trans (hold2 k o hk))
    · refine ⟨cap29 (n := i) hlt (by omega), ints (cast (l.take i)), hcl, hS2.olds, fun cap nb2 hcap hnb2 => ?_⟩
      have hn3 : b3 ≠ nb2 := fun h => Option.some_ne_none _ (hM32.symm.trans ((congrArg _ h).trans hnb2))
      have hnb : b ≠ nb2 := fun h => Option.some_ne_none _ (hMb2.symm.trans ((congrArg _ h).trans hnb2))
      have hF : m nb2 = none := by
        cases hm : m nb2 with
        | none => rfl
        | some o => exact absurd ((hold2 nb2 o hm).symm.trans hnb2) (Option.some_ne_none _)
      have hsl := hS2.grow (b := nb2) (news := [.int .i64 ((x : Nat) : Int)]) (j := 1) (e := 3) (zs := (zerosOf tbl 3 (cap - (i + 1))).list) rfl hcap ⟨hF, hn3.symm, hnb.symm⟩ (zeros3 _)
      have h3 : ((M.set nb (.cells [.int .i64 ((x : Nat) : Int)].toArray 3 (0, 0))).set nb2 (.cells (ints (cast (l.take i)) ++ [Value.int .i64 ((x : Nat) : Int)] ++ (zerosOf tbl 3 (cap - (i + 1))).list).toArray 3 (0, 0))) b3 = some (.cells [.slice A i c].toArray 29 (0, 0)) := by rw [Mem.set_ne hn3]; exact hM32
      (conv => whnf)
      refine ⟨⟨⟨_, Blk.cell (l := [.slice A i c]) (i := 0) ⟨29, h3⟩ rfl⟩, Blk.fz (l := [.slice A i c]) ⟨29, h3⟩⟩, ?_⟩
      (conv => whnf)
      refine ⟨(Mem.setCell_ne hne).trans ((Mem.set_ne hnb).trans hMb2), some ⟨nb2, 0, none⟩, cap, ?_, ?_, fun k o hk => ?_⟩
      · exact setCell_at (i := 0) h3
      · rw [htake]
        exact hsl.keep fun k hk _ => Mem.setCell_ne hk.2.1
      · have hk3 : k ≠ b3 := by rintro rfl; rw [hb3] at hk; cases hk
        exact (Mem.setCell_ne hk3).trans ((Mem.set_ne (by rintro rfl; rw [hF] at hk; cases hk)).trans (hold2 k o hk))
  · rw [List.length_map] at hM3 hS
    rw [List.take_length] at hS
    have hS3 : Sl M (fun k => m k = none ∧ k ≠ b3 ∧ k ≠ b) A (cast l).length c 1 (ints (cast l)) := by
      rw [show (cast l).length = l.length by simp [cast]]
      exact hS
    have hll := h.llen
    have hsm := h.small
    have hlc : (cast l).length = l.length := by simp [cast]
    (conv => whnf)
    refine ⟨_, _, _, Blk.cell (l := [.slice A l.length c]) (i := 0) ⟨29, hM3⟩ rfl, ?_⟩
    (conv => whnf)
    refine FCalls.mono (hlc ▸ sort_c hS3 (by omega)) fun v m' ⟨h1, h2, h4, h5⟩ => ?_
    subst h1
    (conv => whnf)
    have hA3 : A ≠ some ⟨b3, 0, none⟩ := by
      rintro rfl
      obtain ⟨_, _, h3⟩ := hS
      rcases h3 with ⟨h3, _⟩ | ⟨_, _, _, h3, k2, _⟩
      · cases h3
      · cases h3
        exact k2.2.1 rfl
    refine ⟨_, _, _, Blk.cell (l := [.slice A l.length c]) (i := 0) ⟨29, (h4 b3 hA3).trans hM3⟩ rfl, ?_⟩
    (conv => whnf)
    refine ⟨A, c, rfl, h2.mono fun k hk => hk.1, fun k o hk => (h4 k ?_).trans (hold k o hk)⟩
    rintro rfl
    obtain ⟨_, _, h3⟩ := hS
    rcases h3 with ⟨h3, _⟩ | ⟨_, _, _, h3, k2, _⟩
    · cases h3
    · cases h3
      rw [k2.1] at hk
      cases hk
end Go.Proofs.Ytlahdleaidhclaa
