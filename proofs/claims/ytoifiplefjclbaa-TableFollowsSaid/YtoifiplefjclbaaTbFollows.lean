/- TableFollows. -/
import Derived.Test.YtoifiplefjclbaaTbR
namespace Go.Proofs.Ytoifiplefjclbaa
open Go Go.Mv
set_option maxHeartbeats 2000000
set_option maxRecDepth 10000
set_option linter.unusedVariables false
set_option linter.unusedSimpArgs false
attribute [local irreducible] FCalls IntKind.wrap bits Mem.set Mem.setCell Mem.setCells YCalls
/-- What the map holds are places at which the key was laid. -/
def Laid (xs : List Int) (i : Nat) (a : Abs) : Prop := a.w = 2 ∧ a.most = 1000000 ∧ a.n ≤ i ∧ ∀ k v, a.f k = some v → ∃ (j : Nat) (x : Int), v = j ∧ j < i ∧ xs[j]? = some x ∧ k = [x, x.tmod 7]
theorem Laid.put {xs : List Int} {i : Nat} {a a' : Abs} {x code : Int} (h : Laid xs i a) (hi : i ≤ 600) (hx : xs[i]? = some x) (hp : putA a [x, x.tmod 7] i code a') :
    code = 0 ∧ a'.f [x, x.tmod 7] = some (i : Int) ∧ Laid xs (i + 1) a' ∧ a'.n = (if (a.f [x, x.tmod 7]).isSome then a.n else a.n + 1) := by
  obtain ⟨h1, h2, h3, h4⟩ := h
  obtain ⟨p1, p2, p3⟩ := hp
  rw [if_neg (by simp [h1])] at p3
  have key : ∀ f, f = updF a.f [x, x.tmod 7] (some (i : Int)) → ∀ k v, f k = some v → ∃ (j : Nat) (y : Int), v = j ∧ j < i + 1 ∧ xs[j]? = some y ∧ k = [y, y.tmod 7] := by
    rintro f rfl k v hk
    unfold updF at hk
    split at hk
    · rename_i hkk
      cases hk
      exact ⟨i, x, rfl, by omega, hx, hkk⟩
    · obtain ⟨j, y, e1, e2, e3, e4⟩ := h4 k v hk
      exact ⟨j, y, e1, by omega, e3, e4⟩
  split at p3
  · rename_i hs
    obtain ⟨e1, e2, e3, e4⟩ := p3
    exact ⟨e1, by rw [e2]; simp [updF], ⟨p1.trans h1, p2.trans h2, by omega, key _ e2⟩, by rw [if_pos hs, e3]⟩
  · rename_i hs
    rw [if_neg (by omega)] at p3
    obtain ⟨e1, e2, e3, e4⟩ := p3
    exact ⟨e1, by rw [e2]; simp [updF], ⟨p1.trans h1, p2.trans h2, by omega, key _ e2⟩, by rw [if_neg hs, e3]⟩
theorem Laid.drop {xs : List Int} {i : Nat} {a : Abs} {ks : List Int} (h : Laid xs i a) (n : Nat) (hn : n ≤ a.n) : Laid xs i { a with f := updF a.f ks none, n := n } := by
  obtain ⟨h1, h2, h3, h4⟩ := h
  refine ⟨h1, h2, by simp only; omega, fun k v hk => ?_⟩
  simp only [updF] at hk
  split at hk
  · cases hk
  · exact h4 k v hk
theorem tableFollows_c {m : Mem} {A B : Option Addr} {zs ds : List Int} {c d : Nat} (hA : Ints m A zs) (hB : Ints m B ds) (hzc : zs.length ≤ c) :
    FCalls Try.prog 7 [.slice A zs.length c, .slice B ds.length d] m fun v m' => v = .bool true ∧ m' = m := by
  refine FCalls.less ?_
  refine fcalls_of_vc (T := tbl) (B := bodies) (pr := [99999]) (DR := (100006, 0) :: dr7) (args := [.v (.slice A zs.length c), .v (.slice B ds.length d)]) tbl_ok bodies_ok mixed Try.func7 rfl (by decide +kernel) (by simp [Try.f7]) rfl ?_
  (conv => whnf)
  intro b2 m1 hb he
  have h := (Sep.init m).new' hb he
  clear hb he
  (conv => whnf)
  intro b4 m2 hb he
  replace h : Sep [pt b4 [.bool false], pt b2 [.slice A zs.length c], kp m] m2 := h.new' hb he
  clear hb he
  (conv => whnf)
  refine FCalls.mono known_k ?_
  rintro v m3 ⟨rfl, hle⟩
  replace h := (h.more hle).move 2 rfl
  clear hle
  (conv => whnf)
  refine FCalls.mono (new_m (by omega) (by omega) (by omega) (by omega)) ?_
  rintro v m4 ⟨p, rfl, hT⟩
  replace h := new_on h hT rfl
  clear hT
  (conv => whnf)
  intro b6 m5 hb he
  replace h : Sep [pt b6 [.pointer none], tm m p ⟨2, 1000000, fun _ => none, 0, 0⟩, pt b4 [.bool false], pt b2 [.slice A zs.length c]] m5 := h.new' hb he
  clear hb he
  (conv => whnf)
  refine ⟨h.room 0 (i := 0) rfl rfl, fun m6 he => ?_⟩
  replace h : Sep [pt b6 [.pointer (some ⟨p, 0, none⟩)], tm m p ⟨2, 1000000, fun _ => none, 0, 0⟩, pt b4 [.bool false], pt b2 [.slice A zs.length c]] m6 := h.put' 0 he rfl
  replace h : Sep [tm m p ⟨2, 1000000, fun _ => none, 0, 0⟩, pt b6 [.pointer (some ⟨p, 0, none⟩)], pt b4 [.bool false], pt b2 [.slice A zs.length c]] m6 := h.move 1 rfl
  clear he
  (conv => whnf)
  refine ⟨_, h.cell 1 (i := 0) rfl rfl, ?_⟩
  (conv => whnf)
  refine join_keep [1, 2, 4, 5, 6] (Option Addr × List Int × Nat × Mem) (fun _ => []) (fun s => s.2.2.2) (fun s => s.2.1.length ≤ 600 ∧ Ints m s.1 s.2.1 ∧ Sep [tm m p ⟨2, 1000000, fun _ => none, 0, 0⟩, pt b6 [.pointer (some ⟨p, 0, none⟩)], pt b4 [.bool false], pt b2 [.slice s.1 s.2.1.length s.2.2.1]] s.2.2.2) ?_
  (conv => whnf)
  refine ⟨?_, ?_⟩
  · (conv => whnf)
    refine ⟨_, _, _, h.cell 3 (i := 0) rfl rfl, ?_⟩
    (conv => whnf)
    refine brk_intro (fun c1 => ?_) (fun c1 => ?_)
    · have c1 : (600 : Int) < (zs.length : Nat) := by simpa using c1
      (conv => whnf)
      refine ⟨_, _, _, h.cell 3 (i := 0) rfl rfl, ?_⟩
      (conv => whnf)
      refine ⟨by omega, by omega, by omega, ?_⟩
      (conv => whnf)
      refine ⟨h.room 3 (i := 0) rfl rfl, fun m7 he => ?_⟩
      replace h := h.put' 3 he rfl
      (conv => whnf)
      refine ⟨(A, zs.take 600, c, m7), le_eq ⟨rfl, rfl, rfl, rfl, rfl, trivial⟩ rfl rfl rfl, by simp; omega, ?_, ?_⟩
      · rcases hA with rfl | ⟨b, i, h1, h2⟩
        · exact .inl rfl
        · refine .inr ⟨b, i, h1, fun k x hx => h2 k x ?_⟩
          rw [List.getElem?_take] at hx
          split at hx
          · exact hx
          · cases hx
      · simp only
        have e : (Value.slice (if c = Int.toNat 0 then A else Option.map (fun p => p.add (Int.toNat 0 * (tbl.at 3).size)) A) (600 - 0) (c - 0)) = .slice A (zs.take 600).length c := by
          rw [slice_lo0, List.length_take, Nat.min_eq_left (by omega), Nat.sub_zero, Nat.sub_zero]
        rw [← e]
        exact h
    · have c1 : ¬ (600 : Int) < (zs.length : Nat) := by simpa using c1
      (conv => whnf)
      exact ⟨(A, zs, c, m6), le_eq ⟨rfl, rfl, rfl, rfl, rfl, trivial⟩ rfl rfl rfl, by simp only; omega, hA, h⟩
  clear h
  rintro ⟨A', xs, c', M⟩ ⟨hlen, hX, h⟩
  simp only at hlen hX h
  (conv => whnf)
  refine loop_keep [1, 2, 4, 5, 6] (Nat × Mem × Abs × Mem) (fun s => [(8, .v (.int .i64 ((s.1 : Nat) : Int)))]) (fun _ => []) (fun s => s.2.2.2)
    (fun s => s.1 ≤ xs.length ∧ m.le s.2.1 ∧ Laid xs s.1 s.2.2.1 ∧ Sep [tm s.2.1 p s.2.2.1, pt b6 [.pointer (some ⟨p, 0, none⟩)], pt b4 [.bool false], pt b2 [.slice A' xs.length c']] s.2.2.2) (fun s => xs.length - s.1)
    (0, m, _, M) ⟨rfl, trivial⟩ rfl rfl ⟨by simp, Mem.le_refl _, ⟨rfl, rfl, Nat.le_refl _, fun k v hk => by cases hk⟩, h⟩ ?_
  clear h
  (conv => whnf)
  refine ⟨rfl, ?_⟩
  rintro ⟨i, mk, a, M⟩ ⟨hJ1, hmk, hL, h⟩
  simp only at hJ1 hmk hL h
  (conv => whnf)
  refine ⟨_, _, _, h.cell 3 (i := 0) rfl rfl, ?_⟩
  (conv => whnf)
  refine brk_intro (fun c1 => ?_) (fun c1 => ?_)
  · have c1 : (i : Int) < (xs.length : Nat) := by simpa using c1
    obtain ⟨x, hx⟩ : ∃ x, xs[i]? = some x := ⟨_, List.getElem?_eq_getElem (by omega)⟩
    have hxg : xs.getD ((i : Nat) : Int).toNat 0 = x := by rw [show ((i : Nat) : Int).toNat = i by omega]; simp [List.getD, hx]
    have hXM : Ints M A' xs := (hX.up hmk).up (tm_le (tm_at h 0 rfl))
    obtain ⟨q, hq, hcx⟩ := hXM.at (i := (i : Int)) (by omega) c1
    rw [hxg] at hcx
    have step1 : IntKind.i64.wrap ((i : Int) + 1) = ((i + 1 : Nat) : Int) := wrap_id (by omega) (by omega)
    (conv => whnf)
    refine ⟨_, _, _, h.cell 3 (i := 0) rfl rfl, ?_⟩
    (conv => whnf)
    refine ⟨_, hq, by omega, by omega, ?_⟩
    (conv => whnf)
    refine ⟨_, hcx, ?_⟩
    (conv => whnf)
    refine ⟨_, _, _, h.cell 3 (i := 0) rfl rfl, ?_⟩
    (conv => whnf)
    refine ⟨_, hq, by omega, by omega, ?_⟩
    (conv => whnf)
    refine ⟨_, hcx, ?_⟩
    (conv => whnf)
    refine ⟨by omega, ?_⟩
    (conv => whnf)
    intro b9 m7 hb he
    replace h := h.new' (l := ints [x, x.tmod 7]) hb he
    clear hb he
    obtain ⟨mk2, hmk2, hB9, h2⟩ := tm_merge h
    replace h := h2
    clear h2
    have hI := ints_blk hB9
    (conv => whnf)
    refine ⟨_, h.cell 1 (i := 0) rfl rfl, ?_⟩
    (conv => whnf)
    refine FCalls.mono (get_m (ks := [x, x.tmod 7]) (c := 2) (tm_at h 0 rfl) hI) ?_
    rintro v m8 ⟨rfl, rfl⟩
    (conv => whnf)
    refine ⟨_, h.cell 1 (i := 0) rfl rfl, ?_⟩
    (conv => whnf)
    refine FCalls.mono (len_m (tm_at h 0 rfl)) ?_
    rintro v m9 ⟨rfl, rfl⟩
    (conv => whnf)
    refine ⟨_, h.cell 1 (i := 0) rfl rfl, ?_⟩
    (conv => whnf)
    refine FCalls.mono (h.call 0 rfl fun m1 h1 => put_m (ks := [x, x.tmod 7]) (c := 2) ((i : Nat) : Int) h1 hI) ?_
    rintro v m10 ⟨m11, ⟨code, a', rfl, h1, hpA⟩, h2⟩
    replace h : Sep [tm mk2 p a', pt b6 [.pointer (some ⟨p, 0, none⟩)], pt b4 [.bool false], pt b2 [.slice A' xs.length c']] m10 := h2.one h1
    clear h1 h2
    obtain ⟨rfl, hf', hL', hn'⟩ := hL.put (by omega) hx hpA
    (conv => whnf)
    refine ⟨_, h.cell 1 (i := 0) rfl rfl, ?_⟩
    (conv => whnf)
    have hg := get_m (ks := [x, x.tmod 7]) (c := 2) (tm_at h 0 rfl) hI
    rw [hf'] at hg
    refine FCalls.mono hg ?_
    rintro v m12 ⟨rfl, rfl⟩
    have hself : ∀ (a : Int), (a != a) = false := fun a => by simp
    have hn0 := hL.2.2.1
    (conv => whnf)
    refine brk_true (by simp) ?_
    (conv => whnf)
    refine ⟨_, h.cell 1 (i := 0) rfl rfl, ?_⟩
    (conv => whnf)
    refine ⟨_, len_m (tm_at h 0 rfl), ?_⟩
    rw [hn']
    (conv => whnf)
    rw [wrap_id (x := ((a.n : Nat) : Int) + 1) (by omega) (by omega)]
    cases hs : a.f [x, x.tmod 7] with
    | none =>
      (conv => whnf)
      refine brk_true (by simp) ?_
      (conv => whnf)
      exact ⟨(i + 1, mk2, a', _), le_eq ⟨by show some (AV.v (.int .i64 (IntKind.i64.wrap ((i : Int) + 1)))) = _; rw [step1], rfl, rfl, rfl, rfl, rfl, trivial⟩ rfl rfl rfl, ⟨by simp only; omega, Mem.le_trans hmk hmk2, hL', h⟩, by simp only; omega⟩
    | some w =>
      obtain ⟨j, y, rfl, hj, hxj, hkk⟩ := hL.2.2.2 _ _ hs
      simp only [List.cons.injEq] at hkk
      obtain ⟨rfl, _⟩ := hkk
      have hjg : xs.getD ((j : Nat) : Int).toNat 0 = x := by rw [show ((j : Nat) : Int).toNat = j by omega]; simp [List.getD, hxj]
      have hXM2 : Ints m12 A' xs := ((hX.up hmk).up hmk2).up (tm_le (tm_at h 0 rfl))
      obtain ⟨q2, hq2, hcx2⟩ := hXM2.at (i := (i : Int)) (by omega) c1
      obtain ⟨q3, hq3, hcx3⟩ := hXM2.at (i := (j : Int)) (by omega) (by omega)
      rw [hxg] at hcx2
      rw [hjg] at hcx3
      (conv => whnf)
      refine brk_true (by simp; omega) ?_
      (conv => whnf)
      refine brk_true (by simp; omega) ?_
      (conv => whnf)
      refine ⟨_, _, _, h.cell 3 (i := 0) rfl rfl, ?_⟩
      (conv => whnf)
      refine ⟨_, hq3, by simp only [Option.getD_some]; omega, by simp only [Option.getD_some]; omega, ?_⟩
      (conv => whnf)
      refine ⟨_, hcx3, ?_⟩
      (conv => whnf)
      refine ⟨_, _, _, h.cell 3 (i := 0) rfl rfl, ?_⟩
      (conv => whnf)
      refine ⟨_, hq2, by omega, by omega, ?_⟩
      (conv => whnf)
      refine ⟨_, hcx2, ?_⟩
      (conv => whnf)
      refine brk_false (by simp) ?_
      (conv => whnf)
      exact ⟨(i + 1, mk2, a', _), le_eq ⟨by show some (AV.v (.int .i64 (IntKind.i64.wrap ((i : Int) + 1)))) = _; rw [step1], rfl, rfl, rfl, rfl, rfl, trivial⟩ rfl rfl rfl, ⟨by simp only; omega, Mem.le_trans hmk hmk2, hL', h⟩, by simp only; omega⟩
  · have c1 : ¬ (i : Int) < (xs.length : Nat) := by simpa using c1
    have hi : i = xs.length := by omega
    subst hi
    (conv => whnf)
    refine loop_keep [1, 2, 4, 5, 6] (Nat × Mem × Abs × Mem) (fun s => [(15, .v (.int .i64 ((s.1 : Nat) : Int)))]) (fun _ => []) (fun s => s.2.2.2)
      (fun s => s.1 ≤ 600 ∧ m.le s.2.1 ∧ Laid xs xs.length s.2.2.1 ∧ Sep [tm s.2.1 p s.2.2.1, pt b6 [.pointer (some ⟨p, 0, none⟩)], pt b4 [.bool false], pt b2 [.slice A' xs.length c']] s.2.2.2) (fun s => 600 - s.1)
      (0, mk, a, M) ⟨rfl, trivial⟩ rfl rfl ⟨by simp, hmk, hL, h⟩ ?_
    clear h hL hmk hJ1 c1
    (conv => whnf)
    refine ⟨rfl, ?_⟩
    rintro ⟨i, mk, a, M⟩ ⟨hJ1, hmk, hL, h⟩
    simp only at hJ1 hmk hL h
    have hn0 := hL.2.2.1
    rcases Decidable.em ((i : Int) < (ds.length : Nat) ∧ i < 600) with c1 | c1
    · obtain ⟨c1, c2⟩ := c1
      obtain ⟨x, hx⟩ : ∃ x, ds[i]? = some x := ⟨_, List.getElem?_eq_getElem (by omega)⟩
      have hxg : ds.getD ((i : Nat) : Int).toNat 0 = x := by rw [show ((i : Nat) : Int).toNat = i by omega]; simp [List.getD, hx]
      have hXM : Ints M B ds := (hB.up hmk).up (tm_le (tm_at h 0 rfl))
      obtain ⟨q, hq, hcx⟩ := hXM.at (i := (i : Int)) (by omega) c1
      rw [hxg] at hcx
      have step1 : IntKind.i64.wrap ((i : Int) + 1) = ((i + 1 : Nat) : Int) := wrap_id (by omega) (by omega)
      have e1 : decide ((i : Int) < (ds.length : Nat)) = true := decide_eq_true c1
      have e2 : decide ((i : Int) < 600) = true := decide_eq_true (by omega)
      (conv => whnf)
      refine brk_true (by simp; omega) ?_
      (conv => whnf)
      refine brk_true (by simp; omega) ?_
      (conv => whnf)
      refine ⟨_, hq, by omega, by omega, ?_⟩
      (conv => whnf)
      refine ⟨_, hcx, ?_⟩
      (conv => whnf)
      refine ⟨_, hq, by omega, by omega, ?_⟩
      (conv => whnf)
      refine ⟨_, hcx, ?_⟩
      (conv => whnf)
      refine ⟨by omega, ?_⟩
      (conv => whnf)
      intro b9 m7 hb he
      replace h := h.new' (l := ints [x, x.tmod 7]) hb he
      clear hb he
      obtain ⟨mk2, hmk2, hB9, h2⟩ := tm_merge h
      replace h := h2
      clear h2
      have hI := ints_blk hB9
      (conv => whnf)
      refine ⟨_, h.cell 1 (i := 0) rfl rfl, ?_⟩
      (conv => whnf)
      refine FCalls.mono (get_m (ks := [x, x.tmod 7]) (c := 2) (tm_at h 0 rfl) hI) ?_
      rintro v m8 ⟨rfl, rfl⟩
      (conv => whnf)
      refine ⟨_, h.cell 1 (i := 0) rfl rfl, ?_⟩
      (conv => whnf)
      refine FCalls.mono (len_m (tm_at h 0 rfl)) ?_
      rintro v m9 ⟨rfl, rfl⟩
      (conv => whnf)
      refine ⟨_, h.cell 1 (i := 0) rfl rfl, ?_⟩
      (conv => whnf)
      refine FCalls.mono (h.call 0 rfl fun m1 h1 => drop_m (ks := [x, x.tmod 7]) (c := 2) h1 hI) ?_
      rintro v m10 ⟨m11, ⟨rfl, h1, hpos⟩, h2⟩
      have hL' := hL.drop (ks := [x, x.tmod 7]) (a.n - if (a.f [x, x.tmod 7]).isSome then 1 else 0) (by omega)
      replace h : Sep [tm mk2 p { a with f := updF a.f [x, x.tmod 7] none, n := a.n - if (a.f [x, x.tmod 7]).isSome then 1 else 0 }, pt b6 [.pointer (some ⟨p, 0, none⟩)], pt b4 [.bool false], pt b2 [.slice A' xs.length c']] m10 := h2.one h1
      clear h1 h2
      have hg := get_m (ks := [x, x.tmod 7]) (c := 2) (tm_at h 0 rfl) hI
      simp only [updF, if_true] at hg
      cases hs : a.f [x, x.tmod 7] with
      | none =>
        (conv => whnf)
        refine ⟨_, h.cell 1 (i := 0) rfl rfl, ?_⟩
        (conv => whnf)
        refine FCalls.mono hg ?_
        rintro v m12 ⟨rfl, rfl⟩
        (conv => whnf)
        exact ⟨(i + 1, mk2, _, _), le_eq ⟨by show some (AV.v (.int .i64 (IntKind.i64.wrap ((i : Int) + 1)))) = _; rw [step1], rfl, rfl, rfl, rfl, rfl, trivial⟩ rfl rfl rfl, ⟨by simp only; omega, Mem.le_trans hmk hmk2, hL', h⟩, by simp only; omega⟩
      | some w =>
        have hpos := hpos (by rw [hs]; rfl)
        have hlen2 := len_m (tm_at h 0 rfl)
        simp only [hs, Option.isSome_some, if_true] at hlen2
        (conv => whnf)
        refine ⟨_, h.cell 1 (i := 0) rfl rfl, ?_⟩
        (conv => whnf)
        refine FCalls.mono hlen2 ?_
        rintro v m12 ⟨rfl, rfl⟩
        (conv => whnf)
        rw [wrap_id (x := ((a.n : Nat) : Int) - 1) (by omega) (by omega)]
        refine brk_false (by simp; omega) ?_
        (conv => whnf)
        refine ⟨_, h.cell 1 (i := 0) rfl rfl, ?_⟩
        (conv => whnf)
        refine FCalls.mono hg ?_
        rintro v m13 ⟨rfl, rfl⟩
        (conv => whnf)
        exact ⟨(i + 1, mk2, _, _), le_eq ⟨by show some (AV.v (.int .i64 (IntKind.i64.wrap ((i : Int) + 1)))) = _; rw [step1], rfl, rfl, rfl, rfl, rfl, trivial⟩ rfl rfl rfl, ⟨by simp only; omega, Mem.le_trans hmk hmk2, hL', h⟩, by simp only; omega⟩
    · rcases Decidable.em ((i : Int) < (ds.length : Nat)) with c2 | c2
      case' inl =>
        (conv => whnf)
        refine brk_true (by simp; omega) ?_
        (conv => whnf)
        refine brk_false (by simp; omega) ?_
        (conv => whnf)
      case' inr =>
        (conv => whnf)
        refine brk_false (by simp; omega) ?_
        (conv => whnf)
      all_goals
        clear c1 c2
        intro b22 m7 hb he
        replace h := h.new' (l := [.int .i64 0]) hb he
        clear hb he
        (conv => whnf)
        refine ⟨h.room 0 (i := 0) rfl rfl, fun m8 he => ?_⟩
        replace h := h.put' 0 he rfl
        clear he
        (conv => whnf)
        intro bk m9 hb he
        replace h := h.new' (l := ints [0, 0]) hb he
        clear hb he
        (conv => whnf)
        intro b23 m10 hb he
        replace h := h.new' (l := [.slice none 0 0]) hb he
        clear hb he
        (conv => whnf)
        refine ⟨h.room 0 (i := 0) rfl rfl, fun m11 he => ?_⟩
        replace h := h.put' 0 he rfl
        clear he
        replace h := h.slOf 1 (n := 2) (c := 2) (sz := 1) (vs := ints [0, 0]) rfl rfl (Nat.le_refl _) (Nat.le_refl _) (fun _ _ h => h)
        replace h : Sep [tm mk p a, sl (some ⟨bk, 0, none⟩) 2 2 1 (ints [0, 0]), pt b23 [.slice (some ⟨bk, 0, none⟩) 2 2], pt b22 [.int .i64 ((0 : Nat) : Int)], pt b6 [.pointer (some ⟨p, 0, none⟩)], pt b4 [.bool false], pt b2 [.slice A' xs.length c']] m11 := (h.move 1 rfl).move 3 rfl
        obtain ⟨es, hes⟩ := ents_ex (tm_at h 0 rfl)
        have hel := ents_len (tm_at h 0 rfl) hes
        obtain ⟨t, h⟩ : ∃ t, Sep [fun M => TM' mk M p a t, sl (some ⟨bk, 0, none⟩) 2 2 1 (ints [0, 0]), pt b23 [.slice (some ⟨bk, 0, none⟩) 2 2], pt b22 [.int .i64 ((0 : Nat) : Int)], pt b6 [.pointer (some ⟨p, 0, none⟩)], pt b4 [.bool false], pt b2 [.slice A' xs.length c']] m11 := by
          obtain ⟨m1, m2, k1, k2, k3, ⟨t, hT⟩, k5⟩ := h
          exact ⟨t, m1, m2, k1, k2, k3, hT, k5⟩
        (conv => whnf)
        refine ⟨_, h.cell 4 (i := 0) rfl rfl, ?_⟩
        (conv => whnf)
        refine FCalls.mono all_c ?_
        rintro v m12 ⟨bA, rfl, h2⟩
        replace h := Sep.group (L := [pt bA [.pointer (some ⟨p, 0, none⟩)], fun M => TM' mk M p a t]) (h.on (N := [_]) h2)
        clear h2
        (conv => whnf)
        refine range_iterS (all_iter hes) (fun m m' hI hm s hs => (hI s hs).up hm) h (fun i vs L ⟨k, v, A, c, _, hv, _⟩ => by rw [hv]; rfl)
          (fun j M => ∃ (Al : Option Addr) (cl : Nat) (kl : List Int), (kl = if j = 0 then [0, 0] else (es.getD (j - 1) ([], 0)).1) ∧ Sep [fun M => TM' mk M p a t, sl Al 2 cl 1 (ints kl), pt b23 [.slice Al 2 cl], pt b22 [.int .i64 ((j : Nat) : Int)], pt b6 [.pointer (some ⟨p, 0, none⟩)], pt b4 [.bool false], pt b2 [.slice A' xs.length c']] M)
          (fun M hM => ⟨_, _, _, rfl, (Sep.split hM).drop 0⟩) ?_ ?_ ?_
        · rintro j M ⟨Al, cl, kl, _, h⟩ s hs
          obtain ⟨m1, h1, h2⟩ := h.get 0 rfl
          exact ((h2.tab.keys s hs).1).up h1
        · rintro j vs L m1 M hj ⟨k, v, Ak, ck, hek, rfl, rfl⟩ ⟨Al, cl, kl, hkl, h⟩ h2
          replace h := h.on (N := [_]) h2
          clear h2
          have hfk : a.f k = some v := (hes.2 k v).1 (List.mem_of_getElem? hek)
          obtain ⟨jj, x, rfl, hjj, hxj, rfl⟩ := hL.2.2.2 _ _ hfk
          have hkI := ints_of_sl (h.asn 0 rfl)
          have hlI := ints_of_sl (h.asn 2 rfl)
          have hTM : TM mk M p a := by
            obtain ⟨m1, h1, h3⟩ := h.get 1 rfl
            exact ⟨t, h3.up h1⟩
          have hXM : Ints M A' xs := (hX.up hmk).up (tm_le hTM)
          have hjg : xs.getD ((jj : Nat) : Int).toNat 0 = x := by rw [show ((jj : Nat) : Int).toNat = jj by omega]; simp [List.getD, hxj]
          obtain ⟨q1, hq1, hc1⟩ := hXM.at (i := (jj : Int)) (by omega) (by omega)
          rw [hjg] at hc1
          obtain ⟨q2, hq2, hc2⟩ := hkI.at (i := 0) (by omega) (by simp)
          (conv => whnf)
          refine ⟨_, h.cell 5 (i := 0) rfl rfl, ?_⟩
          (conv => whnf)
          have hg := get_x (c := ck) hTM hkI
          rw [hfk] at hg
          refine FCalls.mono hg ?_
          rintro v m12 ⟨rfl, rfl⟩
          (conv => whnf)
          refine brk_true (by simp) ?_
          (conv => whnf)
          refine ⟨_, _, _, h.cell 7 (i := 0) rfl rfl, ?_⟩
          (conv => whnf)
          refine brk_true (by simp; omega) ?_
          (conv => whnf)
          refine ⟨_, _, _, h.cell 7 (i := 0) rfl rfl, ?_⟩
          (conv => whnf)
          refine ⟨_, hq1, by omega, by omega, ?_⟩
          (conv => whnf)
          refine ⟨_, hc1, ?_⟩
          (conv => whnf)
          refine ⟨_, hq2, by omega, by simp, ?_⟩
          (conv => whnf)
          refine ⟨_, hc2, ?_⟩
          (conv => whnf)
          refine brk_true (by simp) ?_
          (conv => whnf)
          refine ⟨_, h.cell 4 (i := 0) rfl rfl, ?_⟩
          have hel' : es.length ≤ 600 := by have := hL.2.2.1; omega
          have step2 : IntKind.i64.wrap ((j : Int) + 1) = ((j + 1 : Nat) : Int) := wrap_id (by omega) (by omega)
          rcases Nat.eq_zero_or_pos j with c1 | c1
          case' inl =>
            subst c1
            (conv => whnf)
          case' inr =>
            rw [if_neg (by omega)] at hkl
            obtain ⟨e0, he0⟩ : ∃ e0, es[j - 1]? = some e0 := ⟨_, List.getElem?_eq_getElem (by omega)⟩
            have hlt : lexC e0.1 [x, x.tmod 7] < 0 := by
              have := List.pairwise_iff_getElem.1 hes.1 (j - 1) j (by omega) hj (by omega)
              obtain ⟨_, e1⟩ := List.getElem?_eq_some_iff.1 he0
              obtain ⟨_, e2⟩ := List.getElem?_eq_some_iff.1 hek
              rw [e1, e2] at this
              exact this
            obtain ⟨j0, x0, _, _, _, hx0⟩ := hL.2.2.2 e0.1 e0.2 ((hes.2 e0.1 e0.2).1 (List.mem_of_getElem? he0))
            have hkl2 : kl = [x0, x0.tmod 7] := by rw [hkl, ← hx0]; simp [List.getD, he0]
            subst hkl2
            rw [hx0] at hlt
            have hxx : x0 < x := by
              simp only [lexC] at hlt
              rcases cmpI_cases x0 x with ⟨a1, a2⟩ | ⟨a1, a2⟩ | ⟨a1, a2⟩
              · exact a1
              · subst a1
                have a3 : cmpI (x0.tmod 7) (x0.tmod 7) = 0 := by unfold cmpI; simp
                rw [a2, a3] at hlt
                simp at hlt
              · rw [a2] at hlt
                simp at hlt
            obtain ⟨q3, hq3, hc3⟩ := hlI.at (i := 0) (by omega) (by simp)
            (conv => whnf)
            refine brk_true (by simp; omega) ?_
            (conv => whnf)
            refine ⟨_, _, _, h.cell 3 (i := 0) rfl rfl, ?_⟩
            (conv => whnf)
            refine ⟨_, hq3, by omega, by simp, ?_⟩
            (conv => whnf)
            refine ⟨_, hc3, ?_⟩
            (conv => whnf)
            refine ⟨_, hq2, by omega, by simp, ?_⟩
            (conv => whnf)
            refine ⟨_, hc2, ?_⟩
            (conv => whnf)
            refine brk_false (by simp; omega) ?_
            (conv => whnf)
          all_goals
            refine ⟨h.room 3 (i := 0) rfl rfl, fun m13 he => ?_⟩
            replace h := h.put' 3 he rfl
            (conv => whnf)
            refine ⟨_, h.cell 4 (i := 0) rfl rfl, ?_⟩
            (conv => whnf)
            rw [step2]
            refine ⟨h.room 4 (i := 0) rfl rfl, fun m14 he => ?_⟩
            replace h := h.put' 4 he rfl
            (conv => whnf)
            refine ⟨Ak, ck, [x, x.tmod 7], ?_, ?_⟩
            · rw [if_neg (by omega), Nat.add_sub_cancel]
              simp [List.getD, hek]
            · exact (h.drop 2).move 1 rfl |>.move 1 rfl |>.move 1 rfl
        · rintro M ⟨Al, cl, kl, hkl, h⟩
          (conv => whnf)
          refine ⟨_, h.cell 3 (i := 0) rfl rfl, ?_⟩
          (conv => whnf)
          refine ⟨_, h.cell 4 (i := 0) rfl rfl, ?_⟩
          (conv => whnf)
          have hTM : TM mk M p a := by
            obtain ⟨m1, h1, h3⟩ := h.get 0 rfl
            exact ⟨t, h3.up h1⟩
          refine ⟨_, len_m hTM, ?_⟩
          (conv => whnf)
          refine ⟨h.room 5 (i := 0) rfl rfl, fun m13 he => ?_⟩
          replace h := h.put' 5 he rfl
          have e : ((((es.length : Nat) : Int)) == ((a.n : Nat) : Int)) = true := by rw [hel]; exact beq_self_eq_true _
          rw [e]  at h
          (conv => whnf)
          refine ⟨_, h.cell 5 (i := 0) rfl rfl, ?_⟩
          (conv => whnf)
          refine ⟨m, ?_, rfl, rfl⟩
          obtain ⟨m1, h1, h3⟩ := h.get 0 rfl
          exact Mem.le_trans hmk (Mem.le_trans (fun b o hb => h3.keep b o hb (by simp)) h1)
end Go.Proofs.Ytoifiplefjclbaa
