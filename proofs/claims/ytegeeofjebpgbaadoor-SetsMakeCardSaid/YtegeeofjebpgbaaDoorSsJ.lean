/- Sets: the document's Or, And, Less, Not, Fold, With, Without, Has, Range, Of. -/
import Derived.Test.YtegeeofjebpgbaaDoorSsI
namespace Go.Proofs.YtegeeofjebpgbaaDoor
open Go Go.Mv
set_option maxHeartbeats 1000000
set_option maxRecDepth 10000
set_option linter.unusedVariables false
set_option linter.unusedSimpArgs false
attribute [local irreducible] FCalls IntKind.wrap bits Mem.set Mem.setCell Mem.setCells YCalls
def bothF (one other two none : Bool) (f g : Nat → Bool) (b : Nat) : Bool := bif f b then (bif g b then two else one) else (bif g b then other else none)
theorem both_c {m : Mem} {G H : Nat → Nat} {one other two none : Bool} (h : WOk G) (k : WOk H) : FCalls Tryd.prog 46 [wv G, wv H, .bool one, .bool other, .bool two, .bool none] m fun v m' => m' = m ∧ Is v (bothF one other two none (has G) (has H)) := by
  refine fcalls_of_vc (T := tbl) (B := bodies) (pr := [6, 7, 12, 13, 14, 15]) (DR := dr46) (args := [.ints .u64 (W G), .ints .u64 (W H), .v (.bool one), .v (.bool other), .v (.bool two), .v (.bool none)]) tbl_ok bodies_ok mixed Tryd.func46 rfl (by decide +kernel) (by simp [Tryd.f46]) rfl ?_
  (conv => whnf)
  refine ⟨rfl, W_len.symm, ?_⟩
  (conv => whnf)
  refine FCalls.mono (bytes_c h) fun v m' ⟨h2, h3⟩ => ?_
  subst h2 h3
  (conv => whnf)
  refine ⟨_, B2_len, rfl, ?_⟩
  (conv => whnf)
  refine ⟨rfl, B2_len.symm, by rw [B2_len]; simp, ?_⟩
  (conv => whnf)
  refine ⟨rfl, W_len.symm, ?_⟩
  (conv => whnf)
  refine FCalls.mono (bytes_c k) fun v m' ⟨h2, h3⟩ => ?_
  subst h2 h3
  (conv => whnf)
  refine ⟨_, B2_len, rfl, ?_⟩
  (conv => whnf)
  refine ⟨rfl, B2_len.symm, by rw [B2_len]; simp, ?_⟩
  (conv => whnf)
  let F := bothF one other two none (has G) (has H)
  refine loop_keep [2, 3, 4, 5, 12, 13, 14, 15] Nat (fun i => [(16, .v (.int .i64 i))]) (fun i => [.ints .u64 (W G), .ints .u64 (W H), .ints .u64 [0, 0, 0, 0], .bools (B2 (has G)), .bools (B2 (has H)), .bools (UB (fun _ => false) (bothF one other two none (has G) (has H)) i)]) (fun _ => m') (fun i => i ≤ 256) (fun i => 256 - i) 0 ⟨rfl, trivial⟩ ?_ rfl (by omega) ?_
  · exact congrArg (fun x => [LC.ints .u64 (W G), .ints .u64 (W H), .ints .u64 [0, 0, 0, 0], .bools (B2 (has G)), .bools (B2 (has H)), .bools x]) (by rw [UB, upd_zero, List.map_const', List.length_range])
  (conv => whnf)
  refine ⟨rfl, fun i hi => ?_⟩
  (conv => whnf)
  refine brk_intro (fun h1 => ?_) (fun h1 => ?_)
  · have h1 : (i : Int) < 256 := by simpa using h1
    have hi' : i < 256 := by omega
    have eG : (B2 (has G)).getD (0 + ((i : Int)).toNat * (tbl.at 4).size) false = has G i := by rw [ix4, B2_at hi']
    have eH : (B2 (has H)).getD (0 + ((i : Int)).toNat * (tbl.at 4).size) false = has H i := by rw [ix4, B2_at hi']
    have fin : ∀ b, bothF one other two none (has G) (has H) i = b → [LC.ints .u64 (W G), .ints .u64 (W H), .ints .u64 [0, 0, 0, 0], .bools (B2 (has G)), .bools (B2 (has H)), .bools ((UB (fun _ => false) (bothF one other two none (has G) (has H)) i).set (0 + ((i : Int)).toNat * (tbl.at 4).size) b)] = [LC.ints .u64 (W G), .ints .u64 (W H), .ints .u64 [0, 0, 0, 0], .bools (B2 (has G)), .bools (B2 (has H)), .bools (UB (fun _ => false) (bothF one other two none (has G) (has H)) (i + 1))] := by
      intro b hb
      rw [ix4]
      exact congrArg (fun x => [LC.ints .u64 (W G), .ints .u64 (W H), .ints .u64 [0, 0, 0, 0], .bools (B2 (has G)), .bools (B2 (has H)), .bools x]) (upd_set hb.symm)
    (conv => whnf)
    refine ⟨by omega, h1, ?_⟩
    (conv => whnf)
    refine ⟨by rw [ix4, B2_len]; omega, ?_⟩
    (conv => whnf)
    rw [eG]
    cases hg : has G i with
    | true =>
      (conv => whnf)
      refine ⟨by omega, h1, ?_⟩
      (conv => whnf)
      refine ⟨by rw [ix4, B2_len]; omega, ?_⟩
      (conv => whnf)
      rw [eH]
      cases hh : has H i with
      | true =>
        (conv => whnf)
        refine ⟨by omega, h1, ?_⟩
        (conv => whnf)
        refine ⟨by rw [ix4, UB_len]; omega, ?_⟩
        (conv => whnf)
        refine ⟨i + 1, le_eq ⟨by show some (AV.v (.int .i64 (IntKind.i64.wrap ((i : Int) + 1)))) = _; rw [step256 i hi'], rfl, rfl, rfl, rfl, rfl, rfl, rfl, rfl, trivial⟩ rfl (fin _ (by simp [bothF, hg, hh])) rfl, by omega, by omega⟩
      | false =>
        (conv => whnf)
        refine ⟨by omega, h1, ?_⟩
        (conv => whnf)
        refine ⟨by rw [ix4, B2_len]; omega, ?_⟩
        (conv => whnf)
        rw [eG]
        refine brk_true hg ?_
        (conv => whnf)
        refine ⟨by omega, h1, ?_⟩
        (conv => whnf)
        refine ⟨by rw [ix4, UB_len]; omega, ?_⟩
        (conv => whnf)
        refine ⟨i + 1, le_eq ⟨by show some (AV.v (.int .i64 (IntKind.i64.wrap ((i : Int) + 1)))) = _; rw [step256 i hi'], rfl, rfl, rfl, rfl, rfl, rfl, rfl, rfl, trivial⟩ rfl (fin _ (by simp [bothF, hg, hh])) rfl, by omega, by omega⟩
    | false =>
      (conv => whnf)
      refine ⟨by omega, h1, ?_⟩
      (conv => whnf)
      refine ⟨by rw [ix4, B2_len]; omega, ?_⟩
      (conv => whnf)
      rw [eG]
      refine brk_false hg ?_
      (conv => whnf)
      refine ⟨by omega, h1, ?_⟩
      (conv => whnf)
      refine ⟨by rw [ix4, B2_len]; omega, ?_⟩
      (conv => whnf)
      rw [eH]
      refine brk_intro (fun hh => ?_) (fun hh => ?_)
      · (conv => whnf)
        refine ⟨by omega, h1, ?_⟩
        (conv => whnf)
        refine ⟨by rw [ix4, UB_len]; omega, ?_⟩
        (conv => whnf)
        refine ⟨i + 1, le_eq ⟨by show some (AV.v (.int .i64 (IntKind.i64.wrap ((i : Int) + 1)))) = _; rw [step256 i hi'], rfl, rfl, rfl, rfl, rfl, rfl, rfl, rfl, trivial⟩ rfl (fin _ (by simp [bothF, hg, hh])) rfl, by omega, by omega⟩
      · (conv => whnf)
        refine ⟨by omega, h1, ?_⟩
        (conv => whnf)
        refine ⟨by rw [ix4, UB_len]; omega, ?_⟩
        (conv => whnf)
        refine ⟨i + 1, le_eq ⟨by show some (AV.v (.int .i64 (IntKind.i64.wrap ((i : Int) + 1)))) = _; rw [step256 i hi'], rfl, rfl, rfl, rfl, rfl, rfl, rfl, rfl, trivial⟩ rfl (fin _ (by simp [bothF, hg, hh])) rfl, by omega, by omega⟩
  · have h1 : ¬ ((i : Int) < 256) := by simpa using h1
    have h1 : i = 256 := by omega
    subst h1
    (conv => whnf)
    refine ⟨rfl, by rw [UB_len]; rfl, ?_⟩
    (conv => whnf)
    have e1 : UB (fun _ => false) (bothF one other two none (has G) (has H)) 256 = B2 (bothF one other two none (has G) (has H)) := upd_all
    rw [e1]
    refine FCalls.mono laid_c fun v m' ⟨h2, R, hv, hR, hb⟩ => ?_
    subst h2 hv
    (conv => whnf)
    refine ⟨_, W_len, rfl, ?_⟩
    (conv => whnf)
    refine ⟨rfl, W_len.symm, W_len.symm, ?_⟩
    (conv => whnf)
    refine ⟨rfl, W_len.symm, ?_⟩
    (conv => whnf)
    exact ⟨rfl, R, rfl, hR, hb⟩
theorem ror_c {m : Mem} {G H : Nat → Nat} (h : WOk G) (k : WOk H) : FCalls Tryd.prog 20 [wv G, wv H] m fun v m' => m' = m ∧ Is v (bothF true true true false (has G) (has H)) := by
  refine fcalls_of_vc (T := tbl) (B := bodies) (pr := [2, 3, 4]) (DR := dr20) (args := [.ints .u64 (W G), .ints .u64 (W H)]) tbl_ok bodies_ok mixed Tryd.func20 rfl (by decide +kernel) (by simp [Tryd.f20]) rfl ?_
  (conv => whnf)
  refine ⟨rfl, W_len.symm, ?_⟩
  (conv => whnf)
  refine ⟨rfl, W_len.symm, ?_⟩
  (conv => whnf)
  refine FCalls.mono (both_c h k) fun v m' ⟨h2, R, hv, hR, hb⟩ => ?_
  subst h2 hv
  (conv => whnf)
  refine ⟨_, W_len, rfl, ?_⟩
  (conv => whnf)
  refine ⟨rfl, W_len.symm, W_len.symm, ?_⟩
  (conv => whnf)
  refine ⟨rfl, W_len.symm, ?_⟩
  (conv => whnf)
  exact ⟨rfl, R, rfl, hR, hb⟩
theorem rand_c {m : Mem} {G H : Nat → Nat} (h : WOk G) (k : WOk H) : FCalls Tryd.prog 22 [wv G, wv H] m fun v m' => m' = m ∧ Is v (bothF false false true false (has G) (has H)) := by
  refine fcalls_of_vc (T := tbl) (B := bodies) (pr := [2, 3, 4]) (DR := dr22) (args := [.ints .u64 (W G), .ints .u64 (W H)]) tbl_ok bodies_ok mixed Tryd.func22 rfl (by decide +kernel) (by simp [Tryd.f22]) rfl ?_
  (conv => whnf)
  refine ⟨rfl, W_len.symm, ?_⟩
  (conv => whnf)
  refine ⟨rfl, W_len.symm, ?_⟩
  (conv => whnf)
  refine FCalls.mono (both_c h k) fun v m' ⟨h2, R, hv, hR, hb⟩ => ?_
  subst h2 hv
  (conv => whnf)
  refine ⟨_, W_len, rfl, ?_⟩
  (conv => whnf)
  refine ⟨rfl, W_len.symm, W_len.symm, ?_⟩
  (conv => whnf)
  refine ⟨rfl, W_len.symm, ?_⟩
  (conv => whnf)
  exact ⟨rfl, R, rfl, hR, hb⟩
theorem rless_c {m : Mem} {G H : Nat → Nat} (h : WOk G) (k : WOk H) : FCalls Tryd.prog 24 [wv G, wv H] m fun v m' => m' = m ∧ Is v (bothF true false false false (has G) (has H)) := by
  refine fcalls_of_vc (T := tbl) (B := bodies) (pr := [2, 3, 4]) (DR := dr24) (args := [.ints .u64 (W G), .ints .u64 (W H)]) tbl_ok bodies_ok mixed Tryd.func24 rfl (by decide +kernel) (by simp [Tryd.f24]) rfl ?_
  (conv => whnf)
  refine ⟨rfl, W_len.symm, ?_⟩
  (conv => whnf)
  refine ⟨rfl, W_len.symm, ?_⟩
  (conv => whnf)
  refine FCalls.mono (both_c h k) fun v m' ⟨h2, R, hv, hR, hb⟩ => ?_
  subst h2 hv
  (conv => whnf)
  refine ⟨_, W_len, rfl, ?_⟩
  (conv => whnf)
  refine ⟨rfl, W_len.symm, W_len.symm, ?_⟩
  (conv => whnf)
  refine ⟨rfl, W_len.symm, ?_⟩
  (conv => whnf)
  exact ⟨rfl, R, rfl, hR, hb⟩
theorem rnot_c {m : Mem} {G : Nat → Nat} (h : WOk G) : FCalls Tryd.prog 26 [wv G] m fun v m' => m' = m ∧ Is v (bothF false false false true (has G) (has G)) := by
  refine fcalls_of_vc (T := tbl) (B := bodies) (pr := [1, 2]) (DR := dr26) (args := [.ints .u64 (W G)]) tbl_ok bodies_ok mixed Tryd.func26 rfl (by decide +kernel) (by simp [Tryd.f26]) rfl ?_
  (conv => whnf)
  refine ⟨rfl, W_len.symm, ?_⟩
  (conv => whnf)
  refine ⟨rfl, W_len.symm, ?_⟩
  (conv => whnf)
  refine FCalls.mono (both_c h h) fun v m' ⟨h2, R, hv, hR, hb⟩ => ?_
  subst h2 hv
  (conv => whnf)
  refine ⟨_, W_len, rfl, ?_⟩
  (conv => whnf)
  refine ⟨rfl, W_len.symm, W_len.symm, ?_⟩
  (conv => whnf)
  refine ⟨rfl, W_len.symm, ?_⟩
  (conv => whnf)
  exact ⟨rfl, R, rfl, hR, hb⟩
theorem rhas_c {m : Mem} {G : Nat → Nat} {b : Int} (h : WOk G) : FCalls Tryd.prog 32 [wv G, .int .i64 b] m fun v m' => v = .bool (decide (0 ≤ b ∧ b < 256) && has G b.toNat) ∧ m' = m := by
  refine fcalls_of_vc (T := tbl) (B := bodies) (pr := [2]) (DR := dr32) (args := [.ints .u64 (W G), .v (.int .i64 b)]) tbl_ok bodies_ok mixed Tryd.func32 rfl (by decide +kernel) (by simp [Tryd.f32]) rfl ?_
  by_cases c1 : b ≥ 0
  · have e1 := decide_eq_true c1
    by_cases c2 : b < 256
    · have e2 := decide_eq_true c2
      (conv => whnf)
      refine brk_true (by rw [e1]; rfl) ?_
      (conv => whnf)
      refine brk_true (by rw [e2]; rfl) ?_
      (conv => whnf)
      refine ⟨rfl, W_len.symm, ?_⟩
      (conv => whnf)
      refine FCalls.mono (in_c h c1 c2) fun v m' ⟨h2, h3⟩ => ?_
      subst h2 h3
      (conv => whnf)
      refine ⟨?_, rfl⟩
      rw [decide_eq_true (by omega : 0 ≤ b ∧ b < 256)]
      rfl
    · have e2 := decide_eq_false c2
      (conv => whnf)
      refine brk_true (by rw [e1]; rfl) ?_
      (conv => whnf)
      refine brk_false (by rw [e2]; rfl) ?_
      (conv => whnf)
      refine ⟨?_, rfl⟩
      rw [decide_eq_false (by omega : ¬ (0 ≤ b ∧ b < 256))]
      rfl
  · have e1 := decide_eq_false c1
    (conv => whnf)
    refine brk_false (by rw [e1]; rfl) ?_
    (conv => whnf)
    refine ⟨?_, rfl⟩
    rw [decide_eq_false (by omega : ¬ (0 ≤ b ∧ b < 256))]
    rfl
def withF (f : Nat → Bool) (b : Int) (is : Bool) (c : Nat) : Bool := if (c : Int) = b then is else f c
theorem B2_set {f g : Nat → Bool} {j : Nat} {x : Bool} (hx : x = g j) (h : ∀ k, k ≠ j → g k = f k) : (B2 f).set j x = B2 g := by
  subst hx
  apply List.ext_getElem
  · simp
  · intro k h1 h2
    simp only [List.getElem_set, List.getElem_map, List.getElem_range]
    by_cases hk : j = k
    · subst hk; simp
    · rw [if_neg hk, h k (Ne.symm hk)]
theorem rwith_w {m : Mem} {G : Nat → Nat} {b : Int} {is : Bool} (h : WOk G) : FCalls Tryd.prog 52 [wv G, .int .i64 b, .bool is] m fun v m' => m' = m ∧ Is v (withF (has G) b is) := by
  refine fcalls_of_vc (T := tbl) (B := bodies) (pr := [3, 6, 7]) (DR := dr52) (args := [.ints .u64 (W G), .v (.int .i64 b), .v (.bool is)]) tbl_ok bodies_ok mixed Tryd.func52 rfl (by decide +kernel) (by simp [Tryd.f52]) rfl ?_
  have out : ¬ (0 ≤ b ∧ b < 256) → Is (wv G) (withF (has G) b is) := fun hb => ⟨G, rfl, h, fun c hc => by unfold withF; rw [if_neg (by omega)]⟩
  by_cases c1 : b < 0
  · have e1 := decide_eq_true c1
    (conv => whnf)
    refine brk_false (by rw [e1]; rfl) ?_
    (conv => whnf)
    refine ⟨rfl, W_len.symm, ?_⟩
    (conv => whnf)
    refine ⟨rfl, W_len.symm, W_len.symm, ?_⟩
    (conv => whnf)
    refine ⟨rfl, W_len.symm, ?_⟩
    (conv => whnf)
    exact ⟨rfl, out (by omega)⟩
  · have e1 := decide_eq_false c1
    by_cases c2 : b > 255
    · have e2 := decide_eq_true c2
      (conv => whnf)
      refine brk_true (by rw [e1]; rfl) ?_
      (conv => whnf)
      refine brk_true (by rw [e2]; rfl) ?_
      (conv => whnf)
      refine ⟨rfl, W_len.symm, ?_⟩
      (conv => whnf)
      refine ⟨rfl, W_len.symm, W_len.symm, ?_⟩
      (conv => whnf)
      refine ⟨rfl, W_len.symm, ?_⟩
      (conv => whnf)
      exact ⟨rfl, out (by omega)⟩
    · have e2 := decide_eq_false c2
      (conv => whnf)
      refine brk_true (by rw [e1]; rfl) ?_
      (conv => whnf)
      refine brk_false (by rw [e2]; rfl) ?_
      (conv => whnf)
      refine ⟨rfl, W_len.symm, ?_⟩
      (conv => whnf)
      refine FCalls.mono (bytes_c h) fun v m' ⟨h2, h3⟩ => ?_
      subst h2 h3
      (conv => whnf)
      refine ⟨_, B2_len, rfl, ?_⟩
      (conv => whnf)
      refine ⟨rfl, B2_len.symm, by rw [B2_len]; simp, ?_⟩
      (conv => whnf)
      refine ⟨by omega, by show _ < (256 : Int); omega, ?_⟩
      (conv => whnf)
      have eb : 0 + b.toNat * (tbl.at 4).size = b.toNat := by show 0 + b.toNat * 1 = b.toNat; omega
      refine ⟨by rw [eb, B2_len]; omega, ?_⟩
      (conv => whnf)
      have es : (B2 (has G)).set (0 + b.toNat * (tbl.at 4).size) is = B2 (withF (has G) b is) := by
        rw [eb]
        exact B2_set (by unfold withF; rw [if_pos (by omega)]) fun c hc => by unfold withF; rw [if_neg (by omega)]
      rw [es]
      refine ⟨rfl, B2_len.symm, ?_⟩
      (conv => whnf)
      refine FCalls.mono laid_c fun v m' ⟨h2, R, hv, hR, hb⟩ => ?_
      subst h2 hv
      (conv => whnf)
      refine ⟨_, W_len, rfl, ?_⟩
      (conv => whnf)
      refine ⟨rfl, W_len.symm, W_len.symm, ?_⟩
      (conv => whnf)
      refine ⟨rfl, W_len.symm, ?_⟩
      (conv => whnf)
      exact ⟨rfl, R, rfl, hR, hb⟩
theorem rwith_c {m : Mem} {G : Nat → Nat} {b : Int} (h : WOk G) : FCalls Tryd.prog 33 [wv G, .int .i64 b] m fun v m' => m' = m ∧ Is v (withF (has G) b true) := by
  refine fcalls_of_vc (T := tbl) (B := bodies) (pr := [2, 4]) (DR := dr33) (args := [.ints .u64 (W G), .v (.int .i64 b)]) tbl_ok bodies_ok mixed Tryd.func33 rfl (by decide +kernel) (by simp [Tryd.f33]) rfl ?_
  (conv => whnf)
  refine ⟨rfl, W_len.symm, ?_⟩
  (conv => whnf)
  refine FCalls.mono (rwith_w h) fun v m' ⟨h2, R, hv, hR, hb⟩ => ?_
  subst h2 hv
  (conv => whnf)
  refine ⟨_, W_len, rfl, ?_⟩
  (conv => whnf)
  refine ⟨rfl, W_len.symm, W_len.symm, ?_⟩
  (conv => whnf)
  refine ⟨rfl, W_len.symm, ?_⟩
  (conv => whnf)
  exact ⟨rfl, R, rfl, hR, hb⟩
theorem rwithout_c {m : Mem} {G : Nat → Nat} {b : Int} (h : WOk G) : FCalls Tryd.prog 34 [wv G, .int .i64 b] m fun v m' => m' = m ∧ Is v (withF (has G) b false) := by
  refine fcalls_of_vc (T := tbl) (B := bodies) (pr := [2, 4]) (DR := dr34) (args := [.ints .u64 (W G), .v (.int .i64 b)]) tbl_ok bodies_ok mixed Tryd.func34 rfl (by decide +kernel) (by simp [Tryd.f34]) rfl ?_
  (conv => whnf)
  refine ⟨rfl, W_len.symm, ?_⟩
  (conv => whnf)
  refine FCalls.mono (rwith_w h) fun v m' ⟨h2, R, hv, hR, hb⟩ => ?_
  subst h2 hv
  (conv => whnf)
  refine ⟨_, W_len, rfl, ?_⟩
  (conv => whnf)
  refine ⟨rfl, W_len.symm, W_len.symm, ?_⟩
  (conv => whnf)
  refine ⟨rfl, W_len.symm, ?_⟩
  (conv => whnf)
  exact ⟨rfl, R, rfl, hR, hb⟩
end Go.Proofs.YtegeeofjebpgbaaDoor
