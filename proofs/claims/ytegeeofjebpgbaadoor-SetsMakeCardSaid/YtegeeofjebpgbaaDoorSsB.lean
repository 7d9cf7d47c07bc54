/- Sets: words' and, not; below; And, Or, Not, Less. -/
import Derived.Test.YtegeeofjebpgbaaDoorMvTab
import Derived.Test.YtegeeofjebpgbaaDoorSsA
namespace Go.Proofs.YtegeeofjebpgbaaDoor
open Go Go.Mv
set_option maxHeartbeats 400000
set_option maxRecDepth 10000
set_option linter.unusedVariables false
set_option linter.unusedSimpArgs false
attribute [local irreducible] FCalls IntKind.wrap bits Mem.set Mem.setCell Mem.setCells
abbrev U (F G : Nat → Nat) (i : Nat) : List Int := upd (fun k => ((F k : Nat) : Int)) (fun k => ((G k : Nat) : Int)) i 4
theorem U_zero {F G : Nat → Nat} : U F G 0 = W F := upd_zero
theorem U_all {F G : Nat → Nat} : U F G 4 = W G := upd_all
theorem U_len {F G : Nat → Nat} {i : Nat} : (U F G i).length = 4 := upd_len _ _ _ _
theorem U_at {F G : Nat → Nat} {i j : Nat} (h : j < 4) : (U F G i).getD j 0 = if j < i then ((G j : Nat) : Int) else ((F j : Nat) : Int) := upd_at h
theorem U_set {F G : Nat → Nat} {i : Nat} {x : Int} (h : x = ((G i : Nat) : Int)) : (U F G i).set i x = U F G (i + 1) := upd_set h
theorem ix (i : Nat) : 0 + ((i : Int)).toNat * (tbl.at 22).size = i := by
  show 0 + ((i : Int)).toNat * 1 = i
  omega
theorem step1 (i : Nat) (h : i < 4) : IntKind.i64.wrap ((i : Int) + 1) = ((i + 1 : Nat) : Int) := by rw [wrap_id (by omega) (by omega)]; omega
theorem not_w {m : Mem} {G : Nat → Nat} (h : WOk G) : FCalls Tryd.prog 48 [wv G] m fun v m' => v = wv (fun k => flip64 (G k)) ∧ m' = m := by
  refine fcalls_of_vc (T := tbl) (B := bodies) (pr := [1, 2]) (DR := dr48) (args := [.ints .u64 (W G)]) tbl_ok bodies_ok mixed Tryd.func48 rfl (by decide +kernel) (by simp [Tryd.f48]) rfl ?_
  (conv => whnf)
  refine loop_keep [1, 2] Nat (fun i => [(4, .v (.int .i64 i))]) (fun i => [.ints .u64 (U G (fun k => flip64 (G k)) i), .ints .u64 [0, 0, 0, 0]]) (fun _ => m) (fun i => i ≤ 4) (fun i => 4 - i) 0 ⟨rfl, trivial⟩ (congrArg (fun x => [LC.ints .u64 x, .ints .u64 [0, 0, 0, 0]]) U_zero.symm) rfl (by omega) ?_
  (conv => whnf)
  refine ⟨rfl, fun i hi => ?_⟩
  (conv => whnf)
  refine brk_intro (fun h1 => ?_) (fun h1 => ?_)
  · have h1 : (i : Int) < 4 := by simpa using h1
    (conv => whnf)
    refine ⟨by omega, h1, ?_⟩
    (conv => whnf)
    refine ⟨by rw [ix, U_len]; omega, ?_⟩
    (conv => whnf)
    refine ⟨by omega, h1, ?_⟩
    (conv => whnf)
    refine ⟨by rw [ix, U_len]; omega, ?_⟩
    (conv => whnf)
    refine ⟨i + 1, le_eq ⟨by show some (AV.v (.int .i64 (IntKind.i64.wrap ((i : Int) + 1)))) = _; rw [step1 i (by omega)], rfl, rfl, trivial⟩ rfl ?_ rfl, by omega, by omega⟩
    refine congrArg (fun x => [LC.ints .u64 x, .ints .u64 [0, 0, 0, 0]]) ?_
    rw [ix, U_at (by omega), if_neg (Nat.lt_irrefl i), xor_flip (h i (by omega))]
    exact U_set rfl
  · have h1 : ¬ ((i : Int) < 4) := by simpa using h1
    have h1 : i = 4 := by omega
    subst h1
    (conv => whnf)
    refine ⟨rfl, by rw [U_len]; rfl, ?_⟩
    (conv => whnf)
    refine ⟨rfl, by rw [U_len]; rfl, by rw [U_len]; rfl, ?_⟩
    (conv => whnf)
    refine ⟨rfl, by rw [U_len]; rfl, ?_⟩
    (conv => whnf)
    rw [U_all]
    exact ⟨rfl, rfl⟩
theorem and_w {m : Mem} {G H : Nat → Nat} (h : WOk G) (k : WOk H) : FCalls Tryd.prog 47 [wv G, wv H] m fun v m' => v = wv (fun k => G k &&& H k) ∧ m' = m := by
  refine fcalls_of_vc (T := tbl) (B := bodies) (pr := [2, 3, 4]) (DR := dr47) (args := [.ints .u64 (W G), .ints .u64 (W H)]) tbl_ok bodies_ok mixed Tryd.func47 rfl (by decide +kernel) (by simp [Tryd.f47]) rfl ?_
  (conv => whnf)
  refine loop_keep [2, 3, 4] Nat (fun i => [(6, .v (.int .i64 i))]) (fun i => [.ints .u64 (U G (fun k => G k &&& H k) i), .ints .u64 (W H), .ints .u64 [0, 0, 0, 0]]) (fun _ => m) (fun i => i ≤ 4) (fun i => 4 - i) 0 ⟨rfl, trivial⟩ (congrArg (fun x => [LC.ints .u64 x, .ints .u64 (W H), .ints .u64 [0, 0, 0, 0]]) U_zero.symm) rfl (by omega) ?_
  (conv => whnf)
  refine ⟨rfl, fun i hi => ?_⟩
  (conv => whnf)
  refine brk_intro (fun h1 => ?_) (fun h1 => ?_)
  · have h1 : (i : Int) < 4 := by simpa using h1
    (conv => whnf)
    refine ⟨by omega, h1, ?_⟩
    (conv => whnf)
    refine ⟨by rw [ix, U_len]; omega, ?_⟩
    (conv => whnf)
    refine ⟨by omega, h1, ?_⟩
    (conv => whnf)
    refine ⟨by rw [ix, W_len]; omega, ?_⟩
    (conv => whnf)
    refine ⟨by omega, h1, ?_⟩
    (conv => whnf)
    refine ⟨by rw [ix, U_len]; omega, ?_⟩
    (conv => whnf)
    refine ⟨i + 1, le_eq ⟨by show some (AV.v (.int .i64 (IntKind.i64.wrap ((i : Int) + 1)))) = _; rw [step1 i (by omega)], rfl, rfl, rfl, trivial⟩ rfl ?_ rfl, by omega, by omega⟩
    refine congrArg (fun x => [LC.ints .u64 x, .ints .u64 (W H), .ints .u64 [0, 0, 0, 0]]) ?_
    rw [ix, U_at (by omega), if_neg (Nat.lt_irrefl i), W_at (by omega), u64_and_nat _ _ (h i (by omega)) (k i (by omega))]
    exact U_set rfl
  · have h1 : ¬ ((i : Int) < 4) := by simpa using h1
    have h1 : i = 4 := by omega
    subst h1
    (conv => whnf)
    refine ⟨rfl, by rw [U_len]; rfl, ?_⟩
    (conv => whnf)
    refine ⟨rfl, by rw [U_len]; rfl, by rw [U_len]; rfl, ?_⟩
    (conv => whnf)
    refine ⟨rfl, by rw [U_len]; rfl, ?_⟩
    (conv => whnf)
    rw [U_all]
    exact ⟨rfl, rfl⟩
def ones (n : Int) (k : Nat) : Nat := if 64 ≤ n - 64 * k then 18446744073709551615 else if 0 < n - 64 * k then 2 ^ (n - 64 * k).toNat - 1 else 0
theorem below_w {m : Mem} {n : Int} (h0 : 0 ≤ n) (h1 : n ≤ 256) : FCalls Tryd.prog 53 [.int .i64 n] m fun v m' => v = wv (ones n) ∧ m' = m := by
  refine fcalls_of_vc (T := tbl) (B := bodies) (pr := [2, 3]) (DR := dr53) (args := [.v (.int .i64 n)]) tbl_ok bodies_ok mixed Tryd.func53 rfl (by decide +kernel) (by simp [Tryd.f53]) rfl ?_
  (conv => whnf)
  refine loop_keep [0, 2, 3] Nat (fun i => [(6, .v (.int .i64 i))]) (fun i => [.ints .u64 [0, 0, 0, 0], .ints .u64 (U (fun _ => 0) (ones n) i)]) (fun _ => m) (fun i => i ≤ 4) (fun i => 4 - i) 0 ⟨rfl, trivial⟩ rfl rfl (by omega) ?_
  (conv => whnf)
  refine ⟨rfl, fun i hi => ?_⟩
  (conv => whnf)
  refine brk_intro (fun h2 => ?_) (fun h2 => ?_)
  · have h2 : (i : Int) < 4 := by simpa using h2
    have h2' : i < 4 := by omega
    have e1 : IntKind.i64.wrap (64 * (i : Int)) = 64 * (i : Int) := wrap_id (by omega) (by omega)
    have e2 : IntKind.i64.wrap (n - IntKind.i64.wrap (64 * (i : Int))) = n - 64 * (i : Int) := by rw [e1, wrap_id (by omega) (by omega)]
    (conv => whnf)
    refine brk_intro (fun h3 => ?_) (fun h3 => ?_)
    · rw [e2] at h3
      have h3 : 64 ≤ n - 64 * (i : Int) := by simpa using h3
      (conv => whnf)
      refine ⟨by omega, h2, ?_⟩
      (conv => whnf)
      refine ⟨by rw [ix, U_len]; omega, ?_⟩
      (conv => whnf)
      refine ⟨i + 1, le_eq ⟨by show some (AV.v (.int .i64 (IntKind.i64.wrap ((i : Int) + 1)))) = _; rw [step1 i (by omega)], rfl, rfl, rfl, trivial⟩ rfl ?_ rfl, by omega, by omega⟩
      refine congrArg (fun x => [LC.ints .u64 [0, 0, 0, 0], LC.ints .u64 x]) ?_
      rw [ix]
      exact U_set (by unfold ones; rw [if_pos h3]; rfl)
    · rw [e2] at h3
      have h3 : ¬ 64 ≤ n - 64 * (i : Int) := by simpa using h3
      (conv => whnf)
      refine brk_intro (fun h4 => ?_) (fun h4 => ?_)
      · rw [e2] at h4
        have h4 : 0 < n - 64 * (i : Int) := by simpa using h4
        (conv => whnf)
        refine ⟨by rw [e2]; omega, ?_⟩
        (conv => whnf)
        refine ⟨by omega, h2, ?_⟩
        (conv => whnf)
        refine ⟨by rw [ix, U_len]; omega, ?_⟩
        (conv => whnf)
        refine ⟨i + 1, le_eq ⟨by show some (AV.v (.int .i64 (IntKind.i64.wrap ((i : Int) + 1)))) = _; rw [step1 i (by omega)], rfl, rfl, rfl, trivial⟩ rfl ?_ rfl, by omega, by omega⟩
        refine congrArg (fun x => [LC.ints .u64 [0, 0, 0, 0], LC.ints .u64 x]) ?_
        rw [ix, e2]
        refine U_set ?_
        unfold ones
        rw [if_neg h3, if_pos h4]
        rw [one_shl (k := (n - 64 * (i : Int)).toNat) (by omega) (by omega), IntKind.wrap_u64]
        have : 0 < 2 ^ (n - 64 * (i : Int)).toNat := Nat.two_pow_pos _
        have : 2 ^ (n - 64 * (i : Int)).toNat < 2 ^ 64 := Nat.pow_lt_pow_right (by omega) (by omega)
        generalize 2 ^ (n - 64 * (i : Int)).toNat = y at *
        omega
      · rw [e2] at h4
        have h4 : ¬ 0 < n - 64 * (i : Int) := by simpa using h4
        (conv => whnf)
        refine ⟨i + 1, le_eq ⟨by show some (AV.v (.int .i64 (IntKind.i64.wrap ((i : Int) + 1)))) = _; rw [step1 i (by omega)], rfl, rfl, rfl, trivial⟩ rfl ?_ rfl, by omega, by omega⟩
        refine congrArg (fun x => [LC.ints .u64 [0, 0, 0, 0], LC.ints .u64 x]) ?_
        refine upd_skip ?_
        unfold ones
        rw [if_neg h3, if_neg h4]
  · have h2 : ¬ ((i : Int) < 4) := by simpa using h2
    have h2 : i = 4 := by omega
    subst h2
    (conv => whnf)
    refine ⟨rfl, by rw [U_len]; rfl, ?_⟩
    (conv => whnf)
    refine ⟨rfl, by rw [U_len]; rfl, by rw [U_len]; rfl, ?_⟩
    (conv => whnf)
    refine ⟨rfl, by rw [U_len]; rfl, ?_⟩
    (conv => whnf)
    rw [U_all]
    exact ⟨rfl, rfl⟩
theorem ones_lt (n : Int) : WOk (ones n) := by
  intro k hk
  unfold ones
  split
  · omega
  · split
    · have : 2 ^ (n - 64 * (k : Int)).toNat < 2 ^ 64 := Nat.pow_lt_pow_right (by omega) (by omega)
      omega
    · omega
theorem ones_bit {n : Int} {k i : Nat} (hi : i < 64) : (ones n k).testBit i = decide (((64 * k + i : Nat) : Int) < n) := by
  unfold ones
  split
  · rw [show (18446744073709551615 : Nat) = 2 ^ 64 - 1 by decide, Nat.testBit_two_pow_sub_one]
    simp only [hi, decide_true]
    exact (decide_eq_true (by omega)).symm
  · split
    · rw [Nat.testBit_two_pow_sub_one]
      by_cases h : ((64 * k + i : Nat) : Int) < n
      · rw [decide_eq_true h, decide_eq_true (by omega)]
      · rw [decide_eq_false h, decide_eq_false (by omega)]
    · rw [Nat.zero_testBit]
      exact (decide_eq_false (by omega)).symm
/-! ### told by bytes -/
theorem not_c {m : Mem} {G : Nat → Nat} (h : WOk G) : FCalls Tryd.prog 25 [wv G] m fun v m' => v = wv (fun k => flip64 (G k)) ∧ m' = m := by
  refine fcalls_of_vc (T := tbl) (B := bodies) (pr := [1, 2]) (DR := dr25) (args := [.ints .u64 (W G)]) tbl_ok bodies_ok mixed Tryd.func25 rfl (by decide +kernel) (by simp [Tryd.f25]) rfl ?_
  (conv => whnf)
  refine ⟨rfl, W_len.symm, ?_⟩
  (conv => whnf)
  refine FCalls.mono (not_w h) fun v m' ⟨h1, h2⟩ => ?_
  subst h1 h2
  (conv => whnf)
  refine ⟨_, W_len, rfl, ?_⟩
  (conv => whnf)
  refine ⟨rfl, W_len.symm, W_len.symm, ?_⟩
  (conv => whnf)
  refine ⟨rfl, W_len.symm, ?_⟩
  (conv => whnf)
  exact ⟨rfl, rfl⟩
theorem and_c {m : Mem} {G H : Nat → Nat} (h : WOk G) (k : WOk H) : FCalls Tryd.prog 21 [wv G, wv H] m fun v m' => v = wv (fun k => G k &&& H k) ∧ m' = m := by
  refine fcalls_of_vc (T := tbl) (B := bodies) (pr := [2, 3, 4]) (DR := dr21) (args := [.ints .u64 (W G), .ints .u64 (W H)]) tbl_ok bodies_ok mixed Tryd.func21 rfl (by decide +kernel) (by simp [Tryd.f21]) rfl ?_
  (conv => whnf)
  refine ⟨rfl, W_len.symm, ?_⟩
  (conv => whnf)
  refine ⟨rfl, W_len.symm, ?_⟩
  (conv => whnf)
  refine FCalls.mono (and_w h k) fun v m' ⟨h1, h2⟩ => ?_
  subst h1 h2
  (conv => whnf)
  refine ⟨_, W_len, rfl, ?_⟩
  (conv => whnf)
  refine ⟨rfl, W_len.symm, W_len.symm, ?_⟩
  (conv => whnf)
  refine ⟨rfl, W_len.symm, ?_⟩
  (conv => whnf)
  exact ⟨rfl, rfl⟩
def orG (G H : Nat → Nat) (k : Nat) : Nat := flip64 (flip64 (G k) &&& flip64 (H k))
theorem flip_ok {G : Nat → Nat} (h : WOk G) : WOk fun k => flip64 (G k) := fun k hk => flip_lt (h k hk)
theorem and_ok {G H : Nat → Nat} (h : WOk G) : WOk fun k => G k &&& H k := fun k hk => and_lt (h k hk)
theorem or_ok {G H : Nat → Nat} (h : WOk G) : WOk (orG G H) := fun k hk => flip_lt (and_lt (flip_lt (h k hk)))
theorem or_c {m : Mem} {G H : Nat → Nat} (h : WOk G) (k : WOk H) : FCalls Tryd.prog 19 [wv G, wv H] m fun v m' => v = wv (orG G H) ∧ m' = m := by
  refine fcalls_of_vc (T := tbl) (B := bodies) (pr := [2, 3, 4]) (DR := dr19) (args := [.ints .u64 (W G), .ints .u64 (W H)]) tbl_ok bodies_ok mixed Tryd.func19 rfl (by decide +kernel) (by simp [Tryd.f19]) rfl ?_
  (conv => whnf)
  refine ⟨rfl, W_len.symm, ?_⟩
  (conv => whnf)
  refine ⟨_, not_c h, ?_⟩
  (conv => whnf)
  refine ⟨_, W_len, rfl, ?_⟩
  (conv => whnf)
  refine ⟨rfl, W_len.symm, ?_⟩
  (conv => whnf)
  refine ⟨_, not_c k, ?_⟩
  (conv => whnf)
  refine ⟨_, W_len, rfl, ?_⟩
  (conv => whnf)
  refine ⟨_, and_c (flip_ok h) (flip_ok k), ?_⟩
  (conv => whnf)
  refine ⟨_, W_len, rfl, ?_⟩
  (conv => whnf)
  refine ⟨_, not_c (and_ok (flip_ok h)), ?_⟩
  (conv => whnf)
  refine ⟨_, W_len, rfl, ?_⟩
  (conv => whnf)
  refine ⟨rfl, W_len.symm, W_len.symm, ?_⟩
  (conv => whnf)
  refine ⟨rfl, W_len.symm, ?_⟩
  (conv => whnf)
  exact ⟨rfl, rfl⟩
theorem less_c {m : Mem} {G H : Nat → Nat} (h : WOk G) (k : WOk H) : FCalls Tryd.prog 23 [wv G, wv H] m fun v m' => v = wv (fun k => G k &&& flip64 (H k)) ∧ m' = m := by
  refine fcalls_of_vc (T := tbl) (B := bodies) (pr := [2, 3, 4]) (DR := dr23) (args := [.ints .u64 (W G), .ints .u64 (W H)]) tbl_ok bodies_ok mixed Tryd.func23 rfl (by decide +kernel) (by simp [Tryd.f23]) rfl ?_
  (conv => whnf)
  refine ⟨rfl, W_len.symm, ?_⟩
  (conv => whnf)
  refine ⟨rfl, W_len.symm, ?_⟩
  (conv => whnf)
  refine ⟨_, not_w k, ?_⟩
  (conv => whnf)
  refine ⟨_, W_len, rfl, ?_⟩
  (conv => whnf)
  refine ⟨_, and_w h (flip_ok k), ?_⟩
  (conv => whnf)
  refine ⟨_, W_len, rfl, ?_⟩
  (conv => whnf)
  refine ⟨rfl, W_len.symm, W_len.symm, ?_⟩
  (conv => whnf)
  refine ⟨rfl, W_len.symm, ?_⟩
  (conv => whnf)
  exact ⟨rfl, rfl⟩
theorem or_bit {G H : Nat → Nat} (h : WOk G) (k : WOk H) (b : Nat) : has (orG G H) b = (has G b || has H b) := by
  unfold has orG
  have hb : b % 64 < 64 := by omega
  rw [flip_bit hb, Nat.testBit_and, flip_bit hb, flip_bit hb]
  cases (G (b / 64)).testBit (b % 64) <;> cases (H (b / 64)).testBit (b % 64) <;> rfl
theorem and_bit {G H : Nat → Nat} (b : Nat) : has (fun k => G k &&& H k) b = (has G b && has H b) := Nat.testBit_and _ _ _
theorem not_bit {G : Nat → Nat} (b : Nat) : has (fun k => flip64 (G k)) b = !has G b := flip_bit (by omega)
/-- Range. -/
theorem range_c {m : Mem} {lo hi : Int} : FCalls Tryd.prog 36 [.int .i64 lo, .int .i64 hi] m fun v m' => m' = m ∧ ∃ G, WOk G ∧
    ((lo < 0 ∨ lo > hi ∨ hi > 255) ∧ v = .tuple #[wv G, .int .i64 1] ∧ (∀ b, b < 256 → has G b = false) ∨
     ¬ (lo < 0 ∨ lo > hi ∨ hi > 255) ∧ v = .tuple #[wv G, .int .i64 0] ∧ ∀ b, b < 256 → has G b = decide (lo ≤ (b : Nat) ∧ (b : Nat) ≤ hi)) := by
  refine fcalls_of_vc (T := tbl) (B := bodies) (pr := [4]) (DR := dr36) (args := [.v (.int .i64 lo), .v (.int .i64 hi)]) tbl_ok bodies_ok mixed Tryd.func36 rfl (by decide +kernel) (by simp [Tryd.f36]) rfl ?_
  by_cases c1 : lo < 0
  · have e1 := decide_eq_true c1
    (conv => whnf)
    refine brk_false (by rw [e1]; rfl) ?_
    (conv => whnf)
    refine ⟨rfl, rfl, rfl, ?_⟩
    (conv => whnf)
    refine ⟨rfl, rfl, ?_⟩
    (conv => whnf)
    exact ⟨rfl, fun _ => 0, fun k hk => Nat.two_pow_pos 64, .inl ⟨by omega, rfl, fun b hb => Nat.zero_testBit _⟩⟩
  have e1 := decide_eq_false c1
  by_cases c2 : lo > hi
  · have e2 := decide_eq_true c2
    (conv => whnf)
    refine brk_true (by rw [e1]; rfl) ?_
    (conv => whnf)
    refine brk_false (by rw [e2]; rfl) ?_
    (conv => whnf)
    refine ⟨rfl, rfl, rfl, ?_⟩
    (conv => whnf)
    refine ⟨rfl, rfl, ?_⟩
    (conv => whnf)
    exact ⟨rfl, fun _ => 0, fun k hk => Nat.two_pow_pos 64, .inl ⟨by omega, rfl, fun b hb => Nat.zero_testBit _⟩⟩
  have e2 := decide_eq_false c2
  by_cases c3 : hi > 255
  · have e3 := decide_eq_true c3
    (conv => whnf)
    refine brk_true (by rw [e1]; rfl) ?_
    (conv => whnf)
    refine brk_true (by rw [e2]; rfl) ?_
    (conv => whnf)
    refine brk_true (by rw [e3]; rfl) ?_
    (conv => whnf)
    refine ⟨rfl, rfl, rfl, ?_⟩
    (conv => whnf)
    refine ⟨rfl, rfl, ?_⟩
    (conv => whnf)
    exact ⟨rfl, fun _ => 0, fun k hk => Nat.two_pow_pos 64, .inl ⟨by omega, rfl, fun b hb => Nat.zero_testBit _⟩⟩
  have e3 := decide_eq_false c3
  (conv => whnf)
  refine brk_true (by rw [e1]; rfl) ?_
  (conv => whnf)
  refine brk_true (by rw [e2]; rfl) ?_
  (conv => whnf)
  refine brk_false (by rw [e3]; rfl) ?_
  (conv => whnf)
  have e4 : IntKind.i64.wrap (hi + 1) = hi + 1 := wrap_id (by omega) (by omega)
  rw [e4]
  refine FCalls.mono (below_w (n := hi + 1) (by omega) (by omega)) fun v m' ⟨h1, h2⟩ => ?_
  subst h1 h2
  (conv => whnf)
  refine ⟨_, W_len, rfl, ?_⟩
  (conv => whnf)
  refine FCalls.mono (below_w (n := lo) (by omega) (by omega)) fun v m' ⟨h1, h2⟩ => ?_
  subst h1 h2
  (conv => whnf)
  refine ⟨_, W_len, rfl, ?_⟩
  (conv => whnf)
  refine FCalls.mono (not_w (ones_lt lo)) fun v m' ⟨h1, h2⟩ => ?_
  subst h1 h2
  (conv => whnf)
  refine ⟨_, W_len, rfl, ?_⟩
  (conv => whnf)
  refine FCalls.mono (and_w (ones_lt (hi + 1)) (flip_ok (ones_lt lo))) fun v m' ⟨h1, h2⟩ => ?_
  subst h1 h2
  (conv => whnf)
  refine ⟨_, W_len, rfl, ?_⟩
  (conv => whnf)
  refine ⟨rfl, W_len.symm, W_len.symm, ?_⟩
  (conv => whnf)
  refine ⟨rfl, W_len.symm, ?_⟩
  (conv => whnf)
  refine ⟨rfl, _, and_ok (ones_lt (hi + 1)), .inr ⟨by omega, rfl, fun b hb => ?_⟩⟩
  rw [and_bit, not_bit]
  unfold has
  rw [ones_bit (by omega), ones_bit (by omega), show 64 * (b / 64) + b % 64 = b by omega]
  by_cases h1 : (b : Int) < hi + 1 <;> by_cases h2 : (b : Int) < lo <;> simp [h1, h2] <;> omega
end Go.Proofs.YtegeeofjebpgbaaDoor
