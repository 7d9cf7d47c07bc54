/- Sets: Has, With, Without, Fold, Of. -/
import Derived.Test.YtegeeofjebpgbaaDoorSsB
namespace Go.Proofs.YtegeeofjebpgbaaDoor
open Go Go.Mv
set_option maxHeartbeats 400000
set_option maxRecDepth 10000
set_option linter.unusedVariables false
set_option linter.unusedSimpArgs false
attribute [local irreducible] FCalls IntKind.wrap bits Mem.set Mem.setCell Mem.setCells
/-- Is a number a byte? -/
theorem has_c {m : Mem} {G : Nat → Nat} {b : Int} (h : WOk G) : FCalls Tryd.prog 13 [wv G, .int .i64 b] m fun v m' => v = .bool (decide (0 ≤ b ∧ b < 256) && has G b.toNat) ∧ m' = m := by
  refine fcalls_of_vc (T := tbl) (B := bodies) (pr := [2]) (DR := dr13) (args := [.ints .u64 (W G), .v (.int .i64 b)]) tbl_ok bodies_ok mixed Tryd.func13 rfl (by decide +kernel) (by simp [Tryd.f13]) rfl ?_
  by_cases c1 : b ≥ 0
  · have e1 := decide_eq_true c1
    by_cases c2 : b < 256
    · have e2 := decide_eq_true c2
      have q := quo64 c1 (by omega)
      have r := rem64 (b := b) c1
      (conv => whnf)
      refine brk_true (by rw [e1]; rfl) ?_
      (conv => whnf)
      refine brk_true (by rw [e2]; rfl) ?_
      (conv => whnf)
      refine ⟨by decide, ?_⟩
      (conv => whnf)
      refine ⟨by rw [q]; omega, by rw [q]; show _ < (4 : Int); omega, ?_⟩
      (conv => whnf)
      refine ⟨by rw [q, ix, W_len]; omega, ?_⟩
      (conv => whnf)
      refine ⟨by decide, ?_⟩
      (conv => whnf)
      refine ⟨by rw [r]; omega, ?_⟩
      (conv => whnf)
      refine ⟨?_, rfl⟩
      rw [q, r, ix, W_at (by omega), shr_nat rfl (by omega)]
      have := u64_and_nat (G (b.toNat / 64) / 2 ^ (b.toNat % 64)) 1 (by have := h (b.toNat / 64) (by omega); exact Nat.lt_of_le_of_lt (Nat.div_le_self _ _) this) (by decide)
      rw [show ((1 : Nat) : Int) = 1 from rfl] at this
      rw [this]
      show Value.bool ((((G (b.toNat / 64) / 2 ^ (b.toNat % 64)) &&& 1 : Nat) : Int) != 0) = _
      rw [bit_test, decide_eq_true (by omega : 0 ≤ b ∧ b < 256)]
      rfl
    · have e2 := decide_eq_false c2
      (conv => whnf)
      refine brk_true (by rw [e1]; rfl) ?_
      (conv => whnf)
      refine brk_false (by rw [e2]; rfl) ?_
      (conv => whnf)
      refine ⟨?_, rfl⟩
      rw [decide_eq_false (by omega : ¬ (0 ≤ b ∧ b < 256))]
      rfl
  · have e1 := decide_eq_false c1
    (conv => whnf)
    refine brk_false (by rw [e1]; rfl) ?_
    (conv => whnf)
    refine ⟨?_, rfl⟩
    rw [decide_eq_false (by omega : ¬ (0 ≤ b ∧ b < 256))]
    rfl
def with' (G : Nat → Nat) (b : Nat) (k : Nat) : Nat := if k = b / 64 then G k ||| 2 ^ (b % 64) else G k
def without' (G : Nat → Nat) (b : Nat) (k : Nat) : Nat := if k = b / 64 then G k &&& flip64 (2 ^ (b % 64)) else G k
theorem pow64 {k : Nat} (h : k < 64) : 2 ^ k < 18446744073709551616 := Nat.pow_lt_pow_right (m := k) (n := 64) (by omega) h
theorem with_ok {G : Nat → Nat} {b : Nat} (h : WOk G) : WOk (with' G b) := by
  intro k hk
  unfold with'
  split
  · exact or_lt (h k hk) (pow64 (by omega))
  · exact h k hk
theorem without_ok {G : Nat → Nat} {b : Nat} (h : WOk G) : WOk (without' G b) := by
  intro k hk
  unfold without'
  split
  · exact and_lt (h k hk)
  · exact h k hk
theorem with_bit {G : Nat → Nat} {b c : Nat} : has (with' G b) c = (has G c || decide (b = c)) := by
  unfold has with'
  split
  · rw [Nat.testBit_or, Nat.testBit_two_pow]
    congr 1
    exact decide_eq_decide.2 ⟨fun h => by omega, fun h => by omega⟩
  · rw [decide_eq_false (by rintro rfl; contradiction), Bool.or_false]
theorem without_bit {G : Nat → Nat} {b c : Nat} : has (without' G b) c = (has G c && !decide (b = c)) := by
  unfold has without'
  split
  · rw [Nat.testBit_and, flip_bit (by omega), Nat.testBit_two_pow]
    congr 2
    exact decide_eq_decide.2 ⟨fun h => by omega, fun h => by omega⟩
  · rw [decide_eq_false (by rintro rfl; contradiction), Bool.not_false, Bool.and_true]
theorem W_set {G H : Nat → Nat} {j : Nat} {x : Int} (hj : j < 4) (hx : x = ((H j : Nat) : Int)) (h : ∀ k, k ≠ j → H k = G k) : (W G).set j x = W H := by
  subst hx
  apply List.ext_getElem
  · simp
  · intro k h1 h2
    simp only [List.getElem_set, List.getElem_map, List.getElem_range]
    by_cases hk : j = k
    · subst hk; simp
    · rw [if_neg hk, h k (Ne.symm hk)]
theorem with_c {m : Mem} {G : Nat → Nat} {b : Int} (h : WOk G) : FCalls Tryd.prog 29 [wv G, .int .i64 b] m fun v m' => v = wv (if 0 ≤ b ∧ b < 256 then with' G b.toNat else G) ∧ m' = m := by
  refine fcalls_of_vc (T := tbl) (B := bodies) (pr := [2, 4]) (DR := dr29) (args := [.ints .u64 (W G), .v (.int .i64 b)]) tbl_ok bodies_ok mixed Tryd.func29 rfl (by decide +kernel) (by simp [Tryd.f29]) rfl ?_
  by_cases c : 0 ≤ b ∧ b < 256
  · obtain ⟨c1, c2⟩ := c
    have e1 : decide (b ≥ 0) = true := decide_eq_true c1
    have e2 := decide_eq_true c2
    have q := quo64 c1 (by omega)
    have r := rem64 (b := b) c1
    (conv => whnf)
    refine brk_true (by rw [e1]; rfl) ?_
    (conv => whnf)
    refine brk_true (by rw [e2]; rfl) ?_
    (conv => whnf)
    refine ⟨by decide, ?_⟩
    (conv => whnf)
    refine ⟨by rw [q]; omega, by rw [q]; show _ < (4 : Int); omega, ?_⟩
    (conv => whnf)
    refine ⟨by rw [q, ix, W_len]; omega, ?_⟩
    (conv => whnf)
    refine ⟨by decide, ?_⟩
    (conv => whnf)
    refine ⟨by rw [r]; omega, ?_⟩
    (conv => whnf)
    refine ⟨by rw [q]; omega, by rw [q]; show _ < (4 : Int); omega, ?_⟩
    (conv => whnf)
    refine ⟨by rw [q, ix, W_len]; omega, ?_⟩
    (conv => whnf)
    refine ⟨rfl, by rw [List.length_set, W_len]; rfl, ?_⟩
    (conv => whnf)
    refine ⟨rfl, by rw [List.length_set, W_len]; rfl, by rw [List.length_set, W_len]; rfl, ?_⟩
    (conv => whnf)
    refine ⟨rfl, by rw [List.length_set, W_len]; rfl, ?_⟩
    (conv => whnf)
    refine ⟨?_, rfl⟩
    rw [if_pos ⟨c1, c2⟩, q, r, ix, W_at (by omega), one_shl rfl (by omega), u64_or_nat _ _ (h _ (by omega)) (pow64 (by omega))]
    rw [W_set (H := with' G b.toNat) (by omega) (by unfold with'; rw [if_pos rfl]) (fun k hk => by unfold with'; rw [if_neg hk])]
    rfl
  · by_cases c1 : b ≥ 0
    · have e1 := decide_eq_true c1
      have e2 : decide (b < 256) = false := decide_eq_false (by omega)
      (conv => whnf)
      refine brk_true (by rw [e1]; rfl) ?_
      (conv => whnf)
      refine brk_false (by rw [e2]; rfl) ?_
      (conv => whnf)
      refine ⟨rfl, W_len.symm, ?_⟩
      (conv => whnf)
      refine ⟨rfl, W_len.symm, W_len.symm, ?_⟩
      (conv => whnf)
      refine ⟨rfl, W_len.symm, ?_⟩
      (conv => whnf)
      exact ⟨by rw [if_neg c]; rfl, rfl⟩
    · have e1 := decide_eq_false c1
      (conv => whnf)
      refine brk_false (by rw [e1]; rfl) ?_
      (conv => whnf)
      refine ⟨rfl, W_len.symm, ?_⟩
      (conv => whnf)
      refine ⟨rfl, W_len.symm, W_len.symm, ?_⟩
      (conv => whnf)
      refine ⟨rfl, W_len.symm, ?_⟩
      (conv => whnf)
      exact ⟨by rw [if_neg c]; rfl, rfl⟩
theorem without_c {m : Mem} {G : Nat → Nat} {b : Int} (h : WOk G) : FCalls Tryd.prog 30 [wv G, .int .i64 b] m fun v m' => v = wv (if 0 ≤ b ∧ b < 256 then without' G b.toNat else G) ∧ m' = m := by
  refine fcalls_of_vc (T := tbl) (B := bodies) (pr := [2, 4]) (DR := dr30) (args := [.ints .u64 (W G), .v (.int .i64 b)]) tbl_ok bodies_ok mixed Tryd.func30 rfl (by decide +kernel) (by simp [Tryd.f30]) rfl ?_
  by_cases c : 0 ≤ b ∧ b < 256
  · obtain ⟨c1, c2⟩ := c
    have e1 : decide (b ≥ 0) = true := decide_eq_true c1
    have e2 := decide_eq_true c2
    have q := quo64 c1 (by omega)
    have r := rem64 (b := b) c1
    (conv => whnf)
    refine brk_true (by rw [e1]; rfl) ?_
    (conv => whnf)
    refine brk_true (by rw [e2]; rfl) ?_
    (conv => whnf)
    refine ⟨by decide, ?_⟩
    (conv => whnf)
    refine ⟨by rw [q]; omega, by rw [q]; show _ < (4 : Int); omega, ?_⟩
    (conv => whnf)
    refine ⟨by rw [q, ix, W_len]; omega, ?_⟩
    (conv => whnf)
    refine ⟨by decide, ?_⟩
    (conv => whnf)
    refine ⟨by rw [r]; omega, ?_⟩
    (conv => whnf)
    refine ⟨by rw [q]; omega, by rw [q]; show _ < (4 : Int); omega, ?_⟩
    (conv => whnf)
    refine ⟨by rw [q, ix, W_len]; omega, ?_⟩
    (conv => whnf)
    refine ⟨rfl, by rw [List.length_set, W_len]; rfl, ?_⟩
    (conv => whnf)
    refine ⟨rfl, by rw [List.length_set, W_len]; rfl, by rw [List.length_set, W_len]; rfl, ?_⟩
    (conv => whnf)
    refine ⟨rfl, by rw [List.length_set, W_len]; rfl, ?_⟩
    (conv => whnf)
    refine ⟨?_, rfl⟩
    rw [if_pos ⟨c1, c2⟩, q, r, ix, W_at (by omega), one_shl rfl (by omega), u64_andNot_nat _ _ (h _ (by omega)) (pow64 (by omega)), ← flip_eq (pow64 (by omega))]
    rw [W_set (H := without' G b.toNat) (by omega) (by unfold without'; rw [if_pos rfl]) (fun k hk => by unfold without'; rw [if_neg hk])]
    rfl
  · by_cases c1 : b ≥ 0
    · have e1 := decide_eq_true c1
      have e2 : decide (b < 256) = false := decide_eq_false (by omega)
      (conv => whnf)
      refine brk_true (by rw [e1]; rfl) ?_
      (conv => whnf)
      refine brk_false (by rw [e2]; rfl) ?_
      (conv => whnf)
      refine ⟨rfl, W_len.symm, ?_⟩
      (conv => whnf)
      refine ⟨rfl, W_len.symm, W_len.symm, ?_⟩
      (conv => whnf)
      refine ⟨rfl, W_len.symm, ?_⟩
      (conv => whnf)
      exact ⟨by rw [if_neg c]; rfl, rfl⟩
    · have e1 := decide_eq_false c1
      (conv => whnf)
      refine brk_false (by rw [e1]; rfl) ?_
      (conv => whnf)
      refine ⟨rfl, W_len.symm, ?_⟩
      (conv => whnf)
      refine ⟨rfl, W_len.symm, W_len.symm, ?_⟩
      (conv => whnf)
      refine ⟨rfl, W_len.symm, ?_⟩
      (conv => whnf)
      exact ⟨by rw [if_neg c]; rfl, rfl⟩
end Go.Proofs.YtegeeofjebpgbaaDoor
