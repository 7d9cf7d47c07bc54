/- SetsEach, SetsBytes: told of the program. -/
import Derived.Test.YtegeeofjebpgbaaDoorSsMix
namespace Go.Proofs.YtegeeofjebpgbaaDoor
open Go Go.Mv
set_option maxHeartbeats 1000000
set_option maxRecDepth 10000
set_option linter.unusedVariables false
set_option linter.unusedSimpArgs false
attribute [local irreducible] FCalls IntKind.wrap bits Mem.set Mem.setCell Mem.setCells YCalls
theorem withI_ok {G : Nat → Nat} {b : Int} (h : WOk G) : WOk (if 0 ≤ b ∧ b < 256 then with' G b.toNat else G) := by
  split
  · exact with_ok h
  · exact h
theorem withoutI_ok {G : Nat → Nat} {b : Int} (h : WOk G) : WOk (if 0 ≤ b ∧ b < 256 then without' G b.toNat else G) := by
  split
  · exact without_ok h
  · exact h
theorem withI_has {G : Nat → Nat} {b c : Int} : (decide (0 ≤ c ∧ c < 256) && has (if 0 ≤ b ∧ b < 256 then with' G b.toNat else G) c.toNat) = (decide (0 ≤ c ∧ c < 256) && (has G c.toNat || decide (b = c))) := by
  by_cases hc : 0 ≤ c ∧ c < 256
  · congr 1
    by_cases hb : 0 ≤ b ∧ b < 256
    · rw [if_pos hb, with_bit]
      congr 1
      exact decide_eq_decide.2 (by omega)
    · rw [if_neg hb, decide_eq_false (p := b = c) (by omega), Bool.or_false]
  · rw [decide_eq_false hc, Bool.false_and, Bool.false_and]
theorem withoutI_has {G : Nat → Nat} {b c : Int} : (decide (0 ≤ c ∧ c < 256) && has (if 0 ≤ b ∧ b < 256 then without' G b.toNat else G) c.toNat) = (decide (0 ≤ c ∧ c < 256) && (has G c.toNat && !decide (b = c))) := by
  by_cases hc : 0 ≤ c ∧ c < 256
  · congr 1
    by_cases hb : 0 ≤ b ∧ b < 256
    · rw [if_pos hb, without_bit]
      congr 2
      exact decide_eq_decide.2 (by omega)
    · rw [if_neg hb, decide_eq_false (p := b = c) (by omega), Bool.not_false, Bool.and_true]
  · rw [decide_eq_false hc, Bool.false_and, Bool.false_and]
theorem each_c {m : Mem} {G : Nat → Nat} {b c : Int} (hT : Tz m) (h : WOk G) : FCalls Tryd.prog 6 [wv G, .int .i64 b, .int .i64 c] m fun v m' => v = .bool true ∧ m' = m := by
  refine fcalls_of_vc (T := tbl) (B := bodies) (pr := [3, 8, 9]) (DR := dr6) (args := [.ints .u64 (W G), .v (.int .i64 b), .v (.int .i64 c)]) tbl_ok bodies_ok mixed Tryd.func6 rfl (by decide +kernel) (by simp [Tryd.f6]) rfl ?_
  have hX := withI_ok (b := b) h
  have hY := withoutI_ok (b := b) h
  have hXh := fun c : Int => withI_has (G := G) (b := b) (c := c)
  have hYh := fun c : Int => withoutI_has (G := G) (b := b) (c := c)
  (conv => whnf)
  refine FCalls.mono (examples_c hT) fun v m' ⟨h1, h2⟩ => ?_
  subst h1 h2
  (conv => whnf)
  refine ⟨rfl, W_len.symm, ?_⟩
  (conv => whnf)
  refine FCalls.mono (with_c h) fun v m' ⟨h1, h2⟩ => ?_
  subst h1 h2
  generalize (if 0 ≤ b ∧ b < 256 then with' G b.toNat else G) = X at *
  (conv => whnf)
  refine ⟨_, W_len, rfl, ?_⟩
  (conv => whnf)
  refine ⟨rfl, W_len.symm, W_len.symm, ?_⟩
  (conv => whnf)
  refine ⟨rfl, W_len.symm, ?_⟩
  (conv => whnf)
  refine FCalls.mono (without_c h) fun v m' ⟨h1, h2⟩ => ?_
  subst h1 h2
  generalize (if 0 ≤ b ∧ b < 256 then without' G b.toNat else G) = Y at *
  (conv => whnf)
  refine ⟨_, W_len, rfl, ?_⟩
  (conv => whnf)
  refine ⟨rfl, W_len.symm, W_len.symm, ?_⟩
  (conv => whnf)
  by_cases c1 : b ≥ 0
  · have e1 := decide_eq_true c1
    by_cases c2 : b < 256
    · have e2 := decide_eq_true c2
      refine brk_true (by rw [e1]; rfl) ?_
      (conv => whnf)
      refine brk_intro (fun k1 => ?_) (fun k1 => ?_)
      · have k1 : c = b := by simpa using k1
        (conv => whnf)
        refine ⟨rfl, W_len.symm, ?_⟩
        (conv => whnf)
        refine FCalls.mono (has_c hX) fun v m' ⟨h1, h2⟩ => ?_
        rw [hXh b, decide_eq_true (rfl : b = b), Bool.or_true, Bool.and_true, decide_eq_true (show 0 ≤ b ∧ b < 256 from ⟨c1, c2⟩)] at h1
        subst h1 h2
        (conv => whnf)
        refine brk_true (by rw [e2]; rfl) ?_
        (conv => whnf)
        refine ⟨rfl, W_len.symm, ?_⟩
        (conv => whnf)
        refine FCalls.mono (has_c hY) fun v m' ⟨h1, h2⟩ => ?_
        rw [hYh b, decide_eq_true (rfl : b = b), Bool.not_true, Bool.and_false, Bool.and_false] at h1
        subst h1 h2
        (conv => whnf)
        exact ⟨rfl, rfl⟩
      · have k1 : ¬ c = b := by simpa using k1
        have n1 : decide (b = c) = false := decide_eq_false (fun h => k1 h.symm)
        have eX := (has_c (m := m') hX (b := c))
        rw [hXh c, n1, Bool.or_false] at eX
        have eY := (has_c (m := m') hY (b := c))
        rw [hYh c, n1, Bool.not_false, Bool.and_true] at eY
        (conv => whnf)
        refine ⟨rfl, W_len.symm, ?_⟩
        (conv => whnf)
        refine ⟨_, eX, ?_⟩
        (conv => whnf)
        refine ⟨rfl, W_len.symm, ?_⟩
        (conv => whnf)
        refine ⟨_, has_c h, ?_⟩
        (conv => whnf)
        have e0 : ∀ x : Bool, (x == x) = true := fun x => beq_self_eq_true x
        refine brk_true (by rw [e0]; rfl) ?_
        (conv => whnf)
        refine ⟨rfl, W_len.symm, ?_⟩
        (conv => whnf)
        refine ⟨_, eY, ?_⟩
        (conv => whnf)
        refine ⟨rfl, W_len.symm, ?_⟩
        (conv => whnf)
        refine ⟨_, has_c h, ?_⟩
        (conv => whnf)
        exact ⟨congrArg Value.bool (e0 _), rfl⟩
    · have e2 := decide_eq_false c2
      refine brk_true (by rw [e1]; rfl) ?_
      (conv => whnf)
      refine brk_intro (fun k1 => ?_) (fun k1 => ?_)
      · have k1 : c = b := by simpa using k1
        (conv => whnf)
        refine ⟨rfl, W_len.symm, ?_⟩
        (conv => whnf)
        refine FCalls.mono (has_c hX) fun v m' ⟨h1, h2⟩ => ?_
        rw [hXh b, decide_eq_true (rfl : b = b), Bool.or_true, Bool.and_true, decide_eq_false (show ¬ (0 ≤ b ∧ b < 256) by omega)] at h1
        subst h1 h2
        (conv => whnf)
        refine brk_true (by rw [e2]; rfl) ?_
        (conv => whnf)
        refine ⟨rfl, W_len.symm, ?_⟩
        (conv => whnf)
        refine FCalls.mono (has_c hY) fun v m' ⟨h1, h2⟩ => ?_
        rw [hYh b, decide_eq_true (rfl : b = b), Bool.not_true, Bool.and_false, Bool.and_false] at h1
        subst h1 h2
        (conv => whnf)
        exact ⟨rfl, rfl⟩
      · have k1 : ¬ c = b := by simpa using k1
        have n1 : decide (b = c) = false := decide_eq_false (fun h => k1 h.symm)
        have eX := (has_c (m := m') hX (b := c))
        rw [hXh c, n1, Bool.or_false] at eX
        have eY := (has_c (m := m') hY (b := c))
        rw [hYh c, n1, Bool.not_false, Bool.and_true] at eY
        (conv => whnf)
        refine ⟨rfl, W_len.symm, ?_⟩
        (conv => whnf)
        refine ⟨_, eX, ?_⟩
        (conv => whnf)
        refine ⟨rfl, W_len.symm, ?_⟩
        (conv => whnf)
        refine ⟨_, has_c h, ?_⟩
        (conv => whnf)
        have e0 : ∀ x : Bool, (x == x) = true := fun x => beq_self_eq_true x
        refine brk_true (by rw [e0]; rfl) ?_
        (conv => whnf)
        refine ⟨rfl, W_len.symm, ?_⟩
        (conv => whnf)
        refine ⟨_, eY, ?_⟩
        (conv => whnf)
        refine ⟨rfl, W_len.symm, ?_⟩
        (conv => whnf)
        refine ⟨_, has_c h, ?_⟩
        (conv => whnf)
        exact ⟨congrArg Value.bool (e0 _), rfl⟩
  · have e1 := decide_eq_false c1
    refine brk_false (by rw [e1]; rfl) ?_
    (conv => whnf)
    refine brk_intro (fun k1 => ?_) (fun k1 => ?_)
    · have k1 : c = b := by simpa using k1
      (conv => whnf)
      refine ⟨rfl, W_len.symm, ?_⟩
      (conv => whnf)
      refine FCalls.mono (has_c hX) fun v m' ⟨h1, h2⟩ => ?_
      rw [hXh b, decide_eq_true (rfl : b = b), Bool.or_true, Bool.and_true, decide_eq_false (show ¬ (0 ≤ b ∧ b < 256) by omega)] at h1
      subst h1 h2
      (conv => whnf)
      refine ⟨rfl, W_len.symm, ?_⟩
      (conv => whnf)
      refine FCalls.mono (has_c hY) fun v m' ⟨h1, h2⟩ => ?_
      rw [hYh b, decide_eq_true (rfl : b = b), Bool.not_true, Bool.and_false, Bool.and_false] at h1
      subst h1 h2
      (conv => whnf)
      exact ⟨rfl, rfl⟩
    · have k1 : ¬ c = b := by simpa using k1
      have n1 : decide (b = c) = false := decide_eq_false (fun h => k1 h.symm)
      have eX := (has_c (m := m') hX (b := c))
      rw [hXh c, n1, Bool.or_false] at eX
      have eY := (has_c (m := m') hY (b := c))
      rw [hYh c, n1, Bool.not_false, Bool.and_true] at eY
      (conv => whnf)
      refine ⟨rfl, W_len.symm, ?_⟩
      (conv => whnf)
      refine ⟨_, eX, ?_⟩
      (conv => whnf)
      refine ⟨rfl, W_len.symm, ?_⟩
      (conv => whnf)
      refine ⟨_, has_c h, ?_⟩
      (conv => whnf)
      have e0 : ∀ x : Bool, (x == x) = true := fun x => beq_self_eq_true x
      refine brk_true (by rw [e0]; rfl) ?_
      (conv => whnf)
      refine ⟨rfl, W_len.symm, ?_⟩
      (conv => whnf)
      refine ⟨_, eY, ?_⟩
      (conv => whnf)
      refine ⟨rfl, W_len.symm, ?_⟩
      (conv => whnf)
      refine ⟨_, has_c h, ?_⟩
      (conv => whnf)
      exact ⟨congrArg Value.bool (e0 _), rfl⟩
end Go.Proofs.YtegeeofjebpgbaaDoor
