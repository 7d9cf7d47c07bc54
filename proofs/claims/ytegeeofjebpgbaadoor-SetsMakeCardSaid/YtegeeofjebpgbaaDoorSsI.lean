/- Sets: the document's answer, byte by byte. -/
import Derived.Test.YtegeeofjebpgbaaDoorSsH
namespace Go.Proofs.YtegeeofjebpgbaaDoor
open Go Go.Mv
set_option maxHeartbeats 1000000
set_option maxRecDepth 10000
set_option linter.unusedVariables false
set_option linter.unusedSimpArgs false
attribute [local irreducible] FCalls IntKind.wrap bits Mem.set Mem.setCell Mem.setCells YCalls
theorem in_c {m : Mem} {G : Nat → Nat} {b : Int} (h : WOk G) (h0 : 0 ≤ b) (h1 : b < 256) : FCalls Tryd.prog 45 [wv G, .int .i64 b] m fun v m' => v = .bool (has G b.toNat) ∧ m' = m := by
  refine fcalls_of_vc (T := tbl) (B := bodies) (pr := [2]) (DR := dr45) (args := [.ints .u64 (W G), .v (.int .i64 b)]) tbl_ok bodies_ok mixed Tryd.func45 rfl (by decide +kernel) (by simp [Tryd.f45]) rfl ?_
  have q := quo64 h0 (by omega)
  have r := rem64 (b := b) h0
  (conv => whnf)
  refine ⟨by decide, ?_⟩
  (conv => whnf)
  refine ⟨by rw [q]; omega, by rw [q]; show _ < (4 : Int); omega, ?_⟩
  (conv => whnf)
  refine ⟨by rw [q, ix, W_len]; omega, ?_⟩
  (conv => whnf)
  refine ⟨by decide, ?_⟩
  (conv => whnf)
  refine ⟨by rw [r]; omega, ?_⟩
  (conv => whnf)
  refine ⟨?_, rfl⟩
  rw [q, r, ix, W_at (by omega), shr_nat rfl (by omega)]
  have := u64_and_nat (G (b.toNat / 64) / 2 ^ (b.toNat % 64)) 1 (div_lt _ (h _ (by omega))) (by decide)
  rw [show ((1 : Nat) : Int) = 1 from rfl] at this
  rw [this]
  show Value.bool ((((G (b.toNat / 64) / 2 ^ (b.toNat % 64)) &&& 1 : Nat) : Int) == 1) = _
  rw [bit_test']
  rfl
/-- 256 answers. -/
abbrev B2 (f : Nat → Bool) : List Bool := (List.range 256).map f
abbrev bv (f : Nat → Bool) : Value := .agg (boolCells (B2 f)).toArray
theorem B2_len {f : Nat → Bool} : (B2 f).length = 256 := by simp
theorem B2_at {f : Nat → Bool} {i : Nat} (h : i < 256) : (B2 f).getD i false = f i := by simp [List.getD, h]
abbrev UB (f g : Nat → Bool) (i : Nat) : List Bool := upd f g i 256
theorem UB_len {f g : Nat → Bool} {i : Nat} : (UB f g i).length = 256 := upd_len _ _ _ _
theorem ix4 (i : Nat) : 0 + ((i : Int)).toNat * (tbl.at 4).size = i := by
  show 0 + ((i : Int)).toNat * 1 = i
  omega
theorem step256 (i : Nat) (h : i < 256) : IntKind.i64.wrap ((i : Int) + 1) = ((i + 1 : Nat) : Int) := by rw [wrap_id (by omega) (by omega)]; omega
theorem bytes_c {m : Mem} {G : Nat → Nat} (h : WOk G) : FCalls Tryd.prog 49 [wv G] m fun v m' => v = bv (has G) ∧ m' = m := by
  refine fcalls_of_vc (T := tbl) (B := bodies) (pr := [1, 2, 3]) (DR := dr49) (args := [.ints .u64 (W G)]) tbl_ok bodies_ok mixed Tryd.func49 rfl (by decide +kernel) (by simp [Tryd.f49]) rfl ?_
  (conv => whnf)
  refine loop_keep [1, 2, 3] Nat (fun i => [(4, .v (.int .i64 i))]) (fun i => [.ints .u64 (W G), .bools (List.replicate 256 false), .bools (UB (fun _ => false) (has G) i)]) (fun _ => m) (fun i => i ≤ 256) (fun i => 256 - i) 0 ⟨rfl, trivial⟩ ?_ rfl (by omega) ?_
  · exact congrArg (fun x => [LC.ints .u64 (W G), .bools (List.replicate 256 false), .bools x]) (by rw [UB, upd_zero, List.map_const', List.length_range])
  (conv => whnf)
  refine ⟨rfl, fun i hi => ?_⟩
  (conv => whnf)
  refine brk_intro (fun h1 => ?_) (fun h1 => ?_)
  · have h1 : (i : Int) < 256 := by simpa using h1
    (conv => whnf)
    refine ⟨rfl, W_len.symm, ?_⟩
    (conv => whnf)
    refine FCalls.mono (in_c h (by omega) h1) fun v m' ⟨h2, h3⟩ => ?_
    subst h2 h3
    (conv => whnf)
    refine ⟨by omega, h1, ?_⟩
    (conv => whnf)
    refine ⟨by rw [ix4, UB_len]; omega, ?_⟩
    (conv => whnf)
    refine ⟨i + 1, le_eq ⟨by show some (AV.v (.int .i64 (IntKind.i64.wrap ((i : Int) + 1)))) = _; rw [step256 i (by omega)], rfl, rfl, rfl, trivial⟩ rfl ?_ rfl, by omega, by omega⟩
    refine congrArg (fun x => [LC.ints .u64 (W G), .bools (List.replicate 256 false), .bools x]) ?_
    rw [ix4]
    exact upd_set (by rw [show (i : Int).toNat = i by omega])
  · have h1 : ¬ ((i : Int) < 256) := by simpa using h1
    have h1 : i = 256 := by omega
    subst h1
    (conv => whnf)
    refine ⟨rfl, by rw [UB_len]; rfl, ?_⟩
    (conv => whnf)
    refine ⟨rfl, by rw [UB_len]; rfl, by rw [UB_len]; simp, ?_⟩
    (conv => whnf)
    refine ⟨rfl, by rw [UB_len]; rfl, ?_⟩
    (conv => whnf)
    exact ⟨by show Value.agg (boolCells (UB (fun _ => false) (has G) 256)).toArray = _; rw [UB, upd_all], rfl⟩
/-! ### laid -/
def laidG (f : Nat → Bool) : Nat → Nat → Nat
  | 0 => fun _ => 0
  | n + 1 => bif f n then with' (laidG f n) n else laidG f n
theorem laidG_ok (f : Nat → Bool) : ∀ n, WOk (laidG f n)
  | 0 => fun k hk => Nat.two_pow_pos 64
  | n + 1 => by
    simp only [laidG]
    cases f n with
    | true => exact with_ok (laidG_ok f n)
    | false => exact laidG_ok f n
theorem laidG_bit (f : Nat → Bool) (c : Nat) : ∀ n, has (laidG f n) c = (decide (c < n) && f c)
  | 0 => by simp only [laidG, has, Nat.zero_testBit]; rw [decide_eq_false (by omega)]; rfl
  | n + 1 => by
    have ih := laidG_bit f c n
    simp only [laidG]
    cases hf : f n with
    | true =>
      simp only [cond_true]
      rw [with_bit, ih]
      by_cases h1 : n = c
      · subst h1
        rw [hf, decide_eq_true rfl, decide_eq_true (by omega : n < n + 1)]
        simp
      · rw [decide_eq_false h1, Bool.or_false]
        congr 1
        exact decide_eq_decide.2 (by omega)
    | false =>
      simp only [cond_false]
      rw [ih]
      by_cases h1 : n = c
      · subst h1
        rw [hf, Bool.and_false, Bool.and_false]
      · congr 1
        exact decide_eq_decide.2 (by omega)
theorem laidG_low (f : Nat → Bool) (n : Nat) : laidG f n (n / 64) < 2 ^ (n % 64) := by
  apply Nat.lt_pow_two_of_testBit
  intro i hi
  by_cases h64 : i < 64
  · have := laidG_bit f (64 * (n / 64) + i) n
    unfold has at this
    rw [show (64 * (n / 64) + i) / 64 = n / 64 by omega, show (64 * (n / 64) + i) % 64 = i by omega, decide_eq_false (by omega), Bool.false_and] at this
    exact this
  · by_cases hk : n / 64 < 4
    · have h1 := laidG_ok f n (n / 64) hk
      have h2 : 2 ^ 64 ≤ 2 ^ i := Nat.pow_le_pow_right (by omega) (by omega)
      exact Nat.testBit_lt_two_pow (by omega)
    · have : ∀ m k, m / 64 ≤ k → 4 ≤ k → True := fun _ _ _ _ => trivial
      have key : ∀ m (k : Nat), m ≤ n → m ≤ 64 * k → laidG f m k = 0 := by
        intro m k
        induction m with
        | zero => intro _ _; rfl
        | succ m ih =>
          intro h1 h2
          have := ih (by omega) (by omega)
          simp only [laidG]
          cases f m with
          | true => simp only [cond_true, with']; rw [if_neg (by omega)]; exact this
          | false => exact this
      have hx : ∀ m, m ≤ n → 64 * (n / 64) ≤ m → laidG f m (n / 64) < 2 ^ 64 := by
        intro m
        induction m with
        | zero => intro _ _; exact Nat.two_pow_pos 64
        | succ m ih =>
          intro h1 h2
          by_cases h3 : 64 * (n / 64) ≤ m
          · have := ih (by omega) h3
            simp only [laidG]
            cases f m with
            | true => simp only [cond_true, with']; split
                      · exact or_lt this (pow64 (by omega))
                      · exact this
            | false => exact this
          · have := key m (n / 64) (by omega) (by omega)
            simp only [laidG]
            cases f m with
            | true => simp only [cond_true, with']; rw [if_neg (by omega), this]; exact Nat.two_pow_pos 64
            | false => simp only [cond_false]; rw [this]; exact Nat.two_pow_pos 64
      have h1 := hx n (Nat.le_refl _) (by omega)
      have h2 : 2 ^ 64 ≤ 2 ^ i := Nat.pow_le_pow_right (by omega) (by omega)
      exact Nat.testBit_lt_two_pow (by omega)
theorem laid_c {m : Mem} {f : Nat → Bool} : FCalls Tryd.prog 51 [bv f] m fun v m' => m' = m ∧ Is v f := by
  refine fcalls_of_vc (T := tbl) (B := bodies) (pr := [1, 2, 3]) (DR := dr51) (args := [.bools (B2 f)]) tbl_ok bodies_ok mixed Tryd.func51 rfl (by decide +kernel) (by simp [Tryd.f51]) rfl ?_
  (conv => whnf)
  refine loop_keep [1, 2, 3] Nat (fun i => [(4, .v (.int .i64 i))]) (fun i => [.bools (B2 f), .ints .u64 [0, 0, 0, 0], .ints .u64 (W (laidG f i))]) (fun _ => m) (fun i => i ≤ 256) (fun i => 256 - i) 0 ⟨rfl, trivial⟩ rfl rfl (by omega) ?_
  (conv => whnf)
  refine ⟨rfl, fun i hi => ?_⟩
  (conv => whnf)
  refine brk_intro (fun h1 => ?_) (fun h1 => ?_)
  · have h1 : (i : Int) < 256 := by simpa using h1
    have hi' : i < 256 := by omega
    (conv => whnf)
    refine ⟨by omega, h1, ?_⟩
    (conv => whnf)
    refine ⟨by rw [ix4, B2_len]; omega, ?_⟩
    (conv => whnf)
    have e1 : (B2 f).getD (0 + ((i : Int)).toNat * (tbl.at 4).size) false = f i := by rw [ix4, B2_at hi']
    rw [e1]
    refine brk_intro (fun h2 => ?_) (fun h2 => ?_)
    · have q := quo64 (b := (i : Int)) (by omega) (by omega)
      have r := rem64 (b := (i : Int)) (by omega)
      rw [show ((i : Int)).toNat = i by omega] at q r
      (conv => whnf)
      refine ⟨by decide, ?_⟩
      (conv => whnf)
      refine ⟨by decide, ?_⟩
      (conv => whnf)
      refine ⟨by rw [q]; omega, by rw [q]; show _ < (4 : Int); omega, ?_⟩
      (conv => whnf)
      refine ⟨by rw [q, ix, W_len]; omega, ?_⟩
      (conv => whnf)
      refine ⟨by decide, ?_⟩
      (conv => whnf)
      refine ⟨by rw [r]; omega, ?_⟩
      (conv => whnf)
      refine ⟨by rw [q]; omega, by rw [q]; show _ < (4 : Int); omega, ?_⟩
      (conv => whnf)
      refine ⟨by rw [q, ix, W_len]; omega, ?_⟩
      (conv => whnf)
      refine ⟨i + 1, le_eq ⟨by show some (AV.v (.int .i64 (IntKind.i64.wrap ((i : Int) + 1)))) = _; rw [step256 i hi'], rfl, rfl, rfl, trivial⟩ rfl ?_ rfl, by omega, by omega⟩
      refine congrArg (fun x => [LC.bools (B2 f), LC.ints .u64 [0, 0, 0, 0], LC.ints .u64 x]) ?_
      have hlow := laidG_low f i
      have hor : laidG f i (i / 64) + 2 ^ (i % 64) = laidG f i (i / 64) ||| 2 ^ (i % 64) := by
        have := Nat.two_pow_add_eq_or_of_lt hlow 1
        rw [Nat.mul_one] at this
        rw [Nat.add_comm, this, Nat.or_comm]
      have hlt := or_lt (laidG_ok f i (i / 64) (by omega)) (pow64 (k := i % 64) (by omega))
      rw [← hor] at hlt
      rw [q, r, ix, W_at (by omega), one_shl rfl (by omega), add_u64 hlt, hor]
      refine W_set (by omega) ?_ fun k hk => ?_
      · simp only [laidG, h2, cond_true, with']
        rw [if_pos trivial]
      · simp only [laidG, h2, cond_true, with']
        rw [if_neg hk]
    · (conv => whnf)
      refine ⟨i + 1, le_eq ⟨by show some (AV.v (.int .i64 (IntKind.i64.wrap ((i : Int) + 1)))) = _; rw [step256 i hi'], rfl, rfl, rfl, trivial⟩ rfl ?_ rfl, by omega, by omega⟩
      refine congrArg (fun x => [LC.bools (B2 f), LC.ints .u64 [0, 0, 0, 0], LC.ints .u64 x]) ?_
      refine W_congr fun k hk => ?_
      simp only [laidG, h2, cond_false]
  · have h1 : ¬ ((i : Int) < 256) := by simpa using h1
    have h1 : i = 256 := by omega
    subst h1
    (conv => whnf)
    refine ⟨rfl, W_len.symm, ?_⟩
    (conv => whnf)
    refine ⟨rfl, W_len.symm, W_len.symm, ?_⟩
    (conv => whnf)
    refine ⟨rfl, W_len.symm, ?_⟩
    (conv => whnf)
    refine ⟨rfl, laidG f 256, rfl, laidG_ok f 256, fun b hb => ?_⟩
    rw [laidG_bit, decide_eq_true hb, Bool.true_and]
end Go.Proofs.YtegeeofjebpgbaaDoor
