/- Sets of bytes: four words of 64 bits each, bit by bit. -/
import Derived.Test.YtegeeofjebpgbaaDoorMvUse
import Derived.Laws.BitsAllLaws
namespace Go.Proofs.YtegeeofjebpgbaaDoor
open Go Go.Mv
set_option linter.unusedVariables false
set_option linter.unusedSimpArgs false
/-- Rows that a loop fills. -/
def upd {α : Type} (F G : Nat → α) (i n : Nat) : List α := (List.range n).map fun k => if k < i then G k else F k
theorem upd_len {α : Type} (F G : Nat → α) (i n : Nat) : (upd F G i n).length = n := by simp [upd]
theorem upd_at {α : Type} {F G : Nat → α} {i j n : Nat} {d : α} (h : j < n) : (upd F G i n).getD j d = if j < i then G j else F j := by simp [upd, List.getD, h]
theorem upd_zero {α : Type} {F G : Nat → α} {n : Nat} : upd F G 0 n = (List.range n).map F := by simp [upd]
theorem upd_all {α : Type} {F G : Nat → α} {n : Nat} : upd F G n n = (List.range n).map G := by
  apply List.map_congr_left
  intro k hk
  rw [if_pos (List.mem_range.1 hk)]
theorem upd_set {α : Type} {F G : Nat → α} {i n : Nat} {x : α} (h : x = G i) : (upd F G i n).set i x = upd F G (i + 1) n := by
  subst h
  apply List.ext_getElem
  · simp [upd]
  · intro k h1 h2
    simp only [upd, List.getElem_set, List.getElem_map, List.getElem_range]
    by_cases hk : i = k
    · subst hk; simp
    · rw [if_neg hk]
      by_cases h3 : k < i
      · rw [if_pos h3, if_pos (by omega)]
      · rw [if_neg h3, if_neg (by omega)]
theorem upd_skip {α : Type} {F G : Nat → α} {i n : Nat} (h : F i = G i) : upd F G i n = upd F G (i + 1) n := by
  apply List.map_congr_left
  intro k hk
  by_cases h3 : k < i
  · rw [if_pos h3, if_pos (by omega)]
  · rw [if_neg h3]
    by_cases h4 : k = i
    · rw [if_pos (by omega), h4, h]
    · rw [if_neg (by omega)]
/-- Four words. -/
abbrev W (G : Nat → Nat) : List Int := (List.range 4).map fun k => ((G k : Nat) : Int)
abbrev wv (G : Nat → Nat) : Value := .agg (intCells .u64 (W G)).toArray
def WOk (G : Nat → Nat) : Prop := ∀ k, k < 4 → G k < 18446744073709551616
def has (G : Nat → Nat) (b : Nat) : Bool := (G (b / 64)).testBit (b % 64)
theorem W_at {G : Nat → Nat} {k : Nat} (h : k < 4) : (W G).getD k 0 = ((G k : Nat) : Int) := by simp [List.getD, h]
theorem W_len {G : Nat → Nat} : (W G).length = 4 := by simp
theorem W_congr {G H : Nat → Nat} (h : ∀ k, k < 4 → G k = H k) : W G = W H := by
  apply List.map_congr_left
  intro k hk
  rw [h k (List.mem_range.1 hk)]
theorem word_eq {x y : Nat} (hx : x < 18446744073709551616) (hy : y < 18446744073709551616) (h : ∀ i, i < 64 → x.testBit i = y.testBit i) : x = y := by
  apply Nat.eq_of_testBit_eq
  intro i
  by_cases hi : i < 64
  · exact h i hi
  · have h2 : 2 ^ 64 ≤ 2 ^ i := Nat.pow_le_pow_right (by omega) (by omega)
    rw [Nat.testBit_lt_two_pow (by omega), Nat.testBit_lt_two_pow (by omega)]
theorem W_ext {G H : Nat → Nat} (hG : WOk G) (hH : WOk H) (h : ∀ b, b < 256 → has G b = has H b) : W G = W H := by
  refine W_congr fun k hk => word_eq (hG k hk) (hH k hk) fun i hi => ?_
  have := h (64 * k + i) (by omega)
  unfold has at this
  rwa [show (64 * k + i) / 64 = k by omega, show (64 * k + i) % 64 = i by omega] at this
/-- A set, told by its bytes. -/
def Is (v : Value) (f : Nat → Bool) : Prop := ∃ G, v = wv G ∧ WOk G ∧ ∀ b, b < 256 → has G b = f b
theorem Is.eq {u v : Value} {f g : Nat → Bool} (h : Is u f) (k : Is v g) (he : ∀ b, b < 256 → f b = g b) : u = v := by
  obtain ⟨G, rfl, h1, h2⟩ := h
  obtain ⟨H, rfl, k1, k2⟩ := k
  unfold wv
  rw [W_ext h1 k1 fun b hb => by rw [h2 b hb, k2 b hb, he b hb]]
/-! ### words -/
def flip64 (x : Nat) : Nat := 18446744073709551615 ^^^ x
theorem xor_flip {x : Nat} (h : x < 18446744073709551616) : bits .xor .u64 (if IntKind.u64.signed = true then -1 else IntKind.u64.max) ((x : Nat) : Int) = ((flip64 x : Nat) : Int) := by
  show bits .xor .u64 ((18446744073709551615 : Nat) : Int) _ = _
  rw [u64_xor_nat _ _ (by omega) h]
  rfl
theorem flip_lt {x : Nat} (h : x < 18446744073709551616) : flip64 x < 18446744073709551616 := Nat.xor_lt_two_pow (n := 64) (by omega) (by omega)
theorem flip_bit {x i : Nat} (hi : i < 64) : (flip64 x).testBit i = !x.testBit i := by
  unfold flip64
  rw [Nat.testBit_xor, show (18446744073709551615 : Nat) = 2 ^ 64 - 1 by decide, Nat.testBit_two_pow_sub_one]
  simp [hi]
theorem flip_eq {x : Nat} (h : x < 18446744073709551616) : flip64 x = 18446744073709551615 - x := by
  refine word_eq (flip_lt h) (by omega) fun i hi => ?_
  rw [flip_bit hi, show 18446744073709551615 - x = 2 ^ 64 - (x + 1) by omega, Nat.testBit_two_pow_sub_succ (by omega)]
  simp [hi]
theorem and_lt {x y : Nat} (h : x < 18446744073709551616) : x &&& y < 18446744073709551616 := Nat.lt_of_le_of_lt Nat.and_le_left h
theorem or_lt {x y : Nat} (h : x < 18446744073709551616) (k : y < 18446744073709551616) : x ||| y < 18446744073709551616 := Nat.or_lt_two_pow (n := 64) (by omega) (by omega)
theorem one_shl {i : Int} {k : Nat} (hi : i = (k : Int)) (hk : k < 64) : IntKind.u64.wrap ((1 : Int) * 2 ^ (min i.toNat IntKind.u64.bits)) = ((2 ^ k : Nat) : Int) := by
  subst hi
  show IntKind.u64.wrap ((1 : Int) * 2 ^ (min (k : Int).toNat 64)) = ((2 ^ k : Nat) : Int)
  rw [IntKind.wrap_u64, show ((k : Int).toNat) = k by omega, Nat.min_eq_left (by omega)]
  have : 2 ^ k < 2 ^ 64 := Nat.pow_lt_pow_right (by omega) hk
  have h2 : ((2 : Int) ^ k) = ((2 ^ k : Nat) : Int) := by simp
  rw [Int.one_mul, h2]
  generalize 2 ^ k = y at *
  omega
theorem shr_nat {x k : Nat} {i : Int} (hi : i = (k : Int)) (hk : k ≤ 64) : ((x : Nat) : Int).fdiv (2 ^ (min i.toNat IntKind.u64.bits)) = ((x / 2 ^ k : Nat) : Int) := by
  subst hi
  show ((x : Nat) : Int).fdiv (2 ^ (min (k : Int).toNat 64)) = ((x / 2 ^ k : Nat) : Int)
  rw [show ((k : Int).toNat) = k by omega, Nat.min_eq_left hk]
  have h2 : ((2 : Int) ^ k) = ((2 ^ k : Nat) : Int) := by simp
  rw [h2, Int.fdiv_eq_ediv_of_nonneg _ (Int.natCast_nonneg _)]
  rfl
theorem bit_test {x k : Nat} : ((((x / 2 ^ k) &&& 1 : Nat) : Int) != 0) = x.testBit k := by
  rw [nat_mask1, Nat.testBit_eq_decide_div_mod_eq]
  rcases Nat.mod_two_eq_zero_or_one (x / 2 ^ k) with h | h <;> rw [h] <;> rfl
theorem bit_test' {x k : Nat} : ((((x / 2 ^ k) &&& 1 : Nat) : Int) == 1) = x.testBit k := by
  rw [nat_mask1, Nat.testBit_eq_decide_div_mod_eq]
  rcases Nat.mod_two_eq_zero_or_one (x / 2 ^ k) with h | h <;> rw [h] <;> rfl
theorem quo64 {b : Int} (h0 : 0 ≤ b) (h1 : b < 9223372036854775808) : IntKind.i64.wrap (b.tdiv 64) = ((b.toNat / 64 : Nat) : Int) := by
  rw [Int.tdiv_eq_ediv_of_nonneg h0, wrap_id (by omega) (by omega)]
  omega
theorem rem64 {b : Int} (h0 : 0 ≤ b) : b.tmod 64 = ((b.toNat % 64 : Nat) : Int) := by
  rw [Int.tmod_eq_emod_of_nonneg h0]
  omega
end Go.Proofs.YtegeeofjebpgbaaDoor
