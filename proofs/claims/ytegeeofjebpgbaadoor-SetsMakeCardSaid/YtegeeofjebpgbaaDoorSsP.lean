/- How many bits of a number are 1, reckoned side by side. -/
import Derived.Test.YtegeeofjebpgbaaDoorMvUse
namespace Go.Proofs.YtegeeofjebpgbaaDoor
open Go Go.Mv
set_option linter.unusedVariables false
set_option linter.unusedSimpArgs false
theorem and_split {n a c r s : Nat} (ha : a < 2 ^ n) (hc : c < 2 ^ n) : (a + 2 ^ n * r) &&& (c + 2 ^ n * s) = (a &&& c) + 2 ^ n * (r &&& s) := by
  apply Nat.eq_of_testBit_eq
  intro i
  have hac : a &&& c < 2 ^ n := Nat.lt_of_le_of_lt Nat.and_le_left ha
  rw [Nat.testBit_and, Nat.add_comm a, Nat.add_comm c, Nat.add_comm (a &&& c), Nat.testBit_two_pow_mul_add _ ha, Nat.testBit_two_pow_mul_add _ hc, Nat.testBit_two_pow_mul_add _ hac]
  split
  · rw [Nat.testBit_and]
  · rw [Nat.testBit_and]
def val (B : Nat) : List Nat → Nat
  | [] => 0
  | d :: r => d + B * val B r
def pairs : List Nat → List Nat
  | a :: b :: r => (a + b) :: pairs r
  | [a] => [a]
  | [] => []
def msk (k : Nat) : Nat → Nat
  | 0 => 0
  | n + 1 => (2 ^ k - 1) + 2 ^ (2 * k) * msk k n
theorem pow2k (k : Nat) : 2 ^ (2 * k) = 2 ^ k * 2 ^ k := by rw [Nat.two_mul, Nat.pow_add]
/-- One digit under a mask. -/
theorem mask1 {k b v M : Nat} (hb : b < 2 ^ k) : (b + 2 ^ k * v) &&& ((2 ^ k - 1) + 2 ^ (2 * k) * M) = b + 2 ^ (2 * k) * ((v / 2 ^ k) &&& M) := by
  have h0 : 0 < 2 ^ k := Nat.two_pow_pos k
  have h1 : b + 2 ^ k * v = (b + 2 ^ k * (v % 2 ^ k)) + 2 ^ (2 * k) * (v / 2 ^ k) := by
    rw [pow2k, Nat.mul_assoc, Nat.add_assoc, ← Nat.mul_add, Nat.mod_add_div]
  have hlt : b + 2 ^ k * (v % 2 ^ k) < 2 ^ (2 * k) := by
    have h3 : v % 2 ^ k + 1 ≤ 2 ^ k := Nat.mod_lt _ h0
    have h4 : 2 ^ k * (v % 2 ^ k + 1) ≤ 2 ^ k * 2 ^ k := Nat.mul_le_mul_left _ h3
    rw [pow2k]
    rw [Nat.mul_add, Nat.mul_one] at h4
    omega
  have hm : 2 ^ k - 1 < 2 ^ (2 * k) := by
    have : 2 ^ k ≤ 2 ^ (2 * k) := Nat.pow_le_pow_right (by omega) (by omega)
    omega
  rw [h1, and_split hlt hm, Nat.and_two_pow_sub_one_eq_mod, Nat.add_mul_mod_self_left, Nat.mod_eq_of_lt hb]
theorem step12 (k : Nat) : ∀ (n : Nat) (l : List Nat), (∀ d, d ∈ l → d < 2 ^ k) → l.length = 2 * n → ((val (2 ^ k) l / 2 ^ k) &&& msk k n) + (val (2 ^ k) l &&& msk k n) = val (2 ^ (2 * k)) (pairs l)
  | 0, [], _, _ => by simp [val, msk, pairs]
  | n + 1, a :: b :: r, hd, hl => by
    have h0 : 0 < 2 ^ k := Nat.two_pow_pos k
    have ha := hd a (by simp)
    have hb := hd b (by simp)
    have ih := step12 k n r (fun d h => hd d (by simp [h])) (by simp at hl; omega)
    simp only [val, pairs, msk]
    rw [show (a + 2 ^ k * (b + 2 ^ k * val (2 ^ k) r)) / 2 ^ k = b + 2 ^ k * val (2 ^ k) r from by rw [Nat.add_mul_div_left _ _ h0, Nat.div_eq_of_lt ha, Nat.zero_add]]
    rw [mask1 hb, mask1 ha]
    rw [show (b + 2 ^ k * val (2 ^ k) r) / 2 ^ k = val (2 ^ k) r from by rw [Nat.add_mul_div_left _ _ h0, Nat.div_eq_of_lt hb, Nat.zero_add]]
    rw [← ih, Nat.mul_add]
    omega
theorem step3 : ∀ (n : Nat) (l : List Nat), (∀ d, d ∈ l → d ≤ 4) → l.length = 2 * n → (val 16 l / 16 + val 16 l) &&& msk 4 n = val 256 (pairs l)
  | 0, [], _, _ => by simp [val, msk, pairs]
  | n + 1, a :: b :: r, hd, hl => by
    have ha := hd a (by simp)
    have hb := hd b (by simp)
    have ih := step3 n r (fun d h => hd d (by simp [h])) (by simp at hl; omega)
    have hc : val 16 r % 16 ≤ 4 := by
      cases r with
      | nil => simp [val]
      | cons c r => have := hd c (by simp); simp only [val]; omega
    simp only [val, pairs, msk]
    have h1 : (a + 16 * (b + 16 * val 16 r)) / 16 + (a + 16 * (b + 16 * val 16 r)) = (a + b) + 2 ^ 4 * (b + (val 16 r + 16 * val 16 r)) := by omega
    rw [h1, mask1 (by omega)]
    rw [show (b + (val 16 r + 16 * val 16 r)) / 2 ^ 4 = val 16 r / 16 + val 16 r from by omega, ih]
theorem sum_pairs : ∀ l : List Nat, (pairs l).sum = l.sum
  | a :: b :: r => by simp only [pairs, List.sum_cons, sum_pairs r]; omega
  | [a] => rfl
  | [] => rfl
theorem len_pairs : ∀ (n : Nat) (l : List Nat), l.length = 2 * n → (pairs l).length = n
  | 0, [], _ => rfl
  | n + 1, a :: b :: r, h => by simp only [pairs, List.length_cons]; rw [len_pairs n r (by simp at h; omega)]
theorem le_pairs {c : Nat} : ∀ (l : List Nat), (∀ d, d ∈ l → d ≤ c) → ∀ d, d ∈ pairs l → d ≤ 2 * c
  | a :: b :: r, h, d, hd => by
    simp only [pairs, List.mem_cons] at hd
    rcases hd with rfl | hd
    · have := h a (by simp); have := h b (by simp); omega
    · exact le_pairs r (fun d h' => h d (by simp [h'])) d hd
  | [a], h, d, hd => by simp only [pairs, List.mem_cons, List.not_mem_nil, or_false] at hd; subst hd; have := h d (by simp); omega
  | [], _, d, hd => by simp [pairs] at hd
def bitsOf : Nat → Nat → List Nat
  | _, 0 => []
  | x, n + 1 => x % 2 :: bitsOf (x / 2) n
theorem bitsOf_len : ∀ (n x : Nat), (bitsOf x n).length = n
  | 0, _ => rfl
  | n + 1, x => by simp [bitsOf, bitsOf_len n]
theorem bitsOf_le : ∀ (n x d : Nat), d ∈ bitsOf x n → d ≤ 1
  | n + 1, x, d, h => by
    simp only [bitsOf, List.mem_cons] at h
    rcases h with rfl | h
    · omega
    · exact bitsOf_le n _ d h
theorem bitsOf_val : ∀ (n x : Nat), x < 2 ^ n → val 2 (bitsOf x n) = x
  | 0, x, h => by simp at h; simp [bitsOf, val, h]
  | n + 1, x, h => by
    have : x / 2 < 2 ^ n := by rw [Nat.pow_succ] at h; omega
    simp only [bitsOf, val, bitsOf_val n _ this]
    omega
def pop (x n : Nat) : Nat := (List.range n).countP x.testBit
theorem bitsOf_sum : ∀ (n x : Nat), (bitsOf x n).sum = pop x n
  | 0, _ => rfl
  | n + 1, x => by
    have ih := bitsOf_sum n (x / 2)
    unfold pop at ih ⊢
    rw [List.range_succ_eq_map, List.countP_cons, List.countP_map, bitsOf, List.sum_cons, ih]
    have h1 : (x.testBit ∘ Nat.succ) = (x / 2).testBit := by
      funext i
      simp only [Function.comp, Nat.succ_eq_add_one, Nat.testBit_succ]
    rw [h1, Nat.testBit_zero]
    rcases Nat.mod_two_eq_zero_or_one x with h | h <;> rw [h] <;> simp <;> omega
theorem val_le {B c : Nat} : ∀ l : List Nat, (∀ d, d ∈ l → d ≤ c) → val B l ≤ c * val B (List.replicate l.length 1)
  | [], _ => by simp [val]
  | a :: r, h => by
    have ha := h a (by simp)
    have ih := val_le (B := B) r (fun d h' => h d (by simp [h']))
    simp only [val, List.length_cons, List.replicate_succ]
    have h2 : B * val B r ≤ B * (c * val B (List.replicate r.length 1)) := Nat.mul_le_mul_left _ ih
    rw [Nat.mul_add, Nat.mul_one, Nat.mul_left_comm]
    omega
theorem len8 : ∀ l : List Nat, l.length = 8 → ∃ a b c d e f g h, l = [a, b, c, d, e, f, g, h]
  | [a, b, c, d, e, f, g, h], _ => ⟨a, b, c, d, e, f, g, h, rfl⟩
theorem le16 {y : Nat} (h : y ≤ 4919131752989213764) : y / 16 + y < 18446744073709551616 := by omega
theorem dv {n a z : Nat} (h : a < n) : (a + n * z) / n = z := by
  rw [Nat.add_mul_div_left _ _ (by omega), Nat.div_eq_of_lt h, Nat.zero_add]
theorem dvm {n a z : Nat} (h : a < n) : (a + n * z) % n = a := by
  rw [Nat.add_mul_mod_self_left, Nat.mod_eq_of_lt h]
theorem t1 {a z y3 y4 : Nat} (ba : a ≤ 8) (e3 : y3 = a + 256 * z) (e4 : y4 = y3 + y3 / 256) : y4 = a + 257 * z := by
  subst e3; rw [dv (by omega)] at e4; omega
theorem t2 {a z y4 y5 : Nat} (ba : a < 65536) (e4 : y4 = a + 65536 * z) (e5 : y5 = y4 + y4 / 65536) : y5 = a + 65537 * z := by
  subst e4; rw [dv (by omega)] at e5; omega
theorem t3 {a z y5 y6 : Nat} (ba : a < 4294967296) (e4 : y5 = a + 4294967296 * z) (e5 : y6 = y5 + y5 / 4294967296) : y6 = a + 4294967297 * z := by
  subst e4; rw [dv ba] at e5; omega
theorem tail8 {a b c d e f g h y3 y4 y5 y6 : Nat} (ba : a ≤ 8) (bb : b ≤ 8) (bc : c ≤ 8) (bd : d ≤ 8) (be : e ≤ 8) (bf : f ≤ 8) (bg : g ≤ 8) (bh : h ≤ 8)
    (e3 : y3 = a + 256 * (b + 256 * (c + 256 * (d + 256 * (e + 256 * (f + 256 * (g + 256 * h))))))) (e4 : y4 = y3 + y3 / 256) (e5 : y5 = y4 + y4 / 65536) (e6 : y6 = y5 + y5 / 4294967296) :
    y4 < 9223372036854775808 ∧ y5 < 9223372036854775808 ∧ y6 < 9223372036854775808 ∧ y6 % 128 = a + (b + (c + (d + (e + (f + (g + h)))))) := by
  have f4 := t1 ba e3 e4
  clear e3 e4
  have f5 := t2 (a := (a + b) + 256 * (b + c)) (z := (c + d) + 256 * ((d + e) + 256 * ((e + f) + 256 * ((f + g) + 256 * ((g + h) + 256 * h))))) (by omega) (by rw [f4]; omega) e5
  have c4 : y4 < 9223372036854775808 := by omega
  clear f4 e5
  have f6 := t3 (a := (a + b + c + d) + 256 * ((b + c + d + e) + 256 * ((c + d + e + f) + 256 * (d + e + f + g)))) (z := (e + f + g + h) + 256 * ((f + g + h) + 256 * ((g + h) + 256 * h))) (by omega) (by rw [f5]; omega) e6
  have c5 : y5 < 9223372036854775808 := by omega
  clear f5 e6
  have c6 : y6 < 9223372036854775808 := by omega
  refine ⟨c4, c5, c6, ?_⟩
  have f7 : y6 = (a + (b + (c + (d + (e + (f + (g + h))))))) + 128 * (2 * ((b + c + d + e + f + g + h) + 256 * ((c + d + e + f + g + h) + 256 * (d + e + f + g + h)) + 16777216 * ((e + f + g + h) + 256 * ((f + g + h) + 256 * ((g + h) + 256 * h))))) := by rw [f6]; omega
  clear f6
  exact f7 ▸ dvm (by omega)
theorem popcount {x : Nat} (hx : x < 18446744073709551616) :
    let y1 := ((x / 2) &&& 6148914691236517205) + (x &&& 6148914691236517205)
    let y2 := ((y1 / 4) &&& 3689348814741910323) + (y1 &&& 3689348814741910323)
    let y3 := (y2 / 16 + y2) &&& 1085102592571150095
    let y4 := y3 + y3 / 256
    let y5 := y4 + y4 / 65536
    let y6 := y5 + y5 / 4294967296
    y1 < 18446744073709551616 ∧ y2 < 18446744073709551616 ∧ y2 / 16 + y2 < 18446744073709551616 ∧ y4 < 9223372036854775808 ∧ y5 < 9223372036854775808 ∧ y6 < 9223372036854775808 ∧ y6 % 128 = pop x 64 := by
  intro y1 y2 y3 y4 y5 y6
  have hv := bitsOf_val 64 x hx
  have hl := bitsOf_len 64 x
  have hs := bitsOf_sum 64 x
  have hb := bitsOf_le 64 x
  generalize bitsOf x 64 = l at *
  have e1 : y1 = val 4 (pairs l) := by
    have := step12 1 32 l (fun d h => by have := hb d h; omega) (by omega)
    rw [show 2 ^ 1 = 2 from rfl, hv, show msk 1 32 = 6148914691236517205 from by decide +kernel] at this
    exact this
  have l1 := len_pairs 32 l (by omega)
  have b1 := le_pairs l hb
  have s1 := sum_pairs l
  generalize pairs l = m at *
  have e2 : y2 = val 16 (pairs m) := by
    have := step12 2 16 m (fun d h => by have := b1 d h; omega) (by omega)
    rw [show 2 ^ 2 = 4 from rfl, ← e1, show msk 2 16 = 3689348814741910323 from by decide +kernel] at this
    exact this
  have l2 := len_pairs 16 m (by omega)
  have b2 := le_pairs m b1
  have s2 := sum_pairs m
  generalize pairs m = k at *
  have e3 : y3 = val 256 (pairs k) := by
    have := step3 8 k (fun d h => by have := b2 d h; omega) (by omega)
    rw [← e2, show msk 4 8 = 1085102592571150095 from by decide +kernel] at this
    exact this
  have l3 := len_pairs 8 k (by omega)
  have b3 := le_pairs k b2
  have s3 := sum_pairs k
  have hy1 : y1 < 18446744073709551616 := by
    have := val_le (B := 4) m b1
    rw [l1, show val 4 (List.replicate 32 1) = 6148914691236517205 from by decide +kernel] at this
    omega
  have hy2 : y2 ≤ 4919131752989213764 := by
    have := val_le (B := 16) k b2
    rw [l2, show val 16 (List.replicate 16 1) = 1229782938247303441 from by decide +kernel] at this
    omega
  generalize pairs k = q at *
  obtain ⟨a, b, c, d, e, f, g, h, rfl⟩ := len8 q (by omega)
  have ba := b3 a (by simp)
  have bb := b3 b (by simp)
  have bc := b3 c (by simp)
  have bd := b3 d (by simp)
  have be := b3 e (by simp)
  have bf := b3 f (by simp)
  have bg := b3 g (by simp)
  have bh := b3 h (by simp)
  simp only [List.sum_cons, List.sum_nil, Nat.add_zero] at s3
  simp only [val, Nat.mul_zero, Nat.add_zero] at e3
  have ht := tail8 ba bb bc bd be bf bg bh e3 (y4 := y4) (y5 := y5) (y6 := y6) rfl rfl rfl
  refine ⟨hy1, Nat.lt_of_le_of_lt hy2 (by decide), ?_, ht.1, ht.2.1, ht.2.2.1, ?_⟩
  · exact le16 hy2
  · rw [ht.2.2.2]
    rw [s3, s2, s1, hs]
end Go.Proofs.YtegeeofjebpgbaaDoor
