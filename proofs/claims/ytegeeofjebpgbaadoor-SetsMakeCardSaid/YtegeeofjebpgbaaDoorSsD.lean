/- Sets: how many, the next. -/
import Derived.Test.YtegeeofjebpgbaaDoorSsC
import Derived.Test.YtegeeofjebpgbaaDoorSsP
import Derived.Lib.TrailingZeros
namespace Go.Proofs.YtegeeofjebpgbaaDoor
open Go Go.Mv
set_option maxHeartbeats 400000
set_option maxRecDepth 10000
set_option linter.unusedVariables false
set_option linter.unusedSimpArgs false
attribute [local irreducible] FCalls IntKind.wrap bits Mem.set Mem.setCell Mem.setCells
theorem shr_c {x : Nat} (i : Int) (k n : Nat) (hi : i = (k : Int)) (hn : 2 ^ k = n) (hk : k ≤ 64) : ((x : Nat) : Int).fdiv (2 ^ (min i.toNat IntKind.u64.bits)) = ((x / n : Nat) : Int) := by
  subst hn
  exact shr_nat hi hk
theorem wrap_u64_nat {x : Nat} (h : x < 18446744073709551616) : IntKind.u64.wrap ((x : Nat) : Int) = ((x : Nat) : Int) := by
  rw [IntKind.wrap_u64]
  omega
theorem and_u64 {x : Nat} (k : Int) (c : Nat) (hk : k = (c : Int)) (h : x < 18446744073709551616) (hc : c < 18446744073709551616) : bits .and .u64 ((x : Nat) : Int) k = ((x &&& c : Nat) : Int) := by
  subst hk
  exact u64_and_nat x c h hc
theorem add_u64 {x y : Nat} (h : x + y < 18446744073709551616) : IntKind.u64.wrap (((x : Nat) : Int) + ((y : Nat) : Int)) = ((x + y : Nat) : Int) := wrap_u64_nat h
theorem div_lt {x : Nat} (n : Nat) (h : x < 18446744073709551616) : x / n < 18446744073709551616 := Nat.lt_of_le_of_lt (Nat.div_le_self _ _) h
theorem ones_c {m : Mem} {x : Nat} (h : x < 18446744073709551616) : FCalls Tryd.prog 44 [.int .u64 ((x : Nat) : Int)] m fun v m' => v = .int .i64 ((pop x 64 : Nat) : Int) ∧ m' = m := by
  refine fcalls_of_vc (T := tbl) (B := bodies) (pr := []) (DR := dr44) (args := [.v (.int .u64 ((x : Nat) : Int))]) tbl_ok bodies_ok mixed Tryd.func44 rfl (by decide +kernel) (by simp [Tryd.f44]) rfl ?_
  obtain ⟨p1, p2, p3, p4, p5, p6, p7⟩ := popcount h
  (conv => whnf)
  refine ⟨by decide, ?_⟩
  (conv => whnf)
  refine ⟨by decide, ?_⟩
  (conv => whnf)
  refine ⟨by decide, ?_⟩
  (conv => whnf)
  refine ⟨by decide, ?_⟩
  (conv => whnf)
  refine ⟨by decide, ?_⟩
  (conv => whnf)
  refine ⟨by decide, ?_⟩
  (conv => whnf)
  refine ⟨?_, rfl⟩
  rw [shr_c 1 1 2 rfl rfl (by omega), and_u64 6148914691236517205 6148914691236517205 rfl (div_lt _ h) (by decide), and_u64 6148914691236517205 6148914691236517205 rfl h (by decide), add_u64 p1]
  generalize (x / 2 &&& 6148914691236517205) + (x &&& 6148914691236517205) = y1 at *
  rw [shr_c 2 2 4 rfl rfl (by omega), and_u64 3689348814741910323 3689348814741910323 rfl (div_lt _ p1) (by decide), and_u64 3689348814741910323 3689348814741910323 rfl p1 (by decide), add_u64 p2]
  generalize (y1 / 4 &&& 3689348814741910323) + (y1 &&& 3689348814741910323) = y2 at *
  rw [shr_c 4 4 16 rfl rfl (by omega), add_u64 p3, and_u64 1085102592571150095 1085102592571150095 rfl p3 (by decide)]
  have p3' : (y2 / 16 + y2) &&& 1085102592571150095 < 18446744073709551616 := and_lt p3
  generalize (y2 / 16 + y2) &&& 1085102592571150095 = y3 at *
  rw [shr_c 8 8 256 rfl rfl (by omega), add_u64 (Nat.lt_trans p4 (by decide))]
  generalize y3 + y3 / 256 = y4 at *
  rw [shr_c 16 16 65536 rfl rfl (by omega), add_u64 (Nat.lt_trans p5 (by decide))]
  generalize y4 + y4 / 65536 = y5 at *
  rw [shr_c 32 32 4294967296 rfl rfl (by omega), add_u64 (Nat.lt_trans p6 (by decide))]
  generalize y5 + y5 / 4294967296 = y6 at *
  rw [wrap_id (by omega) (by omega)]
  have := and_mask (k := 7) (by omega) ((y6 : Nat) : Int)
  rw [show ((2 : Int) ^ 7 - 1) = 127 from rfl, show ((2 : Int) ^ 7) = 128 from rfl] at this
  rw [this, ← p7]
  rfl
/-- How many of the numbers below n. -/
def cnt (f : Nat → Bool) (n : Nat) : Nat := (List.range n).countP f
theorem cnt_word {G : Nat → Nat} {i : Nat} : cnt (has G) (64 * (i + 1)) = cnt (has G) (64 * i) + pop (G i) 64 := by
  unfold cnt pop
  rw [show 64 * (i + 1) = 64 * i + 64 by omega, List.range_add, List.countP_append, List.countP_map]
  congr 1
  apply List.countP_congr
  intro j hj
  have hj := List.mem_range.1 hj
  simp only [Function.comp, has]
  rw [show (64 * i + j) / 64 = i by omega, show (64 * i + j) % 64 = j by omega]
theorem cnt_le (f : Nat → Bool) (n : Nat) : cnt f n ≤ n := by
  unfold cnt
  have := List.countP_le_length (p := f) (l := List.range n)
  simpa using this
theorem count_c {m : Mem} {G : Nat → Nat} (h : WOk G) : FCalls Tryd.prog 14 [wv G] m fun v m' => v = .int .i64 ((cnt (has G) 256 : Nat) : Int) ∧ m' = m := by
  refine fcalls_of_vc (T := tbl) (B := bodies) (pr := [1]) (DR := dr14) (args := [.ints .u64 (W G)]) tbl_ok bodies_ok mixed Tryd.func14 rfl (by decide +kernel) (by simp [Tryd.f14]) rfl ?_
  (conv => whnf)
  refine ⟨rfl, W_len.symm, ?_⟩
  (conv => whnf)
  refine loop_keep [6] Nat (fun i => [(7, .v (.int .i64 i)), (3, .v (.int .i64 ((cnt (has G) (64 * i) : Nat) : Int)))]) (fun _ => [.ints .u64 (W G)]) (fun _ => m) (fun i => i ≤ 4) (fun i => 4 - i) 0 ⟨rfl, rfl, trivial⟩ rfl rfl (by omega) ?_
  (conv => whnf)
  refine ⟨rfl, fun i hi => ?_⟩
  (conv => whnf)
  refine brk_intro (fun h1 => ?_) (fun h1 => ?_)
  · have h1 : (i : Int) < 4 := by simpa using h1
    (conv => whnf)
    refine ⟨by omega, h1, by rw [W_len]; omega, ?_⟩
    (conv => whnf)
    have e1 : (W G).getD (i : Int).toNat 0 = ((G i : Nat) : Int) := by
      rw [show (i : Int).toNat = i by omega, W_at (by omega)]
    rw [e1]
    refine FCalls.mono (ones_c (h i (by omega))) fun v m' ⟨h2, h3⟩ => ?_
    subst h2 h3
    (conv => whnf)
    have e2 := cnt_word (G := G) (i := i)
    have e3 := cnt_le (has G) (64 * (i + 1))
    refine ⟨i + 1, le_eq ⟨by show some (AV.v (.int .i64 (IntKind.i64.wrap ((i : Int) + 1)))) = _; rw [step1 i (by omega)], ?_, rfl, trivial⟩ rfl rfl rfl, by omega, by omega⟩
    show some (AV.v (.int .i64 (IntKind.i64.wrap (((cnt (has G) (64 * i) : Nat) : Int) + ((pop (G i) 64 : Nat) : Int))))) = _
    rw [wrap_id (by omega) (by omega), e2]
    rfl
  · have h1 : ¬ ((i : Int) < 4) := by simpa using h1
    have h1 : i = 4 := by omega
    subst h1
    (conv => whnf)
    exact ⟨rfl, rfl⟩
/-! ### the lowest bit -/
def Tz (m : Mem) : Prop := ∀ j, j < 64 → m.cell ⟨0, j, none⟩ = some (.int .u8 ((Lib.deBruijn64tab.getD j 0 : Nat) : Int))
theorem Tz.set {m : Mem} {b : Nat} {o : Obj} (h : Tz m) (hb : m b = none) : Tz (m.set b o) := by
  intro j hj
  have := h j hj
  unfold Mem.cell at this ⊢
  simp only at this ⊢
  have hne : (0 : Nat) ≠ b := by
    rintro rfl
    rw [hb] at this
    cases this
  rw [Mem.set_ne hne]
  exact this
theorem Tz.put {m : Mem} {a : Addr} {v : Value} (h : Tz m) (ha : a.block ≠ 0) : Tz (m.setCell a v) := by
  intro j hj
  have := h j hj
  unfold Mem.cell at this ⊢
  unfold Mem.setCell
  simp only at this ⊢
  rw [if_neg (Ne.symm ha)]
  exact this
theorem ix5 (i : Nat) : 0 + ((i : Nat) : Int).toNat * (tbl.at 5).size = i := by
  show 0 + ((i : Nat) : Int).toNat * 1 = i
  omega
theorem tz_c {m : Mem} {x : Nat} (hT : Tz m) (h : x < 18446744073709551616) (h0 : x ≠ 0) : FCalls Tryd.prog 43 [.int .u64 ((x : Nat) : Int)] m fun v m' => v = .int .i64 ((Lib.ctz 64 x : Nat) : Int) ∧ m' = m := by
  refine fcalls_of_vc (T := tbl) (B := bodies) (pr := []) (DR := dr43) (args := [.v (.int .u64 ((x : Nat) : Int))]) tbl_ok bodies_ok mixed Tryd.func43 rfl (by decide +kernel) (by simp [Tryd.f43]) rfl ?_
  have hl := Lib.lowest_bit 64 x h0 h
  have hd := Lib.deBruijn64_at _ hl.2
  have e1 : bits .and .u64 ((x : Nat) : Int) (IntKind.u64.wrap (0 - ((x : Nat) : Int))) = ((2 ^ Lib.ctz 64 x : Nat) : Int) := by
    rw [IntKind.wrap_u64, show (0 - ((x : Nat) : Int)) % 18446744073709551616 = ((18446744073709551616 - x : Nat) : Int) by omega, and_u64 _ _ rfl h (by omega), ← hl.1]
  have e2 : (IntKind.u64.wrap (((2 ^ Lib.ctz 64 x : Nat) : Int) * 285870213051353865)).fdiv (2 ^ (min (58 : Int).toNat IntKind.u64.bits)) = ((2 ^ Lib.ctz 64 x * 285870213051353865 % 18446744073709551616 / 288230376151711744 : Nat) : Int) := by
    rw [IntKind.wrap_u64, show (((2 ^ Lib.ctz 64 x : Nat) : Int) * 285870213051353865) % 18446744073709551616 = ((2 ^ Lib.ctz 64 x * 285870213051353865 % 18446744073709551616 : Nat) : Int) from rfl]
    exact shr_c 58 58 288230376151711744 rfl rfl (by omega)
  have c0 : (((x : Nat) : Int) == 0) = false := by
    simp only [beq_eq_false_iff_ne]
    omega
  (conv => whnf)
  refine brk_false c0 ?_
  (conv => whnf)
  refine ⟨by decide, ?_⟩
  (conv => whnf)
  rw [e1, e2]
  refine ⟨by omega, by have := hd.1; omega, ?_⟩
  (conv => whnf)
  refine ⟨_, by rw [add_mk, ix5, hT _ hd.1, hd.2], ?_⟩
  (conv => whnf)
  refine ⟨?_, rfl⟩
  rw [wrap_id (by omega) (by have := hl.2; omega)]
  rfl
theorem ctz_bit {x : Nat} (h : x < 18446744073709551616) (h0 : x ≠ 0) : Lib.ctz 64 x < 64 ∧ x.testBit (Lib.ctz 64 x) = true ∧ ∀ i, i < Lib.ctz 64 x → x.testBit i = false := by
  have hl := Lib.lowest_bit 64 x h0 h
  have he : Lib.ctz 64 x = Lib.ctzFrom 64 x := by unfold Lib.ctz; rw [if_neg h0]
  obtain ⟨k, hk, _⟩ := Lib.ctzFrom_spec 64 x (by omega) h
  refine ⟨hl.2, ?_, fun i hi => ?_⟩
  · rw [he, Nat.testBit_eq_decide_div_mod_eq]
    generalize Lib.ctzFrom 64 x = c at *
    have : x / 2 ^ c = 2 * k + 1 := by rw [hk, Nat.mul_div_cancel_left _ (Nat.two_pow_pos c)]
    rw [this]
    exact decide_eq_true (by omega)
  · rw [he] at hi
    generalize Lib.ctzFrom 64 x = c at *
    obtain ⟨d, rfl⟩ : ∃ d, c = i + (d + 1) := ⟨c - i - 1, by omega⟩
    rw [Nat.testBit_eq_decide_div_mod_eq]
    have : x / 2 ^ i = 2 * (2 ^ d * (2 * k + 1)) := by
      rw [hk, Nat.pow_add, Nat.mul_assoc, Nat.mul_div_cancel_left _ (Nat.two_pow_pos i), Nat.pow_succ]
      rw [Nat.mul_comm (2 ^ d) 2, Nat.mul_assoc]
    rw [this]
    exact decide_eq_false (by omega)
/-! ### the next -/
/-- The least of the numbers from s on, below n. -/
inductive NextIs (f : Nat → Bool) (s : Int) : Option Nat → Prop
  | some (b : Nat) : s ≤ b → b < 256 → f b = true → (∀ c : Nat, s ≤ c → c < b → f c = false) → NextIs f s (some b)
  | none : (∀ c : Nat, s ≤ c → c < 256 → f c = false) → NextIs f s none
theorem NextIs.eq {f : Nat → Bool} {s : Int} {r q : Option Nat} (h : NextIs f s r) (k : NextIs f s q) : r = q := by
  cases h with
  | some b h1 h2 h3 h4 =>
    cases k with
    | some c k1 k2 k3 k4 =>
      have : b = c := by
        rcases Nat.lt_trichotomy b c with h | h | h
        · rw [k4 b h1 h] at h3; cases h3
        · exact h
        · rw [h4 c k1 h] at k3; cases k3
      rw [this]
    | none k1 => rw [k1 b h1 h2] at h3; cases h3
  | none h1 =>
    cases k with
    | some c k1 k2 k3 k4 => rw [h1 c k1 k2] at k3; cases k3
    | none k1 => rfl
def nextV : Option Nat → Value
  | some b => .tuple #[.int .i64 (b : Int), .bool true]
  | none => .tuple #[.int .i64 0, .bool false]
theorem mask_lo {x j k : Nat} (hj : j < 64) (hk : k < 64) : (x &&& flip64 (2 ^ k - 1)).testBit j = (x.testBit j && decide (k ≤ j)) := by
  rw [Nat.testBit_and, flip_bit hj, Nat.testBit_two_pow_sub_one]
  congr 1
  by_cases h : j < k
  · rw [decide_eq_true h, decide_eq_false (by omega)]; rfl
  · rw [decide_eq_false h, decide_eq_true (by omega)]; rfl
theorem next_c {m : Mem} {G : Nat → Nat} {s : Int} (hT : Tz m) (h : WOk G) (hs : s ≤ 9223372036854775807) : FCalls Tryd.prog 12 [wv G, .int .i64 s] m fun v m' => m' = m ∧ ∃ r, NextIs (has G) s r ∧ v = nextV r := by
  refine fcalls_of_vc (T := tbl) (B := bodies) (pr := [2]) (DR := dr12) (args := [.ints .u64 (W G), .v (.int .i64 s)]) tbl_ok bodies_ok mixed Tryd.func12 rfl (by decide +kernel) (by simp [Tryd.f12]) rfl ?_
  obtain ⟨s', hs', h0⟩ : ∃ s' : Int, (if (0 : Int) > s then 0 else s) = s' ∧ 0 ≤ s' := ⟨_, rfl, by split <;> omega⟩
  have hiff : ∀ c : Nat, s ≤ c ↔ s' ≤ c := fun c => by rw [← hs']; split <;> omega
  have hle : s' ≤ 9223372036854775807 := by rw [← hs']; split <;> omega
  (conv => whnf)
  rw [hs']
  refine ⟨rfl, W_len.symm, ?_⟩
  (conv => whnf)
  refine loop_keep [1, 10] Nat (fun i => [(11, .v (.int .i64 i))]) (fun _ => [.ints .u64 (W G)]) (fun _ => m) (fun i => i ≤ 4 ∧ ∀ c : Nat, s' ≤ c → c < 64 * i → has G c = false) (fun i => 4 - i) 0 ⟨rfl, trivial⟩ rfl rfl ⟨by omega, by omega⟩ ?_
  (conv => whnf)
  refine ⟨rfl, fun i hi => ?_⟩
  obtain ⟨hi, hc⟩ := hi
  (conv => whnf)
  refine brk_intro (fun h1 => ?_) (fun h1 => ?_)
  · have h1 : (i : Int) < 4 := by simpa using h1
    have hi4 : i < 4 := by omega
    have e1 : (W G).getD (i : Int).toNat 0 = ((G i : Nat) : Int) := by
      rw [show (i : Int).toNat = i by omega, W_at (by omega)]
    have e2 : IntKind.i64.wrap (64 * IntKind.i64.wrap ((i : Int) + 1)) = 64 * (i : Int) + 64 := by
      rw [wrap_id (x := (i : Int) + 1) (by omega) (by omega), wrap_id (by omega) (by omega)]
      omega
    have e3 : IntKind.i64.wrap (64 * (i : Int)) = 64 * (i : Int) := wrap_id (by omega) (by omega)
    (conv => whnf)
    refine ⟨by omega, h1, by rw [W_len]; omega, ?_⟩
    (conv => whnf)
    rw [e1]
    have next : ∀ c : Nat, s' ≤ c → c < 64 * (i + 1) → (64 * i ≤ c → (G i).testBit (c - 64 * i) = false) → has G c = false := by
      intro c k1 k2 k3
      by_cases k4 : c < 64 * i
      · exact hc c k1 k4
      · unfold has
        rw [show c / 64 = i by omega, show c % 64 = c - 64 * i by omega]
        exact k3 (by omega)
    refine brk_intro (fun h2 => ?_) (fun h2 => ?_)
    · rw [e2] at h2
      have h2 : s' ≥ 64 * (i : Int) + 64 := by simpa using h2
      (conv => whnf)
      refine ⟨i + 1, le_eq ⟨by show some (AV.v (.int .i64 (IntKind.i64.wrap ((i : Int) + 1)))) = _; rw [step1 i (by omega)], rfl, rfl, trivial⟩ rfl rfl rfl, ⟨by omega, fun c k1 k2 => next c k1 k2 fun k3 => by omega⟩, by omega⟩
    · rw [e2] at h2
      have h2 : ¬ s' ≥ 64 * (i : Int) + 64 := by simpa using h2
      (conv => whnf)
      refine brk_intro (fun h3 => ?_) (fun h3 => ?_)
      · rw [e3] at h3
        have h3 : s' > 64 * (i : Int) := by simpa using h3
        have e4 : IntKind.i64.wrap (s' - IntKind.i64.wrap (64 * (i : Int))) = (((s' - 64 * (i : Int)).toNat : Nat) : Int) := by rw [e3, wrap_id (by omega) (by omega)]; omega
        obtain ⟨d, hd, hd64⟩ : ∃ d : Nat, (s' - 64 * (i : Int)).toNat = d ∧ d < 64 := ⟨_, rfl, by omega⟩
        have hd' : s' = 64 * (i : Int) + d := by omega
        rw [hd] at e4
        have e5 : bits .andNot .u64 ((G i : Nat) : Int) (IntKind.u64.wrap (IntKind.u64.wrap (1 * 2 ^ (min (IntKind.i64.wrap (s' - IntKind.i64.wrap (64 * (i : Int)))).toNat IntKind.u64.bits)) - 1)) = ((G i &&& flip64 (2 ^ d - 1) : Nat) : Int) := by
          have h0 : 0 < 2 ^ d := Nat.two_pow_pos d
          have h9 := pow64 hd64
          rw [one_shl e4 hd64, IntKind.wrap_u64, show (((2 ^ d : Nat) : Int) - 1) % 18446744073709551616 = ((2 ^ d - 1 : Nat) : Int) by
            generalize 2 ^ d = y at *
            omega, u64_andNot_nat _ _ (h i hi4) (by omega), flip_eq (by omega)]
        have hok : G i &&& flip64 (2 ^ d - 1) < 18446744073709551616 := and_lt (h i hi4)
        have hbit : ∀ j, j < 64 → (G i &&& flip64 (2 ^ d - 1)).testBit j = ((G i).testBit j && decide (d ≤ j)) := fun j hj => mask_lo hj hd64
        (conv => whnf)
        refine ⟨by rw [e4]; omega, ?_⟩
        (conv => whnf)
        rw [e5]
        generalize G i &&& flip64 (2 ^ d - 1) = y at *
        (conv => whnf)
        refine brk_intro (fun h4 => ?_) (fun h4 => ?_)
        · have h4 : y ≠ 0 := by
            intro h0
            simp only [bne_iff_ne, ne_eq] at h4
            exact h4 (by rw [h0]; rfl)
          have hz := ctz_bit (x := y) hok h4
          (conv => whnf)
          refine FCalls.mono (tz_c hT hok h4) fun v m' ⟨h5, h6⟩ => ?_
          subst h5 h6
          generalize Lib.ctz 64 (y) = z at *
          obtain ⟨z1, z2, z3⟩ := hz
          (conv => whnf)
          refine ⟨rfl, some (64 * i + z), .some _ ((hiff _).2 ?_) (by omega) ?_ fun c k1 k2 => next c ((hiff c).1 k1) (by omega) fun k3 => ?_, ?_⟩
          · rw [hbit z z1, Bool.and_eq_true, decide_eq_true_eq] at z2; omega
          · unfold has
            rw [show (64 * i + z) / 64 = i by omega, show (64 * i + z) % 64 = z by omega]
            rw [hbit z z1, Bool.and_eq_true] at z2; exact z2.1
          · have k1' := (hiff c).1 k1
            have := z3 (c - 64 * i) (by omega)
            rw [hbit _ (by omega), decide_eq_true (by omega), Bool.and_true] at this; exact this
          · show single [_, _] = _
            rw [e3, wrap_id (by omega) (by omega)]
            rfl
        · have h4 : y = 0 := by
            simp only [bne_eq_false_iff_eq] at h4
            omega
          (conv => whnf)
          refine ⟨i + 1, le_eq ⟨by show some (AV.v (.int .i64 (IntKind.i64.wrap ((i : Int) + 1)))) = _; rw [step1 i (by omega)], rfl, rfl, trivial⟩ rfl rfl rfl, ⟨by omega, fun c k1 k2 => next c k1 k2 fun k3 => ?_⟩, by omega⟩
          have : (y).testBit (c - 64 * i) = false := by rw [h4]; exact Nat.zero_testBit _
          rw [hbit _ (by omega), decide_eq_true (by omega), Bool.and_true] at this; exact this
      · rw [e3] at h3
        have h3 : ¬ s' > 64 * (i : Int) := by simpa using h3
        have hok := h i hi4
        (conv => whnf)
        refine brk_intro (fun h4 => ?_) (fun h4 => ?_)
        · have h4 : G i ≠ 0 := by
            intro h0
            simp only [bne_iff_ne, ne_eq] at h4
            exact h4 (by rw [h0]; rfl)
          have hz := ctz_bit (x := G i) hok h4
          (conv => whnf)
          refine FCalls.mono (tz_c hT hok h4) fun v m' ⟨h5, h6⟩ => ?_
          subst h5 h6
          generalize Lib.ctz 64 (G i) = z at *
          obtain ⟨z1, z2, z3⟩ := hz
          (conv => whnf)
          refine ⟨rfl, some (64 * i + z), .some _ ((hiff _).2 ?_) (by omega) ?_ fun c k1 k2 => next c ((hiff c).1 k1) (by omega) fun k3 => ?_, ?_⟩
          · omega
          · unfold has
            rw [show (64 * i + z) / 64 = i by omega, show (64 * i + z) % 64 = z by omega]
            exact z2
          · have k1' := (hiff c).1 k1
            have := z3 (c - 64 * i) (by omega)
            exact this
          · show single [_, _] = _
            rw [e3, wrap_id (by omega) (by omega)]
            rfl
        · have h4 : G i = 0 := by
            simp only [bne_eq_false_iff_eq] at h4
            omega
          (conv => whnf)
          refine ⟨i + 1, le_eq ⟨by show some (AV.v (.int .i64 (IntKind.i64.wrap ((i : Int) + 1)))) = _; rw [step1 i (by omega)], rfl, rfl, trivial⟩ rfl rfl rfl, ⟨by omega, fun c k1 k2 => next c k1 k2 fun k3 => ?_⟩, by omega⟩
          have : (G i).testBit (c - 64 * i) = false := by rw [h4]; exact Nat.zero_testBit _
          exact this
  · have h1 : ¬ ((i : Int) < 4) := by simpa using h1
    have h1 : i = 4 := by omega
    subst h1
    (conv => whnf)
    exact ⟨rfl, none, .none fun c k1 k2 => hc c ((hiff c).1 k1) k2, rfl⟩
end Go.Proofs.YtegeeofjebpgbaaDoor
