/- Sets: Fold, Of. -/
import Derived.Test.YtegeeofjebpgbaaDoorSsD
namespace Go.Proofs.YtegeeofjebpgbaaDoor
open Go Go.Mv
set_option maxHeartbeats 400000
set_option maxRecDepth 10000
set_option linter.unusedVariables false
set_option linter.unusedSimpArgs false
attribute [local irreducible] FCalls IntKind.wrap bits Mem.set Mem.setCell Mem.setCells
def foldW (x : Nat) : Nat := x ||| ((x &&& 134217726) * 4294967296 ||| (x / 4294967296 &&& 134217726))
def foldG (G : Nat → Nat) (k : Nat) : Nat := if k = 1 then foldW (G k) else G k
def otherB (b : Nat) : Nat := if 65 ≤ b ∧ b ≤ 90 then b + 32 else if 97 ≤ b ∧ b ≤ 122 then b - 32 else b
theorem great_bit (i : Nat) : (134217726 : Nat).testBit i = decide (1 ≤ i ∧ i < 27) := by
  rw [show (134217726 : Nat) = (2 ^ 26 - 1) <<< 1 by decide, Nat.testBit_shiftLeft, Nat.testBit_two_pow_sub_one]
  by_cases h : 1 ≤ i
  · by_cases h2 : i < 27
    · rw [decide_eq_true (show 1 ≤ i ∧ i < 27 from ⟨h, h2⟩)]
      simp only [h, decide_true, Bool.true_and]
      exact decide_eq_true (by omega)
    · rw [decide_eq_false (show ¬ (1 ≤ i ∧ i < 27) from fun h' => h2 h'.2)]
      simp only [h, decide_true, Bool.true_and]
      exact decide_eq_false (by omega)
  · rw [decide_eq_false (show ¬ (1 ≤ i ∧ i < 27) from fun h' => h h'.1)]
    simp [h]
theorem foldW_lo (x : Nat) : (x &&& 134217726) * 4294967296 < 18446744073709551616 := by
  have : x &&& 134217726 ≤ 134217726 := Nat.and_le_right
  omega
theorem foldW_lt {x : Nat} (h : x < 18446744073709551616) : foldW x < 18446744073709551616 := or_lt h (or_lt (foldW_lo x) (and_lt (div_lt _ h)))
theorem fold_ok {G : Nat → Nat} (h : WOk G) : WOk (foldG G) := by
  intro k hk
  unfold foldG
  split
  · exact foldW_lt (h k hk)
  · exact h k hk
theorem foldW_bit {x i : Nat} (hi : i < 64) : (foldW x).testBit i = (x.testBit i || (decide (33 ≤ i ∧ i < 59) && x.testBit (i - 32) || decide (1 ≤ i ∧ i < 27) && x.testBit (i + 32))) := by
  unfold foldW
  rw [Nat.testBit_or, Nat.testBit_or, show (4294967296 : Nat) = 2 ^ 32 from rfl, Nat.testBit_mul_two_pow, Nat.testBit_and, Nat.testBit_and, great_bit, great_bit, Nat.testBit_div_two_pow]
  congr 2
  · by_cases h1 : 32 ≤ i
    · rw [decide_eq_true h1, Bool.true_and, Bool.and_comm]
      congr 1
      exact decide_eq_decide.2 (by omega)
    · rw [decide_eq_false h1, decide_eq_false (show ¬ (33 ≤ i ∧ i < 59) by omega)]
      rfl
  · rw [Bool.and_comm, Nat.add_comm i 32]
theorem fold_bit {G : Nat → Nat} {b : Nat} (hb : b < 256) : has (foldG G) b = (has G b || has G (otherB b)) := by
  unfold has foldG otherB
  split
  · rename_i h1
    rw [foldW_bit (by omega)]
    split
    · rename_i h2
      rw [decide_eq_false (by omega), decide_eq_true (by omega), show (b + 32) / 64 = b / 64 by omega, show (b + 32) % 64 = b % 64 + 32 by omega]
      simp
    · split
      · rename_i h3
        rw [decide_eq_true (by omega), decide_eq_false (by omega), show (b - 32) / 64 = b / 64 by omega, show (b - 32) % 64 = b % 64 - 32 by omega]
        simp
      · rw [decide_eq_false (by omega), decide_eq_false (by omega)]
        simp
  · rename_i h1
    rw [if_neg (by omega), if_neg (by omega), Bool.or_self]
theorem fold_c {m : Mem} {G : Nat → Nat} (h : WOk G) : FCalls Tryd.prog 27 [wv G] m fun v m' => v = wv (foldG G) ∧ m' = m := by
  refine fcalls_of_vc (T := tbl) (B := bodies) (pr := [1, 2]) (DR := dr27) (args := [.ints .u64 (W G)]) tbl_ok bodies_ok mixed Tryd.func27 rfl (by decide +kernel) (by simp [Tryd.f27]) rfl ?_
  (conv => whnf)
  refine ⟨by decide, by decide, ?_⟩
  (conv => whnf)
  refine ⟨by rw [W_len]; decide, ?_⟩
  (conv => whnf)
  refine ⟨by decide, by decide, ?_⟩
  (conv => whnf)
  refine ⟨by rw [W_len]; decide, ?_⟩
  (conv => whnf)
  refine ⟨by decide, ?_⟩
  (conv => whnf)
  refine ⟨by decide, by decide, ?_⟩
  (conv => whnf)
  refine ⟨by rw [W_len]; decide, ?_⟩
  (conv => whnf)
  refine ⟨by decide, ?_⟩
  (conv => whnf)
  refine ⟨by decide, by decide, ?_⟩
  (conv => whnf)
  refine ⟨by rw [W_len]; decide, ?_⟩
  (conv => whnf)
  refine ⟨rfl, by rw [List.length_set, W_len]; rfl, ?_⟩
  (conv => whnf)
  refine ⟨rfl, by rw [List.length_set, W_len]; rfl, by rw [List.length_set, W_len]; rfl, ?_⟩
  (conv => whnf)
  refine ⟨rfl, by rw [List.length_set, W_len]; rfl, ?_⟩
  (conv => whnf)
  refine ⟨?_, rfl⟩
  have e1 : 0 + (1 : Int).toNat * (tbl.at 22).size = 1 := by decide
  have h1 := h 1 (by decide)
  rw [e1, W_at (by decide)]
  rw [and_u64 134217726 134217726 rfl h1 (by decide)]
  have e2 : IntKind.u64.wrap (((G 1 &&& 134217726 : Nat) : Int) * 2 ^ (min (32 : Int).toNat IntKind.u64.bits)) = (((G 1 &&& 134217726) * 4294967296 : Nat) : Int) := by
    show IntKind.u64.wrap (((G 1 &&& 134217726 : Nat) : Int) * 4294967296) = _
    exact wrap_u64_nat (foldW_lo (G 1))
  rw [e2, shr_c 32 32 4294967296 rfl rfl (by omega), and_u64 134217726 134217726 rfl (div_lt _ h1) (by decide)]
  rw [u64_or_nat _ _ (foldW_lo _) (and_lt (div_lt _ h1)), u64_or_nat _ _ h1 (or_lt (foldW_lo _) (and_lt (div_lt _ h1)))]
  rw [W_set (H := foldG G) (by decide) (by unfold foldG; rw [if_pos rfl]; rfl) (fun k hk => by unfold foldG; rw [if_neg hk])]
  rfl
/-! ### Of -/
def ofG : List UInt8 → Nat → Nat := fun l => l.foldl (fun G b => with' G b.toNat) fun _ => 0
theorem ofG_snoc (l : List UInt8) (b : UInt8) : ofG (l ++ [b]) = with' (ofG l) b.toNat := by simp [ofG]
theorem ofG_ok (l : List UInt8) : WOk (ofG l) := by
  have : ∀ (l : List UInt8) (G : Nat → Nat), WOk G → WOk (l.foldl (fun G b => with' G b.toNat) G) := by
    intro l
    induction l with
    | nil => exact fun G h => h
    | cons b r ih => exact fun G h => ih _ (with_ok h)
  exact this l _ fun k hk => Nat.two_pow_pos 64
theorem ofG_bit (l : List UInt8) (c : Nat) : has (ofG l) c = l.any fun b => decide (b.toNat = c) := by
  have : ∀ (l : List UInt8) (G : Nat → Nat), has (l.foldl (fun G b => with' G b.toNat) G) c = (has G c || l.any fun b => decide (b.toNat = c)) := by
    intro l
    induction l with
    | nil => intro G; simp
    | cons b r ih =>
      intro G
      simp only [List.foldl_cons, List.any_cons]
      rw [ih, with_bit, Bool.or_assoc]
  unfold ofG
  rw [this]
  have : has (fun _ => 0) c = false := Nat.zero_testBit _
  rw [this, Bool.false_or]
theorem byte_cell {m : Mem} {b cap e i : Nat} {t : ByteArray} {x : UInt8} (h : t.data.toList[i]? = some x) : (m.set b (bytesObj t cap e)).cell ⟨b, i, none⟩ = some (.int .u8 ((x.toNat : Nat) : Int)) := by
  have hi := (List.getElem?_eq_some_iff.1 h).1
  simp only [Mem.cell, Mem.set, if_true, bytesObj, byteRow, byteVals]
  simp only [Option.isSome_none, Bool.false_eq_true, if_false, List.getElem?_toArray]
  rw [List.getElem?_append_left (by simpa using hi)]
  simp only [List.getElem?_map, h, Option.map_some]
theorem ix5' (i : Nat) : ((i : Nat) : Int).toNat * (tbl.at 5).size = i := by
  show ((i : Nat) : Int).toNat * 1 = i
  omega
theorem of_c {m : Mem} {t : ByteArray} (ht : t.size < 2 ^ 62) : FCalls Tryd.prog 40 [.string t] m fun v m' => v = wv (ofG t.data.toList) ∧ m' = m := by
  refine FCalls.less ?_
  refine fcalls_of_vc (T := tbl) (B := bodies) (pr := [2, 3]) (DR := dr40) (args := [.v (.string t)]) tbl_ok bodies_ok mixed Tryd.func40 rfl (by decide +kernel) (by simp [Tryd.f40]) rfl ?_
  (conv => whnf)
  intro cap b hcap hb
  have hkeep : ∀ c o, m c = some o → (m.set b (bytesObj t cap 5)) c = some o := fun c o hc => by
    rw [Mem.set_ne (by rintro rfl; rw [hb] at hc; cases hc)]
    exact hc
  have hsz : t.data.toList.length = t.size := by simp
  (conv => whnf)
  refine loop_keep [2, 3, 7, 8] Nat (fun i => [(9, .v (.int .i64 i))]) (fun i => [.ints .u64 [0, 0, 0, 0], .ints .u64 (W (ofG (t.data.toList.take i)))]) (fun _ => m.set b (bytesObj t cap 5)) (fun i => i ≤ t.size) (fun i => t.size - i) 0 ⟨rfl, trivial⟩ rfl rfl (by omega) ?_
  (conv => whnf)
  refine ⟨rfl, fun i hi => ?_⟩
  (conv => whnf)
  refine brk_intro (fun h1 => ?_) (fun h1 => ?_)
  · have h1 : (i : Int) < t.size := by simpa using h1
    have hil : i < t.data.toList.length := by omega
    obtain ⟨x, hx⟩ : ∃ x, t.data.toList[i]? = some x := ⟨_, List.getElem?_eq_getElem hil⟩
    have hx256 := x.toNat_lt
    have q : IntKind.u8.wrap (((x.toNat : Nat) : Int).tdiv 64) = ((x.toNat / 64 : Nat) : Int) := by
      rw [Int.tdiv_eq_ediv_of_nonneg (by omega), IntKind.wrap_u8']
      omega
    have r := rem64 (b := ((x.toNat : Nat) : Int)) (by omega)
    rw [show ((x.toNat : Nat) : Int).toNat = x.toNat by omega] at r
    (conv => whnf)
    refine ⟨_, rfl, by omega, h1, ?_⟩
    (conv => whnf)
    refine ⟨_, by rw [add_mk, ix5, byte_cell hx], ?_⟩
    (conv => whnf)
    refine ⟨by decide, ?_⟩
    (conv => whnf)
    refine ⟨by rw [q]; omega, by rw [q]; show _ < (4 : Int); omega, ?_⟩
    (conv => whnf)
    refine ⟨by rw [q, ix, W_len]; omega, ?_⟩
    (conv => whnf)
    refine ⟨by decide, ?_⟩
    (conv => whnf)
    refine ⟨by rw [r]; omega, ?_⟩
    (conv => whnf)
    refine ⟨by rw [q]; omega, by rw [q]; show _ < (4 : Int); omega, ?_⟩
    (conv => whnf)
    refine ⟨by rw [q, ix, W_len]; omega, ?_⟩
    (conv => whnf)
    have hstep : IntKind.i64.wrap ((i : Int) + 1) = ((i + 1 : Nat) : Int) := by rw [wrap_id (by omega) (by omega)]; omega
    refine ⟨i + 1, le_eq ⟨by show some (AV.v (.int .i64 (IntKind.i64.wrap ((i : Int) + 1)))) = _; rw [hstep], rfl, rfl, rfl, rfl, trivial⟩ rfl ?_ rfl, by omega, by omega⟩
    refine congrArg (fun x => [LC.ints .u64 [0, 0, 0, 0], LC.ints .u64 x]) ?_
    have hok := ofG_ok (t.data.toList.take i)
    rw [q, r, ix, W_at (by omega), one_shl rfl (by omega), u64_or_nat _ _ (hok _ (by omega)) (pow64 (by omega))]
    have htake : t.data.toList.take (i + 1) = t.data.toList.take i ++ [x] := by rw [List.take_add_one, hx]; rfl
    rw [htake, ofG_snoc]
    exact W_set (by omega) (by unfold with'; rw [if_pos rfl]) (fun k hk => by unfold with'; rw [if_neg hk])
  · have h1 : ¬ ((i : Int) < t.size) := by simpa using h1
    have h1 : i = t.size := by omega
    subst h1
    rw [List.take_of_length_le (Nat.le_of_eq hsz)]
    (conv => whnf)
    refine ⟨rfl, W_len.symm, ?_⟩
    (conv => whnf)
    refine ⟨rfl, W_len.symm, W_len.symm, ?_⟩
    (conv => whnf)
    refine ⟨rfl, W_len.symm, ?_⟩
    (conv => whnf)
    exact ⟨m, hkeep, rfl, rfl⟩
end Go.Proofs.YtegeeofjebpgbaaDoor
