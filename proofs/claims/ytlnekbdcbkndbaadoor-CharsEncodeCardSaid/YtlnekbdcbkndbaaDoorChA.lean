/- Chars: the library's decoder. -/
import Derived.Test.YtlnekbdcbkndbaaDoorChU
namespace Go.Proofs.YtlnekbdcbkndbaaDoor
open Go Go.Mv
set_option maxHeartbeats 2000000
set_option maxRecDepth 10000
set_option linter.unusedVariables false
set_option linter.unusedSimpArgs false
attribute [local irreducible] FCalls IntKind.wrap bits Mem.set Mem.setCell Mem.setCells YCalls RunP NextP
theorem slow_c {m : Mem} (hU : U8 m) {s : ByteArray} (hn : 1 ≤ s.size) (hs : s.size < 2 ^ 62) : FCalls Tryd.prog 46 [.string s] m fun v m' => v = .tuple #[.int .i32 (((Utf8.decode s 0).1 : Nat) : Int), .int .i64 (((Utf8.decode s 0).2 : Nat) : Int)] ∧ m' = m := by
  rw [Lib.decode_at]
  have g0 := bt_get s 0
  have g1 := bt_get s 1
  have g2 := bt_get s 2
  have g3 := bt_get s 3
  have l0 := (s.get! 0).toNat_lt
  have l1 := (s.get! 1).toNat_lt
  have l2 := (s.get! 2).toNat_lt
  have l3 := (s.get! 3).toNat_lt
  simp only [Nat.zero_add, Nat.sub_zero]
  generalize (s.get! 0).toNat = b0 at *
  generalize (s.get! 1).toNat = b1 at *
  generalize (s.get! 2).toNat = b2 at *
  generalize (s.get! 3).toNat = b3 at *
  have hf := first_lt b0
  have hfc := hU.1 b0 l0
  refine fcalls_of_vc (T := tbl) (B := bodies) (pr := [9]) (DR := dr46) (args := [.v (.string s)]) tbl_ok bodies_ok mixed Tryd.func46 rfl (by decide +kernel) (by simp [Tryd.f46]) rfl ?_
  (conv => whnf)
  refine brk_false (by simp; omega) ?_
  (conv => whnf)
  refine ⟨by omega, by omega, ?_⟩
  (conv => whnf)
  rw [show bt s 0 = ((b0 : Nat) : Int) from g0]
  refine ⟨by omega, by omega, ?_⟩
  (conv => whnf)
  refine ⟨_, by show m.cell (Addr.add ⟨0, 0, none⟩ (b0 * 1)) = _; rw [Nat.mul_one, add_mk, Nat.zero_add]; exact hfc, ?_⟩
  (conv => whnf)
  refine brk_intro (fun c1 => ?_) (fun c1 => ?_)
  · have c1 : (240 : Int) ≤ ((Lib.firstT b0 : Nat) : Int) := by simpa using c1
    rcases first_lo l0 (by omega) with ⟨h1, h2⟩ | ⟨h1, h2, h3⟩
    · rw [h2]
      (conv => whnf)
      refine ⟨by decide, ?_⟩
      (conv => whnf)
      refine ⟨by decide, ?_⟩
      (conv => whnf)
      refine ⟨by decide, by omega, ?_⟩
      (conv => whnf)
      rw [show bt s 0 = ((b0 : Nat) : Int) from g0]
      have e1 : (IntKind.i32.wrap (IntKind.i32.wrap ((240 : Nat) : Int) * 2 ^ (min (Int.toNat 31) IntKind.i32.bits))).fdiv (2 ^ (min (Int.toNat 31) IntKind.i32.bits)) = 0 := by
        rw [IntKind.wrap_i32, IntKind.wrap_i32]
        decide
      have e2 : bits .or .i32 (bits .andNot .i32 ((b0 : Nat) : Int) 0) (bits .and .i32 65533 0) = ((b0 : Nat) : Int) := Utf8W.keep_byte ⟨b0, l0⟩
      have e3 : IntKind.i32.wrap ((b0 : Nat) : Int) = ((b0 : Nat) : Int) := wraps_i32 _ (by omega) (by omega)
      refine ⟨?_, rfl⟩
      unfold Lib.decodeN
      rw [if_pos h1, e3]
      exact congrArg (fun z => Value.tuple #[.int .i32 z, .int .i64 1]) (by rw [e1]; exact e2)
    · rw [h2, h3]
      (conv => whnf)
      refine ⟨by decide, ?_⟩
      (conv => whnf)
      refine ⟨by decide, ?_⟩
      (conv => whnf)
      refine ⟨by decide, by omega, ?_⟩
      (conv => whnf)
      rw [show bt s 0 = ((b0 : Nat) : Int) from g0]
      have e1 : (IntKind.i32.wrap (IntKind.i32.wrap ((241 : Nat) : Int) * 2 ^ (min (Int.toNat 31) IntKind.i32.bits))).fdiv (2 ^ (min (Int.toNat 31) IntKind.i32.bits)) = -1 := by
        rw [IntKind.wrap_i32, IntKind.wrap_i32]
        decide
      have e2 : bits .or .i32 (bits .andNot .i32 ((b0 : Nat) : Int) (-1)) (bits .and .i32 65533 (-1)) = 65533 := Utf8W.drop_byte ⟨b0, l0⟩
      have e3 : IntKind.i32.wrap ((b0 : Nat) : Int) = ((b0 : Nat) : Int) := wraps_i32 _ (by omega) (by omega)
      refine ⟨?_, rfl⟩
      rw [e3]
      exact congrArg (fun z => Value.tuple #[.int .i32 z, .int .i64 1]) (by rw [e1]; exact e2)
  · have c1 : ¬ (240 : Int) ≤ ((Lib.firstT b0 : Nat) : Int) := by simpa using c1
    obtain ⟨k1, k2, k3, k4, k5⟩ := slow_eq (b1 := b1) (b2 := b2) (b3 := b3) hn l0 l1 l2 l3 (by omega)
    rw [← k5]
    obtain ⟨a1, a2⟩ := hU.2 _ k3
    generalize hx : Lib.firstT b0 = x at *
    have e1 : bits .and .u8 ((x : Nat) : Int) 7 = ((x % 8 : Nat) : Int) := by rw [u8_and7 _ (by omega) (by omega)]; omega
    have e2 : ((x : Nat) : Int).fdiv (2 ^ (min 4 8)) = ((x / 16 : Nat) : Int) := by
      show ((x : Nat) : Int).fdiv 16 = _
      rw [Int.fdiv_eq_ediv_of_nonneg _ (by decide)]
      omega
    (conv => whnf)
    rw [e1]
    (conv => whnf)
    refine ⟨by decide, ?_⟩
    (conv => whnf)
    have e3 : ((x : Nat) : Int).fdiv (2 ^ (min (Int.toNat 4) IntKind.u8.bits)) = ((x / 16 : Nat) : Int) := e2
    rw [e3]
    refine ⟨by omega, by omega, ?_⟩
    (conv => whnf)
    refine ⟨_, by show m.cell (Addr.add (Addr.add ⟨1, 0, none⟩ (x / 16 * 2)) 0) = _; rw [add_mk, add_mk, Nat.zero_add, Nat.add_zero]; exact a1, ?_⟩
    (conv => whnf)
    refine ⟨_, by show m.cell (Addr.add (Addr.add ⟨1, 0, none⟩ (x / 16 * 2)) 1) = _; rw [add_mk, add_mk, Nat.zero_add]; exact a2, ?_⟩
    (conv => whnf)
    generalize Lib.accLo (x / 16) = lo at *
    generalize Lib.accHi (x / 16) = hi at *
    generalize x % 8 = sz at *
    have hw : IntKind.i64.wrap ((sz : Nat) : Int) = ((sz : Nat) : Int) := wrap_id (by omega) (by omega)
    have f31 : bits .and .u8 ((b0 : Nat) : Int) 31 = ((b0 % 32 : Nat) : Int) := by rw [u8_and31 _ (by omega) (by omega)]; omega
    have f15 : bits .and .u8 ((b0 : Nat) : Int) 15 = ((b0 % 16 : Nat) : Int) := by rw [u8_and15 _ (by omega) (by omega)]; omega
    have f7 : bits .and .u8 ((b0 : Nat) : Int) 7 = ((b0 % 8 : Nat) : Int) := by rw [u8_and7 _ (by omega) (by omega)]; omega
    have f63 : ∀ b : Nat, b < 256 → IntKind.i32.wrap (bits .and .u8 ((b : Nat) : Int) 63) = ((b % 64 : Nat) : Int) := fun b hb => by
      rw [u8_and63 _ (by omega) (by omega), wraps_i32 _ (by omega) (by omega)]
      omega
    have fs : ∀ (a k j : Nat), a * 2 ^ k < 2147483648 → k = j → j < 32 → IntKind.i32.wrap (((a : Nat) : Int) * 2 ^ (min (Int.toNat ((j : Nat) : Int)) IntKind.i32.bits)) = ((a * 2 ^ k : Nat) : Int) := fun a k j h1 h2 h3 => by
      have h4 : min (Int.toNat ((j : Nat) : Int)) IntKind.i32.bits = k := by
        show min j 32 = k
        omega
      rw [h4]
      have h5 : ((a : Nat) : Int) * 2 ^ k = ((a * 2 ^ k : Nat) : Int) := by push_cast; rfl
      rw [h5, wraps_i32 _ (Int.natCast_nonneg _) (by exact_mod_cast h1)]
    have w0 : ∀ a : Nat, a < 256 → IntKind.i32.wrap ((a : Nat) : Int) = ((a : Nat) : Int) := fun a h => wraps_i32 _ (by omega) (by omega)
    unfold Lib.slowN
    rw [hw]
    refine brk_intro (fun c2 => ?_) (fun c2 => ?_)
    · have c2 : s.size < sz := by have : (s.size : Int) < ((sz : Nat) : Int) := (by simpa using c2); omega
      (conv => whnf)
      exact ⟨by rw [if_pos c2]; rfl, rfl⟩
    · have c2 : ¬ s.size < sz := by have : ¬ (s.size : Int) < ((sz : Nat) : Int) := (by simpa using c2); omega
      rw [if_neg c2]
      (conv => whnf)
      refine ⟨by omega, by omega, ?_⟩
      (conv => whnf)
      rw [show bt s 1 = ((b1 : Nat) : Int) from g1]
      by_cases c3 : b1 < lo ∨ hi < b1
      case' pos =>
        rw [if_pos c3]
        by_cases c4 : b1 < lo
        case' pos =>
          refine brk_false (by simp; omega) ?_
        case' neg =>
          refine brk_true (by simp; omega) ?_
          (conv => whnf)
          refine brk_true (by simp; omega) ?_
        all_goals
          (conv => whnf)
          exact ⟨rfl, rfl⟩
      rw [if_neg c3]
      refine brk_true (by simp; omega) ?_
      (conv => whnf)
      refine brk_false (by simp; omega) ?_
      (conv => whnf)
      by_cases c6 : sz ≤ 2
      · rw [if_pos c6]
        refine brk_true (by simp; omega) ?_
        (conv => whnf)
        refine ⟨by decide, ?_⟩
        (conv => whnf)
        refine ⟨?_, rfl⟩
        refine congrArg (fun z => Value.tuple #[.int .i32 z, .int .i64 2]) ?_
        rw [f31, f63 b1 l1, w0 _ (by omega)]
        have h1 := fs (b0 % 32) 6 6 (by omega) rfl (by decide)
        refine (congrArg (fun z => bits .or .i32 z ((b1 % 64 : Nat) : Int)) h1).trans ?_
        rw [i32_or6 _ _ (by omega) (by omega) (by omega) (by omega) (by omega)]
        simp only
        omega
      · rw [if_neg c6]
        refine brk_false (by simp; omega) ?_
        (conv => whnf)
        refine ⟨by omega, by omega, ?_⟩
        (conv => whnf)
        rw [show bt s 2 = ((b2 : Nat) : Int) from g2]
        by_cases d2 : b2 < 128 ∨ 191 < b2
        case' pos =>
          rw [if_pos d2]
          by_cases c5 : b2 < 128
          case' pos =>
            refine brk_false (by simp; omega) ?_
          case' neg =>
            refine brk_true (by simp; omega) ?_
            (conv => whnf)
            refine brk_true (by simp; omega) ?_
          all_goals
            (conv => whnf)
            exact ⟨rfl, rfl⟩
        rw [if_neg d2]
        refine brk_true (by simp; omega) ?_
        (conv => whnf)
        refine brk_false (by simp; omega) ?_
        (conv => whnf)
        by_cases c7 : sz ≤ 3
        · rw [if_pos c7]
          refine brk_true (by simp; omega) ?_
          (conv => whnf)
          refine ⟨by decide, ?_⟩
          (conv => whnf)
          refine ⟨by decide, ?_⟩
          (conv => whnf)
          refine ⟨?_, rfl⟩
          refine congrArg (fun z => Value.tuple #[.int .i32 z, .int .i64 3]) ?_
          rw [f15, f63 b1 l1, f63 b2 l2, w0 _ (by omega)]
          have h1 := fs (b0 % 16) 12 12 (by omega) rfl (by decide)
          have h2 := fs (b1 % 64) 6 6 (by omega) rfl (by decide)
          refine (congrArg (fun z => bits .or .i32 (bits .or .i32 z _) ((b2 % 64 : Nat) : Int)) h1).trans ?_
          refine (congrArg (fun z => bits .or .i32 (bits .or .i32 _ z) ((b2 % 64 : Nat) : Int)) h2).trans ?_
          rw [i32_or12 ((b0 % 16 * 2 ^ 12 : Nat) : Int) ((b1 % 64 * 2 ^ 6 : Nat) : Int) (by omega) (by omega) (by omega) (by omega) (by omega), i32_or6 _ _ (by omega) (by omega) (by omega) (by omega) (by omega)]
          simp only
          omega
        · rw [if_neg c7]
          refine brk_false (by simp; omega) ?_
          (conv => whnf)
          refine ⟨by omega, by omega, ?_⟩
          (conv => whnf)
          rw [show bt s 3 = ((b3 : Nat) : Int) from g3]
          by_cases d3 : b3 < 128 ∨ 191 < b3
          case' pos =>
            rw [if_pos d3]
            by_cases c5 : b3 < 128
            case' pos =>
              refine brk_false (by simp; omega) ?_
            case' neg =>
              refine brk_true (by simp; omega) ?_
              (conv => whnf)
              refine brk_true (by simp; omega) ?_
            all_goals
              (conv => whnf)
              exact ⟨rfl, rfl⟩
          rw [if_neg d3]
          refine brk_true (by simp; omega) ?_
          (conv => whnf)
          refine brk_false (by simp; omega) ?_
          (conv => whnf)
          refine ⟨by decide, ?_⟩
          (conv => whnf)
          refine ⟨by decide, ?_⟩
          (conv => whnf)
          refine ⟨by decide, ?_⟩
          (conv => whnf)
          refine ⟨?_, rfl⟩
          refine congrArg (fun z => Value.tuple #[.int .i32 z, .int .i64 4]) ?_
          rw [f7, f63 b1 l1, f63 b2 l2, f63 b3 l3, w0 _ (by omega)]
          have h1 := fs (b0 % 8) 18 18 (by omega) rfl (by decide)
          have h2 := fs (b1 % 64) 12 12 (by omega) rfl (by decide)
          have h3 := fs (b2 % 64) 6 6 (by omega) rfl (by decide)
          refine (congrArg (fun z => bits .or .i32 (bits .or .i32 (bits .or .i32 z _) _) ((b3 % 64 : Nat) : Int)) h1).trans ?_
          refine (congrArg (fun z => bits .or .i32 (bits .or .i32 (bits .or .i32 _ z) _) ((b3 % 64 : Nat) : Int)) h2).trans ?_
          refine (congrArg (fun z => bits .or .i32 (bits .or .i32 _ z) ((b3 % 64 : Nat) : Int)) h3).trans ?_
          rw [i32_or18 ((b0 % 8 * 2 ^ 18 : Nat) : Int) ((b1 % 64 * 2 ^ 12 : Nat) : Int) (by omega) (by omega) (by omega) (by omega) (by omega), i32_or12 (((b0 % 8 * 2 ^ 18 : Nat) : Int) + ((b1 % 64 * 2 ^ 12 : Nat) : Int)) ((b2 % 64 * 2 ^ 6 : Nat) : Int) (by omega) (by omega) (by omega) (by omega) (by omega), i32_or6 _ _ (by omega) (by omega) (by omega) (by omega) (by omega)]
          simp only
          omega
end Go.Proofs.YtlnekbdcbkndbaaDoor
