/- Chars: the library's tables; laws of its decoder. -/
import Derived.Test.YtlnekbdcbkndbaaDoorMvTab
import Derived.Test.YtlnekbdcbkndbaaDoorMvOpen
import Derived.Test.YtlnekbdcbkndbaaDoorMvGen
import Derived.Lib.DecodeN
import Derived.Laws.BitsLemmas
import Derived.Shelf.Unicode.DecodeSlow
namespace Go.Proofs.YtlnekbdcbkndbaaDoor
open Go Go.Mv
set_option maxHeartbeats 2000000
set_option maxRecDepth 10000
set_option linter.unusedVariables false
set_option linter.unusedSimpArgs false
attribute [local irreducible] FCalls IntKind.wrap bits Mem.set Mem.setCell Mem.setCells YCalls RunP NextP
/-- The library's tables. -/
def U8 (m : Mem) : Prop := (∀ i : Nat, i < 256 → m.cell ⟨0, i, none⟩ = some (.int .u8 ((Lib.firstT i : Nat) : Int))) ∧
  ∀ i : Nat, i < 16 → m.cell ⟨1, i * 2, none⟩ = some (.int .u8 ((Lib.accLo i : Nat) : Int)) ∧ m.cell ⟨1, i * 2 + 1, none⟩ = some (.int .u8 ((Lib.accHi i : Nat) : Int))
theorem U8.more {m m' : Mem} (h : U8 m) (hm : m.le m') : U8 m' := ⟨fun i hi => Mem.le_cell hm (h.1 i hi), fun i hi => ⟨Mem.le_cell hm (h.2 i hi).1, Mem.le_cell hm (h.2 i hi).2⟩⟩
theorem bt_get (s : ByteArray) (i : Nat) : bt s (i : Int) = (((s.get! i).toNat : Nat) : Int) := by
  unfold bt
  rw [show ((i : Nat) : Int).toNat = i from rfl]
  simp [ByteArray.get!, List.getD, Array.getD]
  rw [getElem!_def]
  cases s.data[i]? <;> rfl
theorem first_lt (b : Nat) : Lib.firstT b < 256 := by
  unfold Lib.firstT
  repeat' split
  all_goals omega
theorem first_lo {b : Nat} (hb : b < 256) (h : 240 ≤ Lib.firstT b) : (b < 128 ∧ Lib.firstT b = 240) ∨ (128 ≤ b ∧ Lib.firstT b = 241 ∧ ∀ n b1 b2 b3, Lib.decodeN n b b1 b2 b3 = (65533, 1)) := by
  unfold Lib.firstT at h ⊢
  by_cases h1 : b < 128
  · exact .inl ⟨h1, by rw [if_pos h1]⟩
  · refine .inr ⟨by omega, ?_, fun n b1 b2 b3 => ?_⟩
    · rw [if_neg h1] at h ⊢
      repeat' split at h
      all_goals first | omega | (repeat' split) <;> first | rfl | omega
    · have hr : b < 194 ∨ 245 ≤ b := by
        rw [if_neg h1] at h
        repeat' split at h
        all_goals omega
      unfold Lib.decodeN
      repeat' split
      all_goals first | rfl | (exfalso; omega)
theorem slow_eq {b0 n b1 b2 b3 : Nat} (hn : 1 ≤ n) (h0 : b0 < 256) (h1 : b1 < 256) (h2 : b2 < 256) (h3 : b3 < 256) (h : Lib.firstT b0 < 240) :
    2 ≤ Lib.firstT b0 % 8 ∧ Lib.firstT b0 % 8 ≤ 4 ∧ Lib.firstT b0 / 16 < 16 ∧ 128 ≤ b0 ∧ Lib.slowN n b0 b1 b2 b3 (Lib.firstT b0 % 8) (Lib.accLo (Lib.firstT b0 / 16)) (Lib.accHi (Lib.firstT b0 / 16)) = Lib.decodeN n b0 b1 b2 b3 := by
  have hc : (194 ≤ b0 ∧ b0 < 224 ∧ Lib.firstT b0 = 2) ∨ (b0 = 224 ∧ Lib.firstT b0 = 19) ∨ (((225 ≤ b0 ∧ b0 < 237) ∨ (238 ≤ b0 ∧ b0 < 240)) ∧ Lib.firstT b0 = 3) ∨ (b0 = 237 ∧ Lib.firstT b0 = 35) ∨ (b0 = 240 ∧ Lib.firstT b0 = 52) ∨ (241 ≤ b0 ∧ b0 < 244 ∧ Lib.firstT b0 = 4) ∨ (b0 = 244 ∧ Lib.firstT b0 = 68) := by
    unfold Lib.firstT at h ⊢
    repeat' split at h
    all_goals first | (exfalso; omega) | skip
    all_goals (repeat' split) <;> first | omega | (exfalso; omega)
  rcases hc with ⟨e1, e2, e⟩ | ⟨e1, e⟩ | ⟨e1, e⟩ | ⟨e1, e⟩ | ⟨e1, e⟩ | ⟨e1, e2, e⟩ | ⟨e1, e⟩
  all_goals rw [e]
  · exact ⟨by decide, by decide, by decide, by omega, Lib.slow_C2 n b0 b1 b2 b3 hn h1 h2 h3 ⟨e1, e2⟩⟩
  · exact ⟨by decide, by decide, by decide, by omega, Lib.slow_E0 n b0 b1 b2 b3 hn h1 h2 h3 e1⟩
  · exact ⟨by decide, by decide, by decide, by omega, Lib.slow_E1 n b0 b1 b2 b3 hn h1 h2 h3 e1⟩
  · exact ⟨by decide, by decide, by decide, by omega, Lib.slow_ED n b0 b1 b2 b3 hn h1 h2 h3 e1⟩
  · exact ⟨by decide, by decide, by decide, by omega, Lib.slow_F0 n b0 b1 b2 b3 hn h1 h2 h3 e1⟩
  · exact ⟨by decide, by decide, by decide, by omega, Lib.slow_F1 n b0 b1 b2 b3 hn h1 h2 h3 ⟨e1, e2⟩⟩
  · exact ⟨by decide, by decide, by decide, by omega, Lib.slow_F4 n b0 b1 b2 b3 hn h1 h2 h3 e1⟩
end Go.Proofs.YtlnekbdcbkndbaaDoor
