/- Chars: laws of the document's Next. -/
import Derived.Test.YtlnekbdcbkndbaaDoorChD
namespace Go.Proofs.YtlnekbdcbkndbaaDoor
open Go Go.Mv
set_option maxHeartbeats 400000
set_option maxRecDepth 20000
set_option linter.unusedVariables false
set_option linter.unusedSimpArgs false
def hdN (b : Nat) : Nat × Nat := if 192 ≤ b ∧ b < 224 then (2, b - 192) else if 224 ≤ b ∧ b < 240 then (3, b - 224) else if 240 ≤ b ∧ b < 248 then (4, b - 240) else (0, b)
def acc (c0 : Nat) (f : Nat → Nat) : Nat → Nat
  | 0 => c0
  | i + 1 => 64 * acc c0 f i + f (i + 1) - 128
def fb (s : ByteArray) (a j : Nat) : Nat := (s.get! (a + j)).toNat
theorem fb_lt (s : ByteArray) (a j : Nat) : fb s a j < 256 := (s.get! (a + j)).toNat_lt
theorem dec_fb (s : ByteArray) (a : Nat) : Utf8.decode s a = Lib.decodeN (s.size - a) (fb s a 0) (fb s a 1) (fb s a 2) (fb s a 3) := Lib.decode_at s a
attribute [local irreducible] fb
theorem dec_small {s : ByteArray} {a : Nat} (h : fb s a 0 < 128) : Utf8.decode s a = (fb s a 0, 1) := by
  rw [dec_fb]
  unfold Lib.decodeN
  rw [if_pos h]
def cont (b : Nat) : Prop := 128 ≤ b ∧ b ≤ 191
theorem dec_bad {s : ByteArray} {a : Nat} (h : ¬ fb s a 0 < 128) (hb : (hdN (fb s a 0)).1 = 0 ∨ s.size - a < (hdN (fb s a 0)).1 ∨ ∃ j, 1 ≤ j ∧ j < (hdN (fb s a 0)).1 ∧ ¬ cont (fb s a j)) : Utf8.decode s a = (65533, 1) := by
  rw [dec_fb]
  have l0 := fb_lt s a 0
  have l1 := fb_lt s a 1
  have l2 := fb_lt s a 2
  have l3 := fb_lt s a 3
  have hj : (hdN (fb s a 0)).1 ≤ 4 := by unfold hdN; repeat' split
                                         all_goals (simp only; omega)
  have hb : (hdN (fb s a 0)).1 = 0 ∨ s.size - a < (hdN (fb s a 0)).1 ∨ (2 ≤ (hdN (fb s a 0)).1 ∧ ¬ cont (fb s a 1)) ∨ (3 ≤ (hdN (fb s a 0)).1 ∧ ¬ cont (fb s a 2)) ∨ (4 ≤ (hdN (fb s a 0)).1 ∧ ¬ cont (fb s a 3)) := by
    rcases hb with hb | hb | ⟨j, h1, h2, h3⟩
    · exact .inl hb
    · exact .inr (.inl hb)
    · have : j = 1 ∨ j = 2 ∨ j = 3 := by omega
      rcases this with rfl | rfl | rfl
      · exact .inr (.inr (.inl ⟨h2, h3⟩))
      · exact .inr (.inr (.inr (.inl ⟨h2, h3⟩)))
      · exact .inr (.inr (.inr (.inr ⟨h2, h3⟩)))
  generalize fb s a 0 = b0 at *
  generalize fb s a 1 = b1 at *
  generalize fb s a 2 = b2 at *
  generalize fb s a 3 = b3 at *
  unfold hdN cont at hb
  unfold Lib.decodeN
  repeat' split
  all_goals first | rfl | skip
  all_goals
    exfalso
    revert hb
    repeat' split
    all_goals
      simp only
      omega
theorem dec_two {s : ByteArray} {a : Nat} (hn : (hdN (fb s a 0)).1 = 2) (hk : 2 ≤ s.size - a) (h1 : cont (fb s a 1)) :
    acc (hdN (fb s a 0)).2 (fb s a) 1 < 2048 ∧ fb s a 0 = 192 + acc (hdN (fb s a 0)).2 (fb s a) 1 / 64 ∧ fb s a 1 = 128 + acc (hdN (fb s a 0)).2 (fb s a) 1 % 64 ∧
    Utf8.decode s a = if 128 ≤ acc (hdN (fb s a 0)).2 (fb s a) 1 then (acc (hdN (fb s a 0)).2 (fb s a) 1, 2) else (65533, 1) := by
  rw [dec_fb]
  simp only [acc, Nat.zero_add, Nat.reduceAdd]
  unfold cont at h1
  have l0 := fb_lt s a 0
  generalize fb s a 0 = b0 at *
  generalize fb s a 1 = b1 at *
  generalize fb s a 2 = b2 at *
  generalize fb s a 3 = b3 at *
  have hb : 192 ≤ b0 ∧ b0 < 224 := by
    unfold hdN at hn
    repeat' split at hn
    all_goals first | assumption | (simp only at hn; omega)
  have hd : hdN b0 = (2, b0 - 192) := by unfold hdN; rw [if_pos hb]
  rw [hd]
  simp only
  refine ⟨by omega, by omega, by omega, ?_⟩
  unfold Lib.decodeN
  repeat' split
  all_goals first | (exfalso; omega) | (apply Prod.ext <;> simp only <;> omega)
theorem dec_three {s : ByteArray} {a : Nat} (hn : (hdN (fb s a 0)).1 = 3) (hk : 3 ≤ s.size - a) (h1 : cont (fb s a 1)) (h2 : cont (fb s a 2)) :
    acc (hdN (fb s a 0)).2 (fb s a) 2 < 65536 ∧ fb s a 0 = 224 + acc (hdN (fb s a 0)).2 (fb s a) 2 / 4096 ∧ fb s a 1 = 128 + acc (hdN (fb s a 0)).2 (fb s a) 2 / 64 % 64 ∧ fb s a 2 = 128 + acc (hdN (fb s a 0)).2 (fb s a) 2 % 64 ∧
    Utf8.decode s a = if 2048 ≤ acc (hdN (fb s a 0)).2 (fb s a) 2 ∧ isC (acc (hdN (fb s a 0)).2 (fb s a) 2 : Nat) then (acc (hdN (fb s a 0)).2 (fb s a) 2, 3) else (65533, 1) := by
  rw [dec_fb]
  simp only [acc, Nat.zero_add, Nat.reduceAdd]
  unfold cont at h1 h2
  have l0 := fb_lt s a 0
  generalize fb s a 0 = b0 at *
  generalize fb s a 1 = b1 at *
  generalize fb s a 2 = b2 at *
  generalize fb s a 3 = b3 at *
  have hb : 224 ≤ b0 ∧ b0 < 240 := by
    unfold hdN at hn
    repeat' split at hn
    all_goals first | assumption | (simp only at hn; omega)
  have hd : hdN b0 = (3, b0 - 224) := by unfold hdN; rw [if_neg (by omega), if_pos hb]
  rw [hd]
  simp only
  unfold isC
  refine ⟨by omega, by omega, by omega, by omega, ?_⟩
  unfold Lib.decodeN
  repeat' split
  all_goals first | (exfalso; omega) | (apply Prod.ext <;> simp only <;> omega)
theorem dec_four {s : ByteArray} {a : Nat} (hn : (hdN (fb s a 0)).1 = 4) (hk : 4 ≤ s.size - a) (h1 : cont (fb s a 1)) (h2 : cont (fb s a 2)) (h3 : cont (fb s a 3)) :
    acc (hdN (fb s a 0)).2 (fb s a) 3 < 2097152 ∧ fb s a 0 = 240 + acc (hdN (fb s a 0)).2 (fb s a) 3 / 262144 ∧ fb s a 1 = 128 + acc (hdN (fb s a 0)).2 (fb s a) 3 / 4096 % 64 ∧ fb s a 2 = 128 + acc (hdN (fb s a 0)).2 (fb s a) 3 / 64 % 64 ∧ fb s a 3 = 128 + acc (hdN (fb s a 0)).2 (fb s a) 3 % 64 ∧
    Utf8.decode s a = if 65536 ≤ acc (hdN (fb s a 0)).2 (fb s a) 3 ∧ isC (acc (hdN (fb s a 0)).2 (fb s a) 3 : Nat) then (acc (hdN (fb s a 0)).2 (fb s a) 3, 4) else (65533, 1) := by
  rw [dec_fb]
  simp only [acc, Nat.zero_add, Nat.reduceAdd]
  unfold cont at h1 h2 h3
  have l0 := fb_lt s a 0
  generalize fb s a 0 = b0 at *
  generalize fb s a 1 = b1 at *
  generalize fb s a 2 = b2 at *
  generalize fb s a 3 = b3 at *
  have hb : 240 ≤ b0 ∧ b0 < 248 := by
    unfold hdN at hn
    repeat' split at hn
    all_goals first | assumption | (simp only at hn; omega)
  have hd : hdN b0 = (4, b0 - 240) := by unfold hdN; rw [if_neg (by omega), if_neg (by omega), if_pos hb]
  rw [hd]
  simp only
  unfold isC
  refine ⟨by omega, by omega, by omega, by omega, by omega, ?_⟩
  unfold Lib.decodeN
  repeat' split
  all_goals first | (exfalso; omega) | (apply Prod.ext <;> simp only <;> omega)
/-- The bytes of a part of a text. -/
theorem cut_list {s : ByteArray} {a : Nat} : ∀ n, a + n ≤ s.size → (s.extract a (a + n)).toList = (List.range n).map fun j => s.get! (a + j) := by
  intro n hn
  rw [Lib.toList_data, ByteArray.data_extract, Array.toList_extract, List.extract_eq_take_drop]
  apply List.ext_getElem?
  intro k
  have hsz : s.data.toList.length = s.size := rfl
  rw [List.getElem?_take, List.getElem?_drop, List.getElem?_map]
  by_cases hk : k < n
  · rw [if_pos (by omega), List.getElem?_range hk, Option.map_some]
    have hlt : a + k < s.data.toList.length := by omega
    rw [List.getElem?_eq_getElem hlt]
    congr 1
    show _ = s.data[a + k]!
    have hlt2 : a + k < s.data.size := hlt
    rw [getElem!_pos s.data (a + k) hlt2]
    simp
  · rw [if_neg (by omega), List.getElem?_eq_none (l := List.range n) (by simp; omega)]
    rfl
theorem u8_of {n : Nat} {u : UInt8} (h : u.toNat = n) : UInt8.ofNat n = u := by rw [← h]; simp
theorem enc_len (c : Nat) : (enc c).length = if c < 128 then 1 else if c < 2048 then 2 else if c < 65536 then 3 else 4 := by
  unfold enc
  repeat' split
  all_goals rfl
end Go.Proofs.YtlnekbdcbkndbaaDoor
