/- Chars: units of a text. -/
import Derived.Test.YtlnekbdcbkndbaaDoorChU
namespace Go.Proofs.YtlnekbdcbkndbaaDoor
open Go Go.Mv
set_option maxHeartbeats 2000000
set_option linter.unusedVariables false
set_option linter.unusedSimpArgs false
/-- The width of the unit at i; its number, -1: it is no character. -/
def wd (s : ByteArray) (i : Nat) : Nat := (Utf8.decode s i).2
def cd (s : ByteArray) (i : Nat) : Int := if (Utf8.decode s i).1 = 65533 ∧ (Utf8.decode s i).2 ≤ 1 then -1 else ((Utf8.decode s i).1 : Nat)
theorem dec_facts {s : ByteArray} {i : Nat} (hi : i < s.size) : 1 ≤ (Utf8.decode s i).2 ∧ (Utf8.decode s i).2 ≤ 4 ∧ i + (Utf8.decode s i).2 ≤ s.size ∧ (Utf8.decode s i).1 ≤ 1114111 := by
  rw [Lib.decode_at]
  have l0 := (s.get! i).toNat_lt
  generalize (s.get! i).toNat = b0 at *
  generalize (s.get! (i + 1)).toNat = b1 at *
  generalize (s.get! (i + 2)).toNat = b2 at *
  generalize (s.get! (i + 3)).toNat = b3 at *
  unfold Lib.decodeN
  repeat' split
  all_goals (refine ⟨?_, ?_, ?_, ?_⟩ <;> simp only <;> omega)
theorem get_far {s : ByteArray} {i : Nat} (h : s.size ≤ i) : s.get! i = 0 := by
  have h : s.data.size ≤ i := h
  show s.data[i]! = 0
  rw [getElem!_def, Array.getElem?_eq_none h]
  rfl
theorem get_cut {s : ByteArray} {a k : Nat} (ha : a ≤ s.size) : (s.extract a s.size).get! k = s.get! (a + k) := by
  by_cases h : a + k < s.size
  · show (s.extract a s.size).data[k]! = s.data[a + k]!
    rw [getElem!_def, getElem!_def, ByteArray.data_extract, Array.getElem?_extract]
    have h2 : k < min s.size s.data.size - a := by
      have : s.size = s.data.size := rfl
      omega
    rw [if_pos h2]
  · have h1 : (s.extract a s.size).size ≤ k := by rw [ByteArray.size_extract]; omega
    rw [get_far h1, get_far (by omega)]
theorem dec_cut {s : ByteArray} {a : Nat} (ha : a ≤ s.size) : Utf8.decode (s.extract a s.size) 0 = Utf8.decode s a := by
  rw [Lib.decode_at, Lib.decode_at]
  rw [get_cut ha, get_cut ha, get_cut ha, get_cut ha, ByteArray.size_extract, Nat.add_zero, Nat.zero_add, Nat.zero_add, Nat.zero_add, Nat.sub_zero, Nat.min_self]
theorem cd_cut {s : ByteArray} {a : Nat} (ha : a ≤ s.size) : cd (s.extract a s.size) 0 = cd s a := by unfold cd; rw [dec_cut ha]
theorem wd_pos {s : ByteArray} {i : Nat} (hi : i < s.size) : 1 ≤ wd s i := (dec_facts hi).1
theorem wd_le {s : ByteArray} {i : Nat} (hi : i < s.size) : i + wd s i ≤ s.size := (dec_facts hi).2.2.1
theorem cd_le {s : ByteArray} {i : Nat} (hi : i < s.size) : -1 ≤ cd s i ∧ cd s i ≤ 1114111 := by
  have := (dec_facts hi).2.2.2
  unfold cd
  split <;> omega
theorem cd_bad {s : ByteArray} {i : Nat} (hi : i < s.size) (h : cd s i < 0) : wd s i = 1 ∧ cd s i = -1 := by
  have := (dec_facts hi).1
  unfold cd at h ⊢
  unfold wd
  split at h
  · rename_i hc
    rw [if_pos hc]
    exact ⟨by omega, rfl⟩
  · omega
/-- Where units begin, from i on. -/
def psF (s : ByteArray) : Nat → Nat → List Nat
  | 0, _ => []
  | f + 1, i => if i < s.size then i :: psF s f (i + wd s i) else []
theorem psF_enough {s : ByteArray} : ∀ {f g i : Nat}, s.size - i ≤ f → s.size - i ≤ g → psF s f i = psF s g i
  | 0, 0, _, _, _ => rfl
  | 0, g + 1, i, h1, _ => by
    unfold psF
    rw [if_neg (by omega)]
  | f + 1, 0, i, _, h2 => by
    unfold psF
    rw [if_neg (by omega)]
  | f + 1, g + 1, i, h1, h2 => by
    unfold psF
    by_cases hi : i < s.size
    · have := wd_pos hi
      rw [if_pos hi, if_pos hi, psF_enough (f := f) (g := g) (by omega) (by omega)]
    · rw [if_neg hi, if_neg hi]
def ps (s : ByteArray) (i : Nat) : List Nat := psF s (s.size - i) i
theorem ps_step {s : ByteArray} {i : Nat} (hi : i < s.size) : ps s i = i :: ps s (i + wd s i) := by
  have := wd_pos hi
  unfold ps
  obtain ⟨f, hf⟩ : ∃ f, s.size - i = f + 1 := ⟨s.size - i - 1, by omega⟩
  rw [hf]
  show (if i < s.size then i :: psF s f (i + wd s i) else []) = _
  rw [if_pos hi, psF_enough (f := f) (g := s.size - (i + wd s i)) (by omega) (Nat.le_refl _)]
theorem ps_end {s : ByteArray} {i : Nat} (hi : ¬ i < s.size) : ps s i = [] := by
  unfold ps
  rw [show s.size - i = 0 by omega]
  rfl
/-- A law of each unit, going on. -/
theorem ps_ind {s : ByteArray} {Q : Nat → Prop} (h0 : ∀ i, ¬ i < s.size → Q i) (h1 : ∀ i, i < s.size → Q (i + wd s i) → Q i) (i : Nat) : Q i := by
  by_cases hi : i < s.size
  · have h2 := wd_pos hi
    exact h1 i hi (ps_ind h0 h1 (i + wd s i))
  · exact h0 i hi
  termination_by s.size - i
theorem ps_ge {s : ByteArray} {i : Nat} : ∀ x, x ∈ ps s i → i ≤ x ∧ x < s.size := by
  refine ps_ind (s := s) (Q := fun i => ∀ x, x ∈ ps s i → i ≤ x ∧ x < s.size) (fun i hi x hx => ?_) (fun i hi ih x hx => ?_) i
  · rw [ps_end hi] at hx
    cases hx
  · rw [ps_step hi] at hx
    rcases List.mem_cons.1 hx with rfl | hx
    · exact ⟨Nat.le_refl _, hi⟩
    · have := ih x hx
      omega
theorem ps_len {s : ByteArray} {i : Nat} : (ps s i).length ≤ s.size - i := by
  refine ps_ind (s := s) (Q := fun i => (ps s i).length ≤ s.size - i) (fun i hi => ?_) (fun i hi ih => ?_) i
  · rw [ps_end hi]
    exact Nat.zero_le _
  · rw [ps_step hi, List.length_cons]
    have := wd_pos hi
    omega
end Go.Proofs.YtlnekbdcbkndbaaDoor
