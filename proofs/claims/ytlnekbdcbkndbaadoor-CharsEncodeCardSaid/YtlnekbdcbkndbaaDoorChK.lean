/- Chars: the plain law: texts as lists of bytes, what Shown tells, what Read reads. -/
import Derived.Test.YtlnekbdcbkndbaaDoorChJ
namespace Go.Proofs.YtlnekbdcbkndbaaDoor
open Go Go.Mv
set_option maxHeartbeats 1000000
set_option maxRecDepth 10000
set_option linter.unusedVariables false
set_option linter.unusedSimpArgs false
def bl (s : ByteArray) : List UInt8 := s.data.toList
def bN (l : List UInt8) (j : Nat) : Nat := (l.getD j 0).toNat
theorem bN_lt (l : List UInt8) (j : Nat) : bN l j < 256 := (l.getD j 0).toNat_lt
def dl (l : List UInt8) : Nat × Nat := Lib.decodeN l.length (bN l 0) (bN l 1) (bN l 2) (bN l 3)
def cdl (l : List UInt8) : Int := if (dl l).1 = 65533 ∧ (dl l).2 ≤ 1 then -1 else ((dl l).1 : Nat)
def wdl (l : List UInt8) : Nat := (dl l).2
theorem bN_drop {s : ByteArray} {i j : Nat} : bN ((bl s).drop i) j = (s.get! (i + j)).toNat := by
  unfold bN bl
  congr 1
  rw [List.getD_eq_getElem?_getD, List.getElem?_drop, Array.getElem?_toList]
  show _ = s.data[i + j]!
  rw [getElem!_def]
  cases h : s.data[i + j]? <;> rfl
theorem dl_eq {s : ByteArray} {i : Nat} (hi : i ≤ s.size) : Utf8.decode s i = dl ((bl s).drop i) := by
  rw [Lib.decode_at]
  unfold dl
  rw [bN_drop, bN_drop, bN_drop, bN_drop, Nat.add_zero, List.length_drop]
  rfl
theorem cdl_eq {s : ByteArray} {i : Nat} (hi : i ≤ s.size) : cd s i = cdl ((bl s).drop i) := by unfold cd cdl; rw [dl_eq hi]
theorem wdl_eq {s : ByteArray} {i : Nat} (hi : i ≤ s.size) : wd s i = wdl ((bl s).drop i) := by unfold wd wdl; rw [dl_eq hi]
theorem bl_len {s : ByteArray} : (bl s).length = s.size := rfl
theorem bl_mk (l : List UInt8) : bl ⟨l.toArray⟩ = l := rfl
theorem mk_bl (s : ByteArray) : (⟨(bl s).toArray⟩ : ByteArray) = s := by unfold bl; rw [Array.toArray_toList]
theorem bl_cut {s : ByteArray} {i j : Nat} (hj : j ≤ s.size) : bl (s.extract i j) = ((bl s).drop i).take (j - i) := by
  unfold bl
  rw [ByteArray.data_extract, Array.toList_extract, List.extract_eq_take_drop]
theorem dl_of (l : List UInt8) : dl l = Utf8.decode ⟨l.toArray⟩ 0 := by rw [dl_eq (Nat.zero_le _), List.drop_zero, bl_mk]
theorem cdl_of (l : List UInt8) : cdl l = cd ⟨l.toArray⟩ 0 := by rw [cdl_eq (Nat.zero_le _), List.drop_zero, bl_mk]
theorem wdl_of (l : List UInt8) : wdl l = wd ⟨l.toArray⟩ 0 := by rw [wdl_eq (Nat.zero_le _), List.drop_zero, bl_mk]
theorem wdl_pos {l : List UInt8} (h : l ≠ []) : 1 ≤ wdl l ∧ wdl l ≤ l.length := by
  have h0 : 0 < l.length := List.length_pos_iff.2 h
  have h1 : 0 < (⟨l.toArray⟩ : ByteArray).size := h0
  rw [wdl_of]
  have := wd_le h1
  rw [size_mk] at this
  exact ⟨wd_pos h1, by omega⟩
/-- A unit hangs on its own bytes alone. -/
theorem decN_dep {n m x0 x1 x2 x3 z0 z1 z2 z3 : Nat} (hne : Lib.decodeN n x0 x1 x2 x3 ≠ (65533, 1)) (hm : (Lib.decodeN n x0 x1 x2 x3).2 ≤ m)
    (h0 : z0 = x0) (h1 : 1 < (Lib.decodeN n x0 x1 x2 x3).2 → z1 = x1) (h2 : 2 < (Lib.decodeN n x0 x1 x2 x3).2 → z2 = x2) (h3 : 3 < (Lib.decodeN n x0 x1 x2 x3).2 → z3 = x3) :
    Lib.decodeN m z0 z1 z2 z3 = Lib.decodeN n x0 x1 x2 x3 := by
  subst h0
  revert hne hm h1 h2 h3
  unfold Lib.decodeN
  split
  · intros; rfl
  split
  · split
    · simp only
      intro _ hm h1 h2 h3
      rw [h1 (by omega)]
      rw [if_pos ⟨by omega, by omega, by omega⟩, if_pos (by omega)]
    · intro h; exact absurd rfl h
  split
  · split
    · simp only
      intro _ hm h1 h2 h3
      rw [h1 (by omega), h2 (by omega)]
      rw [if_neg (by omega), if_pos ⟨by omega, ⟨by omega, by omega⟩, by omega, by omega⟩, if_pos (by omega)]
    · intro h; exact absurd rfl h
  split
  · split
    · simp only
      intro _ hm h1 h2 h3
      rw [h1 (by omega), h2 (by omega), h3 (by omega)]
      rw [if_neg (by omega), if_neg (by omega), if_pos ⟨by omega, ⟨by omega, by omega⟩, ⟨by omega, by omega⟩, by omega, by omega⟩, if_pos (by omega)]
    · intro h; exact absurd rfl h
  · intro h; exact absurd rfl h
theorem decN_cont {n x0 x1 x2 x3 : Nat} : (1 < (Lib.decodeN n x0 x1 x2 x3).2 → x1 / 64 = 2) ∧ (2 < (Lib.decodeN n x0 x1 x2 x3).2 → x2 / 64 = 2) ∧ (3 < (Lib.decodeN n x0 x1 x2 x3).2 → x3 / 64 = 2) ∧ (Lib.decodeN n x0 x1 x2 x3).2 ≤ 4 := by
  unfold Lib.decodeN
  repeat' split
  all_goals (simp only; omega)
theorem decN_small {n x0 x1 x2 x3 : Nat} (h : x0 < 128) : Lib.decodeN n x0 x1 x2 x3 = (x0, 1) := by unfold Lib.decodeN; rw [if_pos h]
theorem decN_small' {n x0 x1 x2 x3 : Nat} (h : (Lib.decodeN n x0 x1 x2 x3).1 < 128) : x0 = (Lib.decodeN n x0 x1 x2 x3).1 ∧ (Lib.decodeN n x0 x1 x2 x3).2 = 1 := by
  revert h
  unfold Lib.decodeN
  repeat' split
  all_goals first | (intro h; exact ⟨rfl, rfl⟩) | (simp only; omega)
theorem enc_cut {s : ByteArray} {i : Nat} (hi : i < s.size) (h : 0 ≤ cd s i) : isC (cd s i) ∧ enc (cd s i).toNat = (s.extract i (i + wd s i)).toList := by
  have l0 := fb_lt s i 0
  by_cases h0 : fb s i 0 < 128
  · have hd := dec_small h0
    have hc : cd s i = (fb s i 0 : Nat) := by unfold cd; rw [hd, if_neg (by simp only; omega)]
    have hw : wd s i = 1 := by unfold wd; rw [hd]
    rw [hc, hw, cut_list 1 (by omega)]
    refine ⟨by unfold isC; omega, ?_⟩
    rw [Int.toNat_natCast]
    unfold enc
    rw [if_pos h0]
    have : UInt8.ofNat (fb s i 0) = s.get! (i + 0) := u8_of rfl
    rw [this]
    rfl
  · have bad : ∀ P : Prop, ((hdN (fb s i 0)).1 = 0 ∨ s.size - i < (hdN (fb s i 0)).1 ∨ ∃ j, 1 ≤ j ∧ j < (hdN (fb s i 0)).1 ∧ ¬ cont (fb s i j)) → P := fun P hb => by
      have := (cd_no (dec_bad h0 hb)).1
      omega
    rcases hdN_le l0 with h1 | ⟨h1, h2, _⟩
    · exact bad _ (.inl h1)
    by_cases hk : s.size - i < (hdN (fb s i 0)).1
    · exact bad _ (.inr (.inl hk))
    by_cases hc : ∀ k, 1 ≤ k → k < (hdN (fb s i 0)).1 → cont (fb s i k)
    · have hall := dec_all (n := (hdN (fb s i 0)).1) rfl h1 h2 (by omega) hc
      by_cases hq : isC ((acc (hdN (fb s i 0)).2 (fb s i) ((hdN (fb s i 0)).1 - 1) : Nat) : Int) ∧ enc (acc (hdN (fb s i 0)).2 (fb s i) ((hdN (fb s i 0)).1 - 1)) = (s.extract i (i + (hdN (fb s i 0)).1)).toList
      · obtain ⟨g1, g2⟩ := cd_of (hall.trans (if_pos hq)) h1
        rw [g1, g2, Int.toNat_natCast]
        exact hq
      · have := (cd_no (hall.trans (if_neg hq))).1
        omega
    · have hc : ∃ j, 1 ≤ j ∧ j < (hdN (fb s i 0)).1 ∧ ¬ cont (fb s i j) := by
        apply Classical.byContradiction
        intro hn
        exact hc fun k h1 h2 => Classical.byContradiction fun h3 => hn ⟨k, h1, h2, h3⟩
      exact bad _ (.inr (.inr hc))
theorem enc_take {l : List UInt8} (hl : l ≠ []) (h : 0 ≤ cdl l) : isC (cdl l) ∧ enc (cdl l).toNat = l.take (wdl l) := by
  rw [cdl_of] at h ⊢
  have h0 : 0 < (⟨l.toArray⟩ : ByteArray).size := List.length_pos_iff.2 hl
  obtain ⟨h1, h2⟩ := enc_cut h0 h
  refine ⟨h1, h2.trans ?_⟩
  have hw := wd_le h0
  rw [Lib.toList_data]
  show bl (ByteArray.extract _ _ _) = _
  rw [bl_cut hw, bl_mk, List.drop_zero, Nat.zero_add, Nat.sub_zero, ← wdl_of]
def plainC (c : Int) : Prop := (32 ≤ c ∧ c ≤ 126) ∨ 159 < c
instance (c : Int) : Decidable (plainC c) := by unfold plainC; infer_instance
def esc (b : UInt8) : List UInt8 := [92, 120, hexD (b.toNat / 16), hexD (b.toNat % 16)]
def unitl (l : List UInt8) : List UInt8 :=
  if cdl l = 92 then [92, 92] else if cdl l = 10 then [92, 110] else if plainC (cdl l) then l.take (wdl l) else (l.take (wdl l)).flatMap esc
def shF : Nat → List UInt8 → List UInt8
  | 0, _ => []
  | f + 1, l => if l = [] then [] else unitl l ++ shF f (l.drop (wdl l))
theorem shF_enough : ∀ {f g : Nat} {l : List UInt8}, l.length ≤ f → l.length ≤ g → shF f l = shF g l
  | 0, 0, _, _, _ => rfl
  | 0, g + 1, l, h, _ => by
    have : l = [] := List.length_eq_zero_iff.1 (by omega)
    subst this; rfl
  | f + 1, 0, l, _, h => by
    have : l = [] := List.length_eq_zero_iff.1 (by omega)
    subst this; rfl
  | f + 1, g + 1, l, h1, h2 => by
    unfold shF
    by_cases hl : l = []
    · rw [if_pos hl, if_pos hl]
    · rw [if_neg hl, if_neg hl]
      have := wdl_pos hl
      rw [shF_enough (f := f) (g := g) (by rw [List.length_drop]; omega) (by rw [List.length_drop]; omega)]
/-- What Shown tells. -/
def shl (l : List UInt8) : List UInt8 := shF l.length l
theorem shl_nil : shl [] = [] := rfl
theorem shl_step {l : List UInt8} (hl : l ≠ []) : shl l = unitl l ++ shl (l.drop (wdl l)) := by
  have h0 : 0 < l.length := List.length_pos_iff.2 hl
  have hw := wdl_pos hl
  conv => lhs; unfold shl
  rw [show l.length = (l.length - 1) + 1 by omega]
  unfold shF
  rw [if_neg hl]
  unfold shl
  rw [shF_enough (f := l.length - 1) (g := (l.drop (wdl l)).length) (by rw [List.length_drop]; omega) (Nat.le_refl _)]
/-- What a told text is made of. -/
inductive Item where
  | pl (c : Nat)
  | bs
  | nl
  | hx (b : UInt8)
def Item.byt : Item → List UInt8
  | .pl c => enc c
  | .bs => [92]
  | .nl => [10]
  | .hx b => [b]
def Item.src : Item → List UInt8
  | .pl c => enc c
  | .bs => [92, 92]
  | .nl => [92, 110]
  | .hx b => esc b
def Item.ok : Item → Prop
  | .pl c => isC (c : Int) ∧ plainC (c : Int) ∧ c ≠ 92
  | _ => True
def byts (l : List Item) : List UInt8 := l.flatMap Item.byt
def srcs (l : List Item) : List UInt8 := l.flatMap Item.src
theorem bN_app_lt {a b : List UInt8} {j : Nat} (h : j < a.length) : bN (a ++ b) j = bN a j := by
  unfold bN
  rw [List.getD_eq_getElem?_getD, List.getD_eq_getElem?_getD, List.getElem?_append_left h]
/-- A unit of its own stays one, whatever follows. -/
theorem dl_app {a b : List UInt8} (h : dl a ≠ (65533, 1)) (hw : (dl a).2 ≤ a.length) : dl (a ++ b) = dl a := by
  unfold dl at h hw ⊢
  refine decN_dep h (by rw [List.length_append]; omega) ?_ (fun g => bN_app_lt (by omega)) (fun g => bN_app_lt (by omega)) fun g => bN_app_lt (by omega)
  by_cases ha : 0 < a.length
  · exact bN_app_lt ha
  · exfalso
    have : a = [] := List.length_eq_zero_iff.1 (by omega)
    subst this
    rw [decN_small (by simp [bN])] at hw
    simp at hw
theorem dl_enc {c : Nat} (hc : isC (c : Int)) : dl (enc c) = (c, (enc c).length) := by
  obtain ⟨h1, h2, h3⟩ := hc
  unfold dl enc
  by_cases c1 : c < 128
  · rw [if_pos c1]
    rw [decN_small (by simp [bN]; omega)]
    simp [bN]
    omega
  · rw [if_neg c1]
    by_cases c2 : c < 2048
    · rw [if_pos c2]
      simp only [bN, List.getD_cons_zero, List.getD_cons_succ, List.length_cons, List.length_nil]
      rw [u8n _ (by omega), u8n _ (by omega)]
      unfold Lib.decodeN
      rw [if_neg (by omega), if_pos (by omega), if_pos (by omega)]
      apply Prod.ext <;> simp only <;> omega
    · rw [if_neg c2]
      by_cases c3 : c < 65536
      · rw [if_pos c3]
        simp only [bN, List.getD_cons_zero, List.getD_cons_succ, List.length_cons, List.length_nil]
        rw [u8n _ (by omega), u8n _ (by omega), u8n _ (by omega)]
        unfold Lib.decodeN
        rw [if_neg (by omega), if_neg (by omega), if_pos (by omega), if_pos (by omega)]
        apply Prod.ext <;> simp only <;> omega
      · rw [if_neg c3]
        simp only [bN, List.getD_cons_zero, List.getD_cons_succ, List.length_cons, List.length_nil]
        rw [u8n _ (by omega), u8n _ (by omega), u8n _ (by omega), u8n _ (by omega)]
        unfold Lib.decodeN
        rw [if_neg (by omega), if_neg (by omega), if_neg (by omega), if_pos (by omega), if_pos (by omega)]
        apply Prod.ext <;> simp only <;> omega
theorem enc_ne {c : Nat} : enc c ≠ [] := fun h => by
  have := congrArg List.length h
  rw [enc_len] at this
  repeat' split at this
  all_goals simp at this
theorem dl_encapp {c : Nat} (hc : isC (c : Int)) (b : List UInt8) : dl (enc c ++ b) = (c, (enc c).length) := by
  rw [dl_app, dl_enc hc]
  · rw [dl_enc hc]
    intro h
    injection h with h1 h2
    subst h1
    rw [enc_len] at h2
    simp at h2
  · rw [dl_enc hc]; exact Nat.le_refl _
theorem cdl_encapp {c : Nat} (hc : isC (c : Int)) (b : List UInt8) : cdl (enc c ++ b) = (c : Int) ∧ wdl (enc c ++ b) = (enc c).length := by
  unfold cdl wdl
  rw [dl_encapp hc]
  refine ⟨if_neg fun h => ?_, rfl⟩
  have h1 : c = 65533 := h.1
  have h2 := h.2
  subst h1
  rw [enc_len] at h2
  simp at h2
theorem unitl_pl {c : Nat} (hc : isC (c : Int)) (hp : plainC (c : Int)) (h92 : c ≠ 92) (b : List UInt8) : unitl (enc c ++ b) = enc c := by
  obtain ⟨h1, h2⟩ := cdl_encapp hc b
  unfold unitl
  rw [h1, h2, if_neg (by omega), if_neg (by unfold plainC at hp; omega), if_pos hp, List.take_left]
theorem dl_ascii {x : UInt8} (h : x.toNat < 128) (b : List UInt8) : dl (x :: b) = (x.toNat, 1) := by
  unfold dl
  rw [decN_small (by simpa [bN] using h)]
  simp [bN]
theorem cdl_ascii {x : UInt8} (h : x.toNat < 128) (b : List UInt8) : cdl (x :: b) = (x.toNat : Int) ∧ wdl (x :: b) = 1 := by
  unfold cdl wdl
  rw [dl_ascii h]
  exact ⟨if_neg (by simp only; omega), rfl⟩
end Go.Proofs.YtlnekbdcbkndbaaDoor
