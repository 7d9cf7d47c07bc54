/- Texts that the claim leans on, joined: MvFloat, MvSched, MvCode, MvFun, MvUse, MvRow, MvIter, MvSeq, MvSep, MvOpen, MvOpenW. -/
import Derived.Test.YtfjbgmeimipibaaGreatDoorCj1
import Derived.RangeFuncLeaves
import Derived.Laws.Bits64b
import Derived.Below
import Derived.OpenShut
import Derived.ChangeShapes
import Derived.WideShapes
import Derived.ChangeArms
import Derived.SizedLaws
import Derived.Sort.Row
import Derived.Sort.Grow
import Derived.ChangeVars
/- Mv: a region that draws its order: heads that read, in any order; operations that come up one behind the other, and may come up among the heads; then a tail in its own order. -/
namespace Go.Mv
open Go
section
variable {P : Program} {ops : Array Oper} {md : Region.Mode} {ι : Type} {C : ι → World → Prop} {R : Nat → ι → Prop} {r : Option Nat} {Q : Exit → Act → World → Prop}

/-- One value, in every world of each class of A; the class is kept. -/
def YF (P : Program) (ops : Array Oper) (C : ι → World → Prop) (A : ι → Prop) (o : Oper) (v : Value) (a : Act) : Prop :=
  (Region.wanted o (yielded ops a.tmps) = true ∧ ∀ i w, A i → C i w → o.quietAt P a (C i) w v) ∨ (Region.wanted o (yielded ops a.tmps) = false ∧ v = undef)
def qF (P : Program) (ops : Array Oper) (C : ι → World → Prop) (R : Nat → ι → Prop) (i : Nat) (K : Act → Prop) (a : Act) : Prop := ∃ o v, ops[i]? = some o ∧ YF P ops C (R i) o v a ∧ K (a.put o.dst v)
theorem qF.one {i : Nat} {K : Act → Prop} {a : Act} {k : ι} (hk : R i k) (h : qF P ops C R i K a) : qOp P ops (C k) i K a := by
  obtain ⟨o, v, ho, hy, hK⟩ := h
  have : YieldsIn P ops (C k) o v a := hy.imp (fun h => ⟨h.1, fun w hw => h.2 k w hk hw⟩) id
  exact this.qOp ho hK
theorem YF.same {A : ι → Prop} {o : Oper} {v : Value} {a a' : Act} (hy : YF P ops C A o v a) (he : execOp a'.eval o = execOp a.eval o) (hw : Region.wanted o (yielded ops a'.tmps) = Region.wanted o (yielded ops a.tmps)) : YF P ops C A o v a' := by
  unfold YF Oper.quietAt at *
  rw [he, hw]
  exact hy
/-- The walk in the text's order. -/
def walkF (P : Program) (ops : Array Oper) (C : ι → World → Prop) (R : Nat → ι → Prop) : Nat → List Oper → Act → Act → Prop
  | _, [], a, b => a = b
  | k, o :: rest, a, b => ∃ v, YF P ops C (R k) o v a ∧ walkF P ops C R (k + 1) rest (a.put o.dst v) b
theorem qF_put {j : Nat} {oi oj : Oper} {A : ι → Prop} {v : Value} (hj : ops[j]? = some oj) (hap : oi.apart ops oj = true) (hsi : ∀ cs b, oi.op ≠ .select cs b) (hsj : ∀ cs b, oj.op ≠ .select cs b) {K : Act → Prop} {a : Act}
    (hy : YF P ops C A oi v a) (h : qF P ops C R j K (a.put oi.dst v)) : qF P ops C R j (fun a' => YF P ops C A oi v a' ∧ K (a'.put oi.dst v)) a := by
  obtain ⟨h1, h2, h3⟩ := Oper.apart_spec hap
  obtain ⟨o, u, ho, hu, hK⟩ := h
  rw [hj] at ho
  cases ho
  refine ⟨oj, u, hj, hu.same (execOp_put oj hsj a oi.dst v h1).symm (wanted_put oj a oi.dst v h1).symm, hy.same (execOp_put oi hsi a oj.dst u h3) (wanted_put oi a oj.dst u h3), ?_⟩
  rw [← Act.put_comm a v u h2]
  exact hK
theorem qF_mono {i : Nat} {a : Act} {K K' : Act → Prop} (h : ∀ a, K a → K' a) (hh : qF P ops C R i K a) : qF P ops C R i K' a := by
  obtain ⟨o, v, h1, h2, h3⟩ := hh
  exact ⟨o, v, h1, h2, h _ h3⟩
/-- The heads (below h), in any order; operation n may come up among them. -/
def anyF (P : Program) (md : Region.Mode) (ops : Array Oper) (C : ι → World → Prop) (R : Nat → ι → Prop) (h n : Nat) (L : Array Bool → Act → Prop) : Nat → Array Bool → Act → Prop
  | 0, listed, a => L listed a
  | f + 1, listed, a => (∃ i, i ∈ Region.ready md ops listed ∧ i < h) ∧ ∀ i ∈ Region.ready md ops listed, i = n ∨ (i < h ∧ qF P ops C R i (anyF P md ops C R h n L f (listed.setIfInBounds i true)) a)
theorem anyF_mono {h n : Nat} {L L' : Array Bool → Act → Prop} (hL : ∀ l a, L l a → L' l a) : ∀ (f : Nat) (listed : Array Bool) (a : Act), anyF P md ops C R h n L f listed a → anyF P md ops C R h n L' f listed a
  | 0, _, _, H => hL _ _ H
  | f + 1, _, _, H => ⟨H.1, fun i hi => (H.2 i hi).imp id fun ⟨h1, h2⟩ => ⟨h1, qF_mono (fun a' h3 => anyF_mono hL f _ a' h3) h2⟩⟩
theorem ready_le {n h : Nat} {listed : Array Bool} (hc : Region.chainB md ops h = true) (hn : h ≤ n) (inv : HeadInv md ops n listed) {j : Nat} (hj : j ∈ Region.ready md ops listed) : j ≤ n := by
  apply Nat.le_of_not_lt
  intro hlt
  obtain ⟨_, oj, hoj, hall⟩ := mem_ready.1 hj
  have hjl := (Array.getElem?_eq_some_iff.1 hoj).1
  have h1 := List.all_eq_true.1 hc j (List.mem_range.2 hjl)
  simp only [Bool.or_eq_true, decide_eq_true_eq] at h1
  rcases h1 with h1 | h1
  · omega
  · obtain ⟨o, ho, e, he, hb, hon⟩ := Region.waitsFor_spec h1
    rw [hoj] at ho
    cases ho
    have h2 := hall e he hb
    rw [hon] at h2
    have h3 := getD_both (inv.tail (j - 1) (by omega) (by omega))
    rw [h3] at h2
    cases h2
theorem anyF_first {n i : Nat} {oi : Oper} {v : Value} {L : Array Bool → Act → Prop} (hi : ops[i]? = some oi) (hsel : ∀ (j : Nat) (o : Oper) cs b, ops[j]? = some o → o.op ≠ .select cs b)
    (hc : Region.chainB md ops n = true) (hin : i < n) (hdone : ∀ listed a, L listed a → ∀ j ∈ Region.ready md ops listed, n ≤ j) :
    ∀ (f : Nat) (listed : Array Bool) (a : Act), HeadInv md ops n listed →
      (∀ j oj, ops[j]? = some oj → j ≠ i → listed.getD j true = false → (∀ e ∈ oj.after, Region.binds md e = true → e.on ≠ i) → oi.apart ops oj = true) →
      i ∈ Region.ready md ops listed → YF P ops C (R i) oi v a → anyF P md ops C R n n L f (listed.setIfInBounds i true) (a.put oi.dst v) → anyF P md ops C R n n L (f + 1) listed a := by
  intro f
  induction f with
  | zero =>
    intro listed a inv _ hr hy H
    refine ⟨⟨i, hr, hin⟩, fun j hj => ?_⟩
    have hjn := ready_le hc (Nat.le_refl n) inv hj
    by_cases hji : j = i
    · subst hji; exact .inr ⟨hin, oi, v, hi, hy, H⟩
    · have := hdone _ _ H j (ready_mono hj hji)
      exact .inl (by omega)
  | succ f ih =>
    intro listed a inv hfree hr hy H
    have hun := (mem_ready.1 hr).1
    refine ⟨⟨i, hr, hin⟩, fun j hj => ?_⟩
    have hjn := ready_le hc (Nat.le_refl n) inv hj
    by_cases hji : j = i
    · subst hji; exact .inr ⟨hin, oi, v, hi, hy, H⟩
    · rcases H.2 j (ready_mono hj hji) with h | ⟨hjn', h⟩
      · exact .inl h
      · obtain ⟨hjun, oj, hoj, hall⟩ := mem_ready.1 hj
        have hnot : ∀ e ∈ oj.after, Region.binds md e = true → e.on ≠ i := fun e he hb heq => by
          have h1 := hall e he hb
          rw [heq, getD_both hun] at h1
          cases h1
        have h2 := qF_put hoj (hfree j oj hoj hji hjun hnot) (fun cs b => hsel i oi cs b hi) (fun cs b => hsel j oj cs b hoj) hy h
        refine .inr ⟨hjn', qF_mono (fun a' h3 => ih (listed.setIfInBounds j true) a' (inv.set hj hjn') (fun k ok hk hki hu hno => hfree k ok hk hki ?_ hno) (ready_mono hr (Ne.symm hji)) h3.1 ?_) h2⟩
        · by_cases hjk : j = k
          · subst hjk; exact hjun
          · rwa [getD_set_ne true hjk] at hu
        · rw [Array.setIfInBounds_comm _ _ hji]
          exact h3.2
theorem anyF_lex {n g : Nat} {b : Act} (hsel : Region.noSelect ops = true) (hc : Region.chainB md ops n = true) :
    ∀ (l : List Oper) (k : Nat) (listed : Array Bool) (a : Act), (∀ j, j < l.length → l[j]? = ops[k + j]?) → k + l.length = n → HeadInv md ops n listed → Region.lexHead md ops g l.length k listed = true → walkF P ops C R k l a b →
    anyF P md ops C R n n (fun listed' a' => Region.seqB md ops g n listed' = true ∧ a' = b) l.length listed a
  | [], k, listed, a, _, hk, _, hB, h => by
    have : k = n := by simpa using hk
    subst this
    exact ⟨by simpa [Region.lexHead] using hB, h⟩
  | o :: l, k, listed, a, hl, hk, inv, hB, h => by
    have h0 : ops[k]? = some o := by simpa using (hl 0 (by simp)).symm
    simp only [List.length_cons, Region.lexHead, Bool.and_eq_true] at hB
    have hkn : k < n := by simp only [List.length_cons] at hk; omega
    have hr' : k ∈ Region.ready md ops listed := by simpa using hB.1.1
    obtain ⟨v, hy, hK⟩ := h
    exact anyF_first h0 (Region.noSelect_spec hsel) hc hkn (fun listed' a' hL => seqB_ready hL.1) l.length listed a inv (Region.free_spec h0 hB.1.2) hr' hy
      (anyF_lex hsel hc l (k + 1) _ _ (fun j hj => by have := hl (j + 1) (by simp; omega); simpa [Nat.add_assoc, Nat.add_comm 1 j] using this) (by simp only [List.length_cons] at hk; omega) (inv.set hr' hkn) hB.2 hK)
/-- What is to be so of operation n among the heads: no head waits for it; it waits for each that is not apart from it. -/
def floatAt (md : Region.Mode) (ops : Array Oper) (h n : Nat) : Bool :=
  match ops[n]? with
  | some o => o.guard.isNone && (List.range h).all fun i => match ops[i]? with
    | some oi => !Region.waitsFor md ops i n && (Region.waitsFor md ops n i || o.apart ops oi)
    | none => false
  | none => false
theorem floatAt_spec {h n : Nat} (hB : floatAt md ops h n = true) : ∃ on, ops[n]? = some on ∧ on.guard = none ∧ ∀ i oi, i < h → ops[i]? = some oi → Region.waitsFor md ops i n = false ∧ (Region.waitsFor md ops n i = true ∨ on.apart ops oi = true) := by
  unfold floatAt at hB
  split at hB
  · rename_i o ho
    simp only [Bool.and_eq_true, List.all_eq_true, List.mem_range, Option.isNone_iff_eq_none] at hB
    refine ⟨o, ho, hB.1, fun i oi hi hoi => ?_⟩
    have := hB.2 i hi
    rw [hoi] at this
    simp only [Bool.and_eq_true, Bool.not_eq_true', Bool.or_eq_true] at this
    exact this
  · cases hB
/-- Who is waited for and is not through keeps back the one that waits. -/
theorem not_waits {n i : Nat} {listed : Array Bool} (hn : n ∈ Region.ready md ops listed) (hi : listed.getD i true = false) : Region.waitsFor md ops n i = false := by
  cases hw : Region.waitsFor md ops n i with
  | false => rfl
  | true =>
    obtain ⟨o', ho', e, he, hb, hon⟩ := Region.waitsFor_spec hw
    obtain ⟨_, o2, ho2, hall2⟩ := mem_ready.1 hn
    rw [ho'] at ho2
    cases ho2
    have h3 := hall2 e he hb
    rw [hon, getD_both hi] at h3
    cases h3
/-- Operation n has come up: the heads that are left do as they did. -/
theorem anyF_shift {h n : Nat} {on : Oper} {v : Value} {L : Array Bool → Act → Prop} (hon : ops[n]? = some on) (hhn : h ≤ n) (hsel : ∀ (j : Nat) (o : Oper) cs b, ops[j]? = some o → o.op ≠ .select cs b)
    (hc : Region.chainB md ops h = true) (hw : ∀ i oi, i < h → ops[i]? = some oi → Region.waitsFor md ops i n = false ∧ (Region.waitsFor md ops n i = true ∨ on.apart ops oi = true)) :
    ∀ (f : Nat) (listed : Array Bool) (a : Act), HeadInv md ops n listed → (∀ t, h ≤ t → t < n → listed.getD t false = true) → n ∈ Region.ready md ops listed → anyF P md ops C R h n L f listed a →
      anyF P md ops C R h (n + 1) (fun l' a' => ∃ l0 a0, l' = l0.setIfInBounds n true ∧ a' = a0.put on.dst v ∧ L l0 a0) f (listed.setIfInBounds n true) (a.put on.dst v)
  | 0, listed, a, _, _, _, H => ⟨listed, a, rfl, rfl, H⟩
  | f + 1, listed, a, inv, hfl, hr, H => by
    obtain ⟨⟨i0, hi0, hi0n⟩, H⟩ := H
    have hnsz : n < listed.size := by rw [inv.size]; exact (Array.getElem?_eq_some_iff.1 hon).1
    refine ⟨⟨i0, ready_mono hi0 (by omega), hi0n⟩, fun i hi => ?_⟩
    obtain ⟨hiun, oi, hoi, hall⟩ := mem_ready.1 hi
    have hine : i ≠ n := by
      rintro rfl
      have : (listed.setIfInBounds i true).getD i true = true := by simp [hnsz]
      rw [this] at hiun
      cases hiun
    have hiun' : listed.getD i true = false := by rwa [getD_set_ne true (Ne.symm hine)] at hiun
    by_cases hin : i < h
    · obtain ⟨w1, w2⟩ := hw i oi hin hoi
      have hri : i ∈ Region.ready md ops listed := by
        refine mem_ready.2 ⟨hiun', oi, hoi, fun e he hb => ?_⟩
        have h1 := hall e he hb
        by_cases hen : n = e.on
        · have : Region.waitsFor md ops i n = true := by
            unfold Region.waitsFor
            rw [hoi]
            simp only [Array.any_eq_true']
            exact ⟨e, he, by simp [hb, hen]⟩
          rw [this] at w1
          cases w1
        · rwa [getD_set_ne false hen] at h1
      have hap : on.apart ops oi = true := by
        rcases w2 with h2 | h2
        · rw [not_waits hr hiun'] at h2; cases h2
        · exact h2
      rcases H i hri with h3 | ⟨_, o2, u, ho2, hu, hK⟩
      · exact absurd h3 hine
      rw [hoi] at ho2
      cases ho2
      obtain ⟨a1, a2, a3⟩ := Oper.apart_spec hap
      refine .inr ⟨hin, oi, u, hoi, hu.same (execOp_put oi (fun cs b => hsel i oi cs b hoi) a on.dst v a1) (wanted_put oi a on.dst v a1), ?_⟩
      rw [Array.setIfInBounds_comm _ _ (Ne.symm hine), Act.put_comm a v u a2]
      refine anyF_shift hon hhn hsel hc hw f _ _ ⟨by simp [inv.size], fun j oj hj hl e he hb => ?_, fun t h1 h2 => by rw [getD_set_ne true (by omega)]; exact inv.tail t h1 h2⟩ (fun t h1 h2 => getD_set_true (hfl t h1 h2)) (ready_mono hr (Ne.symm hine)) hK
      by_cases hij : i = j
      · subst hij
        rw [hoi] at hj
        cases hj
        have h1 := (mem_ready.1 hri).2
        obtain ⟨o3, ho3, hall3⟩ := h1
        rw [hoi] at ho3
        cases ho3
        exact getD_set_true (hall3 e he hb)
      · rw [getD_set_ne false hij] at hl
        exact getD_set_true (inv.closed j oj hj hl e he hb)
    · left
      by_cases hin2 : i < n
      · have h4 := hfl i (by omega) hin2
        rw [getD_both hiun'] at h4
        cases h4
      · apply Classical.byContradiction
        intro hne
        have hjl := (Array.getElem?_eq_some_iff.1 hoi).1
        have h1 := List.all_eq_true.1 hc i (List.mem_range.2 hjl)
        simp only [Bool.or_eq_true, decide_eq_true_eq] at h1
        rcases h1 with h1 | h1
        · omega
        · have := not_waits hi (i := i - 1) (by rw [getD_set_ne true (by omega)]; exact inv.tail (i - 1) (by omega) (by omega))
          rw [this] at h1
          cases h1
/-- What operation n does is the same wherever it comes up. -/
theorem anyF_reach {h n : Nat} {on : Oper} {L : Array Bool → Act → Prop} (hn : ops[n]? = some on) (hhn : h ≤ n) (hsel : ∀ (j : Nat) (o : Oper) cs b, ops[j]? = some o → o.op ≠ .select cs b)
    (hw : ∀ i oi, i < h → ops[i]? = some oi → Region.waitsFor md ops i n = false ∧ (Region.waitsFor md ops n i = true ∨ on.apart ops oi = true)) :
    ∀ (f : Nat) (listed : Array Bool) (a : Act), n ∈ Region.ready md ops listed → anyF P md ops C R h n L f listed a → ∃ listed' a', L listed' a' ∧ execOp a'.eval on = execOp a.eval on
  | 0, listed, a, _, H => ⟨listed, a, H, rfl⟩
  | f + 1, listed, a, hr, H => by
    obtain ⟨⟨i, hi, hin⟩, H⟩ := H
    rcases H i hi with h3 | ⟨_, oi, u, hoi, hu, hK⟩
    · omega
    have hap : on.apart ops oi = true := by
      rcases (hw i oi hin hoi).2 with h2 | h2
      · rw [not_waits hr (mem_ready.1 hi).1] at h2; cases h2
      · exact h2
    obtain ⟨a1, a2, a3⟩ := Oper.apart_spec hap
    obtain ⟨l', a', hL, he⟩ := anyF_reach hn hhn hsel hw f _ _ (ready_mono hr (by omega)) hK
    exact ⟨l', a', hL, he.trans (execOp_put on (fun cs b => hsel n on cs b hn) a oi.dst u a3)⟩
/-- An operation that comes to an end by itself. -/
def RunTo (P : Program) (o : Oper) (b : Act) (w : World) (v : Value) (w1 : World) : Prop := (execOp b.eval o).run P w = .ok (.value v) w1 ∨ ((execOp b.eval o).run P w = .ok .skip w1 ∧ v = undef)
theorem RunTo.wp {o : Oper} {a : Act} {w w1 : World} {v : Value} {K : Act → World → Prop} (hnd : ∀ c, o.op ≠ .defer c) (h : RunTo P o a w v w1) (hK : K (a.put o.dst v) w1) : o.wpIn (Fr r) 0 P a w K Q := by
  refine ⟨fun f _ => trivial, ?_⟩
  rw [Oper.semAt_eq _ _ _ hnd]
  rcases h with h | ⟨h, rfl⟩ <;> rw [h] <;> exact hK
/-- The operations that come up one behind the other. -/
def FloatH (P : Program) (md : Region.Mode) (ops : Array Oper) (C : ι → World → Prop) (R : Nat → ι → Prop) (r : Option Nat) (Q : Exit → Act → World → Prop) (h : Nat) (tail : List Oper) : Nat → List Oper → Act → ι → Prop
  | _, [], b, k => ∀ w, C k w → wpListIn (Fr r) 0 P ops Q tail b w
  | n, o :: os, b, k => ∀ w, C k w → ∃ v k' w1, RunTo P o b w v w1 ∧ C k' w1 ∧ (∀ i, i < h → Region.waitsFor md ops n i = false → R i k → R i k') ∧ FloatH P md ops C R r Q h tail (n + 1) os (b.put o.dst v) k'
theorem run_float {h e : Nat} {tail : List Oper} (hsel : ∀ (j : Nat) (o : Oper) cs b, ops[j]? = some o → o.op ≠ .select cs b) (hc : Region.chainB md ops h = true) (hs : Region.sinkB md ops e = true) (he : e < ops.size)
    (hfl : ∀ n, h ≤ n → n < e → floatAt md ops h n = true) (htl : ∀ j, tail[j]? = ops[e + j]?) :
    ∀ (os : List Oper) (n : Nat), n + os.length = e → h ≤ n → (∀ j, j < os.length → os[j]? = ops[n + j]?) → (∀ o, o ∈ os → ∀ c, o.op ≠ .defer c) →
    ∀ (f : Nat) (listed : Array Bool) (a b : Act) (k : ι) (w : World), HeadInv md ops n listed → (∀ t, h ≤ t → t < n → listed.getD t false = true) →
      anyF P md ops C R h n (fun l' a' => Region.seqB md ops (os.length + tail.length) n l' = true ∧ a' = b) f listed a → (∀ i, i < h → listed.getD i true = false → R i k) → FloatH P md ops C R r Q h tail n os b k → C k w →
      wpAnyIn (Fr r) 0 P md ops Q (f + (os.length + tail.length)) listed a w := by
  intro os
  induction os with
  | nil =>
    intro n hne hhn _ _ f
    have hn : n = e := by simpa using hne
    subst hn
    induction f with
    | zero =>
      intro listed a b k w inv _ H _ hF hC
      obtain ⟨hq, rfl⟩ := H
      simp only [List.length_nil, Nat.zero_add] at hq ⊢
      exact anyIn_of_seq tail n listed a w htl hq (hF w hC)
    | succ f ih =>
      intro listed a b k w inv hfd H hR hF hC
      rw [show f + 1 + (([] : List Oper).length + tail.length) = (f + (([] : List Oper).length + tail.length)) + 1 by omega]
      obtain ⟨⟨i0, hi0, hi0n⟩, H⟩ := H
      have hcn : Region.chainB md ops n = true := by
        rw [Region.chainB, List.all_eq_true] at hc ⊢
        intro t ht
        have := hc t ht
        simp only [Bool.or_eq_true, decide_eq_true_eq] at this ⊢
        exact this.imp (fun h => by omega) id
      refine ⟨fun h1 => absurd h1 (List.ne_nil_of_mem hi0), fun i hi => ?_⟩
      have hin : i < n := Nat.lt_of_not_le fun hle => tail_waits hs hcn he inv _ i0 rfl (by omega) (mem_ready.1 hi0).1 i hle hi
      rcases H i hi with h3 | ⟨hih, hq⟩
      · omega
      · exact wpOpIn_of_qOp hC (fun a2 w2 hC2 h2 => ih _ a2 b k w2 (inv.set hi hin) (fun t h1 h2 => getD_set_true (hfd t h1 h2)) h2 (fun j hj hjl => hR j hj (by
          by_cases hij : i = j
          · subst hij; exact (mem_ready.1 hi).1
          · rwa [getD_set_ne true hij] at hjl)) hF hC2) (hq.one (hR i hih (mem_ready.1 hi).1))
  | cons on os ihos =>
    intro n hne hhn hos hnd f
    simp only [List.length_cons] at hne
    have hon : ops[n]? = some on := by simpa using (hos 0 (by simp)).symm
    obtain ⟨on', hon', hguard, hw⟩ := floatAt_spec (hfl n hhn (by omega))
    rw [hon] at hon'
    cases hon'
    have hndn := hnd on List.mem_cons_self
    -- operation n comes up
    have up : ∀ (f : Nat) (listed : Array Bool) (a b : Act) (k : ι) (w : World), HeadInv md ops n listed → (∀ t, h ≤ t → t < n → listed.getD t false = true) → n ∈ Region.ready md ops listed →
        anyF P md ops C R h n (fun l' a' => Region.seqB md ops ((on :: os).length + tail.length) n l' = true ∧ a' = b) f listed a → (∀ i, i < h → listed.getD i true = false → R i k) → FloatH P md ops C R r Q h tail n (on :: os) b k → C k w →
        wpOpIn (Fr r) 0 P ops Q n (wpAnyIn (Fr r) 0 P md ops Q (f + (os.length + tail.length)) (listed.setIfInBounds n true)) a w := by
      intro f listed a b k w inv hfd hr H hR hF hC
      obtain ⟨l', a1, ⟨_, hL⟩, hex⟩ := anyF_reach hon hhn hsel hw f listed a hr H
      subst hL
      obtain ⟨v, k', w1, h1, h2, h3, h4⟩ := hF w hC
      have h1 : RunTo P on a w v w1 := by unfold RunTo at h1 ⊢; rw [hex] at h1; exact h1
      unfold wpOpIn
      simp only [hon]
      rw [if_pos (by simp [Region.wanted, hguard])]
      refine RunTo.wp hndn h1 ?_
      have hnsz : n < listed.size := by rw [inv.size]; exact (Array.getElem?_eq_some_iff.1 hon).1
      obtain ⟨_, on2, hon2, hall0⟩ := mem_ready.1 hr
      rw [hon] at hon2
      cases hon2
      have inv1 : HeadInv md ops (n + 1) (listed.setIfInBounds n true) := by
        refine ⟨by simp [inv.size], fun j oj hj hl e he hb => ?_, fun t h1 h2 => by rw [getD_set_ne true (by omega)]; exact inv.tail t (by omega) h2⟩
        by_cases hjn : n = j
        · subst hjn
          rw [hon] at hj
          cases hj
          exact getD_set_true (hall0 e he hb)
        · rw [getD_set_ne false hjn] at hl
          exact getD_set_true (inv.closed j oj hj hl e he hb)
      refine ihos (n + 1) (by omega) (by omega) (fun j hj => by have := hos (j + 1) (by simp; omega); simpa [Nat.add_assoc, Nat.add_comm 1 j] using this) (fun o ho => hnd o (List.mem_cons_of_mem _ ho)) f _ _ (a1.put on.dst v) k' w1 inv1 (fun t h1 h2 => ?_) ?_ (fun i hi hil => ?_) h4 h2
      · by_cases htn : n = t
        · subst htn; simp [hnsz]
        · exact getD_set_true (hfd t h1 (by omega))
      · refine anyF_mono (fun l2 a2 ⟨l0, a0, e1, e2, e3, e4⟩ => ?_) _ _ _ (anyF_shift (v := v) hon hhn hsel hc hw f listed a inv hfd hr H)
        subst e1 e2 e4
        simp only [List.length_cons, show os.length + 1 + tail.length = (os.length + tail.length) + 1 by omega, Region.seqB, Bool.and_eq_true] at e3
        exact ⟨e3.2, rfl⟩
      · have hil' : listed.getD i true = false := by rwa [getD_set_ne true (by omega)] at hil
        exact h3 i hi (not_waits hr hil') (hR i hi hil')
    induction f with
    | zero =>
      intro listed a b k w inv hfd H hR hF hC
      have hq := H.1
      simp only [List.length_cons, show os.length + 1 + tail.length = (os.length + tail.length) + 1 by omega, Region.seqB, Bool.and_eq_true, decide_eq_true_eq] at hq
      rw [Nat.zero_add]
      rw [show (on :: os).length + tail.length = (os.length + tail.length) + 1 by simp; omega]
      refine ⟨fun h1 => (by rw [hq.1] at h1; cases h1), fun i hi => ?_⟩
      have hr : n ∈ Region.ready md ops listed := by rw [hq.1]; simp
      rw [hq.1] at hi
      have hik : i = n := by simpa using hi
      subst hik
      have := up 0 listed a b k w inv hfd hr H hR hF hC
      rwa [Nat.zero_add] at this
    | succ f ih =>
      intro listed a b k w inv hfd H hR hF hC
      rw [show f + 1 + ((on :: os).length + tail.length) = (f + 1 + (os.length + tail.length)) + 1 by simp; omega]
      have H' := H
      obtain ⟨⟨i0, hi0, _⟩, H⟩ := H
      refine ⟨fun h1 => absurd h1 (List.ne_nil_of_mem hi0), fun i hi => ?_⟩
      rcases H i hi with rfl | ⟨hih, hq⟩
      · exact up (f + 1) listed a b k w inv hfd hi H' hR hF hC
      · rw [show f + 1 + (os.length + tail.length) = f + ((on :: os).length + tail.length) by simp; omega]
        exact wpOpIn_of_qOp hC (fun a2 w2 hC2 h2 => ih _ a2 b k w2 (inv.set hi (by omega)) (fun t h1 h2 => getD_set_true (hfd t h1 h2)) h2 (fun j hj hjl => hR j hj (by
          by_cases hij : i = j
          · subst hij; exact (mem_ready.1 hi).1
          · rwa [getD_set_ne true hij] at hjl)) hF hC2) (hq.one (hR i hih (mem_ready.1 hi).1))
/-- h heads, then p operations that may come up among them. -/
def floatB (md : Region.Mode) (ops : Array Oper) (h p : Nat) : Bool :=
  Region.noSelect ops && (decide (h + p < ops.size) && (Region.sinkB md ops (h + p) && (Region.chainB md ops h && (Region.lexHead md ops (ops.size - h) h 0 (Array.replicate ops.size false) && (List.range p).all fun q => floatAt md ops h (h + q)))))
/-- The region. -/
theorem wpIn_float {id h p : Nat} {a b : Act} {w : World} {l : List Oper} {k0 : ι} (hm : P.follows .mixedOrders = true) (hB : floatB .any l.toArray h p = true) (hC : C k0 { w with drawn := w.drawn + 1 })
    (hR : ∀ i, i < h → R i k0) (hwalk : walkF P l.toArray C R 0 (l.take h) a b) (hF : FloatH P .any l.toArray C R r Q h (l.drop (h + p)) h ((l.drop h).take p) b k0)
    (hnd : ∀ o, o ∈ (l.drop h).take p → ∀ c, o.op ≠ .defer c) : (Code.region id l.toArray true).wpIn (Fr r) 0 P Q a w := by
  simp only [floatB, Bool.and_eq_true, decide_eq_true_eq, List.all_eq_true, List.mem_range] at hB
  obtain ⟨hsel0, hsz, hs, hc, hlex, hfl⟩ := hB
  have hnl : h + p < l.length := by simpa using hsz
  have htl : (l.take h).length = h := by simp; omega
  have hpl : ((l.drop h).take p).length = p := by simp; omega
  have hdl : (l.drop (h + p)).length = l.length - (h + p) := by simp
  have inv0 : HeadInv .any l.toArray h (Array.replicate l.toArray.size false) :=
    ⟨by simp, fun j oj _ hl => (by rw [getD_replicate_false] at hl; cases hl), fun t _ ht => getD_in (by simpa using ht) (getD_replicate_false _ _)⟩
  have H := anyF_lex (md := .any) (g := l.toArray.size - h) (b := b) hsel0 hc (l.take h) 0 _ a (fun j hj => by
    have hj' : j < h := by rw [htl] at hj; exact hj
    simp [hj']) (by simpa using htl) inv0 (by rw [htl]; exact hlex) hwalk
  refine wpIn_region_any hm ?_
  have hsum : ((l.drop h).take p).length + (l.drop (h + p)).length = l.toArray.size - h := by rw [hpl, hdl]; simp; omega
  rw [← hsum] at H
  have := run_float (r := r) (Q := Q) (Region.noSelect_spec hsel0) hc hs hsz (fun n h1 h2 => by
    have := hfl (n - h) (by omega)
    rwa [show h + (n - h) = n by omega] at this) (tail := l.drop (h + p)) (fun j => by simp [List.getElem?_drop]) ((l.drop h).take p) h (by rw [hpl]) (Nat.le_refl h) (fun j hj => by
    rw [hpl] at hj
    rw [List.getElem?_take, if_pos hj, List.getElem?_drop]
    simp) hnd (l.take h).length _ a b k0 _ inv0 (fun t h1 h2 => by omega) H (fun i hi _ => hR i hi) hF hC
  rw [htl, hpl, hdl, show h + (p + (l.length - (h + p))) = l.toArray.size by simp; omega] at this
  exact this
end
end Go.Mv
/- Mv: a region that draws its order: an operation that may be taken first. -/
namespace Go.Mv
open Go
section
variable {P : Program} {ops : Array Oper} {r : Option Nat} {Q : Exit → Act → World → Prop} {tm : Oper → Bool}
def ExtW (w w' : World) : Prop := w' = w ∨ ∃ o, w' = w.alloc o
/-- Any order; a tame operation turns nothing, or makes one block. -/
def wpAnyS (P : Program) (r : Option Nat) (ops : Array Oper) (Q : Exit → Act → World → Prop) (tm : Oper → Bool) : Nat → Array Bool → Act → World → Prop
  | 0, listed, a, w => Region.ready .any ops listed = [] ∧ Q .normal a w
  | f + 1, listed, a, w => (Region.ready .any ops listed = [] → Q .normal a w) ∧ ∀ i ∈ Region.ready .any ops listed,
      wpOpIn (Fr r) 0 P ops Q i (fun a' w' => (∀ o, ops[i]? = some o → tm o = true → ExtW w w') ∧ wpAnyS P r ops Q tm f (listed.setIfInBounds i true) a' w') a w
theorem wpAnyS.any : ∀ {f : Nat} {listed : Array Bool} {a : Act} {w : World}, wpAnyS P r ops Q tm f listed a w → wpAnyIn (Fr r) 0 P .any ops Q f listed a w
  | 0, _, _, _, h => h
  | _ + 1, _, _, _, h => ⟨h.1, fun i hi => wpOpIn_mono (fun _ _ h' => wpAnyS.any h'.2) (h.2 i hi)⟩
/-- One value, in every world of C. -/
def YV (P : Program) (ops : Array Oper) (C : World → Prop) (o : Oper) (v : Value) (a : Act) : Prop :=
  (Region.wanted o (yielded ops a.tmps) = true ∧ ∀ w, C w → (execOp a.eval o).run P w = .ok (.value v) w) ∨ (Region.wanted o (yielded ops a.tmps) = false ∧ v = undef)
theorem YV.same {C : World → Prop} {o : Oper} {v : Value} {a a' : Act} (hy : YV P ops C o v a) (he : execOp a'.eval o = execOp a.eval o) (hw : Region.wanted o (yielded ops a'.tmps) = Region.wanted o (yielded ops a.tmps)) : YV P ops C o v a' := by
  unfold YV at *
  rw [he, hw]
  exact hy
theorem YV.op {C : World → Prop} {i : Nat} {o : Oper} {v : Value} {a : Act} {w : World} (hi : ops[i]? = some o) (hnd : ∀ c, o.op ≠ .defer c) (hy : YV P ops C o v a) (hC : C w) {K : Act → World → Prop} (h : K (a.put o.dst v) w) : wpOpIn (Fr r) 0 P ops Q i K a w := by
  unfold wpOpIn
  simp only [hi]
  rcases hy with ⟨hw, hv⟩ | ⟨hw, rfl⟩
  · rw [if_pos hw]
    refine ⟨fun f _ => trivial, ?_⟩
    rw [Oper.semAt_eq _ _ _ hnd, hv w hC]
    exact h
  · rw [if_neg (by simp [hw])]
    exact ⟨fun f _ => trivial, h⟩
theorem commute {C : World → Prop} {j : Nat} {oi oj : Oper} {v : Value} (hj : ops[j]? = some oj) (hap : oi.apart ops oj = true)
    (hsi : ∀ cs b, oi.op ≠ .select cs b) (hsj : ∀ cs b, oj.op ≠ .select cs b) (hdj : ∀ c, oj.op ≠ .defer c)
    (hQ : ∀ c (a : Act) v w, Q (.panic c) (a.put oi.dst v) w → Q (.panic c) a w) {K : Act → World → Prop} {a : Act} {w : World}
    (hy : YV P ops C oi v a) (h : wpOpIn (Fr r) 0 P ops Q j K (a.put oi.dst v) w) :
    wpOpIn (Fr r) 0 P ops Q j (fun a' w' => YV P ops C oi v a' ∧ K (a'.put oi.dst v) w') a w := by
  obtain ⟨h1, h2, h3⟩ := Oper.apart_spec hap
  have keep : ∀ (a : Act), YV P ops C oi v a → ∀ u, YV P ops C oi v (a.put oj.dst u) := fun a hy u =>
    hy.same (execOp_put oi hsi a oj.dst u h3) (wanted_put oi a oj.dst u h3)
  unfold wpOpIn at *
  simp only [hj] at *
  rw [wanted_put oj a oi.dst v h1] at h
  split
  · rename_i hw
    simp only [hw, if_true] at h
    unfold Oper.wpIn at *
    refine ⟨fun f _ => trivial, ?_⟩
    have h := h.2
    rw [Oper.semAt_eq _ _ _ hdj, execOp_put oj hsj a oi.dst v h1] at h
    rw [Oper.semAt_eq _ _ _ hdj]
    generalize (execOp a.eval oj).run P w = q at *
    cases q with
    | ok x w' =>
      cases x <;> simp only [Oper.uponIn] at h ⊢
      case value u => exact ⟨keep a hy u, by rw [← Act.put_comm a v u h2]; exact h⟩
      case skip => exact ⟨keep a hy _, by rw [← Act.put_comm a v undef h2]; exact h⟩
      case defer d =>
        refine ⟨hy.same (a' := { a with defers := d :: a.defers }.put oj.dst undef) (execOp_put oi hsi { a with defers := d :: a.defers } oj.dst undef h3) (wanted_put oi { a with defers := d :: a.defers } oj.dst undef h3), ?_⟩
        rw [← Act.put_comm _ v undef h2, ← Act.put_defers]
        exact h
      case enter f args =>
        refine ⟨h.1, CallsIn.mono h.2 fun e w'' he => ?_⟩
        cases e with
        | returned u => exact ⟨keep a hy u, by rw [← Act.put_comm a v u h2]; exact he⟩
        | panicked c => exact hQ _ _ _ _ he
        | outgrown => exact he
      case row row args => exact ⟨h.1, RowsIn.mono h.2 fun u w'' he => ⟨keep a hy u, by rw [← Act.put_comm a v u h2]; exact he⟩⟩
      case round l f tmps assign body =>
        refine ⟨h.1, RoundIn.mono h.2 fun e w'' he => ?_⟩
        cases e with
        | returned u => exact ⟨keep a hy u, by rw [← Act.put_comm a v u h2]; exact he⟩
        | panicked c => exact hQ _ _ _ _ he
        | outgrown => exact he
    | halt x w' =>
      cases x <;> simp only [Oper.uponIn] at h ⊢
      case panic u => exact hQ _ _ _ _ h
  · rename_i hw
    simp only [hw] at h
    exact ⟨fun f _ => trivial, keep a hy _, by rw [← Act.put_comm a v undef h2]; exact h.2⟩
/-- Who waits for i, by way of whom. -/
def blockB (ops : Array Oper) (bl : List Nat) (i : Nat) : Bool := bl.all fun j => Region.waitsFor .any ops j i || bl.any fun k => decide (k < j) && Region.waitsFor .any ops j k
theorem not_blocked {bl : List Nat} {i : Nat} {listed : Array Bool} (hB : blockB ops bl i = true) (inv : HeadInv .any ops ops.size listed) (hi : listed.getD i true = false) :
    ∀ (n j : Nat), j < n → j ∈ bl → ∀ oj, ops[j]? = some oj → ¬ ∀ e ∈ oj.after, Region.binds .any e = true → listed.getD e.on false = true := by
  intro n
  induction n with
  | zero => intro j hj; omega
  | succ n ih =>
    intro j hj hbl oj hoj hall
    have h1 := List.all_eq_true.1 hB j hbl
    simp only [Bool.or_eq_true, List.any_eq_true, Bool.and_eq_true, decide_eq_true_eq] at h1
    rcases h1 with h1 | ⟨k, hk, hkj, h1⟩
    · obtain ⟨o, ho, e, he, hb, hon⟩ := Region.waitsFor_spec h1
      rw [hoj] at ho
      cases ho
      have := hall e he hb
      rw [hon, getD_both hi] at this
      cases this
    · obtain ⟨o, ho, e, he, hb, hon⟩ := Region.waitsFor_spec h1
      rw [hoj] at ho
      cases ho
      have h2 := hall e he hb
      rw [hon] at h2
      have hks : k < ops.size := by
        apply Classical.byContradiction
        intro hge
        have : listed.getD k false = false := by
          rw [Array.getD_eq_getD_getElem?, Array.getElem?_eq_none (by rw [inv.size]; omega)]
          rfl
        rw [this] at h2
        cases h2
      exact ih k (by omega) hk ops[k] (Array.getElem?_eq_getElem hks) (inv.closed k ops[k] (Array.getElem?_eq_getElem hks) h2)
/-- Operation i taken first. -/
theorem any_eager {C : World → Prop} {i : Nat} {oi : Oper} {v : Value} {bl : List Nat} (hi : ops[i]? = some oi) (hsel : ∀ (j : Nat) (o : Oper), ops[j]? = some o → (∀ cs b, o.op ≠ .select cs b) ∧ ∀ c, o.op ≠ .defer c)
    (hQ : ∀ (i : Nat) o, ops[i]? = some o → ∀ c (a : Act) v w, Q (.panic c) (a.put o.dst v) w → Q (.panic c) a w) (hCl : ∀ w o, C w → C (w.alloc o)) (hB : blockB ops bl i = true) :
    ∀ (f : Nat) (listed : Array Bool) (a : Act) (w : World), HeadInv .any ops ops.size listed →
      (∀ j oj, ops[j]? = some oj → j ≠ i → listed.getD j true = false → j ∉ bl → oi.apart ops oj = true ∧ (tm oj = true ∨ ∀ w, C w)) →
      i ∈ Region.ready .any ops listed → C w → YV P ops C oi v a → wpAnyS P r ops Q tm f (listed.setIfInBounds i true) (a.put oi.dst v) w → wpAnyS P r ops Q tm (f + 1) listed a w := by
  intro f
  induction f with
  | zero =>
    intro listed a w inv _ hr hC hy H
    refine ⟨fun h => (by rw [h] at hr; cases hr), fun j hj => ?_⟩
    by_cases hji : j = i
    · subst hji
      exact hy.op hi (hsel j oi hi).2 hC ⟨fun _ _ _ => .inl rfl, H⟩
    · have := ready_mono hj hji
      rw [H.1] at this
      cases this
  | succ f ih =>
    intro listed a w inv hfree hr hC hy H
    refine ⟨fun h => (by rw [h] at hr; cases hr), fun j hj => ?_⟩
    by_cases hji : j = i
    · subst hji
      exact hy.op hi (hsel j oi hi).2 hC ⟨fun _ _ _ => .inl rfl, H⟩
    · obtain ⟨hjun, oj, hoj, hall⟩ := mem_ready.1 hj
      have hnb : j ∉ bl := fun hb => not_blocked hB inv (mem_ready.1 hr).1 (j + 1) j (by omega) hb oj hoj hall
      obtain ⟨hap, htm⟩ := hfree j oj hoj hji hjun hnb
      have h1 := commute hoj hap (hsel i oi hi).1 (hsel j oj hoj).1 (hsel j oj hoj).2 (hQ i oi hi) hy (H.2 j (ready_mono hj hji))
      refine wpOpIn_mono (fun a' w' ⟨hy', hex, hK⟩ => ⟨hex, ?_⟩) h1
      have hjs := (Array.getElem?_eq_some_iff.1 hoj).1
      refine ih (listed.setIfInBounds j true) a' w' (inv.set hj hjs) (fun k ok hk hki hu hno => hfree k ok hk hki ?_ hno) (ready_mono hr (Ne.symm hji)) ?_ hy' ?_
      · by_cases hjk : j = k
        · subst hjk; exact hjun
        · rwa [getD_set_ne true hjk] at hu
      · rcases htm with h2 | h2
        · rcases hex oj hoj h2 with rfl | ⟨o, rfl⟩
          · exact hC
          · exact hCl w o hC
        · exact h2 w'
      · rw [Array.setIfInBounds_comm _ _ hji]
        exact hK
end
end Go.Mv
/- Mv: regions in the text's order; code; functions. -/
namespace Go.Mv
set_option linter.unusedSimpArgs false
open Go
section
variable {P : Program} {r : Option Nat} {T : Tbl} {B pr : List Nat} {ψ : Nat → Nat} {N : Nat} {D : HD} {m0 : Mem} {w0 : World} {Q : Exit → Act → World → Prop} {S S' : St} {a : Act} {w w' : World} {K : St → Prop} {v : Value}

def dstOk (N : Nat) (o : Oper) : Bool :=
  match o.dst with
  | some d => Nat.blt d N
  | none => true
theorem dstOk_spec {o : Oper} (h : dstOk N o = true) : ∀ i, o.dst = some i → i < N := by
  intro i hi
  simp only [dstOk, hi] at h
  exact blt_spec h
theorem Rel.entry (h : Rel ψ N D m0 w0 S a w) {d : Nat} {x : AV} (hx : x.is ψ S.ls.length (a.tmps.getD d Go.undef)) : Rel ψ N D m0 w0 (S.put (some d) x) a w :=
  ⟨h.size, h.defers, fun i y hy => by
    simp only [St.put_eq, lk] at hy
    by_cases hi : d = i
    · rw [if_pos hi] at hy
      cases hy
      rw [← hi]
      exact hx
    · rw [if_neg hi] at hy
      exact h.env i y hy, h.box, h.inj, h.frame, h.marks⟩
theorem vcOps_cons {ops rest : List Oper} {o : Oper} : vcOps P T B pr ops (o :: rest) S K = match o.guard with
    | none => vcOpN P T B pr o.dst o.op o.type S fun S' => vcOps P T B pr ops rest S' K
    | some (j, want) => match (ops[j]?).bind (·.dst) with
      | none => False
      | some d => lkK S.env d fun x => match x with
        | .v (.bool b) => brk (b == want) (vcOpN P T B pr o.dst o.op o.type { S with env := (d, .v (.bool want)) :: S.env } fun S' => vcOps P T B pr ops rest S' K)
            (vcOps P T B pr ops rest (St.put { S with env := (d, .v (.bool (!want))) :: S.env } o.dst (.v undef)) K)
        | .v (.tuple _) => vcOps P T B pr ops rest (S.put o.dst (.v undef)) K
        | _ => False := by
  cases o; cases S; rfl
theorem vcQs_cons {ops rest : List Oper} {o : Oper} : vcQs P T B pr ops (o :: rest) S K = match o.guard with
    | none => vcQ P T B pr o.dst o.op o.type S fun S' => vcQs P T B pr ops rest S' K
    | some (j, want) => match (ops[j]?).bind (·.dst) with
      | none => False
      | some d => lkK S.env d fun x => match x with
        | .v (.bool b) => brk (b == want) (vcQ P T B pr o.dst o.op o.type { S with env := (d, .v (.bool want)) :: S.env } fun S' => vcQs P T B pr ops rest S' K)
            (vcQs P T B pr ops rest (St.put { S with env := (d, .v (.bool (!want))) :: S.env } o.dst (.v undef)) K)
        | .v (.tuple _) => vcQs P T B pr ops rest (S.put o.dst (.v undef)) K
        | _ => False := by
  cases o; cases S; rfl
theorem vcOps_sound (hT : T.ok P = true) (hB : bodiesOk P B = true) (ops : List Oper) : ∀ (rest : List Oper) (S : St) (a : Act) (w : World) (K : St → Prop), (rest.all (dstOk N)) = true → vcOps P T B pr ops rest S K → Relx N D m0 w0 S a w →
    (∀ S' a' w', K S' → Relx N D m0 w0 S' a' w' → Q .normal a' w') → wpListIn (Fr r) 0 P ops.toArray Q rest a w
  | [], S, a, w, K, _, hk, hR, hK => hK S a w hk hR
  | o :: rest, S, a, w, K, hd, hk, ⟨ψ, hR⟩, hK => by
    simp only [List.all_cons, Bool.and_eq_true] at hd
    have hdo := dstOk_spec hd.1
    have ih := fun S a w K => vcOps_sound hT hB ops rest S a w K hd.2
    rw [vcOps_cons] at hk
    simp only [wpListIn]
    have run : ∀ S : St, Rel ψ N D m0 w0 S a w → (vcOpN P T B pr o.dst o.op o.type S fun S' => vcOps P T B pr ops rest S' K) → o.wpIn (Fr r) 0 P a w (wpListIn (Fr r) 0 P ops.toArray Q rest) Q := by
      intro S hR hv
      obtain ⟨dst, op, ty, pos, after, guard⟩ := o
      exact vcOp_sound hT hB hR hdo (vcOpN_old hv) _ (fun S' a' w' h1 h2 => ih S' a' w' K h1 h2 hK)
    have skip : ∀ S : St, Rel ψ N D m0 w0 S a w → vcOps P T B pr ops rest (S.put o.dst (.v undef)) K →
        ((∀ f, o.about P w a.eval = some f → (Fr r).fn f) ∧ wpListIn (Fr r) 0 P ops.toArray Q rest (a.put o.dst undef) w) := by
      intro S hR hv
      exact ⟨fun f _ => trivial, ih _ _ _ K hv ⟨ψ, hR.undef _ hdo⟩ hK⟩
    cases hg : o.guard with
    | none =>
      rw [hg] at hk
      rw [if_pos (by simp [Region.wanted, hg])]
      exact run S hR hk
    | some g =>
      obtain ⟨j, want⟩ := g
      rw [hg] at hk
      simp only at hk
      cases hj : (ops[j]?).bind (·.dst) with
      | none => rw [hj] at hk; exact hk.elim
      | some d =>
        rw [hj] at hk
        simp only at hk
        obtain ⟨x, hx, h1⟩ := lkK_spec hk
        have hx' := hR.env _ _ hx
        have hy : yielded ops.toArray a.tmps j = match a.tmps.getD d undef with | .bool b => some b | _ => none := by
          simp only [yielded]
          have : (ops.toArray[j]?).bind (·.dst) = some d := by simpa using hj
          simp only [this, Option.bind_some, Array.getD_eq_getD_getElem?]
          cases a.tmps[d]? with
          | none => rfl
          | some v => cases v <;> rfl
        split at h1
        · rename_i b
          simp only [AV.is] at hx'
          rw [hx'] at hy
          simp only at hy
          cases hb : (b == want) with
          | true =>
            rw [hb] at h1
            have hbw : b = want := by simpa using hb
            rw [if_pos (by simp [Region.wanted, hg, hy, hbw])]
            exact run _ (hR.entry (x := .v (.bool want)) (by simp only [AV.is]; rw [hx', hbw])) h1
          | false =>
            rw [hb] at h1
            have hbw : b ≠ want := by simpa using hb
            rw [if_neg (by simp [Region.wanted, hg, hy, hbw])]
            exact skip _ (hR.entry (x := .v (.bool (!want))) (by simp only [AV.is]; rw [hx']; cases b <;> cases want <;> simp_all)) h1
        · simp only [AV.is] at hx'
          rw [hx'] at hy
          simp only at hy
          rw [if_neg (by simp [Region.wanted, hg, hy])]
          exact skip _ hR h1
        · exact h1.elim

/-! ### a region that draws -/
def WRel (ψ : Nat → Nat) (D : HD) (m0 : Mem) (w0 : World) (m : Mem) (ls : List LC) (w : World) : Prop :=
  Frame m0 w0 m w ∧ (∀ i c, ls[i]? = some c → ∃ e, w.heap[ψ i]? = some (.cells c.list.toArray e (0, 0)) ∧ m (ψ i) = none ∧ w0.heap.size ≤ ψ i) ∧
  ∀ b o, (b, o) ∈ D.hid → w.heap[b]? = some o ∧ m b = none ∧ ∀ i, i < ls.length → ψ i ≠ b
theorem Rel.wr (h : Rel ψ N D m0 w0 S a w) : WRel ψ D m0 w0 S.m S.ls w := ⟨h.frame, h.box, h.marks⟩
theorem Rel.move (h : Rel ψ N D m0 w0 S a w) {w' : World} (hw : WRel ψ D m0 w0 S.m S.ls w') : Rel ψ N D m0 w0 S a w' := ⟨h.size, h.defers, h.env, hw.2.1, h.inj, hw.1, hw.2.2⟩
theorem WRel.call {m : Mem} {ls : List LC} (h : WRel ψ D m0 w0 m ls w) {w' : World} (hF : Frame m w m w') : WRel ψ D m0 w0 m ls w' :=
  ⟨h.1.trans hF, fun i c hc => by
    obtain ⟨e, h1, h2, h3⟩ := h.2.1 i c hc
    exact ⟨e, (hF.keep _ (Array.getElem?_eq_some_iff.1 h1).1 h2).trans h1, h2, h3⟩, fun b o hd => by
    obtain ⟨h1, h2, h4⟩ := h.2.2 b o hd
    exact ⟨(hF.keep _ (Array.getElem?_eq_some_iff.1 h1).1 h2).trans h1, h2, h4⟩⟩
/-- What an operation that reads leaves: one value, in every world that fits; a call keeps what is told. -/
def QV (P : Program) (C : World → Prop) (m : Mem) (o : Oper) (a : Act) (v : Value) : Prop := ∀ w, C w → o.quietAt P a (fun w'' => Frame m w m w'') w v
theorem quietAt_mono {C C' : World → Prop} {o : Oper} {v : Value} (hc : ∀ w, C w → C' w) (h : o.quietAt P a C w v) : o.quietAt P a C' w v := by
  unfold Oper.quietAt at *
  generalize (execOp a.eval o).run P w = q at *
  cases q with
  | ok n w' =>
    cases n <;> simp only [Oper.quietUpon] at h ⊢
    case value u => exact h
    case skip => exact h
    case enter f args => exact ⟨h.1, h.2.mono fun e w'' ⟨h1, h2⟩ => ⟨h1, hc _ h2⟩⟩
  | halt x w' => simp only [Oper.quietUpon] at h
theorem quietV {o : Oper} (hR : Rel ψ N D m0 w0 S a w) {v : Value} (hrun : ∀ w, Rel ψ N D m0 w0 S a w → (execOp a.eval o).run P w = .ok (.value v) w) : QV P (WRel ψ D m0 w0 S.m S.ls) S.m o a v :=
  fun w' hw' => by unfold Oper.quietAt; rw [hrun w' (hR.move hw')]; exact ⟨rfl, rfl⟩
/-- It looks at no world. -/
def pureOp : Op → Bool
  | .call _ => false
  | op => !isMem op
theorem pureOp_mem {op : Op} (h : pureOp op = true) : isMem op = false := by
  cases op <;> simp_all [pureOp]
/-- It enters no function. -/
def noFun : Op → Bool
  | .call c => match c.callee with
    | .builtin _ => true
    | _ => false
  | _ => true
theorem vcQ_fam (hT : T.ok P = true) (hB : bodiesOk P B = true) (hR : Rel ψ N D m0 w0 S a w) {o : Oper} (hd : ∀ i, o.dst = some i → i < N) (hk : vcQ P T B pr o.dst o.op o.type S K) :
    ∃ v S', (QV P (WRel ψ D m0 w0 S.m S.ls) S.m o a v ∧ (pureOp o.op = true → ∀ w, (execOp a.eval o).run P w = .ok (.value v) w) ∧ (noFun o.op = true → ∀ w', WRel ψ D m0 w0 S.m S.ls w' → (execOp a.eval o).run P w' = .ok (.value v) w')) ∧ K S' ∧ S'.m = S.m ∧ S'.ls = S.ls ∧ Rel ψ N D m0 w0 S' (a.put o.dst v) w := by
  obtain ⟨dst, op, ty, pos, after, guard⟩ := o
  have puts : ∀ (d : Option Nat) (x : AV), (S.put d x).m = S.m ∧ (S.put d x).ls = S.ls := by intro d x; cases d <;> exact ⟨rfl, rfl⟩
  have val : ∀ {v : Value} {x : AV}, x.is ψ S.ls.length v → K (S.put dst x) → (∀ w, Rel ψ N D m0 w0 S a w → (execOp a.eval ⟨dst, op, ty, pos, after, guard⟩).run P w = .ok (.value v) w) →
      (pureOp op = true → ∀ w, (execOp a.eval ⟨dst, op, ty, pos, after, guard⟩).run P w = .ok (.value v) w) →
      ∃ v S', (QV P (WRel ψ D m0 w0 S.m S.ls) S.m ⟨dst, op, ty, pos, after, guard⟩ a v ∧ (pureOp op = true → ∀ w, (execOp a.eval ⟨dst, op, ty, pos, after, guard⟩).run P w = .ok (.value v) w) ∧ (noFun op = true → ∀ w', WRel ψ D m0 w0 S.m S.ls w' → (execOp a.eval ⟨dst, op, ty, pos, after, guard⟩).run P w' = .ok (.value v) w')) ∧ K S' ∧ S'.m = S.m ∧ S'.ls = S.ls ∧ Rel ψ N D m0 w0 S' (a.put dst v) w :=
    fun hx h1 hrun hpu => ⟨_, _, ⟨quietV hR hrun, hpu, fun _ w' hw' => hrun w' (hR.move hw')⟩, h1, (puts _ _).1, (puts _ _).2, hR.put hx hd⟩
  rw [vcQ_eq] at hk
  unfold vcQS at hk
  simp only at hk
  split at hk
  · rename_i c
    split at hk
    · rename_i f hcal
      obtain ⟨x, hx, h1⟩ := hR.ev hk
      split at h1
      · rename_i g first cap
        obtain ⟨h2, h3⟩ := req_spec h1
        obtain ⟨v, h4, h5⟩ := hR.evs h3
        simp only [AV.is] at hx
        obtain ⟨y, hy, h6⟩ := norm_sound h5 ψ S.ls.length
        refine ⟨v, _, ⟨fun w' hw' => ?_, fun h => by simp [pureOp] at h, fun h => by simp [noFun, hcal] at h⟩, h6, (puts _ _).1, (puts _ _).2, hR.put hy hd⟩
        have hBg : bodyB P g = true := List.all_eq_true.1 hB _ (by simpa using h2)
        obtain ⟨callee, args, ats⟩ := c
        simp only at hcal
        subst hcal
        have he : (first ++ args.map a.eval) ++ cap = (first.toList ++ args.toList.map a.eval ++ cap.toList).toArray := by
          apply Array.ext'
          simp
        unfold Oper.quietAt
        simp only [execOp, resolve, hx, Deferred.ofValue, pure_bind, invoke]
        rw [he, run_callFunc hBg]
        refine ⟨rfl, (h4 w' hw'.1.sub).mono fun e w'' hh => ?_⟩
        obtain ⟨u, m', h7, ⟨h8, h9⟩, hF⟩ := hh
        subst h8; subst h9
        exact ⟨h7, hF⟩
      · exact h1.elim
    · rename_i b hcal
      obtain ⟨hqb, h1⟩ := req_spec hk
      rw [callK_eq] at h1
      unfold callKS at h1
      rw [hcal] at h1
      simp only at h1
      have one : ∀ {v : Value}, (∀ w : World, (Go.builtin b c.argTypes ty (c.args.map fun | .const _ => true | _ => false) (c.args.map a.eval)).run P w = .ok (.value v) w) → K (S.put dst (.v v)) →
          ∃ v S', (QV P (WRel ψ D m0 w0 S.m S.ls) S.m ⟨dst, .call c, ty, pos, after, guard⟩ a v ∧ (pureOp (.call c) = true → ∀ w, (execOp a.eval ⟨dst, .call c, ty, pos, after, guard⟩).run P w = .ok (.value v) w) ∧ (noFun (.call c) = true → ∀ w', WRel ψ D m0 w0 S.m S.ls w' → (execOp a.eval ⟨dst, .call c, ty, pos, after, guard⟩).run P w' = .ok (.value v) w')) ∧ K S' ∧ S'.m = S.m ∧ S'.ls = S.ls ∧ Rel ψ N D m0 w0 S' (a.put dst v) w := by
        intro v h2 h3
        exact val (x := .v v) rfl h3 (fun w _ => run_builtin hcal (h2 w)) (fun h => by simp [pureOp] at h)
      split at h1
      · rename_i o t h2 h3
        have hna : c.args = #[o] := by apply Array.ext'; rw [h2]
        have hnt : c.argTypes = #[t] := by apply Array.ext'; rw [h3]
        obtain ⟨x, hx, h4⟩ := hR.ev h1
        split at h4
        · rename_i ht
          simp only [AV.is] at hx
          have hu := under_slice (Tbl.fact hT (t := t) (by rw [ht]; simp)) ht
          exact one (fun w => by simp [hna, hnt, builtin, Builtin.len_, run_underlying hu, hx, goInt]) h4
        · rename_i ht
          simp only [AV.is] at hx
          have hu := under_str (Tbl.fact hT (t := t) (by rw [ht]; simp)) ht
          exact one (fun w => by simp [hna, hnt, builtin, Builtin.len_, run_underlying hu, hx, goInt]) h4
        · rename_i ht
          have hu := under_arr (Tbl.fact hT (t := t) (by rw [ht]; simp)) ht
          exact one (fun w => by simp [hna, hnt, builtin, Builtin.len_, run_underlying hu, goInt]) h4
        · exact h4.elim
      · rename_i o t h2 h3
        have hna : c.args = #[o] := by apply Array.ext'; rw [h2]
        have hnt : c.argTypes = #[t] := by apply Array.ext'; rw [h3]
        obtain ⟨x, hx, h4⟩ := hR.ev h1
        split at h4
        · rename_i ht
          simp only [AV.is] at hx
          have hu := under_slice (Tbl.fact hT (t := t) (by rw [ht]; simp)) ht
          exact one (fun w => by simp [hna, hnt, builtin, Builtin.cap_, run_underlying hu, hx, goInt]) h4
        · rename_i ht
          have hu := under_arr (Tbl.fact hT (t := t) (by rw [ht]; simp)) ht
          exact one (fun w => by simp [hna, hnt, builtin, Builtin.cap_, run_underlying hu, goInt]) h4
        · exact h4.elim
      · rename_i o o' h2
        have hna : c.args = #[o, o'] := by apply Array.ext'; rw [h2]
        obtain ⟨x, hx, h4⟩ := hR.ev h1
        obtain ⟨y, hy, h5⟩ := hR.ev h4
        split at h5
        · obtain ⟨_, h6⟩ := req_spec h5
          simp only [AV.is] at hx hy
          exact one (fun w => by simp [hna, builtin, Builtin.max_, Builtin.max2, hx, hy]) h6
        · exact h5.elim
      · rename_i o o' h2
        have hna : c.args = #[o, o'] := by apply Array.ext'; rw [h2]
        obtain ⟨x, hx, h4⟩ := hR.ev h1
        obtain ⟨y, hy, h5⟩ := hR.ev h4
        split at h5
        · obtain ⟨_, h6⟩ := req_spec h5
          simp only [AV.is] at hx hy
          exact one (fun w => by simp [hna, builtin, Builtin.min_, Builtin.min2, hx, hy]) h6
        · exact h5.elim
      all_goals first
        | exact h1.elim
        | (simp [quietBuiltin] at hqb; done)
        | (exfalso; obtain ⟨hq2, _⟩ := req_spec h1; simp [hqb] at hq2)
    · exact hk.elim
  · obtain ⟨hq, h1⟩ := req_spec hk
    obtain ⟨v, x, hx, h2, hrun⟩ := vcVal (pos := pos) (after := after) (guard := guard) hT hR hq h1
    exact val hx h2 (fun w hR => hrun w (.inr hR)) (fun h w => hrun w (.inl (pureOp_mem h)))
theorem vcQ_sound (hT : T.ok P = true) (hB : bodiesOk P B = true) (hR : Rel ψ N D m0 w0 S a w) {o : Oper} (hd : ∀ i, o.dst = some i → i < N) (hk : vcQ P T B pr o.dst o.op o.type S K) {Kq : Act → Prop}
    (hK : ∀ S' a', K S' → S'.m = S.m → S'.ls = S.ls → Rel ψ N D m0 w0 S' a' w → Kq a') : o.quiet P a (WRel ψ D m0 w0 S.m S.ls) Kq := by
  obtain ⟨v, S', ⟨h1, _⟩, h2, h3, h4, h5⟩ := vcQ_fam hT hB hR hd hk
  exact ⟨v, fun w' hw' => quietAt_mono (fun w'' hF => hw'.call hF) (h1 w' hw'), hK S' _ h2 h3 h4 h5⟩
theorem yielded_at {ops : List Oper} {j d : Nat} {tmps : Array Value} (hj : (ops[j]?).bind (·.dst) = some d) : yielded ops.toArray tmps j = match tmps.getD d undef with | .bool b => some b | _ => none := by
  simp only [yielded]
  have : (ops.toArray[j]?).bind (·.dst) = some d := by simpa using hj
  simp only [this, Option.bind_some, Array.getD_eq_getD_getElem?]
  cases tmps[d]? with
  | none => rfl
  | some v => cases v <;> rfl
theorem vcQs_sound (hT : T.ok P = true) (hB : bodiesOk P B = true) (ops : List Oper) : ∀ (rest : List Oper) (S : St) (a : Act) (w : World) (K : St → Prop), (rest.all (dstOk N)) = true → vcQs P T B pr ops rest S K → Rel ψ N D m0 w0 S a w →
    wpQuiet P ops.toArray (WRel ψ D m0 w0 S.m S.ls) (fun a' => ∃ S', K S' ∧ S'.m = S.m ∧ S'.ls = S.ls ∧ Rel ψ N D m0 w0 S' a' w) rest a
  | [], S, a, w, K, _, hk, hR => ⟨S, hk, rfl, rfl, hR⟩
  | o :: rest, S, a, w, K, hd, hk, hR => by
    simp only [List.all_cons, Bool.and_eq_true] at hd
    have hdo := dstOk_spec hd.1
    rw [vcQs_cons] at hk
    simp only [wpQuiet]
    have ih : ∀ (S1 : St) (a1 : Act), S1.m = S.m → S1.ls = S.ls → vcQs P T B pr ops rest S1 K → Rel ψ N D m0 w0 S1 a1 w → wpQuiet P ops.toArray (WRel ψ D m0 w0 S.m S.ls) (fun a' => ∃ S', K S' ∧ S'.m = S.m ∧ S'.ls = S.ls ∧ Rel ψ N D m0 w0 S' a' w) rest a1 := by
      intro S1 a1 h1 h2 h3 h4
      have := vcQs_sound hT hB ops rest S1 a1 w K hd.2 h3 h4
      rw [h1, h2] at this
      exact this
    have run : ∀ S1 : St, S1.m = S.m → S1.ls = S.ls → Rel ψ N D m0 w0 S1 a w → (vcQ P T B pr o.dst o.op o.type S1 fun S' => vcQs P T B pr ops rest S' K) →
        o.quiet P a (WRel ψ D m0 w0 S.m S.ls) (wpQuiet P ops.toArray (WRel ψ D m0 w0 S.m S.ls) (fun a' => ∃ S', K S' ∧ S'.m = S.m ∧ S'.ls = S.ls ∧ Rel ψ N D m0 w0 S' a' w) rest) := by
      intro S1 h1 h2 h3 h4
      have := vcQ_sound hT hB h3 hdo h4 (fun S' a' h5 h6 h7 h8 => ih S' a' (h6.trans h1) (h7.trans h2) h5 h8)
      rw [h1, h2] at this
      exact this
    have puts : ∀ (S : St) (d : Option Nat) (x : AV), (S.put d x).m = S.m ∧ (S.put d x).ls = S.ls := by intro S d x; cases d <;> exact ⟨rfl, rfl⟩
    cases hg : o.guard with
    | none =>
      rw [hg] at hk
      rw [if_pos (by simp [Region.wanted, hg])]
      exact run S rfl rfl hR hk
    | some g =>
      obtain ⟨j, want⟩ := g
      rw [hg] at hk
      simp only at hk
      cases hj : (ops[j]?).bind (·.dst) with
      | none => rw [hj] at hk; exact hk.elim
      | some d =>
        rw [hj] at hk
        simp only at hk
        obtain ⟨x, hx, h1⟩ := lkK_spec hk
        have hx' := hR.env _ _ hx
        have hy := yielded_at (tmps := a.tmps) hj
        split at h1
        · rename_i b
          simp only [AV.is] at hx'
          rw [hx'] at hy
          simp only at hy
          cases hb : (b == want) with
          | true =>
            rw [hb] at h1
            have hbw : b = want := by simpa using hb
            rw [if_pos (by simp [Region.wanted, hg, hy, hbw])]
            exact run _ (puts _ _ _).1 (puts _ _ _).2 (hR.entry (x := .v (.bool want)) (by simp only [AV.is]; rw [hx', hbw])) h1
          | false =>
            rw [hb] at h1
            have hbw : b ≠ want := by simpa using hb
            rw [if_neg (by simp [Region.wanted, hg, hy, hbw])]
            exact ih (St.put (S.put (some d) (.v (.bool (!want)))) o.dst (.v undef)) _ ((puts _ _ _).1.trans (puts _ _ _).1) ((puts _ _ _).2.trans (puts _ _ _).2) h1 (Rel.undef (hR.entry (x := .v (.bool (!want))) (by simp only [AV.is]; rw [hx']; cases b <;> cases want <;> simp_all)) _ hdo)
        · simp only [AV.is] at hx'
          rw [hx'] at hy
          simp only at hy
          rw [if_neg (by simp [Region.wanted, hg, hy])]
          exact ih _ _ (puts _ _ _).1 (puts _ _ _).2 h1 (hR.undef _ hdo)
        · exact h1.elim

/-! ### a block that floats -/
/-- The world's classes: as it was; with a new block; any. -/
inductive FK where
  | base
  | new (k : Nat) (o : Obj)
  | any (p : World → Prop)
def CF (ψ : Nat → Nat) (D : HD) (m0 : Mem) (w0 : World) (m : Mem) (ls : List LC) : FK → World → Prop
  | .base => WRel ψ D m0 w0 m ls
  | .new k o => fun w => WRel ψ ⟨D.defers, (k, o) :: D.hid⟩ m0 w0 m ls w ∧ w0.heap.size ≤ k ∧ ∀ o', (k, o') ∉ D.hid
  | .any p => p
/-- In which classes head i does what it does. -/
def RF (ops : Array Oper) (i : Nat) : FK → Prop
  | .any _ => ∃ o, ops[i]? = some o ∧ pureOp o.op = true
  | _ => True
theorem WRel.fewer {m : Mem} {ls : List LC} {x : Nat × Obj} (h : WRel ψ ⟨D.defers, x :: D.hid⟩ m0 w0 m ls w) : WRel ψ D m0 w0 m ls w := ⟨h.1, h.2.1, fun b o hb => h.2.2 b o (List.mem_cons_of_mem _ hb)⟩
theorem CF.new {m : Mem} {ls : List LC} {o : Obj} (h : WRel ψ D m0 w0 m ls w) : CF ψ D m0 w0 m ls (.new w.heap.size o) (w.alloc o) := by
  have hlt : ∀ (k : Nat) (x : Obj), w.heap[k]? = some x → k < w.heap.size := fun k x hk => (Array.getElem?_eq_some_iff.1 hk).1
  have hold : ∀ (k : Nat) (x : Obj), w.heap[k]? = some x → (w.alloc o).heap[k]? = some x := fun k x hk => by
    rw [heap_alloc, if_neg (by have := hlt k x hk; omega)]
    exact hk
  have hm : m w.heap.size = none := by
    cases hm : m w.heap.size with
    | none => rfl
    | some o' => exact absurd (hlt _ _ (h.1.sub _ _ hm)) (Nat.lt_irrefl _)
  refine ⟨⟨h.1.junk o, fun i c hc => ?_, fun b x hb => ?_⟩, h.1.size, fun o' ho' => absurd (hlt _ _ (h.2.2 _ _ ho').1) (Nat.lt_irrefl _)⟩
  · obtain ⟨e, h1, h2, h3⟩ := h.2.1 i c hc
    exact ⟨e, hold _ _ h1, h2, h3⟩
  · rcases List.mem_cons.1 hb with hb | hb
    · cases hb
      refine ⟨by rw [heap_alloc, if_pos rfl], hm, fun i hi => ?_⟩
      obtain ⟨e, h1, _⟩ := h.2.1 i _ (List.getElem?_eq_getElem hi)
      have := hlt _ _ h1
      omega
    · obtain ⟨h1, h2, h3⟩ := h.2.2 b x hb
      exact ⟨hold _ _ h1, h2, h3⟩
theorem Rel.floatBox {k : Nat} {c : LC} {e : Nat} (h : Rel ψ N ⟨D.defers, (k, .cells c.list.toArray e (0, 0)) :: D.hid⟩ m0 w0 S a w) (hk : w0.heap.size ≤ k) (hn : ∀ o', (k, o') ∉ D.hid) :
    ∃ ψ', ψ' S.ls.length = k ∧ Rel ψ' N D m0 w0 { S with ls := S.ls ++ [c] } a w := by
  obtain ⟨g1, g2, g3⟩ := h.marks k _ List.mem_cons_self
  refine ⟨fun i => if i = S.ls.length then k else ψ i, by simp, h.size, h.defers, fun i x hx => ?_, fun i c' hc => ?_, fun i j hi hj he => ?_, h.frame, fun b o hd => ?_⟩
  · refine AV.is_mono (h.env i x hx) (by simp) fun j hj => ?_
    rw [if_neg (by omega)]
  · by_cases hi : i = S.ls.length
    · subst hi
      simp at hc
      subst hc
      simp only [if_true]
      exact ⟨e, g1, g2, hk⟩
    · have hlt : i < S.ls.length := by
        have := (List.getElem?_eq_some_iff.1 hc).1
        simp at this
        omega
      rw [List.getElem?_append_left hlt] at hc
      simp only [if_neg hi]
      exact h.box i c' hc
  · simp at hi hj
    by_cases hi' : i = S.ls.length
    · by_cases hj' : j = S.ls.length
      · omega
      · simp only [if_pos hi', if_neg hj'] at he
        exact absurd he.symm (g3 j (by omega))
    · by_cases hj' : j = S.ls.length
      · simp only [if_neg hi', if_pos hj'] at he
        exact absurd he (g3 i (by omega))
      · simp only [if_neg hi', if_neg hj'] at he
        exact h.inj i j (by omega) (by omega) he
  · obtain ⟨h1, h2, h4⟩ := h.marks b o (List.mem_cons_of_mem _ hd)
    refine ⟨h1, h2, fun i hi => ?_⟩
    by_cases hi' : i = S.ls.length
    · simp only [if_pos hi']
      rintro rfl
      exact hn o hd
    · simp only [if_neg hi']
      simp at hi
      exact h4 i (by omega)
theorem Rel.floatMem {k : Nat} {o : Obj} (h : Rel ψ N ⟨D.defers, (k, o) :: D.hid⟩ m0 w0 S a w) (hk : w0.heap.size ≤ k) (hn : ∀ o', (k, o') ∉ D.hid) : Rel ψ N D m0 w0 { S with m := S.m.set k o } a w := by
  obtain ⟨g1, g2, g3⟩ := h.marks k _ List.mem_cons_self
  refine ⟨h.size, h.defers, h.env, fun i c hc => ?_, h.inj, ⟨h.frame.os, h.frame.tape, h.frame.output, h.frame.size, fun b o' hb => ?_, h.frame.keep, fun b hb => ?_⟩, fun b o' hd => ?_⟩
  · obtain ⟨e, h1, h2, h3⟩ := h.box i c hc
    refine ⟨e, h1, ?_, h3⟩
    show Mem.set S.m k o (ψ i) = none
    simp only [Mem.set, if_neg (g3 i (List.getElem?_eq_some_iff.1 hc).1)]
    exact h2
  · simp only [Mem.set] at hb
    split at hb
    · rename_i he; cases hb; rw [he]; exact g1
    · exact h.frame.sub b o' hb
  · by_cases he : b = k
    · subst he; exact .inr hk
    · simp only [Mem.set, if_neg he] at hb
      exact h.frame.dom b hb
  · obtain ⟨h1, h2, h4⟩ := h.marks b o' (List.mem_cons_of_mem _ hd)
    refine ⟨h1, ?_, h4⟩
    show Mem.set S.m k o b = none
    have hne : b ≠ k := by rintro rfl; exact hn o' hd
    simp only [Mem.set, if_neg hne]
    exact h2
def freshOp : Op → Bool
  | .alloc _ => true
  | .buildSlice .. => true
  | .makeSlice .. => true
  | _ => false
theorem fresh_sound (hT : T.ok P = true) (hR : Rel ψ N D m0 w0 S a w) {dst : Option Tmp} {op : Op} {ty : TypeId} {pos : String} {after : Array Edge} {guard : Option (Nat × Bool)} (hd : ∀ i, dst = some i → i < N) (hf : freshOp op = true) (hk : vcOp P T B pr dst op ty S K) :
    ∃ (o : Obj) (mk : Nat → Value), (∀ w' : World, (execOp a.eval ⟨dst, op, ty, pos, after, guard⟩).run P w' = .ok (.value (mk w'.heap.size)) (w'.alloc o)) ∧
      ∀ (k : Nat) (w2 : World), Rel ψ N ⟨D.defers, (k, o) :: D.hid⟩ m0 w0 S a w2 → w0.heap.size ≤ k → (∀ o', (k, o') ∉ D.hid) → ∃ S1, K S1 ∧ Relx N D m0 w0 S1 (a.put dst (mk k)) w2 := by
  rw [vcOp_eq] at hk
  unfold vcOpS at hk
  split at hk <;> simp only [freshOp, Bool.false_eq_true] at hf
  · rename_i e
    obtain ⟨h0, h1⟩ := req_spec hk
    obtain ⟨z, hz, hzl, _⟩ := (Tbl.fact hT (t := e) (here_spec h0)).zero
    refine ⟨.cells (T.at e).zero.list.toArray e (0, 0), fun k => .pointer (some ⟨k, 0, none⟩), fun w' => run_val ?_, fun k w2 hR2 hk2 hn2 => ?_⟩
    · simp only [Instr.alloc, Sem.run_bind, hz, Result.andThen_ok]
      rw [← hzl]
      rfl
    · rw [newK_eq] at h1
      unfold newKS at h1
      split at h1
      · rename_i d
        cases hc : pr.contains d with
        | true =>
          rw [hc] at h1
          simp only [cond_true] at h1
          obtain ⟨ψ', hψ, hR3⟩ := hR2.floatBox hk2 hn2
          exact ⟨_, h1, ψ', hR3.put ⟨by simp, by rw [hψ]⟩ hd⟩
        | false =>
          rw [hc] at h1
          simp only [cond_false] at h1
          exact ⟨_, h1 k (hR2.marks k _ List.mem_cons_self).2.1, ψ, (hR2.floatMem hk2 hn2).put rfl hd⟩
      · exact h1.elim
  · rename_i t len parts
    split at hk
    · rename_i e he
      obtain ⟨h0, h1⟩ := req_spec hk
      obtain ⟨h2, h3⟩ := req_spec h1
      have h0 := blt_spec h0
      have h2 := Nat.le_of_ble_eq_true h2
      obtain ⟨cs, hcs, hk⟩ := fillK_sound hR (place' := fun i => some (i * (T.at e).size, (T.at e).size)) (fun i => rfl) parts.toList _ _ h3
      exact ⟨.cells cs.toList.toArray e (0, 0), fun k => .slice (some ⟨k, 0, none⟩) len len, fun w' => buildSlice_run hT he h0 h2 hcs w', fun k w2 hR2 hk2 hn2 => ⟨_, hk k (hR2.marks k _ List.mem_cons_self).2.1, ψ, (hR2.floatMem hk2 hn2).put rfl hd⟩⟩
    · exact hk.elim
  · rename_i t l c
    obtain ⟨x, hx, h1⟩ := hR.ev hk
    obtain ⟨y, hy, h2⟩ := hR.ev h1
    split at h2
    · rename_i e n cp he
      obtain ⟨h0, h3, h4, h5, h6, hK⟩ := req_spec h2
      simp only [AV.is] at hx hy
      have hu := under_slice (Tbl.fact hT (t := t) (by rw [he]; simp)) he
      have hfe := tyfact_of_size hT (t := e) (by have := blt_spec h0; omega)
      obtain ⟨z, hz, hzl, _⟩ := hfe.zero
      have hwn : IntKind.i64.wrap n = n := wrap_i64 h3 (by omega)
      have hwc : IntKind.i64.wrap cp = cp := wrap_i64 (by omega) h5
      refine ⟨.cells (zerosOf T e cp.toNat).list.toArray e (0, 0), fun k => .slice (some ⟨k, 0, none⟩) n.toNat cp.toNat, fun w' => run_val ?_, fun k w2 hR2 hk2 hn2 => ⟨_, hK k (hR2.marks k _ List.mem_cons_self).2.1, ψ, (hR2.floatMem hk2 hn2).put rfl hd⟩⟩
      obtain ⟨inf, hinf, hb, _⟩ := hfe.typeInfo w'
      simp only [Instr.makeSlice, Sem.run_bind, run_underlying hu, Result.andThen_ok, hx, hy, asInt, asIntOf, Sem.run_pure, hinf, hb, hwn, hwc]
      have c1 : ¬ cp < 0 := by omega
      have c2 : ¬ ((T.at e).bytes : Int) * cp > 2 ^ 48 := by omega
      have c3 : ¬ n < 0 := by omega
      have c4 : ¬ n > cp := by omega
      rw [if_neg (by simp only [Bool.or_eq_true, decide_eq_true_eq]; rintro (((h | h) | h) | h) <;> contradiction)]
      have hse := hfe.size w'
      have hzer := zeros_eq (T := T) e z hzl cp.toNat hfe.len
      simp only [Sem.run_bind, run_askRoom, Result.andThen_ok, hse]
      by_cases h : cp.toNat * (T.at e).size = 0
      · rw [if_pos h]
        have h0' : (zerosOf T e cp.toNat).list.toArray = #[] := by
          apply Array.ext'
          rw [List.toList_toArray, ← hzer, h]
          simp
        simp only [Sem.run_bind, Sem.run_pure, Result.andThen_ok, h, h0']
        rw [show (Array.map (fun x => (#[] : Array Value)[x % (#[] : Array Value).size]!) (Array.range 0)) = #[] from by simp]
        rfl
      · rw [if_neg h]
        have h0' : (zerosOf T e cp.toNat).list.toArray = (Array.range (cp.toNat * (T.at e).size)).map fun x => z.cells[x % z.cells.size]! := by
          apply Array.ext'
          rw [List.toList_toArray, ← hzer]
        simp only [Sem.run_bind, Sem.run_pure, Result.andThen_ok, hz, h0']
        rfl
    · exact h2.elim
def isStore : Op → Bool
  | .store .. => true
  | _ => false
theorem store_run (hT : T.ok P = true) (hR : Rel ψ N D m0 w0 S a w) {dst : Option Tmp} {op : Op} {ty : TypeId} {pos : String} {after : Array Edge} {guard : Option (Nat × Bool)} (hd : ∀ i, dst = some i → i < N) (hf : isStore op = true) (hk : vcOp P T B pr dst op ty S K) :
    ∃ w' S2, (execOp a.eval ⟨dst, op, ty, pos, after, guard⟩).run P w = .ok .skip w' ∧ K S2 ∧ Relx N D m0 w0 S2 (a.put dst undef) w' := by
  rw [vcOp_eq] at hk
  unfold vcOpS at hk
  split at hk <;> simp only [isStore, Bool.false_eq_true] at hf
  rename_i t p u
  obtain ⟨h0, h1⟩ := req_spec hk
  obtain ⟨x, hx, h2⟩ := hR.ev h1
  obtain ⟨y, hy, h3⟩ := hR.ev h2
  have hrun : ∀ {q : Addr} {w' : World}, a.eval p = .pointer (some q) → (storeVar t q (a.eval u)).run P w = .ok () w' → (execOp a.eval ⟨dst, .store t p u, ty, pos, after, guard⟩).run P w = .ok .skip w' := by
    intro q w' h4 h5
    simp only [execOp, Instr.storeAt, h4, Instr.sureAddr, pure_bind, Sem.run_bind, h5, Result.andThen_ok]
    rfl
  split at h3
  · rename_i i off
    split at h3
    · rename_i c hc
      obtain ⟨w', c', h4, hK, hR'⟩ := stLoc_sound hT hR hc hy h3 (here_spec h0)
      exact ⟨w', _, hrun hx.2 h4, hK, ψ, hR'.undef _ hd⟩
    · exact h3.elim
  · rename_i q
    obtain ⟨w', m', h4, hK, hR'⟩ := stMem_sound hT hR hy h3 (here_spec h0)
    simp only [AV.is] at hx
    exact ⟨w', _, hrun hx h4, hK, ψ, hR'.undef _ hd⟩
  · exact h3.elim
theorem YF_of {m : Mem} {ls : List LC} {ops : Array Oper} {o : Oper} {v : Value} {i : Nat} (hi : ops[i]? = some o) (hw : Region.wanted o (yielded ops a.tmps) = true)
    (h : QV P (WRel ψ D m0 w0 m ls) m o a v ∧ (pureOp o.op = true → ∀ w, (execOp a.eval o).run P w = .ok (.value v) w)) : YF P ops (CF ψ D m0 w0 m ls) (RF ops i) o v a := by
  refine .inl ⟨hw, fun k w hk hC => ?_⟩
  cases k with
  | base => exact quietAt_mono (fun _ hF => WRel.call hC hF) (h.1 w hC)
  | new k o => exact quietAt_mono (fun _ hF => ⟨hC.1.call hF, hC.2⟩) (h.1 w hC.1.fewer)
  | any p =>
    obtain ⟨o', ho', hp⟩ := hk
    rw [hi] at ho'
    cases ho'
    unfold Oper.quietAt
    rw [h.2 hp w]
    exact ⟨rfl, rfl⟩
theorem vcQs_walk (hT : T.ok P = true) (hB : bodiesOk P B = true) (ops : List Oper) : ∀ (rest : List Oper) (k : Nat) (S : St) (a : Act) (w : World) (K : St → Prop), (∀ j, j < rest.length → rest[j]? = ops[k + j]?) → (rest.all (dstOk N)) = true → vcQs P T B pr ops rest S K → Rel ψ N D m0 w0 S a w →
    ∃ b S', walkF P ops.toArray (CF ψ D m0 w0 S.m S.ls) (RF ops.toArray) k rest a b ∧ K S' ∧ S'.m = S.m ∧ S'.ls = S.ls ∧ Rel ψ N D m0 w0 S' b w
  | [], _, S, a, w, K, _, _, hk, hR => ⟨a, S, rfl, hk, rfl, rfl, hR⟩
  | o :: rest, k, S, a, w, K, hix, hd, hk, hR => by
    have hko : ops.toArray[k]? = some o := by simpa using (hix 0 (by simp)).symm
    have hix' : ∀ j, j < rest.length → rest[j]? = ops[k + 1 + j]? := fun j hj => by
      have := hix (j + 1) (by simp; omega)
      simpa [Nat.add_assoc, Nat.add_comm 1 j] using this
    simp only [List.all_cons, Bool.and_eq_true] at hd
    have hdo := dstOk_spec hd.1
    rw [vcQs_cons] at hk
    have ih : ∀ (S1 : St) (v : Value), S1.m = S.m → S1.ls = S.ls → vcQs P T B pr ops rest S1 K → Rel ψ N D m0 w0 S1 (a.put o.dst v) w → YF P ops.toArray (CF ψ D m0 w0 S.m S.ls) (RF ops.toArray k) o v a →
        ∃ b S', walkF P ops.toArray (CF ψ D m0 w0 S.m S.ls) (RF ops.toArray) k (o :: rest) a b ∧ K S' ∧ S'.m = S.m ∧ S'.ls = S.ls ∧ Rel ψ N D m0 w0 S' b w := by
      intro S1 v h1 h2 h3 h4 h5
      obtain ⟨b, S', g1, g2, g3, g4, g5⟩ := vcQs_walk hT hB ops rest (k + 1) S1 (a.put o.dst v) w K hix' hd.2 h3 h4
      rw [h1, h2] at g1
      exact ⟨b, S', ⟨v, h5, g1⟩, g2, g3.trans h1, g4.trans h2, g5⟩
    have run : ∀ S1 : St, S1.m = S.m → S1.ls = S.ls → Region.wanted o (yielded ops.toArray a.tmps) = true → Rel ψ N D m0 w0 S1 a w → (vcQ P T B pr o.dst o.op o.type S1 fun S' => vcQs P T B pr ops rest S' K) →
        ∃ b S', walkF P ops.toArray (CF ψ D m0 w0 S.m S.ls) (RF ops.toArray) k (o :: rest) a b ∧ K S' ∧ S'.m = S.m ∧ S'.ls = S.ls ∧ Rel ψ N D m0 w0 S' b w := by
      intro S1 h1 h2 hwant h3 h4
      obtain ⟨v, S2, g1, g2, g3, g4, g5⟩ := vcQ_fam hT hB h3 hdo h4
      rw [h1, h2] at g1
      exact ih S2 v (g3.trans h1) (g4.trans h2) g2 g5 (YF_of hko hwant ⟨g1.1, g1.2.1⟩)
    have puts : ∀ (S : St) (d : Option Nat) (x : AV), (S.put d x).m = S.m ∧ (S.put d x).ls = S.ls := by intro S d x; cases d <;> exact ⟨rfl, rfl⟩
    cases hg : o.guard with
    | none =>
      rw [hg] at hk
      exact run S rfl rfl (by simp [Region.wanted, hg]) hR hk
    | some g =>
      obtain ⟨j, want⟩ := g
      rw [hg] at hk
      simp only at hk
      cases hj : (ops[j]?).bind (·.dst) with
      | none => rw [hj] at hk; exact hk.elim
      | some d =>
        rw [hj] at hk
        simp only at hk
        obtain ⟨x, hx, h1⟩ := lkK_spec hk
        have hx' := hR.env _ _ hx
        have hy := yielded_at (tmps := a.tmps) hj
        split at h1
        · rename_i b
          simp only [AV.is] at hx'
          rw [hx'] at hy
          simp only at hy
          cases hb : (b == want) with
          | true =>
            rw [hb] at h1
            have hbw : b = want := by simpa using hb
            exact run _ (puts _ _ _).1 (puts _ _ _).2 (by simp [Region.wanted, hg, hy, hbw]) (hR.entry (x := .v (.bool want)) (by simp only [AV.is]; rw [hx', hbw])) h1
          | false =>
            rw [hb] at h1
            have hbw : b ≠ want := by simpa using hb
            exact ih (St.put (S.put (some d) (.v (.bool (!want)))) o.dst (.v undef)) undef ((puts _ _ _).1.trans (puts _ _ _).1) ((puts _ _ _).2.trans (puts _ _ _).2) h1 (Rel.undef (hR.entry (x := .v (.bool (!want))) (by simp only [AV.is]; rw [hx']; cases b <;> cases want <;> simp_all)) _ hdo)
              (.inr ⟨by simp [Region.wanted, hg, hy, hbw], rfl⟩)
        · simp only [AV.is] at hx'
          rw [hx'] at hy
          simp only at hy
          exact ih _ undef (puts _ _ _).1 (puts _ _ _).2 h1 (hR.undef _ hdo) (.inr ⟨by simp [Region.wanted, hg, hy], rfl⟩)
        · exact h1.elim

/-! ### code -/
theorem Rel.le (h : Rel ψ N D m0 w0 S a w) (hle : S.le S') : Rel ψ N D m0 w0 S' a w := by
  obtain ⟨h1, ⟨l, h2⟩, h3, h4⟩ := hle
  have hlen : S.ls.length = S'.ls.length + l.length := by rw [h2]; simp
  refine ⟨h.size, h.defers, fun i x hx => ?_, fun i c hc => ?_, fun i j hi hj => h.inj i j (by omega) (by omega), h.frame.less h3, fun b o hd => ?_⟩
  · have := h.env i x (h1 i x hx)
    have h5 := h4 i x hx
    cases x <;> simp only [AV.is] at this ⊢ <;> first | exact this | exact ⟨h5, this.2⟩
  · have hi := (List.getElem?_eq_some_iff.1 hc).1
    obtain ⟨e, g1, g2, g3⟩ := h.box i c (by rw [h2, List.getElem?_append_left hi]; exact hc)
    refine ⟨e, g1, ?_, g3⟩
    cases hm : S'.m (ψ i) with
    | none => rfl
    | some o => rw [h3 _ _ hm] at g2; cases g2
  · obtain ⟨g1, g2, g4⟩ := h.marks b o hd
    refine ⟨g1, ?_, fun i hi => g4 i (by omega)⟩
    cases hm : S'.m b with
    | none => rfl
    | some o => rw [h3 _ _ hm] at g2; cases g2
/-- The heads that are left behind operation n look at no world. -/
def restPure (ops : Array Oper) (h n : Nat) : Bool := (List.range h).all fun i => Region.waitsFor .any ops n i || match ops[i]? with
  | some o => pureOp o.op
  | none => false
/-- A region with a block that floats; with a store that may come up ahead of what looks at no world; with both. -/
def floatD (ops : Array Oper) (h : Nat) : Bool :=
  match ops[h]? with
  | some o => (freshOp o.op && floatB .any ops h 1) || ((isStore o.op && (restPure ops h h && floatB .any ops h 1)) || (freshOp o.op && (match ops[h + 1]? with
    | some o' => isStore o'.op && (restPure ops h (h + 1) && floatB .any ops h 2)
    | none => false)))
  | none => false
/-! ### an order -/
def noDefer (o : Oper) : Bool := match o.op with
  | .defer _ => false
  | _ => true
def tameB (T : Tbl) (o : Oper) : Bool := quietOp T o.op || freshOp o.op
def eagerB (ops : Array Oper) (T : Tbl) (listed : Array Bool) (i : Nat) (bl : List Nat) : Bool :=
  match ops[i]? with
  | some oi => quietOp T oi.op && (blockB ops bl i && (List.range ops.size).all fun j => j == i || (listed.getD j true || (bl.contains j || match ops[j]? with
    | some oj => oi.apart ops oj && (pureOp oi.op || tameB T oj)
    | none => true)))
  | none => false
def schedB (ops : Array Oper) (T : Tbl) : Sched → Nat → Array Bool → List Nat → Bool
  | .done, _, listed, cov => (Region.ready .any ops listed).isEmpty && cov.isEmpty
  | .one i bl s, f, listed, cov => match f with
    | 0 => false
    | f + 1 => cov.isEmpty && (listed.getD i true == false && ((Region.ready .any ops listed).contains i && ((Region.ready .any ops listed == [i] || eagerB ops T listed i bl) && schedB ops T s f (listed.setIfInBounds i true) [])))
  | .fork i s t, f, listed, cov => match f with
    | 0 => false
    | f + 1 => (Region.ready .any ops listed).contains i && (schedB ops T s f (listed.setIfInBounds i true) [] && schedB ops T t (f + 1) listed (i :: cov))
  | .stop, _, listed, cov => !cov.isEmpty && (Region.ready .any ops listed).all fun i => cov.contains i
theorem opStep_eq {ops : List Oper} {o : Oper} {ih : St → (St → Prop) → Prop} : opStep P T B pr ops o ih S K = match o.guard with
    | none => vcOpN P T B pr o.dst o.op o.type S fun S' => ih S' K
    | some (j, want) => match (ops[j]?).bind (·.dst) with
      | none => False
      | some d => lkK S.env d fun x => match x with
        | .v (.bool b) => brk (b == want) (vcOpN P T B pr o.dst o.op o.type { S with env := (d, .v (.bool want)) :: S.env } fun S' => ih S' K)
            (ih (St.put { S with env := (d, .v (.bool (!want))) :: S.env } o.dst (.v undef)) K)
        | .v (.tuple _) => ih (S.put o.dst (.v undef)) K
        | _ => False := by
  cases o; cases S; rfl
theorem opStepQ_eq {ops : List Oper} {o : Oper} {ih : St → (St → Prop) → Prop} : opStepQ P T B pr ops o ih S K = match o.guard with
    | none => vcQ P T B pr o.dst o.op o.type S fun S' => ih S' K
    | some (j, want) => match (ops[j]?).bind (·.dst) with
      | none => False
      | some d => lkK S.env d fun x => match x with
        | .v (.bool b) => brk (b == want) (vcQ P T B pr o.dst o.op o.type { S with env := (d, .v (.bool want)) :: S.env } fun S' => ih S' K)
            (ih (St.put { S with env := (d, .v (.bool (!want))) :: S.env } o.dst (.v undef)) K)
        | .v (.tuple _) => ih (S.put o.dst (.v undef)) K
        | _ => False := by
  cases o; cases S; rfl
/-- The guard's two ways. -/
theorem guard_ways {ops : List Oper} {o : Oper} {V : St → Prop} {I : St → Prop} (hR : Rel ψ N D m0 w0 S a w) (hdo : ∀ i, o.dst = some i → i < N) (h : match o.guard with
    | none => V S
    | some (j, want) => match (ops[j]?).bind (·.dst) with
      | none => False
      | some d => lkK S.env d fun x => match x with
        | .v (.bool b) => brk (b == want) (V { S with env := (d, .v (.bool want)) :: S.env }) (I (St.put { S with env := (d, .v (.bool (!want))) :: S.env } o.dst (.v undef)))
        | .v (.tuple _) => I (S.put o.dst (.v undef))
        | _ => False) :
    (∃ S1, Region.wanted o (yielded ops.toArray a.tmps) = true ∧ S1.m = S.m ∧ S1.ls = S.ls ∧ Rel ψ N D m0 w0 S1 a w ∧ V S1) ∨
    (∃ S1, Region.wanted o (yielded ops.toArray a.tmps) = false ∧ S1.m = S.m ∧ S1.ls = S.ls ∧ Rel ψ N D m0 w0 S1 (a.put o.dst undef) w ∧ I S1) := by
  have puts : ∀ (S : St) (d : Option Nat) (x : AV), (S.put d x).m = S.m ∧ (S.put d x).ls = S.ls := by intro S d x; cases d <;> exact ⟨rfl, rfl⟩
  cases hg : o.guard with
  | none =>
    rw [hg] at h
    exact .inl ⟨S, by simp [Region.wanted, hg], rfl, rfl, hR, h⟩
  | some g =>
    obtain ⟨j, want⟩ := g
    rw [hg] at h
    simp only at h
    cases hj : (ops[j]?).bind (·.dst) with
    | none => rw [hj] at h; exact h.elim
    | some d =>
      rw [hj] at h
      simp only at h
      obtain ⟨x, hx, h1⟩ := lkK_spec h
      have hx' := hR.env _ _ hx
      have hy := yielded_at (tmps := a.tmps) hj
      split at h1
      · rename_i b
        simp only [AV.is] at hx'
        rw [hx'] at hy
        simp only at hy
        cases hb : (b == want) with
        | true =>
          rw [hb] at h1
          have hbw : b = want := by simpa using hb
          exact .inl ⟨S.put (some d) (.v (.bool want)), by simp [Region.wanted, hg, hy, hbw], rfl, rfl, hR.entry (x := .v (.bool want)) (by simp only [AV.is]; rw [hx', hbw]), h1⟩
        | false =>
          rw [hb] at h1
          have hbw : b ≠ want := by simpa using hb
          exact .inr ⟨St.put (S.put (some d) (.v (.bool (!want)))) o.dst (.v undef), by simp [Region.wanted, hg, hy, hbw], (puts _ _ _).1, (puts _ _ _).2, Rel.undef (hR.entry (x := .v (.bool (!want))) (by simp only [AV.is]; rw [hx']; cases b <;> cases want <;> simp_all)) _ hdo, h1⟩
      · simp only [AV.is] at hx'
        rw [hx'] at hy
        simp only at hy
        exact .inr ⟨_, by simp [Region.wanted, hg, hy], (puts _ _ _).1, (puts _ _ _).2, hR.undef _ hdo, h1⟩
      · exact h1.elim
theorem quiet_noFun {op : Op} (h : quietOp T op = true) : noFun op = true := by
  cases op <;> first | rfl | skip
  rename_i c
  obtain ⟨callee, args, ats⟩ := c
  cases callee <;> simp_all [quietOp, noFun]
/-- A quiet operation: its value is the same in every world that fits. -/
theorem stepQ_val (hT : T.ok P = true) (hB : bodiesOk P B = true) {ops : List Oper} {o : Oper} {ih : St → (St → Prop) → Prop} (hR : Rel ψ N D m0 w0 S a w) (hdo : ∀ i, o.dst = some i → i < N) (hq : quietOp T o.op = true) (h : opStepQ P T B pr ops o ih S K) :
    ∃ v S', YV P ops.toArray (WRel ψ D m0 w0 S.m S.ls) o v a ∧ (pureOp o.op = true → YV P ops.toArray (fun _ => True) o v a) ∧ ih S' K ∧ Rel ψ N D m0 w0 S' (a.put o.dst v) w := by
  rw [opStepQ_eq] at h
  rcases guard_ways (V := fun S1 => vcQ P T B pr o.dst o.op o.type S1 fun S' => ih S' K) (I := fun S1 => ih S1 K) hR hdo h with ⟨S1, hw, h1, h2, h3, h4⟩ | ⟨S1, hw, h1, h2, h3, h4⟩
  · obtain ⟨v, S2, ⟨_, g1, g2⟩, g3, _, _, g6⟩ := vcQ_fam hT hB h3 hdo h4
    rw [h1, h2] at g2
    exact ⟨v, S2, .inl ⟨hw, g2 (quiet_noFun hq)⟩, fun hp => .inl ⟨hw, fun w _ => g1 hp w⟩, g3, g6⟩
  · exact ⟨undef, S1, .inr ⟨hw, rfl⟩, fun _ => .inr ⟨hw, rfl⟩, h4, h3⟩
/-- One operation. -/
theorem stepX_sound (hT : T.ok P = true) (hB : bodiesOk P B = true) {ops : List Oper} {i : Nat} {ih : St → (St → Prop) → Prop} (hall : ops.all (dstOk N) = true) (hnd : ops.all noDefer = true) (hR : Relx N D m0 w0 S a w) (h : stepX P T B pr ops i ih S K)
    {Kw : Act → World → Prop} (hK : ∀ S' a' w', ih S' K → Relx N D m0 w0 S' a' w' → Kw a' w') :
    wpOpIn (Fr r) 0 P ops.toArray Q i (fun a' w' => (∀ o, ops.toArray[i]? = some o → tameB T o = true → ExtW w w') ∧ Kw a' w') a w := by
  unfold stepX at h
  cases ho : ops[i]? with
  | none => rw [ho] at h; exact h.elim
  | some o =>
    rw [ho] at h
    simp only at h
    have ho' : ops.toArray[i]? = some o := by simpa using ho
    have hdo := dstOk_spec (List.all_eq_true.1 hall o (List.mem_of_getElem? ho))
    have hnd' : ∀ c, o.op ≠ .defer c := fun c hc => by
      have := List.all_eq_true.1 hnd o (List.mem_of_getElem? ho)
      simp [noDefer, hc] at this
    obtain ⟨ψ, hR⟩ := hR
    cases hq : quietOp T o.op with
    | true =>
      rw [hq] at h
      obtain ⟨v, S', h1, _, h3, h4⟩ := stepQ_val hT hB hR hdo hq h
      exact h1.op ho' hnd' hR.wr ⟨fun _ _ _ => .inl rfl, hK S' _ _ h3 ⟨ψ, h4⟩⟩
    | false =>
      rw [hq] at h
      simp only [cond_false] at h
      rw [opStep_eq] at h
      rcases guard_ways (V := fun S1 => vcOpN P T B pr o.dst o.op o.type S1 fun S' => ih S' K) (I := fun S1 => ih S1 K) hR hdo h with ⟨S1, hw, h1, h2, h3, h4⟩ | ⟨S1, hw, h1, h2, h3, h4⟩
      · replace h4 := vcOpN_old h4
        unfold wpOpIn
        simp only [ho']
        rw [if_pos hw]
        cases hf : freshOp o.op with
        | true =>
          obtain ⟨dst, op, ty, pos, after, guard⟩ := o
          obtain ⟨ob, mk, hrun, hcont⟩ := fresh_sound (pos := pos) (after := after) (guard := guard) hT h3 hdo hf h4
          obtain ⟨g1, g2, g3⟩ := CF.new (o := ob) h3.wr
          obtain ⟨S2, k1, k2⟩ := hcont w.heap.size (w.alloc ob) ⟨h3.size, h3.defers, h3.env, g1.2.1, h3.inj, g1.1, g1.2.2⟩ g2 g3
          refine ⟨fun f _ => trivial, ?_⟩
          rw [Oper.semAt_eq _ _ _ hnd', hrun w]
          exact ⟨fun _ _ _ => .inr ⟨ob, rfl⟩, hK S2 _ _ k1 k2⟩
        | false =>
          obtain ⟨dst, op, ty, pos, after, guard⟩ := o
          refine vcOp_sound (pos := pos) (after := after) (guard := guard) hT hB h3 hdo h4 _ fun S' a' w' k1 k2 => ⟨fun o2 ho2 htm => ?_, hK S' a' w' k1 k2⟩
          cases ho2
          simp [tameB, hq, hf] at htm
      · unfold wpOpIn
        simp only [ho']
        rw [if_neg (by simp [hw])]
        exact ⟨fun f _ => trivial, fun _ _ _ => .inl rfl, hK S1 _ _ h4 ⟨ψ, h3⟩⟩
theorem WRel.alloc {m : Mem} {ls : List LC} (h : WRel ψ D m0 w0 m ls w) (o : Obj) : WRel ψ D m0 w0 m ls (w.alloc o) := (CF.new h).1.fewer
theorem sched_gen (hT : T.ok P = true) (hB : bodiesOk P B = true) {ops : List Oper} (hall : ops.all (dstOk N) = true) (hsel : Region.noSelect ops.toArray = true) (hnd : ops.all noDefer = true) (hQn : ∀ (i : Nat) o, ops.toArray[i]? = some o → ∀ c (a : Act) v w, Q (.panic c) (a.put o.dst v) w → Q (.panic c) a w)
    {V : Sched → St → Prop} {st : Nat → (St → Prop) → St → Prop} (h1V : ∀ i bl s S, V (.one i bl s) S → st i (V s) S) (h2V : ∀ i s t S, V (.fork i s t) S → st i (V s) S ∧ V t S)
    (hst : ∀ {i : Nat} {ih : St → Prop} {S : St} {a : Act} {w : World}, Relx N D m0 w0 S a w → st i ih S → ∀ {Kw : Act → World → Prop}, (∀ S' a' w', ih S' → Relx N D m0 w0 S' a' w' → Kw a' w') →
      wpOpIn (Fr r) 0 P ops.toArray Q i (fun a' w' => (∀ o, ops.toArray[i]? = some o → tameB T o = true → ExtW w w') ∧ Kw a' w') a w)
    (hqt : ∀ i o (ih : St → Prop) S, ops[i]? = some o → quietOp T o.op = true → st i ih S → opStepQ P T B pr ops o (fun S' _ => ih S') S (fun _ => True)) (hsm : ∀ i ih S, st i ih S → ∃ o, ops[i]? = some o)
    (hK : ∀ S' a' w', V .done S' → Relx N D m0 w0 S' a' w' → Q .normal a' w') :
    ∀ (s : Sched) (f : Nat) (listed : Array Bool) (cov : List Nat) (S : St) (a : Act) (w : World), schedB ops.toArray T s f listed cov = true → HeadInv .any ops.toArray ops.toArray.size listed → V s S → Relx N D m0 w0 S a w →
      (cov = [] → wpAnyS P r ops.toArray Q (tameB T) f listed a w) ∧
      ∀ f', f = f' + 1 → ∀ i ∈ Region.ready .any ops.toArray listed, i ∉ cov → wpOpIn (Fr r) 0 P ops.toArray Q i (fun a' w' => (∀ o, ops.toArray[i]? = some o → tameB T o = true → ExtW w w') ∧ wpAnyS P r ops.toArray Q (tameB T) f' (listed.setIfInBounds i true) a' w') a w := by
  have hse : ∀ (j : Nat) (o : Oper), ops.toArray[j]? = some o → (∀ cs b, o.op ≠ .select cs b) ∧ ∀ c, o.op ≠ .defer c := fun j o ho => ⟨fun cs b => Region.noSelect_spec hsel j o cs b ho, fun c hc => by
    have := List.all_eq_true.1 hnd o (List.mem_of_getElem? (by simpa using ho))
    simp [noDefer, hc] at this⟩
  intro s
  induction s with
  | done =>
    intro f listed cov S a w hB1 inv h hR
    simp only [schedB, Bool.and_eq_true, List.isEmpty_iff] at hB1
    have hq := hK S a w h hR
    refine ⟨fun _ => ?_, fun f' _ i hi => by rw [hB1.1] at hi; cases hi⟩
    cases f with
    | zero => exact ⟨hB1.1, hq⟩
    | succ f => exact ⟨fun _ => hq, fun i hi => by rw [hB1.1] at hi; cases hi⟩
  | one i bl s ih =>
    intro f listed cov S a w hB1 inv h hR
    cases f with
    | zero => simp [schedB] at hB1
    | succ f =>
      simp only [schedB, Bool.and_eq_true, List.isEmpty_iff, Bool.or_eq_true, List.contains_iff_mem, beq_iff_eq] at hB1
      obtain ⟨hcov, hun, hri, hor, hB2⟩ := hB1
      subst hcov
      have h := h1V _ _ _ _ h
      have his : i < ops.toArray.size := by
        obtain ⟨_, oi, hoi, _⟩ := mem_ready.1 hri
        exact (Array.getElem?_eq_some_iff.1 hoi).1
      have key : wpAnyS P r ops.toArray Q (tameB T) (f + 1) listed a w := by
        rcases hor with hone | heag
        · refine ⟨fun h0 => (by rw [h0] at hri; cases hri), fun j hj => ?_⟩
          rw [hone] at hj
          have : j = i := by simpa using hj
          subst this
          exact hst hR h fun S' a' w' h1 h2 => (ih f _ [] S' a' w' hB2 (inv.set hri his) h1 h2).1 rfl
        · unfold eagerB at heag
          cases ho : ops[i]? with
          | none => obtain ⟨o, ho2⟩ := hsm _ _ _ h; rw [ho] at ho2; cases ho2
          | some oi =>
            have ho' : ops.toArray[i]? = some oi := by simpa using ho
            rw [ho'] at heag
            simp only [Bool.and_eq_true, List.all_eq_true, List.mem_range, Bool.or_eq_true, beq_iff_eq, List.contains_iff_mem] at heag
            obtain ⟨hq, hbl, hfree⟩ := heag
            have h := hqt i oi _ S ho hq h
            have hdo := dstOk_spec (List.all_eq_true.1 hall oi (List.mem_of_getElem? ho))
            obtain ⟨ψ, hR⟩ := hR
            obtain ⟨v, S', h1, h2, h3, h4⟩ := stepQ_val hT hB hR hdo hq h
            have hnext := (ih f _ [] S' _ w hB2 (inv.set hri his) h3 ⟨ψ, h4⟩).1 rfl
            have hfr : ∀ j oj, ops.toArray[j]? = some oj → j ≠ i → listed.getD j true = false → j ∉ bl → oi.apart ops.toArray oj = true ∧ (pureOp oi.op = true ∨ tameB T oj = true) := by
              intro j oj hoj hji hju hjb
              have := hfree j (Array.getElem?_eq_some_iff.1 hoj).1
              rw [hoj] at this
              rcases this with h5 | h5 | h5 | h5
              · exact absurd h5 hji
              · rw [hju] at h5; cases h5
              · exact absurd h5 hjb
              · simpa [Bool.and_eq_true, Bool.or_eq_true] using h5
            by_cases hp : pureOp oi.op = true
            · exact any_eager (C := fun _ => True) ho' hse hQn (fun _ _ h => h) hbl f listed a w inv (fun j oj h5 h6 h7 h8 => ⟨(hfr j oj h5 h6 h7 h8).1, .inr fun _ => trivial⟩) hri trivial (h2 hp) hnext
            · exact any_eager (C := WRel ψ D m0 w0 S.m S.ls) ho' hse hQn (fun w o h => h.alloc o) hbl f listed a w inv (fun j oj h5 h6 h7 h8 => ⟨(hfr j oj h5 h6 h7 h8).1, .inl ((hfr j oj h5 h6 h7 h8).2.resolve_left hp)⟩) hri hR.wr h1 hnext
      exact ⟨fun _ => key, fun f' hf j hj _ => by cases hf; exact key.2 j hj⟩
  | fork i s t ihs iht =>
    intro f listed cov S a w hB1 inv h hR
    cases f with
    | zero => simp [schedB] at hB1
    | succ f =>
      simp only [schedB, Bool.and_eq_true, List.contains_iff_mem] at hB1
      obtain ⟨hri, hB2, hB3⟩ := hB1
      have h := h2V _ _ _ _ h
      have his : i < ops.toArray.size := by
        obtain ⟨_, oi, hoi, _⟩ := mem_ready.1 hri
        exact (Array.getElem?_eq_some_iff.1 hoi).1
      have key : ∀ j ∈ Region.ready .any ops.toArray listed, j ∉ cov → wpOpIn (Fr r) 0 P ops.toArray Q j (fun a' w' => (∀ o, ops.toArray[j]? = some o → tameB T o = true → ExtW w w') ∧ wpAnyS P r ops.toArray Q (tameB T) f (listed.setIfInBounds j true) a' w') a w := by
        intro j hj hjc
        by_cases hji : j = i
        · subst hji
          exact hst hR h.1 fun S' a' w' h1 h2 => (ihs f _ [] S' a' w' hB2 (inv.set hri his) h1 h2).1 rfl
        · exact (iht (f + 1) listed (i :: cov) S a w hB3 inv h.2 hR).2 f rfl j hj (by simp [hji, hjc])
      exact ⟨fun hc => ⟨fun h0 => (by rw [h0] at hri; cases hri), fun j hj => key j hj (by rw [hc]; simp)⟩, fun f' hf j hj hjc => by cases hf; exact key j hj hjc⟩
  | stop =>
    intro f listed cov S a w hB1 inv h hR
    simp only [schedB, Bool.and_eq_true, Bool.not_eq_true', List.all_eq_true, List.contains_iff_mem] at hB1
    refine ⟨fun hc => (by rw [hc] at hB1; simp at hB1), fun f' _ j hj hjc => absurd (hB1.2 j hj) hjc⟩
theorem stepX_ih {ops : List Oper} {i : Nat} {ih : St → (St → Prop) → Prop} : stepX P T B pr ops i ih S K = stepX P T B pr ops i (fun S' _ => ih S' K) S (fun _ => True) := by
  unfold stepX
  cases ops[i]? with
  | none => rfl
  | some o => simp only [opStep_eq, opStepQ_eq]
theorem sched_sound (hT : T.ok P = true) (hB : bodiesOk P B = true) {ops : List Oper} (hall : ops.all (dstOk N) = true) (hsel : Region.noSelect ops.toArray = true) (hnd : ops.all noDefer = true) (hQn : ∀ (i : Nat) o, ops.toArray[i]? = some o → ∀ c (a : Act) v w, Q (.panic c) (a.put o.dst v) w → Q (.panic c) a w)
    (hK : ∀ S' a' w', K S' → Relx N D m0 w0 S' a' w' → Q .normal a' w') (s : Sched) (f : Nat) (listed : Array Bool) (cov : List Nat) (S : St) (a : Act) (w : World) (h1 : schedB ops.toArray T s f listed cov = true) (h2 : HeadInv .any ops.toArray ops.toArray.size listed)
    (h3 : vcSched P T B pr ops s S K) (h4 : Relx N D m0 w0 S a w) : cov = [] → wpAnyS P r ops.toArray Q (tameB T) f listed a w :=
  (sched_gen (pr := pr) (V := fun s S => vcSched P T B pr ops s S K) (st := fun i ih S => stepX P T B pr ops i (fun S' _ => ih S') S (fun _ => True)) hT hB hall hsel hnd hQn
    (fun i bl s S h => by rw [← stepX_ih]; exact h) (fun i s t S h => ⟨by rw [← stepX_ih]; exact h.1, h.2⟩) (fun hR h Kw hk => stepX_sound hT hB hall hnd hR h hk)
    (fun i o ih S ho hq h => by
      unfold stepX at h
      rw [ho] at h
      simp only [hq, cond_true] at h
      exact h) (fun i ih S h => by
      unfold stepX at h
      cases ho : ops[i]? with
      | none => rw [ho] at h; exact h.elim
      | some o => exact ⟨o, rfl⟩) hK s f listed cov S a w h1 h2 h3 h4).1
/-! ### panics -/
/-- What a panic leaves: what is known of the slots that the region does not write. -/
def panSt (ops : List Oper) (S : St) : St := ⟨cutEnv ops S.env, S.ls, S.m⟩
theorem cutEnv_lk {ops : List Oper} : ∀ {E : Env} {i : Nat} {x : AV}, lk (cutEnv ops E) i = some x → dstsB ops i = false ∧ lk E i = some x
  | [], _, _, h => by simp [cutEnv, lk] at h
  | (j, y) :: r, i, x, h => by
    simp only [cutEnv] at h
    cases hd : dstsB ops j with
    | true =>
      rw [hd] at h
      obtain ⟨h1, h2⟩ := cutEnv_lk (E := r) h
      have hne : j ≠ i := by rintro rfl; rw [hd] at h1; cases h1
      simp only [lk, if_neg hne]
      exact ⟨h1, h2⟩
    | false =>
      rw [hd] at h
      simp only [cond_false, lk] at h ⊢
      by_cases hne : j = i
      · rw [if_pos hne] at h ⊢
        exact ⟨hne ▸ hd, h⟩
      · rw [if_neg hne] at h ⊢
        exact cutEnv_lk (E := r) h
theorem cutEnv_cut {ops : List Oper} : ∀ E : Env, cutEnv ops (cutEnv ops E) = cutEnv ops E
  | [] => rfl
  | (j, y) :: r => by
    cases hd : dstsB ops j with
    | true => simp only [cutEnv, hd, cond_true]; exact cutEnv_cut r
    | false => simp only [cutEnv, hd, cond_false, cutEnv_cut r]
theorem panSt_panSt {ops : List Oper} {S : St} : panSt ops (panSt ops S) = panSt ops S := by simp only [panSt, cutEnv_cut]
theorem dstsB_mem {ops : List Oper} {i j : Nat} {o : Oper} (hi : ops[i]? = some o) (hd : dstsB ops j = false) : o.dst ≠ some j := by
  intro he
  have := List.any_eq_false.1 hd o (List.mem_of_getElem? hi)
  rw [he] at this
  simp at this
theorem Rel.pan {ops : List Oper} (h : Rel ψ N D m0 w0 S a w) {a' : Act} (h1 : a'.tmps.size = a.tmps.size) (h2 : a'.defers = a.defers) (h3 : ∀ i, dstsB ops i = false → a'.tmps.getD i Go.undef = a.tmps.getD i Go.undef) : Rel ψ N D m0 w0 (panSt ops S) a' w :=
  ⟨h1.trans h.size, h2.trans h.defers, fun i x hx => by
    obtain ⟨h4, h5⟩ := cutEnv_lk hx
    rw [h3 i h4]
    exact h.env i x h5, h.box, h.inj, h.frame, h.marks⟩
theorem panCall_spec {c : Call} {g : Nat} (h : panCall pr c = some g) : c.callee = .value (.func g) := by
  unfold panCall at h
  split at h
  · rename_i f hf
    split at h
    · rename_i g'
      cases hp : pr.contains (200000 + g') with
      | true => rw [hp] at h; cases h; exact hf
      | false => rw [hp] at h; cases h
    · cases h
  · cases h
theorem ifaceK_spec {x : AV} {k : Value → Prop} (h : ifaceK x k) : ∃ t u, x = .v (.iface t u) ∧ k (.iface t u) := by
  unfold ifaceK at h
  split at h
  · split at h
    · exact ⟨_, _, rfl, h⟩
    · exact h.elim
  · exact h.elim
theorem opStepP_false {ops : List Oper} {o : Oper} {ih : St → (Exit → St → Prop) → Prop} {K : Exit → St → Prop} (hp : panOp pr o = false) : opStepP P T B pr ops o ih S K = opStep P T B pr ops o (fun S' _ => ih S' K) S (fun _ => True) := by
  obtain ⟨dst, op, ty, pos, after, guard⟩ := o
  cases S
  simp only [opStepP, hp]
theorem opStepP_true {ops : List Oper} {dst : Option Tmp} {op : Op} {ty : TypeId} {pos : String} {after : Array Edge} {guard : Option (Nat × Bool)} {ih : St → (Exit → St → Prop) → Prop} {K : Exit → St → Prop} (hp : panOp pr ⟨dst, op, ty, pos, after, guard⟩ = true)
    (h : opStepP P T B pr ops ⟨dst, op, ty, pos, after, guard⟩ ih S K) : guard = none ∧
      ((∃ c g, op = .call c ∧ panCall pr c = some g ∧ B.contains g = true ∧ evsK S c.args.toList fun vs => PCalls P g vs S.m (fun v m' => normK T ty v fun y => ih (St.put { S with m := m' } dst y) K) (fun x m' => K (.panic (chain x)) (panSt ops { S with m := m' }))) ∨
       (∃ x, op = .panic x ∧ evK S x fun y => ifaceK y fun v => K (.panic (chain v)) (panSt ops S))) := by
  obtain ⟨env, ls, m⟩ := S
  unfold opStepP at h
  simp only at h
  cases guard with
  | some _ => rw [hp] at h; exact h.elim
  | none =>
    refine ⟨rfl, ?_⟩
    rw [hp] at h
    simp only at h
    split at h
    · rename_i c
      split at h
      · rename_i g hg
        obtain ⟨h1, h2⟩ := req_spec h
        exact .inl ⟨c, g, rfl, hg, h1, h2⟩
      · exact h.elim
    · exact .inr ⟨_, rfl, h⟩
    · exact h.elim
theorem run_panic {dst : Option Tmp} {ty : TypeId} {pos : String} {after : Array Edge} {guard : Option (Nat × Bool)} {x : Operand} {t : TypeId} {u : Value} (h : a.eval x = .iface t u) :
    (execOp a.eval ⟨dst, .panic x, ty, pos, after, guard⟩).run P w = .halt (.panic (.iface t u)) w := by
  simp only [execOp, h, Instr.panic, goPanic]
  rfl
/-- An operation that may panic. -/
theorem panOp_sound (hB : bodiesOk P B = true) {ops : List Oper} {o : Oper} {ih : St → (Exit → St → Prop) → Prop} {K : Exit → St → Prop} (hR : Rel ψ N D m0 w0 S a w) (hdo : ∀ i, o.dst = some i → i < N) (hp : panOp pr o = true) (h : opStepP P T B pr ops o ih S K)
    {next : Act → World → Prop} (hK : ∀ S' a' w', ih S' K → Relx N D m0 w0 S' a' w' → next a' w') (hP : ∀ c S' a' w', K (.panic c) (panSt ops S') → Relx N D m0 w0 (panSt ops S') a' w' → Q (.panic c) a' w') :
    Region.wanted o (yielded ops.toArray a.tmps) = true ∧ o.wpIn (Fr r) 0 P a w next Q := by
  obtain ⟨dst, op, ty, pos, after, guard⟩ := o
  obtain ⟨hg, hw⟩ := opStepP_true hp h
  clear h
  subst hg
  refine ⟨by simp [Region.wanted], fun f _ => trivial, ?_⟩
  rcases hw with ⟨c, g, rfl, hpc, hBg, h⟩ | ⟨x, rfl, h⟩
  · have hcal := panCall_spec hpc
    have hvs := hR.evs h
    have hbody := List.all_eq_true.1 hB _ (show g ∈ B by simpa using hBg)
    rw [Oper.semAt_eq _ _ _ (fun c h => by cases h)]
    have hrun : (execOp a.eval ⟨dst, .call c, ty, pos, after, none⟩).run P w = .ok (.enter g (c.args.toList.map a.eval).toArray) w := by
      obtain ⟨callee, args, ats⟩ := c
      simp only at hcal
      subst hcal
      have he : args.map a.eval = (args.toList.map a.eval).toArray := by apply Array.ext'; simp
      have hev : a.eval (.func g) = .func (.func g) #[] #[] := rfl
      simp only [execOp, resolve, hev, Deferred.ofValue, pure_bind, invoke]
      rw [Array.append_empty, Array.empty_append, he]
      exact run_callFunc hbody _
    rw [hrun]
    refine ⟨fun h => by simp [Fr, Fence.wide] at h, (fr_calls ((hvs w hR.sub).mono fun e w' h => ?_) : CallsIn (Fr r) (0 - 1) P g _ w _)⟩
    obtain ⟨v, m', h, hF⟩ := h
    rcases h with ⟨rfl, hk⟩ | ⟨rfl, hk⟩
    · obtain ⟨y, hy, hK'⟩ := norm_sound hk ψ S.ls.length
      exact hK _ _ _ hK' ⟨ψ, (frame_rel hR hF).put hy hdo⟩
    · exact hP _ _ _ _ hk ⟨ψ, (frame_rel hR hF).pan rfl rfl fun _ _ => rfl⟩
  · obtain ⟨y, hy, h1⟩ := hR.ev h
    obtain ⟨t, u, rfl, h2⟩ := ifaceK_spec h1
    simp only [AV.is] at hy
    rw [Oper.semAt_eq _ _ _ (fun c h => by cases h), run_panic hy]
    exact hP _ _ _ _ h2 ⟨ψ, hR.pan rfl rfl fun _ _ => rfl⟩
theorem vcOpsP_sound (hT : T.ok P = true) (hB : bodiesOk P B = true) (ops : List Oper) : ∀ (rest : List Oper) (S : St) (a : Act) (w : World) (K : Exit → St → Prop), (rest.all (dstOk N)) = true → vcOpsP P T B pr ops rest S K → Relx N D m0 w0 S a w →
    (∀ S' a' w', K .normal S' → Relx N D m0 w0 S' a' w' → Q .normal a' w') → (∀ c S' a' w', K (.panic c) (panSt ops S') → Relx N D m0 w0 (panSt ops S') a' w' → Q (.panic c) a' w') → wpListIn (Fr r) 0 P ops.toArray Q rest a w
  | [], S, a, w, K, _, hk, hR, hK, _ => hK S a w hk hR
  | o :: rest, S, a, w, K, hd, hk, ⟨ψ, hR⟩, hK, hP => by
    simp only [List.all_cons, Bool.and_eq_true] at hd
    have hdo := dstOk_spec hd.1
    have ih := fun S a w hk hR => vcOpsP_sound hT hB ops rest S a w K hd.2 hk hR hK hP
    have hk : opStepP P T B pr ops o (vcOpsP P T B pr ops rest) S K := hk
    simp only [wpListIn]
    cases hp : panOp pr o with
    | true =>
      obtain ⟨h1, h2⟩ := panOp_sound (Q := Q) hB hR hdo hp hk ih hP
      rw [if_pos h1]
      exact h2
    | false =>
      rw [opStepP_false hp, opStep_eq] at hk
      rcases guard_ways (V := fun S1 => vcOpN P T B pr o.dst o.op o.type S1 fun S' => vcOpsP P T B pr ops rest S' K) (I := fun S1 => vcOpsP P T B pr ops rest S1 K) hR hdo hk with ⟨S1, hw, _, _, h3, h4⟩ | ⟨S1, hw, _, _, h3, h4⟩
      · rw [if_pos hw]
        obtain ⟨dst, op, ty, pos, after, guard⟩ := o
        exact vcOp_sound hT hB h3 hdo (vcOpN_old h4) _ fun S' a' w' h1 h2 => ih S' a' w' h1 h2
      · rw [if_neg (by simp [hw])]
        exact ⟨fun f _ => trivial, ih S1 _ _ h4 ⟨ψ, h3⟩⟩
theorem stepXP_sound (hT : T.ok P = true) (hB : bodiesOk P B = true) {ops : List Oper} {i : Nat} {ih : St → (Exit → St → Prop) → Prop} {K : Exit → St → Prop} (hall : ops.all (dstOk N) = true) (hnd : ops.all noDefer = true) (hR : Relx N D m0 w0 S a w) (h : stepXP P T B pr ops i ih S K)
    {Kw : Act → World → Prop} (hK : ∀ S' a' w', ih S' K → Relx N D m0 w0 S' a' w' → Kw a' w') (hP : ∀ c S' a' w', K (.panic c) (panSt ops S') → Relx N D m0 w0 (panSt ops S') a' w' → Q (.panic c) a' w') :
    wpOpIn (Fr r) 0 P ops.toArray Q i (fun a' w' => (∀ o, ops.toArray[i]? = some o → tameB T o = true → ExtW w w') ∧ Kw a' w') a w := by
  unfold stepXP at h
  cases ho : ops[i]? with
  | none => rw [ho] at h; exact h.elim
  | some o =>
    rw [ho] at h
    simp only at h
    have hold : stepX P T B pr ops i (fun S' _ => ih S' K) S (fun _ => True) → wpOpIn (Fr r) 0 P ops.toArray Q i (fun a' w' => (∀ o, ops.toArray[i]? = some o → tameB T o = true → ExtW w w') ∧ Kw a' w') a w :=
      fun h => stepX_sound hT hB hall hnd hR h hK
    cases hq : quietOp T o.op with
    | true =>
      rw [hq] at h
      refine hold ?_
      unfold stepX
      rw [ho]
      simp only [hq, cond_true]
      exact h
    | false =>
      rw [hq] at h
      simp only [cond_false] at h
      cases hp : panOp pr o with
      | false =>
        rw [opStepP_false hp] at h
        refine hold ?_
        unfold stepX
        rw [ho]
        simp only [hq, cond_false]
        exact h
      | true =>
        obtain ⟨ψ, hR⟩ := hR
        have ho' : ops.toArray[i]? = some o := by simpa using ho
        have hnt : tameB T o = false := by
          obtain ⟨dst, op, ty, pos, after, guard⟩ := o
          cases op <;> first | (simp [panOp] at hp; done) | simp_all [tameB, freshOp]
        have hdo := dstOk_spec (List.all_eq_true.1 hall o (List.mem_of_getElem? ho))
        have hno : ∀ w' : World, ∀ o2, ops.toArray[i]? = some o2 → tameB T o2 = true → ExtW w w' := by
          intro w' o2 ho2 ht
          rw [ho'] at ho2
          cases ho2
          rw [hnt] at ht
          cases ht
        obtain ⟨h1, h2⟩ := panOp_sound (Q := Q) (r := r) (next := fun a' w' => (∀ o, ops.toArray[i]? = some o → tameB T o = true → ExtW w w') ∧ Kw a' w') hB hR hdo hp h (fun S' a' w' g1 g2 => ⟨hno w', hK S' a' w' g1 g2⟩) hP
        unfold wpOpIn
        rw [ho'] at h2 ⊢
        simp only
        rw [if_pos h1]
        exact h2
theorem stepXP_ih {ops : List Oper} {i : Nat} {ih : St → (Exit → St → Prop) → Prop} {K : Exit → St → Prop} (h : stepXP P T B pr ops i ih S K) : stepXP P T B pr ops i (fun S' _ => ih S' K) S K := by
  unfold stepXP at h ⊢
  cases ho : ops[i]? with
  | none => rw [ho] at h; exact h
  | some o =>
    rw [ho] at h
    simp only at h ⊢
    cases hq : quietOp T o.op with
    | true => rw [hq] at h; exact h
    | false =>
      rw [hq] at h
      simp only [cond_false] at h ⊢
      obtain ⟨dst, op, ty, pos, after, guard⟩ := o
      cases S
      exact h
theorem sched_soundP (hT : T.ok P = true) (hB : bodiesOk P B = true) {ops : List Oper} {K : Exit → St → Prop} (hall : ops.all (dstOk N) = true) (hsel : Region.noSelect ops.toArray = true) (hnd : ops.all noDefer = true) (hQn : ∀ (i : Nat) o, ops.toArray[i]? = some o → ∀ c (a : Act) v w, Q (.panic c) (a.put o.dst v) w → Q (.panic c) a w)
    (hK : ∀ S' a' w', K .normal S' → Relx N D m0 w0 S' a' w' → Q .normal a' w') (hP : ∀ c S' a' w', K (.panic c) (panSt ops S') → Relx N D m0 w0 (panSt ops S') a' w' → Q (.panic c) a' w')
    (s : Sched) (f : Nat) (listed : Array Bool) (cov : List Nat) (S : St) (a : Act) (w : World) (h1 : schedB ops.toArray T s f listed cov = true) (h2 : HeadInv .any ops.toArray ops.toArray.size listed)
    (h3 : vcSchedP P T B pr ops s S K) (h4 : Relx N D m0 w0 S a w) : cov = [] → wpAnyS P r ops.toArray Q (tameB T) f listed a w :=
  (sched_gen (pr := pr) (V := fun s S => vcSchedP P T B pr ops s S K) (st := fun i ih S => stepXP P T B pr ops i (fun S' _ => ih S') S K) hT hB hall hsel hnd hQn
    (fun i bl s S h => by
      have h : stepXP P T B pr ops i (vcSchedP P T B pr ops s) S K := h
      exact stepXP_ih h) (fun i s t S h => by
      have h : stepXP P T B pr ops i (vcSchedP P T B pr ops s) S K ∧ vcSchedP P T B pr ops t S K := h
      exact ⟨stepXP_ih h.1, h.2⟩) (fun hR h Kw hk => stepXP_sound hT hB hall hnd hR h hk hP)
    (fun i o ih S ho hq h => by
      unfold stepXP at h
      rw [ho] at h
      simp only [hq, cond_true] at h
      exact h) (fun i ih S h => by
      unfold stepXP at h
      cases ho : ops[i]? with
      | none => rw [ho] at h; exact h.elim
      | some o => exact ⟨o, rfl⟩) hK s f listed cov S a w h1 h2 h3 h4).1
def noRange : Code → Bool
  | .seq x y => noRange x && noRange y
  | .cond _ x y => noRange x && noRange y
  | .block _ c => noRange c
  | .loop c => noRange c
  | .rangeFunc .. => false
  | _ => true
/-- Every slot that the code writes is one of N; each region that draws its order has its tail where DR says. -/
def codeOk (T : Tbl) (N : Nat) (DR : List (Nat × DE)) : Code → Bool
  | .region _ ops false => ops.toList.all (dstOk N)
  | .region id ops true => ops.toList.all (dstOk N) && match drawAt DR id with
    | some (.n n) => Region.lexTailB .any ops n || floatD ops n
    | some (.s t) => Region.noSelect ops && (ops.toList.all noDefer && schedB ops T t ops.size (Array.replicate ops.size false) [])
    | none => true
  | .seq x y => codeOk T N DR x && codeOk T N DR y
  | .cond _ x y => codeOk T N DR x && codeOk T N DR y
  | .block _ c => codeOk T N DR c
  | .loop c => codeOk T N DR c
  | .rangeFunc _ ps x y => (codeOk T N DR x && codeOk T N DR y) && ((noRange x && noRange y) && ps.toList.all (fun p => Nat.blt p N))
  | _ => true
theorem exists_least {p : Nat → Prop} (h : ∃ n, p n) : ∃ n, p n ∧ ∀ m, p m → n ≤ m := by
  obtain ⟨n, hn⟩ := h
  induction n using Nat.strongRecOn with
  | _ n ih =>
    by_cases hm : ∃ m, m < n ∧ p m
    · obtain ⟨m, hlt, hpm⟩ := hm
      exact ih m hlt hpm
    · exact ⟨n, hn, fun m hpm => Nat.le_of_not_lt fun hlt => hm ⟨m, hlt, hpm⟩⟩
theorem RelX.trans {D' : HD} (he : Ext w0 D D') (h : RelX N D' m0 w0 S a w) : RelX N D m0 w0 S a w := by
  obtain ⟨D'', h1, h2⟩ := h
  exact ⟨D'', he.trans h1, h2⟩
theorem RelX.le (h : RelX N D m0 w0 S a w) (hle : S.le S') : RelX N D m0 w0 S' a w := by
  obtain ⟨D', h1, ψ, h2⟩ := h
  exact ⟨D', h1, ψ, h2.le hle⟩
theorem float_sound (hT : T.ok P = true) (hB : bodiesOk P B = true) (hm : P.follows .mixedOrders = true) {id h : Nat} {ops : Array Oper} (hfl : floatD ops h = true) (hall : ops.toList.all (dstOk N) = true)
    (hk : vcQs P T B pr ops.toList (ops.toList.take h) S fun S' => vcOps P T B pr ops.toList (ops.toList.drop h) S' K) (hR : Rel ψ N D m0 w0 S a w)
    (hK : ∀ S' a' w', K S' → Relx N D m0 w0 S' a' w' → Q .normal a' w') : (Code.region id ops true).wpIn (Fr r) 0 P Q a w := by
  have hall := List.all_eq_true.1 hall
  have hops : ops = ops.toList.toArray := by simp
  have hR1 := hR.drew (Nat.le_succ w.drawn)
  obtain ⟨b, S', hwalk, hk, hm1, hl1, hR2⟩ := vcQs_walk (N := N) (D := D) (m0 := m0) (w0 := w0) (ψ := ψ) hT hB ops.toList (ops.toList.take h) 0 S a { w with drawn := w.drawn + 1 } _ (fun j hj => by
    have hj' : j < h := by simp at hj; omega
    rw [List.getElem?_take, if_pos hj', Nat.zero_add]) (List.all_eq_true.2 fun x hx => hall x (List.mem_of_mem_take hx)) hk hR1
  have hdrop : ∀ (n : Nat) (o : Oper), ops[n]? = some o → ops.toList.drop n = o :: ops.toList.drop (n + 1) := by
    intro n o ho
    have ho' : ops.toList[n]? = some o := by simpa using ho
    rw [List.drop_eq_getElem_cons (List.getElem?_eq_some_iff.1 ho').1]
    congr 1
    exact (List.getElem?_eq_some_iff.1 ho').2
  have hdst : ∀ (n : Nat) (o : Oper), ops[n]? = some o → ∀ i, o.dst = some i → i < N := fun n o ho => dstOk_spec (hall o (List.mem_of_getElem? (i := n) (by simpa using ho)))
  have tl : ∀ (n : Nat) (S1 : St) (a1 : Act) (w1 : World), vcOps P T B pr ops.toList (ops.toList.drop n) S1 K → Relx N D m0 w0 S1 a1 w1 → wpListIn (Fr r) 0 P ops.toList.toArray Q (ops.toList.drop n) a1 w1 :=
    fun n S1 a1 w1 h1 h2 => vcOps_sound (r := r) (Q := Q) hT hB ops.toList (ops.toList.drop n) S1 a1 w1 _ (List.all_eq_true.2 fun x hx => hall x (List.mem_of_mem_drop hx)) h1 h2 hK
  have rb : ∀ w2, WRel ψ D m0 w0 S.m S.ls w2 → Rel ψ N D m0 w0 S' b w2 := fun w2 hw => ⟨hR2.size, hR2.defers, hR2.env, by rw [hm1, hl1]; exact hw.2.1, hR2.inj, by rw [hm1]; exact hw.1, by rw [hm1, hl1]; exact hw.2.2⟩
  have rn : ∀ k o w2, WRel ψ ⟨D.defers, (k, o) :: D.hid⟩ m0 w0 S.m S.ls w2 → Rel ψ N ⟨D.defers, (k, o) :: D.hid⟩ m0 w0 S' b w2 := fun k o w2 hw => ⟨hR2.size, hR2.defers, hR2.env, by rw [hm1, hl1]; exact hw.2.1, hR2.inj, by rw [hm1]; exact hw.1, by rw [hm1, hl1]; exact hw.2.2⟩
  have pur : ∀ n, restPure ops h n = true → ∀ i, i < h → Region.waitsFor .any ops.toList.toArray n i = false → RF ops.toList.toArray i (.any fun _ => True) := by
    intro n hp i hi hw
    have := List.all_eq_true.1 hp i (List.mem_range.2 hi)
    rw [← hops] at hw ⊢
    rw [hw, Bool.false_or] at this
    cases ho : ops[i]? with
    | none => rw [ho] at this; cases this
    | some o => rw [ho] at this; exact ⟨o, ho, this⟩
  have gd : ∀ n p o q, floatB .any ops h p = true → q < p → n = h + q → ops[n]? = some o → o.guard = none := by
    intro n p o q hB hq hn ho
    simp only [floatB, Bool.and_eq_true, List.all_eq_true, List.mem_range] at hB
    obtain ⟨on, h1, h2, _⟩ := floatAt_spec (hB.2.2.2.2.2 q hq)
    rw [← hn, ho] at h1
    cases h1
    exact h2
  cases hon : ops[h]? with
  | none => simp [floatD, hon] at hfl
  | some on =>
    have hd1 := hdrop h on hon
    rw [hd1, vcOps_cons] at hk
    have hdo := hdst h on hon
    simp only [floatD, hon, Bool.or_eq_true, Bool.and_eq_true] at hfl
    obtain ⟨dst, op, ty, pos, after, guard⟩ := on
    rcases hfl with ⟨hfo, hfB⟩ | ⟨hst, hrp, hfB⟩ | ⟨hfo, hfl⟩
    · have hg := gd h 1 _ 0 hfB (by omega) (by omega) hon
      simp only at hg
      subst hg
      simp only at hk hfo
      obtain ⟨o, mk, hrun, hcont⟩ := fresh_sound (pos := pos) (after := after) (guard := none) hT hR2 hdo hfo (vcOpN_old hk)
      have ht1 : (ops.toList.drop h).take 1 = [⟨dst, op, ty, pos, after, none⟩] := by rw [hd1]; rfl
      have key := wpIn_float (P := P) (r := r) (Q := Q) (id := id) (h := h) (p := 1) (a := a) (b := b) (w := w) (l := ops.toList) (C := CF ψ D m0 w0 S.m S.ls) (R := RF ops.toList.toArray) (k0 := .base) hm (by rw [← hops]; exact hfB) hR1.wr (fun _ _ => trivial) hwalk
        (by
          rw [ht1]
          refine fun w' hw' => ⟨mk w'.heap.size, .new w'.heap.size o, w'.alloc o, .inl (hrun w'), CF.new hw', fun _ _ _ _ => trivial, fun w2 hw2 => ?_⟩
          obtain ⟨hw3, hk2, hn2⟩ := hw2
          obtain ⟨S1, hK1, hR4⟩ := hcont _ w2 (rn _ _ w2 hw3) hk2 hn2
          exact tl (h + 1) S1 _ w2 hK1 hR4)
        (by rw [ht1]; intro o' ho' c hc; rw [List.mem_singleton] at ho'; subst ho'; simp only at hc; rw [hc] at hfo; cases hfo)
      rw [← hops] at key
      exact key
    · have hg := gd h 1 _ 0 hfB (by omega) (by omega) hon
      simp only at hg
      subst hg
      simp only at hk hst
      have ht1 : (ops.toList.drop h).take 1 = [⟨dst, op, ty, pos, after, none⟩] := by rw [hd1]; rfl
      have key := wpIn_float (P := P) (r := r) (Q := Q) (id := id) (h := h) (p := 1) (a := a) (b := b) (w := w) (l := ops.toList) (C := CF ψ D m0 w0 S.m S.ls) (R := RF ops.toList.toArray) (k0 := .base) hm (by rw [← hops]; exact hfB) hR1.wr (fun _ _ => trivial) hwalk
        (by
          rw [ht1]
          intro w' hw'
          obtain ⟨w2, S2, h1, h2, h3⟩ := store_run (pos := pos) (after := after) (guard := none) hT (rb w' hw') hdo hst (vcOpN_old hk)
          refine ⟨undef, .any (· = w2), w2, .inr ⟨h1, rfl⟩, rfl, fun i hi hw _ => pur h hrp i hi hw, fun w3 hw3 => ?_⟩
          simp only [CF] at hw3
          subst hw3
          exact tl (h + 1) S2 _ _ h2 h3)
        (by rw [ht1]; intro o' ho' c hc; rw [List.mem_singleton] at ho'; subst ho'; simp only at hc; rw [hc] at hst; cases hst)
      rw [← hops] at key
      exact key
    · cases hon2 : ops[h + 1]? with
      | none => rw [hon2] at hfl; cases hfl
      | some on2 =>
        rw [hon2] at hfl
        simp only [Bool.and_eq_true] at hfl
        obtain ⟨hst, hrp, hfB⟩ := hfl
        have hd2 := hdrop (h + 1) on2 hon2
        have hdo2 := hdst (h + 1) on2 hon2
        have hg := gd h 2 _ 0 hfB (by omega) (by omega) hon
        have hg2 := gd (h + 1) 2 _ 1 hfB (by omega) rfl hon2
        obtain ⟨dst2, op2, ty2, pos2, after2, guard2⟩ := on2
        simp only at hg hg2
        subst hg hg2
        simp only at hk hfo hst
        obtain ⟨o, mk, hrun, hcont⟩ := fresh_sound (pos := pos) (after := after) (guard := none) hT hR2 hdo hfo (vcOpN_old hk)
        have ht2 : (ops.toList.drop h).take 2 = [⟨dst, op, ty, pos, after, none⟩, ⟨dst2, op2, ty2, pos2, after2, none⟩] := by rw [hd1, hd2]; rfl
        have key := wpIn_float (P := P) (r := r) (Q := Q) (id := id) (h := h) (p := 2) (a := a) (b := b) (w := w) (l := ops.toList) (C := CF ψ D m0 w0 S.m S.ls) (R := RF ops.toList.toArray) (k0 := .base) hm (by rw [← hops]; exact hfB) hR1.wr (fun _ _ => trivial) hwalk
          (by
            rw [ht2]
            refine fun w' hw' => ⟨mk w'.heap.size, .new w'.heap.size o, w'.alloc o, .inl (hrun w'), CF.new hw', fun _ _ _ _ => trivial, fun w2 hw2 => ?_⟩
            obtain ⟨hw3, hk2, hn2⟩ := hw2
            obtain ⟨S1, hK1, ψ1, hR4⟩ := hcont _ w2 (rn _ _ w2 hw3) hk2 hn2
            rw [hd2, vcOps_cons] at hK1
            simp only at hK1
            obtain ⟨w3, S2, h1, h2, h3⟩ := store_run (pos := pos2) (after := after2) (guard := none) hT hR4 hdo2 hst (vcOpN_old hK1)
            refine ⟨undef, .any (· = w3), w3, .inr ⟨h1, rfl⟩, rfl, fun i hi hw _ => pur (h + 1) hrp i hi hw, fun w4 hw4 => ?_⟩
            simp only [CF] at hw4
            subst hw4
            exact tl (h + 2) S2 _ _ h2 h3)
          (by
            rw [ht2]
            intro o' ho' c hc
            rcases List.mem_cons.1 ho' with rfl | ho'
            · simp only at hc; rw [hc] at hfo; cases hfo
            · rw [List.mem_singleton] at ho'; subst ho'; simp only at hc; rw [hc] at hst; cases hst)
        rw [← hops] at key
        exact key
theorem vc_sound (hT : T.ok P = true) (hB : bodiesOk P B = true) (hm : P.follows .mixedOrders = true) {DR : List (Nat × DE)} : ∀ (c : Code) (r : Option Nat) (D : HD) (m0 : Mem) (w0 : World) (K : Exit → St → Prop) (S : St), (r = none ∨ noRange c = true) → codeOk T N DR c = true → vc P T B pr DR c K S → Run P r N D m0 w0 c K S := by
  intro c
  induction c with
  | skip => intro r D m0 w0 K S _ _ h Q a w hR hK; exact wpIn_skip (hK _ _ _ _ h hR.X)
  | region id ops draw =>
    intro r D m0 w0 K S hr hc h Q a w hR hK
    cases draw with
    | false =>
      simp only [codeOk] at hc
      simp only [vc_skip, vc_region, vc_draw, vc_seq, vc_cond, vc_block, vc_loop, vc_exit, vc_ret, vc_rangeFunc, vc_scope, vc_label, vc_goto, vc_refuse] at h
      have : wpListIn (Fr r) 0 P ops.toList.toArray Q ops.toList a w := by
        cases hpr : panReg pr ops.toList with
        | true =>
          rw [hpr] at h
          exact vcOpsP_sound (r := r) (Q := Q) hT hB ops.toList ops.toList S a w K hc h hR (fun S' a' w' h1 h2 => hK _ _ _ _ h1 h2.X) (fun c S' a' w' h1 h2 => hK _ _ _ _ h1 h2.X)
        | false =>
          rw [hpr] at h
          exact vcOps_sound (r := r) (Q := Q) hT hB ops.toList ops.toList S a w _ hc h hR (fun S' a' w' h1 h2 => hK _ _ _ _ h1 h2.X)
      have h2 := wpIn_region_list (ops := ops) (id := id) (F := Fr r) (n := 0) (P := P) (Q := Q) (a := a) (w := w) (by simpa using this)
      exact h2
    | true =>
      simp only [codeOk, Bool.and_eq_true] at hc
      simp only [vc_skip, vc_region, vc_draw, vc_seq, vc_cond, vc_block, vc_loop, vc_exit, vc_ret, vc_rangeFunc, vc_scope, vc_label, vc_goto, vc_refuse] at h
      cases hd : drawAt DR id with
      | none => rw [hd] at h; exact h.elim
      | some e =>
       cases e with
       | s t =>
        rw [hd] at h hc
        simp only [Bool.and_eq_true] at h hc
        have hops : ops = ops.toList.toArray := by simp
        obtain ⟨hd0, hsel, hnd, hsB⟩ := hc
        have hX := hR.X
        have hR1 : Relx N D m0 w0 S a { w with drawn := w.drawn + 1 } := by
          obtain ⟨ψ, hR⟩ := hR
          exact ⟨ψ, hR.drew (Nat.le_succ w.drawn)⟩
        rw [hops] at hsel hsB
        have inv0 : HeadInv .any ops.toList.toArray ops.toList.toArray.size (Array.replicate ops.toList.toArray.size false) :=
          ⟨by simp, fun j oj _ hl => (by rw [getD_replicate_false] at hl; cases hl), fun t h1 h2 => by omega⟩
        let Q' : Exit → Act → World → Prop := fun e a w => match e with
          | .normal => Q .normal a w
          | .panic c => ∀ a' : Act, a'.tmps.size = a.tmps.size → a'.defers = a.defers → (∀ i, dstsB ops.toList i = false → a'.tmps.getD i Go.undef = a.tmps.getD i Go.undef) → Q (.panic c) a' w
          | _ => False
        refine wpIn_mono (Q := Q') ?_ (fun e a w h => by cases e <;> first | exact h | exact h a rfl rfl (fun _ _ => rfl) | exact h.elim)
        refine wpIn_region_any hm ?_
        have hQn : ∀ (i : Nat) o, ops.toList.toArray[i]? = some o → ∀ c (a : Act) v w, Q' (.panic c) (a.put o.dst v) w → Q' (.panic c) a w := by
          intro i o ho c a v w h a' h1 h2 h3
          refine h a' (h1.trans ?_) (h2.trans ?_) fun j hj => (h3 j hj).trans ?_
          · cases o.dst <;> simp [Act.put]
          · cases o.dst <;> rfl
          · have hne := dstsB_mem (i := i) (by simpa using ho) hj
            cases hd : o.dst with
            | none => rfl
            | some d =>
              rw [hd] at hne
              simp only [Act.put, Array.getD_eq_getD_getElem?]
              rw [Array.getElem?_setIfInBounds_ne (by intro e; exact hne (by rw [e]))]
        have key : wpAnyS P r ops.toList.toArray Q' (tameB T) ops.toList.toArray.size (Array.replicate ops.toList.toArray.size false) a { w with drawn := w.drawn + 1 } := by
          cases hpr : panReg pr ops.toList with
          | true =>
            rw [hpr] at h
            exact sched_soundP (r := r) (Q := Q') hT hB hd0 hsel hnd hQn (fun S' a' w' h1 h2 => hK .normal S' a' w' h1 h2.X)
              (fun c S' a' w' h1 ⟨ψ', h2⟩ a'' h3 h4 h5 => hK _ _ _ _ h1 (Relx.X ⟨ψ', by
              have := h2.pan (ops := ops.toList) h3 h4 h5
              rwa [panSt_panSt] at this⟩)) t _ _ [] S a _ hsB inv0 h hR1 rfl
          | false =>
            rw [hpr] at h
            exact sched_sound (r := r) (Q := Q') hT hB hd0 hsel hnd hQn (fun S' a' w' h1 h2 => hK .normal S' a' w' h1 h2.X) t _ _ [] S a _ hsB inv0 h hR1 rfl
        rw [← hops] at key
        exact key.any
       | n n =>
        rw [hd] at h hc
        simp only at h hc
        obtain ⟨ψ, hR⟩ := hR
        have hR1 := hR.drew (Nat.le_succ w.drawn)
        have hall := List.all_eq_true.1 hc.1
        have hops : ops = ops.toList.toArray := by simp
        rcases Bool.or_eq_true_iff.1 hc.2 with hlt | hfl
        · have h1 := vcQs_sound (N := N) (D := D) (m0 := m0) (w0 := w0) (ψ := ψ) hT hB ops.toList (ops.toList.take n) S a { w with drawn := w.drawn + 1 } _ (List.all_eq_true.2 fun x hx => hall x (List.mem_of_mem_take hx)) h hR1
          have key := wpIn_draw (P := P) (r := r) (Q := Q) (id := id) (a := a) (w := w) (l := ops.toList) (C := WRel ψ D m0 w0 S.m S.ls) n hm (by rw [← hops]; exact hlt) hR1.wr
          rw [← hops] at key
          refine key ?_
          have mono : ∀ (l : List Oper) (a : Act) (A B : Act → Prop), (∀ a, A a → B a) → wpQuiet P ops (WRel ψ D m0 w0 S.m S.ls) A l a → wpQuiet P ops (WRel ψ D m0 w0 S.m S.ls) B l a := by
            intro l
            induction l with
            | nil => intro a A B hAB h; exact hAB _ h
            | cons o l ih =>
              intro a A B hAB h
              simp only [wpQuiet] at h ⊢
              split
              · rename_i hw; rw [if_pos hw] at h; exact Oper.quiet_mono (fun a' => ih a' A B hAB) h
              · rename_i hw; rw [if_neg hw] at h; exact ih _ A B hAB h
          rw [← hops] at h1
          refine mono _ _ _ _ (fun a' hh => ?_) h1
          obtain ⟨S', hk, hm1, hl1, hR2⟩ := hh
          intro w' hw'
          have hR3 : Rel ψ N D m0 w0 S' a' w' := hR2.move (by rw [hm1, hl1]; exact hw')
          have h2 := vcOps_sound (r := r) (Q := Q) hT hB ops.toList (ops.toList.drop n) S' a' w' _ (List.all_eq_true.2 fun x hx => hall x (List.mem_of_mem_drop hx)) hk ⟨ψ, hR3⟩ (fun S' a' w' h1 h2 => hK _ _ _ _ h1 h2.X)
          rw [← hops] at h2
          exact h2
        · exact float_sound (r := r) (Q := Q) (id := id) hT hB hm hfl hc.1 h hR (fun S' a' w' h1 h2 => hK _ _ _ _ h1 h2.X)
  | seq x y ihx ihy =>
    intro r D m0 w0 K S hr hc h Q a w hR hK
    simp only [codeOk, Bool.and_eq_true] at hc
    have hrx : r = none ∨ noRange x = true := hr.imp_right fun h => by simp only [noRange, Bool.and_eq_true] at h; exact h.1
    have hry : r = none ∨ noRange y = true := hr.imp_right fun h => by simp only [noRange, Bool.and_eq_true] at h; exact h.2
    simp only [vc_seq] at h
    cases hj : joinAt DR x with
    | true =>
      rw [hj] at h
      simp only [cond_true, JoinP] at h
      obtain ⟨J, h1, h2⟩ := h
      refine wpIn_seq (ihx r D m0 w0 _ S hrx hc.1 h1 _ a w hR fun e S' a' w' hk hR' => ?_)
      cases e with
      | normal =>
        obtain ⟨S1, hle, hJ⟩ := hk
        obtain ⟨D', he, ψ', hR'⟩ := hR'
        exact ihy r D' m0 w0 K S1 hry hc.2 (h2 S1 hJ) Q a' w' ⟨ψ', hR'.le hle⟩ fun e S' a' w' hk hX => hK e S' a' w' hk (hX.trans he)
      | _ => exact hK _ _ _ _ hk hR'
    | false =>
      rw [hj] at h
      simp only [cond_false] at h
      refine wpIn_seq (ihx r D m0 w0 _ S hrx hc.1 h _ a w hR fun e S' a' w' hk hR' => ?_)
      cases e with
      | normal =>
        obtain ⟨D', he, hR'⟩ := hR'
        exact ihy r D' m0 w0 K S' hry hc.2 hk Q a' w' hR' fun e S' a' w' hk hX => hK e S' a' w' hk (hX.trans he)
      | _ => exact hK _ _ _ _ hk hR'
  | cond o x y ihx ihy =>
    intro r D m0 w0 K S hr hc h Q a w hR hK
    simp only [codeOk, Bool.and_eq_true] at hc
    have hrx : r = none ∨ noRange x = true := hr.imp_right fun h => by simp only [noRange, Bool.and_eq_true] at h; exact h.1
    have hry : r = none ∨ noRange y = true := hr.imp_right fun h => by simp only [noRange, Bool.and_eq_true] at h; exact h.2
    simp only [vc_cond] at h
    obtain ⟨ψ, hR⟩ := hR
    obtain ⟨v, hv, h1⟩ := hR.ev h
    split at h1
    · rename_i b
      simp only [AV.is] at hv
      cases b with
      | true => exact wpIn_cond_true hv (ihx r D m0 w0 K S hrx hc.1 h1 Q a w ⟨ψ, hR⟩ hK)
      | false => exact wpIn_cond_false hv (ihy r D m0 w0 K S hry hc.2 h1 Q a w ⟨ψ, hR⟩ hK)
    · exact h1.elim
  | block id c ih =>
    intro r D m0 w0 K S hr hc h Q a w hR hK
    simp only [codeOk] at hc
    have hrc : r = none ∨ noRange c = true := hr
    simp only [vc_block] at h
    refine wpIn_block (ih r D m0 w0 _ S hrc hc h _ a w hR fun e S' a' w' hk hR' => ?_)
    cases e with
    | exit j =>
      simp only at hk
      simp only [Exit.inBlock]
      cases hb : Nat.beq j id with
      | true => rw [hb] at hk; rw [if_pos (Nat.eq_of_beq_eq_true hb)]; exact hK _ _ _ _ hk hR'
      | false => rw [hb] at hk; rw [if_neg (Nat.ne_of_beq_eq_false hb)]; exact hK _ _ _ _ hk hR'
    | _ => exact hK _ _ _ _ hk hR'
  | loop c ih =>
    intro r D m0 w0 K S hr hc h Q a w hR hK
    simp only [codeOk] at hc
    have hrc : r = none ∨ noRange c = true := hr
    simp only [vc_loop, LoopP] at h
    obtain ⟨σ, st, J, μ, ⟨s1, hle, hI⟩, hround⟩ := h
    let p : Act → World → Nat → Prop := fun a w n => ∃ s, J s ∧ RelX N D m0 w0 (st s) a w ∧ μ s = n
    have hp : p a w (μ s1) := ⟨s1, hI, hR.X.le hle, rfl⟩
    let least : Act → World → Nat := fun a w => open Classical in if h : ∃ n, p a w n then Classical.choose (exists_least h) else 0
    have hleast : ∀ a w, (∃ n, p a w n) → p a w (least a w) ∧ ∀ m, p a w m → least a w ≤ m := by
      intro a w h
      simp only [least, dif_pos h]
      exact Classical.choose_spec (exists_least h)
    refine wpIn_loop (fun a w => ∃ n, p a w n) least ⟨_, hp⟩ fun a w hI => ?_
    obtain ⟨⟨S2, hI2, ⟨D2, he2, hR2⟩, hμ⟩, hmin⟩ := hleast a w hI
    refine ih r D2 m0 w0 _ (st S2) hrc hc (hround S2 hI2) _ a w hR2 fun e S3 a' w' hk hR' => ?_
    have hR' := hR'.trans he2
    cases e with
    | normal =>
      obtain ⟨S4, hle4, hI4, hlt⟩ := hk
      have hp' : p a' w' (μ S4) := ⟨S4, hI4, hR'.le hle4, rfl⟩
      refine ⟨⟨_, hp'⟩, ?_⟩
      have := (hleast a' w' ⟨_, hp'⟩).2 _ hp'
      omega
    | _ => exact hK _ _ _ _ hk hR'
  | rangeFunc f ps as bd ihx ihy =>
    intro r D m0 w0 K S hr hc h Q a w hR hK
    simp only [codeOk, Bool.and_eq_true, List.all_eq_true] at hc
    obtain ⟨⟨hx, hy⟩, ⟨hnx, hny⟩, hps⟩ := hc
    rcases hr with rfl | hr
    · simp only [vc_rangeFunc] at h
      obtain ⟨ψ, hR⟩ := hR
      obtain ⟨v, hv, h1⟩ := hR.ev h
      split at h1
      · rename_i g first cap
        simp only [AV.is] at hv
        obtain ⟨h2, h3⟩ := req_spec h1
        exact range_sound hB hR hv h2 (fun p hp => blt_spec (hps p hp)) (fun l D m0 w0 K S hX => ihx (some l) D m0 w0 K S (.inr hnx) hx hX) (fun l D m0 w0 K S hY => ihy (some l) D m0 w0 K S (.inr hny) hy hY) h3 hK
      · exact h1.elim
    · simp [noRange] at hr
  | exit id => intro r D m0 w0 K S _ _ h Q a w hR hK; exact wpIn_exit (hK _ _ _ _ h hR.X)
  | scope c _ => intro r D m0 w0 K S _ _ h; exact h.elim
  | label l => intro r D m0 w0 K S _ _ h; exact h.elim
  | goto l => intro r D m0 w0 K S _ _ h; exact h.elim
  | ret => intro r D m0 w0 K S _ _ h Q a w hR hK; exact wpIn_ret (hK _ _ _ _ h hR.X)
  | refuse s => intro r D m0 w0 K S _ _ h; exact h.elim
end
end Go.Mv
/- Mv: a function's own statement out of its code. -/
namespace Go.Mv
open Go

def AV.toV : AV → Value
  | .v x => x
  | .ints k xs => .agg (intCells k xs).toArray
  | .bools xs => .agg (boolCells xs).toArray
  | .loc _ _ => .tuple #[]
def AV.plain : AV → Bool
  | .loc _ _ => false
  | _ => true
def argEnv : Nat → List AV → Env
  | _, [] => []
  | i, x :: r => (i, x) :: argEnv (i + 1) r
def single : List Value → Value
  | [v] => v
  | vs => .tuple vs.toArray
def resK (T : Tbl) (S : St) : List ResultVar → (List Value → Prop) → Prop
  | [], k => k []
  | .tmp t :: r, k => lkK S.env t fun x => valK x fun v => resK T S r fun vs => k (v :: vs)
  | .cell t ty :: r, k => lkK S.env t fun x => match x with
    | .loc i off => match S.ls[i]? with
      | some c => ldLoc T c off ty fun y => valK y fun v => resK T S r fun vs => k (v :: vs)
      | none => False
    | .v (.pointer (some p)) => ldT T S.m p ty fun y => valK y fun v => resK T S r fun vs => k (v :: vs)
    | _ => False
def retK (T : Tbl) (rs : List ResultVar) (K : Value → Mem → Prop) (e : Exit) (S : St) : Prop :=
  match e with
  | .normal | .ret => resK T S rs fun vs => K (single vs) S.m
  | _ => False
section
variable {P : Program} {r : Option Nat} {T : Tbl} {B pr : List Nat} {ψ : Nat → Nat} {N : Nat} {D : HD} {m0 : Mem} {w0 : World} {S S' : St} {a : Act} {w w' : World} {v : Value}

theorem argEnv_lk : ∀ (args : List AV) (i j : Nat) (x : AV), lk (argEnv i args) j = some x → ∃ d, j = i + d ∧ args[d]? = some x
  | [], _, _, _, h => by simp [argEnv, lk] at h
  | y :: r, i, j, x, h => by
    simp only [argEnv, lk] at h
    by_cases hij : i = j
    · rw [if_pos hij] at h
      cases h
      exact ⟨0, by omega, rfl⟩
    · rw [if_neg hij] at h
      obtain ⟨d, h1, h2⟩ := argEnv_lk r (i + 1) j x h
      exact ⟨d + 1, by omega, by simpa using h2⟩
def resOne (tmps : Array Value) : ResultVar → Sem Value
  | .tmp t => pure (tmps.getD t undef)
  | .cell b t => do loadVar t (← asAddr (tmps.getD b undef))
theorem run_resTmp (tmps : Array Value) (t : Nat) (w : World) : (resOne tmps (.tmp t)).run P w = .ok (tmps.getD t undef) w := rfl
theorem run_resCell {tmps : Array Value} {t ty : Nat} {p : Addr} {w : World} {v : Value} (h : tmps.getD t undef = .pointer (some p)) (hv : (loadVar ty p).run P w = .ok v w) : (resOne tmps (.cell t ty)).run P w = .ok v w := by
  simp only [resOne, h, asAddr, pure_bind, hv]
theorem resK_sound (hT : T.ok P = true) (hR : Rel ψ N D m0 w0 S a w) : ∀ (rs : List ResultVar) (k : List Value → Prop), resK T S rs k →
    ∃ vs : List Value, (rs.mapM (resOne a.tmps)).run P w = .ok vs w ∧ k vs
  | [], k, h => ⟨[], rfl, h⟩
  | .tmp t :: rs, k, h => by
    simp only [resK] at h
    obtain ⟨x, hx, h1⟩ := lkK_spec h
    have h2 := valK_spec h1 (hR.env _ _ hx)
    obtain ⟨vs, h3, h4⟩ := resK_sound hT hR rs _ h2
    exact ⟨_ :: vs, by simp only [List.mapM_cons, Sem.run_bind, run_resTmp, Sem.run_pure, Result.andThen_ok, h3], h4⟩
  | .cell t ty :: rs, k, h => by
    simp only [resK] at h
    obtain ⟨x, hx, h1⟩ := lkK_spec h
    have hx' := hR.env _ _ hx
    split at h1
    · rename_i i off
      split at h1
      · rename_i c hc
        obtain ⟨v, y, hv, hy, h2⟩ := ldLoc_sound (N := N) (D := D) (m0 := m0) (w0 := w0) (a := a) (ψ := ψ) hT hc h1
        have h3 := valK_spec h2 hy
        obtain ⟨vs, h4, h5⟩ := resK_sound hT hR rs _ h3
        exact ⟨v :: vs, by simp only [List.mapM_cons, Sem.run_bind, run_resCell hx'.2 (hv w hR), Sem.run_pure, Result.andThen_ok, h4], h5⟩
      · exact h1.elim
    · obtain ⟨v, y, hv, hy, h2⟩ := ldT_sound hT h1 ψ S.ls.length
      have h3 := valK_spec h2 hy
      obtain ⟨vs, h4, h5⟩ := resK_sound hT hR rs _ h3
      simp only [AV.is] at hx'
      exact ⟨v :: vs, by simp only [List.mapM_cons, Sem.run_bind, run_resCell hx' (hv w hR.sub), Sem.run_pure, Result.andThen_ok, h4], h5⟩
    · exact h1.elim
theorem results_sound (hT : T.ok P = true) (hR : Rel ψ N D m0 w0 S a w) {fn : Func} {K : Value → Mem → Prop} (h : resK T S fn.results.toList fun vs => K (single vs) S.m) : ∃ v, (results fn a.tmps).run P w = .ok v w ∧ K v S.m := by
  obtain ⟨vs, h1, h2⟩ := resK_sound hT hR _ _ h
  refine ⟨single vs, ?_, h2⟩
  have hfun : (fun (x : ResultVar) => match x with
    | .tmp t => (pure (a.tmps.getD t undef) : Sem Value)
    | .cell b t => do loadVar t (← asAddr (a.tmps.getD b undef))) = resOne a.tmps := by
    funext x
    cases x <;> rfl
  show Sem.run P (do
    let vs ← fn.results.mapM (fun (x : ResultVar) => match x with
      | .tmp t => (pure (a.tmps.getD t undef) : Sem Value)
      | .cell b t => do loadVar t (← asAddr (a.tmps.getD b undef)))
    pure (if h : vs.size = 1 then vs[0] else .tuple vs)) w = _
  rw [hfun, Array.mapM_eq_mapM_toList]
  simp only [Sem.run_bind, Sem.run_map]
  rw [h1]
  simp only [Result.andThen_ok, Sem.run_pure]
  congr 1
  cases vs with
  | nil => rfl
  | cons v r => cases r <;> rfl
theorem argEnv_start (args : List AV) (N : Nat) (hlen : args.length ≤ N) (hpl : (args.all AV.plain) = true) (m : Mem) (w : World) (hw : m.sub w) :
    Rel (fun i => i) N ⟨[], []⟩ m w ⟨argEnv 0 args, [], m⟩ { tmps := (args.map AV.toV).toArray ++ Array.replicate (N - (args.map AV.toV).toArray.size) undef, defers := [] } w := by
  refine ⟨by simp; omega, rfl, fun i x hx => ?_, fun i c hc => by simp at hc, fun i j hi => by simp at hi, Frame.refl hw, fun b o hb => by cases hb⟩
  obtain ⟨d, h1, h2⟩ := argEnv_lk args 0 i x hx
  have hd : d < args.length := (List.getElem?_eq_some_iff.1 h2).1
  have hi : i = d := by omega
  subst hi
  have hv : ((args.map AV.toV).toArray ++ Array.replicate (N - (args.map AV.toV).toArray.size) undef).getD i undef = x.toV := by
    rw [Array.getD_eq_getD_getElem?, Array.getElem?_append_left (by simpa using hd)]
    simp [h2]
  rw [hv]
  have hp := List.all_eq_true.1 hpl x (List.mem_of_getElem? h2)
  cases x <;> first | rfl | (simp [AV.plain] at hp)
/-- The marks are come to, one behind the other; then the results are read. -/
theorem leavesM (hT : T.ok P = true) {fn : Func} {K : Value → Mem → Prop} {S : St} (hK : resK T S fn.results.toList fun vs => K (single vs) S.m) : ∀ (bs : List Nat) (a : Act) (w : World), bs.Nodup → (∀ b, b ∈ bs → w0.heap.size ≤ b) →
    Rel ψ N ⟨bs.map mark, bs.map fun b => (b, Obj.deferred (some []))⟩ m0 w0 S a w → LeavesInM (Fr none) 0 P fn a.tmps (fun e w' => ∃ v m', e = .returned v ∧ K v m' ∧ Frame m0 w0 m' w') (bs.map mark) .returning w
  | [], a, w, _, _, hR => by
    obtain ⟨v, hv, hk⟩ := results_sound hT hR (fn := fn) (K := K) hK
    exact ⟨v, hv, v, _, rfl, hk, hR.frame⟩
  | b :: bs, a, w, hn, hb, hR => by
    obtain ⟨hn1, hn2⟩ := List.nodup_cons.1 hn
    obtain ⟨h1, h2, h3⟩ := hR.marks b (.deferred (some [])) List.mem_cons_self
    refine ⟨by simp, .inl ⟨b, _, rfl, run_takeDeferred h1, ?_⟩⟩
    have hoth : ∀ {k : Nat}, k ≠ b → (w.putObj b (.deferred none)).heap[k]? = w.heap[k]? := fun hk => World.putObj_heap_other hk
    refine leavesM hT hK bs { a with defers := bs.map mark } _ hn2 (fun c hc => hb c (List.mem_cons_of_mem _ hc)) ⟨hR.size, rfl, hR.env, fun i c hc => ?_, hR.inj, ?_, fun c o hc => ?_⟩
    · obtain ⟨e, g1, g2, g3⟩ := hR.box i c hc
      exact ⟨e, by rw [hoth (h3 i (List.getElem?_eq_some_iff.1 hc).1)]; exact g1, g2, g3⟩
    · refine ⟨hR.frame.os, hR.frame.tape, hR.frame.output, by rw [World.putObj_size]; exact hR.frame.size, fun c o hc => ?_, fun c hc hn => ?_, hR.frame.dom⟩
      · rw [hoth (by rintro rfl; rw [h2] at hc; cases hc)]
        exact hR.frame.sub c o hc
      · rw [hoth (by have := hb b List.mem_cons_self; omega)]
        exact hR.frame.keep c hc hn
    · obtain ⟨g1, g2, g3⟩ := hR.marks c o (List.mem_cons_of_mem _ hc)
      refine ⟨?_, g2, g3⟩
      rw [hoth]
      · exact g1
      · rintro rfl
        obtain ⟨d, hd, hde⟩ := List.mem_map.1 hc
        cases hde
        exact hn1 hd
/-- A function. -/
theorem fcalls_of_vc (hT : T.ok P = true) (hB : bodiesOk P B = true) (hm : P.follows .mixedOrders = true) {g : Nat} {fn : Func} {c : Code} {DR : List (Nat × DE)} (hf : P.funcs[g]? = some fn) (hb : fn.body = some c)
    (hok : codeOk T fn.ntmps DR c = true) {args : List AV} (hlen : args.length ≤ fn.ntmps) (hpl : (args.all AV.plain) = true) {m : Mem} {K : Value → Mem → Prop} (h : vc P T B pr DR c (retK T fn.results.toList K) ⟨argEnv 0 args, [], m⟩) :
    FCalls P g (args.map AV.toV) m K := by
  intro w hw
  have hrun := vc_sound (N := fn.ntmps) hT hB hm c none ⟨[], []⟩ m w _ _ (.inl rfl) hok h
  have fin : ∀ (S' : St) (a' : Act) (w' : World), (resK T S' fn.results.toList fun vs => K (single vs) S'.m) → RelX fn.ntmps ⟨[], []⟩ m w S' a' w' →
      LeavesInM (Fr none) 0 P fn a'.tmps (fun e w'' => ∃ v m', e = .returned v ∧ K v m' ∧ Frame m w m' w'') a'.defers .returning w' := by
    intro S' a' w' hk ⟨D', ⟨bs, h1, h2, h3, h4⟩, ψ, hR⟩
    have hd := hR.defers
    obtain ⟨d1, d2⟩ := D'
    simp only [List.append_nil] at h1 h2
    subst h1 h2
    rw [hd]
    exact leavesM hT hk bs a' w' h3 (fun b hb => (h4 b hb).1) hR
  have h1 := hrun (bodyPostM (Fr none) 0 P fn fun e w' => ∃ v m', e = .returned v ∧ K v m' ∧ Frame m w m' w') _ w ⟨_, argEnv_start args fn.ntmps hlen hpl m w hw⟩ (fun e S' a' w' hk hR' => by
    cases e with
    | normal => exact fin S' a' w' hk hR'
    | ret => exact fin S' a' w' hk hR'
    | _ => exact hk.elim)
  exact callsIn_wide.1 (callsIn_of_wp_marks (F := Fr none) (n := 0) hf hb trivial h1 : CallsIn Fence.wide 0 P g _ w _)
/-- Memory may be forgotten at the end. -/
theorem FCalls.less {g : Nat} {args : List Value} {m : Mem} {K : Value → Mem → Prop} (h : FCalls P g args m fun v m' => ∃ m'', (∀ b o, m'' b = some o → m' b = some o) ∧ K v m'') : FCalls P g args m K :=
  fun w hw => (h w hw).mono fun _ _ ⟨v, _, he, ⟨m'', hs, hK⟩, hF⟩ => ⟨v, m'', he, hK, hF.less hs⟩
end
end Go.Mv
/- Mv: for the one who proves: loops, memory by blocks, small laws of numbers. -/
namespace Go.Mv
open Go

theorem brk_true {b : Bool} {A B : Prop} (h : b = true) (k : A) : brk b A B := by subst h; exact k
theorem brk_false {b : Bool} {A B : Prop} (h : b = false) (k : B) : brk b A B := by subst h; exact k
/-! ### loops -/
def lkB : Env → Nat → Option AV
  | [], _ => none
  | (i, x) :: e, t => bif Nat.beq i t then some x else lkB e t
theorem lkB_eq : ∀ (E : Env) (t : Nat), lkB E t = lk E t
  | [], _ => rfl
  | (i, x) :: e, t => by
    simp only [lkB, lk, lkB_eq e t]
    by_cases h : i = t
    · simp [h]
    · have : Nat.beq i t = false := by
        cases hb : Nat.beq i t with
        | true => exact absurd (Nat.eq_of_beq_eq_true hb) h
        | false => rfl
      simp [h, this]
def leAll (E : Env) : Env → Prop
  | [] => True
  | (i, x) :: r => lkB E i = some x ∧ leAll E r
def locsB (n : Nat) : Env → Bool
  | [] => true
  | (_, x) :: r => match x with
    | .loc j _ => Nat.blt j n && locsB n r
    | _ => locsB n r
theorem locsB_spec {n : Nat} : ∀ {F : Env}, locsB n F = true → ∀ i x, lk F i = some x → match x with | .loc j _ => j < n | _ => True
  | [], _, _, _, h => by simp [lk] at h
  | (j, y) :: r, hl, i, x, h => by
    simp only [lk] at h
    by_cases hji : j = i
    · rw [if_pos hji] at h
      cases h
      cases y <;> first | trivial | (simp only [locsB, Bool.and_eq_true] at hl; exact blt_spec hl.1)
    · rw [if_neg hji] at h
      refine locsB_spec ?_ i x h
      cases y <;> first | exact hl | (simp only [locsB, Bool.and_eq_true] at hl; exact hl.2)
theorem leAll_spec {E : Env} : ∀ {F : Env}, leAll E F → ∀ i x, lk F i = some x → lk E i = some x
  | [], _, _, _, h => by simp [lk] at h
  | (j, y) :: r, hl, i, x, h => by
    simp only [lk] at h
    by_cases hji : j = i
    · rw [if_pos hji] at h
      cases h
      subst hji
      rw [← lkB_eq]
      exact hl.1
    · rw [if_neg hji] at h
      exact leAll_spec hl.2 i x h
theorem le_of {E F : Env} {ls : List LC} {m : Mem} (h : leAll E F) (hl : locsB ls.length F = true) : St.le ⟨E, ls, m⟩ ⟨F, ls, m⟩ :=
  ⟨fun i x hx => leAll_spec h i x hx, ⟨[], by simp⟩, fun _ _ h => h, fun i x hx => locsB_spec hl i x hx⟩
theorem le_eq {E F : Env} {ls ls' : List LC} {m m' : Mem} (h : leAll E F) (hl : locsB ls'.length F = true) (hls : ls = ls') (hm : m = m') : St.le ⟨E, ls, m⟩ ⟨F, ls', m'⟩ := by
  subst hls hm
  exact le_of h hl
theorem le_more {E F : Env} {ls ls' l : List LC} {m m' : Mem} (h : leAll E F) (hl : locsB ls'.length F = true) (hls : ls = ls' ++ l) (hm : m = m') : St.le ⟨E, ls, m⟩ ⟨F, ls', m'⟩ := by
  subst hls hm
  exact ⟨fun i x hx => leAll_spec h i x hx, ⟨l, rfl⟩, fun _ _ h => h, fun i x hx => locsB_spec hl i x hx⟩
theorem le_of_more {E F : Env} {ls l : List LC} {m m' : Mem} (h : leAll E F) (hl : locsB ls.length F = true) (hm : ∀ b o, m' b = some o → m b = some o) : St.le ⟨E, ls ++ l, m⟩ ⟨F, ls, m'⟩ :=
  ⟨fun i x hx => leAll_spec h i x hx, ⟨l, rfl⟩, hm, fun i x hx => locsB_spec hl i x hx⟩
theorem lkK_lkB {k : AV → Prop} : ∀ {E : Env} {i : Nat}, lkK E i k → ∃ x, lkB E i = some x ∧ k x
  | [], _, h => h.elim
  | (j, y) :: r, i, h => by
    simp only [lkK] at h
    simp only [lkB]
    cases hb : Nat.beq j i with
    | true => rw [hb] at h; exact ⟨y, rfl, h⟩
    | false => rw [hb] at h; exact lkK_lkB (E := r) h
/-- The slots that a loop keeps. -/
def keepK (E : Env) : List Nat → Env → (Env → Prop) → Prop
  | [], F, k => k F
  | i :: r, F, k => lkK E i fun x => keepK E r ((i, x) :: F) k
theorem keepK_spec {E : Env} : ∀ {l : List Nat} {F : Env} {k : Env → Prop}, leAll E F → keepK E l F k → ∃ F', leAll E F' ∧ k F'
  | [], F, _, hF, h => ⟨F, hF, h⟩
  | i :: r, F, k, hF, h => by
    obtain ⟨x, hx, h1⟩ := lkK_lkB h
    exact keepK_spec (l := r) (F := (i, x) :: F) ⟨hx, hF⟩ h1
/-- A loop: ov: the slots that it changes, by the state; keep: those that it only reads. -/
theorem loop_keep {f : (Exit → St → Prop) → St → Prop} {K : Exit → St → Prop} {E : Env} {ls : List LC} {m : Mem} (keep : List Nat) (σ : Type) (ov : σ → Env) (lsf : σ → List LC) (mm : σ → Mem) (J : σ → Prop) (μ : σ → Nat) (s0 : σ)
    (h0 : leAll E (ov s0)) (hls : ls = lsf s0) (hm : m = mm s0) (hJ : J s0)
    (step : keepK E keep [] fun F => locsB ls.length (ov s0 ++ F) = true ∧ ∀ s, J s → f (fun e S'' => match e with | .normal => ∃ s1, S''.le ⟨ov s1 ++ F, lsf s1, mm s1⟩ ∧ J s1 ∧ μ s1 < μ s | e => K e S'') ⟨ov s ++ F, lsf s, mm s⟩) : LoopP f K ⟨E, ls, m⟩ := by
  obtain ⟨F, hF, hl, step⟩ := keepK_spec (F := []) trivial step
  unfold LoopP
  refine ⟨σ, fun s => ⟨ov s ++ F, lsf s, mm s⟩, J, μ, ⟨s0, ?_, hJ⟩, step⟩
  subst hls hm
  refine le_of ?_ hl
  generalize ov s0 = G at h0
  clear hl step
  induction G with
  | nil => exact hF
  | cons a r ih =>
    obtain ⟨i, x⟩ := a
    exact ⟨h0.1, ih h0.2⟩

/-- Ways that meet: ov: the slots that they change and that are looked at behind; keep: those that stay. -/
theorem join_keep {X Y : (Exit → St → Prop) → St → Prop} {K : Exit → St → Prop} {E : Env} {ls : List LC} {m : Mem} (keep : List Nat) (σ : Type) (ov : σ → Env) (mm : σ → Mem) (J : σ → Prop)
    (h : keepK E keep [] fun F => X (fun e S' => match e with | .normal => ∃ s, S'.le ⟨ov s ++ F, ls, mm s⟩ ∧ J s | e => K e S') ⟨E, ls, m⟩ ∧ ∀ s, J s → Y K ⟨ov s ++ F, ls, mm s⟩) : JoinP X Y K ⟨E, ls, m⟩ := by
  obtain ⟨F, hF, hx, hy⟩ := keepK_spec (F := []) trivial h
  unfold JoinP
  refine ⟨fun S1 => ∃ s, S1 = ⟨ov s ++ F, ls, mm s⟩ ∧ J s, ?_, ?_⟩
  · refine cast (congrArg (fun q => X q _) (funext fun e => funext fun S' => ?_)) hx
    cases e with
    | normal =>
      refine propext ⟨?_, ?_⟩
      · rintro ⟨s, h1, h2⟩
        exact ⟨_, h1, s, rfl, h2⟩
      · rintro ⟨S1, h1, s, rfl, h2⟩
        exact ⟨s, h1, h2⟩
    | _ => rfl
  · rintro S1 ⟨s, rfl, hs⟩
    exact hy s hs

/-! ### addresses, blocks -/
theorem add_mk (b i n : Nat) : (⟨b, i, none⟩ : Addr).add n = ⟨b, i + n, none⟩ := by
  unfold Addr.add
  split
  · subst_vars; rfl
  · rfl
/-- Block b holds l. -/
def Blk (m : Mem) (b : Nat) (l : List Value) : Prop := ∃ e, m b = some (.cells l.toArray e (0, 0))
theorem Blk.cell {m : Mem} {b i : Nat} {l : List Value} {v : Value} (h : Blk m b l) (hi : l[i]? = some v) : m.cell ⟨b, i, none⟩ = some v := by
  obtain ⟨e, h⟩ := h
  simp [Mem.cell, h, hi]
theorem Blk.fz {m : Mem} {b i : Nat} {l : List Value} (h : Blk m b l) : m.fz ⟨b, i, none⟩ = false := by
  obtain ⟨e, h⟩ := h
  simp [Mem.fz, h]
theorem Blk.put {m : Mem} {b i : Nat} {l : List Value} (v : Value) (h : Blk m b l) : Blk (m.setCell ⟨b, i, none⟩ v) b (l.set i v) := by
  obtain ⟨e, h⟩ := h
  exact ⟨e, by simp [Mem.setCell, h]⟩
theorem Mem.setCell_ne {m : Mem} {b c i : Nat} {v : Value} (h : b ≠ c) : (m.setCell ⟨c, i, none⟩ v) b = m b := by
  simp [Mem.setCell, h]
theorem Blk.setCell_ne {m : Mem} {b c i : Nat} {v : Value} {l : List Value} (h : Blk m b l) (hn : b ≠ c) : Blk (m.setCell ⟨c, i, none⟩ v) b l := by
  obtain ⟨e, h⟩ := h
  exact ⟨e, by rw [Mem.setCell_ne hn, h]⟩
theorem Mem.set_ne {m : Mem} {b c : Nat} {o : Obj} (h : b ≠ c) : (m.set c o) b = m b := by simp [Mem.set, h]
theorem Blk.set {m : Mem} {b c : Nat} {o : Obj} {l : List Value} (h : Blk m b l) (hc : m c = none) : Blk (m.set c o) b l := by
  obtain ⟨e, h⟩ := h
  refine ⟨e, ?_⟩
  rw [Mem.set_ne, h]
  rintro rfl
  rw [h] at hc
  cases hc
theorem Blk.new {m : Mem} {b e : Nat} {l : List Value} : Blk (m.set b (.cells l.toArray e (0, 0))) b l := ⟨e, by simp [Mem.set]⟩
theorem Blk.ne {m : Mem} {b c : Nat} {l : List Value} (h : Blk m b l) (hc : m c = none) : b ≠ c := by
  obtain ⟨e, h⟩ := h
  rintro rfl
  rw [h] at hc
  cases hc
theorem Blk.room {m : Mem} {b i n : Nat} {l : List Value} (h : Blk m b l) (hn : i + n ≤ l.length) : m.room ⟨b, i, none⟩ n := by
  intro k hk
  rw [add_mk]
  refine ⟨⟨l[i + k]'(by omega), h.cell ?_⟩, h.fz⟩
  rw [List.getElem?_eq_getElem]
theorem Blk.puts {b i : Nat} : ∀ (vs : List Value) {m : Mem} {l : List Value} {j : Nat}, Blk m b l → Blk (m.setCells ⟨b, i, none⟩ j vs) b (writeAt l (i + j) vs)
  | [], _, _, _, h => h
  | v :: r, m, l, j, h => by
    simp only [Mem.setCells, writeAt, add_mk]
    exact Blk.puts r (Blk.put v h)
theorem Mem.setCells_ne {b c i : Nat} (hn : b ≠ c) : ∀ (vs : List Value) {m : Mem} {j : Nat}, (m.setCells ⟨c, i, none⟩ j vs) b = m b
  | [], _, _ => rfl
  | v :: r, m, j => by
    simp only [Mem.setCells, add_mk]
    rw [Mem.setCells_ne hn r, Mem.setCell_ne hn]
theorem Blk.setCells_ne {m : Mem} {b c i j : Nat} {l vs : List Value} (h : Blk m b l) (hn : b ≠ c) : Blk (m.setCells ⟨c, i, none⟩ j vs) b l := by
  obtain ⟨e, h⟩ := h
  exact ⟨e, by rw [Mem.setCells_ne hn, h]⟩
theorem Blk.holds {m : Mem} {b i : Nat} {l vs : List Value} (h : Blk m b l) (hv : ∀ k v, vs[k]? = some v → l[i + k]? = some v) : m.holds ⟨b, i, none⟩ vs := by
  intro k v hk
  rw [add_mk]
  exact h.cell (hv k v hk)

/-! ### slices that grow -/
/-- A slice of n elements of sz cells each, that begins its block. -/
def Sl (m : Mem) (F : Nat → Prop) (A : Option Addr) (n c sz : Nat) (vs : List Value) : Prop :=
  vs.length = n * sz ∧ n ≤ c ∧ ((A = none ∧ c = 0) ∨ ∃ (b : Nat) (l : List Value) (e : Nat), A = some ⟨b, 0, none⟩ ∧ F b ∧ m b = some (.cells l.toArray e (0, 0)) ∧ l.length = c * sz ∧ ∀ (k : Nat) v, vs[k]? = some v → l[k]? = some v)
theorem Sl.nil {m : Mem} {F : Nat → Prop} {sz : Nat} : Sl m F none 0 0 sz [] := ⟨by simp, Nat.le_refl _, .inl ⟨rfl, rfl⟩⟩
theorem Sl.mono {m : Mem} {F F' : Nat → Prop} {A : Option Addr} {n c sz : Nat} {vs : List Value} (h : Sl m F A n c sz vs) (hf : ∀ b, F b → F' b) : Sl m F' A n c sz vs := by
  obtain ⟨h1, h2, h3⟩ := h
  refine ⟨h1, h2, h3.imp_right fun ⟨b, l, e, k1, k2, k3⟩ => ⟨b, l, e, k1, hf b k2, k3⟩⟩
theorem Sl.keep {m m' : Mem} {F : Nat → Prop} {A : Option Addr} {n c sz : Nat} {vs : List Value} (h : Sl m F A n c sz vs) (hm : ∀ b, F b → m b ≠ none → m' b = m b) : Sl m' F A n c sz vs := by
  obtain ⟨h1, h2, h3⟩ := h
  refine ⟨h1, h2, h3.imp_right fun ⟨b, l, e, k1, k2, k3, k4⟩ => ⟨b, l, e, k1, k2, by rw [hm b k2 (by rw [k3]; simp), k3], k4⟩⟩
theorem Sl.cell {m : Mem} {F : Nat → Prop} {A : Option Addr} {n c sz k : Nat} {vs : List Value} {v : Value} (h : Sl m F A n c sz vs) (hv : vs[k]? = some v) : ∃ b, A = some ⟨b, 0, none⟩ ∧ F b ∧ m.cell ⟨b, k, none⟩ = some v ∧ m.fz ⟨b, k, none⟩ = false := by
  obtain ⟨h1, h2, h3⟩ := h
  rcases h3 with ⟨rfl, rfl⟩ | ⟨b, l, e, rfl, k2, k3, k4, k5⟩
  · have := (List.getElem?_eq_some_iff.1 hv).1
    have h0 : n = 0 := by omega
    subst h0
    rw [Nat.zero_mul] at h1
    omega
  · exact ⟨b, rfl, k2, Blk.cell ⟨e, k3⟩ (k5 k v hv), Blk.fz ⟨e, k3⟩⟩
theorem Sl.olds {m : Mem} {F : Nat → Prop} {A : Option Addr} {n c sz : Nat} {vs : List Value} (h : Sl m F A n c sz vs) : (n * sz = 0 ∧ A = none) ∨ ∃ p, A = some p ∧ m.holds p vs := by
  obtain ⟨h1, h2, h3⟩ := h
  rcases h3 with ⟨rfl, rfl⟩ | ⟨b, l, e, rfl, k2, k3, k4, k5⟩
  · exact .inl ⟨by have : n = 0 := by omega
                   rw [this, Nat.zero_mul], rfl⟩
  · refine .inr ⟨_, rfl, Blk.holds ⟨e, k3⟩ fun k v hv => ?_⟩
    rw [Nat.zero_add]
    exact k5 k v hv
theorem writeAt_len : ∀ (vs : List Value) (l : List Value) (i : Nat), (writeAt l i vs).length = l.length
  | [], l, i => rfl
  | v :: r, l, i => by simp only [writeAt]; rw [writeAt_len r]; simp
theorem writeAt_get : ∀ (vs : List Value) (l : List Value) (i k : Nat), i + vs.length ≤ l.length → (writeAt l i vs)[k]? = if i ≤ k ∧ k < i + vs.length then vs[k - i]? else l[k]?
  | [], l, i, k, _ => by simp only [writeAt, List.length_nil]; rw [if_neg (by omega)]
  | v :: r, l, i, k, h => by
    simp only [writeAt, List.length_cons] at h ⊢
    rw [writeAt_get r (l.set i v) (i + 1) k (by simp; omega)]
    by_cases h1 : i + 1 ≤ k ∧ k < i + 1 + r.length
    · rw [if_pos h1, if_pos (by omega)]
      rw [show k - i = (k - (i + 1)) + 1 by omega]
      rfl
    · rw [if_neg h1]
      by_cases h2 : k = i
      · subst h2
        rw [if_pos (by omega), List.getElem?_set_self (by omega)]
        simp
      · rw [List.getElem?_set_ne (Ne.symm h2), if_neg (by omega)]
/-- There is room: what comes is laid behind. -/
theorem Sl.put {m : Mem} {F : Nat → Prop} {A : Option Addr} {n j c sz : Nat} {vs news : List Value} (h : Sl m F A n c sz vs) (hn : news.length = j * sz) (hle : n + j ≤ c) (hj : 0 < j) :
    ∃ b, A = some ⟨b, 0, none⟩ ∧ F b ∧ m.room ⟨b, n * sz, none⟩ (j * sz) ∧ Sl (m.setCells ⟨b, n * sz, none⟩ 0 news) F A (n + j) c sz (vs ++ news) ∧ ∀ k, k ≠ b → (m.setCells ⟨b, n * sz, none⟩ 0 news) k = m k := by
  obtain ⟨h1, h2, h3⟩ := h
  rcases h3 with ⟨rfl, rfl⟩ | ⟨b, l, e, rfl, k2, k3, k4, k5⟩
  · omega
  · have hc : (n + j) * sz ≤ c * sz := Nat.mul_le_mul_right _ hle
    rw [Nat.add_mul] at hc
    refine ⟨b, rfl, k2, Blk.room ⟨e, k3⟩ (by omega), ⟨by rw [List.length_append, h1, hn, Nat.add_mul], hle, .inr ?_⟩, fun k hk => Mem.setCells_ne hk _⟩
    have hB : Blk m b l := ⟨e, k3⟩
    obtain ⟨e', h4⟩ := Blk.puts (i := n * sz) (j := 0) news hB
    refine ⟨b, _, e', rfl, k2, h4, by rw [writeAt_len, k4], fun k v hv => ?_⟩
    rw [Nat.add_zero, writeAt_get _ _ _ _ (by omega)]
    rcases Nat.lt_or_ge k vs.length with hk | hk
    · rw [List.getElem?_append_left hk] at hv
      rw [if_neg (by omega)]
      exact k5 k v hv
    · rw [List.getElem?_append_right hk] at hv
      have := (List.getElem?_eq_some_iff.1 hv).1
      rw [if_pos (by omega), ← h1]
      exact hv
/-- There is none: a new block. -/
theorem Sl.grow {m : Mem} {F : Nat → Prop} {A : Option Addr} {n j c sz cap b e : Nat} {vs news zs : List Value} (h : Sl m F A n c sz vs) (hn : news.length = j * sz) (hle : n + j ≤ cap) (hb : F b) (hz : zs.length = (cap - (n + j)) * sz) :
    Sl (m.set b (.cells (vs ++ news ++ zs).toArray e (0, 0))) F (some ⟨b, 0, none⟩) (n + j) cap sz (vs ++ news) := by
  obtain ⟨h1, h2, h3⟩ := h
  refine ⟨by rw [List.length_append, h1, hn, Nat.add_mul], hle, .inr ⟨b, vs ++ news ++ zs, e, rfl, hb, by simp [Mem.set], ?_, fun k v hv => ?_⟩⟩
  · rw [List.length_append, List.length_append, h1, hn, hz, ← Nat.add_mul, ← Nat.add_mul]
    congr 1
    omega
  · rw [List.getElem?_append_left (List.getElem?_eq_some_iff.1 hv).1]
    exact hv

/-- One cell of it is written over. -/
theorem Sl.over {m : Mem} {F : Nat → Prop} {A : Option Addr} {n c sz k : Nat} {vs : List Value} (v : Value) (h : Sl m F A n c sz vs) (hk : k < vs.length) :
    ∃ b, A = some ⟨b, 0, none⟩ ∧ F b ∧ (∃ u, m.cell ⟨b, k, none⟩ = some u) ∧ m.fz ⟨b, k, none⟩ = false ∧ Sl (m.setCell ⟨b, k, none⟩ v) F A n c sz (vs.set k v) ∧ ∀ i, i ≠ b → (m.setCell ⟨b, k, none⟩ v) i = m i := by
  obtain ⟨b0, hA, hF, hc, hz⟩ := h.cell (List.getElem?_eq_getElem hk)
  obtain ⟨h1, h2, h3⟩ := h
  rcases h3 with ⟨rfl, rfl⟩ | ⟨b, l, e, rfl, k2, k3, k4, k5⟩
  · cases hA
  · cases hA
    refine ⟨b0, rfl, k2, ⟨_, hc⟩, hz, ⟨by rw [List.length_set, h1], h2, .inr ⟨b0, l.set k v, e, rfl, k2, ?_, by rw [List.length_set, k4], fun i u hu => ?_⟩⟩, fun i hi => Mem.setCell_ne hi⟩
    · simp [Mem.setCell, k3]
    · by_cases hi : k = i
      · subst hi
        rw [List.getElem?_set_self hk] at hu
        have hkl : k < l.length := (List.getElem?_eq_some_iff.1 (k5 k _ (List.getElem?_eq_getElem hk))).1
        rw [List.getElem?_set_self hkl]
        exact hu
      · rw [List.getElem?_set_ne hi] at hu ⊢
        exact k5 i u hu

/-- Some cells of it are written over. -/
theorem Sl.overs {m : Mem} {F : Nat → Prop} {A : Option Addr} {n c sz k : Nat} {vs : List Value} (cs : List Value) (h : Sl m F A n c sz vs) (hk : k + cs.length ≤ vs.length) (h0 : 0 < cs.length) :
    ∃ b, A = some ⟨b, 0, none⟩ ∧ F b ∧ m.room ⟨b, k, none⟩ cs.length ∧ Sl (m.setCells ⟨b, k, none⟩ 0 cs) F A n c sz (writeAt vs k cs) ∧ ∀ i, i ≠ b → (m.setCells ⟨b, k, none⟩ 0 cs) i = m i := by
  obtain ⟨b0, hA, hF, _, _⟩ := h.cell (List.getElem?_eq_getElem (show k < vs.length by omega))
  obtain ⟨h1, h2, h3⟩ := h
  rcases h3 with ⟨rfl, rfl⟩ | ⟨b, l, e, rfl, k2, k3, k4, k5⟩
  · cases hA
  · cases hA
    have hlen : vs.length ≤ l.length := by
      have := Nat.mul_le_mul_right sz h2
      omega
    have hB : Blk m b0 l := ⟨e, k3⟩
    obtain ⟨e', h4⟩ := Blk.puts (i := k) (j := 0) cs hB
    refine ⟨b0, rfl, k2, Blk.room hB (by omega), ⟨by rw [writeAt_len, h1], h2, .inr ⟨b0, _, e', rfl, k2, h4, by rw [writeAt_len, k4], fun i u hu => ?_⟩⟩, fun i hi => Mem.setCells_ne hi _⟩
    rw [Nat.add_zero, writeAt_get _ _ _ _ (by omega)]
    rw [writeAt_get _ _ _ _ hk] at hu
    split
    · rename_i hc; rw [if_pos hc] at hu; exact hu
    · rename_i hc; rw [if_neg hc] at hu; exact k5 i u hu

/-! ### blocks of one's own -/
/-- m tells all that m0 tells, and blocks that m0 does not tell, each with its cells. -/
structure Own (m0 m : Mem) (L : List (Nat × List Value)) : Prop where
  blk : ∀ p, p ∈ L → Blk m p.1 p.2
  fresh : ∀ p, p ∈ L → m0 p.1 = none
  nodup : (L.map Prod.fst).Nodup
  old : ∀ k o, m0 k = some o → m k = some o
theorem Own.nil {m : Mem} : Own m m [] :=
  ⟨fun _ h => absurd h List.not_mem_nil, fun _ h => absurd h List.not_mem_nil, List.nodup_nil, fun _ _ h => h⟩
theorem Own.at {m0 m : Mem} {L : List (Nat × List Value)} (h : Own m0 m L) (j : Nat) {b : Nat} {l : List Value} (hj : L[j]? = some (b, l)) : Blk m b l := h.blk _ (List.mem_of_getElem? hj)
theorem Own.cell {m0 m : Mem} {L : List (Nat × List Value)} (h : Own m0 m L) (j : Nat) {b i : Nat} {l : List Value} {v : Value} (hj : L[j]? = some (b, l)) (hi : l[i]? = some v) : m.cell ⟨b, i, none⟩ = some v := (h.at j hj).cell hi
theorem Own.room {m0 m : Mem} {L : List (Nat × List Value)} (h : Own m0 m L) (j : Nat) {b i : Nat} {l : List Value} {v : Value} (hj : L[j]? = some (b, l)) (hi : l[i]? = some v) : (∃ u, m.cell ⟨b, i, none⟩ = some u) ∧ m.fz ⟨b, i, none⟩ = false := ⟨⟨_, h.cell j hj hi⟩, (h.at j hj).fz⟩
theorem Own.ne0 {m0 m : Mem} {L : List (Nat × List Value)} (h : Own m0 m L) {b : Nat} (hb : m b = none) : m0 b = none := by
  cases hm : m0 b with
  | none => rfl
  | some o => rw [h.old b o hm] at hb; cases hb
theorem Own.new {m0 m : Mem} {L : List (Nat × List Value)} {b e : Nat} {l : List Value} (h : Own m0 m L) (hb : m b = none) : Own m0 (m.set b (.cells l.toArray e (0, 0))) ((b, l) :: L) := by
  have hne : ∀ k, m k ≠ none → k ≠ b := by
    rintro k hk rfl
    exact hk hb
  refine ⟨fun p hp => ?_, fun p hp => ?_, ?_, fun k o hk => ?_⟩
  · rcases List.mem_cons.1 hp with rfl | hp
    · exact Blk.new
    · exact (h.blk p hp).set hb
  · rcases List.mem_cons.1 hp with rfl | hp
    · exact h.ne0 hb
    · exact h.fresh p hp
  · rw [List.map_cons, List.nodup_cons]
    refine ⟨fun hm => ?_, h.nodup⟩
    obtain ⟨p, hp, he⟩ := List.mem_map.1 hm
    obtain ⟨e', h1⟩ := h.blk p hp
    rw [he] at h1
    rw [hb] at h1
    cases h1
  · rw [Mem.set_ne (hne k (by rw [h.old k o hk]; simp))]
    exact h.old k o hk
theorem Own.more {m0 m m' : Mem} {L : List (Nat × List Value)} (h : Own m0 m L) (hm : ∀ k o, m k = some o → m' k = some o) : Own m0 m' L :=
  ⟨fun p hp => by
    obtain ⟨e, h1⟩ := h.blk p hp
    exact ⟨e, hm _ _ h1⟩, h.fresh, h.nodup, fun k o hk => hm k o (h.old k o hk)⟩
/-- A block of one's own turns; all else stays. -/
theorem Own.turn {m0 m m' : Mem} {L : List (Nat × List Value)} (h : Own m0 m L) (j : Nat) {b : Nat} {l l' : List Value} (hj : L[j]? = some (b, l)) (hb : Blk m' b l') (hm : ∀ k, k ≠ b → m' k = m k) : Own m0 m' (L.set j (b, l')) := by
  have hjl := (List.getElem?_eq_some_iff.1 hj).1
  have hkeys : (L.set j (b, l')).map Prod.fst = L.map Prod.fst := by
    rw [List.map_set]
    apply List.ext_getElem?
    intro i
    by_cases hi : j = i
    · subst hi
      rw [List.getElem?_set_self (by simpa using hjl), List.getElem?_map, hj]
      rfl
    · rw [List.getElem?_set_ne hi]
  have hmem : ∀ p, p ∈ L.set j (b, l') → p = (b, l') ∨ (p ∈ L ∧ p.1 ≠ b) := by
    intro p hp
    obtain ⟨i, hi⟩ := List.mem_iff_getElem?.1 hp
    by_cases hij : j = i
    · subst hij
      rw [List.getElem?_set_self hjl] at hi
      cases hi
      exact .inl rfl
    · rw [List.getElem?_set_ne hij] at hi
      refine .inr ⟨List.mem_of_getElem? hi, fun he => hij ?_⟩
      have h1 : (L.map Prod.fst)[j]? = some b := by rw [List.getElem?_map, hj]; rfl
      have h2 : (L.map Prod.fst)[i]? = some b := by rw [List.getElem?_map, hi, ← he]; rfl
      obtain ⟨k1, k2⟩ := List.getElem?_eq_some_iff.1 h1
      obtain ⟨k3, k4⟩ := List.getElem?_eq_some_iff.1 h2
      rcases Nat.lt_trichotomy j i with hlt | rfl | hlt
      · exact absurd (k2.trans k4.symm) (List.pairwise_iff_getElem.1 h.nodup j i k1 k3 hlt)
      · rfl
      · exact absurd (k4.trans k2.symm) (List.pairwise_iff_getElem.1 h.nodup i j k3 k1 hlt)
  have hbm := h.fresh _ (List.mem_of_getElem? hj)
  refine ⟨fun p hp => ?_, fun p hp => ?_, by rw [hkeys]; exact h.nodup, fun k o hk => ?_⟩
  · rcases hmem p hp with rfl | ⟨h1, h2⟩
    · exact hb
    · obtain ⟨e, h3⟩ := h.blk p h1
      exact ⟨e, by rw [hm _ h2, h3]⟩
  · rcases hmem p hp with rfl | ⟨h1, h2⟩
    · exact hbm
    · exact h.fresh p h1
  · rw [hm k (by rintro rfl; rw [hbm] at hk; cases hk)]
    exact h.old k o hk
theorem Own.put {m0 m : Mem} {L : List (Nat × List Value)} (h : Own m0 m L) (j : Nat) {b i : Nat} {l : List Value} (v : Value) (hj : L[j]? = some (b, l)) : Own m0 (m.setCell ⟨b, i, none⟩ v) (L.set j (b, l.set i v)) :=
  h.turn j hj (Blk.put v (h.at j hj)) fun _ hk => Mem.setCell_ne hk
theorem Own.puts {m0 m : Mem} {L : List (Nat × List Value)} (h : Own m0 m L) (j : Nat) {b i : Nat} {l : List Value} (vs : List Value) (hj : L[j]? = some (b, l)) : Own m0 (m.setCells ⟨b, i, none⟩ 0 vs) (L.set j (b, writeAt l i vs)) :=
  h.turn j hj (Blk.puts (j := 0) vs (h.at j hj)) fun _ hk => Mem.setCells_ne hk _
theorem Own.sublist {m0 m : Mem} {L L' : List (Nat × List Value)} (h : Own m0 m L) (hs : L'.Sublist L) : Own m0 m L' :=
  ⟨fun p hp => h.blk p (hs.subset hp), fun p hp => h.fresh p (hs.subset hp), h.nodup.sublist (hs.map _), h.old⟩
/-- Fewer. -/
theorem Own.less {m0 m : Mem} {L : List (Nat × List Value)} (h : Own m0 m L) (n : Nat) : Own m0 m (L.drop n) :=
  ⟨fun p hp => h.blk p (List.mem_of_mem_drop hp), fun p hp => h.fresh p (List.mem_of_mem_drop hp), by rw [List.map_drop]; exact h.nodup.sublist (List.drop_sublist _ _), h.old⟩

/-! ### what is loaded -/
theorem ld1 {m : Mem} {a a' : Addr} {kd : IntKind} {x : Int} {k : Value → Prop} (h : m.cell a' = some (.int kd x)) (ha : a = a') (hk : k (.int kd x)) : ∃ x, m.cell a = some (.int kd x) ∧ k (.int kd x) := ⟨x, by rw [ha, h], hk⟩

/-! ### numbers -/
theorem wrap_id {x : Int} (h1 : -9223372036854775808 ≤ x) (h2 : x ≤ 9223372036854775807) : IntKind.i64.wrap x = x := by
  rw [IntKind.wrap_i64]
  omega
theorem and_mask {k : Nat} (hk : k < 63) (a : Int) : bits .and .i64 a (2 ^ k - 1) = a % 2 ^ k := by
  show IntKind.i64.wrap ((BitVec.ofInt 64 a &&& BitVec.ofInt 64 (2 ^ k - 1)).toNat : Int) = _
  have hp : (2 : Int) ^ k = ((2 ^ k : Nat) : Int) := by simp
  have h2k : 2 ^ k < 2 ^ 63 := Nat.pow_lt_pow_right (by omega) hk
  have h0 : 0 < 2 ^ k := Nat.two_pow_pos k
  have h1 : (BitVec.ofInt 64 (2 ^ k - 1)).toNat = 2 ^ k - 1 := by
    rw [hp, BitVec.toNat_ofInt]
    generalize 2 ^ k = y at *
    omega
  rw [BitVec.toNat_and, h1, Nat.and_two_pow_sub_one_eq_mod, BitVec.toNat_ofInt]
  have h4 : (((a % ((2 ^ 64 : Nat) : Int)).toNat % 2 ^ k : Nat) : Int) = a % 2 ^ k := by
    have h3 : ((a % ((2 ^ 64 : Nat) : Int)).toNat : Int) = a % 2 ^ 64 := by omega
    rw [Int.natCast_emod, h3, hp, Int.emod_emod_of_dvd]
    exact ⟨((2 ^ (64 - k) : Nat) : Int), by rw [← Int.natCast_mul, ← Nat.pow_add, show k + (64 - k) = 64 by omega]; rfl⟩
  have h5 : 0 ≤ a % 2 ^ k := Int.emod_nonneg _ (by rw [hp]; omega)
  have h6 : a % 2 ^ k < 2 ^ k := Int.emod_lt_of_pos _ (by rw [hp]; omega)
  rw [h4]
  refine wrap_id (by omega) ?_
  rw [hp] at h6
  generalize 2 ^ k = y at *
  omega
end Go.Mv
/- Mv: from a function's own statement to the given statement: the whole heap as memory. -/
namespace Go.Mv
open Go Go.RowKit
def whole (w : World) : Mem := fun b => w.heap[b]?
theorem whole_sub (w : World) : (whole w).sub w := fun _ _ h => h
theorem whole_cell (w : World) (a : Addr) : (whole w).cell a = w.cell? a := by
  unfold Mem.cell World.cell? whole
  cases w.heap[a.block]? with
  | none => rfl
  | some o => cases o <;> rfl
/-- What was there is as it was. -/
theorem calls_below {P : Program} {f : Nat} {args : List Value} {w : World} {v0 : Value} (h : FCalls P f args (whole w) fun v m' => v = v0 ∧ ∀ b o, whole w b = some o → m' b = some o) :
    Calls P f args.toArray w fun e w' => e = .returned v0 ∧ Below w.heap.size w w' := by
  unfold FCalls at h
  refine (h w (whole_sub w)).mono fun e w' ⟨v, m', he, ⟨hv, hk⟩, hF⟩ => ⟨by rw [he, hv], hF.os, hF.tape.1, hF.output, hF.size, fun k hlt => ?_⟩
  have h1 : whole w k = some w.heap[k] := Array.getElem?_eq_getElem hlt
  rw [hF.sub k _ (hk k _ h1)]
  exact h1.symm
/-- A slice of whole numbers that came in. -/
def IsRow (k : IntKind) (w : World) (a : Option Addr) (len cap : Nat) (zs : List Int) : Prop :=
  (a = none ∧ len = 0 ∧ cap = 0 ∧ zs = []) ∨
  ∃ x, a = some x ∧ len ≤ cap ∧ cap ≤ maxLen ∧ zs.length = cap ∧ (∀ i, i < zs.length → w.cell? (x.add i) = some (.int k (zs.getD i 0))) ∧ ∀ n ∈ zs, (Lit.int k n).wf = true
theorem IsRow.length {k : IntKind} {w : World} {a : Option Addr} {len cap : Nat} {zs : List Int} (h : IsRow k w a len cap zs) : (zs.take len).length = len := by
  rcases h with ⟨rfl, rfl, rfl, rfl⟩ | ⟨x, rfl, hl, hm, hz, _, _⟩
  · rfl
  · simp
    omega
theorem IsRow.wf {k : IntKind} {w : World} {a : Option Addr} {len cap : Nat} {zs : List Int} (h : IsRow k w a len cap zs) : ∀ n ∈ zs.take len, (Lit.int k n).wf = true := by
  rcases h with ⟨rfl, rfl, rfl, rfl⟩ | ⟨x, rfl, hl, hm, hz, _, hwf⟩
  · simp
  · exact fun n hn => hwf n (List.mem_of_mem_take hn)
theorem IsRow.cells {k : IntKind} {w : World} {a : Option Addr} {len cap : Nat} {zs : List Int} (h : IsRow k w a len cap zs) : zs.take len = [] ∨ ∃ b i, a = some ⟨b, i, none⟩ ∧ ∀ j x, (zs.take len)[j]? = some x → (whole w).cell ⟨b, i + j, none⟩ = some (.int k x) := by
  rcases h with ⟨rfl, rfl, rfl, rfl⟩ | ⟨x, rfl, hl, hm, hz, hc, _⟩
  · exact .inl rfl
  · by_cases h0 : len = 0
    · exact .inl (by simp [h0])
    · obtain ⟨b, off, spot⟩ := x
      have hspot : spot = none := by
        have := hc 0 (by omega)
        simpa [Addr.add] using World.cell?_spot this
      subst hspot
      refine .inr ⟨b, off, rfl, fun j x hj => ?_⟩
      rw [List.getElem?_take] at hj
      split at hj
      · have hjl := (List.getElem?_eq_some_iff.1 hj).1
        have := hc j hjl
        rw [add_mk] at this
        rw [whole_cell, this]
        simp [List.getD, hj]
      · cases hj
/-- An array of whole numbers that came in. -/
def IsArr (k : IntKind) (n : Nat) (v : Value) (xs : List Int) : Prop := xs.length = n ∧ v = .agg (intCells k xs).toArray ∧ ∀ x, x ∈ xs → (Lit.int k x).wf = true
theorem open_arr {H : Type} {enc : TypeId × Value → H} {P : Program} {W : World} {base b0 n : Nat} {sp : Nat → Bool} {held : Bool} {r : Reach} {t e : TypeId} {q : IntKind} {v : Value} {d : DataW H} {ps : List MemPlace}
    (ht : P.underlying t = some (.array n e)) (he : P.underlying e = some (.int q)) (hs : P.cellsOf t = n) (hc : P.cellsOf e = 1) (hval : Value.okWide P W r b0 t v) (hd : DataW.Trod enc P W base sp held t v d ps) : ∃ xs, IsArr q n v xs := by
  simp only [Value.okWide, ht] at hval
  obtain ⟨cs, rfl, h2, _⟩ := hval
  obtain ⟨fuel, hf⟩ := hd
  obtain ⟨ys, m, rfl, hx, hlen, hn, hel⟩ := DataW.trod_array ht hf
  have hcs : cs.toList.length = n := by
    rw [← hs, ← hlen]
    rfl
  have one : ∀ i, i < n → ∃ a, cs.toList[i]? = some (.int q a) ∧ (Lit.int q a).wf = true := by
    intro i hi
    have h0 := hel i hi
    rw [List.getElem?_eq_getElem (by omega), hc, Nat.mul_one] at h0
    obtain ⟨a, ea, _, wa⟩ := DataW.trod_int he h0
    refine ⟨a, ?_, wa⟩
    have h3 : ((cs.toList.drop i).take 1)[0]? = some (.int q a) := by
      rw [show ((cs.toList.drop i).take 1) = [.int q a] from ea]
      rfl
    rw [List.getElem?_take, if_pos (by omega), List.getElem?_drop, Nat.add_zero] at h3
    exact h3
  have key : ∀ (l : List Value), (∀ i, i < l.length → ∃ a, l[i]? = some (.int q a) ∧ (Lit.int q a).wf = true) → ∃ xs : List Int, xs.length = l.length ∧ l = intCells q xs ∧ ∀ x, x ∈ xs → (Lit.int q x).wf = true := by
    intro l
    induction l with
    | nil => exact fun _ => ⟨[], rfl, rfl, fun x h => by cases h⟩
    | cons c l ih =>
      intro h
      obtain ⟨a, h1, h2⟩ := h 0 (by simp)
      obtain ⟨xs, h3, h4, h5⟩ := ih fun i hi => h (i + 1) (by simp; omega)
      simp at h1
      subst h1
      refine ⟨a :: xs, by simp [h3], by simp [intCells, h4], fun x hx => ?_⟩
      rcases List.mem_cons.1 hx with rfl | hx
      · exact h2
      · exact h5 x hx
  obtain ⟨xs, h1, h3, h4⟩ := key cs.toList fun i hi => one i (by omega)
  exact ⟨xs, by omega, by rw [← h3], h4⟩
/-- A slice of pairs of whole numbers that came in. -/
def IsPairs (w : World) (a : Option Addr) (n : Nat) (zs : List (Int × Int)) : Prop :=
  zs.length = n ∧ (zs = [] ∨ ∃ b o, a = some ⟨b, o, none⟩ ∧ ∀ (k : Nat) r, zs[k]? = some r → (whole w).cell ⟨b, o + k * 2, none⟩ = some (.int .i64 r.1) ∧ (whole w).cell ⟨b, o + k * 2 + 1, none⟩ = some (.int .i64 r.2))
theorem open_pairs {H : Type} {enc : TypeId × Value → H} {P : Program} {w : World} {base : Nat} {sp : Nat → Bool} {held : Bool} {t e ti : TypeId} {fs : Array Field} {f0 f1 : Field} {a : Option Addr} {n c : Nat} {d : DataW H} {ps : List MemPlace}
    (ht : P.underlying t = some (.slice e)) (he : P.underlying e = some (.struct fs)) (hf0 : fs[0]? = some f0) (hf1 : fs[1]? = some f1) (ho : f0.offset = 0 ∧ f1.offset = 1 ∧ f0.type = ti ∧ f1.type = ti) (hi : P.underlying ti = some (.int .i64)) (hce : P.cellsOf e = 2) (hci : P.cellsOf ti = 1)
    (h : DataW.Trod enc P w base sp held t (.slice a n c) d ps) : (∃ zs, IsPairs w a n zs) ∧ (n = 0 ∨ ∃ elems spare, d = .slice elems spare ∧ elems.length = n) := by
  obtain ⟨fuel, hf⟩ := h
  rcases DataW.trod_slice ht hf with ⟨hcs, _⟩ | ⟨x, len, cap, elems, rest, m, _, hcs, hx, hb, hl, hm, hlen, hel, _, _⟩
  · simp [Value.cells] at hcs
    obtain ⟨rfl, rfl, rfl⟩ := hcs
    exact ⟨⟨[], rfl, .inl rfl⟩, .inl rfl⟩
  · simp [Value.cells] at hcs
    obtain ⟨rfl, rfl, rfl⟩ := hcs
    have one : ∀ i, i < n → ∃ r : Int × Int, w.cell? (x.add (i * 2)) = some (.int .i64 r.1) ∧ w.cell? ((x.add (i * 2)).add 1) = some (.int .i64 r.2) := by
      intro i hin
      have h0 := hel i hin
      rw [List.getElem?_eq_getElem (by omega), hce, Option.bind_eq_some_iff] at h0
      obtain ⟨cs, h1, h2⟩ := h0
      obtain ⟨ys, m', _, _, hcl, hyl, hfl⟩ := DataW.trod_struct he h2
      rw [hce] at hcl
      have hsz : 2 ≤ fs.size := by
        have := (Array.getElem?_eq_some_iff.1 hf1).1
        omega
      have g0 := hfl 0 f0 hf0
      have g1 := hfl 1 f1 hf1
      rw [ho.1, ho.2.2.1, hci, List.getElem?_eq_getElem (by omega)] at g0
      rw [ho.2.1, ho.2.2.2, hci, List.getElem?_eq_getElem (by omega)] at g1
      obtain ⟨a0, ea, _, _⟩ := DataW.trod_int hi g0
      obtain ⟨a1, eb, _, _⟩ := DataW.trod_int hi g1
      obtain ⟨_, h3⟩ := World.cells?_some h1
      match cs, hcl, ea, eb, h3 with
      | [c0, c1], _, ea, eb, h3 =>
        simp at ea eb
        subst ea eb
        refine ⟨(a0, a1), ?_, ?_⟩
        · have := h3.2 0 (by omega)
          simpa [Addr.add] using this
        · have := h3.2 1 (by omega)
          simpa using this
    have key : ∀ k, k ≤ n → ∃ zs : List (Int × Int), zs.length = k ∧ ∀ (i : Nat) r, zs[i]? = some r → w.cell? (x.add (i * 2)) = some (.int .i64 r.1) ∧ w.cell? ((x.add (i * 2)).add 1) = some (.int .i64 r.2) := by
      intro k
      induction k with
      | zero => exact fun _ => ⟨[], rfl, fun i r h => by simp at h⟩
      | succ k ih =>
        intro hk
        obtain ⟨zs, h1, h2⟩ := ih (by omega)
        obtain ⟨r, h3, h4⟩ := one k (by omega)
        refine ⟨zs ++ [r], by simp [h1], fun i q hq => ?_⟩
        rcases Nat.lt_or_ge i k with hik | hik
        · exact h2 i q (by rwa [List.getElem?_append_left (by omega)] at hq)
        · rw [List.getElem?_append_right (by omega)] at hq
          have : i - zs.length = 0 := by
            have := (List.getElem?_eq_some_iff.1 hq).1
            simp at this
            omega
          rw [this] at hq
          simp at hq
          subst hq
          rw [show i = k by omega]
          exact ⟨h3, h4⟩
    obtain ⟨zs, h1, h2⟩ := key n (Nat.le_refl n)
    refine ⟨⟨zs, h1, ?_⟩, .inr ⟨elems.map (·.1), rest.map (·.1), by simp only [Prod.mk.injEq] at hx; exact hx.1, by simp [hlen]⟩⟩
    by_cases h0 : n = 0
    · exact .inl (List.eq_nil_of_length_eq_zero (by omega))
    · obtain ⟨b, off, spot⟩ := x
      have hspot : spot = none := by
        obtain ⟨r, hr⟩ : ∃ r, zs[0]? = some r := ⟨_, List.getElem?_eq_getElem (by omega)⟩
        have := (h2 0 r hr).1
        simp only [Nat.zero_mul] at this
        exact World.cell?_spot (by simpa [Addr.add] using this)
      subst hspot
      refine .inr ⟨b, off, rfl, fun k r hk => ?_⟩
      obtain ⟨g1, g2⟩ := h2 k r hk
      rw [add_mk] at g1 g2
      rw [add_mk] at g2
      rw [whole_cell, whole_cell]
      exact ⟨g1, g2⟩
end Go.Mv
/- Mv: a function that goes over a row of values, and the range over it. -/
namespace Go.Mv
open Go
/-- f goes over xs, from any memory that I holds of. -/
def IterC (P : Program) (f : Nat) (first cap : List Value) (I : Mem → Prop) (xs : List (List Value)) : Prop :=
  ∀ (l : Nat) (J : Nat → Mem → Prop) (Q : Mem → Prop) (m : Mem), J 0 m → (∀ i m', J i m' → I m') →
    (∀ i vs m', xs[i]? = some vs → J i m' → YCalls P l vs m' fun v m'' => (v = .bool true ∧ J (i + 1) m'') ∨ (v = .bool false ∧ Q m'')) →
    FCalls P f (first ++ [.func (.yield l) #[] #[]] ++ cap) m fun _ m' => J xs.length m' ∨ Q m'
theorem set_del {m : Mem} {l : Nat} {o : Obj} (h : m l = none) : (m.set l o).del l = m := by
  funext b
  simp only [Mem.del, Mem.set]
  by_cases hb : b = l
  · subst hb; simp [h]
  · simp [hb]
/-- The range over it: J tells what is so ahead of the i-th value. -/
theorem range_iter {P : Program} {f : Nat} {first cap : List Value} {ps : List Nat} {X Y : (Exit → St → Prop) → St → Prop} {K : Exit → St → Prop} {E : Env} {ls : List LC} {m : Mem} {I : Mem → Prop} {xs : List (List Value)}
    (h : IterC P f first cap I xs) (hI : ∀ m l o, m l = none → I m → I (m.set l o)) (hps : ∀ (i : Nat) (vs : List Value), xs[i]? = some vs → vs.length = ps.length)
    (J : Nat → Mem → Prop) (h0 : J 0 m) (hJ : ∀ i m, J i m → I m)
    (round : ∀ (i : Nat) (vs : List Value) (m1 : Mem), xs[i]? = some vs → J i m1 → X (fun e S1 => match e with | .normal => Y (roundK fun e m2 => match e with | .normal => J (i + 1) m2 | e => K e ⟨E, ls, m2⟩) S1 | _ => False) ⟨parEnv ps vs (plainEnv E), [], m1⟩)
    (fin : ∀ m1, J xs.length m1 → K .normal ⟨E, ls, m1⟩) : RangeP P f first cap ps X Y K ⟨E, ls, m⟩ := by
  unfold RangeP
  intro l rec hl hst hpe hround
  have hrec : ({ rec with state := .ready, pending := none } : Loop) = rec := by cases rec; simp_all
  refine FCalls.mono (h l (fun i M => ∃ m3, m3 l = none ∧ M = m3.set l (.loop rec) ∧ J i m3)
    (fun M => ∃ m3 e c, m3 l = none ∧ jumpOf e = some c ∧ M = m3.set l (.loop { rec with state := .done, pending := some c }) ∧ K e ⟨E, ls, m3⟩) _ ⟨m, hl, rfl, h0⟩ (fun i M ⟨m3, h1, h2, h3⟩ => h2 ▸ hI _ _ _ h1 (hJ _ _ h3)) fun i vs M hx ⟨m3, h1, h2, h3⟩ => ?_) fun v M hM => ?_
  · have hy := hround vs M (fun e m2 => match e with | .normal => J (i + 1) m2 | e => K e ⟨E, ls, m2⟩) (by rw [h2]; simp [Mem.set]) (hps i vs hx) (by rw [h2, set_del h1]; exact round i vs m3 hx h3)
    refine hy.mono fun v M' ⟨m4, k1, k2⟩ => ?_
    rcases k2 with ⟨rfl, k3, k4⟩ | ⟨rfl, e, c, k3, k4, k5⟩
    · exact .inl ⟨rfl, m4, k1, k3, k4⟩
    · refine .inr ⟨rfl, m4, e, c, k1, k3, k4, ?_⟩
      cases e <;> first | exact k5 | simp [jumpOf] at k3
  · rcases hM with ⟨m3, h1, rfl, h3⟩ | ⟨m3, e, c, h1, h2, rfl, h3⟩
    · refine ⟨.ready, none, by simp, by simp [Mem.set, hrec], ?_⟩
      rw [set_del h1]
      exact fin m3 h3
    · refine ⟨.done, some c, by simp, by simp [Mem.set], ?_⟩
      rw [set_del h1]
      cases e <;> simp only [jumpOf, Option.some.injEq, reduceCtorEq] at h2 <;> subst h2 <;> exact h3
end Go.Mv
/- Mv: frames for a call of yield; contracts of the kit's shelf turned into FCalls. -/
namespace Go.Mv
open Go Go.Sort
theorem Frame.join {m m1 f : Mem} {w w' : World} (hF : Frame m w m1 w') (hd : m.apart f) (hwf : f.sub w) : m1.apart f ∧ Frame (m.join f) w (m1.join f) w' := by
  have hap : m1.apart f := by
    intro b
    apply Classical.byContradiction
    intro hc
    simp only [not_or] at hc
    rcases hF.dom b hc.1 with hx | hx
    · rcases hd b with h0 | h0
      · exact hx h0
      · exact hc.2 h0
    · have := Mem.sub_lt hwf (b := b) hc.2
      omega
  refine ⟨hap, hF.os, hF.tape, hF.output, hF.size, fun b o hb => ?_, fun b hb hn => ?_, fun b hb => ?_⟩
  · unfold Mem.join at hb
    cases h1 : m1 b with
    | some o' => rw [h1] at hb; simp at hb; subst hb; exact hF.sub b o' h1
    | none =>
      rw [h1] at hb
      simp at hb
      have hmb : m b = none := by
        rcases hd b with h0 | h0
        · exact h0
        · rw [h0] at hb; cases hb
      rw [hF.keep b (Mem.sub_lt hwf (by rw [hb]; simp)) hmb]
      exact hwf b o hb
  · refine hF.keep b hb ?_
    unfold Mem.join at hn
    cases hmb : m b with
    | none => rfl
    | some o => rw [hmb] at hn; simp at hn
  · unfold Mem.join at hb ⊢
    cases h1 : m1 b with
    | some o' =>
      rcases hF.dom b (by rw [h1]; simp) with hx | hx
      · left
        cases hmb : m b with
        | none => exact absurd hmb hx
        | some o => simp
      · exact .inr hx
    | none =>
      rw [h1] at hb
      left
      cases hmb : m b with
      | none => simpa using hb
      | some o => simp
def one (b : Nat) (o : Obj) : Mem := fun k => if k = b then some o else none
theorem join_one {m : Mem} {b : Nat} {o : Obj} (h : m b = none) : m.join (one b o) = m.set b o := by
  funext k
  simp only [Mem.join, Mem.set, one]
  by_cases hk : k = b
  · subst hk
    rw [h]
    simp
  · rw [if_neg hk, if_neg hk]
    cases m k <;> rfl
theorem apart_one {m : Mem} {b : Nat} {o : Obj} (h : m b = none) : m.apart (one b o) := by
  intro k
  by_cases hk : k = b
  · exact .inl (hk ▸ h)
  · exact .inr (by simp [one, hk])
theorem apart_none {m : Mem} {b : Nat} {o : Obj} (h : m.apart (one b o)) : m b = none := by
  rcases h b with h | h
  · exact h
  · simp [one] at h
/-- A block that a call of yield is not told of stays. -/
theorem YCalls.set {P : Program} {l : Nat} {args : List Value} {m : Mem} {K : Value → Mem → Prop} (h : YCalls P l args m K) {b : Nat} {o : Obj} (hb : m b = none) :
    YCalls P l args (m.set b o) fun v M => ∃ m1, M = m1.set b o ∧ m1 b = none ∧ K v m1 := by
  intro w hw
  rw [← join_one hb] at hw
  have hap := apart_one (o := o) hb
  have hwm : m.sub w := fun k o' hk => hw k o' (by simp [Mem.join, hk])
  have hwf : (one b o).sub w := fun k o' hk => hw k o' (by
    rcases hap k with h0 | h0
    · simp [Mem.join, h0, hk]
    · rw [h0] at hk; cases hk)
  obtain ⟨fn, tmps, assign, body, h1, h2⟩ := h w hwm
  refine ⟨fn, tmps, assign, body, h1, h2.mono fun e w' ⟨v, m1, he, hK, hF⟩ => ?_⟩
  obtain ⟨h3, h4⟩ := hF.join hap hwf
  have hn := apart_none h3
  exact ⟨v, _, he, ⟨m1, join_one hn, hn, hK⟩, by rw [← join_one hb]; exact h4⟩
theorem FCalls.set {P : Program} {g : FuncId} {args : List Value} {m : Mem} {K : Value → Mem → Prop} (h : FCalls P g args m K) {b : Nat} {o : Obj} (hb : m b = none) :
    FCalls P g args (m.set b o) fun v M => ∃ m1, M = m1.set b o ∧ m1 b = none ∧ K v m1 := by
  rw [← join_one hb]
  refine (h.frame _ (apart_one (o := o) hb)).mono fun v M ⟨m1, h1, h2, h3⟩ => ?_
  have hn := apart_none h2
  exact ⟨m1, by rw [h1, join_one hn], hn, h3⟩
/-- A contract of the kit's: it turns a row, and makes new blocks. -/
theorem FCalls.of_putRow {α : Type} [Inhabited α] {P : Program} {g : FuncId} {args : List Value} {m : Mem} {enc : α → Value} {blk e : Nat} {c : Array Value} {d : Array α} (hb : m blk = some (.cells c e (0, 0)))
    (h : ∀ w, m.sub w → Calls P g args.toArray w fun e w' => e = .returned (.tuple #[]) ∧ ∃ n os, w' = grow (putRow enc (Sort.ahead w n) blk 0 d) os) :
    FCalls P g args m fun v m' => v = .tuple #[] ∧ m' = m.set blk (.cells (putCells enc 0 d c) e (0, 0)) := by
  intro w hw
  refine (h w hw).mono fun e' w' ⟨he, n, os, hw'⟩ => ⟨_, _, he, ⟨rfl, rfl⟩, ?_⟩
  subst hw'
  have hget : w.heap[blk]? = some (.cells c e (0, 0)) := hw blk _ hb
  have hlt := (Array.getElem?_eq_some_iff.1 hget).1
  have hheap : ∀ k, k < w.heap.size → (grow (putRow enc (Sort.ahead w n) blk 0 d) os).heap[k]? = if k = blk then some (.cells (putCells enc 0 d c) e (0, 0)) else w.heap[k]? := by
    intro k hk
    show ((mapBlock (Sort.ahead w n) blk (putCells enc 0 d)).heap ++ os)[k]? = _
    rw [Array.getElem?_append_left (by simpa [mapBlock] using hk)]
    unfold mapBlock
    rw [Array.getElem?_modify]
    by_cases hkb : blk = k
    · subst hkb
      rw [if_pos rfl, if_pos rfl]
      show Option.map _ w.heap[blk]? = _
      rw [hget]
      rfl
    · rw [if_neg hkb, if_neg (Ne.symm hkb)]
      rfl
  refine ⟨rfl, ⟨rfl, .of (by simp [grow, putRow, mapBlock, Sort.ahead])⟩, rfl, ?_, fun b o ho => ?_, fun b hb' hn => ?_, fun b hb' => ?_⟩
  · show _ ≤ ((mapBlock (Sort.ahead w n) blk (putCells enc 0 d)).heap ++ os).size
    rw [Array.size_append]
    simp [mapBlock]
  · simp only [Mem.set] at ho
    by_cases hbb : b = blk
    · rw [if_pos hbb] at ho
      rw [hheap b (hbb ▸ hlt), if_pos hbb]
      exact ho
    · rw [if_neg hbb] at ho
      rw [hheap b (Mem.sub_lt hw (by rw [ho]; simp)), if_neg hbb]
      exact hw b o ho
  · rw [hheap b hb', if_neg]
    rintro rfl
    rw [hb] at hn
    cases hn
  · simp only [Mem.set] at hb'
    by_cases hbb : b = blk
    · left
      rw [hbb, hb]
      simp
    · rw [if_neg hbb] at hb'
      exact .inl hb'
/-- An iterator's own contract, where what it needs is needed at first only. -/
def IterC1 (P : Program) (f : Nat) (first cap : List Value) (I : Mem → Prop) (xs : List (List Value)) : Prop :=
  ∀ (l : Nat) (J : Nat → Mem → Prop) (Q : Mem → Prop) (m : Mem), J 0 m → I m →
    (∀ i vs m', xs[i]? = some vs → J i m' → YCalls P l vs m' fun v m'' => (v = .bool true ∧ J (i + 1) m'') ∨ (v = .bool false ∧ Q m'')) →
    FCalls P f (first ++ [.func (.yield l) #[] #[]] ++ cap) m fun _ m' => J xs.length m' ∨ Q m'
theorem range_iter1 {P : Program} {f : Nat} {first cap : List Value} {ps : List Nat} {X Y : (Exit → St → Prop) → St → Prop} {K : Exit → St → Prop} {E : Env} {ls : List LC} {m : Mem} {I : Mem → Prop} {xs : List (List Value)}
    (h : IterC1 P f first cap I xs) (hI : ∀ l o, m l = none → I (m.set l o)) (hps : ∀ (i : Nat) (vs : List Value), xs[i]? = some vs → vs.length = ps.length)
    (J : Nat → Mem → Prop) (h0 : J 0 m)
    (round : ∀ (i : Nat) (vs : List Value) (m1 : Mem), xs[i]? = some vs → J i m1 → X (fun e S1 => match e with | .normal => Y (roundK fun e m2 => match e with | .normal => J (i + 1) m2 | e => K e ⟨E, ls, m2⟩) S1 | _ => False) ⟨parEnv ps vs (plainEnv E), [], m1⟩)
    (fin : ∀ m1, J xs.length m1 → K .normal ⟨E, ls, m1⟩) : RangeP P f first cap ps X Y K ⟨E, ls, m⟩ := by
  unfold RangeP
  intro l rec hl hst hpe hround
  have hrec : ({ rec with state := .ready, pending := none } : Loop) = rec := by cases rec; simp_all
  refine FCalls.mono (h l (fun i M => ∃ m3, m3 l = none ∧ M = m3.set l (.loop rec) ∧ J i m3)
    (fun M => ∃ m3 e c, m3 l = none ∧ jumpOf e = some c ∧ M = m3.set l (.loop { rec with state := .done, pending := some c }) ∧ K e ⟨E, ls, m3⟩) _ ⟨m, hl, rfl, h0⟩ (hI _ _ hl) fun i vs M hx ⟨m3, h1, h2, h3⟩ => ?_) fun v M hM => ?_
  · have hy := hround vs M (fun e m2 => match e with | .normal => J (i + 1) m2 | e => K e ⟨E, ls, m2⟩) (by rw [h2]; simp [Mem.set]) (hps i vs hx) (by rw [h2, set_del h1]; exact round i vs m3 hx h3)
    refine hy.mono fun v M' ⟨m4, k1, k2⟩ => ?_
    rcases k2 with ⟨rfl, k3, k4⟩ | ⟨rfl, e, c, k3, k4, k5⟩
    · exact .inl ⟨rfl, m4, k1, k3, k4⟩
    · refine .inr ⟨rfl, m4, e, c, k1, k3, k4, ?_⟩
      cases e <;> first | exact k5 | simp [jumpOf] at k3
  · rcases hM with ⟨m3, h1, rfl, h3⟩ | ⟨m3, e, c, h1, h2, rfl, h3⟩
    · refine ⟨.ready, none, by simp, by simp [Mem.set, hrec], ?_⟩
      rw [set_del h1]
      exact fin m3 h3
    · refine ⟨.done, some c, by simp, by simp [Mem.set], ?_⟩
      rw [set_del h1]
      cases e <;> simp only [jumpOf, Option.some.injEq, reduceCtorEq] at h2 <;> subst h2 <;> exact h3
end Go.Mv
/- Mv: memory as a row of parts that lie apart: each part is told of by itself, what turns one leaves the others. -/
namespace Go.Mv
open Go
/-- All that m tells, m' tells. -/
def Mem.le (m m' : Mem) : Prop := ∀ k o, m k = some o → m' k = some o
theorem Mem.le_refl (m : Mem) : m.le m := fun _ _ h => h
theorem Mem.le_trans {a b c : Mem} (h : a.le b) (k : b.le c) : a.le c := fun x o hx => k x o (h x o hx)
theorem Mem.le_dom {m m' : Mem} (h : m.le m') {b : Nat} (hb : m b ≠ none) : m' b ≠ none := by
  cases hm : m b with
  | none => exact absurd hm hb
  | some o => rw [h b o hm]; simp
theorem Mem.le_none {m m' : Mem} (h : m.le m') {b : Nat} (hb : m' b = none) : m b = none := by
  cases hm : m b with
  | none => rfl
  | some o => rw [h b o hm] at hb; cases hb
theorem Mem.le_cell {m m' : Mem} (h : m.le m') {a : Addr} {v : Value} (hc : m.cell a = some v) : m'.cell a = some v := by
  unfold Mem.cell at hc ⊢
  cases hm : m a.block with
  | none => rw [hm] at hc; cases hc
  | some o => rw [h _ _ hm]; rw [hm] at hc; exact hc
theorem Mem.le_holds {m m' : Mem} (h : m.le m') {p : Addr} {vs : List Value} (hc : m.holds p vs) : m'.holds p vs := fun i v hi => Mem.le_cell h (hc i v hi)
theorem Mem.le_join_left {m f : Mem} : m.le (m.join f) := fun k o h => by simp [Mem.join, h]
theorem Mem.le_join_right {m f : Mem} (hd : m.apart f) : f.le (m.join f) := fun k o h => by
  rcases hd k with h0 | h0
  · simp [Mem.join, h0, h]
  · rw [h0] at h; cases h
theorem Mem.le_set {m : Mem} {b : Nat} {o : Obj} (hb : m b = none) : m.le (m.set b o) := fun k o' h => by
  rw [Mem.set_ne]
  · exact h
  · rintro rfl
    rw [hb] at h
    cases h
abbrev Asn := Mem → Prop
/-- Parts of m that lie apart, each as its assertion tells. -/
def Sep : List Asn → Mem → Prop
  | [], _ => True
  | A :: r, m => ∃ m1 m2 : Mem, m1.apart m2 ∧ m1.le m ∧ m2.le m ∧ A m1 ∧ Sep r m2
theorem Sep.more : ∀ {L : List Asn} {m m' : Mem}, Sep L m → m.le m' → Sep L m'
  | [], _, _, _, _ => trivial
  | _ :: _, _, _, ⟨m1, m2, h1, h2, h3, h4, h5⟩, hm => ⟨m1, m2, h1, Mem.le_trans h2 hm, Mem.le_trans h3 hm, h4, h5⟩
/-- The j-th part, and the others. -/
theorem Sep.move : ∀ {L : List Asn} {m : Mem} (j : Nat) {A : Asn}, Sep L m → L[j]? = some A → Sep (A :: L.eraseIdx j) m
  | [], _, _, _, _, h => by simp at h
  | B :: r, m, 0, A, h, hj => by
    simp only [List.getElem?_cons_zero, Option.some.injEq] at hj
    subst hj
    exact h
  | B :: r, m, j + 1, A, ⟨m1, m2, h1, h2, h3, h4, h5⟩, hj => by
    simp only [List.getElem?_cons_succ] at hj
    obtain ⟨a, b, k1, k2, k3, k4, k5⟩ := Sep.move j h5 hj
    have hab : a.apart m1 := fun k => by
      rcases h1 k with h | h
      · exact .inr h
      · exact .inl (Mem.le_none k2 h)
    have hmb : m1.apart b := fun k => by
      rcases h1 k with h | h
      · exact .inl h
      · exact .inr (Mem.le_none k3 h)
    refine ⟨a, m1.join b, fun k => ?_, Mem.le_trans k2 h3, fun k o hk => ?_, k4, m1, b, hmb, Mem.le_join_left, Mem.le_join_right hmb, h4, k5⟩
    · rcases k1 k with h | h
      · exact .inl h
      · rcases hab k with h' | h'
        · exact .inl h'
        · exact .inr (by simp [Mem.join, h, h'])
    · unfold Mem.join at hk
      cases hm : m1 k with
      | some o' => rw [hm] at hk; simp at hk; subst hk; exact h2 k _ hm
      | none => rw [hm] at hk; simp at hk; exact h3 k o (k3 k o hk)
/-- The front part may go to the j-th place. -/
theorem Sep.back : ∀ {L : List Asn} {m : Mem} {j : Nat} {A : Asn}, Sep (A :: L) m → j ≤ L.length → Sep (L.insertIdx j A) m
  | L, m, 0, A, h, _ => by simpa using h
  | [], m, j + 1, A, h, hj => by simp at hj
  | B :: r, m, j + 1, A, h, hj => by
    have h1 : Sep (B :: A :: r) m := h.move 1 rfl
    obtain ⟨m1, m2, k1, k2, k3, k4, k5⟩ := h1
    rw [List.insertIdx_succ_cons]
    exact ⟨m1, m2, k1, k2, k3, k4, k5.back (by simpa using hj)⟩
theorem eraseIdx_insert {L : List Asn} {j : Nat} {A B : Asn} (hj : L[j]? = some A) : (L.eraseIdx j).insertIdx j B = L.set j B := by
  induction L generalizing j with
  | nil => simp at hj
  | cons x r ih =>
    cases j with
    | zero => simp
    | succ j =>
      simp only [List.getElem?_cons_succ] at hj
      simp [List.eraseIdx, List.insertIdx_succ_cons, ih hj]
theorem len_erase {L : List Asn} {j : Nat} {A : Asn} (hj : L[j]? = some A) : j ≤ (L.eraseIdx j).length := by
  have := (List.getElem?_eq_some_iff.1 hj).1
  rw [List.length_eraseIdx, if_pos this]
  omega
/-- One part is told of in another way. -/
theorem Sep.turn {L : List Asn} {m : Mem} (h : Sep L m) (j : Nat) {A B : Asn} (hj : L[j]? = some A) (hAB : ∀ m1, m1.le m → A m1 → B m1) : Sep (L.set j B) m := by
  obtain ⟨m1, m2, k1, k2, k3, k4, k5⟩ := h.move j hj
  rw [← eraseIdx_insert (A := A) hj]
  exact Sep.back ⟨m1, m2, k1, k2, k3, hAB m1 k2 k4, k5⟩ (len_erase hj)
theorem Sep.drop {L : List Asn} {m : Mem} (h : Sep L m) (j : Nat) : Sep (L.eraseIdx j) m := by
  cases hj : L[j]? with
  | none => rw [List.eraseIdx_of_length_le (List.getElem?_eq_none_iff.1 hj)]; exact h
  | some A =>
    obtain ⟨m1, m2, k1, k2, k3, k4, k5⟩ := h.move j hj
    exact k5.more k3
/-- One part is of several. -/
theorem Sep.split : ∀ {L R : List Asn} {m : Mem}, Sep (Sep L :: R) m → Sep (L ++ R) m
  | [], _, _, ⟨m1, m2, k1, k2, k3, k4, k5⟩ => k5.more k3
  | A :: L, R, m, ⟨m1, m2, k1, k2, k3, ⟨a, b, q1, q2, q3, q4, q5⟩, k5⟩ => by
    have hb2 : b.apart m2 := fun k => by
      rcases k1 k with h | h
      · exact .inl (Mem.le_none q3 h)
      · exact .inr h
    refine ⟨a, b.join m2, fun k => ?_, Mem.le_trans q2 k2, fun k o hk => ?_, q4, Sep.split (L := L) ⟨b, m2, hb2, Mem.le_join_left, Mem.le_join_right hb2, q5, k5⟩⟩
    · rcases q1 k with h | h
      · exact .inl h
      · rcases k1 k with h' | h'
        · exact .inl (Mem.le_none q2 h')
        · exact .inr (by simp [Mem.join, h, h'])
    · unfold Mem.join at hk
      cases hm : b k with
      | some o' => rw [hm] at hk; simp at hk; subst hk; exact k2 k _ (q3 k _ hm)
      | none => rw [hm] at hk; simp at hk; exact k3 k o hk
theorem Sep.group : ∀ {L R : List Asn} {m : Mem}, Sep (L ++ R) m → Sep (Sep L :: R) m
  | [], R, m, h => ⟨Mem.empty, m, fun _ => .inl rfl, fun _ _ h => (by cases h), Mem.le_refl m, trivial, h⟩
  | A :: L, R, m, ⟨m1, m2, k1, k2, k3, k4, k5⟩ => by
    obtain ⟨a, b, q1, q2, q3, q4, q5⟩ := Sep.group (L := L) (R := R) k5
    have h1a : m1.apart a := fun k => by
      rcases k1 k with h | h
      · exact .inl h
      · exact .inr (Mem.le_none q2 h)
    refine ⟨m1.join a, b, fun k => ?_, fun k o hk => ?_, Mem.le_trans q3 k3, ⟨m1, a, h1a, Mem.le_join_left, Mem.le_join_right h1a, k4, q4⟩, q5⟩
    · rcases q1 k with h | h
      · rcases k1 k with h' | h'
        · exact .inl (by simp [Mem.join, h, h'])
        · exact .inr (Mem.le_none q3 h')
      · exact .inr h
    · unfold Mem.join at hk
      cases hm : m1 k with
      | some o' => rw [hm] at hk; simp at hk; subst hk; exact k2 k _ hm
      | none => rw [hm] at hk; simp at hk; exact k3 k o (q2 k o hk)
/-- What is so of a part, and stays so of more, is so of all. -/
theorem Sep.get {L : List Asn} {m : Mem} (h : Sep L m) (j : Nat) {A : Asn} (hj : L[j]? = some A) : ∃ m1, m1.le m ∧ A m1 := by
  obtain ⟨m1, m2, k1, k2, k3, k4, k5⟩ := h.move j hj
  exact ⟨m1, k2, k4⟩

/-! ### parts -/
/-- Block b holds l. -/
def pt (b : Nat) (l : List Value) : Asn := fun m => Blk m b l
/-- All that m0 tells. -/
def kp (m0 : Mem) : Asn := fun m => m0.le m
theorem Sep.kept {L : List Asn} {m m0 : Mem} (h : Sep L m) (j : Nat) (hj : L[j]? = some (kp m0)) : m0.le m := by
  obtain ⟨m1, h1, h2⟩ := h.get j hj
  exact Mem.le_trans h2 h1
theorem Sep.init (m0 : Mem) : Sep [kp m0] m0 := ⟨m0, Mem.empty, fun _ => .inr rfl, Mem.le_refl _, fun _ _ h => (by cases h), Mem.le_refl _, trivial⟩
theorem Sep.blk {L : List Asn} {m : Mem} (h : Sep L m) (j : Nat) {b : Nat} {l : List Value} (hj : L[j]? = some (pt b l)) : Blk m b l := by
  obtain ⟨m1, h1, e, h2⟩ := h.get j hj
  exact ⟨e, h1 _ _ h2⟩
theorem Sep.cell {L : List Asn} {m : Mem} (h : Sep L m) (j : Nat) {b i : Nat} {l : List Value} {v : Value} (hj : L[j]? = some (pt b l)) (hi : l[i]? = some v) : m.cell ⟨b, i, none⟩ = some v := (h.blk j hj).cell hi
theorem Sep.room {L : List Asn} {m : Mem} (h : Sep L m) (j : Nat) {b i : Nat} {l : List Value} {v : Value} (hj : L[j]? = some (pt b l)) (hi : l[i]? = some v) : (∃ u, m.cell ⟨b, i, none⟩ = some u) ∧ m.fz ⟨b, i, none⟩ = false := ⟨⟨_, h.cell j hj hi⟩, (h.blk j hj).fz⟩
theorem Sep.rooms {L : List Asn} {m : Mem} (h : Sep L m) (j : Nat) {b i n : Nat} {l : List Value} (hj : L[j]? = some (pt b l)) (hn : i + n ≤ l.length) : m.room ⟨b, i, none⟩ n := (h.blk j hj).room hn
theorem Sep.new {L : List Asn} {m : Mem} (h : Sep L m) {b e : Nat} {l : List Value} (hb : m b = none) : Sep (pt b l :: L) (m.set b (.cells l.toArray e (0, 0))) := by
  refine ⟨one b (.cells l.toArray e (0, 0)), m, fun k => ?_, fun k o hk => ?_, Mem.le_set hb, ⟨e, by simp [one]⟩, h⟩
  · by_cases hk : k = b
    · exact .inr (hk ▸ hb)
    · exact .inl (by simp [one, hk])
  · simp only [one] at hk
    split at hk
    · rename_i hkb
      subst hkb
      simpa [Mem.set] using hk
    · cases hk
/-- A part turns, in its own blocks only. -/
theorem Sep.step {L : List Asn} {m m' : Mem} (h : Sep L m) (j : Nat) {A B : Asn} (hj : L[j]? = some A) (hs : ∀ m1, m1.le m → A m1 → ∃ m1', B m1' ∧ m1'.le m' ∧ (∀ k, m1' k ≠ none → m1 k ≠ none ∨ m k = none) ∧ ∀ k o, m k = some o → m1 k = none → m' k = some o) : Sep (L.set j B) m' := by
  obtain ⟨m1, m2, k1, k2, k3, k4, k5⟩ := h.move j hj
  obtain ⟨m1', q1, q2, q3, q4⟩ := hs m1 k2 k4
  rw [← eraseIdx_insert (A := A) hj]
  refine Sep.back ⟨m1', m2, fun k => ?_, q2, fun k o hk => ?_, q1, k5⟩ (len_erase hj)
  · apply Classical.byContradiction
    intro hc
    simp only [not_or] at hc
    rcases q3 k hc.1 with h | h
    · rcases k1 k with h' | h'
      · exact h h'
      · exact hc.2 h'
    · exact Mem.le_dom k3 hc.2 h
  · refine q4 k o (k3 k o hk) ?_
    rcases k1 k with h' | h'
    · exact h'
    · rw [h'] at hk; cases hk
theorem Mem.setCell_some' {m : Mem} {a : Addr} {v : Value} {k : Nat} (h : (m.setCell a v) k ≠ none) : m k ≠ none := by
  intro h1
  apply h
  unfold Mem.setCell
  split <;> simp [h1]
theorem setCell_le {m m1 : Mem} (hm : m1.le m) {b i : Nat} {v : Value} (hb : m1 b ≠ none) : (m1.setCell ⟨b, i, none⟩ v).le (m.setCell ⟨b, i, none⟩ v) := by
  intro k o hk
  by_cases hkb : k = b
  · subst hkb
    cases hm1 : m1 k with
    | none => exact absurd hm1 hb
    | some o1 =>
      have := hm k o1 hm1
      simp only [Mem.setCell, if_true, hm1] at hk
      simp only [Mem.setCell, if_true, this]
      exact hk
  · rw [Mem.setCell_ne hkb] at hk ⊢
    exact hm k o hk
theorem setCells_le {b i : Nat} : ∀ (vs : List Value) {m m1 : Mem} {j : Nat}, m1.le m → m1 b ≠ none → (m1.setCells ⟨b, i, none⟩ j vs).le (m.setCells ⟨b, i, none⟩ j vs)
  | [], _, _, _, hm, _ => hm
  | v :: r, m, m1, j, hm, hb => by
    simp only [Mem.setCells, add_mk]
    refine setCells_le r (setCell_le hm hb) ?_
    intro h
    apply hb
    unfold Mem.setCell at h
    simp only [if_true] at h
    cases hm1 : m1 b with
    | none => rfl
    | some o => rw [hm1] at h; cases o <;> simp at h
theorem setCells_some' {b i : Nat} : ∀ (vs : List Value) {m : Mem} {j k : Nat}, (m.setCells ⟨b, i, none⟩ j vs) k ≠ none → m k ≠ none
  | [], _, _, _, h => h
  | v :: r, m, j, k, h => by
    simp only [Mem.setCells] at h
    exact Mem.setCell_some' (setCells_some' (b := b) (i := i) r h)
/-- Cells of a part's block are written over. -/
theorem Sep.puts {L : List Asn} {m : Mem} (h : Sep L m) (j : Nat) {A B : Asn} {b i : Nat} {vs : List Value} (hj : L[j]? = some A) (hb : ∀ m1, m1.le m → A m1 → m1 b ≠ none) (hB : ∀ m1, m1.le m → A m1 → B (m1.setCells ⟨b, i, none⟩ 0 vs)) : Sep (L.set j B) (m.setCells ⟨b, i, none⟩ 0 vs) := by
  refine h.step j hj fun m1 hm hA => ⟨_, hB m1 hm hA, setCells_le vs hm (hb m1 hm hA), fun k hk => .inl (setCells_some' vs hk), fun k o hk hn => ?_⟩
  rw [Mem.setCells_ne]
  · exact hk
  · rintro rfl
    exact hb m1 hm hA hn
theorem setCells_one {m : Mem} {b i : Nat} {v : Value} : m.setCells ⟨b, i, none⟩ 0 [v] = m.setCell ⟨b, i, none⟩ v := by
  simp only [Mem.setCells, add_mk, Nat.add_zero]
theorem Sep.put {L : List Asn} {m : Mem} (h : Sep L m) (j : Nat) {b i : Nat} {l : List Value} (v : Value) (hj : L[j]? = some (pt b l)) : Sep (L.set j (pt b (l.set i v))) (m.setCell ⟨b, i, none⟩ v) := by
  rw [← setCells_one]
  refine h.puts j hj (fun m1 _ ⟨e, hA⟩ => by rw [hA]; simp) fun m1 _ hA => ?_
  rw [setCells_one]
  exact Blk.put v hA
theorem Sep.putAll {L : List Asn} {m : Mem} (h : Sep L m) (j : Nat) {b i : Nat} {l : List Value} (vs : List Value) (hj : L[j]? = some (pt b l)) : Sep (L.set j (pt b (writeAt l i vs))) (m.setCells ⟨b, i, none⟩ 0 vs) :=
  h.puts j hj (fun m1 _ ⟨e, hA⟩ => by rw [hA]; simp) fun m1 _ hA => Blk.puts (j := 0) vs hA

/-! ### calls -/
/-- Behind a call on a part: the part, and the others beside it. -/
def Beside (R : List Asn) (m1 m : Mem) : Prop := ∃ m2 : Mem, m1.apart m2 ∧ m1.le m ∧ m2.le m ∧ Sep R m2
theorem Beside.sep {R : List Asn} {m1 m : Mem} (h : Beside R m1 m) {L : List Asn} (k : Sep L m1) : Sep (L ++ R) m := by
  obtain ⟨m2, h1, h2, h3, h4⟩ := h
  exact Sep.split ⟨m1, m2, h1, h2, h3, k, h4⟩
theorem Beside.one {R : List Asn} {m1 m : Mem} (h : Beside R m1 m) {A : Asn} (k : A m1) : Sep (A :: R) m := by
  obtain ⟨m2, h1, h2, h3, h4⟩ := h
  exact ⟨m1, m2, h1, h2, h3, k, h4⟩
def Mem.without (m m1 : Mem) : Mem := fun k => if (m1 k).isSome then none else m k
theorem join_without {m m1 : Mem} (h : m1.le m) : m1.join (m.without m1) = m := by
  funext k
  simp only [Mem.join, Mem.without]
  cases hm : m1 k with
  | none => simp
  | some o => simp [h k o hm]
theorem apart_without {m m1 : Mem} : m1.apart (m.without m1) := fun k => by
  simp only [Mem.without]
  cases hm : m1 k with
  | none => exact .inl rfl
  | some o => exact .inr (by simp)
theorem le_without {m m1 m2 : Mem} (h : m1.apart m2) (h2 : m2.le m) : m2.le (m.without m1) := fun k o hk => by
  simp only [Mem.without]
  rcases h k with h0 | h0
  · simp [h0, h2 k o hk]
  · rw [h0] at hk; cases hk
/-- A call on the first part. -/
theorem Sep.calls {P : Program} {f : FuncId} {args : List Value} {K : Value → Mem → Prop} {A : Asn} {R : List Asn} {m : Mem} (h : Sep (A :: R) m) (hc : ∀ m1, A m1 → FCalls P f args m1 K) :
    FCalls P f args m fun v m' => ∃ m1, K v m1 ∧ Beside R m1 m' := by
  obtain ⟨m1, m2, k1, k2, k3, k4, k5⟩ := h
  have hf := (hc m1 k4).frame (m.without m1) apart_without
  rw [join_without k2] at hf
  refine hf.mono fun v m' ⟨m1', e, ha, hK⟩ => ⟨m1', hK, m.without m1, ha, ?_, ?_, k5.more (le_without k1 k3)⟩
  · rw [e]
    exact Mem.le_join_left
  · rw [e]
    exact Mem.le_join_right ha
theorem Sep.call {P : Program} {f : FuncId} {args : List Value} {K : Value → Mem → Prop} {L : List Asn} {m : Mem} (h : Sep L m) (j : Nat) {A : Asn} (hj : L[j]? = some A) (hc : ∀ m1, A m1 → FCalls P f args m1 K) :
    FCalls P f args m fun v m' => ∃ m1, K v m1 ∧ Beside (L.eraseIdx j) m1 m' := (h.move j hj).calls hc
/-- A call on the first n parts. -/
theorem Sep.calln {P : Program} {f : FuncId} {args : List Value} {K : Value → Mem → Prop} {L : List Asn} {m : Mem} (h : Sep L m) (n : Nat) (hc : ∀ m1, Sep (L.take n) m1 → FCalls P f args m1 K) :
    FCalls P f args m fun v m' => ∃ m1, K v m1 ∧ Beside (L.drop n) m1 m' := by
  have h1 : Sep (L.take n ++ L.drop n) m := by rw [List.take_append_drop]; exact h
  exact h1.group.calls hc
/-- A call on no part. -/
theorem Sep.call0 {P : Program} {f : FuncId} {args : List Value} {K : Value → Mem → Prop} {L : List Asn} {m : Mem} (h : Sep L m) (hc : FCalls P f args Mem.empty K) :
    FCalls P f args m fun v m' => ∃ m1, K v m1 ∧ Beside L m1 m' :=
  Sep.calls (A := fun m => m = Mem.empty) ⟨Mem.empty, m, fun _ => .inl rfl, fun _ _ h => (by cases h), Mem.le_refl m, rfl, h⟩ fun m1 h1 => h1 ▸ hc

theorem Sep.new' {L : List Asn} {m m2 : Mem} (h : Sep L m) {b e : Nat} {l : List Value} (hb : m b = none) (he : m2 = m.set b (.cells l.toArray e (0, 0))) : Sep (pt b l :: L) m2 := he ▸ h.new hb
theorem Sep.put' {L : List Asn} {m m2 : Mem} (h : Sep L m) (j : Nat) {b i : Nat} {l : List Value} {v : Value} (he : m2 = m.setCell ⟨b, i, none⟩ v) (hj : L[j]? = some (pt b l)) : Sep (L.set j (pt b (l.set i v))) m2 := he ▸ h.put j v hj
/-- What a call leaves that only makes something new. -/
theorem Sep.on {L N : List Asn} {m m' : Mem} (h : Sep L m) (k : Sep (N ++ [kp m]) m') : Sep (N ++ L) m' := by
  obtain ⟨m1, m2, h1, h2, h3, h4, m3, m4, h5, h6, h7, h8, h9⟩ := k.group
  refine Sep.split ⟨m1, m2, h1, h2, h3, h4, h.more (Mem.le_trans (show m.le m3 from h8) h6)⟩

/-! ### rows of values that can be read -/
theorem add_add {p : Addr} {i j : Nat} : (p.add i).add j = p.add (i + j) := by
  unfold Addr.add
  by_cases hj : j = 0
  · simp [hj]
  · by_cases hi : i = 0
    · simp [hi, hj]
    · rw [if_neg hj, if_neg hi, if_neg (by omega)]
      simp [Nat.add_assoc]
/-- vs can be read from A on. -/
def Rd (m : Mem) (A : Option Addr) (vs : List Value) : Prop := vs = [] ∨ ∃ p, A = some p ∧ ∀ k v, vs[k]? = some v → m.cell (p.add k) = some v
theorem Rd.nil {m : Mem} {A : Option Addr} : Rd m A [] := .inl rfl
theorem Rd.more {m m' : Mem} {A : Option Addr} {vs : List Value} (h : Rd m A vs) (hm : m.le m') : Rd m' A vs :=
  h.imp_right fun ⟨p, h1, h2⟩ => ⟨p, h1, fun k v hk => Mem.le_cell hm (h2 k v hk)⟩
theorem Rd.at {m : Mem} {A : Option Addr} {vs : List Value} {k : Nat} {v : Value} (h : Rd m A vs) (hv : vs[k]? = some v) : ∃ p, A = some p ∧ m.cell (p.add k) = some v := by
  rcases h with rfl | ⟨p, rfl, h⟩
  · simp at hv
  · exact ⟨p, rfl, h k v hv⟩
/-- An element of several cells: its cell at off. -/
theorem Rd.atf {m : Mem} {A : Option Addr} {vs : List Value} {k off : Nat} {v : Value} (h : Rd m A vs) (hv : vs[k + off]? = some v) : ∃ p, A = some p ∧ m.cell ((p.add k).add off) = some v := by
  obtain ⟨p, h1, h2⟩ := h.at hv
  exact ⟨p, h1, by rw [add_add]; exact h2⟩
theorem Rd.holds {m : Mem} {A : Option Addr} {vs : List Value} {n : Nat} (h : Rd m A vs) (hn : vs.length = n) : n = 0 ∨ ∃ p, A = some p ∧ m.holds p vs := by
  rcases h with rfl | ⟨p, rfl, h⟩
  · exact .inl hn.symm
  · exact .inr ⟨p, rfl, h⟩
theorem Rd.take {m : Mem} {A : Option Addr} {vs : List Value} (h : Rd m A vs) (n : Nat) : Rd m A (vs.take n) := by
  rcases h with rfl | ⟨p, rfl, h⟩
  · exact .inl (by simp)
  · refine .inr ⟨p, rfl, fun k v hk => h k v ?_⟩
    rw [List.getElem?_take] at hk
    split at hk
    · exact hk
    · cases hk
theorem Rd.drop {m : Mem} {p : Addr} {vs : List Value} (h : Rd m (some p) vs) (n : Nat) : Rd m (some (p.add n)) (vs.drop n) := by
  rcases h with rfl | ⟨q, hq, h⟩
  · exact .inl (by simp)
  · cases hq
    refine .inr ⟨_, rfl, fun k v hk => ?_⟩
    rw [add_add]
    exact h _ v (by rw [List.getElem?_drop] at hk; exact hk)

/-! ### slices -/
/-- A slice of n elements of sz cells each, with room for c, in a block that it alone has. -/
def sl (A : Option Addr) (n c sz : Nat) (vs : List Value) : Asn := fun m =>
  vs.length = n * sz ∧ n ≤ c ∧ ((A = none ∧ c = 0) ∨ ∃ (b o : Nat) (l : List Value) (e : Nat), A = some ⟨b, o, none⟩ ∧ m b = some (.cells l.toArray e (0, 0)) ∧ o + c * sz ≤ l.length ∧ ∀ (k : Nat) v, vs[k]? = some v → l[o + k]? = some v)
theorem sl_nil {m : Mem} {sz : Nat} : sl none 0 0 sz [] m := ⟨by simp, Nat.le_refl _, .inl ⟨rfl, rfl⟩⟩
theorem sl_len {m : Mem} {A : Option Addr} {n c sz : Nat} {vs : List Value} (h : sl A n c sz vs m) : vs.length = n * sz ∧ n ≤ c := ⟨h.1, h.2.1⟩
theorem sl_more {m m' : Mem} {A : Option Addr} {n c sz : Nat} {vs : List Value} (h : sl A n c sz vs m) (hm : m.le m') : sl A n c sz vs m' := by
  obtain ⟨h1, h2, h3⟩ := h
  exact ⟨h1, h2, h3.imp_right fun ⟨b, o, l, e, k1, k2, k3⟩ => ⟨b, o, l, e, k1, hm _ _ k2, k3⟩⟩
theorem sl_rd {m : Mem} {A : Option Addr} {n c sz : Nat} {vs : List Value} (h : sl A n c sz vs m) : Rd m A vs := by
  obtain ⟨h1, h2, h3⟩ := h
  rcases h3 with ⟨rfl, rfl⟩ | ⟨b, o, l, e, rfl, k2, k3, k4⟩
  · refine .inl (List.length_eq_zero_iff.1 ?_)
    rw [h1, show n = 0 by omega, Nat.zero_mul]
  · refine .inr ⟨_, rfl, fun k v hk => ?_⟩
    rw [add_mk]
    exact Blk.cell ⟨e, k2⟩ (k4 k v hk)
theorem sl_olds {m : Mem} {A : Option Addr} {n c sz : Nat} {vs : List Value} (h : sl A n c sz vs m) : (n * sz = 0 ∧ A = none) ∨ ∃ p, A = some p ∧ m.holds p vs := by
  obtain ⟨h1, h2, h3⟩ := h
  rcases h3 with ⟨rfl, rfl⟩ | ⟨b, o, l, e, rfl, k2, k3, k4⟩
  · exact .inl ⟨by rw [show n = 0 by omega, Nat.zero_mul], rfl⟩
  · refine .inr ⟨_, rfl, fun k v hk => ?_⟩
    rw [add_mk]
    exact Blk.cell ⟨e, k2⟩ (k4 k v hk)
theorem Sep.asn {L : List Asn} {m : Mem} (h : Sep L m) (j : Nat) {A : Option Addr} {n c sz : Nat} {vs : List Value} (hj : L[j]? = some (sl A n c sz vs)) : sl A n c sz vs m := by
  obtain ⟨m1, h1, h2⟩ := h.get j hj
  exact sl_more h2 h1
theorem Sep.rd {L : List Asn} {m : Mem} (h : Sep L m) (j : Nat) {A : Option Addr} {n c sz : Nat} {vs : List Value} (hj : L[j]? = some (sl A n c sz vs)) : Rd m A vs := sl_rd (h.asn j hj)
/-- Some cells are written over. -/
theorem Sep.sts {L : List Asn} {m : Mem} (h : Sep L m) (j : Nat) {A : Option Addr} {n c sz k : Nat} {vs : List Value} (cs : List Value) (hj : L[j]? = some (sl A n c sz vs)) (hk : k + cs.length ≤ vs.length) (h0 : 0 < cs.length) :
    ∃ p, A = some p ∧ m.room (p.add k) cs.length ∧ Sep (L.set j (sl A n c sz (writeAt vs k cs))) (m.setCells (p.add k) 0 cs) := by
  have hA := h.asn j hj
  obtain ⟨h1, h2, h3⟩ := hA
  rcases h3 with ⟨rfl, rfl⟩ | ⟨b, o, l, e, rfl, k2, k3, k4⟩
  · rw [show n = 0 by omega, Nat.zero_mul] at h1
    omega
  · have hlen : o + vs.length ≤ l.length := by
      have := Nat.mul_le_mul_right sz h2
      omega
    refine ⟨_, rfl, ?_, ?_⟩
    · rw [add_mk]
      exact Blk.room ⟨e, k2⟩ (by omega)
    · rw [add_mk]
      refine h.puts j hj (fun m1 hm hA => ?_) fun m1 hm hA => ?_
      · obtain ⟨g1, g2, g3⟩ := hA
        rcases g3 with ⟨hh, _⟩ | ⟨b', o', l', e', hh, q2, _⟩
        · cases hh
        · cases hh
          rw [q2]
          simp
      · obtain ⟨g1, g2, g3⟩ := hA
        rcases g3 with ⟨hh, _⟩ | ⟨b', o', l', e', hh, q2, q3, q4⟩
        · cases hh
        · cases hh
          have hlen' : o + vs.length ≤ l'.length := by
            have := Nat.mul_le_mul_right sz g2
            omega
          obtain ⟨e2, h4⟩ := Blk.puts (i := o + k) (j := 0) cs (m := m1) (b := b) (l := l') ⟨e', q2⟩
          refine ⟨by rw [writeAt_len, g1], g2, .inr ⟨b, o, _, e2, rfl, h4, by rw [writeAt_len]; exact q3, fun i u hu => ?_⟩⟩
          rw [Nat.add_zero, writeAt_get _ _ _ _ (by omega)]
          rw [writeAt_get _ _ _ _ hk] at hu
          by_cases hc : k ≤ i ∧ i < k + cs.length
          · rw [if_pos hc] at hu
            rw [if_pos (by omega), show o + i - (o + k) = i - k by omega]
            exact hu
          · rw [if_neg hc] at hu
            rw [if_neg (by omega)]
            exact q4 i u hu
theorem setCells1 {m : Mem} {p : Addr} {v : Value} : m.setCells p 0 [v] = m.setCell p v := by
  simp only [Mem.setCells, Addr.add, if_true]
theorem room1 {m : Mem} {p : Addr} (h : m.room p 1) : (∃ u, m.cell p = some u) ∧ m.fz p = false := by
  have := h 0 (by omega)
  simpa [Addr.add] using this
theorem writeAt1 {l : List Value} {i : Nat} {v : Value} : writeAt l i [v] = l.set i v := rfl
theorem Sep.st {L : List Asn} {m : Mem} (h : Sep L m) (j : Nat) {A : Option Addr} {n c sz k : Nat} {vs : List Value} (v : Value) (hj : L[j]? = some (sl A n c sz vs)) (hk : k < vs.length) :
    ∃ p, A = some p ∧ ((∃ u, m.cell (p.add k) = some u) ∧ m.fz (p.add k) = false) ∧ Sep (L.set j (sl A n c sz (vs.set k v))) (m.setCell (p.add k) v) := by
  obtain ⟨p, h1, h2, h3⟩ := h.sts j [v] hj (k := k) (by simp; omega) (by simp)
  rw [setCells1, writeAt1] at h3
  exact ⟨p, h1, room1 h2, h3⟩
theorem Sep.stf {L : List Asn} {m : Mem} (h : Sep L m) (j : Nat) {A : Option Addr} {n c sz k off : Nat} {vs : List Value} (v : Value) (hj : L[j]? = some (sl A n c sz vs)) (hk : k + off < vs.length) :
    ∃ p, A = some p ∧ ((∃ u, m.cell ((p.add k).add off) = some u) ∧ m.fz ((p.add k).add off) = false) ∧ Sep (L.set j (sl A n c sz (vs.set (k + off) v))) (m.setCell ((p.add k).add off) v) := by
  obtain ⟨p, h1, h2, h3⟩ := h.st j v hj hk
  refine ⟨p, h1, ?_, ?_⟩ <;> rw [add_add] <;> assumption
theorem sl_cut {m : Mem} {A : Option Addr} {n c sz : Nat} {vs : List Value} (h : sl A n c sz vs m) {k : Nat} (hk : k ≤ n) : sl A k c sz (vs.take (k * sz)) m := by
  obtain ⟨h1, h2, h3⟩ := h
  have := Nat.mul_le_mul_right sz hk
  refine ⟨by rw [List.length_take]; omega, by omega, h3.imp_right fun ⟨b, o, l, e, k1, k2, k3, k4⟩ => ⟨b, o, l, e, k1, k2, k3, fun i v hv => k4 i v ?_⟩⟩
  rw [List.getElem?_take] at hv
  split at hv
  · exact hv
  · cases hv
theorem slice_lo0 {A : Option Addr} {c sz : Nat} : (if c = Int.toNat 0 then A else Option.map (fun p => p.add (Int.toNat 0 * sz)) A) = A := by
  split
  · rfl
  · cases A with
    | none => rfl
    | some p => simp [Addr.add]
/-- The slice from its k-th element on. -/
theorem sl_from {m : Mem} {A : Option Addr} {n c sz : Nat} {vs : List Value} (h : sl A n c sz vs m) {k : Nat} (hk : k ≤ n) : sl (if c = k then A else A.map fun p => p.add (k * sz)) (n - k) (c - k) sz (vs.drop (k * sz)) m := by
  obtain ⟨h1, h2, h3⟩ := h
  have h5 := Nat.mul_le_mul_right sz hk
  refine ⟨by rw [List.length_drop, h1, Nat.sub_mul], by omega, ?_⟩
  rcases h3 with ⟨rfl, rfl⟩ | ⟨b, o, l, e, rfl, k2, k3, k4⟩
  · left
    refine ⟨by split <;> rfl, by omega⟩
  · right
    by_cases hck : c = k
    · have h6 : vs.drop (k * sz) = [] := List.drop_eq_nil_iff.2 (by rw [h1]; exact Nat.mul_le_mul_right sz (by omega))
      rw [if_pos hck]
      refine ⟨b, o, l, e, rfl, k2, by rw [hck, Nat.sub_self, Nat.zero_mul]; omega, fun i v hv => ?_⟩
      rw [h6] at hv
      simp at hv
    · rw [if_neg hck]
      have h7 : k * sz + (c - k) * sz = c * sz := by rw [← Nat.add_mul]; congr 1; omega
      refine ⟨b, o + k * sz, l, e, by rw [Option.map_some, add_mk], k2, by omega, fun i v hv => ?_⟩
      rw [List.getElem?_drop] at hv
      rw [Nat.add_assoc]
      exact k4 _ v hv
theorem zeros_len {T : Tbl} {e : Nat} (hz : (T.at e).zero.list.length = (T.at e).size) (q : Nat) : (zerosOf T e q).list.length = q * (T.at e).size := by
  unfold zerosOf
  split
  · rename_i h
    rw [h] at hz
    simp only [LC.list, List.length_cons, List.length_nil] at hz
    rw [← hz]
    simp [LC.list, intCells]
  · rename_i h
    rw [h] at hz
    simp only [LC.list, List.length_cons, List.length_nil] at hz
    rw [← hz]
    simp [LC.list, boolCells]
  · show ((List.range q).flatMap fun _ => (T.at e).zero.list).length = _
    rw [List.length_flatMap, List.map_const', List.sum_replicate_nat, List.length_range, hz]
/-- What an append to a slice of one's own asks, and what it leaves. -/
theorem Sep.app {T : Tbl} {e : Nat} {L : List Asn} {m : Mem} (h : Sep L m) (j : Nat) {A : Option Addr} {n c : Nat} {vs : List Value} (hj : L[j]? = some (sl A n c (T.at e).size vs)) {B : Option Addr} {k : Nat} {news : List Value}
    (hn : news.length = k * (T.at e).size) (hB : k * (T.at e).size = 0 ∨ ∃ p, B = some p ∧ m.holds p news) (one : oneCells news = true) (hbytes : Nat.blt 0 (T.at e).bytes = true) (hcap : 2 * (n + k) * (T.at e).bytes ≤ 2 ^ 48) (hz : (T.at e).zero.list.length = (T.at e).size) :
    AppOk T e m A n c B k news vs ∧ ∀ A' c' m2, AppR T e m A n c k news vs A' c' m2 → Sep (L.set j (sl A' (n + k) c' (T.at e).size (vs ++ news))) m2 := by
  have hA := h.asn j hj
  have hlen := hA.1
  have hnc := hA.2.1
  refine ⟨⟨hn, hB, fun hle => ?_, fun hlt => ⟨hbytes, ?_, hlen, sl_olds hA⟩⟩, fun A' c' m2 hR => ?_⟩
  · obtain ⟨h1, h2, h3⟩ := hA
    rcases h3 with ⟨rfl, rfl⟩ | ⟨b, o, l, e', rfl, k2, k3, k4⟩
    · exact .inl rfl
    · refine .inr ⟨_, rfl, ?_, one⟩
      rw [add_mk]
      refine Blk.room ⟨e', k2⟩ ?_
      have := Nat.mul_le_mul_right (T.at e).size hle
      rw [Nat.add_mul] at this
      omega
  · exact Nat.le_trans (Nat.mul_le_mul_right _ (nextslicecap_le hlt)) hcap
  · rcases hR with ⟨hle, rfl, rfl, hR⟩ | ⟨hlt, b, hcap', hb, rfl, rfl⟩
    · rcases hR with ⟨hA0, rfl⟩ | ⟨p, hp, rfl⟩
      · refine h.turn j hj fun m1 hm g => ?_
        obtain ⟨g1, g2, g3⟩ := g
        rcases g3 with ⟨_, g4⟩ | ⟨b', o', l', e', hh, _⟩
        · have hk0 : k = 0 := by omega
          subst hk0
          have : news = [] := List.length_eq_zero_iff.1 (by rw [hn, Nat.zero_mul])
          subst this
          exact ⟨by simpa using g1, by omega, .inl ⟨hA0, g4⟩⟩
        · rw [hA0] at hh; cases hh
      · obtain ⟨h1, h2, h3⟩ := hA
        rcases h3 with ⟨hh, _⟩ | ⟨b, o, l, e', hh, k2, k3, k4⟩
        · rw [hh] at hp; cases hp
        · rw [hh] at hp
          cases hp
          subst hh
          rw [add_mk]
          refine h.puts j hj (fun m1 hm g => ?_) fun m1 hm g => ?_
          · obtain ⟨g1, g2, g3⟩ := g
            rcases g3 with ⟨hh, _⟩ | ⟨b', o', l', e', hh, q2, _⟩
            · cases hh
            · cases hh
              rw [q2]
              simp
          · obtain ⟨g1, g2, g3⟩ := g
            rcases g3 with ⟨hh, _⟩ | ⟨b', o', l', e', hh, q2, q3, q4⟩
            · cases hh
            · cases hh
              have h5 := Nat.mul_le_mul_right (T.at e).size hle
              rw [Nat.add_mul] at h5
              obtain ⟨e2, h4⟩ := Blk.puts (i := o + n * (T.at e).size) (j := 0) news (m := m1) (b := b) (l := l') ⟨e', q2⟩
              refine ⟨by rw [List.length_append, g1, hn, Nat.add_mul], hle, .inr ⟨b, o, _, e2, rfl, h4, by rw [writeAt_len]; exact q3, fun i u hu => ?_⟩⟩
              rw [Nat.add_zero, writeAt_get _ _ _ _ (by omega)]
              rcases Nat.lt_or_ge i vs.length with hi | hi
              · rw [List.getElem?_append_left hi] at hu
                rw [if_neg (by omega)]
                exact q4 i u hu
              · rw [List.getElem?_append_right hi] at hu
                have := (List.getElem?_eq_some_iff.1 hu).1
                rw [if_pos (by omega), show o + i - (o + n * (T.at e).size) = i - vs.length by omega]
                exact hu
    · have h1 := (h.new (e := e) (l := vs ++ news ++ (zerosOf T e (c' - (n + k))).list) hb).drop (j + 1)
      have h2 : Sep (pt b (vs ++ news ++ (zerosOf T e (c' - (n + k))).list) :: L.eraseIdx j) (m.set b (.cells (vs ++ news ++ (zerosOf T e (c' - (n + k))).list).toArray e (0, 0))) := h1
      rw [← eraseIdx_insert hj]
      refine Sep.back (h2.turn 0 rfl fun m1 hm ⟨e', g⟩ => ?_) (len_erase hj)
      refine ⟨by rw [List.length_append, hlen, hn, Nat.add_mul], hcap', .inr ⟨b, 0, _, e', rfl, g, ?_, fun i u hu => ?_⟩⟩
      · rw [List.length_append, List.length_append, hlen, hn, zeros_len hz, ← Nat.add_mul, ← Nat.add_mul]
        rw [Nat.zero_add]
        exact Nat.mul_le_mul_right _ (by omega)
      · rw [Nat.zero_add, List.getElem?_append_left (List.getElem?_eq_some_iff.1 hu).1]
        exact hu
/-- A new block is a slice. -/
theorem Sep.slOf {L : List Asn} {m : Mem} (h : Sep L m) (j : Nat) {b n c sz : Nat} {l vs : List Value} (hj : L[j]? = some (pt b l)) (hv : vs.length = n * sz) (hn : n ≤ c) (hl : c * sz ≤ l.length) (hp : ∀ (k : Nat) v, vs[k]? = some v → l[k]? = some v) : Sep (L.set j (sl (some ⟨b, 0, none⟩) n c sz vs)) m :=
  h.turn j hj fun m1 _ ⟨e, g⟩ => ⟨hv, hn, .inr ⟨b, 0, l, e, rfl, g, by omega, fun k v hk => by rw [Nat.zero_add]; exact hp k v hk⟩⟩

/-! ### elements of several cells -/
theorem flat_len {α : Type} {f : α → List Value} {sz : Nat} (hf : ∀ x, (f x).length = sz) : ∀ xs : List α, (xs.flatMap f).length = xs.length * sz
  | [] => by simp
  | x :: r => by rw [List.flatMap_cons, List.length_append, hf, flat_len hf r, List.length_cons, Nat.add_mul]; omega
theorem flat_get {α : Type} {f : α → List Value} {sz : Nat} (hf : ∀ x, (f x).length = sz) : ∀ {xs : List α} {k o : Nat} {x : α}, xs[k]? = some x → o < sz → (xs.flatMap f)[k * sz + o]? = (f x)[o]?
  | [], _, _, _, h, _ => by simp at h
  | y :: r, 0, o, x, h, ho => by
    simp only [List.getElem?_cons_zero, Option.some.injEq] at h
    subst h
    rw [List.flatMap_cons, Nat.zero_mul, Nat.zero_add, List.getElem?_append_left (by rw [hf]; exact ho)]
  | y :: r, k + 1, o, x, h, ho => by
    simp only [List.getElem?_cons_succ] at h
    rw [List.flatMap_cons, List.getElem?_append_right (by rw [hf, Nat.add_mul]; omega), hf, ← flat_get hf h ho]
    congr 1
    rw [Nat.add_mul]
    omega
theorem flat_write {α : Type} {f : α → List Value} {sz : Nat} (hf : ∀ x, (f x).length = sz) {xs : List α} {k o : Nat} {x y : α} {cs : List Value} (hx : xs[k]? = some x) (ho : o + cs.length ≤ sz) (hy : writeAt (f x) o cs = f y) : writeAt (xs.flatMap f) (k * sz + o) cs = (xs.set k y).flatMap f := by
  have hk := (List.getElem?_eq_some_iff.1 hx).1
  have hlen := flat_len hf xs
  have hle : (k + 1) * sz ≤ xs.length * sz := Nat.mul_le_mul_right sz hk
  rw [Nat.add_mul] at hle
  apply List.ext_getElem?
  intro i
  rw [writeAt_get _ _ _ _ (by omega)]
  by_cases h0 : sz = 0
  · subst h0
    have h1 : cs.length = 0 := by omega
    rw [if_neg (by omega), List.getElem?_eq_none (by rw [hlen]; omega), List.getElem?_eq_none (by rw [flat_len hf]; omega)]
  · by_cases hi : i < xs.length * sz
    · have hq : i / sz < xs.length := Nat.div_lt_of_lt_mul (by rw [Nat.mul_comm]; exact hi)
      have hr : i % sz < sz := Nat.mod_lt _ (by omega)
      have hiq : i = (i / sz) * sz + i % sz := by have := Nat.div_add_mod i sz; rw [Nat.mul_comm] at this; omega
      generalize i / sz = q at *
      generalize i % sz = r at *
      subst hiq
      by_cases hqk : q = k
      · subst hqk
        rw [flat_get hf (xs := xs.set q y) (x := y) (by rw [List.getElem?_set_self hk]) hr, ← hy, writeAt_get _ _ _ _ (by rw [hf]; exact ho)]
        by_cases hc : o ≤ r ∧ r < o + cs.length
        · rw [if_pos (by omega), if_pos hc]
          congr 1
          omega
        · rw [if_neg (by omega), if_neg hc, flat_get hf hx hr]
      · obtain ⟨z, hz⟩ : ∃ z, xs[q]? = some z := ⟨_, List.getElem?_eq_getElem hq⟩
        have hne : ¬ (k * sz + o ≤ q * sz + r ∧ q * sz + r < k * sz + o + cs.length) := by
          intro hc
          rcases Nat.lt_or_gt_of_ne hqk with h1 | h1
          · have := Nat.mul_le_mul_right sz (show q + 1 ≤ k by omega)
            rw [Nat.add_mul] at this
            omega
          · have := Nat.mul_le_mul_right sz (show k + 1 ≤ q by omega)
            rw [Nat.add_mul] at this
            omega
        rw [if_neg hne, flat_get hf hz hr, flat_get hf (xs := xs.set k y) (x := z) (by rw [List.getElem?_set_ne (Ne.symm hqk)]; exact hz) hr]
    · have : cs.length ≤ sz := by omega
      rw [if_neg (by omega), List.getElem?_eq_none (by omega), List.getElem?_eq_none (by rw [flat_len hf]; simpa using hi)]
end Go.Mv
/- Mv: what comes in as an argument, opened: numbers, texts, arrays, structs, slices of them. -/
namespace Go.Mv
open Go Go.RowKit Go.ChangeShapes
/-- The cells of type t that were read in world w are f x, for some x with Q. -/
def Opens (P : Program) (w : World) (t : TypeId) {α : Type} (f : α → List Value) (Q : α → Prop) : Prop :=
  ∀ {H : Type} {enc : TypeId × Value → H} {base : Nat} {sp : Nat → Bool} {held : Bool} {fuel : Nat} {cs : List Value} {r : DataW H × List MemPlace}, DataW.trod enc P w base sp held fuel t cs = some r → ∃ x, cs = f x ∧ Q x
section
variable {P : Program} {w : World} {t e : TypeId}
theorem opens_int {k : IntKind} (ht : P.underlying t = some (.int k)) : Opens P w t (fun n : Int => [.int k n]) (fun n => (Lit.int k n).wf = true) := by
  intro H enc base sp held fuel cs r h
  obtain ⟨n, h1, _, h2⟩ := DataW.trod_int ht h
  exact ⟨n, h1, h2⟩
theorem opens_string (ht : P.underlying t = some .string) : Opens P w t (fun s : ByteArray => [.string s]) (fun s => s.size ≤ maxLen) := by
  intro H enc base sp held fuel cs r h
  obtain ⟨s, h1, _, h2⟩ := DataW.trod_string ht h
  exact ⟨s, h1, h2⟩
theorem opens_bool (ht : P.underlying t = some .bool) : Opens P w t (fun b : Bool => [.bool b]) (fun _ => True) := by
  intro H enc base sp held fuel cs r h
  cases fuel with
  | zero => simp [DataW.trod] at h
  | succ n =>
    unfold DataW.trod at h
    rw [ht] at h
    split at h <;> simp_all
theorem chunks {k : Nat} : ∀ (n : Nat) {cs : List Value}, cs.length = n * k → ∀ {α : Type} {f : α → List Value} {Q : α → Prop}, (∀ i, i < n → ∃ x, (cs.drop (i * k)).take k = f x ∧ Q x) → ∃ xs : List α, xs.length = n ∧ cs = xs.flatMap f ∧ ∀ x, x ∈ xs → Q x
  | 0, cs, hl, _, _, _, _ => ⟨[], rfl, by simpa using hl, fun x h => by cases h⟩
  | n + 1, cs, hl, α, f, Q, h => by
    obtain ⟨x, h1, h2⟩ := h 0 (by omega)
    rw [Nat.zero_mul, List.drop_zero] at h1
    obtain ⟨xs, g1, g2, g3⟩ := chunks (k := k) n (cs := cs.drop k) (by rw [List.length_drop, hl, Nat.add_mul]; omega) (f := f) (Q := Q) fun i hi => by
      obtain ⟨y, e1, e2⟩ := h (i + 1) (by omega)
      refine ⟨y, ?_, e2⟩
      rw [List.drop_drop, ← e1, Nat.add_mul, Nat.one_mul, Nat.add_comm k]
    refine ⟨x :: xs, by rw [List.length_cons, g1], ?_, fun y hy => ?_⟩
    · rw [List.flatMap_cons, ← h1, ← g2, List.take_append_drop]
    · rcases List.mem_cons.1 hy with rfl | hy
      · exact h2
      · exact g3 y hy
theorem opens_array {n : Nat} {α : Type} {f : α → List Value} {Q : α → Prop} (ht : P.underlying t = some (.array n e)) (hs : P.cellsOf t = n * P.cellsOf e) (he : Opens P w e f Q) : Opens P w t (fun xs : List α => xs.flatMap f) (fun xs => xs.length = n ∧ ∀ x, x ∈ xs → Q x) := by
  intro H enc base sp held fuel cs r h
  obtain ⟨ys, m, _, _, hl, hlen, hel⟩ := DataW.trod_array ht h
  obtain ⟨xs, g1, g2, g3⟩ := chunks (k := P.cellsOf e) n (cs := cs) (by rw [hl, hs]) (f := f) (Q := Q) fun i hi => by
    have h0 := hel i hi
    rw [List.getElem?_eq_getElem (by omega)] at h0
    exact he h0
  exact ⟨xs, g2, g1, g3⟩
/-- The fields of a struct from off on. -/
def OpensF (P : Program) (w : World) (fs : List Field) (off : Nat) {α : Type} (f : α → List Value) (Q : α → Prop) : Prop :=
  ∀ {H : Type} {enc : TypeId × Value → H} {base : Nat} {sp : Nat → Bool} {held : Bool} {fuel : Nat} {cs : List Value} {n : Nat}, cs.length = n → off + (fs.map fun x => P.cellsOf x.type).sum = n →
    (∀ x, x ∈ fs → ∃ r, DataW.trod enc P w base sp held fuel x.type ((cs.drop x.offset).take (P.cellsOf x.type)) = some r) → ∃ x, cs.drop off = f x ∧ Q x
theorem opens_nil {off : Nat} : OpensF P w [] off (fun _ : Unit => []) (fun _ => True) := by
  intro H enc base sp held fuel cs n h1 h2 _
  refine ⟨(), ?_, trivial⟩
  simp at h2
  exact List.drop_eq_nil_of_le (by omega)
theorem opens_cons {off : Nat} {x : Field} {fs : List Field} {α β : Type} {f : α → List Value} {Q : α → Prop} {g : β → List Value} {R : β → Prop} (ho : x.offset = off) (hx : Opens P w x.type f Q) (hr : OpensF P w fs (off + P.cellsOf x.type) g R) :
    OpensF P w (x :: fs) off (fun y : α × β => f y.1 ++ g y.2) (fun y => Q y.1 ∧ R y.2) := by
  intro H enc base sp held fuel cs n h1 h2 h
  obtain ⟨r, h3⟩ := h x (by simp)
  obtain ⟨a, h4, h5⟩ := hx h3
  obtain ⟨b, h6, h7⟩ := hr h1 (by rw [← h2, List.map_cons, List.sum_cons]; omega) fun y hy => h y (by simp [hy])
  refine ⟨(a, b), ?_, h5, h7⟩
  simp only
  rw [← h4, ← h6, ho, ← List.drop_drop, List.take_append_drop]
theorem opens_struct {fs : Array Field} {α : Type} {f : α → List Value} {Q : α → Prop} (ht : P.underlying t = some (.struct fs)) (hs : (fs.toList.map fun x => P.cellsOf x.type).sum = P.cellsOf t) (hf : OpensF P w fs.toList 0 f Q) : Opens P w t f Q := by
  intro H enc base sp held fuel cs r h
  obtain ⟨xs, n, _, _, hl, hlen, hfl⟩ := DataW.trod_struct ht h
  have := hf (n := P.cellsOf t) hl (by rw [Nat.zero_add, hs]) fun x hx => by
    obtain ⟨i, hi⟩ := List.mem_iff_getElem?.1 hx
    have h0 := hfl i x (by simpa using hi)
    have hlt : i < xs.length := by
      have := (List.getElem?_eq_some_iff.1 hi).1
      rw [hlen]
      simpa using this
    rw [List.getElem?_eq_getElem hlt] at h0
    exact ⟨_, h0⟩
  simpa using this
/-- A slice that came in: what can be read of it. -/
def IsSl {α : Type} (w : World) (f : α → List Value) (Q : α → Prop) (a : Option Addr) (n c : Nat) (zs : List α) : Prop := zs.length = n ∧ n ≤ c ∧ c ≤ maxLen ∧ Rd (whole w) a (zs.flatMap f) ∧ ∀ x, x ∈ zs → Q x
theorem opens_slice {α : Type} {f : α → List Value} {Q : α → Prop} (ht : P.underlying t = some (.slice e)) (he : Opens P w e f Q) (hl : ∀ x, Q x → (f x).length = P.cellsOf e) :
    Opens P w t (fun s : Option Addr × Nat × Nat × List α => [.slice s.1 s.2.1 s.2.2.1]) (fun s => IsSl w f Q s.1 s.2.1 s.2.2.1 s.2.2.2) := by
  intro H enc base sp held fuel cs r h
  rcases DataW.trod_slice ht h with ⟨hcs, _⟩ | ⟨x, len, cap, elems, rest, m, _, hcs, hx, hb, hlc, hm, hlen, hel, _, _⟩
  · exact ⟨(none, 0, 0, []), hcs, rfl, Nat.le_refl _, Nat.zero_le _, Rd.nil, fun x h => by cases h⟩
  · have one : ∀ i, i < len → ∃ y, Q y ∧ w.cells? base (x.add (i * P.cellsOf e)) (P.cellsOf e) = some (f y) := by
      intro i hi
      have h0 := hel i hi
      rw [List.getElem?_eq_getElem (by omega), Option.bind_eq_some_iff] at h0
      obtain ⟨cs', h1, h2⟩ := h0
      obtain ⟨y, rfl, hq⟩ := he h2
      exact ⟨y, hq, h1⟩
    have key : ∀ k, k ≤ len → ∃ zs : List α, zs.length = k ∧ (∀ y, y ∈ zs → Q y) ∧ ∀ (i : Nat) v, (zs.flatMap f)[i]? = some v → w.cell? (x.add i) = some v := by
      intro k
      induction k with
      | zero => exact fun _ => ⟨[], rfl, fun y h => (by cases h), fun i v h => by simp at h⟩
      | succ k ih =>
        intro hk'
        obtain ⟨zs, h1, h2, h3⟩ := ih (by omega)
        obtain ⟨y, hq, h4⟩ := one k (by omega)
        have hfl : (zs.flatMap f).length = k * P.cellsOf e := by
          rw [← h1]
          clear h1 h3
          induction zs with
          | nil => simp
          | cons z r ih2 => rw [List.flatMap_cons, List.length_append, hl z (h2 z (by simp)), ih2 fun y hy => h2 y (by simp [hy]), List.length_cons, Nat.add_mul]; omega
        refine ⟨zs ++ [y], by simp [h1], fun q hq' => ?_, fun i v hv => ?_⟩
        · rcases List.mem_append.1 hq' with h | h
          · exact h2 q h
          · rw [List.mem_singleton] at h; subst h; exact hq
        · rw [List.flatMap_append, List.flatMap_cons, List.flatMap_nil, List.append_nil] at hv
          rcases Nat.lt_or_ge i (k * P.cellsOf e) with hi | hi
          · rw [List.getElem?_append_left (by omega)] at hv
            exact h3 i v hv
          · rw [List.getElem?_append_right (by omega), hfl] at hv
            obtain ⟨_, h5⟩ := World.cells?_some h4
            have hilt := (List.getElem?_eq_some_iff.1 hv).1
            have := h5.2 (i - k * P.cellsOf e) (by rw [hl y hq] at hilt; exact hilt)
            rw [add_add, show k * P.cellsOf e + (i - k * P.cellsOf e) = i by omega] at this
            rw [this]
            exact hv
    obtain ⟨zs, h1, h2, h3⟩ := key len (Nat.le_refl _)
    refine ⟨(some x, len, cap, zs), hcs, h1, hlc, hm, .inr ⟨x, rfl, fun k v hk => ?_⟩, h2⟩
    rw [whole_cell]
    exact h3 k v hk
end
end Go.Mv
/- Mv: what comes in as an argument, opened, where each slice and text that is met takes at most reachBytes. -/
namespace Go.Mv
open Go Go.RowKit Go.ChangeShapes
/-- All that is weighed in a datum of this type. -/
def Wt (P : Program) {H : Type} (t : TypeId) (d : DataW H) : Prop := ∀ n ∈ d.weights P t, n ≤ reachBytes
theorem Wt.each {P : Program} {H : Type} {ts : List TypeId} {ds : List (DataW H)} (h : (DataW.weightsEach P ts ds).all (· ≤ reachBytes) = true) {j : Nat} {t : TypeId} {d : DataW H} (ht : ts[j]? = some t) (hd : ds[j]? = some d) : Wt P t d :=
  fun n hn => by
    have := List.all_eq_true.1 h n (DataW.weights_mem_each ht hd n hn)
    simpa using this
theorem weights_mem_all {P : Program} {H : Type} {e : TypeId} : ∀ {l : List (DataW H)} {d : DataW H}, d ∈ l → ∀ n ∈ d.weights P e, n ∈ DataW.weightsAll P e l
  | [], _, h, _, _ => by cases h
  | x :: r, d, h, n, hn => by
    rw [DataW.weightsAll, List.mem_append]
    rcases List.mem_cons.1 h with rfl | h
    · exact .inl hn
    · exact .inr (weights_mem_all h n hn)
theorem Wt.sl {P : Program} {H : Type} {t e : TypeId} {es sp : List (DataW H)} (hu : P.underlying t = some (.slice e)) (h : Wt P t (.slice es sp)) : es.length * P.bytesOf e ≤ reachBytes ∧ ∀ d, d ∈ es → Wt P e d := by
  unfold Wt at h
  rw [DataW.weights, hu] at h
  refine ⟨?_, fun d hd n hn => h n (by simp only [List.mem_cons, List.mem_append]; exact .inr (.inl (weights_mem_all hd n hn)))⟩
  have := h _ List.mem_cons_self
  exact Nat.le_trans (Nat.mul_le_mul_right _ (Nat.le_add_right _ _)) this
theorem Wt.agg {P : Program} {H : Type} {t : TypeId} {fs : Array Field} {ps : List (DataW H)} (hu : P.underlying t = some (.struct fs)) (h : Wt P t (.agg ps)) {i : Nat} {x : Field} {d : DataW H} (hx : fs.toList[i]? = some x) (hd : ps[i]? = some d) : Wt P x.type d := by
  unfold Wt at h ⊢
  rw [DataW.weights, hu] at h
  exact fun n hn => h n (DataW.weights_mem_each (by simp [hx]) hd n hn)
theorem Wt.arr {P : Program} {H : Type} {t e : TypeId} {k : Nat} {ps : List (DataW H)} (hu : P.underlying t = some (.array k e)) (h : Wt P t (.agg ps)) {d : DataW H} (hd : d ∈ ps) : Wt P e d := by
  unfold Wt at h ⊢
  rw [DataW.weights, hu] at h
  exact fun n hn => h n (weights_mem_all hd n hn)
theorem Wt.str {P : Program} {H : Type} {t : TypeId} {b : List UInt8} (h : Wt P t (.lit (.string b) : DataW H)) : b.length ≤ reachBytes := h _ (by simp [DataW.weights])
def OpensW (P : Program) (w : World) (t : TypeId) {α : Type} (f : α → List Value) (Q : α → Prop) : Prop :=
  ∀ {H : Type} {enc : TypeId × Value → H} {base : Nat} {sp : Nat → Bool} {held : Bool} {fuel : Nat} {cs : List Value} {r : DataW H × List MemPlace}, DataW.trod enc P w base sp held fuel t cs = some r → Wt P t r.1 → ∃ x, cs = f x ∧ Q x
section
variable {P : Program} {w : World} {t e : TypeId}
theorem Opens.wt {α : Type} {f : α → List Value} {Q : α → Prop} (h : Opens P w t f Q) : OpensW P w t f Q := fun h1 _ => h h1
theorem opensW_string (ht : P.underlying t = some .string) : OpensW P w t (fun s : ByteArray => [.string s]) (fun s => s.size ≤ reachBytes) := by
  intro H enc base sp held fuel cs r h h1
  obtain ⟨s, h2, rfl, h3⟩ := DataW.trod_string ht h
  have := h1.str
  exact ⟨s, h2, by simpa using this⟩
theorem opensW_array {n : Nat} {α : Type} {f : α → List Value} {Q : α → Prop} (ht : P.underlying t = some (.array n e)) (hs : P.cellsOf t = n * P.cellsOf e) (he : OpensW P w e f Q) : OpensW P w t (fun xs : List α => xs.flatMap f) (fun xs => xs.length = n ∧ ∀ x, x ∈ xs → Q x) := by
  intro H enc base sp held fuel cs r h h1
  obtain ⟨ys, m, _, rfl, hl, hlen, hel⟩ := DataW.trod_array ht h
  obtain ⟨xs, g1, g2, g3⟩ := chunks (k := P.cellsOf e) n (cs := cs) (by rw [hl, hs]) (f := f) (Q := Q) fun i hi => by
    have h0 := hel i hi
    rw [List.getElem?_eq_getElem (by omega)] at h0
    exact he h0 (h1.arr ht (List.mem_map_of_mem (List.getElem_mem _)))
  exact ⟨xs, g2, g1, g3⟩
def OpensFW (P : Program) (w : World) (fs : List Field) (off : Nat) {α : Type} (f : α → List Value) (Q : α → Prop) : Prop :=
  ∀ {H : Type} {enc : TypeId × Value → H} {base : Nat} {sp : Nat → Bool} {held : Bool} {fuel : Nat} {cs : List Value} {n : Nat}, cs.length = n → off + (fs.map fun x => P.cellsOf x.type).sum = n →
    (∀ x, x ∈ fs → ∃ r, DataW.trod enc P w base sp held fuel x.type ((cs.drop x.offset).take (P.cellsOf x.type)) = some r ∧ Wt P x.type r.1) → ∃ x, cs.drop off = f x ∧ Q x
theorem opensW_nil {off : Nat} : OpensFW P w [] off (fun _ : Unit => []) (fun _ => True) := by
  intro H enc base sp held fuel cs n h1 h2 _
  refine ⟨(), ?_, trivial⟩
  simp at h2
  exact List.drop_eq_nil_of_le (by omega)
theorem opensW_cons {off : Nat} {x : Field} {fs : List Field} {α β : Type} {f : α → List Value} {Q : α → Prop} {g : β → List Value} {R : β → Prop} (ho : x.offset = off) (hx : OpensW P w x.type f Q) (hr : OpensFW P w fs (off + P.cellsOf x.type) g R) :
    OpensFW P w (x :: fs) off (fun y : α × β => f y.1 ++ g y.2) (fun y => Q y.1 ∧ R y.2) := by
  intro H enc base sp held fuel cs n h1 h2 h
  obtain ⟨r, h3, h3'⟩ := h x (by simp)
  obtain ⟨a, h4, h5⟩ := hx h3 h3'
  obtain ⟨b, h6, h7⟩ := hr h1 (by rw [← h2, List.map_cons, List.sum_cons]; omega) fun y hy => h y (by simp [hy])
  refine ⟨(a, b), ?_, h5, h7⟩
  simp only
  rw [← h4, ← h6, ho, ← List.drop_drop, List.take_append_drop]
theorem opensW_struct {fs : Array Field} {α : Type} {f : α → List Value} {Q : α → Prop} (ht : P.underlying t = some (.struct fs)) (hs : (fs.toList.map fun x => P.cellsOf x.type).sum = P.cellsOf t) (hf : OpensFW P w fs.toList 0 f Q) : OpensW P w t f Q := by
  intro H enc base sp held fuel cs r h h1
  obtain ⟨xs, n, _, rfl, hl, hlen, hfl⟩ := DataW.trod_struct ht h
  have := hf (n := P.cellsOf t) hl (by rw [Nat.zero_add, hs]) fun x hx => by
    obtain ⟨i, hi⟩ := List.mem_iff_getElem?.1 hx
    have h0 := hfl i x (by simpa using hi)
    have hlt : i < xs.length := by
      have := (List.getElem?_eq_some_iff.1 hi).1
      rw [hlen]
      simpa using this
    rw [List.getElem?_eq_getElem hlt] at h0
    exact ⟨_, h0, h1.agg ht (i := i) (by simpa using hi) (by simp [hlt])⟩
  simpa using this
theorem opensW_slice {α : Type} {f : α → List Value} {Q : α → Prop} (ht : P.underlying t = some (.slice e)) (he : OpensW P w e f Q) (hl : ∀ x, Q x → (f x).length = P.cellsOf e) :
    OpensW P w t (fun s : Option Addr × Nat × Nat × List α => [.slice s.1 s.2.1 s.2.2.1]) (fun s => IsSl w f Q s.1 s.2.1 s.2.2.1 s.2.2.2 ∧ s.2.1 * P.bytesOf e ≤ reachBytes) := by
  intro H enc base sp held fuel cs r h h9
  rcases DataW.trod_slice ht h with ⟨hcs, _⟩ | ⟨x, len, cap, elems, rest, m, _, hcs, rfl, hb, hlc, hm, hlen, hel, _, _⟩
  · exact ⟨(none, 0, 0, []), hcs, ⟨rfl, Nat.le_refl _, Nat.zero_le _, Rd.nil, fun x h => by cases h⟩, by show 0 * _ ≤ _; omega⟩
  · obtain ⟨hX, hall⟩ := h9.sl ht
    have hX : len * P.bytesOf e ≤ reachBytes := by rw [List.length_map, hlen] at hX; exact hX
    have one : ∀ i, i < len → ∃ y, Q y ∧ w.cells? base (x.add (i * P.cellsOf e)) (P.cellsOf e) = some (f y) := by
      intro i hi
      have h0 := hel i hi
      rw [List.getElem?_eq_getElem (by omega), Option.bind_eq_some_iff] at h0
      obtain ⟨cs', h1, h2⟩ := h0
      obtain ⟨y, rfl, hq⟩ := he h2 (hall _ (List.mem_map_of_mem (List.getElem_mem _)))
      exact ⟨y, hq, h1⟩
    have key : ∀ k, k ≤ len → ∃ zs : List α, zs.length = k ∧ (∀ y, y ∈ zs → Q y) ∧ ∀ (i : Nat) v, (zs.flatMap f)[i]? = some v → w.cell? (x.add i) = some v := by
      intro k
      induction k with
      | zero => exact fun _ => ⟨[], rfl, fun y h => (by cases h), fun i v h => by simp at h⟩
      | succ k ih =>
        intro hk'
        obtain ⟨zs, h1, h2, h3⟩ := ih (by omega)
        obtain ⟨y, hq, h4⟩ := one k (by omega)
        have hfl : (zs.flatMap f).length = k * P.cellsOf e := by
          rw [← h1]
          clear h1 h3
          induction zs with
          | nil => simp
          | cons z r ih2 => rw [List.flatMap_cons, List.length_append, hl z (h2 z (by simp)), ih2 fun y hy => h2 y (by simp [hy]), List.length_cons, Nat.add_mul]; omega
        refine ⟨zs ++ [y], by simp [h1], fun q hq' => ?_, fun i v hv => ?_⟩
        · rcases List.mem_append.1 hq' with h | h
          · exact h2 q h
          · rw [List.mem_singleton] at h; subst h; exact hq
        · rw [List.flatMap_append, List.flatMap_cons, List.flatMap_nil, List.append_nil] at hv
          rcases Nat.lt_or_ge i (k * P.cellsOf e) with hi | hi
          · rw [List.getElem?_append_left (by omega)] at hv
            exact h3 i v hv
          · rw [List.getElem?_append_right (by omega), hfl] at hv
            obtain ⟨_, h5⟩ := World.cells?_some h4
            have hilt := (List.getElem?_eq_some_iff.1 hv).1
            have := h5.2 (i - k * P.cellsOf e) (by rw [hl y hq] at hilt; exact hilt)
            rw [add_add, show k * P.cellsOf e + (i - k * P.cellsOf e) = i by omega] at this
            rw [this]
            exact hv
    obtain ⟨zs, h1, h2, h3⟩ := key len (Nat.le_refl _)
    refine ⟨(some x, len, cap, zs), hcs, ⟨h1, hlc, hm, .inr ⟨x, rfl, fun k v hk => ?_⟩, h2⟩, hX⟩
    rw [whole_cell]
    exact h3 k v hk
end
end Go.Mv
