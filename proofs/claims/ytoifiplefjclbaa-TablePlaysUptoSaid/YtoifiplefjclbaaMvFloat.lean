/- Mv: a region that draws its order: heads that read, in any order; operations that come up one behind the other, and may come up among the heads; then a tail in its own order. -/
import Derived.Test.YtoifiplefjclbaaMvDraw
namespace Go.Mv
open Go
section
variable {P : Program} {ops : Array Oper} {md : Region.Mode} {ι : Type} {C : ι → World → Prop} {R : Nat → ι → Prop} {r : Option Nat} {Q : Exit → Act → World → Prop}

/-- One value, in every world of each class of A; the class is kept. -/
def YF (P : Program) (ops : Array Oper) (C : ι → World → Prop) (A : ι → Prop) (o : Oper) (v : Value) (a : Act) : Prop :=
  (Region.wanted o (yielded ops a.tmps) = true ∧ ∀ i w, A i → C i w → o.quietAt P a (C i) w v) ∨ (Region.wanted o (yielded ops a.tmps) = false ∧ v = undef)
def qF (P : Program) (ops : Array Oper) (C : ι → World → Prop) (R : Nat → ι → Prop) (i : Nat) (K : Act → Prop) (a : Act) : Prop := ∃ o v, ops[i]? = some o ∧ YF P ops C (R i) o v a ∧ K (a.put o.dst v)
theorem qF.one {i : Nat} {K : Act → Prop} {a : Act} {k : ι} (hk : R i k) (h : qF P ops C R i K a) : qOp P ops (C k) i K a := by
  obtain ⟨o, v, ho, hy, hK⟩ := h
  have : YieldsIn P ops (C k) o v a := hy.imp (fun h => ⟨h.1, fun w hw => h.2 k w hk hw⟩) id
  exact this.qOp ho hK
theorem YF.same {A : ι → Prop} {o : Oper} {v : Value} {a a' : Act} (hy : YF P ops C A o v a) (he : execOp a'.eval o = execOp a.eval o) (hw : Region.wanted o (yielded ops a'.tmps) = Region.wanted o (yielded ops a.tmps)) : YF P ops C A o v a' := by
  unfold YF Oper.quietAt at *
  rw [he, hw]
  exact hy
/-- The walk in the text's order. -/
def walkF (P : Program) (ops : Array Oper) (C : ι → World → Prop) (R : Nat → ι → Prop) : Nat → List Oper → Act → Act → Prop
  | _, [], a, b => a = b
  | k, o :: rest, a, b => ∃ v, YF P ops C (R k) o v a ∧ walkF P ops C R (k + 1) rest (a.put o.dst v) b
theorem qF_put {j : Nat} {oi oj : Oper} {A : ι → Prop} {v : Value} (hj : ops[j]? = some oj) (hap : oi.apart ops oj = true) (hsi : ∀ cs b, oi.op ≠ .select cs b) (hsj : ∀ cs b, oj.op ≠ .select cs b) {K : Act → Prop} {a : Act}
    (hy : YF P ops C A oi v a) (h : qF P ops C R j K (a.put oi.dst v)) : qF P ops C R j (fun a' => YF P ops C A oi v a' ∧ K (a'.put oi.dst v)) a := by
  obtain ⟨h1, h2, h3⟩ := Oper.apart_spec hap
  obtain ⟨o, u, ho, hu, hK⟩ := h
  rw [hj] at ho
  cases ho
  refine ⟨oj, u, hj, hu.same (execOp_put oj hsj a oi.dst v h1).symm (wanted_put oj a oi.dst v h1).symm, hy.same (execOp_put oi hsi a oj.dst u h3) (wanted_put oi a oj.dst u h3), ?_⟩
  rw [← Act.put_comm a v u h2]
  exact hK
theorem qF_mono {i : Nat} {a : Act} {K K' : Act → Prop} (h : ∀ a, K a → K' a) (hh : qF P ops C R i K a) : qF P ops C R i K' a := by
  obtain ⟨o, v, h1, h2, h3⟩ := hh
  exact ⟨o, v, h1, h2, h _ h3⟩
/-- The heads (below h), in any order; operation n may come up among them. -/
def anyF (P : Program) (md : Region.Mode) (ops : Array Oper) (C : ι → World → Prop) (R : Nat → ι → Prop) (h n : Nat) (L : Array Bool → Act → Prop) : Nat → Array Bool → Act → Prop
  | 0, listed, a => L listed a
  | f + 1, listed, a => (∃ i, i ∈ Region.ready md ops listed ∧ i < h) ∧ ∀ i ∈ Region.ready md ops listed, i = n ∨ (i < h ∧ qF P ops C R i (anyF P md ops C R h n L f (listed.setIfInBounds i true)) a)
theorem anyF_mono {h n : Nat} {L L' : Array Bool → Act → Prop} (hL : ∀ l a, L l a → L' l a) : ∀ (f : Nat) (listed : Array Bool) (a : Act), anyF P md ops C R h n L f listed a → anyF P md ops C R h n L' f listed a
  | 0, _, _, H => hL _ _ H
  | f + 1, _, _, H => ⟨H.1, fun i hi => (H.2 i hi).imp id fun ⟨h1, h2⟩ => ⟨h1, qF_mono (fun a' h3 => anyF_mono hL f _ a' h3) h2⟩⟩
theorem ready_le {n h : Nat} {listed : Array Bool} (hc : Region.chainB md ops h = true) (hn : h ≤ n) (inv : HeadInv md ops n listed) {j : Nat} (hj : j ∈ Region.ready md ops listed) : j ≤ n := by
  apply Nat.le_of_not_lt
  intro hlt
  obtain ⟨_, oj, hoj, hall⟩ := mem_ready.1 hj
  have hjl := (Array.getElem?_eq_some_iff.1 hoj).1
  have h1 := List.all_eq_true.1 hc j (List.mem_range.2 hjl)
  simp only [Bool.or_eq_true, decide_eq_true_eq] at h1
  rcases h1 with h1 | h1
  · omega
  · obtain ⟨o, ho, e, he, hb, hon⟩ := Region.waitsFor_spec h1
    rw [hoj] at ho
    cases ho
    have h2 := hall e he hb
    rw [hon] at h2
    have h3 := getD_both (inv.tail (j - 1) (by omega) (by omega))
    rw [h3] at h2
    cases h2
theorem anyF_first {n i : Nat} {oi : Oper} {v : Value} {L : Array Bool → Act → Prop} (hi : ops[i]? = some oi) (hsel : ∀ (j : Nat) (o : Oper) cs b, ops[j]? = some o → o.op ≠ .select cs b)
    (hc : Region.chainB md ops n = true) (hin : i < n) (hdone : ∀ listed a, L listed a → ∀ j ∈ Region.ready md ops listed, n ≤ j) :
    ∀ (f : Nat) (listed : Array Bool) (a : Act), HeadInv md ops n listed →
      (∀ j oj, ops[j]? = some oj → j ≠ i → listed.getD j true = false → (∀ e ∈ oj.after, Region.binds md e = true → e.on ≠ i) → oi.apart ops oj = true) →
      i ∈ Region.ready md ops listed → YF P ops C (R i) oi v a → anyF P md ops C R n n L f (listed.setIfInBounds i true) (a.put oi.dst v) → anyF P md ops C R n n L (f + 1) listed a := by
  intro f
  induction f with
  | zero =>
    intro listed a inv _ hr hy H
    refine ⟨⟨i, hr, hin⟩, fun j hj => ?_⟩
    have hjn := ready_le hc (Nat.le_refl n) inv hj
    by_cases hji : j = i
    · subst hji; exact .inr ⟨hin, oi, v, hi, hy, H⟩
    · have := hdone _ _ H j (ready_mono hj hji)
      exact .inl (by omega)
  | succ f ih =>
    intro listed a inv hfree hr hy H
    have hun := (mem_ready.1 hr).1
    refine ⟨⟨i, hr, hin⟩, fun j hj => ?_⟩
    have hjn := ready_le hc (Nat.le_refl n) inv hj
    by_cases hji : j = i
    · subst hji; exact .inr ⟨hin, oi, v, hi, hy, H⟩
    · rcases H.2 j (ready_mono hj hji) with h | ⟨hjn', h⟩
      · exact .inl h
      · obtain ⟨hjun, oj, hoj, hall⟩ := mem_ready.1 hj
        have hnot : ∀ e ∈ oj.after, Region.binds md e = true → e.on ≠ i := fun e he hb heq => by
          have h1 := hall e he hb
          rw [heq, getD_both hun] at h1
          cases h1
        have h2 := qF_put hoj (hfree j oj hoj hji hjun hnot) (fun cs b => hsel i oi cs b hi) (fun cs b => hsel j oj cs b hoj) hy h
        refine .inr ⟨hjn', qF_mono (fun a' h3 => ih (listed.setIfInBounds j true) a' (inv.set hj hjn') (fun k ok hk hki hu hno => hfree k ok hk hki ?_ hno) (ready_mono hr (Ne.symm hji)) h3.1 ?_) h2⟩
        · by_cases hjk : j = k
          · subst hjk; exact hjun
          · rwa [getD_set_ne true hjk] at hu
        · rw [Array.setIfInBounds_comm _ _ hji]
          exact h3.2
theorem anyF_lex {n g : Nat} {b : Act} (hsel : Region.noSelect ops = true) (hc : Region.chainB md ops n = true) :
    ∀ (l : List Oper) (k : Nat) (listed : Array Bool) (a : Act), (∀ j, j < l.length → l[j]? = ops[k + j]?) → k + l.length = n → HeadInv md ops n listed → Region.lexHead md ops g l.length k listed = true → walkF P ops C R k l a b →
    anyF P md ops C R n n (fun listed' a' => Region.seqB md ops g n listed' = true ∧ a' = b) l.length listed a
  | [], k, listed, a, _, hk, _, hB, h => by
    have : k = n := by simpa using hk
    subst this
    exact ⟨by simpa [Region.lexHead] using hB, h⟩
  | o :: l, k, listed, a, hl, hk, inv, hB, h => by
    have h0 : ops[k]? = some o := by simpa using (hl 0 (by simp)).symm
    simp only [List.length_cons, Region.lexHead, Bool.and_eq_true] at hB
    have hkn : k < n := by simp only [List.length_cons] at hk; omega
    have hr' : k ∈ Region.ready md ops listed := by simpa using hB.1.1
    obtain ⟨v, hy, hK⟩ := h
    exact anyF_first h0 (Region.noSelect_spec hsel) hc hkn (fun listed' a' hL => seqB_ready hL.1) l.length listed a inv (Region.free_spec h0 hB.1.2) hr' hy
      (anyF_lex hsel hc l (k + 1) _ _ (fun j hj => by have := hl (j + 1) (by simp; omega); simpa [Nat.add_assoc, Nat.add_comm 1 j] using this) (by simp only [List.length_cons] at hk; omega) (inv.set hr' hkn) hB.2 hK)
/-- What is to be so of operation n among the heads: no head waits for it; it waits for each that is not apart from it. -/
def floatAt (md : Region.Mode) (ops : Array Oper) (h n : Nat) : Bool :=
  match ops[n]? with
  | some o => o.guard.isNone && (List.range h).all fun i => match ops[i]? with
    | some oi => !Region.waitsFor md ops i n && (Region.waitsFor md ops n i || o.apart ops oi)
    | none => false
  | none => false
theorem floatAt_spec {h n : Nat} (hB : floatAt md ops h n = true) : ∃ on, ops[n]? = some on ∧ on.guard = none ∧ ∀ i oi, i < h → ops[i]? = some oi → Region.waitsFor md ops i n = false ∧ (Region.waitsFor md ops n i = true ∨ on.apart ops oi = true) := by
  unfold floatAt at hB
  split at hB
  · rename_i o ho
    simp only [Bool.and_eq_true, List.all_eq_true, List.mem_range, Option.isNone_iff_eq_none] at hB
    refine ⟨o, ho, hB.1, fun i oi hi hoi => ?_⟩
    have := hB.2 i hi
    rw [hoi] at this
    simp only [Bool.and_eq_true, Bool.not_eq_true', Bool.or_eq_true] at this
    exact this
  · cases hB
/-- Who is waited for and is not through keeps back the one that waits. -/
theorem not_waits {n i : Nat} {listed : Array Bool} (hn : n ∈ Region.ready md ops listed) (hi : listed.getD i true = false) : Region.waitsFor md ops n i = false := by
  cases hw : Region.waitsFor md ops n i with
  | false => rfl
  | true =>
    obtain ⟨o', ho', e, he, hb, hon⟩ := Region.waitsFor_spec hw
    obtain ⟨_, o2, ho2, hall2⟩ := mem_ready.1 hn
    rw [ho'] at ho2
    cases ho2
    have h3 := hall2 e he hb
    rw [hon, getD_both hi] at h3
    cases h3
/-- Operation n has come up: the heads that are left do as they did. -/
theorem anyF_shift {h n : Nat} {on : Oper} {v : Value} {L : Array Bool → Act → Prop} (hon : ops[n]? = some on) (hhn : h ≤ n) (hsel : ∀ (j : Nat) (o : Oper) cs b, ops[j]? = some o → o.op ≠ .select cs b)
    (hc : Region.chainB md ops h = true) (hw : ∀ i oi, i < h → ops[i]? = some oi → Region.waitsFor md ops i n = false ∧ (Region.waitsFor md ops n i = true ∨ on.apart ops oi = true)) :
    ∀ (f : Nat) (listed : Array Bool) (a : Act), HeadInv md ops n listed → (∀ t, h ≤ t → t < n → listed.getD t false = true) → n ∈ Region.ready md ops listed → anyF P md ops C R h n L f listed a →
      anyF P md ops C R h (n + 1) (fun l' a' => ∃ l0 a0, l' = l0.setIfInBounds n true ∧ a' = a0.put on.dst v ∧ L l0 a0) f (listed.setIfInBounds n true) (a.put on.dst v)
  | 0, listed, a, _, _, _, H => ⟨listed, a, rfl, rfl, H⟩
  | f + 1, listed, a, inv, hfl, hr, H => by
    obtain ⟨⟨i0, hi0, hi0n⟩, H⟩ := H
    have hnsz : n < listed.size := by rw [inv.size]; exact (Array.getElem?_eq_some_iff.1 hon).1
    refine ⟨⟨i0, ready_mono hi0 (by omega), hi0n⟩, fun i hi => ?_⟩
    obtain ⟨hiun, oi, hoi, hall⟩ := mem_ready.1 hi
    have hine : i ≠ n := by
      rintro rfl
      have : (listed.setIfInBounds i true).getD i true = true := by simp [hnsz]
      rw [this] at hiun
      cases hiun
    have hiun' : listed.getD i true = false := by rwa [getD_set_ne true (Ne.symm hine)] at hiun
    by_cases hin : i < h
    · obtain ⟨w1, w2⟩ := hw i oi hin hoi
      have hri : i ∈ Region.ready md ops listed := by
        refine mem_ready.2 ⟨hiun', oi, hoi, fun e he hb => ?_⟩
        have h1 := hall e he hb
        by_cases hen : n = e.on
        · have : Region.waitsFor md ops i n = true := by
            unfold Region.waitsFor
            rw [hoi]
            simp only [Array.any_eq_true']
            exact ⟨e, he, by simp [hb, hen]⟩
          rw [this] at w1
          cases w1
        · rwa [getD_set_ne false hen] at h1
      have hap : on.apart ops oi = true := by
        rcases w2 with h2 | h2
        · rw [not_waits hr hiun'] at h2; cases h2
        · exact h2
      rcases H i hri with h3 | ⟨_, o2, u, ho2, hu, hK⟩
      · exact absurd h3 hine
      rw [hoi] at ho2
      cases ho2
      obtain ⟨a1, a2, a3⟩ := Oper.apart_spec hap
      refine .inr ⟨hin, oi, u, hoi, hu.same (execOp_put oi (fun cs b => hsel i oi cs b hoi) a on.dst v a1) (wanted_put oi a on.dst v a1), ?_⟩
      rw [Array.setIfInBounds_comm _ _ (Ne.symm hine), Act.put_comm a v u a2]
      refine anyF_shift hon hhn hsel hc hw f _ _ ⟨by simp [inv.size], fun j oj hj hl e he hb => ?_, fun t h1 h2 => by rw [getD_set_ne true (by omega)]; exact inv.tail t h1 h2⟩ (fun t h1 h2 => getD_set_true (hfl t h1 h2)) (ready_mono hr (Ne.symm hine)) hK
      by_cases hij : i = j
      · subst hij
        rw [hoi] at hj
        cases hj
        have h1 := (mem_ready.1 hri).2
        obtain ⟨o3, ho3, hall3⟩ := h1
        rw [hoi] at ho3
        cases ho3
        exact getD_set_true (hall3 e he hb)
      · rw [getD_set_ne false hij] at hl
        exact getD_set_true (inv.closed j oj hj hl e he hb)
    · left
      by_cases hin2 : i < n
      · have h4 := hfl i (by omega) hin2
        rw [getD_both hiun'] at h4
        cases h4
      · apply Classical.byContradiction
        intro hne
        have hjl := (Array.getElem?_eq_some_iff.1 hoi).1
        have h1 := List.all_eq_true.1 hc i (List.mem_range.2 hjl)
        simp only [Bool.or_eq_true, decide_eq_true_eq] at h1
        rcases h1 with h1 | h1
        · omega
        · have := not_waits hi (i := i - 1) (by rw [getD_set_ne true (by omega)]; exact inv.tail (i - 1) (by omega) (by omega))
          rw [this] at h1
          cases h1
/-- What operation n does is the same wherever it comes up. -/
theorem anyF_reach {h n : Nat} {on : Oper} {L : Array Bool → Act → Prop} (hn : ops[n]? = some on) (hhn : h ≤ n) (hsel : ∀ (j : Nat) (o : Oper) cs b, ops[j]? = some o → o.op ≠ .select cs b)
    (hw : ∀ i oi, i < h → ops[i]? = some oi → Region.waitsFor md ops i n = false ∧ (Region.waitsFor md ops n i = true ∨ on.apart ops oi = true)) :
    ∀ (f : Nat) (listed : Array Bool) (a : Act), n ∈ Region.ready md ops listed → anyF P md ops C R h n L f listed a → ∃ listed' a', L listed' a' ∧ execOp a'.eval on = execOp a.eval on
  | 0, listed, a, _, H => ⟨listed, a, H, rfl⟩
  | f + 1, listed, a, hr, H => by
    obtain ⟨⟨i, hi, hin⟩, H⟩ := H
    rcases H i hi with h3 | ⟨_, oi, u, hoi, hu, hK⟩
    · omega
    have hap : on.apart ops oi = true := by
      rcases (hw i oi hin hoi).2 with h2 | h2
      · rw [not_waits hr (mem_ready.1 hi).1] at h2; cases h2
      · exact h2
    obtain ⟨a1, a2, a3⟩ := Oper.apart_spec hap
    obtain ⟨l', a', hL, he⟩ := anyF_reach hn hhn hsel hw f _ _ (ready_mono hr (by omega)) hK
    exact ⟨l', a', hL, he.trans (execOp_put on (fun cs b => hsel n on cs b hn) a oi.dst u a3)⟩
/-- An operation that comes to an end by itself. -/
def RunTo (P : Program) (o : Oper) (b : Act) (w : World) (v : Value) (w1 : World) : Prop := (execOp b.eval o).run P w = .ok (.value v) w1 ∨ ((execOp b.eval o).run P w = .ok .skip w1 ∧ v = undef)
theorem RunTo.wp {o : Oper} {a : Act} {w w1 : World} {v : Value} {K : Act → World → Prop} (hnd : ∀ c, o.op ≠ .defer c) (h : RunTo P o a w v w1) (hK : K (a.put o.dst v) w1) : o.wpIn (Fr r) 0 P a w K Q := by
  refine ⟨fun f _ => trivial, ?_⟩
  rw [Oper.semAt_eq _ _ _ hnd]
  rcases h with h | ⟨h, rfl⟩ <;> rw [h] <;> exact hK
/-- The operations that come up one behind the other. -/
def FloatH (P : Program) (md : Region.Mode) (ops : Array Oper) (C : ι → World → Prop) (R : Nat → ι → Prop) (r : Option Nat) (Q : Exit → Act → World → Prop) (h : Nat) (tail : List Oper) : Nat → List Oper → Act → ι → Prop
  | _, [], b, k => ∀ w, C k w → wpListIn (Fr r) 0 P ops Q tail b w
  | n, o :: os, b, k => ∀ w, C k w → ∃ v k' w1, RunTo P o b w v w1 ∧ C k' w1 ∧ (∀ i, i < h → Region.waitsFor md ops n i = false → R i k → R i k') ∧ FloatH P md ops C R r Q h tail (n + 1) os (b.put o.dst v) k'
theorem run_float {h e : Nat} {tail : List Oper} (hsel : ∀ (j : Nat) (o : Oper) cs b, ops[j]? = some o → o.op ≠ .select cs b) (hc : Region.chainB md ops h = true) (hs : Region.sinkB md ops e = true) (he : e < ops.size)
    (hfl : ∀ n, h ≤ n → n < e → floatAt md ops h n = true) (htl : ∀ j, tail[j]? = ops[e + j]?) :
    ∀ (os : List Oper) (n : Nat), n + os.length = e → h ≤ n → (∀ j, j < os.length → os[j]? = ops[n + j]?) → (∀ o, o ∈ os → ∀ c, o.op ≠ .defer c) →
    ∀ (f : Nat) (listed : Array Bool) (a b : Act) (k : ι) (w : World), HeadInv md ops n listed → (∀ t, h ≤ t → t < n → listed.getD t false = true) →
      anyF P md ops C R h n (fun l' a' => Region.seqB md ops (os.length + tail.length) n l' = true ∧ a' = b) f listed a → (∀ i, i < h → listed.getD i true = false → R i k) → FloatH P md ops C R r Q h tail n os b k → C k w →
      wpAnyIn (Fr r) 0 P md ops Q (f + (os.length + tail.length)) listed a w := by
  intro os
  induction os with
  | nil =>
    intro n hne hhn _ _ f
    have hn : n = e := by simpa using hne
    subst hn
    induction f with
    | zero =>
      intro listed a b k w inv _ H _ hF hC
      obtain ⟨hq, rfl⟩ := H
      simp only [List.length_nil, Nat.zero_add] at hq ⊢
      exact anyIn_of_seq tail n listed a w htl hq (hF w hC)
    | succ f ih =>
      intro listed a b k w inv hfd H hR hF hC
      rw [show f + 1 + (([] : List Oper).length + tail.length) = (f + (([] : List Oper).length + tail.length)) + 1 by omega]
      obtain ⟨⟨i0, hi0, hi0n⟩, H⟩ := H
      have hcn : Region.chainB md ops n = true := by
        rw [Region.chainB, List.all_eq_true] at hc ⊢
        intro t ht
        have := hc t ht
        simp only [Bool.or_eq_true, decide_eq_true_eq] at this ⊢
        exact this.imp (fun h => by omega) id
      refine ⟨fun h1 => absurd h1 (List.ne_nil_of_mem hi0), fun i hi => ?_⟩
      have hin : i < n := Nat.lt_of_not_le fun hle => tail_waits hs hcn he inv _ i0 rfl (by omega) (mem_ready.1 hi0).1 i hle hi
      rcases H i hi with h3 | ⟨hih, hq⟩
      · omega
      · exact wpOpIn_of_qOp hC (fun a2 w2 hC2 h2 => ih _ a2 b k w2 (inv.set hi hin) (fun t h1 h2 => getD_set_true (hfd t h1 h2)) h2 (fun j hj hjl => hR j hj (by
          by_cases hij : i = j
          · subst hij; exact (mem_ready.1 hi).1
          · rwa [getD_set_ne true hij] at hjl)) hF hC2) (hq.one (hR i hih (mem_ready.1 hi).1))
  | cons on os ihos =>
    intro n hne hhn hos hnd f
    simp only [List.length_cons] at hne
    have hon : ops[n]? = some on := by simpa using (hos 0 (by simp)).symm
    obtain ⟨on', hon', hguard, hw⟩ := floatAt_spec (hfl n hhn (by omega))
    rw [hon] at hon'
    cases hon'
    have hndn := hnd on List.mem_cons_self
    -- operation n comes up
    have up : ∀ (f : Nat) (listed : Array Bool) (a b : Act) (k : ι) (w : World), HeadInv md ops n listed → (∀ t, h ≤ t → t < n → listed.getD t false = true) → n ∈ Region.ready md ops listed →
        anyF P md ops C R h n (fun l' a' => Region.seqB md ops ((on :: os).length + tail.length) n l' = true ∧ a' = b) f listed a → (∀ i, i < h → listed.getD i true = false → R i k) → FloatH P md ops C R r Q h tail n (on :: os) b k → C k w →
        wpOpIn (Fr r) 0 P ops Q n (wpAnyIn (Fr r) 0 P md ops Q (f + (os.length + tail.length)) (listed.setIfInBounds n true)) a w := by
      intro f listed a b k w inv hfd hr H hR hF hC
      obtain ⟨l', a1, ⟨_, hL⟩, hex⟩ := anyF_reach hon hhn hsel hw f listed a hr H
      subst hL
      obtain ⟨v, k', w1, h1, h2, h3, h4⟩ := hF w hC
      have h1 : RunTo P on a w v w1 := by unfold RunTo at h1 ⊢; rw [hex] at h1; exact h1
      unfold wpOpIn
      simp only [hon]
      rw [if_pos (by simp [Region.wanted, hguard])]
      refine RunTo.wp hndn h1 ?_
      have hnsz : n < listed.size := by rw [inv.size]; exact (Array.getElem?_eq_some_iff.1 hon).1
      obtain ⟨_, on2, hon2, hall0⟩ := mem_ready.1 hr
      rw [hon] at hon2
      cases hon2
      have inv1 : HeadInv md ops (n + 1) (listed.setIfInBounds n true) := by
        refine ⟨by simp [inv.size], fun j oj hj hl e he hb => ?_, fun t h1 h2 => by rw [getD_set_ne true (by omega)]; exact inv.tail t (by omega) h2⟩
        by_cases hjn : n = j
        · subst hjn
          rw [hon] at hj
          cases hj
          exact getD_set_true (hall0 e he hb)
        · rw [getD_set_ne false hjn] at hl
          exact getD_set_true (inv.closed j oj hj hl e he hb)
      refine ihos (n + 1) (by omega) (by omega) (fun j hj => by have := hos (j + 1) (by simp; omega); simpa [Nat.add_assoc, Nat.add_comm 1 j] using this) (fun o ho => hnd o (List.mem_cons_of_mem _ ho)) f _ _ (a1.put on.dst v) k' w1 inv1 (fun t h1 h2 => ?_) ?_ (fun i hi hil => ?_) h4 h2
      · by_cases htn : n = t
        · subst htn; simp [hnsz]
        · exact getD_set_true (hfd t h1 (by omega))
      · refine anyF_mono (fun l2 a2 ⟨l0, a0, e1, e2, e3, e4⟩ => ?_) _ _ _ (anyF_shift (v := v) hon hhn hsel hc hw f listed a inv hfd hr H)
        subst e1 e2 e4
        simp only [List.length_cons, show os.length + 1 + tail.length = (os.length + tail.length) + 1 by omega, Region.seqB, Bool.and_eq_true] at e3
        exact ⟨e3.2, rfl⟩
      · have hil' : listed.getD i true = false := by rwa [getD_set_ne true (by omega)] at hil
        exact h3 i hi (not_waits hr hil') (hR i hi hil')
    induction f with
    | zero =>
      intro listed a b k w inv hfd H hR hF hC
      have hq := H.1
      simp only [List.length_cons, show os.length + 1 + tail.length = (os.length + tail.length) + 1 by omega, Region.seqB, Bool.and_eq_true, decide_eq_true_eq] at hq
      rw [Nat.zero_add]
      rw [show (on :: os).length + tail.length = (os.length + tail.length) + 1 by simp; omega]
      refine ⟨fun h1 => (by rw [hq.1] at h1; cases h1), fun i hi => ?_⟩
      have hr : n ∈ Region.ready md ops listed := by rw [hq.1]; simp
      rw [hq.1] at hi
      have hik : i = n := by simpa using hi
      subst hik
      have := up 0 listed a b k w inv hfd hr H hR hF hC
      rwa [Nat.zero_add] at this
    | succ f ih =>
      intro listed a b k w inv hfd H hR hF hC
      rw [show f + 1 + ((on :: os).length + tail.length) = (f + 1 + (os.length + tail.length)) + 1 by simp; omega]
      have H' := H
      obtain ⟨⟨i0, hi0, _⟩, H⟩ := H
      refine ⟨fun h1 => absurd h1 (List.ne_nil_of_mem hi0), fun i hi => ?_⟩
      rcases H i hi with rfl | ⟨hih, hq⟩
      · exact up (f + 1) listed a b k w inv hfd hi H' hR hF hC
      · rw [show f + 1 + (os.length + tail.length) = f + ((on :: os).length + tail.length) by simp; omega]
        exact wpOpIn_of_qOp hC (fun a2 w2 hC2 h2 => ih _ a2 b k w2 (inv.set hi (by omega)) (fun t h1 h2 => getD_set_true (hfd t h1 h2)) h2 (fun j hj hjl => hR j hj (by
          by_cases hij : i = j
          · subst hij; exact (mem_ready.1 hi).1
          · rwa [getD_set_ne true hij] at hjl)) hF hC2) (hq.one (hR i hih (mem_ready.1 hi).1))
/-- h heads, then p operations that may come up among them. -/
def floatB (md : Region.Mode) (ops : Array Oper) (h p : Nat) : Bool :=
  Region.noSelect ops && (decide (h + p < ops.size) && (Region.sinkB md ops (h + p) && (Region.chainB md ops h && (Region.lexHead md ops (ops.size - h) h 0 (Array.replicate ops.size false) && (List.range p).all fun q => floatAt md ops h (h + q)))))
/-- The region. -/
theorem wpIn_float {id h p : Nat} {a b : Act} {w : World} {l : List Oper} {k0 : ι} (hm : P.follows .mixedOrders = true) (hB : floatB .any l.toArray h p = true) (hC : C k0 { w with drawn := w.drawn + 1 })
    (hR : ∀ i, i < h → R i k0) (hwalk : walkF P l.toArray C R 0 (l.take h) a b) (hF : FloatH P .any l.toArray C R r Q h (l.drop (h + p)) h ((l.drop h).take p) b k0)
    (hnd : ∀ o, o ∈ (l.drop h).take p → ∀ c, o.op ≠ .defer c) : (Code.region id l.toArray true).wpIn (Fr r) 0 P Q a w := by
  simp only [floatB, Bool.and_eq_true, decide_eq_true_eq, List.all_eq_true, List.mem_range] at hB
  obtain ⟨hsel0, hsz, hs, hc, hlex, hfl⟩ := hB
  have hnl : h + p < l.length := by simpa using hsz
  have htl : (l.take h).length = h := by simp; omega
  have hpl : ((l.drop h).take p).length = p := by simp; omega
  have hdl : (l.drop (h + p)).length = l.length - (h + p) := by simp
  have inv0 : HeadInv .any l.toArray h (Array.replicate l.toArray.size false) :=
    ⟨by simp, fun j oj _ hl => (by rw [getD_replicate_false] at hl; cases hl), fun t _ ht => getD_in (by simpa using ht) (getD_replicate_false _ _)⟩
  have H := anyF_lex (md := .any) (g := l.toArray.size - h) (b := b) hsel0 hc (l.take h) 0 _ a (fun j hj => by
    have hj' : j < h := by rw [htl] at hj; exact hj
    simp [hj']) (by simpa using htl) inv0 (by rw [htl]; exact hlex) hwalk
  refine wpIn_region_any hm ?_
  have hsum : ((l.drop h).take p).length + (l.drop (h + p)).length = l.toArray.size - h := by rw [hpl, hdl]; simp; omega
  rw [← hsum] at H
  have := run_float (r := r) (Q := Q) (Region.noSelect_spec hsel0) hc hs hsz (fun n h1 h2 => by
    have := hfl (n - h) (by omega)
    rwa [show h + (n - h) = n by omega] at this) (tail := l.drop (h + p)) (fun j => by simp [List.getElem?_drop]) ((l.drop h).take p) h (by rw [hpl]) (Nat.le_refl h) (fun j hj => by
    rw [hpl] at hj
    rw [List.getElem?_take, if_pos hj, List.getElem?_drop]
    simp) hnd (l.take h).length _ a b k0 _ inv0 (fun t h1 h2 => by omega) H (fun i hi _ => hR i hi) hF hC
  rw [htl, hpl, hdl, show h + (p + (l.length - (h + p))) = l.toArray.size by simp; omega] at this
  exact this
end
end Go.Mv
