/- Table: the plain law of the document's entries. -/
import Derived.Test.YtoifiplefjclbaaTbS
namespace Go.Proofs.Ytoifiplefjclbaa
open Go Go.Mv
set_option maxHeartbeats 1000000
set_option linter.unusedVariables false
set_option linter.unusedSimpArgs false
theorem cmpL_lex : ∀ {a b : List Int}, a.length = b.length → cmpL a b = lexC a b
  | [], [], _ => rfl
  | [], _ :: _, h => by simp at h
  | _ :: _, [], h => by simp at h
  | a :: r, b :: s, h => by
    have ih := cmpL_lex (a := r) (b := s) (by simpa using h)
    simp only [cmpL, lexC]
    rcases cmpI_cases a b with ⟨h1, e⟩ | ⟨h1, e⟩ | ⟨h1, e⟩
    · rw [if_pos h1, e]; simp
    · rw [if_neg (by omega), if_neg (by omega), e, if_pos rfl, ih]
    · rw [if_neg (by omega), if_pos h1, e]; simp
/-- Where a key stands, or would stand. -/
def pos (ks : List Int) : List (List Int × Int) → Nat
  | [] => 0
  | e :: r => if 0 ≤ lexC e.1 ks then 0 else pos ks r + 1
def there (ks : List Int) (es : List (List Int × Int)) : Bool := match es[pos ks es]? with
  | some e => decide (e.1 = ks)
  | none => false
theorem pos_le (ks : List Int) : ∀ es : List (List Int × Int), pos ks es ≤ es.length
  | [] => Nat.le_refl _
  | e :: r => by
    have := pos_le ks r
    unfold pos
    split
    · exact Nat.zero_le _
    · simp; omega
theorem lex_pos {a b : List Int} (h : ¬ lexC a b < 0) (hne : a ≠ b) : lexC b a < 0 := by
  have h1 := lexC_neg a b
  have h2 : lexC a b ≠ 0 := fun e => hne (lexC_zero e)
  omega
theorem lex_trans {a b c : List Int} (h : lexC a b < 0) (k : lexC b c < 0) : lexC a c < 0 := (lexC_le_trans (by omega) (by omega)).2 (.inl h)
abbrev Srt (es : List (List Int × Int)) : Prop := es.Pairwise fun a b => lexC a.1 b.1 < 0
/-- What stands ahead is less, what stands behind is not. -/
theorem pos_split {ks : List Int} : ∀ {es : List (List Int × Int)}, Srt es → (∀ x, x ∈ es.take (pos ks es) → lexC x.1 ks < 0) ∧ ∀ x, x ∈ es.drop (pos ks es) → x.1 = ks ∨ lexC ks x.1 < 0
  | [], _ => ⟨fun x h => (by simp at h), fun x h => by simp at h⟩
  | e :: r, h => by
    obtain ⟨h1, h2⟩ := List.pairwise_cons.1 h
    obtain ⟨g1, g2⟩ := pos_split (ks := ks) h2
    unfold pos
    by_cases hc : 0 ≤ lexC e.1 ks
    · rw [if_pos hc]
      refine ⟨fun x hx => (by simp at hx), fun x hx => ?_⟩
      rw [List.drop_zero] at hx
      have he : e.1 = ks ∨ lexC ks e.1 < 0 := by
        by_cases hek : e.1 = ks
        · exact .inl hek
        · exact .inr (lex_pos (by omega) hek)
      rcases List.mem_cons.1 hx with rfl | hx
      · exact he
      · have := h1 x hx
        rcases he with he | he
        · exact .inr (he ▸ this)
        · exact .inr (lex_trans he this)
    · rw [if_neg hc, List.take_succ_cons, List.drop_succ_cons]
      refine ⟨fun x hx => ?_, g2⟩
      rcases List.mem_cons.1 hx with rfl | hx
      · omega
      · exact g1 x hx
theorem there_some {ks : List Int} {es : List (List Int × Int)} (h : there ks es = true) : ∃ v, es[pos ks es]? = some (ks, v) := by
  unfold there at h
  split at h
  · rename_i e he
    have := of_decide_eq_true h
    subst this
    exact ⟨e.2, he⟩
  · cases h
theorem there_not {ks : List Int} {es : List (List Int × Int)} (hs : Srt es) (h : there ks es = false) : ∀ x, x ∈ es → x.1 ≠ ks := by
  intro x hx hk
  obtain ⟨h1, h2⟩ := pos_split (ks := ks) hs
  rw [← List.take_append_drop (pos ks es) es] at hx
  rcases List.mem_append.1 hx with hx | hx
  · have := h1 x hx
    rw [hk, lexC_self] at this
    omega
  · obtain ⟨j, hj⟩ := List.mem_iff_getElem?.1 hx
    have hd : (es.drop (pos ks es))[0]? = es[pos ks es]? := by rw [List.getElem?_drop, Nat.add_zero]
    cases j with
    | zero =>
      rw [hd] at hj
      unfold there at h
      rw [hj] at h
      exact absurd hk (of_decide_eq_false h)
    | succ j =>
      obtain ⟨y, hy⟩ : ∃ y, (es.drop (pos ks es))[0]? = some y := ⟨_, List.getElem?_eq_getElem (by have := (List.getElem?_eq_some_iff.1 hj).1; omega)⟩
      have hp : Srt (es.drop (pos ks es)) := hs.sublist (List.drop_sublist _ _)
      obtain ⟨a1, rfl⟩ := List.getElem?_eq_some_iff.1 hy
      obtain ⟨a2, rfl⟩ := List.getElem?_eq_some_iff.1 hj
      have h3 := List.pairwise_iff_getElem.1 hp 0 (j + 1) a1 a2 (by omega)
      rw [hk] at h3
      have h4 := h2 _ (List.getElem_mem a1)
      rcases h4 with h4 | h4
      · unfold there at h
        rw [hd] at hy
        rw [hy] at h
        exact absurd h4 (of_decide_eq_false h)
      · exact lex_irr h3 h4
theorem there_f {f : List Int → Option Int} {ks : List Int} {es : List (List Int × Int)} (h : Entries f es) : there ks es = (f ks).isSome := by
  cases ht : there ks es with
  | true =>
    obtain ⟨v, hv⟩ := there_some ht
    rw [(h.2 ks v).1 (List.mem_of_getElem? hv)]
    rfl
  | false =>
    cases hf : f ks with
    | none => rfl
    | some v => exact absurd rfl (there_not h.1 ht _ ((h.2 ks v).2 hf))
theorem there_v {f : List Int → Option Int} {ks : List Int} {es : List (List Int × Int)} (h : Entries f es) (ht : there ks es = true) : ∃ v, es[pos ks es]? = some (ks, v) ∧ f ks = some v := by
  obtain ⟨v, hv⟩ := there_some ht
  exact ⟨v, hv, (h.2 ks v).1 (List.mem_of_getElem? hv)⟩
theorem set_split {α : Type} {es : List α} {i : Nat} {x y : α} (h : es[i]? = some x) : es = es.take i ++ x :: es.drop (i + 1) ∧ es.set i y = es.take i ++ y :: es.drop (i + 1) := by
  obtain ⟨hi, rfl⟩ := List.getElem?_eq_some_iff.1 h
  refine ⟨?_, ?_⟩
  · rw [← List.drop_eq_getElem_cons hi, List.take_append_drop]
  · exact List.set_eq_take_append_cons_drop.trans (if_pos hi)
/-- A value is laid over. -/
theorem ents_set {f : List Int → Option Int} {ks : List Int} {v0 v : Int} {es : List (List Int × Int)} {i : Nat} (h : Entries f es) (hi : es[i]? = some (ks, v0)) : Entries (updF f ks (some v)) (es.set i (ks, v)) := by
  obtain ⟨e1, e2⟩ := set_split (y := (ks, v)) hi
  have hs := h.1
  rw [e1] at hs
  rw [e2]
  obtain ⟨p1, p2, p3⟩ := List.pairwise_append.1 hs
  obtain ⟨p4, p5⟩ := List.pairwise_cons.1 p2
  refine ⟨List.pairwise_append.2 ⟨p1, List.pairwise_cons.2 ⟨p4, p5⟩, fun a ha b hb => ?_⟩, fun k x => ?_⟩
  · rcases List.mem_cons.1 hb with rfl | hb
    · exact p3 a ha (ks, v0) (List.mem_cons_self ..)
    · exact p3 a ha b (List.mem_cons_of_mem _ hb)
  · have hf := h.2 k x
    rw [e1] at hf
    unfold updF
    by_cases hk : k = ks
    · subst hk
      rw [if_pos rfl]
      constructor
      · intro hm
        rcases List.mem_append.1 hm with hm | hm
        · have := p3 _ hm (k, v0) (List.mem_cons_self ..)
          rw [lexC_self] at this; omega
        · rcases List.mem_cons.1 hm with hm | hm
          · injection hm with _ h2; rw [h2]
          · have := p4 _ hm
            rw [lexC_self] at this; omega
      · intro hx
        cases hx
        simp
    · rw [if_neg hk, ← hf]
      simp only [List.mem_append, List.mem_cons, Prod.mk.injEq]
      constructor
      · rintro (h1 | ⟨h1, _⟩ | h1)
        · exact .inl h1
        · exact absurd h1 hk
        · exact .inr (.inr h1)
      · rintro (h1 | ⟨h1, _⟩ | h1)
        · exact .inl h1
        · exact absurd h1 hk
        · exact .inr (.inr h1)
/-- An entry goes. -/
theorem ents_del {f : List Int → Option Int} {ks : List Int} {v0 : Int} {es : List (List Int × Int)} {i : Nat} (h : Entries f es) (hi : es[i]? = some (ks, v0)) : Entries (updF f ks none) (es.take i ++ es.drop (i + 1)) := by
  obtain ⟨e1, _⟩ := set_split (y := (ks, v0)) hi
  have hs := h.1
  rw [e1] at hs
  obtain ⟨p1, p2, p3⟩ := List.pairwise_append.1 hs
  obtain ⟨p4, p5⟩ := List.pairwise_cons.1 p2
  refine ⟨List.pairwise_append.2 ⟨p1, p5, fun a ha b hb => p3 a ha b (List.mem_cons_of_mem _ hb)⟩, fun k x => ?_⟩
  have hf := h.2 k x
  rw [e1] at hf
  unfold updF
  by_cases hk : k = ks
  · subst hk
    rw [if_pos rfl]
    constructor
    · intro hm
      rcases List.mem_append.1 hm with hm | hm
      · have := p3 _ hm (k, v0) (List.mem_cons_self ..)
        rw [lexC_self] at this; omega
      · have := p4 _ hm
        rw [lexC_self] at this; omega
    · intro hx; cases hx
  · rw [if_neg hk, ← hf]
    simp only [List.mem_append, List.mem_cons, Prod.mk.injEq]
    constructor
    · rintro (h1 | h1)
      · exact .inl h1
      · exact .inr (.inr h1)
    · rintro (h1 | ⟨h1, _⟩ | h1)
      · exact .inl h1
      · exact absurd h1 hk
      · exact .inr h1
/-- An entry comes. -/
theorem ents_ins {f : List Int → Option Int} {ks : List Int} {v : Int} {es : List (List Int × Int)} (h : Entries f es) (ht : there ks es = false) : Entries (updF f ks (some v)) (es.take (pos ks es) ++ (ks, v) :: es.drop (pos ks es)) := by
  have hno := there_not h.1 ht
  obtain ⟨h1, h2⟩ := pos_split (ks := ks) h.1
  have hs := h.1
  rw [← List.take_append_drop (pos ks es) es] at hs
  obtain ⟨p1, p2, p3⟩ := List.pairwise_append.1 hs
  refine ⟨List.pairwise_append.2 ⟨p1, List.pairwise_cons.2 ⟨fun b hb => ?_, p2⟩, fun a ha b hb => ?_⟩, fun k x => ?_⟩
  · rcases h2 b hb with h3 | h3
    · exact absurd h3 (hno b (List.mem_of_mem_drop hb))
    · exact h3
  · rcases List.mem_cons.1 hb with rfl | hb
    · exact h1 a ha
    · exact p3 a ha b hb
  · have hf := h.2 k x
    unfold updF
    have hmem : (k, x) ∈ es.take (pos ks es) ++ (ks, v) :: es.drop (pos ks es) ↔ (k, x) = (ks, v) ∨ (k, x) ∈ es := by
      have e1 : (k, x) ∈ es ↔ (k, x) ∈ es.take (pos ks es) ++ es.drop (pos ks es) := by rw [List.take_append_drop]
      rw [e1]
      simp only [List.mem_append, List.mem_cons]
      constructor
      · rintro (h1 | h1 | h1)
        · exact .inr (.inl h1)
        · exact .inl h1
        · exact .inr (.inr h1)
      · rintro (h1 | h1 | h1)
        · exact .inr (.inl h1)
        · exact .inl h1
        · exact .inr (.inr h1)
    rw [hmem]
    by_cases hk : k = ks
    · subst hk
      rw [if_pos rfl]
      constructor
      · rintro (h1 | h1)
        · injection h1 with _ h2; rw [h2]
        · exact absurd rfl (hno _ h1)
      · intro hx; cases hx; exact .inl rfl
    · rw [if_neg hk, ← hf]
      exact ⟨fun hh => hh.resolve_left fun e => hk (by injection e), .inr⟩
theorem pos_drop {ks : List Int} {es : List (List Int × Int)} {i : Nat} {e : List Int × Int} (h : pos ks es = i + pos ks (es.drop i)) (he : es[i]? = some e) : (0 ≤ lexC e.1 ks → pos ks es = i) ∧ (¬ 0 ≤ lexC e.1 ks → pos ks es = (i + 1) + pos ks (es.drop (i + 1))) := by
  obtain ⟨hi, rfl⟩ := List.getElem?_eq_some_iff.1 he
  rw [List.drop_eq_getElem_cons hi, show pos ks (es[i] :: es.drop (i + 1)) = if 0 ≤ lexC es[i].1 ks then 0 else pos ks (es.drop (i + 1)) + 1 from rfl] at h
  refine ⟨fun hc => ?_, fun hc => ?_⟩
  · rw [if_pos hc] at h; exact h
  · rw [if_neg hc] at h; rw [h]; omega
end Go.Proofs.Ytoifiplefjclbaa
