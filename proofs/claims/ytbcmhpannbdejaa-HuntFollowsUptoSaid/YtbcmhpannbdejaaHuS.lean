/- Words in lines: where they stand; plain law. -/
import Derived.Test.YtbcmhpannbdejaaHuB
namespace Go.Mv.Hunt
/-- The numbers of the words that are s. -/
def idx (lws : List Str) (s : Str) : List Nat := (List.range lws.length).filter fun k => decide (lws[k]? = some s)
theorem mem_idx {lws : List Str} {s : Str} {k : Nat} : k ∈ idx lws s ↔ lws[k]? = some s := by
  unfold idx
  rw [List.mem_filter, List.mem_range, decide_eq_true_eq]
  exact ⟨fun h => h.2, fun h => ⟨lt_of_get h, h⟩⟩
theorem idx_sorted {lws : List Str} {s : Str} : (idx lws s).Pairwise (· < ·) := List.pairwise_lt_range.filter _
theorem idx_head {lws : List Str} {s : Str} {k : Nat} {r : List Nat} (h : idx lws s = k :: r) : lws[k]? = some s ∧ ∀ j, lws[j]? = some s → k ≤ j := by
  refine ⟨mem_idx.1 (by rw [h]; simp), fun j hj => ?_⟩
  have hs := idx_sorted (lws := lws) (s := s)
  have hm := mem_idx.2 hj
  rw [h] at hs hm
  rcases List.mem_cons.1 hm with rfl | hm
  · omega
  · exact Nat.le_of_lt ((List.pairwise_cons.1 hs).1 j hm)
theorem idx_nil {lws : List Str} {s : Str} : idx lws s = [] ↔ s ∉ lws := by
  constructor
  · intro h hm
    obtain ⟨k, hk⟩ := List.mem_iff_getElem?.1 hm
    have := mem_idx.2 hk
    rw [h] at this
    cases this
  · intro h
    rw [List.eq_nil_iff_forall_not_mem]
    intro k hk
    exact h (List.mem_of_getElem? (mem_idx.1 hk))
theorem idx_snoc {lws : List Str} {s t : Str} : idx (lws ++ [t]) s = idx lws s ++ if t = s then [lws.length] else [] := by
  unfold idx
  rw [List.length_append, List.length_singleton, List.range_succ, List.filter_append]
  congr 1
  · refine List.filter_congr fun k hk => ?_
    rw [List.getElem?_append_left (List.mem_range.1 hk)]
  · simp only [List.filter_cons, List.filter_nil, List.getElem?_concat_length]
    by_cases h : t = s <;> simp [h]
/-- Word k stands at a in y, and its end is not behind i. -/
def Stn (lws : List Str) (y : Str) (i a k : Nat) : Prop := ∃ t, lws[k]? = some t ∧ t <+: y.drop a ∧ a + t.length ≤ i
def Std (lws : List Str) (y : Str) (a k : Nat) : Prop := ∃ t, lws[k]? = some t ∧ t <+: y.drop a
theorem std_stn {lws : List Str} (h0 : [] ∉ lws) {y : Str} {a k : Nat} : Std lws y a k ↔ Stn lws y y.length a k := by
  constructor
  · rintro ⟨t, h1, h2⟩
    refine ⟨t, h1, h2, ?_⟩
    have h3 := h2.length_le
    rw [List.length_drop] at h3
    have : t ≠ [] := by rintro rfl; exact h0 (List.mem_of_getElem? h1)
    have := List.length_pos_iff.2 this
    omega
  · rintro ⟨t, h1, h2, _⟩
    exact ⟨t, h1, h2⟩
theorem suf_iff {y t : Str} {f j : Nat} (h : f + j ≤ y.length) : t <:+ (y.drop f).take j ↔ t.length ≤ j ∧ t <+: y.drop (f + j - t.length) := by
  have hl : ((y.drop f).take j).length = j := by rw [List.length_take, List.length_drop]; omega
  constructor
  · intro hs
    have h1 := hs.length_le
    rw [hl] at h1
    refine ⟨h1, ?_⟩
    rw [List.suffix_iff_eq_drop, hl, List.drop_take, List.drop_drop] at hs
    rw [List.prefix_iff_eq_take]
    rw [show j - (j - t.length) = t.length by omega, show f + (j - t.length) = f + j - t.length by omega] at hs
    exact hs
  · rintro ⟨h1, h2⟩
    rw [List.prefix_iff_eq_take] at h2
    rw [List.suffix_iff_eq_drop, hl, List.drop_take, List.drop_drop]
    rw [show j - (j - t.length) = t.length by omega, show f + (j - t.length) = f + j - t.length by omega]
    exact h2
theorem take_snoc {y : Str} {i c : Nat} (h : y[i]? = some c) : y.take (i + 1) = y.take i ++ [c] := by
  rw [List.take_add_one, h]; rfl
theorem drop_take_snoc {y : Str} {f i c : Nat} (hf : f ≤ i) (h : y[i]? = some c) : (y.drop f).take (i + 1 - f) = (y.drop f).take (i - f) ++ [c] := by
  rw [show i + 1 - f = (i - f) + 1 by omega, List.take_add_one, List.getElem?_drop, show f + (i - f) = i by omega, h]; rfl
section
variable {nx : Nat → Nat → Nat} {ss lws : List Str}
/-- A beginning of a node's text is a node's text. -/
theorem Trie.prefixes (h : Trie nx ss) : ∀ (n : Nat) {u : Nat} {s t : Str}, s.length = n → ss[u]? = some s → t <+: s → ∃ v : Nat, ss[v]? = some t
  | 0, u, s, t, hn, hu, ht => by
    have := List.length_eq_zero_iff.1 hn
    subst this
    rw [List.prefix_nil.1 ht]
    exact ⟨u, hu⟩
  | n + 1, u, s, t, hn, hu, ht => by
    rcases List.eq_nil_or_concat s with rfl | ⟨s', c, rfl⟩
    · simp at hn
    · rw [List.concat_eq_append] at *
      obtain ⟨v, _, _, hv⟩ := h.pre hu
      rcases Nat.lt_or_ge t.length (s' ++ [c]).length with h1 | h1
      · refine h.prefixes n (by simpa using hn) hv ?_
        rw [List.prefix_iff_eq_take] at ht ⊢
        rw [List.length_append, List.length_singleton] at h1
        rw [List.take_append_of_le_length (by omega)] at ht
        exact ht
      · have := ht.eq_of_length_le h1
        subst this
        exact ⟨u, hu⟩
/-! ### the least word at a line's front -/
def Lst (lws : List Str) (y : Str) (i : Nat) (k : Int) : Prop :=
  (k = -1 ∧ ∀ (j : Nat) t, lws[j]? = some t → t <+: y → ¬ t.length ≤ i) ∨ ∃ (k' : Nat) (t : Str), k = k' ∧ lws[k']? = some t ∧ t <+: y ∧ t.length ≤ i ∧ ∀ (j : Nat) t', lws[j]? = some t' → t' <+: y → t'.length ≤ i → k' ≤ j
theorem Lst.start (h0 : [] ∉ lws) (y : Str) : Lst lws y 0 (-1) := .inl ⟨rfl, fun j t hj _ hl => h0 (by
  have := List.length_eq_zero_iff.1 (Nat.le_zero.1 hl)
  subst this
  exact List.mem_of_getElem? hj)⟩
theorem pre_at {y t : Str} {i : Nat} (ht : t <+: y) (hl : t.length = i) : t = y.take i := by
  rw [← hl]; exact List.prefix_iff_eq_take.1 ht
/-- No word more. -/
theorem Lst.same {y : Str} {i : Nat} {k : Int} (h : Lst lws y i k) (hn : y.take (i + 1) ∉ lws) : Lst lws y (i + 1) k := by
  have key : ∀ (j : Nat) t, lws[j]? = some t → t <+: y → t.length ≤ i + 1 → t.length ≤ i := fun j t hj ht hl => by
    rcases Nat.lt_or_ge i t.length with h1 | h1
    · exact absurd (List.mem_of_getElem? hj) (by rw [pre_at (i := i + 1) ht (by omega)]; exact hn)
    · exact h1
  rcases h with ⟨h1, h2⟩ | ⟨k', t, h1, h2, h3, h4, h5⟩
  · exact .inl ⟨h1, fun j t hj ht hl => h2 j t hj ht (key j t hj ht hl)⟩
  · exact .inr ⟨k', t, h1, h2, h3, by omega, fun j t' hj ht hl => h5 j t' hj ht (key j t' hj ht hl)⟩
theorem Lst.step {y : Str} {i k0 : Nat} {r : List Nat} {k : Int} (h : Lst lws y i k) (hi : i < y.length) (he : idx lws (y.take (i + 1)) = k0 :: r) : Lst lws y (i + 1) (if k < 0 ∨ (k0 : Int) < k then k0 else k) := by
  obtain ⟨h1, h2⟩ := idx_head he
  have hp : y.take (i + 1) <+: y := List.take_prefix _ _
  have hlen : (y.take (i + 1)).length = i + 1 := by rw [List.length_take]; omega
  have new : (∀ (j : Nat) t', lws[j]? = some t' → t' <+: y → t'.length ≤ i → k0 ≤ j) → Lst lws y (i + 1) k0 := fun hall => by
    refine .inr ⟨k0, _, rfl, h1, hp, by omega, fun j t' hj ht hl => ?_⟩
    rcases Nat.lt_or_ge i t'.length with h3 | h3
    · refine h2 j ?_
      rw [← pre_at (i := i + 1) ht (by omega)]; exact hj
    · exact hall j t' hj ht h3
  rcases h with ⟨g1, g2⟩ | ⟨k', t, g1, g2, g3, g4, g5⟩
  · rw [if_pos (.inl (by omega))]
    exact new fun j t' hj ht hl => absurd hl (g2 j t' hj ht)
  · by_cases hk : k0 < k'
    · rw [if_pos (.inr (by omega))]
      exact new fun j t' hj ht hl => by have := g5 j t' hj ht hl; omega
    · rw [if_neg (by omega)]
      refine .inr ⟨k', t, g1, g2, g3, by omega, fun j t' hj ht hl => ?_⟩
      rcases Nat.lt_or_ge i t'.length with h3 | h3
      · have := h2 j (by rw [← pre_at (i := i + 1) ht (by omega)]; exact hj)
        omega
      · exact g5 j t' hj ht h3
/-- No node more: no longer word. -/
theorem Lst.stop {y : Str} {i : Nat} {k : Int} (ht : Trie nx ss) (hall : ∀ t, t ∈ lws → ∃ u : Nat, ss[u]? = some t) (h : Lst lws y i k) (hi : i < y.length) (hn : ∀ u : Nat, ss[u]? ≠ some (y.take (i + 1))) (j : Nat) (hj : i ≤ j) : Lst lws y j k := by
  have key : ∀ (m : Nat) t, lws[m]? = some t → t <+: y → t.length ≤ i := fun m t hm hp => by
    rcases Nat.lt_or_ge i t.length with h1 | h1
    · obtain ⟨u, hu⟩ := hall t (List.mem_of_getElem? hm)
      obtain ⟨v, hv⟩ := ht.prefixes _ (t := y.take (i + 1)) rfl hu (by
        refine List.prefix_of_prefix_length_le (List.take_prefix _ _) hp ?_
        rw [List.length_take]
        omega)
      exact absurd hv (hn v)
    · exact h1
  rcases h with ⟨g1, g2⟩ | ⟨k', t, g1, g2, g3, g4, g5⟩
  · exact .inl ⟨g1, fun m t hm hp _ => g2 m t hm hp (key m t hm hp)⟩
  · exact .inr ⟨k', t, g1, g2, g3, by omega, fun m t' hm hp _ => g5 m t' hm hp (key m t' hm hp)⟩
/-! ### the first place -/
/-- b is the first place from f on at which a word stands that ends not behind i. -/
def Fst (lws : List Str) (y : Str) (f i : Nat) (found : Bool) (b : Nat) : Prop :=
  if found then f ≤ b ∧ (∃ k, Stn lws y i b k) ∧ ∀ a k, f ≤ a → Stn lws y i a k → b ≤ a else b = 0 ∧ ∀ a k, f ≤ a → ¬ Stn lws y i a k
theorem Fst.start (h0 : [] ∉ lws) (y : Str) (f : Nat) : Fst lws y f f false 0 := by
  refine ⟨rfl, ?_⟩
  rintro a k hf ⟨t, h1, h2, h3⟩
  have := List.length_eq_zero_iff.1 (show t.length = 0 by omega)
  subst this
  exact h0 (List.mem_of_getElem? h1)
theorem stn_new {y : Str} {f i a k : Nat} (hi : i < y.length) (hf : f ≤ a) (hfi : f ≤ i) (h : Stn lws y (i + 1) a k) : Stn lws y i a k ∨ ∃ t, lws[k]? = some t ∧ t <:+ (y.drop f).take (i + 1 - f) ∧ a + t.length = i + 1 := by
  obtain ⟨t, h1, h2, h3⟩ := h
  rcases Nat.lt_or_ge i (a + t.length) with h4 | h4
  · right
    refine ⟨t, h1, ?_, by omega⟩
    rw [suf_iff (by omega)]
    refine ⟨by omega, ?_⟩
    rw [show f + (i + 1 - f) - t.length = a by omega]
    exact h2
  · exact .inl ⟨t, h1, h2, h4⟩
theorem stn_up {y : Str} {i j a k : Nat} (h : Stn lws y i a k) (hij : i ≤ j) : Stn lws y j a k := by
  obtain ⟨t, h1, h2, h3⟩ := h
  exact ⟨t, h1, h2, by omega⟩
theorem Fst.not {y : Str} {f i b : Nat} {found : Bool} (h : Fst lws y f i found b) (hi : i < y.length) (hfi : f ≤ i) (hw : ∀ t, t ∈ lws → ¬ t <:+ (y.drop f).take (i + 1 - f)) : Fst lws y f (i + 1) found b := by
  have key : ∀ a k, f ≤ a → Stn lws y (i + 1) a k → Stn lws y i a k := fun a k ha hs => by
    rcases stn_new hi ha hfi hs with h1 | ⟨t, h1, h2, _⟩
    · exact h1
    · exact absurd h2 (hw t (List.mem_of_getElem? h1))
  unfold Fst at *
  cases found with
  | true =>
    obtain ⟨h1, ⟨k, h2⟩, h3⟩ := h
    exact ⟨h1, ⟨k, stn_up h2 (by omega)⟩, fun a k ha hs => h3 a k ha (key a k ha hs)⟩
  | false => exact ⟨h.1, fun a k ha hs => h.2 a k ha (key a k ha hs)⟩
theorem Fst.word {y s : Str} {f i b : Nat} {found : Bool} (h : Fst lws y f i found b) (hi : i < y.length) (hfi : f ≤ i) (hs : s ∈ lws) (hsx : s <:+ (y.drop f).take (i + 1 - f)) (hw : ∀ t, t ∈ lws → t <:+ (y.drop f).take (i + 1 - f) → t <:+ s) :
    s.length ≤ i + 1 - f ∧ Fst lws y f (i + 1) true (if found = false ∨ i + 1 - s.length < b then i + 1 - s.length else b) := by
  have h1 := (suf_iff (by omega)).1 hsx
  obtain ⟨h1, h2⟩ := h1
  rw [show f + (i + 1 - f) - s.length = i + 1 - s.length by omega] at h2
  obtain ⟨k, hk⟩ := List.mem_iff_getElem?.1 hs
  have hst : Stn lws y (i + 1) (i + 1 - s.length) k := ⟨s, hk, h2, by omega⟩
  have key : ∀ a k, f ≤ a → Stn lws y (i + 1) a k → Stn lws y i a k ∨ i + 1 - s.length ≤ a := fun a k ha hs => by
    rcases stn_new hi ha hfi hs with h1 | ⟨t, h1, h2, h3⟩
    · exact .inl h1
    · right
      have := (hw t (List.mem_of_getElem? h1) h2).length_le
      omega
  refine ⟨h1, ?_⟩
  unfold Fst at *
  rw [if_pos rfl]
  cases found with
  | false =>
    rw [if_pos (.inl rfl)]
    refine ⟨by omega, ⟨k, hst⟩, fun a k ha hs => ?_⟩
    rcases key a k ha hs with h3 | h3
    · exact absurd h3 (h.2 a k ha)
    · exact h3
  | true =>
    obtain ⟨g1, ⟨k', g2⟩, g3⟩ := h
    by_cases hc : i + 1 - s.length < b
    · rw [if_pos (.inr hc)]
      refine ⟨by omega, ⟨k, hst⟩, fun a k ha hs => ?_⟩
      rcases key a k ha hs with h3 | h3
      · have := g3 a k ha h3; omega
      · exact h3
    · rw [if_neg (by simp; omega)]
      refine ⟨g1, ⟨k', stn_up g2 (by omega)⟩, fun a k ha hs => ?_⟩
      rcases key a k ha hs with h3 | h3
      · exact g3 a k ha h3
      · omega
/-- Nothing that is under way can come ahead of b. -/
theorem Fst.stop {y s : Str} {f i b n : Nat} (ht : Trie nx ss) (hall : ∀ t, t ∈ lws → ∃ u : Nat, ss[u]? = some t) (h : Fst lws y f i true b) (hi : i ≤ y.length) (hfi : f ≤ i) (hn : Lsuf ss ((y.drop f).take (i - f)) n) (hs : ss[n]? = some s) (hb : b + s.length ≤ i) (j : Nat) (hj : i ≤ j) : Fst lws y f j true b := by
  obtain ⟨h1, ⟨k, h2⟩, h3⟩ := h
  refine ⟨h1, ⟨k, stn_up h2 hj⟩, fun a k ha hst => ?_⟩
  obtain ⟨t, g1, g2, g3⟩ := hst
  rcases Nat.lt_or_ge i (a + t.length) with h4 | h4
  · rcases Nat.lt_or_ge a i with h5 | h5
    · obtain ⟨u, hu⟩ := hall t (List.mem_of_getElem? g1)
      obtain ⟨v, hv⟩ := ht.prefixes _ (t := t.take (i - a)) rfl hu (List.take_prefix _ _)
      obtain ⟨s', e1, e2, e3⟩ := hn
      rw [hs] at e1
      cases e1
      have hl : (t.take (i - a)).length = i - a := by rw [List.length_take]; omega
      have := e3 v _ hv (by
        rw [suf_iff (by omega), hl]
        refine ⟨by omega, ?_⟩
        rw [show f + (i - f) - (i - a) = a by omega]
        exact (List.take_prefix _ _).trans g2)
      have := this.length_le
      omega
    · omega
  · exact h3 a k ha ⟨t, g1, g2, h4⟩
/-! ### all -/
/-- What has been told of: all that end not behind i, and of those that end at i + 1 the ones longer than u. -/
def Told (lws : List Str) (y : Str) (i : Nat) (u : Nat) (L : List (Nat × Nat)) : Prop :=
  L.Nodup ∧ ∀ a k, (a, k) ∈ L ↔ ∃ t, lws[k]? = some t ∧ t <+: y.drop a ∧ (a + t.length ≤ i ∨ (a + t.length = i + 1 ∧ u < t.length))
theorem Told.start (h0 : [] ∉ lws) (y : Str) : Told lws y 0 1 [] := by
  refine ⟨List.nodup_nil, fun a k => ⟨fun h => (by cases h), ?_⟩⟩
  rintro ⟨t, h1, h2, h3⟩
  have : t ≠ [] := by rintro rfl; exact h0 (List.mem_of_getElem? h1)
  have := List.length_pos_iff.2 this
  omega
theorem Told.open {y : Str} {i : Nat} {L : List (Nat × Nat)} (h : Told lws y i (i + 1) L) {u : Nat} (hu : i + 1 ≤ u) : Told lws y i u L :=
  ⟨h.1, fun a k => (h.2 a k).trans ⟨fun ⟨t, h1, h2, h3⟩ => ⟨t, h1, h2, by omega⟩, fun ⟨t, h1, h2, h3⟩ => ⟨t, h1, h2, by omega⟩⟩⟩
theorem Told.close {y u : Str} {i : Nat} {L : List (Nat × Nat)} (h : Told lws y i u.length L) (hi : i < y.length) (hu : u <:+ y.take (i + 1)) (hw : ∀ t, t ∈ lws → ¬ t <:+ u) : Told lws y (i + 1) (i + 2) L := by
  refine ⟨h.1, fun a k => (h.2 a k).trans ⟨fun ⟨t, h1, h2, h3⟩ => ⟨t, h1, h2, by omega⟩, fun ⟨t, h1, h2, h3⟩ => ⟨t, h1, h2, ?_⟩⟩⟩
  rcases Nat.lt_or_ge i (a + t.length) with h4 | h4
  · right
    refine ⟨by omega, ?_⟩
    apply Classical.byContradiction
    intro hc
    have e : (y.drop 0).take (i + 1) = y.take (i + 1) := by simp
    have h5 : t <:+ y.take (i + 1) := by
      rw [← e, suf_iff (by omega)]
      refine ⟨by omega, ?_⟩
      rw [show 0 + (i + 1) - t.length = a by omega]
      exact h2
    exact hw t (List.mem_of_getElem? h1) (suf_of_len hu h5 (by omega))
  · exact .inl h4
theorem Told.step {y u s : Str} {i : Nat} {L : List (Nat × Nat)} (h : Told lws y i u.length L) (hi : i < y.length) (hu : u <:+ y.take (i + 1)) (hs : s <:+ u) (h0 : s ≠ []) (hw : ∀ t, t ∈ lws → t <:+ u → t <:+ s) :
    Told lws y i s.tail.length (L ++ (idx lws s).map fun k => (i + 1 - s.length, k)) := by
  have hpos := List.length_pos_iff.2 h0
  have hsl := hs.length_le
  have hul := hu.length_le
  rw [List.length_take] at hul
  have e : (y.drop 0).take (i + 1) = y.take (i + 1) := by simp
  have hsy : s <+: y.drop (i + 1 - s.length) := by
    have := hs.trans hu
    rw [← e, suf_iff (by omega)] at this
    rw [show 0 + (i + 1) - s.length = i + 1 - s.length by omega] at this
    exact this.2
  refine ⟨?_, fun a k => ?_⟩
  · rw [List.nodup_append]
    refine ⟨h.1, ?_, fun x hx z hz he => ?_⟩
    · rw [List.Nodup, List.pairwise_map]
      exact (idx_sorted (lws := lws) (s := s)).imp fun {a b} hab he => by
        simp only [Prod.mk.injEq] at he
        omega
    · subst he
      obtain ⟨k, hk, rfl⟩ := List.mem_map.1 hz
      obtain ⟨t, h1, h2, h3⟩ := (h.2 _ _).1 hx
      rw [mem_idx.1 hk] at h1
      cases h1
      omega
  · rw [List.mem_append, h.2, List.length_tail]
    constructor
    · rintro (⟨t, h1, h2, h3⟩ | hm)
      · exact ⟨t, h1, h2, by omega⟩
      · obtain ⟨k', hk, he⟩ := List.mem_map.1 hm
        cases he
        exact ⟨s, mem_idx.1 hk, hsy, by omega⟩
    · rintro ⟨t, h1, h2, h3⟩
      rcases h3 with h3 | ⟨h3, h4⟩
      · exact .inl ⟨t, h1, h2, .inl h3⟩
      · rcases Nat.lt_or_ge u.length t.length with h5 | h5
        · exact .inl ⟨t, h1, h2, .inr ⟨h3, h5⟩⟩
        · right
          have h6 : t <:+ y.take (i + 1) := by
            rw [← e, suf_iff (by omega)]
            refine ⟨by omega, ?_⟩
            rw [show 0 + (i + 1) - t.length = a by omega]
            exact h2
          have h7 := hw t (List.mem_of_getElem? h1) (suf_of_len hu h6 h5)
          have h8 := h7.eq_of_length_le (by omega)
          subst h8
          refine List.mem_map.2 ⟨k, mem_idx.2 h1, ?_⟩
          simp only [Prod.mk.injEq, and_true]
          omega
/-! ### the list of all -/
def before (p q : Nat × Nat) : Prop := p.1 < q.1 ∨ (p.1 = q.1 ∧ p.2 < q.2)
/-- All stands, by places, by words. -/
def Alls (lws : List Str) (y : Str) (l : List (Nat × Nat)) : Prop := l.Pairwise before ∧ ∀ a k, (a, k) ∈ l ↔ Std lws y a k
theorem before_unique : ∀ {l r : List (Nat × Nat)}, l.Pairwise before → r.Pairwise before → (∀ x, x ∈ l ↔ x ∈ r) → l = r
  | [], [], _, _, _ => rfl
  | [], y :: q, _, _, h => absurd ((h y).2 (by simp)) (by simp)
  | x :: r, [], _, _, h => absurd ((h x).1 (by simp)) (by simp)
  | x :: r, y :: q, h1, h2, h => by
    rw [List.pairwise_cons] at h1 h2
    have hxy : x = y := by
      rcases List.mem_cons.1 ((h x).1 (by simp)) with e | hx
      · exact e
      · rcases List.mem_cons.1 ((h y).2 (by simp)) with e | hy
        · exact e.symm
        · have a := h2.1 x hx
          have b := h1.1 y hy
          unfold before at a b
          omega
    subst hxy
    congr 1
    refine before_unique h1.2 h2.2 fun z => ⟨fun hz => ?_, fun hz => ?_⟩
    · rcases List.mem_cons.1 ((h z).1 (by simp [hz])) with e | hq
      · subst e
        have := h1.1 z hz
        unfold before at this
        omega
      · exact hq
    · rcases List.mem_cons.1 ((h z).2 (by simp [hz])) with e | hq
      · subst e
        have := h2.1 z hz
        unfold before at this
        omega
      · exact hq
theorem Alls.unique {y : Str} {l r : List (Nat × Nat)} (h : Alls lws y l) (k : Alls lws y r) : l = r := before_unique h.1 k.1 fun x => by rw [show x = (x.1, x.2) from rfl, h.2, k.2]
theorem Alls.of {y : Str} {L zs : List (Nat × Nat)} (h0 : [] ∉ lws) (h : Told lws y y.length (y.length + 1) L) (hp : zs.Perm L) (hs : zs.Pairwise fun p q => ¬ before q p) : Alls lws y zs := by
  refine ⟨?_, fun a k => ?_⟩
  · refine (hs.and (hp.symm.nodup h.1)).imp fun {p q} hpq => ?_
    obtain ⟨h1, h2⟩ := hpq
    unfold before at *
    have : p.1 = q.1 → p.2 ≠ q.2 := fun e1 e2 => h2 (Prod.ext e1 e2)
    omega
  · rw [hp.mem_iff, h.2, std_stn h0]
    constructor
    · rintro ⟨t, h1, h2, h3⟩
      refine ⟨t, h1, h2, ?_⟩
      have h4 := h2.length_le
      rw [List.length_drop] at h4
      have : t ≠ [] := by rintro rfl; exact h0 (List.mem_of_getElem? h1)
      have := List.length_pos_iff.2 this
      omega
    · rintro ⟨t, h1, h2, h3⟩
      exact ⟨t, h1, h2, .inl h3⟩
end
end Go.Mv.Hunt
