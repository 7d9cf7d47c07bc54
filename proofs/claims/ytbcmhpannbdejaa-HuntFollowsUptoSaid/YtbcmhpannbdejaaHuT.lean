/- Words in lines: the tree of beginnings, longest ends; plain law, no program. -/
import Derived.KernelRfl
namespace Go.Mv.Hunt
abbrev Str := List Nat
/-- nx leads from node to node; ss: the nodes' texts. -/
structure Trie (nx : Nat → Nat → Nat) (ss : List Str) : Prop where
  root : ss[0]? = some []
  one : ∀ (u v : Nat) s, ss[u]? = some s → ss[v]? = some s → u = v
  step : ∀ (v c : Nat) s, ss[v]? = some s → c < 256 → nx v c ≠ 0 → ss[nx v c]? = some (s ++ [c])
  par : ∀ (u : Nat) s, ss[u]? = some s → u ≠ 0 → ∃ (v c : Nat) (t : Str), v < u ∧ c < 256 ∧ ss[v]? = some t ∧ s = t ++ [c] ∧ nx v c = u
section
variable {nx : Nat → Nat → Nat} {ss : List Str}
theorem Trie.nx_eq (h : Trie nx ss) {v c u : Nat} {s : Str} (hv : ss[v]? = some s) (hu : ss[u]? = some (s ++ [c])) : nx v c = u ∧ c < 256 := by
  have hu0 : u ≠ 0 := by
    rintro rfl
    rw [h.root] at hu
    simp at hu
  obtain ⟨v', c', t, _, h2, h3, h4, h5⟩ := h.par u _ hu hu0
  obtain ⟨rfl, h6⟩ := List.append_inj' h4 rfl
  simp only [List.cons.injEq, and_true] at h6
  subst h6
  rw [h.one v v' s hv h3]
  exact ⟨h5, h2⟩
theorem Trie.nx_none (h : Trie nx ss) {v c : Nat} {s : Str} (hv : ss[v]? = some s) (h0 : nx v c = 0) (u : Nat) : ss[u]? ≠ some (s ++ [c]) := by
  intro hu
  have := (h.nx_eq hv hu).1
  rw [h0] at this
  subst this
  rw [h.root] at hu
  simp at hu
theorem Trie.pre (h : Trie nx ss) {u c : Nat} {s : Str} (hu : ss[u]? = some (s ++ [c])) : ∃ v : Nat, v < u ∧ c < 256 ∧ ss[v]? = some s := by
  have hu0 : u ≠ 0 := by
    rintro rfl
    rw [h.root] at hu
    simp at hu
  obtain ⟨v', c', t, h1, h2, h3, h4, h5⟩ := h.par u _ hu hu0
  obtain ⟨rfl, h6⟩ := List.append_inj' h4 rfl
  simp only [List.cons.injEq, and_true] at h6
  subst h6
  exact ⟨v', h1, h2, h3⟩
/-- v is the node of the longest end of x that is a node's text. -/
def Lsuf (ss : List Str) (x : Str) (v : Nat) : Prop := ∃ s, ss[v]? = some s ∧ s <:+ x ∧ ∀ (u : Nat) t, ss[u]? = some t → t <:+ x → t <:+ s
theorem suf_of_len {s t x : Str} (hs : s <:+ x) (ht : t <:+ x) (hl : t.length ≤ s.length) : t <:+ s := List.suffix_of_suffix_length_le ht hs hl
theorem Lsuf.one (h : Trie nx ss) {x : Str} {u v : Nat} (hu : Lsuf ss x u) (hv : Lsuf ss x v) : u = v := by
  obtain ⟨s, h1, h2, h3⟩ := hu
  obtain ⟨t, k1, k2, k3⟩ := hv
  have e1 := h3 v t k1 k2
  have e2 := k3 u s h1 h2
  have := e1.eq_of_length_le e2.length_le
  subst this
  exact h.one u v _ h1 k1
theorem Lsuf.nil (h : Trie nx ss) : Lsuf ss [] 0 := ⟨[], h.root, List.suffix_refl _, fun _ _ _ ht => ht⟩
theorem suf_tail {t s : Str} (h : t <:+ s) (hne : t ≠ s) : t <:+ s.tail := by
  cases s with
  | nil => exact absurd (List.eq_nil_of_suffix_nil h) hne
  | cons a r =>
    rcases List.suffix_cons_iff.1 h with e | e
    · exact absurd e hne
    · exact e
theorem suf_snoc {t x : Str} {c : Nat} (h : t <:+ x ++ [c]) : t = [] ∨ ∃ t', t = t' ++ [c] ∧ t' <:+ x := by
  rcases List.eq_nil_or_concat t with rfl | ⟨t', d, rfl⟩
  · exact .inl rfl
  · right
    rw [List.concat_eq_append] at *
    obtain ⟨p, hp⟩ := h
    rw [← List.append_assoc] at hp
    obtain ⟨e1, e2⟩ := List.append_inj' hp rfl
    simp only [List.cons.injEq, and_true] at e2
    subst e2
    exact ⟨t', rfl, p, e1⟩
theorem snoc_suf {t x : Str} (h : t <:+ x) (c : Nat) : t ++ [c] <:+ x ++ [c] := by
  obtain ⟨p, rfl⟩ := h
  exact ⟨p, by rw [List.append_assoc]⟩
/-- On the way back from x's node for a byte c. -/
def Way (ss : List Str) (x : Str) (c n : Nat) : Prop := ∃ s, ss[n]? = some s ∧ s <:+ x ∧ ∀ (u : Nat) t, ss[u]? = some (t ++ [c]) → t <:+ x → t <:+ s
theorem Way.start (h : Trie nx ss) {x : Str} {n c : Nat} (hn : Lsuf ss x n) : Way ss x c n := by
  obtain ⟨s, h1, h2, h3⟩ := hn
  refine ⟨s, h1, h2, fun u t hu ht => ?_⟩
  obtain ⟨v, _, _, hv⟩ := h.pre hu
  exact h3 v t hv ht
theorem Way.found (h : Trie nx ss) {x : Str} {n c : Nat} (hw : Way ss x c n) (hc : c < 256) (h0 : nx n c ≠ 0) : Lsuf ss (x ++ [c]) (nx n c) := by
  obtain ⟨s, h1, h2, h3⟩ := hw
  refine ⟨s ++ [c], h.step n c s h1 hc h0, snoc_suf h2 c, fun u t hu ht => ?_⟩
  rcases suf_snoc ht with rfl | ⟨t', rfl, ht'⟩
  · exact List.nil_suffix
  · exact snoc_suf (h3 u t' hu ht') c
theorem Way.none (h : Trie nx ss) {x : Str} {c : Nat} (hw : Way ss x c 0) (h0 : nx 0 c = 0) : Lsuf ss (x ++ [c]) 0 := by
  obtain ⟨s, h1, h2, h3⟩ := hw
  have hs : s = [] := by rw [h.root] at h1; exact (Option.some.inj h1).symm
  subst hs
  refine ⟨[], h.root, List.nil_suffix, fun u t hu ht => ?_⟩
  rcases suf_snoc ht with rfl | ⟨t', rfl, ht'⟩
  · exact List.suffix_refl _
  · have := List.eq_nil_of_suffix_nil (h3 u t' hu ht')
    subst this
    exact absurd hu (h.nx_none h.root h0 u)
theorem Way.back (h : Trie nx ss) {x s0 : Str} {n c b : Nat} (hw : Way ss x c n) (hn : ss[n]? = some s0) (hb : Lsuf ss s0.tail b) (h0 : nx n c = 0) : Way ss x c b := by
  obtain ⟨s, h1, h2, h3⟩ := hw
  rw [hn] at h1
  cases h1
  obtain ⟨r, k1, k2, k3⟩ := hb
  have htail : s0.tail <:+ s0 := List.tail_suffix s0
  refine ⟨r, k1, k2.trans (htail.trans h2), fun u t hu ht => ?_⟩
  obtain ⟨v, _, _, hv⟩ := h.pre hu
  have hne : t ≠ s0 := by
    rintro rfl
    exact h.nx_none hn h0 u hu
  exact k3 v t hv (suf_tail (h3 u t hu ht) hne)
theorem Lsuf.shorter (h : Trie nx ss) {s0 r : Str} {n b : Nat} (hn : ss[n]? = some s0) (hn0 : n ≠ 0) (hb : Lsuf ss s0.tail b) (hr : ss[b]? = some r) : r.length < s0.length := by
  obtain ⟨r', k1, k2, _⟩ := hb
  rw [hr] at k1
  cases k1
  have := k2.length_le
  have hs : s0 ≠ [] := by
    rintro rfl
    exact hn0 (h.one n 0 [] hn h.root)
  have : 0 < s0.length := List.length_pos_iff.2 hs
  rw [List.length_tail] at *
  omega
/-! ### words -/
/-- v is the node of the longest word that x ends with; 0: none. -/
def Wsuf (ss : List Str) (W : Str → Prop) (x : Str) (v : Nat) : Prop := (v = 0 ∧ ∀ t, W t → ¬ t <:+ x) ∨ (v ≠ 0 ∧ ∃ s, ss[v]? = some s ∧ W s ∧ s <:+ x ∧ ∀ t, W t → t <:+ x → t <:+ s)
theorem Wsuf.here {W : Str → Prop} (hW : ∀ t, W t → ∃ u : Nat, ss[u]? = some t) {x s : Str} {n : Nat} (hn : Lsuf ss x n) (hs : ss[n]? = some s) (hw : W s) (h0 : n ≠ 0) : Wsuf ss W x n := by
  obtain ⟨s', h1, h2, h3⟩ := hn
  rw [hs] at h1
  cases h1
  refine .inr ⟨h0, s, hs, hw, h2, fun t ht htx => ?_⟩
  obtain ⟨u, hu⟩ := hW t ht
  exact h3 u t hu htx
theorem Wsuf.there {W : Str → Prop} (hW : ∀ t, W t → ∃ u : Nat, ss[u]? = some t) {x s : Str} {n w : Nat} (hn : Lsuf ss x n) (hs : ss[n]? = some s) (hw : ¬ W s) (ho : Wsuf ss W s.tail w) : Wsuf ss W x w := by
  obtain ⟨s', h1, h2, h3⟩ := hn
  rw [hs] at h1
  cases h1
  have key : ∀ t, W t → t <:+ x → t <:+ s.tail := fun t ht htx => by
    obtain ⟨u, hu⟩ := hW t ht
    exact suf_tail (h3 u t hu htx) fun he => hw (he ▸ ht)
  have htail : s.tail <:+ x := (List.tail_suffix s).trans h2
  rcases ho with ⟨rfl, ho⟩ | ⟨h0, r, k1, k2, k3, k4⟩
  · exact .inl ⟨rfl, fun t ht htx => ho t ht (key t ht htx)⟩
  · exact .inr ⟨h0, r, k1, k2, k3.trans htail, fun t ht htx => k4 t ht (key t ht htx)⟩
/-- The next shorter word. -/
theorem Wsuf.next {W : Str → Prop} {x s : Str} {w w' : Nat} (hw : Wsuf ss W x w) (h0 : w ≠ 0) (hs : ss[w]? = some s) (ho : Wsuf ss W s.tail w') : (∀ t, W t → t <:+ x → t.length < s.length → t <:+ s.tail) ∧ s <:+ x ∧ W s ∧ ∀ t, W t → t <:+ x → t <:+ s := by
  rcases hw with ⟨rfl, _⟩ | ⟨_, r, k1, k2, k3, k4⟩
  · exact absurd rfl h0
  · rw [hs] at k1
    cases k1
    exact ⟨fun t ht htx hl => suf_tail (k4 t ht htx) (by rintro rfl; omega), k3, k2, k4⟩
end
end Go.Mv.Hunt
