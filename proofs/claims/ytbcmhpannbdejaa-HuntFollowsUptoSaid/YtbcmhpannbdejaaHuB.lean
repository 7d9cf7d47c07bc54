/- Words in lines: the tree grows; its nodes by their depths; what the links say. -/
import Derived.Test.YtbcmhpannbdejaaHuT
namespace Go.Mv.Hunt
section
variable {nx : Nat → Nat → Nat} {ss : List Str}
theorem lt_of_get {α : Type} {l : List α} {i : Nat} {x : α} (h : l[i]? = some x) : i < l.length := (List.getElem?_eq_some_iff.1 h).1
/-- A node more. -/
theorem Trie.add (h : Trie nx ss) {v c : Nat} {s : Str} (hv : ss[v]? = some s) (hc : c < 256) (h0 : nx v c = 0) (hz : ∀ d, nx ss.length d = 0) :
    Trie (fun v' c' => if v' = v ∧ c' = c then ss.length else nx v' c') (ss ++ [s ++ [c]]) := by
  have hl := lt_of_get hv
  have old : ∀ {u : Nat} {t : Str}, ss[u]? = some t → (ss ++ [s ++ [c]])[u]? = some t := fun {u t} hu => by
    rw [List.getElem?_append_left (lt_of_get hu)]; exact hu
  have new : ∀ {u : Nat} {t : Str}, (ss ++ [s ++ [c]])[u]? = some t → ss[u]? = some t ∨ (u = ss.length ∧ t = s ++ [c]) := fun {u t} hu => by
    rcases Nat.lt_or_ge u ss.length with h1 | h1
    · rw [List.getElem?_append_left h1] at hu; exact .inl hu
    · rw [List.getElem?_append_right h1] at hu
      have := lt_of_get hu
      simp at this
      have e : u = ss.length := by omega
      subst e
      simp at hu
      exact .inr ⟨rfl, hu.symm⟩
  refine ⟨old h.root, fun u w t hu hw => ?_, fun u d t hu hd hne => ?_, fun u t hu hu0 => ?_⟩
  · rcases new hu with a | ⟨a1, a2⟩ <;> rcases new hw with b | ⟨b1, b2⟩
    · exact h.one u w t a b
    · exact absurd (b2 ▸ a) (h.nx_none hv h0 u)
    · exact absurd (a2 ▸ b) (h.nx_none hv h0 w)
    · rw [a1, b1]
  · by_cases hx : u = v ∧ d = c
    · obtain ⟨rfl, rfl⟩ := hx
      rw [if_pos ⟨rfl, rfl⟩]
      rcases new hu with a | ⟨a1, _⟩
      · rw [hv] at a
        cases a
        rw [List.getElem?_append_right (Nat.le_refl _)]
        simp
      · omega
    · rw [if_neg hx] at hne ⊢
      rcases new hu with a | ⟨a1, _⟩
      · exact old (h.step u d t a hd hne)
      · exact absurd (a1 ▸ hz d) hne
  · rcases new hu with a | ⟨a1, a2⟩
    · obtain ⟨v', c', t', k1, k2, k3, k4, k5⟩ := h.par u t a hu0
      refine ⟨v', c', t', k1, k2, old k3, k4, ?_⟩
      rw [if_neg]
      · exact k5
      · rintro ⟨rfl, rfl⟩
        rw [h0] at k5
        exact hu0 k5.symm
    · exact ⟨v, c, s, by omega, hc, old hv, a2, by rw [if_pos ⟨rfl, rfl⟩, a1]⟩
/-! ### by depth -/
def kids (nx : Nat → Nat → Nat) (n : Nat) : List Nat := (List.range 256).filterMap fun c => if nx n c = 0 then none else some (nx n c)
def bfsL (nx : Nat → Nat → Nat) : Nat → List Nat → List Nat
  | 0, _ => []
  | _ + 1, [] => []
  | f + 1, n :: r => n :: bfsL nx f (r ++ kids nx n)
theorem mem_kids {n u : Nat} : u ∈ kids nx n ↔ ∃ c, c < 256 ∧ nx n c = u ∧ u ≠ 0 := by
  unfold kids
  rw [List.mem_filterMap]
  constructor
  · rintro ⟨c, h1, h2⟩
    split at h2
    · cases h2
    · rename_i h3
      cases h2
      exact ⟨c, List.mem_range.1 h1, rfl, h3⟩
  · rintro ⟨c, h1, rfl, h3⟩
    exact ⟨c, List.mem_range.2 h1, by rw [if_neg h3]⟩
def dep (ss : List Str) (v : Nat) : Nat := (ss.getD v []).length
theorem dep_of {v : Nat} {s : Str} (h : ss[v]? = some s) : dep ss v = s.length := by simp [dep, List.getD, h]
structure Q (nx : Nat → Nat → Nat) (ss : List Str) (em row : List Nat) : Prop where
  nodup : (em ++ row).Nodup
  lt : ∀ x, x ∈ em ++ row → x < ss.length
  mono : (em ++ row).Pairwise fun a b => dep ss a ≤ dep ss b
  last : ∀ n r, row = n :: r → ∀ x, x ∈ r → dep ss x ≤ dep ss n + 1
  kid : ∀ v c, v ∈ em → c < 256 → nx v c ≠ 0 → nx v c ∈ em ++ row
  par : ∀ u, u ∈ em ++ row → u ≠ 0 → ∃ v c, v ∈ em ∧ c < 256 ∧ nx v c = u
  zero : 0 ∈ em ++ row
theorem Q.start (h : Trie nx ss) : Q nx ss [] [0] := by
  have h0 := lt_of_get h.root
  refine ⟨by simp, fun x hx => ?_, by simp, fun n r e x hx => ?_, fun v c hv => (by cases hv), fun u hu hu0 => ?_, by simp⟩
  · simp at hx; omega
  · cases e; cases hx
  · simp at hu; exact absurd hu hu0
theorem kid_text (h : Trie nx ss) {n c : Nat} {s : Str} (hn : ss[n]? = some s) (hc : c < 256) (h0 : nx n c ≠ 0) : ss[nx n c]? = some (s ++ [c]) := h.step n c s hn hc h0
theorem kids_nodup (h : Trie nx ss) {n : Nat} {s : Str} (hn : ss[n]? = some s) : (kids nx n).Nodup := by
  unfold kids
  rw [List.Nodup, List.pairwise_filterMap]
  refine List.nodup_range.imp_of_mem fun {a b} ha hb hab x hx y hy => ?_
  split at hx
  · cases hx
  · split at hy
    · cases hy
    · rename_i h1 h2
      cases hx
      cases hy
      intro he
      have e1 := kid_text h hn (List.mem_range.1 ha) h1
      have e2 := kid_text h hn (List.mem_range.1 hb) h2
      rw [he, e2] at e1
      simp at e1
      exact hab e1.symm
theorem Q.step (h : Trie nx ss) {em r : List Nat} {n : Nat} (q : Q nx ss em (n :: r)) : Q nx ss (em ++ [n]) (r ++ kids nx n) := by
  have e : (em ++ [n]) ++ (r ++ kids nx n) = (em ++ n :: r) ++ kids nx n := by simp
  have hnm : n ∈ em ++ n :: r := by simp
  obtain ⟨s, hs⟩ : ∃ s, ss[n]? = some s := ⟨_, List.getElem?_eq_getElem (q.lt n hnm)⟩
  have hdn := dep_of hs
  have hkd : ∀ x, x ∈ kids nx n → dep ss x = dep ss n + 1 := fun x hx => by
    obtain ⟨c, h1, rfl, h3⟩ := mem_kids.1 hx
    rw [dep_of (kid_text h hs h1 h3), hdn]
    simp
  have hem : ∀ x, x ∈ em → dep ss x ≤ dep ss n := fun x hx => by
    have := (List.pairwise_append.1 q.mono).2.2 x hx n (by simp)
    exact this
  have hrow : ∀ x, x ∈ em ++ n :: r → dep ss x ≤ dep ss n + 1 := fun x hx => by
    rcases List.mem_append.1 hx with h1 | h1
    · exact Nat.le_succ_of_le (hem x h1)
    · rcases List.mem_cons.1 h1 with rfl | h1
      · omega
      · exact q.last n r rfl x h1
  refine ⟨?_, fun x hx => ?_, ?_, fun n' r' he x hx => ?_, fun v c hv hc h0 => ?_, fun u hu hu0 => ?_, ?_⟩
  · rw [e, List.nodup_append]
    refine ⟨q.nodup, kids_nodup h hs, fun a ha b hb hab => ?_⟩
    subst hab
    obtain ⟨c, h1, h2, h3⟩ := mem_kids.1 hb
    obtain ⟨v, c', k1, k2, k3⟩ := q.par a ha h3
    have hr : nx n c ≠ 0 := by rw [h2]; exact h3
    obtain ⟨t, ht⟩ : ∃ t, ss[v]? = some t := ⟨_, List.getElem?_eq_getElem (q.lt v (by simp [k1]))⟩
    have e1 := kid_text h hs h1 hr
    have e2 := kid_text h ht k2 (by rw [k3]; exact h3)
    rw [h2] at e1
    rw [k3, e1] at e2
    simp only [Option.some.injEq] at e2
    have e3 := (List.append_inj' e2 rfl).1
    rw [← e3] at ht
    have := h.one v n _ ht hs
    subst this
    have hnd := q.nodup
    rw [List.nodup_append] at hnd
    exact hnd.2.2 v k1 v (by simp) rfl
  · rw [e] at hx
    rcases List.mem_append.1 hx with h1 | h1
    · exact q.lt x h1
    · obtain ⟨c, k1, rfl, h3⟩ := mem_kids.1 h1
      exact lt_of_get (kid_text h hs k1 h3)
  · rw [e, List.pairwise_append]
    refine ⟨q.mono, ?_, fun a ha b hb => ?_⟩
    · rw [List.pairwise_iff_getElem]
      intro i j hi hj _
      rw [hkd _ (List.getElem_mem hi), hkd _ (List.getElem_mem hj)]
      omega
    · rw [hkd b hb]
      exact hrow a ha
  · cases r with
    | nil =>
      simp only [List.nil_append] at he
      have h1 := hkd n' (by rw [he]; simp)
      have h2 := hkd x (by rw [he]; simp [hx])
      omega
    | cons a r2 =>
      simp only [List.cons_append, List.cons.injEq] at he
      obtain ⟨rfl, rfl⟩ := he
      have hna : dep ss n ≤ dep ss a := by
        have := (List.pairwise_append.1 q.mono).2.1
        exact (List.pairwise_cons.1 this).1 a (by simp)
      rcases List.mem_append.1 hx with h1 | h1
      · have := q.last n (a :: r2) rfl x (by simp [h1])
        omega
      · rw [hkd x h1]; omega
  · rw [e]
    rcases List.mem_append.1 hv with h1 | h1
    · exact List.mem_append.2 (.inl (q.kid v c h1 hc h0))
    · simp at h1
      subst h1
      exact List.mem_append.2 (.inr (mem_kids.2 ⟨c, hc, rfl, h0⟩))
  · rw [e] at hu
    rcases List.mem_append.1 hu with h1 | h1
    · obtain ⟨v, c, k1, k2, k3⟩ := q.par u h1 hu0
      exact ⟨v, c, by simp [k1], k2, k3⟩
    · obtain ⟨c, h1, h2, h3⟩ := mem_kids.1 h1
      exact ⟨n, c, by simp, h1, h2⟩
  · rw [e]
    exact List.mem_append.2 (.inl q.zero)
theorem Q.len {em row : List Nat} (q : Q nx ss em row) : (em ++ row).length ≤ ss.length := by
  have := q.nodup.length_le_of_subset (l₂ := List.range ss.length) fun x hx => List.mem_range.2 (q.lt x hx)
  simpa using this
theorem Q.all (h : Trie nx ss) {em : List Nat} (q : Q nx ss em []) : ∀ u, u < ss.length → u ∈ em := by
  intro u
  induction u using Nat.strongRecOn with
  | ind u ih =>
    intro hu
    by_cases h0 : u = 0
    · subst h0; simpa using q.zero
    · obtain ⟨v, c, t, k1, k2, k3, k4, k5⟩ := h.par u _ (List.getElem?_eq_getElem hu) h0
      have := q.kid v c (ih v k1 (lt_of_get k3)) k2 (by rw [k5]; exact h0)
      rw [k5] at this
      simpa using this
theorem bfs_go (h : Trie nx ss) : ∀ (f : Nat) (em row : List Nat), Q nx ss em row → f + em.length = ss.length → Q nx ss (em ++ bfsL nx f row) []
  | 0, em, row, q, hf => by
    have hl := q.len
    rw [List.length_append] at hl
    have : row = [] := List.length_eq_zero_iff.1 (by omega)
    subst this
    simpa [bfsL] using q
  | f + 1, em, [], q, _ => by simpa [bfsL] using q
  | f + 1, em, n :: r, q, hf => by
    have := bfs_go h f (em ++ [n]) (r ++ kids nx n) (q.step h) (by simp; omega)
    simpa [bfsL] using this
def bfs (nx : Nat → Nat → Nat) (N : Nat) : List Nat := bfsL nx N [0]
theorem bfs_q (h : Trie nx ss) : Q nx ss (bfs nx ss.length) [] := by
  have := bfs_go h ss.length [] [0] (Q.start h) (by simp)
  rw [List.nil_append] at this
  exact this
theorem bfs_lt (h : Trie nx ss) {i n : Nat} (hi : (bfs nx ss.length)[i]? = some n) : n < ss.length := (bfs_q h).lt n (by simpa using List.mem_of_getElem? hi)
/-- Whoever is less deep comes ahead. -/
theorem bfs_ahead (h : Trie nx ss) {i n u : Nat} {s t : Str} (hi : (bfs nx ss.length)[i]? = some n) (hn : ss[n]? = some s) (hu : ss[u]? = some t) (hl : t.length < s.length) : u ∈ (bfs nx ss.length).take i := by
  have q := bfs_q h
  have hm := q.all h u (lt_of_get hu)
  obtain ⟨j, hj⟩ := List.mem_iff_getElem?.1 hm
  rcases Nat.lt_or_ge j i with hji | hji
  · refine List.mem_of_getElem? (i := j) ?_
    rw [List.getElem?_take, if_pos hji]
    exact hj
  · exfalso
    have hmono := q.mono
    rw [List.append_nil] at hmono
    have e1 := dep_of hn
    have e2 := dep_of hu
    obtain ⟨hi1, hi2⟩ := List.getElem?_eq_some_iff.1 hi
    obtain ⟨hj1, hj2⟩ := List.getElem?_eq_some_iff.1 hj
    rcases Nat.lt_or_eq_of_le hji with h1 | h1
    · have := List.pairwise_iff_getElem.1 hmono i j hi1 hj1 h1
      rw [hi2, hj2] at this
      omega
    · subst h1
      rw [hi] at hj
      cases hj
      omega
/-! ### links -/
/-- The links of those whose parents are in D say what they should. -/
def Lnk (nx : Nat → Nat → Nat) (ss : List Str) (W : Str → Prop) (bk ou : Nat → Nat) (D : Nat → Nat → Prop) : Prop :=
  ∀ (u : Nat) s, ss[u]? = some s → (u = 0 ∨ ∃ v c, D v c ∧ c < 256 ∧ nx v c = u) → Lsuf ss s.tail (bk u) ∧ Wsuf ss W s.tail (ou u)
theorem Lnk.start (h : Trie nx ss) {W : Str → Prop} {bk ou : Nat → Nat} (hW : ¬ W []) (hb : bk 0 = 0) (ho : ou 0 = 0) : Lnk nx ss W bk ou fun _ _ => False := by
  rintro u s hu (rfl | ⟨v, c, hf, _⟩)
  · rw [h.root] at hu
    cases hu
    rw [hb, ho]
    refine ⟨Lsuf.nil h, .inl ⟨rfl, fun t ht hs => ?_⟩⟩
    rw [List.eq_nil_of_suffix_nil hs] at ht
    exact hW ht
  · exact hf.elim
theorem Lnk.mono {W : Str → Prop} {bk ou : Nat → Nat} {D D' : Nat → Nat → Prop} (h : Lnk nx ss W bk ou D) (hd : ∀ v c, D' v c → D v c) : Lnk nx ss W bk ou D' := fun u s hu hp => h u s hu (hp.imp_right fun ⟨v, c, h1, h2⟩ => ⟨v, c, hd v c h1, h2⟩)
end
end Go.Mv.Hunt
