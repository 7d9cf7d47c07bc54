/- The table: Clear; how many places there are. -/
import Derived.Test.YtoifiplefjclbaaTbJ
namespace Go.Proofs.Ytoifiplefjclbaa
open Go Go.Mv
set_option maxHeartbeats 2000000
set_option maxRecDepth 10000
set_option linter.unusedVariables false
set_option linter.unusedSimpArgs false
attribute [local irreducible] FCalls IntKind.wrap bits Mem.set Mem.setCell Mem.setCells
theorem TM.len {m0 m : Mem} {p : Nat} {a : Abs} (h : TM m0 m p a) : (a.len = 0 ∨ ∃ k, k < 40 ∧ a.len = 2 ^ k) ∧ 2 * a.n ≤ a.len ∧ (a.n : Int) ≤ a.most ∧ a.most ≤ 1000000 := by
  obtain ⟨t, h⟩ := h
  have h1 := h.ok.many
  have h2 := h.ok.half
  have h3 := h.en
  have h4 := h.el
  have h5 := h.ok.full
  have h6 := h.em
  have h7 := h.ok.most1
  refine ⟨?_, by omega, by omega, by omega⟩
  rcases h.ok.ok with h8 | h8
  · left
    rw [← h4, h8]
    rfl
  · right
    rw [← h4]
    exact h8.pow
theorem zero_tab {m : Mem} {p : Nat} {t : Tab} (ht : TabAt m p t) (ho : TabOk t) (hne : t.sl ≠ []) :
    TabAt (m.setCells ⟨t.q, 0, none⟩ 0 (zerosOf tbl 69 t.sl.length).list) p { t with sl := List.replicate t.sl.length .zero } ∧ Keep [t.q] m (m.setCells ⟨t.q, 0, none⟩ 0 (zerosOf tbl 69 t.sl.length).list) ∧ Good (List.replicate t.sl.length .zero) := by
  obtain ⟨hq, hpq⟩ := ht.places hne
  have hg := ho.ok.resolve_left hne
  obtain ⟨k, hk, hn⟩ := hg.pow
  have hl : 0 < t.sl.length := hg.pos
  have hne' : List.replicate t.sl.length Slt.zero ≠ [] := by intro h; have := congrArg List.length h; simp at this; exact hne this
  refine ⟨⟨?_, fun _ => ⟨?_, hpq⟩, fun s hs => ?_, by simpa using ht.size, fun x hx => ⟨dom_setCells _ (ht.far x hx).1, (ht.far x hx).2.1, fun _ => (ht.far x hx).2.2 hne⟩⟩, Keep.cells (by simp), by rw [hn]; exact good_zero hk⟩
  · have h1 := ht.head.setCells_ne (c := t.q) (i := 0) (j := 0) (vs := (zerosOf tbl 69 t.sl.length).list) hpq
    have hs1 : Tab.sA { t with sl := List.replicate t.sl.length .zero } = some ⟨t.q, 0, none⟩ := if_neg hne'
    have hs2 : t.sA = some ⟨t.q, 0, none⟩ := if_neg hne
    rw [hs1, List.length_replicate]
    rw [hs2] at h1
    exact h1
  · have h1 := Blk.puts (i := 0) (zerosOf tbl 69 t.sl.length).list (j := 0) hq
    rw [Nat.zero_add, writeAt_full _ _ (by rw [cellsOf_zero, cellsOf_length, cellsOf_length, List.length_replicate])] at h1
    dsimp only
    rw [← cellsOf_zero]
    exact h1
  · rw [List.mem_replicate] at hs
    rw [hs.2]
    exact ⟨.inl rfl, .inl rfl, .inl rfl, by simp [Slt.zero], fun _ _ => .inl rfl⟩
theorem noHas0 {n : Nat} (ks : List Int) (v : Int) : ¬ Has (List.replicate n Slt.zero) ks v := by
  rintro ⟨s, hs, hu, _⟩
  rw [List.mem_replicate] at hs
  rw [hs.2] at hu
  cases hu
theorem clear_m {m0 m : Mem} {p : Nat} {a : Abs} (h : TM m0 m p a) :
    FCalls Try.prog 21 [.pointer (some ⟨p, 0, none⟩)] m fun v m' => v = .tuple #[] ∧ TM m0 m' p { a with f := fun _ => none, n := 0, len := if a.len > 16 then 0 else a.len } := by
  obtain ⟨t, h⟩ := h
  have ht := h.tab
  have ho := h.ok
  have hel := h.el
  refine fcalls_of_vc (T := tbl) (B := bodies) (pr := []) (DR := dr21) (args := [.v (.pointer (some ⟨p, 0, none⟩))]) tbl_ok bodies_ok mixed Try.func21 rfl (by decide +kernel) (by simp [Try.f21]) rfl ?_
  (conv => whnf)
  refine ⟨_, _, _, ht.head.cell (i := 2) rfl, ?_⟩
  (conv => whnf)
  refine ⟨fun h1 => ?_, fun q h1 h2 => ?_⟩
  · have hs : t.sl = [] := by
      rcases h1 with h1 | h1
      · exact Classical.byContradiction fun hne => by rw [Tab.sA, if_neg hne] at h1; cases h1
      · exact List.length_eq_zero_iff.1 h1
    (conv => whnf)
    refine ⟨_, _, _, ht.head.cell (i := 2) rfl, ?_⟩
    (conv => whnf)
    refine brk_false (by simp [hs]) ?_
    (conv => whnf)
    refine ⟨⟨⟨_, ht.head.cell (i := 3) rfl⟩, ht.head.fz⟩, ?_⟩
    (conv => whnf)
    obtain ⟨h3, h4⟩ := many_at (n := 0) ht
    have ha : a.len = 0 := by rw [← hel, hs]; rfl
    refine ⟨rfl, { t with many := 0 }, h3, ⟨.inl hs, by simp [hs, cnt], by simp [hs, cnt], fun s hs' => (by rw [hs] at hs'; cases hs'), ho.w0, ho.w1, ho.most0, ho.most1, ho.most0⟩, h.qp, h.fp, h.fq, h.keep.bads h4 (by simpa using h.fp), h.ew, h.em, rfl, by dsimp only; rw [hs, ha]; rfl, fun k x => ?_, h.eg⟩
    rw [hs]
    constructor
    · rintro ⟨s, hs', _⟩
      cases hs'
    · exact fun hh => by cases hh
  · have hne : t.sl ≠ [] := by rintro hs; rw [hs] at h2; simp at h2
    obtain ⟨hq, hpq⟩ := ht.places hne
    have hsA : t.sA = some ⟨t.q, 0, none⟩ := if_neg hne
    rw [hsA] at h1
    cases h1
    obtain ⟨hz1, hz2, hz3⟩ := zero_tab ht ho hne
    have hz := hz1.head
    have hk0 := h.keep.bads hz2 (by simpa using h.fq)
    have hhead := ht.head
    rw [hsA] at hhead
    refine ⟨hq.room (by rw [cellsOf_length, show (tbl.at 69).size = 4 from rfl]; omega), ?_⟩
    (conv => whnf)
    refine ⟨_, _, _, hz.cell (i := 2) rfl, ?_⟩
    (conv => whnf)
    refine brk_intro (fun h3 => ?_) (fun h3 => ?_)
    · have h3 : t.sl.length > 16 := by
        have : (16 : Int) < t.sl.length := by simpa using h3
        omega
      have hz' := hz.put (i := 2) (.slice none 0 0)
      (conv => whnf)
      refine ⟨⟨⟨_, hz.cell (i := 2) rfl⟩, hz.fz⟩, ?_⟩
      (conv => whnf)
      refine ⟨⟨⟨_, hz'.cell (i := 3) rfl⟩, hz'.fz⟩, ?_⟩
      (conv => whnf)
      refine ⟨rfl, ⟨t.w, t.most, [], p, 0, t.g⟩, ⟨hz'.put (i := 3) (.int .i64 0), fun hh => absurd rfl hh, fun s hs => (by cases hs), by simp, fun x hx => ⟨dom_setCell (dom_setCell (hz1.far x hx).1), (hz1.far x hx).2.1, fun h => absurd rfl h⟩⟩, ⟨.inl rfl, rfl, by simp [cnt], fun s hs => (by cases hs), ho.w0, ho.w1, ho.most0, ho.most1, ho.most0⟩, fun _ => rfl, h.fp, h.fp, ?_, h.ew, h.em, rfl, by dsimp only; rw [← hel, if_pos h3]; rfl, fun k x => ?_, h.eg⟩
      · exact hk0.bads (bad := [p]) ((Keep.cell (by simp)).trans (Keep.cell (by simp))) (by simpa using h.fp)
      · constructor
        · rintro ⟨s, hs', _⟩
          cases hs'
        · exact fun hh => by cases hh
    · have h3 : ¬ t.sl.length > 16 := by
        have : ¬ (16 : Int) < t.sl.length := by simpa using h3
        omega
      obtain ⟨hm1, hm2⟩ := many_at (n := 0) hz1
      (conv => whnf)
      refine ⟨⟨⟨_, hz.cell (i := 3) rfl⟩, hz.fz⟩, ?_⟩
      (conv => whnf)
      refine ⟨rfl, _, hm1, ⟨.inr hz3, by dsimp only; rw [cnt_zero]; rfl, by dsimp only; rw [cnt_zero]; omega, fun s hs hu => ?_, ho.w0, ho.w1, ho.most0, ho.most1, ho.most0⟩, ?_, h.fp, h.fq, ?_, h.ew, h.em, rfl, by dsimp only; rw [← hel, if_neg h3, List.length_replicate], fun k x => ?_, h.eg⟩
      · rw [List.mem_replicate] at hs
        rw [hs.2] at hu
        cases hu
      · intro hh
        have := congrArg List.length hh
        simp at this
        exact absurd this hne
      · exact hk0.bads hm2 (by simpa using h.fp)
      · constructor
        · exact fun hh => absurd hh (noHas0 k x)
        · exact fun hh => by cases hh
end Go.Proofs.Ytoifiplefjclbaa
