/- Table: does. -/
import Derived.Test.YtoifiplefjclbaaTbY
namespace Go.Proofs.Ytoifiplefjclbaa
open Go Go.Mv
set_option maxHeartbeats 2000000
set_option maxRecDepth 10000
set_option linter.unusedVariables false
set_option linter.unusedSimpArgs false
attribute [local irreducible] FCalls IntKind.wrap bits Mem.set Mem.setCell Mem.setCells YCalls
theorem tb_up {K K' m : Mem} {p : Nat} {a : Abs} {R : List Asn} (h : Sep (tb K p a :: kp K' :: R) m) (hK : K.le K') : Sep (tb K' p a :: kp K' :: R) m := by
  obtain ⟨m1, m2, k1, k2, k3, ⟨t, hT⟩, m3, m4, g1, g2, g3, g4, g5⟩ := h
  have hn : ∀ b, m1 b ≠ none → K' b = none := fun b hb => by
    rcases k1 b with h | h
    · exact absurd h hb
    · exact Mem.le_none (show K'.le m3 from g4) (Mem.le_none g2 h)
  have hp : K' p = none := hn p (by obtain ⟨e, he⟩ := hT.head; rw [he]; simp)
  refine ⟨m1, m2, k1, k2, k3, ⟨t, hT.head, hT.places, fun s hs => ⟨(hT.keys s hs).1.up hK, (hT.keys s hs).2⟩, hT.size, hp, ?_, hT.ab⟩, m3, m4, g1, g2, g3, g4, g5⟩
  by_cases hs : t.sl = []
  · rw [hT.ab.qp hs]; exact hp
  · exact hn t.q (by obtain ⟨e, he⟩ := (hT.places hs).1; rw [he]; simp)
structure AbF (a : Abs) : Prop where
  pow : a.len = 0 ∨ ∃ k, k < 40 ∧ a.len = 2 ^ k
  half : 2 * a.n ≤ a.len
  full : (a.n : Int) ≤ a.most
  most : a.most ≤ 1000000
  w0 : 0 ≤ a.w
  w1 : a.w ≤ 128
  wid : ∀ ks v, a.f ks = some v → (ks.length : Int) = a.w
theorem Ab.facts {p : Nat} {t : Tab} {a : Abs} (h : Ab p t a) : AbF a := by
  have ho := h.ok
  have hn := h.en
  have hm := ho.many
  have hel := h.el
  have hh := ho.half
  have hf := ho.full
  have hem := h.em
  have hew := h.ew
  have h1 := ho.most1
  have h2 := ho.w0
  have h3 := ho.w1
  refine ⟨?_, by omega, by omega, by omega, by omega, by omega, fun ks v hv => ?_⟩
  · rcases ho.ok with h | h
    · left; rw [← hel, h]; rfl
    · right; obtain ⟨k, hk, e⟩ := h.pow; exact ⟨k, hk, by rw [← hel, e]⟩
  · obtain ⟨s, hs, hu, hk, _⟩ := (h.map ks v).2 hv
    have := ho.wid s hs hu
    rw [hk] at this
    omega
theorem tb_facts {K m : Mem} {p : Nat} {a : Abs} {R : List Asn} (h : Sep (tb K p a :: R) m) : AbF a := by
  obtain ⟨m1, m2, k1, k2, k3, ⟨t, hT⟩, _⟩ := h
  exact hT.ab.facts
structure TWr (a : Abs) (top : Nat) (l : List RE) : Prop where
  ents : Entries a.f (ent l)
  hn : a.n = l.length
  ht : a.n ≤ top
  tm : (top : Int) ≤ a.most
  hl : a.len ≤ 16 + 8 * top
theorem ent_length (l : List RE) : (ent l).length = l.length := by unfold ent; simp
theorem twr_put {a a' : Abs} {top top' : Nat} {l l' : List RE} {ks : List Int} {v code code' : Int} (h : TWr a top l) (hF : AbF a) (h1 : putA a ks v code a') (h2 : rputR a.w a.most top l ks v code' top' l') : code = code' ∧ TWr a' top' l' ∧ a'.w = a.w ∧ a'.most = a.most := by
  obtain ⟨e1, e2, h1⟩ := h1
  have hth := there_f h.ents (ks := ks)
  have hn := h.hn
  have htop := h.ht
  have hlen := h.hl
  unfold rputR at h2
  by_cases hw : (ks.length : Int) ≠ a.w
  · rw [if_pos hw] at h1 h2
    obtain ⟨rfl, rfl⟩ := h1
    obtain ⟨rfl, rfl, rfl⟩ := h2
    exact ⟨rfl, h, rfl, rfl⟩
  rw [if_neg hw] at h1 h2
  by_cases ht : there ks (ent l) = true
  · rw [if_pos ht] at h2
    rw [if_pos (hth ▸ ht)] at h1
    obtain ⟨rfl, f1, f2, f3⟩ := h1
    obtain ⟨rfl, rfl, g1⟩ := h2
    obtain ⟨v0, hv0⟩ := there_some ht
    have hll : l'.length = l.length := by rw [← ent_length l', g1, List.length_set, ent_length]
    exact ⟨rfl, ⟨by rw [f1, g1]; exact ents_set h.ents hv0, by omega, by omega, by rw [e2]; exact h.tm, by omega⟩, e1, e2⟩
  · have ht' : there ks (ent l) = false := by simpa using ht
    rw [if_neg ht] at h2
    rw [if_neg (by rw [← hth]; exact ht)] at h1
    by_cases hm : a.most ≤ a.n
    · rw [if_pos hm] at h1
      rw [if_pos (by omega)] at h2
      obtain ⟨rfl, rfl⟩ := h1
      obtain ⟨rfl, rfl, rfl⟩ := h2
      exact ⟨rfl, h, rfl, rfl⟩
    · rw [if_neg hm] at h1
      rw [if_neg (by omega)] at h2
      obtain ⟨rfl, f1, f2, f3⟩ := h1
      obtain ⟨rfl, rfl, g1⟩ := h2
      have hps := pos_le ks (ent l)
      have hel := ent_length l
      have hll : l'.length = l.length + 1 := by rw [← ent_length l', g1]; simp; omega
      have htm := h.tm
      refine ⟨rfl, ⟨by rw [f1, g1]; exact ents_ins h.ents ht', by omega, by omega, by rw [e2]; omega, ?_⟩, e1, e2⟩
      rcases f3 with f3 | ⟨f3, f4⟩ <;> omega
theorem twr_drop {a : Abs} {top : Nat} {l l' : List RE} {ks : List Int} {b : Bool} (h : TWr a top l) (hF : AbF a) (hb : b = (decide ((ks.length : Int) = a.w) && there ks (ent l))) (hl : ent l' = (if b then (ent l).take (pos ks (ent l)) ++ (ent l).drop (pos ks (ent l) + 1) else ent l)) :
    b = (a.f ks).isSome ∧ TWr { a with f := updF a.f ks none, n := a.n - (if (a.f ks).isSome then 1 else 0) } top l' := by
  have hth := there_f h.ents (ks := ks)
  have hn := h.hn
  have htop := h.ht
  have hlen := h.hl
  have hb2 : b = (a.f ks).isSome := by
    rw [hb, hth]
    cases hf : a.f ks with
    | none => simp
    | some v => rw [decide_eq_true (hF.wid ks v hf)]; rfl
  refine ⟨hb2, ?_⟩
  rw [← hb2]
  cases b with
  | false =>
    rw [if_neg (by simp)] at hl
    have hf : a.f ks = none := by simpa using hb2.symm
    have hll : l'.length = l.length := by rw [← ent_length l', hl, ent_length]
    have hfe : updF a.f ks none = a.f := by funext k; unfold updF; split
                                            · rename_i e; rw [e, hf]
                                            · rfl
    exact ⟨by rw [hl]; show Entries (updF a.f ks none) _; rw [hfe]; exact h.ents, by simp; omega, by simp; omega, h.tm, h.hl⟩
  | true =>
    rw [if_pos rfl] at hl
    have ht : there ks (ent l) = true := by rw [hth]; exact hb2.symm
    obtain ⟨v0, hv0⟩ := there_some ht
    have hlt := (List.getElem?_eq_some_iff.1 hv0).1
    have hel := ent_length l
    have hll : l'.length + 1 = l.length := by rw [← ent_length l', hl]; simp; omega
    exact ⟨by rw [hl]; exact ents_del h.ents hv0, by simp; omega, by simp; omega, h.tm, h.hl⟩
/-- A table and the document's. -/
def tw (Ks : Mem) (p r : Nat) : Asn := fun M => ∃ K a top l, Ks.le K ∧ TWr a top l ∧ Sep [tb K p a, kp K, rt K r a.w a.most top l] M
theorem tw_open {Ks : Mem} {p r : Nat} {R : List Asn} {m : Mem} (h : Sep (tw Ks p r :: R) m) : ∃ K a top l, Ks.le K ∧ TWr a top l ∧ AbF a ∧ Sep (tb K p a :: kp K :: rt K r a.w a.most top l :: R) m := by
  obtain ⟨m1, m2, k1, k2, k3, ⟨K, a, top, l, h1, h2, h3⟩, k5⟩ := h
  exact ⟨K, a, top, l, h1, h2, tb_facts h3, Sep.split (L := [_, _, _]) ⟨m1, m2, k1, k2, k3, h3, k5⟩⟩
theorem tw_shut {Ks K : Mem} {a : Abs} {top : Nat} {l : List RE} {p r : Nat} {R : List Asn} {m : Mem} (h : Sep (tb K p a :: kp K :: rt K r a.w a.most top l :: R) m) (hK : Ks.le K) (hT : TWr a top l) : Sep (tw Ks p r :: R) m :=
  (Sep.group (L := [_, _, _]) h).turn 0 rfl fun m1 _ g => ⟨K, a, top, l, hK, hT, g⟩
theorem rt_upp {K K' m : Mem} {r top : Nat} {w most : Int} {l : List RE} {L : List Asn} (h : Sep L m) (j : Nat) (hj : L[j]? = some (rt K r w most top l)) (hK : K.le K') : Sep (L.set j (rt K' r w most top l)) m := h.turn j hj fun m1 _ g => rt_up g hK
end Go.Proofs.Ytoifiplefjclbaa
