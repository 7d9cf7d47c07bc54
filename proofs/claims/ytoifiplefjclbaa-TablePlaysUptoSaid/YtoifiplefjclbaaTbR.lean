/- Table: the map as a part of memory. -/
import Derived.Test.YtoifiplefjclbaaTbQ
namespace Go.Proofs.Ytoifiplefjclbaa
open Go Go.Mv
set_option maxHeartbeats 1000000
set_option maxRecDepth 10000
set_option linter.unusedVariables false
set_option linter.unusedSimpArgs false
attribute [local irreducible] FCalls IntKind.wrap bits Mem.set Mem.setCell Mem.setCells YCalls
/-- A table at p that is the map a; what mk tells is kept. -/
def tm (mk : Mem) (p : Nat) (a : Abs) : Asn := fun M => TM mk M p a
theorem tm_up {mk m m' : Mem} {p : Nat} {a : Abs} (h : tm mk p a m) (hm : m.le m') : tm mk p a m' := TM.mono h fun b o h _ => hm b o h
theorem tm_at {mk m : Mem} {p : Nat} {a : Abs} {L : List Asn} (h : Sep L m) (j : Nat) (hj : L[j]? = some (tm mk p a)) : TM mk m p a := by
  obtain ⟨m1, h1, h2⟩ := h.get j hj
  exact tm_up h2 h1
theorem tm_le {mk m : Mem} {p : Nat} {a : Abs} (h : TM mk m p a) : mk.le m := fun b o hb => h.keep b o hb (by simp)
/-- A new block becomes one of those that are kept. -/
theorem tm_merge {mk M : Mem} {p b : Nat} {l : List Value} {a : Abs} {R : List Asn} (h : Sep (pt b l :: tm mk p a :: R) M) : ∃ mk', mk.le mk' ∧ Blk mk' b l ∧ Sep (tm mk' p a :: R) M := by
  obtain ⟨m1, m2, k1, k2, k3, h1, k5⟩ := Sep.group (L := [pt b l, tm mk p a]) (R := R) h
  obtain ⟨ma, mb, g1, g2, g3, ⟨e, ge⟩, mc, md, q1, q2, q3, ⟨t, hT⟩, _⟩ := h1
  have hT : TM' mk mb p a t := TM'.up hT q2
  have hbn : mb b = none := by
    rcases g1 b with hx | hx
    · rw [hx] at ge; cases ge
    · exact hx
  have hkn : mk b = none := Mem.le_none (fun b o hb => hT.keep b o hb (by simp)) hbn
  exact ⟨mk.set b (.cells l.toArray e (0, 0)), Mem.le_set hkn, Blk.new, m1, m2, k1, k2, k3, ⟨_, hT.take hbn (fun c o h _ => g3 c o h) (g2 _ _ ge)⟩, k5⟩
theorem ints_blk {m : Mem} {b : Nat} {xs : List Int} (h : Blk m b (ints xs)) : Ints m (some ⟨b, 0, none⟩) xs := .inr ⟨b, 0, rfl, fun k x hx => by rw [Nat.zero_add]; exact h.cell (ints_get hx)⟩
theorem get_x {m0 m : Mem} {p : Nat} {a : Abs} {A : Option Addr} {ks : List Int} {c : Nat} (h : TM m0 m p a) (hI : Ints m A ks) :
    FCalls Try.prog 14 [.pointer (some ⟨p, 0, none⟩), .slice A ks.length c] m fun v m' => v = .tuple #[.int .i64 ((a.f ks).getD 0), .bool (a.f ks).isSome] ∧ m' = m := by
  obtain ⟨t, h⟩ := h
  refine FCalls.mono (get_c h.tab h.ok hI) ?_
  rintro v m' ⟨x, b, rfl, rfl, ⟨rfl, h1⟩ | ⟨rfl, rfl, h1⟩⟩
  · rw [(h.map ks x).1 h1]
    exact ⟨rfl, rfl⟩
  · have : a.f ks = none := by
      cases hf : a.f ks with
      | none => rfl
      | some v => exact absurd ((h.map ks v).2 hf) (h1 v)
    rw [this]
    exact ⟨rfl, rfl⟩
theorem ents_len {m0 m : Mem} {p : Nat} {a : Abs} (h : TM m0 m p a) {es : List (List Int × Int)} (hes : Entries a.f es) : es.length = a.n := by
  obtain ⟨t, h⟩ := h
  have h1 := hes.unique (ents_of h (List.mergeSort_perm _ fun x y => decide (lexC x.ks y.ks ≤ 0)) ((List.pairwise_mergeSort (fun a b c h1 h2 => by simp only [decide_eq_true_eq] at *; exact (lexC_le_trans h1 h2).1) (fun a b => by
    have := lexC_neg a.ks b.ks
    simp only [Bool.or_eq_true, decide_eq_true_eq]
    omega) _).imp fun {x y} h => by simpa using h))
  rw [h1]
  have h2 := h.en
  have h3 := h.ok.many
  unfold entsOf
  rw [List.length_map, List.length_mergeSort]
  unfold usedL
  rw [← List.countP_eq_length_filter]
  unfold cnt at h3
  omega
theorem known_k {m : Mem} : FCalls Try.prog 10 [] m fun v m' => v = .bool true ∧ m.le m' :=
  known_c.mono fun v m' ⟨h1, h2⟩ => ⟨h1, fun b o hb => h2 b o hb (by simp)⟩
/-- New, as a part. -/
theorem new_on {mk m m' : Mem} {p : Nat} {a : Abs} {L : List Asn} (h : Sep (kp mk :: L) m) (k : TM m m' p a) (h0 : a.len = 0) : Sep (tm mk p a :: L) m' := by
  obtain ⟨m1, m2, k1, k2, k3, k4, k5⟩ := h
  obtain ⟨t, hT⟩ := k
  have hsl : t.sl = [] := List.length_eq_zero_iff.1 (by rw [hT.el, h0])
  obtain ⟨e, he⟩ := hT.tab.head
  have hm : m.le m' := fun b o hb => hT.keep b o hb (by simp)
  have h1 : m1 p = none := Mem.le_none k2 hT.fp
  have h2 : m2 p = none := Mem.le_none k3 hT.fp
  have hkp : mk p = none := Mem.le_none (show mk.le m1 from k4) h1
  refine ⟨m1.set p _, m2, fun b => ?_, fun b o hb => ?_, Mem.le_trans k3 hm, ⟨{ t with g := fun x => mk x ≠ none }, ⟨⟨e, by simp [Mem.set]; rfl⟩, fun hh => absurd hsl hh, fun s hs => (by simp only [hsl] at hs; cases hs), hT.tab.size, fun x hx => ⟨dom_set (Mem.le_dom (show mk.le m1 from k4) hx), by rintro rfl; exact hx hkp, fun hh => absurd hsl hh⟩⟩, ⟨hT.ok.ok, hT.ok.many, hT.ok.half, hT.ok.wid, hT.ok.w0, hT.ok.w1, hT.ok.most0, hT.ok.most1, hT.ok.full⟩, hT.qp, hkp, by show mk t.q = none; rw [hT.qp hsl]; exact hkp, fun b o hb _ => ?_, hT.ew, hT.em, hT.en, hT.el, hT.map, fun _ => Iff.rfl⟩, k5⟩
  · by_cases hbp : b = p
    · exact .inr (hbp ▸ h2)
    · rw [Mem.set_ne hbp]
      exact k1 b
  · by_cases hbp : b = p
    · subst hbp
      simp only [Mem.set, if_true] at hb
      rw [he]
      exact hb
    · rw [Mem.set_ne hbp] at hb
      exact hm b o (k2 b o hb)
  · exact Mem.le_set h1 b o (k4 b o hb)
end Go.Proofs.Ytoifiplefjclbaa
