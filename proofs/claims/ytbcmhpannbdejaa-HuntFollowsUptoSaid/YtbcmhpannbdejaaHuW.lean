/- Words in lines: how often, the last, the first told. -/
import Derived.Test.YtbcmhpannbdejaaHuV
namespace Go.Mv.Hunt
def cntK (l : List (Nat × Nat)) (k : Nat) : Nat := (l.filter fun z => z.2 == k).length
theorem cnt_snoc {l : List (Nat × Nat)} {a k j : Nat} : cntK (l ++ [(a, k)]) j = cntK l j + (if k = j then 1 else 0) := by
  unfold cntK
  rw [List.filter_append, List.length_append]
  congr 1
  by_cases h : k = j
  · simp [h]
  · simp [h]
theorem cnt_le {l : List (Nat × Nat)} {k : Nat} : cntK l k ≤ l.length := List.length_filter_le _ _
def lastI (l : List (Nat × Nat)) : Int × Int := match l.getLast? with | some z => (z.1, z.2) | none => (-1, -1)
theorem lastI_snoc {l : List (Nat × Nat)} {z : Nat × Nat} : lastI (l ++ [z]) = ((z.1 : Int), (z.2 : Int)) := by
  unfold lastI
  rw [List.getLast?_append]
  rfl
theorem lastI_before {l : List (Nat × Nat)} (hs : l.Pairwise before) {j : Nat} {z : Nat × Nat} (hz : l[j]? = some z) : ¬ (z.1 : Int) < (lastI (l.take j)).1 ∧ ¬ ((z.1 : Int) = (lastI (l.take j)).1 ∧ (z.2 : Int) ≤ (lastI (l.take j)).2) := by
  cases j with
  | zero =>
    simp only [List.take_zero]
    unfold lastI
    simp only [List.getLast?_nil]
    omega
  | succ j =>
    have hj := lt_of_get hz
    obtain ⟨u, hu⟩ : ∃ u, l[j]? = some u := ⟨_, List.getElem?_eq_getElem (by omega)⟩
    have hb : before u z := by
      obtain ⟨h1, rfl⟩ := List.getElem?_eq_some_iff.1 hu
      obtain ⟨h2, rfl⟩ := List.getElem?_eq_some_iff.1 hz
      exact List.pairwise_iff_getElem.1 hs j (j + 1) h1 h2 (by omega)
    rw [List.take_add_one, hu]
    show ¬ (z.1 : Int) < (lastI (l.take j ++ [u])).1 ∧ ¬ ((z.1 : Int) = (lastI (l.take j ++ [u])).1 ∧ (z.2 : Int) ≤ (lastI (l.take j ++ [u])).2)
    rw [lastI_snoc]
    unfold before at hb
    simp only
    omega
def firstI (fr : Int) (l : List (Nat × Nat)) : Int × Int := match l.find? (fun p => decide (fr ≤ (p.1 : Int))) with | some z => (z.1, z.2) | none => (-1, -1)
theorem firstI_snoc {fr : Int} {l : List (Nat × Nat)} {z : Nat × Nat} : firstI fr (l ++ [z]) = if fr ≤ (z.1 : Int) ∧ (firstI fr l).1 < 0 then ((z.1 : Int), (z.2 : Int)) else firstI fr l := by
  unfold firstI
  rw [List.find?_append]
  cases h : l.find? (fun p => decide (fr ≤ (p.1 : Int))) with
  | some u =>
    rw [if_neg (by simp only; omega)]
    rfl
  | none =>
    by_cases hz : fr ≤ (z.1 : Int)
    · rw [if_pos ⟨hz, by decide⟩]
      simp [hz]
    · rw [if_neg (by omega)]
      simp [hz]
theorem firstI_lt {fr : Int} {l : List (Nat × Nat)} : (firstI fr l).1 < 0 ↔ l.find? (fun p => decide (fr ≤ (p.1 : Int))) = none := by
  unfold firstI
  cases h : l.find? (fun p => decide (fr ≤ (p.1 : Int))) with
  | some u => simp
  | none => simp
def hits (y : Str) (c i : Nat) : Nat := ((List.range i).filter fun a => y[a]? == some c).length
theorem hits_succ {y : Str} {c i : Nat} : hits y c (i + 1) = hits y c i + (if y[i]? = some c then 1 else 0) := by
  unfold hits
  rw [List.range_succ, List.filter_append, List.length_append]
  congr 1
  by_cases h : y[i]? = some c
  · simp [h]
  · simp [h]
theorem hits_le {y : Str} {c i : Nat} : hits y c i ≤ i := by
  unfold hits
  have := List.length_filter_le (fun a => y[a]? == some c) (List.range i)
  rwa [List.length_range] at this
theorem one_pre {y : Str} {a c : Nat} : [c] <+: y.drop a ↔ y[a]? = some c := by
  constructor
  · rintro ⟨u, hu⟩
    have := congrArg (fun l => l[0]?) hu
    simpa using this.symm
  · intro h
    obtain ⟨h1, rfl⟩ := List.getElem?_eq_some_iff.1 h
    rw [List.drop_eq_getElem_cons h1]
    exact ⟨y.drop (a + 1), rfl⟩
theorem cnt_one {lws : List Str} (h0 : [] ∉ lws) {y : Str} {k c : Nat} (hk : lws[k]? = some [c]) : cntK (allsC lws y) k = hits y c y.length := by
  have hA := allsC_is h0 y
  have : (allsC lws y).filter (fun z => z.2 == k) = ((List.range y.length).filter fun a => y[a]? == some c).map fun a => (a, k) := by
    refine before_unique (hA.1.filter _) ?_ fun x => ?_
    · rw [List.pairwise_map]
      exact (List.pairwise_lt_range.filter _).imp fun {a b} hab => .inl hab
    · rw [List.mem_filter, List.mem_map]
      constructor
      · rintro ⟨h1, h2⟩
        have h2 : x.2 = k := by simpa using h2
        obtain ⟨t, g1, g2⟩ := (hA.2 x.1 x.2).1 h1
        rw [h2, hk] at g1
        cases g1
        have g3 := one_pre.1 g2
        exact ⟨x.1, List.mem_filter.2 ⟨List.mem_range.2 (lt_of_get g3), by simp [g3]⟩, by rw [← h2]⟩
      · rintro ⟨a, h1, rfl⟩
        obtain ⟨_, h2⟩ := List.mem_filter.1 h1
        have h2 : y[a]? = some c := by simpa using h2
        exact ⟨(hA.2 a k).2 ⟨[c], hk, one_pre.2 h2⟩, by simp⟩
  unfold cntK hits
  rw [this, List.length_map]
end Go.Mv.Hunt
