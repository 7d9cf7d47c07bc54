/- Words in lines: the list of all, reckoned; Next by the list. -/
import Derived.Test.YtbcmhpannbdejaaHuS
namespace Go.Mv.Hunt
/-- All stands, reckoned. -/
def allsC (lws : List Str) (y : Str) : List (Nat × Nat) := (List.range y.length).flatMap fun a => ((List.range lws.length).filter fun k => (lws.getD k []).isPrefixOf (y.drop a)).map fun k => (a, k)
theorem allsC_is {lws : List Str} (h0 : [] ∉ lws) (y : Str) : Alls lws y (allsC lws y) := by
  refine ⟨?_, fun a k => ?_⟩
  · unfold allsC
    rw [List.pairwise_flatMap]
    refine ⟨fun a _ => ?_, List.pairwise_lt_range.imp fun {a b} hab x hx z hz => ?_⟩
    · rw [List.pairwise_map]
      exact (List.pairwise_lt_range.filter _).imp fun {k l} hkl => .inr ⟨rfl, hkl⟩
    · obtain ⟨k, _, rfl⟩ := List.mem_map.1 hx
      obtain ⟨l, _, rfl⟩ := List.mem_map.1 hz
      exact .inl hab
  · unfold allsC
    rw [List.mem_flatMap]
    constructor
    · rintro ⟨a', _, h2⟩
      obtain ⟨k', h3, h4⟩ := List.mem_map.1 h2
      cases h4
      obtain ⟨h5, h6⟩ := List.mem_filter.1 h3
      have h5 := List.mem_range.1 h5
      refine ⟨lws[k], List.getElem?_eq_getElem h5, ?_⟩
      rw [List.isPrefixOf_iff_prefix] at h6
      simpa [List.getD, h5] using h6
    · intro hs
      obtain ⟨t, h1, h2, h3⟩ := (std_stn h0).1 hs
      have : t ≠ [] := by rintro rfl; exact h0 (List.mem_of_getElem? h1)
      have := List.length_pos_iff.2 this
      refine ⟨a, List.mem_range.2 (by omega), List.mem_map.2 ⟨k, List.mem_filter.2 ⟨List.mem_range.2 (lt_of_get h1), ?_⟩, rfl⟩⟩
      rw [List.isPrefixOf_iff_prefix]
      simpa [List.getD, h1] using h2
theorem Alls.is {lws : List Str} (h0 : [] ∉ lws) {y : Str} {l : List (Nat × Nat)} (h : Alls lws y l) : l = allsC lws y := h.unique (allsC_is h0 y)
theorem find_first {l : List (Nat × Nat)} {P : Nat × Nat → Bool} (hs : l.Pairwise before) {x : Nat × Nat} (hx : x ∈ l) (hP : P x = true) (hm : ∀ y, y ∈ l → P y = true → ¬ before y x) : l.find? P = some x := by
  induction l with
  | nil => cases hx
  | cons z r ih =>
    rw [List.pairwise_cons] at hs
    rw [List.find?_cons]
    rcases List.mem_cons.1 hx with rfl | h1
    · rw [hP]
    · have hz : P z = false := by
        cases hz : P z with
        | false => rfl
        | true => exact absurd (hs.1 x h1) (hm z (by simp) hz)
      rw [hz]
      exact ih hs.2 h1 fun y hy => hm y (by simp [hy])
/-- What Next should tell. -/
def nextC (lws : List Str) (y : Str) (fr : Int) : Option (Nat × Nat) := if 0 ≤ fr ∧ fr ≤ (y.length : Nat) then (allsC lws y).find? fun p => decide (fr ≤ (p.1 : Int)) else none
end Go.Mv.Hunt
