/- The table's law: no program in sight. -/
import Derived.Test.YtoifiplefjclbaaTbC
namespace Go.Proofs.Ytoifiplefjclbaa
open Go Go.Mv
set_option maxHeartbeats 1000000
set_option linter.unusedVariables false
set_option linter.unusedSimpArgs false
/-- How far it is from a on to b, round about of n. -/
def dist (n a b : Nat) : Nat := if a ≤ b then b - a else b + n - a
def nxt (n i : Nat) : Nat := if i + 1 = n then 0 else i + 1
theorem dist_cases (n a b : Nat) : (a ≤ b ∧ dist n a b = b - a) ∨ (b < a ∧ dist n a b = b + n - a) := by
  unfold dist
  split
  · exact .inl ⟨by omega, rfl⟩
  · exact .inr ⟨by omega, rfl⟩
theorem nxt_cases (n a : Nat) : (a + 1 = n ∧ nxt n a = 0) ∨ (a + 1 ≠ n ∧ nxt n a = a + 1) := by
  unfold nxt
  split
  · exact .inl ⟨by omega, rfl⟩
  · exact .inr ⟨by omega, rfl⟩
theorem dist_lt {n a b : Nat} (ha : a < n) (hb : b < n) : dist n a b < n := by unfold dist; split <;> omega
theorem dist_self {n a : Nat} : dist n a a = 0 := by simp [dist]
theorem dist_zero {n a b : Nat} (ha : a < n) (hb : b < n) (h : dist n a b = 0) : a = b := by unfold dist at h; split at h <;> omega
theorem nxt_eq {n i : Nat} (h : i < n) : (i + 1) % n = nxt n i := by
  unfold nxt
  split
  · subst_vars; exact Nat.mod_self _
  · exact Nat.mod_eq_of_lt (by omega)
theorem nxt_lt {n i : Nat} (h : i < n) : nxt n i < n := by unfold nxt; split <;> omega
theorem dist_nxt {n a b : Nat} (ha : a < n) (hb : b < n) (h : a ≠ b) : dist n (nxt n a) b + 1 = dist n a b := by
  unfold nxt dist
  split <;> (try split) <;> (try split) <;> omega
theorem dist_nxt_self {n a : Nat} (ha : a < n) : dist n (nxt n a) a = n - 1 := by
  unfold nxt dist
  split <;> (try split) <;> omega
theorem nxt_inj {n a b : Nat} (ha : a < n) (hb : b < n) (h : nxt n a = nxt n b) : a = b := by
  unfold nxt at h
  split at h <;> split at h <;> omega

theorem atGo_spec {sl : List Slt} {ks : List Int} {h : Int} {r : Nat} (hr : r < sl.length) (hs : stopAt ks h (sl.getD r .zero) = true) : ∀ (fuel i : Nat), i < sl.length → dist sl.length i r < fuel →
    (∀ x, x < sl.length → dist sl.length i x < dist sl.length i r → stopAt ks h (sl.getD x .zero) = false) → atGo sl ks h fuel i = some r
  | 0, _, _, h, _ => by omega
  | fuel + 1, i, hi, hf, hx => by
    rw [atGo]
    by_cases hir : i = r
    · subst hir
      rw [if_pos hs]
    · have h0 : 0 < dist sl.length i r := by
        rcases Nat.eq_zero_or_pos (dist sl.length i r) with h0 | h0
        · exact absurd (dist_zero hi hr h0) hir
        · exact h0
      have := hx i hi (by rw [dist_self]; exact h0)
      rw [this, if_neg (by simp), nxt_eq hi]
      have hd := dist_nxt hi hr hir
      refine atGo_spec hr hs fuel _ (nxt_lt hi) (by omega) fun x hxl hlt => ?_
      have hxi : i ≠ x := by
        rintro rfl
        rw [dist_nxt_self hi] at hlt
        have := dist_lt (nxt_lt hi) hr
        omega
      have := dist_nxt hi hxl hxi
      exact hx x hxl (by omega)

def home (n : Nat) (s : Slt) : Nat := (s.h % n).toNat
theorem home_lt {n : Nat} {s : Slt} (h : 0 < n) : home n s < n := by
  unfold home
  have := Int.emod_lt_of_pos s.h (show (0 : Int) < n by omega)
  have := Int.emod_nonneg s.h (show (n : Int) ≠ 0 by omega)
  omega
def Used (sl : List Slt) (i : Nat) : Prop := ∃ s, sl[i]? = some s ∧ s.used = true
/-- A good list of places. -/
structure Good (sl : List Slt) : Prop where
  pow : ∃ k, k < 40 ∧ sl.length = 2 ^ k
  hash : ∀ s, s ∈ sl → s.used = true → s.h = hashOf s.ks
  one : ∀ (i j : Nat) (s t : Slt), sl[i]? = some s → sl[j]? = some t → s.used = true → t.used = true → s.ks = t.ks → i = j
  path : ∀ (i : Nat) (s : Slt), sl[i]? = some s → s.used = true → ∀ x, x < sl.length → dist sl.length (home sl.length s) x < dist sl.length (home sl.length s) i → Used sl x
  free : ∃ (i : Nat) (s : Slt), sl[i]? = some s ∧ s.used = false
theorem Good.pos {sl : List Slt} (h : Good sl) : 0 < sl.length := by
  obtain ⟨k, _, h⟩ := h.pow
  rw [h]
  exact Nat.two_pow_pos k
theorem getD_of {sl : List Slt} {i : Nat} {s : Slt} (h : sl[i]? = some s) : sl.getD i .zero = s := by simp [List.getD, h]
theorem lt_of {sl : List Slt} {i : Nat} {s : Slt} (h : sl[i]? = some s) : i < sl.length := (List.getElem?_eq_some_iff.1 h).1
theorem at_found {sl : List Slt} (hg : Good sl) {j : Nat} {s : Slt} (hj : sl[j]? = some s) (hu : s.used = true) : atGo sl s.ks (hashOf s.ks) sl.length (hashOf s.ks % sl.length).toNat = some j := by
  have hh := hg.hash s (List.mem_of_getElem? hj) hu
  have hhome : (hashOf s.ks % sl.length).toNat = home sl.length s := by rw [← hh]; rfl
  have hl := lt_of hj
  rw [hhome]
  refine atGo_spec hl (by rw [getD_of hj]; simp [stopAt, hh]) _ _ (home_lt hg.pos) (dist_lt (home_lt hg.pos) hl) fun x hx hlt => ?_
  obtain ⟨t, ht, htu⟩ := hg.path j s hj hu x hx hlt
  rw [getD_of ht]
  simp only [stopAt, htu, Bool.not_true, Bool.false_or, Bool.and_eq_false_imp]
  intro _
  rw [decide_eq_false_iff_not]
  intro hks
  have := hg.one x j t s ht hj htu hu hks
  subst this
  omega
/-- The first free place from i on. -/
theorem first_free {sl : List Slt} {i : Nat} (hi : i < sl.length) (hf : ∃ (r : Nat) (s : Slt), sl[r]? = some s ∧ s.used = false) :
    ∃ (r : Nat) (s : Slt), sl[r]? = some s ∧ s.used = false ∧ ∀ x, x < sl.length → dist sl.length i x < dist sl.length i r → Used sl x := by
  obtain ⟨r, s, hr, hs⟩ := hf
  have key : ∀ (d r : Nat) (s : Slt), sl[r]? = some s → s.used = false → dist sl.length i r = d → ∃ (r : Nat) (s : Slt), sl[r]? = some s ∧ s.used = false ∧ ∀ x, x < sl.length → dist sl.length i x < dist sl.length i r → Used sl x := by
    intro d
    induction d using Nat.strongRecOn with
    | _ d ih =>
      intro r s hr hs hd
      by_cases hx : ∀ x, x < sl.length → dist sl.length i x < dist sl.length i r → Used sl x
      · exact ⟨r, s, hr, hs, hx⟩
      · have : ∃ x, x < sl.length ∧ dist sl.length i x < dist sl.length i r ∧ ¬ Used sl x := by
          apply Classical.byContradiction
          intro hn
          exact hx fun x h1 h2 => Classical.byContradiction fun h3 => hn ⟨x, h1, h2, h3⟩
        obtain ⟨x, h1, h2, h3⟩ := this
        have hxs : sl[x]? = some sl[x] := List.getElem?_eq_getElem h1
        refine ih _ (by omega) x _ hxs ?_ rfl
        cases hu : sl[x].used with
        | false => rfl
        | true => exact absurd ⟨_, hxs, hu⟩ h3
  exact key _ r s hr hs rfl
theorem at_free {sl : List Slt} (hg : Good sl) {ks : List Int} (hno : ∀ s, s ∈ sl → s.used = true → s.ks ≠ ks) :
    ∃ (r : Nat) (s : Slt), sl[r]? = some s ∧ s.used = false ∧ atGo sl ks (hashOf ks) sl.length (hashOf ks % sl.length).toNat = some r ∧ ∀ x, x < sl.length → dist sl.length (hashOf ks % sl.length).toNat x < dist sl.length (hashOf ks % sl.length).toNat r → Used sl x := by
  have hh : (hashOf ks % sl.length).toNat < sl.length := home_lt (s := ⟨false, hashOf ks, none, [], 0, 0⟩) hg.pos
  obtain ⟨r, s, hr, hs, hx⟩ := first_free hh hg.free
  refine ⟨r, s, hr, hs, ?_, hx⟩
  refine atGo_spec (lt_of hr) (by rw [getD_of hr]; simp [stopAt, hs]) _ _ hh (dist_lt hh (lt_of hr)) fun x hxl hlt => ?_
  obtain ⟨t, ht, htu⟩ := hx x hxl hlt
  rw [getD_of ht]
  simp only [stopAt, htu, Bool.not_true, Bool.false_or, Bool.and_eq_false_imp]
  intro _
  rw [decide_eq_false_iff_not]
  exact hno t (List.mem_of_getElem? ht) htu
end Go.Proofs.Ytoifiplefjclbaa
