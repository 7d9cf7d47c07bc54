/- The table's law: laying, growing. -/
import Derived.Test.YtoifiplefjclbaaTbL
namespace Go.Proofs.Ytoifiplefjclbaa
open Go Go.Mv
set_option maxHeartbeats 1000000
set_option linter.unusedVariables false
set_option linter.unusedSimpArgs false
def Has (sl : List Slt) (ks : List Int) (v : Int) : Prop := ∃ s, s ∈ sl ∧ s.used = true ∧ s.ks = ks ∧ s.v = v
def cnt (sl : List Slt) : Nat := sl.countP (·.used)
theorem set_at {sl : List Slt} {r i : Nat} {s : Slt} (hr : r < sl.length) : (sl.set r s)[i]? = if r = i then some s else sl[i]? := by
  rw [List.getElem?_set]
  by_cases h : r = i
  · subst h; simp [hr]
  · simp [h]
theorem free_of_cnt {sl : List Slt} (h : cnt sl < sl.length) : ∃ (i : Nat) (s : Slt), sl[i]? = some s ∧ s.used = false := by
  apply Classical.byContradiction
  intro hn
  have : cnt sl = sl.length := by
    refine List.countP_eq_length.2 fun s hs => ?_
    obtain ⟨i, hi⟩ := List.mem_iff_getElem?.1 hs
    cases hu : s.used with
    | true => rfl
    | false => exact absurd ⟨i, s, hi, hu⟩ hn
  omega
theorem cnt_set {sl : List Slt} {r : Nat} {s t : Slt} (hr : sl[r]? = some s) : cnt (sl.set r t) = cnt sl - (if s.used then 1 else 0) + (if t.used then 1 else 0) := by
  have hl := lt_of hr
  have : sl[r] = s := by rw [List.getElem?_eq_getElem hl] at hr; exact Option.some.inj hr
  unfold cnt
  rw [List.countP_set hl, this]
theorem used_set {sl : List Slt} {r x : Nat} {s : Slt} (hr : r < sl.length) (hs : s.used = true) (h : Used sl x) : Used (sl.set r s) x := by
  obtain ⟨t, ht, htu⟩ := h
  by_cases hrx : r = x
  · subst hrx
    exact ⟨s, by rw [set_at hr]; simp, hs⟩
  · exact ⟨t, by rw [set_at hr, if_neg hrx]; exact ht, htu⟩
theorem mem_set_at {sl : List Slt} {r : Nat} {s t : Slt} (h : t ∈ sl.set r s) : t = s ∨ t ∈ sl := (List.mem_or_eq_of_mem_set h).symm.imp id id
/-- A value is laid anew. -/
theorem good_value {sl : List Slt} (hg : Good sl) {j : Nat} {s : Slt} (hj : sl[j]? = some s) (hu : s.used = true) (v : Int) : Good (sl.set j { s with v := v }) := by
  have hl := lt_of hj
  refine ⟨?_, ?_, ?_, ?_, ?_⟩
  · simpa using hg.pow
  · intro t ht htu
    rcases mem_set_at ht with rfl | ht
    · exact hg.hash s (List.mem_of_getElem? hj) hu
    · exact hg.hash t ht htu
  · intro a b x y ha hb hx hy hxy
    rw [set_at hl] at ha hb
    split at ha <;> split at hb
    · omega
    · cases ha
      rename_i h1 _
      rw [← h1]
      exact hg.one j b s y hj hb hu hy hxy
    · cases hb
      rename_i h1
      rw [← h1]
      exact hg.one a j x s ha hj hx hu hxy
    · exact hg.one a b x y ha hb hx hy hxy
  · intro a t ha htu x hx hlt
    simp only [List.length_set] at hx hlt
    rw [set_at hl] at ha
    refine used_set hl hu ?_
    split at ha
    · cases ha
      subst_vars
      exact hg.path _ s hj hu x hx hlt
    · exact hg.path a t ha htu x hx hlt
  · obtain ⟨i, t, hi, ht⟩ := hg.free
    refine ⟨i, t, ?_, ht⟩
    rw [set_at hl, if_neg]
    · exact hi
    · rintro rfl
      rw [hj] at hi
      cases hi
      rw [hu] at ht
      cases ht
theorem has_value {sl : List Slt} (hg : Good sl) {j : Nat} {s : Slt} (hj : sl[j]? = some s) (hu : s.used = true) (v : Int) (ks : List Int) (x : Int) :
    Has (sl.set j { s with v := v }) ks x ↔ (ks = s.ks ∧ x = v) ∨ (ks ≠ s.ks ∧ Has sl ks x) := by
  have hl := lt_of hj
  constructor
  · rintro ⟨t, ht, htu, rfl, rfl⟩
    obtain ⟨i, hi⟩ := List.mem_iff_getElem?.1 ht
    rw [set_at hl] at hi
    split at hi
    · cases hi
      exact .inl ⟨rfl, rfl⟩
    · rename_i hne
      refine .inr ⟨fun he => hne ?_, t, List.mem_of_getElem? hi, htu, rfl, rfl⟩
      exact (hg.one i j t s hi hj htu hu he).symm
  · rintro (⟨hk, hv⟩ | ⟨hne, t, ht, htu, rfl, rfl⟩)
    · exact ⟨{ s with v := v }, List.mem_of_getElem? (i := j) (by rw [set_at hl, if_pos rfl]), hu, hk.symm, hv.symm⟩
    · obtain ⟨i, hi⟩ := List.mem_iff_getElem?.1 ht
      refine ⟨t, List.mem_of_getElem? (i := i) ?_, htu, rfl, rfl⟩
      rw [set_at hl, if_neg]
      · exact hi
      · rintro rfl
        rw [hj] at hi
        cases hi
        exact hne rfl
/-- A key is laid at a free place. -/
theorem good_insert {sl : List Slt} (hg : Good sl) {r : Nat} {s t : Slt} (hr : sl[r]? = some s) (hs : s.used = false) (ht : t.used = true) (hth : t.h = hashOf t.ks) (hno : ∀ u, u ∈ sl → u.used = true → u.ks ≠ t.ks)
    (hx : ∀ x, x < sl.length → dist sl.length (hashOf t.ks % sl.length).toNat x < dist sl.length (hashOf t.ks % sl.length).toNat r → Used sl x) (hc : cnt sl + 1 < sl.length) : Good (sl.set r t) := by
  have hl := lt_of hr
  refine ⟨?_, ?_, ?_, ?_, ?_⟩
  · simpa using hg.pow
  · intro u hu huu
    rcases mem_set_at hu with rfl | hu
    · exact hth
    · exact hg.hash u hu huu
  · intro a b x y ha hb hx hy hxy
    rw [set_at hl] at ha hb
    split at ha <;> split at hb
    · omega
    · cases ha
      exact absurd hxy.symm (hno y (List.mem_of_getElem? hb) hy)
    · cases hb
      exact absurd hxy (hno x (List.mem_of_getElem? ha) hx)
    · exact hg.one a b x y ha hb hx hy hxy
  · intro a u ha huu x hxl hlt
    simp only [List.length_set] at hxl hlt
    rw [set_at hl] at ha
    refine used_set hl ht ?_
    split at ha
    · cases ha
      subst_vars
      refine hx x hxl ?_
      have : home sl.length t = (hashOf t.ks % sl.length).toNat := by unfold home; rw [hth]
      rw [← this]
      exact hlt
    · exact hg.path a u ha huu x hxl hlt
  · refine free_of_cnt ?_
    rw [cnt_set hr, hs, ht]
    simpa using hc
theorem has_insert {sl : List Slt} {r : Nat} {s t : Slt} (hr : sl[r]? = some s) (hs : s.used = false) (ht : t.used = true) (ks : List Int) (x : Int) :
    Has (sl.set r t) ks x ↔ (ks = t.ks ∧ x = t.v) ∨ Has sl ks x := by
  have hl := lt_of hr
  constructor
  · rintro ⟨u, hu, huu, rfl, rfl⟩
    rcases mem_set_at hu with rfl | hu
    · exact .inl ⟨rfl, rfl⟩
    · exact .inr ⟨u, hu, huu, rfl, rfl⟩
  · rintro (⟨rfl, rfl⟩ | ⟨u, hu, huu, rfl, rfl⟩)
    · exact ⟨t, List.mem_of_getElem? (i := r) (by rw [set_at hl, if_pos rfl]), ht, rfl, rfl⟩
    · obtain ⟨i, hi⟩ := List.mem_iff_getElem?.1 hu
      refine ⟨u, List.mem_of_getElem? (i := i) ?_, huu, rfl, rfl⟩
      rw [set_at hl, if_neg]
      · exact hi
      · rintro rfl
        rw [hr] at hi
        cases hi
        rw [hs] at huu
        cases huu
/-! ### growing -/
def reins (acc : List Slt) (s : Slt) : List Slt := match atGo acc s.ks s.h acc.length (s.h % acc.length).toNat with
  | some r => acc.set r s
  | none => acc
def growF (acc : List Slt) : List Slt → List Slt
  | [] => acc
  | s :: r => growF (if s.used then reins acc s else acc) r
theorem growF_snoc (acc : List Slt) (s : Slt) : ∀ (l : List Slt), growF acc (l ++ [s]) = if s.used then reins (growF acc l) s else growF acc l := by
  intro l
  induction l generalizing acc with
  | nil => rfl
  | cons t r ih => exact ih _
theorem good_zero {k : Nat} (hk : k < 40) : Good (List.replicate (2 ^ k) Slt.zero) := by
  have hz : ∀ s, s ∈ List.replicate (2 ^ k) Slt.zero → s.used = false := by
    intro s hs
    rw [List.mem_replicate] at hs
    rw [hs.2]
    rfl
  have hz' : ∀ (i : Nat) (s : Slt), (List.replicate (2 ^ k) Slt.zero)[i]? = some s → s.used = false := fun i s h => hz s (List.mem_of_getElem? h)
  refine ⟨⟨k, hk, by simp⟩, fun s hs hu => ?_, fun i j s t hi _ hu => ?_, fun i s hi hu => ?_, ?_⟩
  · rw [hz s hs] at hu; cases hu
  · rw [hz' i s hi] at hu; cases hu
  · rw [hz' i s hi] at hu; cases hu
  · refine ⟨0, Slt.zero, ?_, rfl⟩
    rw [List.getElem?_replicate, if_pos (Nat.two_pow_pos k)]
theorem cnt_zero {n : Nat} : cnt (List.replicate n Slt.zero) = 0 := by
  unfold cnt
  rw [List.countP_eq_zero]
  intro s hs
  rw [List.mem_replicate] at hs
  rw [hs.2]
  simp [Slt.zero]
theorem take_succ_at {sl : List Slt} {i : Nat} {s : Slt} (h : sl[i]? = some s) : sl.take (i + 1) = sl.take i ++ [s] := by
  rw [List.take_add_one, h]
  rfl
structure Grown (old : List Slt) (n i : Nat) (acc : List Slt) : Prop where
  good : Good acc
  len : acc.length = n
  has : ∀ ks v, Has acc ks v ↔ Has (old.take i) ks v
  cnt : cnt acc = cnt (old.take i)
  mem : ∀ s, s ∈ acc → s = Slt.zero ∨ s ∈ old
theorem cnt_take_le {sl : List Slt} {i : Nat} : cnt (sl.take i) ≤ cnt sl := (List.take_sublist i sl).countP_le
theorem grow_at {old acc : List Slt} {n i : Nat} {s : Slt} (ho : Good old) (h : Grown old n i acc) (hi : old[i]? = some s) (hu : s.used = true) :
    ∃ r t, acc[r]? = some t ∧ t.used = false ∧ atGo acc s.ks s.h acc.length (s.h % acc.length).toNat = some r ∧ ∀ x, x < acc.length → dist acc.length (hashOf s.ks % acc.length).toNat x < dist acc.length (hashOf s.ks % acc.length).toNat r → Used acc x := by
  have hh := ho.hash s (List.mem_of_getElem? hi) hu
  obtain ⟨r, t, h1, h2, h3, h4⟩ := at_free (ks := s.ks) h.good fun u hu' huu hks => by
    obtain ⟨w, hw, hwu, hwk, _⟩ := (h.has u.ks u.v).1 ⟨u, hu', huu, rfl, rfl⟩
    obtain ⟨j, hj⟩ := List.mem_iff_getElem?.1 hw
    rw [List.getElem?_take] at hj
    split at hj
    · have := ho.one j i w s hj hi hwu hu (hwk.trans hks)
      omega
    · cases hj
  exact ⟨r, t, h1, h2, by rw [hh]; exact h3, h4⟩
theorem grow_step {old acc : List Slt} {n i : Nat} {s : Slt} (ho : Good old) (hn : cnt old < n) (h : Grown old n i acc) (hi : old[i]? = some s) : Grown old n (i + 1) (if s.used then reins acc s else acc) := by
  have htk := take_succ_at hi
  have hcs : cnt (old.take (i + 1)) = cnt (old.take i) + if s.used then 1 else 0 := by
    rw [htk]
    unfold cnt
    rw [List.countP_append]
    simp [List.countP_cons]
  cases hu : s.used with
  | false =>
    rw [hu] at hcs
    refine ⟨h.good, h.len, fun ks v => ?_, ?_, h.mem⟩
    · rw [if_neg (by simp), h.has, htk]
      constructor
      · rintro ⟨t, ht, hr⟩
        exact ⟨t, List.mem_append_left _ ht, hr⟩
      · rintro ⟨t, ht, htu, hr⟩
        rcases List.mem_append.1 ht with ht | ht
        · exact ⟨t, ht, htu, hr⟩
        · rw [List.mem_singleton] at ht
          subst ht
          rw [hu] at htu
          cases htu
    · rw [if_neg (by simp), h.cnt, hcs]
      rfl
  | true =>
    rw [hu] at hcs
    obtain ⟨r, t, h1, h2, h3, h4⟩ := grow_at ho h hi hu
    have hre : reins acc s = acc.set r s := by unfold reins; rw [h3]
    rw [if_pos rfl, hre]
    have hh := ho.hash s (List.mem_of_getElem? hi) hu
    have hle : cnt (old.take (i + 1)) ≤ cnt old := cnt_take_le
    have hlen := h.len
    have hcn := h.cnt
    rw [if_pos rfl] at hcs
    refine ⟨?_, by simpa using hlen, fun ks v => ?_, ?_, fun u hu' => ?_⟩
    · refine good_insert h.good h1 h2 hu hh (fun u hu' huu hks => ?_) h4 ?_
      · obtain ⟨w, hw, hwu, hwk, _⟩ := (h.has u.ks u.v).1 ⟨u, hu', huu, rfl, rfl⟩
        obtain ⟨j, hj⟩ := List.mem_iff_getElem?.1 hw
        rw [List.getElem?_take] at hj
        split at hj
        · have := ho.one j i w s hj hi hwu hu (hwk.trans hks)
          omega
        · cases hj
      · rw [hcn, hlen]
        omega
    · rw [has_insert h1 h2 hu, h.has, htk]
      constructor
      · rintro (⟨rfl, rfl⟩ | ⟨t, ht, hr⟩)
        · exact ⟨s, List.mem_append_right _ (List.mem_singleton.2 rfl), hu, rfl, rfl⟩
        · exact ⟨t, List.mem_append_left _ ht, hr⟩
      · rintro ⟨t, ht, htu, rfl, rfl⟩
        rcases List.mem_append.1 ht with ht | ht
        · exact .inr ⟨t, ht, htu, rfl, rfl⟩
        · rw [List.mem_singleton] at ht
          subst ht
          exact .inl ⟨rfl, rfl⟩
    · rw [cnt_set h1, h2, hu, hcs, hcn]
      simp
    · rcases mem_set_at hu' with rfl | hu'
      · exact .inr (List.mem_of_getElem? hi)
      · exact h.mem u hu'
end Go.Proofs.Ytoifiplefjclbaa
