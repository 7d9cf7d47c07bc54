/- The table's law: dropping. -/
import Derived.Test.YtoifiplefjclbaaTbM
namespace Go.Proofs.Ytoifiplefjclbaa
open Go Go.Mv
set_option maxHeartbeats 1000000
set_option linter.unusedVariables false
set_option linter.unusedSimpArgs false
def dropGo : Nat → List Slt → Nat → Nat → Option (List Slt × Nat)
  | 0, _, _, _ => none
  | f + 1, sl, hole, i =>
    if (sl.getD i .zero).used then
      if dist sl.length (home sl.length (sl.getD i .zero)) i ≥ dist sl.length hole i then dropGo f (sl.set hole (sl.getD i .zero)) i (nxt sl.length i)
      else dropGo f sl hole (nxt sl.length i)
    else some (sl, hole)
theorem dist_add {n a b c : Nat} (ha : a < n) (hb : b < n) (hc : c < n) (h : dist n a b + dist n b c < n) : dist n a c = dist n a b + dist n b c := by
  have := dist_cases n a b
  have := dist_cases n b c
  have := dist_cases n a c
  omega
theorem dist_thru {n a b c : Nat} (ha : a < n) (hb : b < n) (hc : c < n) (h : dist n a b < dist n a c) : dist n a c = dist n a b + dist n b c := by
  have := dist_cases n a b
  have := dist_cases n b c
  have := dist_cases n a c
  omega
theorem dist_ge {n a b c : Nat} (ha : a < n) (hb : b < n) (hc : c < n) (h : dist n b c ≤ dist n a c) : dist n a c = dist n a b + dist n b c := by
  have := dist_cases n a b
  have := dist_cases n b c
  have := dist_cases n a c
  omega
theorem dist_snxt {n a b : Nat} (ha : a < n) (hb : b < n) (h : nxt n b ≠ a) : dist n a (nxt n b) = dist n a b + 1 := by
  have := dist_cases n a (nxt n b)
  have := dist_cases n a b
  have := nxt_cases n b
  omega
theorem dist_inj {n a b c : Nat} (ha : a < n) (hb : b < n) (hc : c < n) (h : dist n a b = dist n a c) : b = c := by
  have := dist_cases n a b
  have := dist_cases n a c
  omega
structure DInv (sl0 : List Slt) (key : List Int) (sl : List Slt) (hole i : Nat) : Prop where
  len : sl.length = sl0.length
  hl : hole < sl0.length
  il : i < sl0.length
  ne : hole ≠ i
  flags : ∀ x, Used sl x ↔ Used sl0 x
  hash : ∀ s, s ∈ sl → s.used = true → s.h = hashOf s.ks
  one : ∀ (a b : Nat) (s t : Slt), a ≠ hole → b ≠ hole → sl[a]? = some s → sl[b]? = some t → s.used = true → t.used = true → s.ks = t.ks → a = b
  path : ∀ (x : Nat) (s : Slt), x ≠ hole → sl[x]? = some s → s.used = true → ∀ y, y < sl0.length → dist sl0.length (home sl0.length s) y < dist sl0.length (home sl0.length s) x → Used sl y
  done : ∀ (x : Nat) (s : Slt), x ≠ hole → sl[x]? = some s → s.used = true → dist sl0.length hole x < dist sl0.length hole i → dist sl0.length (home sl0.length s) x < dist sl0.length hole x
  run : ∀ x, x < sl0.length → dist sl0.length hole x < dist sl0.length hole i → Used sl x
  has : ∀ ks v, (∃ x s, x ≠ hole ∧ sl[x]? = some s ∧ s.used = true ∧ s.ks = ks ∧ s.v = v) ↔ (ks ≠ key ∧ Has sl0 ks v)
  mem : ∀ s, s ∈ sl → s ∈ sl0
theorem used_lt {sl : List Slt} {x : Nat} (h : Used sl x) : x < sl.length := by
  obtain ⟨s, h, _⟩ := h
  exact lt_of h
theorem DInv.start {sl : List Slt} (hg : Good sl) {j : Nat} {s : Slt} (hj : sl[j]? = some s) (hu : s.used = true) : DInv sl s.ks sl j (nxt sl.length j) := by
  have hl := lt_of hj
  have hne : j ≠ nxt sl.length j := by
    intro he
    obtain ⟨i, t, hi, ht⟩ := hg.free
    have := lt_of hi
    have : i = j := by unfold nxt at he; split at he <;> omega
    subst this
    rw [hj] at hi
    cases hi
    rw [hu] at ht
    cases ht
  have h1 : dist sl.length j (nxt sl.length j) = 1 := by rw [dist_snxt hl hl (Ne.symm hne), dist_self]
  have hz : ∀ x, x < sl.length → dist sl.length j x < dist sl.length j (nxt sl.length j) → j = x := fun x hx h => dist_zero hl hx (by omega)
  refine ⟨rfl, hl, nxt_lt hl, hne, fun _ => Iff.rfl, hg.hash, fun a b s t _ _ => hg.one a b s t, fun x s _ => hg.path x s, ?_, ?_, ?_, fun _ h => h⟩
  · intro x t hx ht _ hd
    exact absurd (hz x (lt_of ht) hd).symm hx
  · intro x hx hd
    rw [← hz x hx hd]
    exact ⟨s, hj, hu⟩
  · intro ks v
    constructor
    · rintro ⟨x, t, hx, ht, htu, rfl, rfl⟩
      exact ⟨fun he => hx (hg.one x j t s ht hj htu hu he), t, List.mem_of_getElem? ht, htu, rfl, rfl⟩
    · rintro ⟨hne, t, ht, htu, rfl, rfl⟩
      obtain ⟨x, hx⟩ := List.mem_iff_getElem?.1 ht
      refine ⟨x, t, ?_, hx, htu, rfl, rfl⟩
      rintro rfl
      rw [hj] at hx
      cases hx
      exact hne rfl
/-- Round about all is used: there is none that is free. -/
theorem DInv.turn {sl0 sl : List Slt} {key : List Int} {hole i : Nat} (h : DInv sl0 key sl hole i) (hf : ∃ (f : Nat) (s : Slt), sl0[f]? = some s ∧ s.used = false) (hi : Used sl i) : nxt sl0.length i ≠ hole := by
  intro he
  obtain ⟨f, s, hfs, hs⟩ := hf
  have hfl := lt_of hfs
  have hnf : ¬ Used sl f := by
    rw [h.flags]
    rintro ⟨t, ht, htu⟩
    rw [hfs] at ht
    cases ht
    rw [hs] at htu
    cases htu
  have hil := h.il
  have hhl := h.hl
  have h1 : dist sl0.length hole i = sl0.length - 1 := by rw [← he]; exact dist_nxt_self hil
  by_cases hfi : f = i
  · subst hfi; exact hnf hi
  · have h2 : dist sl0.length hole f ≠ dist sl0.length hole i := by
      intro e
      apply hfi
      exact dist_inj hhl hfl hil e
    have h3 := dist_lt hhl hfl
    exact hnf (h.run f hfl (by omega))
theorem DInv.stay {sl0 sl : List Slt} {key : List Int} {hole i : Nat} {s : Slt} (h : DInv sl0 key sl hole i) (hf : ∃ (f : Nat) (s : Slt), sl0[f]? = some s ∧ s.used = false) (hi : sl[i]? = some s) (hu : s.used = true)
    (hd : ¬ dist sl0.length (home sl0.length s) i ≥ dist sl0.length hole i) : DInv sl0 key sl hole (nxt sl0.length i) := by
  have hne := h.turn hf ⟨s, hi, hu⟩
  have h1 := dist_snxt h.hl h.il hne
  have hx : ∀ x, x < sl0.length → dist sl0.length hole x < dist sl0.length hole (nxt sl0.length i) → x = i ∨ dist sl0.length hole x < dist sl0.length hole i := by
    intro x hx hlt
    by_cases he : dist sl0.length hole x = dist sl0.length hole i
    · left
      exact dist_inj h.hl hx h.il he
    · right; omega
  refine ⟨h.len, h.hl, nxt_lt h.il, Ne.symm hne, h.flags, h.hash, h.one, h.path, ?_, ?_, h.has, h.mem⟩
  · intro x t hxh ht htu hlt
    rcases hx x (by rw [← h.len]; exact lt_of ht) hlt with rfl | hlt
    · rw [hi] at ht
      cases ht
      omega
    · exact h.done x t hxh ht htu hlt
  · intro x hxl hlt
    rcases hx x hxl hlt with rfl | hlt
    · exact ⟨s, hi, hu⟩
    · exact h.run x hxl hlt
theorem DInv.move {sl0 sl : List Slt} {key : List Int} {hole i : Nat} {s : Slt} (h : DInv sl0 key sl hole i) (hf : ∃ (f : Nat) (s : Slt), sl0[f]? = some s ∧ s.used = false) (hi : sl[i]? = some s) (hu : s.used = true)
    (hd : dist sl0.length (home sl0.length s) i ≥ dist sl0.length hole i) : DInv sl0 key (sl.set hole s) i (nxt sl0.length i) := by
  have hhl := h.hl
  have hil := h.il
  have hlen := h.len
  have hhl' : hole < sl.length := by omega
  have hne : i ≠ nxt sl0.length i := by
    intro he
    have := h.ne
    unfold nxt at he
    split at he <;> omega
  have h1 : dist sl0.length i (nxt sl0.length i) = 1 := by rw [dist_snxt hil hil (Ne.symm hne), dist_self]
  have hz : ∀ x, x < sl0.length → dist sl0.length i x < dist sl0.length i (nxt sl0.length i) → i = x := fun x hx h => dist_zero hil hx (by omega)
  have hhu : Used sl hole := h.run hole hhl (by
    rw [dist_self]
    have := h.ne
    rcases Nat.eq_zero_or_pos (dist sl0.length hole i) with h0 | h0
    · exact absurd (dist_zero hhl hil h0) this
    · exact h0)
  have hfl : ∀ x, Used (sl.set hole s) x ↔ Used sl x := by
    intro x
    constructor
    · rintro ⟨t, ht, htu⟩
      rw [set_at hhl'] at ht
      split at ht
      · subst_vars; exact hhu
      · exact ⟨t, ht, htu⟩
    · exact used_set hhl' hu
  have hsh : home sl0.length s < sl0.length := home_lt (by omega)
  refine ⟨by simpa using hlen, hil, nxt_lt hil, hne, fun x => (hfl x).trans (h.flags x), ?_, ?_, ?_, ?_, ?_, ?_, ?_⟩
  · intro t ht htu
    rcases mem_set_at ht with rfl | ht
    · exact h.hash t (List.mem_of_getElem? hi) htu
    · exact h.hash t ht htu
  · intro a b x y ha hb hx hy hxu hyu hxy
    rw [set_at hhl'] at hx hy
    split at hx <;> split at hy
    · omega
    · cases hx
      rename_i _ hne2
      exact absurd (h.one i b s y (Ne.symm h.ne) (Ne.symm hne2) hi hy hu hyu hxy).symm hb
    · cases hy
      rename_i hne2 _
      exact absurd (h.one a i x s (Ne.symm hne2) (Ne.symm h.ne) hx hi hxu hu hxy) ha
    · rename_i h2 h3
      exact h.one a b x y (Ne.symm h2) (Ne.symm h3) hx hy hxu hyu hxy
  · intro x t hxi ht htu y hy hlt
    rw [hfl]
    rw [set_at hhl'] at ht
    split at ht
    · cases ht
      subst_vars
      have hge := dist_ge hsh hhl hil hd
      exact h.path i s (Ne.symm h.ne) hi hu y hy (by omega)
    · rename_i h2
      exact h.path x t (Ne.symm h2) ht htu y hy hlt
  · intro x t hxi ht htu hlt
    have hxl : x < sl0.length := by have := lt_of ht; simp at this; omega
    exact absurd (hz x hxl hlt).symm hxi
  · intro x hxl hlt
    rw [hfl, ← hz x hxl hlt]
    exact ⟨s, hi, hu⟩
  · intro ks v
    rw [← h.has]
    constructor
    · rintro ⟨x, t, hx, ht, htu, rfl, rfl⟩
      rw [set_at hhl'] at ht
      split at ht
      · cases ht
        exact ⟨i, s, Ne.symm h.ne, hi, hu, rfl, rfl⟩
      · rename_i h2
        exact ⟨x, t, Ne.symm h2, ht, htu, rfl, rfl⟩
    · rintro ⟨x, t, hx, ht, htu, rfl, rfl⟩
      by_cases hxi : x = i
      · subst hxi
        rw [hi] at ht
        cases ht
        exact ⟨hole, s, h.ne, by rw [set_at hhl', if_pos rfl], hu, rfl, rfl⟩
      · exact ⟨x, t, hxi, by rw [set_at hhl', if_neg (Ne.symm hx)]; exact ht, htu, rfl, rfl⟩
  · intro t ht
    rcases mem_set_at ht with rfl | ht
    · exact h.mem t (List.mem_of_getElem? hi)
    · exact h.mem t ht
theorem DInv.used_i {sl0 sl : List Slt} {key : List Int} {hole i : Nat} (h : DInv sl0 key sl hole i) : sl[i]? = some (sl.getD i .zero) := by
  have : i < sl.length := by rw [h.len]; exact h.il
  simp [List.getD, this]
theorem dropGo_some {sl0 : List Slt} {key : List Int} {f : Nat} {u : Slt} (hfs : sl0[f]? = some u) (hfu : u.used = false) : ∀ (fuel : Nat) (sl : List Slt) (hole i : Nat), DInv sl0 key sl hole i → dist sl0.length i f < fuel →
    ∃ sl' hole' i', dropGo fuel sl hole i = some (sl', hole') ∧ DInv sl0 key sl' hole' i' ∧ ¬ Used sl' i'
  | 0, _, _, _, _, h => by omega
  | fuel + 1, sl, hole, i, h, hlt => by
    have hi := h.used_i
    rw [dropGo]
    cases hu : (sl.getD i .zero).used with
    | false =>
      rw [if_neg (by simp)]
      refine ⟨sl, hole, i, rfl, h, ?_⟩
      rintro ⟨t, ht, htu⟩
      rw [hi] at ht
      cases ht
      rw [hu] at htu
      cases htu
    | true =>
      have hif : i ≠ f := by
        rintro rfl
        obtain ⟨t, ht, htu⟩ := (h.flags i).1 ⟨_, hi, hu⟩
        rw [hfs] at ht
        cases ht
        rw [hfu] at htu
        cases htu
      have hd := dist_nxt h.il (lt_of hfs) hif
      rw [if_pos rfl]
      rw [h.len]
      split
      · rename_i hc
        exact dropGo_some hfs hfu fuel _ _ _ (h.move ⟨f, u, hfs, hfu⟩ hi hu hc) (by omega)
      · rename_i hc
        exact dropGo_some hfs hfu fuel _ _ _ (h.stay ⟨f, u, hfs, hfu⟩ hi hu hc) (by omega)
theorem good_drop {sl0 sl : List Slt} {key : List Int} {hole i : Nat} (hg : Good sl0) (h : DInv sl0 key sl hole i) (hi : ¬ Used sl i) : Good (sl.set hole .zero) ∧ ∀ ks v, Has (sl.set hole .zero) ks v ↔ ks ≠ key ∧ Has sl0 ks v := by
  have hhl := h.hl
  have hil := h.il
  have hlen := h.len
  have hhl' : hole < sl.length := by omega
  have zu : Slt.zero.used = false := rfl
  refine ⟨⟨by simpa [hlen] using hg.pow, ?_, ?_, ?_, ?_⟩, ?_⟩
  · intro t ht htu
    rcases mem_set_at ht with rfl | ht
    · rw [zu] at htu; cases htu
    · exact h.hash t ht htu
  · intro a b x y hx hy hxu hyu hxy
    rw [set_at hhl'] at hx hy
    split at hx
    · cases hx; rw [zu] at hxu; cases hxu
    · split at hy
      · cases hy; rw [zu] at hyu; cases hyu
      · rename_i h1 h2
        exact h.one a b x y (Ne.symm h1) (Ne.symm h2) hx hy hxu hyu hxy
  · intro x t hx htu y hy hlt
    simp only [List.length_set] at hy hlt
    rw [hlen] at hy hlt
    rw [set_at hhl'] at hx
    split at hx
    · cases hx; rw [zu] at htu; cases htu
    · rename_i hxh
      have hxl : x < sl0.length := by have := lt_of hx; omega
      have hth : home sl0.length t < sl0.length := home_lt (by omega)
      have hyu := h.path x t (Ne.symm hxh) hx htu y hy hlt
      have hyh : hole ≠ y := by
        rintro rfl
        have hthru := dist_thru hth hhl hxl hlt
        have hxi : dist sl0.length hole x < dist sl0.length hole i := by
          apply Classical.byContradiction
          intro hn
          have hxni : x ≠ i := by
            rintro rfl
            exact hi ⟨t, hx, htu⟩
          have h3 : dist sl0.length hole i ≠ dist sl0.length hole x := by
            intro e
            exact hxni (dist_inj hhl hil hxl e).symm
          have h4 : dist sl0.length (home sl0.length t) x < sl0.length := dist_lt hth hxl
          have h5 := dist_add hth hhl hil (by omega)
          exact hi (h.path x t (Ne.symm hxh) hx htu i hil (by omega))
        have := h.done x t (Ne.symm hxh) hx htu hxi
        omega
      obtain ⟨w, hw, hwu⟩ := hyu
      exact ⟨w, by rw [set_at hhl', if_neg hyh]; exact hw, hwu⟩
  · exact ⟨hole, .zero, by rw [set_at hhl', if_pos rfl], zu⟩
  · intro ks v
    rw [← h.has]
    constructor
    · rintro ⟨t, ht, htu, rfl, rfl⟩
      obtain ⟨x, hx⟩ := List.mem_iff_getElem?.1 ht
      rw [set_at hhl'] at hx
      split at hx
      · cases hx; rw [zu] at htu; cases htu
      · rename_i hxh
        exact ⟨x, t, Ne.symm hxh, hx, htu, rfl, rfl⟩
    · rintro ⟨x, t, hx, ht, htu, rfl, rfl⟩
      exact ⟨t, List.mem_of_getElem? (i := x) (by rw [set_at hhl', if_neg (Ne.symm hx)]; exact ht), htu, rfl, rfl⟩
end Go.Proofs.Ytoifiplefjclbaa
