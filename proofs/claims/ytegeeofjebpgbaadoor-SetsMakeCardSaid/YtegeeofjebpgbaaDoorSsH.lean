/- Sets: the chapter's examples. -/
import Derived.Test.YtegeeofjebpgbaaDoorSsG
namespace Go.Proofs.YtegeeofjebpgbaaDoor
open Go Go.Mv
set_option maxHeartbeats 1000000
set_option maxRecDepth 10000
set_option linter.unusedVariables false
set_option linter.unusedSimpArgs false
attribute [local irreducible] FCalls IntKind.wrap bits Mem.set Mem.setCell Mem.setCells YCalls
theorem elems_congr {f g : Nat → Bool} (h : ∀ b, b < 256 → f b = g b) : elems f = elems g := by
  unfold elems
  apply List.filter_congr
  intro b hb
  rw [h b (List.mem_range.1 hb)]
theorem cnt_congr {f g : Nat → Bool} (h : ∀ b, b < 256 → f b = g b) : cnt f 256 = cnt g 256 := by
  unfold cnt
  apply List.countP_congr
  intro b hb
  rw [h b (List.mem_range.1 hb)]
theorem cnt_elems (f : Nat → Bool) : cnt f 256 = (elems f).length := List.countP_eq_length_filter
def ba : ByteArray := ⟨#[98, 97]⟩
theorem ba_elems : rangesOf (elems (has (ofG ba.data.toList))) = [(97, 98)] := by
  rw [elems_congr (g := fun b => decide (b = 98) || decide (b = 97)) fun b hb => ?_]
  · decide +kernel
  · rw [ofG_bit]
    simp [ba, eq_comm]
theorem examples_c {m : Mem} (hT : Tz m) : FCalls Tryd.prog 10 [] m fun v m' => v = .bool true ∧ m' = m := by
  refine FCalls.less ?_
  refine fcalls_of_vc (T := tbl) (B := bodies) (pr := [1, 2, 4]) (DR := dr10) (args := []) tbl_ok bodies_ok mixed Tryd.func10 rfl (by decide +kernel) (by simp [Tryd.f10]) rfl ?_
  (conv => whnf)
  refine FCalls.mono (of_c (t := ba) (by decide)) fun v m' ⟨h1, h2⟩ => ?_
  subst h1 h2
  have hS := ofG_ok ba.data.toList
  have hSb := ofG_bit ba.data.toList
  have hSr := ba_elems
  generalize ofG ba.data.toList = S at *
  (conv => whnf)
  refine ⟨_, W_len, rfl, ?_⟩
  (conv => whnf)
  refine ⟨rfl, W_len.symm, W_len.symm, ?_⟩
  (conv => whnf)
  refine FCalls.mono range_c fun v m' ⟨h1, D, hD, h2⟩ => ?_
  subst h1
  have h2 : v = .tuple #[wv D, .int .i64 0] ∧ ∀ b, b < 256 → has D b = decide ((48 : Int) ≤ (b : Nat) ∧ (b : Nat) ≤ (57 : Int)) := by
    rcases h2 with ⟨h, _⟩ | ⟨_, h⟩
    · omega
    · exact h
  obtain ⟨rfl, hDb⟩ := h2
  (conv => whnf)
  refine ⟨_, W_len, rfl, ?_⟩
  (conv => whnf)
  refine ⟨rfl, W_len.symm, W_len.symm, ?_⟩
  (conv => whnf)
  refine FCalls.mono range_c fun v m' ⟨h1, Z, hZ, h2⟩ => ?_
  subst h1
  have h2 : v = .tuple #[wv Z, .int .i64 1] := by
    rcases h2 with ⟨_, h, _⟩ | ⟨h, _⟩
    · exact h
    · omega
  subst h2
  (conv => whnf)
  refine ⟨_, W_len, rfl, ?_⟩
  (conv => whnf)
  refine ⟨rfl, W_len.symm, W_len.symm, ?_⟩
  (conv => whnf)
  refine ⟨rfl, W_len.symm, ?_⟩
  (conv => whnf)
  refine FCalls.mono (next_c hT hD (by omega)) fun v m' ⟨h1, r, h2, h3⟩ => ?_
  subst h1 h3
  have hr : NextIs (has D) 50 (some 50) := .some 50 (by omega) (by omega) (by rw [hDb 50 (by omega)]; decide) fun c k1 k2 => by omega
  have hr := h2.eq hr
  subst hr
  (conv => whnf)
  refine ⟨rfl, W_len.symm, ?_⟩
  (conv => whnf)
  refine FCalls.mono (ranges_c hT hS) fun v m' ⟨A, c, h1, hsl, hold⟩ => ?_
  subst h1
  rw [hSr] at hsl ⊢
  (conv => whnf)
  refine ⟨rfl, W_len.symm, ?_⟩
  have hcnt : cnt (has D) 256 = 10 := by
    rw [cnt_congr (g := fun b => decide (48 ≤ b ∧ b ≤ 57)) fun b hb => ?_]
    · decide +kernel
    · rw [hDb b hb]
      exact decide_eq_decide.2 (by omega)
  (conv => whnf)
  refine FCalls.mono (count_c hD) fun v m' ⟨h1, h2⟩ => ?_
  subst h1 h2
  rw [hcnt]
  (conv => whnf)
  refine ⟨rfl, W_len.symm, ?_⟩
  (conv => whnf)
  refine FCalls.mono (has_c hS) fun v m' ⟨h1, h2⟩ => ?_
  have e97 : (decide ((0 : Int) ≤ 97 ∧ (97 : Int) < 256) && has S (97 : Int).toNat) = true := by
    show (true && has S 97) = true
    rw [hSb]
    decide
  rw [e97] at h1
  subst h1 h2
  (conv => whnf)
  refine ⟨rfl, W_len.symm, ?_⟩
  (conv => whnf)
  refine FCalls.mono (has_c hS) fun v m' ⟨h1, h2⟩ => ?_
  have e99 : (decide ((0 : Int) ≤ 99 ∧ (99 : Int) < 256) && has S (99 : Int).toNat) = false := by
    show (true && has S 99) = false
    rw [hSb]
    decide
  rw [e99] at h1
  subst h1 h2
  obtain ⟨b0, hA, _, hc0, _⟩ := hsl.cell (k := 0) (v := .int .i64 97) rfl
  obtain ⟨b1, hA1, _, hc1, _⟩ := hsl.cell (k := 1) (v := .int .i64 98) rfl
  rw [hA] at hA1
  cases hA1
  (conv => whnf)
  refine ⟨_, hA, by decide, by decide, ?_⟩
  (conv => whnf)
  refine ⟨97, ?_, ?_⟩
  · rw [add_mk, add_mk]
    exact hc0
  (conv => whnf)
  refine ⟨98, ?_, ?_⟩
  · rw [add_mk, add_mk]
    exact hc1
  (conv => whnf)
  exact ⟨_, hold, rfl, rfl⟩
end Go.Proofs.YtegeeofjebpgbaaDoor
