/- SetsBack: told of the program. -/
import Derived.Test.YtegeeofjebpgbaaDoorSsM
namespace Go.Proofs.YtegeeofjebpgbaaDoor
open Go Go.Mv
set_option maxHeartbeats 1000000
set_option maxRecDepth 10000
set_option linter.unusedVariables false
set_option linter.unusedSimpArgs false
attribute [local irreducible] FCalls IntKind.wrap bits Mem.set Mem.setCell Mem.setCells YCalls
def Cov (rs : List (Nat × Nat)) (l : List Nat) : Prop := (∀ r, r ∈ rs → r.1 ≤ r.2) ∧ ∀ b, (∃ r, r ∈ rs ∧ r.1 ≤ b ∧ b ≤ r.2) ↔ b ∈ l
theorem Cov.add {rs : List (Nat × Nat)} {l : List Nat} {x : Nat} (h : Cov rs l) : Cov (addR rs x) (l ++ [x]) := by
  obtain ⟨h1, h2⟩ := h
  have new : Cov (rs ++ [(x, x)]) (l ++ [x]) := by
    refine ⟨fun r hr => ?_, fun b => ?_⟩
    · rcases List.mem_append.1 hr with hr | hr
      · exact h1 r hr
      · rw [List.mem_singleton] at hr; subst hr; exact Nat.le_refl _
    · rw [List.mem_append, List.mem_singleton, ← h2 b]
      constructor
      · rintro ⟨r, hr, k1, k2⟩
        rcases List.mem_append.1 hr with hr | hr
        · exact .inl ⟨r, hr, k1, k2⟩
        · rw [List.mem_singleton] at hr; subst hr; exact .inr (by simp only at k1 k2; omega)
      · rintro (⟨r, hr, k1, k2⟩ | rfl)
        · exact ⟨r, List.mem_append_left _ hr, k1, k2⟩
        · exact ⟨(b, b), List.mem_append_right _ (List.mem_singleton.2 rfl), Nat.le_refl _, Nat.le_refl _⟩
  rcases snoc_cases rs with rfl | ⟨r0, lo, hi, rfl⟩
  · exact new
  · by_cases he : hi + 1 = x
    · have hadd : addR (r0 ++ [(lo, hi)]) x = r0 ++ [(lo, x)] := by
        unfold addR
        simp [he]
      rw [hadd]
      have hlh := h1 (lo, hi) (by simp)
      simp only at hlh
      refine ⟨fun r hr => ?_, fun b => ?_⟩
      · rcases List.mem_append.1 hr with hr | hr
        · exact h1 r (List.mem_append_left _ hr)
        · rw [List.mem_singleton] at hr; subst hr; simp only; omega
      · rw [List.mem_append, List.mem_singleton, ← h2 b]
        constructor
        · rintro ⟨r, hr, k1, k2⟩
          rcases List.mem_append.1 hr with hr | hr
          · exact .inl ⟨r, List.mem_append_left _ hr, k1, k2⟩
          · rw [List.mem_singleton] at hr
            subst hr
            simp only at k1 k2
            by_cases hb : b = x
            · exact .inr hb
            · exact .inl ⟨(lo, hi), by simp, k1, by simp only; omega⟩
        · rintro (⟨r, hr, k1, k2⟩ | rfl)
          · rcases List.mem_append.1 hr with hr | hr
            · exact ⟨r, List.mem_append_left _ hr, k1, k2⟩
            · rw [List.mem_singleton] at hr
              subst hr
              simp only at k1 k2
              exact ⟨(lo, x), by simp, k1, by simp only; omega⟩
          · exact ⟨(lo, b), by simp, by simp only; omega, Nat.le_refl _⟩
    · have hadd : addR (r0 ++ [(lo, hi)]) x = (r0 ++ [(lo, hi)]) ++ [(x, x)] := by
        unfold addR
        simp [he]
      rw [hadd]
      exact new
theorem cov_ranges (l : List Nat) : Cov (rangesOf l) l := by
  have : ∀ (l k : List Nat) (rs : List (Nat × Nat)), Cov rs k → Cov (l.foldl addR rs) (k ++ l) := by
    intro l
    induction l with
    | nil => intro k rs h; simpa using h
    | cons x r ih =>
      intro k rs h
      have := ih (k ++ [x]) (addR rs x) h.add
      rwa [List.append_assoc] at this
  have := this l [] [] ⟨fun _ h => absurd h List.not_mem_nil, fun b => ⟨fun ⟨_, h, _⟩ => absurd h List.not_mem_nil, fun h => absurd h List.not_mem_nil⟩⟩
  simpa [rangesOf] using this
def toI (rs : List (Nat × Nat)) : List (Int × Int) := rs.map fun r => (((r.1 : Nat) : Int), ((r.2 : Nat) : Int))
theorem ranges_good (f : Nat → Bool) : (toI (rangesOf (elems f))).any badR = false ∧ ∀ b, b < 256 → fromF (toI (rangesOf (elems f))) b = f b := by
  obtain ⟨h1, h2⟩ := cov_ranges (elems f)
  constructor
  · rw [List.any_eq_false]
    intro r hr
    obtain ⟨q, hq, rfl⟩ := List.mem_map.1 hr
    have k1 := h1 q hq
    have k2 := (elems_mem.1 ((h2 q.2).1 ⟨q, hq, k1, Nat.le_refl _⟩)).1
    unfold badR
    simp only [decide_eq_true_eq]
    omega
  · intro b hb
    have h3 := h2 b
    rw [elems_mem] at h3
    cases hf : f b with
    | true =>
      obtain ⟨r, hr, k1, k2⟩ := h3.2 ⟨hb, hf⟩
      unfold fromF
      rw [List.any_eq_true]
      exact ⟨_, List.mem_map.2 ⟨r, hr, rfl⟩, decide_eq_true (by simp only; omega)⟩
    | false =>
      unfold fromF
      rw [List.any_eq_false]
      intro r hr
      obtain ⟨q, hq, rfl⟩ := List.mem_map.1 hr
      unfold inR
      simp only [decide_eq_true_eq]
      intro hc
      have := (h3.1 ⟨q, hq, by omega, by omega⟩).2
      rw [hf] at this
      cases this
theorem cnt_not (f : Nat → Bool) : cnt f 256 + cnt (fun b => !f b) 256 = 256 := by
  unfold cnt
  have h1 := List.length_eq_countP_add_countP (p := f) (l := List.range 256)
  rw [List.length_range] at h1
  have h2 : List.countP (fun b => !f b) (List.range 256) = List.countP (fun a => decide ¬f a = true) (List.range 256) := by
    apply List.countP_congr
    intro b _
    cases f b <;> simp
  omega
theorem fold_fold (f : Nat → Bool) (b : Nat) (hb : b < 256) : otherB (otherB b) = b := by
  unfold otherB
  split <;> (try split) <;> (try split) <;> (try split) <;> omega
theorem back_c {m : Mem} {G H : Nat → Nat} (hT : Tz m) (h : WOk G) (k : WOk H) : FCalls Tryd.prog 9 [wv G, wv H] m fun v m' => v = .bool true ∧ m' = m := by
  refine FCalls.less ?_
  refine fcalls_of_vc (T := tbl) (B := bodies) (pr := [2, 3, 6, 8]) (DR := dr9) (args := [.ints .u64 (W G), .ints .u64 (W H)]) tbl_ok bodies_ok mixed Tryd.func9 rfl (by decide +kernel) (by simp [Tryd.f9]) rfl ?_
  have hF := fold_ok h
  have e2 : (W (fun k => flip64 (flip64 (G k))) == W G) = true := eqW (flip_ok (flip_ok h)) h fun b hb => by
    have := not_bit (G := fun k => flip64 (G k)) b
    rw [this, not_bit, Bool.not_not]
  have e3 : (W (fun k => flip64 (orG G H k)) == W (fun k => flip64 (G k) &&& flip64 (H k))) = true := eqW (flip_ok (or_ok h)) (and_ok (flip_ok h)) fun b hb => by
    have h1 := not_bit (G := orG G H) b
    have h2 := and_bit (G := fun k => flip64 (G k)) (H := fun k => flip64 (H k)) b
    rw [h1, h2, or_bit h k, not_bit, not_bit, Bool.not_or]
  have e4 : (W (fun k => G k &&& flip64 (H k)) == W (fun k => G k &&& flip64 (H k))) = true := beq_self_eq_true _
  have e5 : (IntKind.i64.wrap (((cnt (has G) 256 : Nat) : Int) + ((cnt (has fun k => flip64 (G k)) 256 : Nat) : Int)) == 256) = true := by
    have h1 := cnt_not (has G)
    rw [cnt_congr (f := fun b => !has G b) (g := has fun k => flip64 (G k)) fun b _ => (not_bit b).symm] at h1
    rw [wrap_id (by omega) (by omega)]
    rw [show (((cnt (has G) 256 : Nat) : Int) + ((cnt (has fun k => flip64 (G k)) 256 : Nat) : Int)) = 256 by omega]
    rfl
  have e6 : (W (foldG (foldG G)) == W (foldG G)) = true := eqW (fold_ok hF) hF fun b hb => by
    rw [fold_bit hb, fold_bit hb, fold_bit (otherB_lt hb), fold_fold (has G) b hb]
    cases has G b <;> cases has G (otherB b) <;> rfl
  have e7 : (W (orG (foldG G) G) == W (foldG G)) = true := eqW (or_ok hF) hF fun b hb => by
    rw [or_bit hF h, fold_bit hb]
    cases has G b <;> cases has G (otherB b) <;> rfl
  (conv => whnf)
  refine FCalls.mono (examples_c hT) fun v m' ⟨h1, h2⟩ => ?_
  subst h1 h2
  (conv => whnf)
  refine ⟨rfl, W_len.symm, ?_⟩
  (conv => whnf)
  refine FCalls.mono (ranges_c hT h) fun v m2 ⟨A, c, h1, hsl, hold⟩ => ?_
  subst h1
  have hrow := RowR.of_sl hsl
  have hgood := ranges_good (has G)
  have hlenr : (toI (rangesOf (elems (has G)))).length = (rangesOf (elems (has G))).length := by simp [toI]
  have hl256 : (rangesOf (elems (has G))).length ≤ 256 := Nat.le_trans (rangesOf_len _) (elems_len _)
  have hfrom := from_c (m := m2) (A := A) (c := c) (rs := toI (rangesOf (elems (has G)))) hrow (by omega)
  rw [hlenr] at hfrom
  (conv => whnf)
  refine FCalls.mono hfrom fun v m3 ⟨h1, R, hR, h2⟩ => ?_
  subst h1
  have h2 : v = .tuple #[wv R, .int .i64 0] ∧ ∀ b, b < 256 → has R b = has G b := by
    rcases h2 with ⟨h3, _⟩ | ⟨_, h3, h4⟩
    · rw [hgood.1] at h3; cases h3
    · exact ⟨h3, fun b hb => by rw [h4 b hb, hgood.2 b hb]⟩
  obtain ⟨rfl, hRb⟩ := h2
  have e1 : (W R == W G) = true := eqW hR h hRb
  (conv => whnf)
  refine ⟨_, W_len, rfl, ?_⟩
  (conv => whnf)
  refine ⟨rfl, W_len.symm, W_len.symm, ?_⟩
  (conv => whnf)
  refine ⟨rfl, W_len.symm, ?_⟩
  (conv => whnf)
  refine FCalls.mono (fold_c h) fun v m4 ⟨h1, h2⟩ => ?_
  subst h1 h2
  (conv => whnf)
  refine ⟨_, W_len, rfl, ?_⟩
  (conv => whnf)
  refine ⟨rfl, W_len.symm, W_len.symm, ?_⟩
  (conv => whnf)
  refine ⟨rfl, W_len.symm, ?_⟩
  (conv => whnf)
  refine ⟨rfl, W_len.symm, ?_⟩
  (conv => whnf)
  refine ⟨W_len, W_len, ?_⟩
  (conv => whnf)
  refine brk_true (by rw [e1]; rfl) ?_
  (conv => whnf)
  refine ⟨rfl, W_len.symm, ?_⟩
  (conv => whnf)
  refine ⟨_, not_c h, ?_⟩
  (conv => whnf)
  refine ⟨_, W_len, rfl, ?_⟩
  (conv => whnf)
  refine ⟨_, not_c (flip_ok h), ?_⟩
  (conv => whnf)
  refine ⟨_, W_len, rfl, ?_⟩
  (conv => whnf)
  refine ⟨rfl, W_len.symm, ?_⟩
  (conv => whnf)
  refine ⟨W_len, W_len, ?_⟩
  (conv => whnf)
  refine brk_true (by rw [e2]; rfl) ?_
  (conv => whnf)
  refine ⟨rfl, W_len.symm, ?_⟩
  (conv => whnf)
  refine ⟨rfl, W_len.symm, ?_⟩
  (conv => whnf)
  refine ⟨_, or_c h k, ?_⟩
  (conv => whnf)
  refine ⟨_, W_len, rfl, ?_⟩
  (conv => whnf)
  refine ⟨_, not_c (or_ok h), ?_⟩
  (conv => whnf)
  refine ⟨_, W_len, rfl, ?_⟩
  (conv => whnf)
  refine ⟨rfl, W_len.symm, ?_⟩
  (conv => whnf)
  refine ⟨_, not_c h, ?_⟩
  (conv => whnf)
  refine ⟨_, W_len, rfl, ?_⟩
  (conv => whnf)
  refine ⟨rfl, W_len.symm, ?_⟩
  (conv => whnf)
  refine ⟨_, not_c k, ?_⟩
  (conv => whnf)
  refine ⟨_, W_len, rfl, ?_⟩
  (conv => whnf)
  refine ⟨_, and_c (flip_ok h) (flip_ok k), ?_⟩
  (conv => whnf)
  refine ⟨_, W_len, rfl, ?_⟩
  (conv => whnf)
  refine ⟨W_len, W_len, ?_⟩
  (conv => whnf)
  refine brk_true (by rw [e3]; rfl) ?_
  (conv => whnf)
  refine ⟨rfl, W_len.symm, ?_⟩
  (conv => whnf)
  refine ⟨rfl, W_len.symm, ?_⟩
  (conv => whnf)
  refine ⟨_, less_c h k, ?_⟩
  (conv => whnf)
  refine ⟨_, W_len, rfl, ?_⟩
  (conv => whnf)
  refine ⟨rfl, W_len.symm, ?_⟩
  (conv => whnf)
  refine ⟨rfl, W_len.symm, ?_⟩
  (conv => whnf)
  refine ⟨_, not_c k, ?_⟩
  (conv => whnf)
  refine ⟨_, W_len, rfl, ?_⟩
  (conv => whnf)
  refine ⟨_, and_c h (flip_ok k), ?_⟩
  (conv => whnf)
  refine ⟨_, W_len, rfl, ?_⟩
  (conv => whnf)
  refine ⟨W_len, W_len, ?_⟩
  (conv => whnf)
  refine brk_true (by rw [e4]; rfl) ?_
  (conv => whnf)
  refine ⟨rfl, W_len.symm, ?_⟩
  (conv => whnf)
  refine ⟨_, count_c h, ?_⟩
  (conv => whnf)
  refine ⟨rfl, W_len.symm, ?_⟩
  (conv => whnf)
  refine ⟨_, not_c h, ?_⟩
  (conv => whnf)
  refine ⟨_, W_len, rfl, ?_⟩
  (conv => whnf)
  refine ⟨_, count_c (flip_ok h), ?_⟩
  (conv => whnf)
  refine brk_true (by rw [e5]; rfl) ?_
  (conv => whnf)
  refine ⟨rfl, W_len.symm, ?_⟩
  (conv => whnf)
  refine ⟨_, fold_c hF, ?_⟩
  (conv => whnf)
  refine ⟨_, W_len, rfl, ?_⟩
  (conv => whnf)
  refine ⟨rfl, W_len.symm, ?_⟩
  (conv => whnf)
  refine ⟨W_len, W_len, ?_⟩
  (conv => whnf)
  refine brk_true (by rw [e6]; rfl) ?_
  (conv => whnf)
  refine ⟨rfl, W_len.symm, ?_⟩
  (conv => whnf)
  refine ⟨rfl, W_len.symm, ?_⟩
  (conv => whnf)
  refine ⟨_, or_c hF h, ?_⟩
  (conv => whnf)
  refine ⟨_, W_len, rfl, ?_⟩
  (conv => whnf)
  refine ⟨rfl, W_len.symm, ?_⟩
  (conv => whnf)
  refine ⟨W_len, W_len, ?_⟩
  (conv => whnf)
  exact ⟨m', hold, congrArg Value.bool e7, rfl⟩
end Go.Proofs.YtegeeofjebpgbaaDoor
