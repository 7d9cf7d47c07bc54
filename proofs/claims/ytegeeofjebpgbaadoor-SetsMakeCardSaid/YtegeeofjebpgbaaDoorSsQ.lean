/- Sets: the document's Range, Of, From. -/
import Derived.Test.YtegeeofjebpgbaaDoorSsN
namespace Go.Proofs.YtegeeofjebpgbaaDoor
open Go Go.Mv
set_option maxHeartbeats 1000000
set_option maxRecDepth 10000
set_option linter.unusedVariables false
set_option linter.unusedSimpArgs false
attribute [local irreducible] FCalls IntKind.wrap bits Mem.set Mem.setCell Mem.setCells YCalls
theorem B2_false : List.replicate 256 false = B2 (fun _ => false) := by rw [B2, List.map_const', List.length_range]
theorem rrange_c {m : Mem} {lo hi : Int} : FCalls Tryd.prog 37 [.int .i64 lo, .int .i64 hi] m fun v m' => m' = m ∧ ∃ G, WOk G ∧
    ((lo < 0 ∨ lo > hi ∨ hi > 255) ∧ v = .tuple #[wv G, .bool false] ∧ (∀ b, b < 256 → has G b = false) ∨
     ¬ (lo < 0 ∨ lo > hi ∨ hi > 255) ∧ v = .tuple #[wv G, .bool true] ∧ ∀ b, b < 256 → has G b = decide (lo ≤ (b : Nat) ∧ (b : Nat) ≤ hi)) := by
  refine fcalls_of_vc (T := tbl) (B := bodies) (pr := [4, 6]) (DR := dr37) (args := [.v (.int .i64 lo), .v (.int .i64 hi)]) tbl_ok bodies_ok mixed Tryd.func37 rfl (by decide +kernel) (by simp [Tryd.f37]) rfl ?_
  by_cases c1 : lo < 0
  · have e1 := decide_eq_true c1
    (conv => whnf)
    refine brk_false (by rw [e1]; rfl) ?_
    (conv => whnf)
    refine ⟨rfl, rfl, rfl, ?_⟩
    (conv => whnf)
    refine ⟨rfl, rfl, ?_⟩
    (conv => whnf)
    exact ⟨rfl, fun _ => 0, fun k hk => Nat.two_pow_pos 64, .inl ⟨by omega, rfl, fun b hb => Nat.zero_testBit _⟩⟩
  have e1 := decide_eq_false c1
  by_cases c2 : hi > 255
  · have e2 := decide_eq_true c2
    (conv => whnf)
    refine brk_true (by rw [e1]; rfl) ?_
    (conv => whnf)
    refine brk_false (by rw [e2]; rfl) ?_
    (conv => whnf)
    refine ⟨rfl, rfl, rfl, ?_⟩
    (conv => whnf)
    refine ⟨rfl, rfl, ?_⟩
    (conv => whnf)
    exact ⟨rfl, fun _ => 0, fun k hk => Nat.two_pow_pos 64, .inl ⟨by omega, rfl, fun b hb => Nat.zero_testBit _⟩⟩
  have e2 := decide_eq_false c2
  by_cases c3 : lo > hi
  · have e3 := decide_eq_true c3
    (conv => whnf)
    refine brk_true (by rw [e1]; rfl) ?_
    (conv => whnf)
    refine brk_true (by rw [e2]; rfl) ?_
    (conv => whnf)
    refine brk_true (by rw [e3]; rfl) ?_
    (conv => whnf)
    refine ⟨rfl, rfl, rfl, ?_⟩
    (conv => whnf)
    refine ⟨rfl, rfl, ?_⟩
    (conv => whnf)
    exact ⟨rfl, fun _ => 0, fun k hk => Nat.two_pow_pos 64, .inl ⟨by omega, rfl, fun b hb => Nat.zero_testBit _⟩⟩
  have e3 := decide_eq_false c3
  (conv => whnf)
  refine brk_true (by rw [e1]; rfl) ?_
  (conv => whnf)
  refine brk_true (by rw [e2]; rfl) ?_
  (conv => whnf)
  refine brk_false (by rw [e3]; rfl) ?_
  (conv => whnf)
  refine loop_keep [0, 1, 4, 6] Int (fun i => [(7, .v (.int .i64 i))]) (fun i => [.ints .u64 [0, 0, 0, 0], .bools (B2 fun c => decide (lo ≤ (c : Int) ∧ (c : Int) < i))]) (fun _ => m) (fun i => lo ≤ i ∧ i ≤ hi + 1) (fun i => (hi + 1 - i).toNat) lo ⟨rfl, trivial⟩ ?_ rfl ⟨by omega, by omega⟩ ?_
  · refine congrArg (fun x => [LC.ints .u64 [0, 0, 0, 0], .bools x]) ?_
    refine B2_false.trans (List.map_congr_left fun c _ => ?_)
    exact (decide_eq_false (by omega)).symm
  (conv => whnf)
  refine ⟨rfl, fun i hi' => ?_⟩
  obtain ⟨h1, h2⟩ := hi'
  (conv => whnf)
  refine brk_intro (fun h3 => ?_) (fun h3 => ?_)
  · have h3 : i ≤ hi := by simpa using h3
    have ei : 0 + i.toNat * (tbl.at 4).size = i.toNat := by show 0 + i.toNat * 1 = i.toNat; omega
    have hstep : IntKind.i64.wrap (i + 1) = i + 1 := wrap_id (by omega) (by omega)
    (conv => whnf)
    refine ⟨by omega, by show _ < (256 : Int); omega, ?_⟩
    (conv => whnf)
    refine ⟨by rw [ei, B2_len]; omega, ?_⟩
    (conv => whnf)
    refine ⟨i + 1, le_eq ⟨by show some (AV.v (.int .i64 (IntKind.i64.wrap (i + 1)))) = _; rw [hstep], rfl, rfl, rfl, rfl, trivial⟩ rfl ?_ rfl, ⟨by omega, by omega⟩, by omega⟩
    refine congrArg (fun x => [LC.ints .u64 [0, 0, 0, 0], .bools x]) ?_
    rw [ei]
    exact B2_set (decide_eq_true (by omega)).symm fun c hc => decide_eq_decide.2 (by omega)
  · have h3 : ¬ i ≤ hi := by simpa using h3
    have h4 : i = hi + 1 := by omega
    subst h4
    (conv => whnf)
    refine ⟨rfl, B2_len.symm, ?_⟩
    (conv => whnf)
    refine FCalls.mono laid_c fun v m' ⟨h5, R, hv, hR, hb⟩ => ?_
    subst h5 hv
    (conv => whnf)
    refine ⟨_, W_len, rfl, ?_⟩
    (conv => whnf)
    refine ⟨rfl, W_len.symm, W_len.symm, ?_⟩
    (conv => whnf)
    refine ⟨rfl, W_len.symm, ?_⟩
    (conv => whnf)
    exact ⟨rfl, R, hR, .inr ⟨by omega, rfl, fun b hb' => (hb b hb').trans (decide_eq_decide.2 (by omega))⟩⟩
theorem rof_c {m : Mem} {t : ByteArray} (ht : t.size < 2 ^ 62) : FCalls Tryd.prog 41 [.string t] m fun v m' => m' = m ∧ Is v (fun c => t.data.toList.any fun b => decide (b.toNat = c)) := by
  refine fcalls_of_vc (T := tbl) (B := bodies) (pr := [2, 3]) (DR := dr41) (args := [.v (.string t)]) tbl_ok bodies_ok mixed Tryd.func41 rfl (by decide +kernel) (by simp [Tryd.f41]) rfl ?_
  have hsz : t.data.toList.length = t.size := by simp
  (conv => whnf)
  refine loop_keep [0, 2, 3] Nat (fun i => [(4, .v (.int .i64 i))]) (fun i => [.ints .u64 [0, 0, 0, 0], .bools (B2 fun c => (t.data.toList.take i).any fun b => decide (b.toNat = c))]) (fun _ => m) (fun i => i ≤ t.size) (fun i => t.size - i) 0 ⟨rfl, trivial⟩ ?_ rfl (by omega) ?_
  · exact congrArg (fun x => [LC.ints .u64 [0, 0, 0, 0], .bools x]) B2_false
  (conv => whnf)
  refine ⟨rfl, fun i hi => ?_⟩
  (conv => whnf)
  refine brk_intro (fun h1 => ?_) (fun h1 => ?_)
  · have h1 : (i : Int) < t.size := by simpa using h1
    have hil : i < t.data.toList.length := by omega
    obtain ⟨x, hx⟩ : ∃ x, t.data.toList[i]? = some x := ⟨_, List.getElem?_eq_getElem hil⟩
    have hx256 := x.toNat_lt
    have htake : t.data.toList.take (i + 1) = t.data.toList.take i ++ [x] := by rw [List.take_add_one, hx]; rfl
    have ebt : bt t (i : Int) = ((x.toNat : Nat) : Int) := by
      unfold bt
      rw [show (i : Int).toNat = i by omega]
      simp [List.getD, hx]
    have hstep : IntKind.i64.wrap ((i : Int) + 1) = ((i + 1 : Nat) : Int) := by rw [wrap_id (by omega) (by omega)]; omega
    (conv => whnf)
    refine ⟨by omega, h1, ?_⟩
    (conv => whnf)
    refine ⟨by rw [ebt]; omega, by rw [ebt]; show _ < (256 : Int); omega, ?_⟩
    (conv => whnf)
    have ei : 0 + (bt t (i : Int)).toNat * (tbl.at 4).size = x.toNat := by rw [ebt]; show 0 + ((x.toNat : Nat) : Int).toNat * 1 = x.toNat; omega
    refine ⟨by rw [ei, B2_len]; omega, ?_⟩
    (conv => whnf)
    refine ⟨i + 1, le_eq ⟨by show some (AV.v (.int .i64 (IntKind.i64.wrap ((i : Int) + 1)))) = _; rw [hstep], rfl, rfl, rfl, trivial⟩ rfl ?_ rfl, by omega, by omega⟩
    refine congrArg (fun x => [LC.ints .u64 [0, 0, 0, 0], .bools x]) ?_
    rw [ei, htake]
    refine B2_set ?_ fun c hc => ?_
    · rw [List.any_append]
      simp
    · rw [List.any_append]
      simp only [List.any_cons, List.any_nil, Bool.or_false]
      rw [decide_eq_false (fun h => hc h.symm), Bool.or_false]
  · have h1 : ¬ ((i : Int) < t.size) := by simpa using h1
    have h1 : i = t.size := by omega
    subst h1
    rw [List.take_of_length_le (Nat.le_of_eq hsz)]
    (conv => whnf)
    refine ⟨rfl, B2_len.symm, ?_⟩
    (conv => whnf)
    refine FCalls.mono laid_c fun v m' ⟨h5, R, hv, hR, hb⟩ => ?_
    subst h5 hv
    (conv => whnf)
    refine ⟨_, W_len, rfl, ?_⟩
    (conv => whnf)
    refine ⟨rfl, W_len.symm, W_len.symm, ?_⟩
    (conv => whnf)
    refine ⟨rfl, W_len.symm, ?_⟩
    (conv => whnf)
    exact ⟨rfl, R, rfl, hR, hb⟩
def rangeV (lo hi : Int) : Value := if lo < 0 ∨ lo > hi ∨ hi > 255 then .tuple #[wv (laidG (fun _ => false) 256), .bool false] else .tuple #[wv (laidG (inR (lo, hi)) 256), .bool true]
theorem rrange_det {m : Mem} {lo hi : Int} : FCalls Tryd.prog 37 [.int .i64 lo, .int .i64 hi] m fun v m' => v = rangeV lo hi ∧ m' = m := by
  refine rrange_c.mono fun v m' ⟨h1, G, hG, h2⟩ => ⟨?_, h1⟩
  unfold rangeV
  rcases h2 with ⟨h3, rfl, h4⟩ | ⟨h3, rfl, h4⟩
  · rw [if_pos h3]
    have : wv G = wv (laidG (fun _ => false) 256) := Is.eq (f := fun _ => false) (g := fun _ => false) ⟨G, rfl, hG, h4⟩ ⟨_, rfl, laidG_ok _ 256, fun b hb => laid_has hb⟩ fun _ _ => rfl
    rw [this]
  · rw [if_neg h3]
    have : wv G = wv (laidG (inR (lo, hi)) 256) := Is.eq (f := inR (lo, hi)) (g := inR (lo, hi)) ⟨G, rfl, hG, h4⟩ ⟨_, rfl, laidG_ok _ 256, fun b hb => laid_has hb⟩ fun _ _ => rfl
    rw [this]
theorem rfrom_c {m : Mem} {A : Option Addr} {c : Nat} {rs : List (Int × Int)} (hr : RowR m A rs) (hn : rs.length < 2 ^ 62) : FCalls Tryd.prog 39 [.slice A rs.length c] m fun v m' => m' = m ∧ ∃ G, WOk G ∧
    (rs.any badR = true ∧ v = .tuple #[wv G, .bool false] ∧ (∀ b, b < 256 → has G b = false) ∨ rs.any badR = false ∧ v = .tuple #[wv G, .bool true] ∧ ∀ b, b < 256 → has G b = fromF rs b) := by
  refine fcalls_of_vc (T := tbl) (B := bodies) (pr := [2, 4, 6]) (DR := dr39) (args := [.v (.slice A rs.length c)]) tbl_ok bodies_ok mixed Tryd.func39 rfl (by decide +kernel) (by simp [Tryd.f39]) rfl ?_
  (conv => whnf)
  refine loop_keep [0, 2, 4] (Nat × (Nat → Nat)) (fun s => [(5, .v (.int .i64 s.1))]) (fun s => [.ints .u64 [0, 0, 0, 0], .ints .u64 (W s.2)]) (fun _ => m) (fun s => s.1 ≤ rs.length ∧ WOk s.2 ∧ (rs.take s.1).any badR = false ∧ ∀ b, b < 256 → has s.2 b = fromF (rs.take s.1) b) (fun s => rs.length - s.1) (0, fun _ => 0) ⟨rfl, trivial⟩ rfl rfl ⟨by simp only; omega, fun k hk => Nat.two_pow_pos 64, rfl, fun b hb => Nat.zero_testBit _⟩ ?_
  (conv => whnf)
  refine ⟨rfl, fun s hs => ?_⟩
  obtain ⟨i, G⟩ := s
  obtain ⟨hi, hG, hbad, hb⟩ := hs
  simp only at hi hG hbad hb
  (conv => whnf)
  refine brk_intro (fun h1 => ?_) (fun h1 => ?_)
  · have h1 : (i : Int) < rs.length := by simpa using h1
    have hil : i < rs.length := by omega
    obtain ⟨r, hir⟩ : ∃ r, rs[i]? = some r := ⟨_, List.getElem?_eq_getElem hil⟩
    have htake : rs.take (i + 1) = rs.take i ++ [r] := by rw [List.take_add_one, hir]; rfl
    obtain ⟨b0, o0, hA, hcell⟩ : ∃ b o, A = some ⟨b, o, none⟩ ∧ ∀ (k : Nat) r, rs[k]? = some r → m.cell ⟨b, o + k * 2, none⟩ = some (.int .i64 r.1) ∧ m.cell ⟨b, o + k * 2 + 1, none⟩ = some (.int .i64 r.2) := by
      rcases hr with rfl | h
      · simp at hil
      · exact h
    obtain ⟨hc1, hc2⟩ := hcell i r hir
    have ea : (((⟨b0, o0, none⟩ : Addr).add ((i : Int).toNat * (tbl.at 40).size)).add 0) = ⟨b0, o0 + i * 2, none⟩ := by
      rw [add_mk, add_mk]
      show (⟨b0, o0 + (i : Int).toNat * 2 + 0, none⟩ : Addr) = _
      rw [show (i : Int).toNat = i by omega]
      rfl
    have ea1 : (((⟨b0, o0, none⟩ : Addr).add ((i : Int).toNat * (tbl.at 40).size)).add 1) = ⟨b0, o0 + i * 2 + 1, none⟩ := by
      rw [add_mk, add_mk]
      show (⟨b0, o0 + (i : Int).toNat * 2 + 1, none⟩ : Addr) = _
      rw [show (i : Int).toNat = i by omega]
    have hstep : IntKind.i64.wrap ((i : Int) + 1) = ((i + 1 : Nat) : Int) := by rw [wrap_id (by omega) (by omega)]; omega
    (conv => whnf)
    refine ⟨_, hA, by omega, h1, ?_⟩
    (conv => whnf)
    refine ⟨r.1, by rw [ea]; exact hc1, ?_⟩
    (conv => whnf)
    refine ⟨_, hA, by omega, h1, ?_⟩
    (conv => whnf)
    refine ⟨r.2, by rw [ea1]; exact hc2, ?_⟩
    (conv => whnf)
    refine ⟨_, rrange_det, ?_⟩
    unfold rangeV
    by_cases k1 : r.1 < 0 ∨ r.1 > r.2 ∨ r.2 > 255
    · rw [if_pos k1]
      (conv => whnf)
      refine ⟨_, W_len, rfl, ?_⟩
      (conv => whnf)
      refine ⟨rfl, W_len.symm, W_len.symm, ?_⟩
      (conv => whnf)
      refine ⟨rfl, rfl, rfl, ?_⟩
      (conv => whnf)
      refine ⟨rfl, rfl, ?_⟩
      (conv => whnf)
      refine ⟨rfl, fun _ => 0, fun k hk => Nat.two_pow_pos 64, .inl ⟨?_, rfl, fun b hb => Nat.zero_testBit _⟩⟩
      rw [List.any_eq_true]
      exact ⟨r, List.mem_of_getElem? hir, decide_eq_true k1⟩
    · rw [if_neg k1]
      have hR := laidG_ok (inR (r.1, r.2)) 256
      (conv => whnf)
      refine ⟨_, W_len, rfl, ?_⟩
      (conv => whnf)
      refine ⟨rfl, W_len.symm, W_len.symm, ?_⟩
      (conv => whnf)
      refine ⟨rfl, W_len.symm, ?_⟩
      (conv => whnf)
      refine ⟨rfl, W_len.symm, ?_⟩
      (conv => whnf)
      refine FCalls.mono (ror_c hG hR) fun v m' ⟨h2, O, hv, hO, hOb⟩ => ?_
      subst h2 hv
      (conv => whnf)
      refine ⟨_, W_len, rfl, ?_⟩
      (conv => whnf)
      refine ⟨rfl, W_len.symm, by rw [W_len]; exact W_len.symm, ?_⟩
      (conv => whnf)
      refine ⟨(i + 1, O), le_more (l := _) ⟨by show some (AV.v (.int .i64 (IntKind.i64.wrap ((i : Int) + 1)))) = _; rw [hstep], rfl, rfl, rfl, trivial⟩ rfl rfl rfl, ⟨by simp only; omega, hO, ?_, fun b hb' => ?_⟩, by simp only; omega⟩
      · show (rs.take (i + 1)).any badR = false
        rw [htake, List.any_append, hbad]
        simp only [List.any_cons, List.any_nil, Bool.or_false, Bool.false_or]
        exact decide_eq_false k1
      · show has O b = fromF (rs.take (i + 1)) b
        rw [hOb b hb', htake]
        unfold fromF
        rw [List.any_append, List.any_cons, List.any_nil, Bool.or_false]
        unfold bothF
        rw [laid_has hb', hb b hb']
        unfold fromF
        cases (List.take i rs).any (fun r => inR r b) <;> cases inR r b <;> rfl
  · have h1 : ¬ ((i : Int) < rs.length) := by simpa using h1
    have h1 : i = rs.length := by omega
    subst h1
    rw [List.take_length] at hbad hb
    (conv => whnf)
    refine ⟨rfl, W_len.symm, ?_⟩
    (conv => whnf)
    refine ⟨rfl, W_len.symm, W_len.symm, ?_⟩
    (conv => whnf)
    refine ⟨rfl, W_len.symm, ?_⟩
    (conv => whnf)
    exact ⟨rfl, G, hG, .inr ⟨hbad, rfl, hb⟩⟩
end Go.Proofs.YtegeeofjebpgbaaDoor
