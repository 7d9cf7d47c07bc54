/- Chars: CharsWalk. -/
import Derived.Test.YtlnekbdcbkndbaaDoorChX
namespace Go.Proofs.YtlnekbdcbkndbaaDoor
open Go Go.Mv
set_option maxHeartbeats 2000000
set_option maxRecDepth 10000
set_option linter.unusedVariables false
set_option linter.unusedSimpArgs false
attribute [local irreducible] FCalls IntKind.wrap bits Mem.set Mem.setCell Mem.setCells YCalls RunP NextP
theorem wd_ext {s : ByteArray} {f j : Nat} (hf : f ≤ s.size) (hj : f + j ≤ s.size) : wd (s.extract f s.size) j = wd s (f + j) := by
  have hsz : (s.extract f s.size).size = s.size - f := by rw [ByteArray.size_extract]; omega
  rw [wdl_eq (by omega), wdl_eq hj, bl_cut (Nat.le_refl _), List.take_of_length_le (by rw [List.length_drop, bl_len]; exact Nat.le_refl _), List.drop_drop]
theorem ps_ext {s : ByteArray} {f : Nat} (hf : f ≤ s.size) (j : Nat) : f + j ≤ s.size → (ps (s.extract f s.size) j).map (f + ·) = ps s (f + j) := by
  have hsz : (s.extract f s.size).size = s.size - f := by rw [ByteArray.size_extract]; omega
  refine ps_ind (s := s.extract f s.size) (Q := fun j => f + j ≤ s.size → (ps (s.extract f s.size) j).map (f + ·) = ps s (f + j)) ?_ ?_ j
  · intro j hp hj
    rw [ps_end hp, ps_end (by omega)]
    rfl
  · intro j hp ih hj
    have hw := wd_ext hf hj
    have hl := wd_le hp
    rw [ps_step hp, ps_step (s := s) (i := f + j) (by omega), List.map_cons, ih (by omega), hw, Nat.add_assoc]
theorem ps_at {s : ByteArray} (i : Nat) : i ≤ s.size → ∀ p, p ≤ (ps s i).length → ∃ f, f ≤ s.size ∧ (ps s i ++ [s.size])[p]? = some f ∧ (ps s i).drop p = ps s f := by
  refine ps_ind (s := s) (Q := fun i => i ≤ s.size → ∀ p, p ≤ (ps s i).length → ∃ f, f ≤ s.size ∧ (ps s i ++ [s.size])[p]? = some f ∧ (ps s i).drop p = ps s f) ?_ ?_ i
  · intro i hp hi p hpl
    rw [ps_end hp] at hpl ⊢
    have : p = 0 := by simpa using hpl
    subst this
    exact ⟨s.size, Nat.le_refl _, rfl, by rw [ps_end (by omega)]; rfl⟩
  · intro i hp ih hi p hpl
    cases p with
    | zero => exact ⟨i, hi, by rw [ps_step hp]; rfl, rfl⟩
    | succ p =>
      rw [ps_step hp] at hpl ⊢
      obtain ⟨f, h1, h2, h3⟩ := ih (wd_le hp) p (by simpa using hpl)
      exact ⟨f, h1, by simpa using h2, by simpa using h3⟩
def pkI (k n : Int) : Int := (if k < 0 then -(k + 1) else k).tmod n
theorem pkI_lt {k n : Int} (hn : 0 < n) : 0 ≤ pkI k n ∧ pkI k n < n := by
  unfold pkI
  have h0 : 0 ≤ (if k < 0 then -(k + 1) else k) := by split <;> omega
  exact ⟨Int.tmod_nonneg _ h0, Int.tmod_lt_of_pos _ hn⟩
theorem pick_c {m : Mem} {k n : Int} (hk : -9223372036854775808 ≤ k ∧ k ≤ 9223372036854775807) (hn : 0 < n) : FCalls Tryd.prog 21 [.int .i64 k, .int .i64 n] m fun v m' => v = .int .i64 (pkI k n) ∧ m' = m := by
  refine fcalls_of_vc (T := tbl) (B := bodies) (pr := [99999]) (DR := dr21) (args := [.v (.int .i64 k), .v (.int .i64 n)]) tbl_ok bodies_ok mixed Tryd.func21 rfl (by decide +kernel) (by simp [Tryd.f21]) rfl ?_
  (conv => whnf)
  refine brk_intro (fun c1 => ?_) (fun c1 => ?_)
  · have c1 : k < 0 := of_decide_eq_true c1
    (conv => whnf)
    rw [wrap_id (x := k + 1) (by omega) (by omega), wrap_id (by omega) (by omega)]
    refine ⟨by omega, ?_⟩
    (conv => whnf)
    refine ⟨?_, rfl⟩
    unfold pkI
    rw [if_pos c1, show -(k + 1) = 0 - (k + 1) by omega]
    rfl
  · have c1 : ¬ k < 0 := of_decide_eq_false c1
    (conv => whnf)
    refine ⟨by omega, ?_⟩
    (conv => whnf)
    refine ⟨?_, rfl⟩
    unfold pkI
    rw [if_neg c1]
    rfl
theorem pls_get {s : ByteArray} {l : List Nat} {i : Nat} (h : l ++ ps s i = ps s 0) (hi : i ≤ s.size) : (pls s)[l.length]? = some ((i : Nat) : Int) := by
  unfold pls
  rw [← h, List.getElem?_map]
  by_cases hp : i < s.size
  · rw [ps_step hp]; simp
  · rw [ps_end hp]; simp; omega
theorem charsWalk_c {m : Mem} (hG : G m) {s : ByteArray} (hs : s.size ≤ 1048576) {k : Int} (hk64 : -9223372036854775808 ≤ k ∧ k ≤ 9223372036854775807) : FCalls Tryd.prog 5 [.string s, .int .i64 k] m fun v m' => v = .bool true ∧ m.le m' := by
  obtain ⟨b0, hb0⟩ : ∃ b : Bool, b = true := ⟨_, rfl⟩
  have hpl := pls_len (s := s)
  have hpn : (pls s).length = (ps s 0).length + 1 := by simp [pls]
  refine fcalls_of_vc (T := tbl) (B := bodies) (pr := [99999]) (DR := dr5) (args := [.v (.string s), .v (.int .i64 k)]) tbl_ok bodies_ok mixed Tryd.func5 rfl (by decide +kernel) (by simp [Tryd.f5]) rfl ?_
  (conv => whnf)
  refine FCalls.mono (examples_c hG) ?_
  rintro v m1 ⟨rfl, hk⟩
  rw [show Value.bool true = .bool b0 by rw [hb0]]
  (conv => whnf)
  refine FCalls.mono (places_c (by omega)) ?_
  rintro v m2 ⟨A, cA, rfl, h⟩
  (conv => whnf)
  refine loop_keep [0, 1, 5, 6] (Nat × List Nat × Int × Mem) (fun t => [(8, .v (.int .i64 ((t.1 : Nat) : Int))), (9, .v (.int .i64 ((t.2.1.length : Nat) : Int))), (7, .v (.int .i64 t.2.2.1))]) (fun _ => []) (fun t => t.2.2.2)
    (fun t => t.1 ≤ s.size ∧ t.2.1 ++ ps s t.1 = ps s 0 ∧ (∀ x, x ∈ t.2.1 → x < t.1) ∧ ((t.2.2.1 = (s.size : Nat) ∧ bad s t.1 = bad s 0) ∨ (t.2.2.1 = (bad s 0 : Nat) ∧ bad s 0 < s.size)) ∧ Sep [sl A (pls s).length cA 1 (iv (pls s)), kp m1] t.2.2.2) (fun t => s.size - t.1)
    (0, [], ((s.size : Nat) : Int), m2) ⟨rfl, rfl, rfl, trivial⟩ rfl rfl ⟨Nat.zero_le _, rfl, fun x hx => (by cases hx), .inl ⟨rfl, rfl⟩, h⟩ ?_
  clear h
  (conv => whnf)
  refine ⟨rfl, ?_⟩
  rintro ⟨i, l, bv, M⟩ ⟨hi, hJ, hll, hbv, h⟩
  simp only at hi hJ hll hbv h
  have hG' := hG.more (Mem.le_trans hk (h.kept 1 rfl))
  have hfil : ((ps s 0).filter fun x => decide (((x : Nat) : Int) < ((i : Nat) : Int))).length = l.length := by
    rw [← hJ, List.filter_append, List.filter_eq_self.2 (fun x hx => by have := hll x hx; simp; omega), List.filter_eq_nil_iff.2 (fun x hx => by have := ps_ge (s := s) (i := i) x hx; simp; omega), List.append_nil]
  have hlen : l.length + (ps s i).length = (ps s 0).length := by rw [← hJ, List.length_append]
  obtain ⟨q, hq, hc⟩ := (h.rd 0 rfl).at (iv_get (pls_get hJ hi))
  (conv => whnf)
  refine brk_intro (fun c0 => ?_) (fun c0 => ?_)
  · have hp : i < s.size := by have : ((i : Nat) : Int) < ((s.size : Nat) : Int) := of_decide_eq_true c0; omega
    have hw := wd_pos hp
    have hwl := wd_le hp
    have hw4 : wd s i ≤ 4 := (dec_facts hp).2.1
    have hstep := ps_step hp
    obtain ⟨w, hwe⟩ : ∃ w : Int, w = ((wd s i : Nat) : Int) := ⟨_, rfl⟩
    (conv => whnf)
    refine FCalls.mono (next_c hG'.1 (by omega)) ?_
    rintro v m3 ⟨rfl, rfl⟩
    rw [if_pos ⟨by omega, by omega⟩, Int.toNat_natCast, ← hwe]
    (conv => whnf)
    refine brk_true (by simp; omega) ?_
    (conv => whnf)
    refine brk_true (by simp; omega) ?_
    (conv => whnf)
    refine brk_true (by simp; omega) ?_
    (conv => whnf)
    refine ⟨q, hq, by omega, by show ((l.length : Nat) : Int) < (((pls s).length : Nat) : Int); omega, ?_⟩
    (conv => whnf)
    refine ⟨_, by show m3.cell (q.add (l.length * 1)) = _; rw [Nat.mul_one]; exact hc, ?_⟩
    (conv => whnf)
    refine brk_true (by simp) ?_
    (conv => whnf)
    refine FCalls.mono (column_c (by omega)) ?_
    rintro v m4 ⟨rfl, hm4⟩
    rw [hfil]
    (conv => whnf)
    refine brk_true (by simp) ?_
    (conv => whnf)
    replace h := h.more hm4
    have hbs := bad_step hp
    have hll2 : ∀ x, x ∈ l ++ [i] → x < i + wd s i := fun x hx => by
      rcases List.mem_append.1 hx with hx | hx
      · have := hll x hx; omega
      · have := List.mem_singleton.1 hx; omega
    rw [hstep, List.length_cons] at hlen
    by_cases hneg : cd s i < 0
    · obtain ⟨hw1, _⟩ := cd_bad hp hneg
      rw [if_pos hneg] at hbs
      refine brk_true (by simp; omega) ?_
      (conv => whnf)
      refine brk_false (by simp; omega) ?_
      (conv => whnf)
      refine brk_true (by simp; omega) ?_
      (conv => whnf)
      rcases hbv with ⟨hbv, hb2⟩ | ⟨hbv, hb2⟩
      · refine brk_true (by simp; omega) ?_
        (conv => whnf)
        have e1 : IntKind.i64.wrap (((i : Nat) : Int) + w) = ((i + wd s i : Nat) : Int) := by rw [wrap_id (by omega) (by omega)]; omega
        have e2 : IntKind.i64.wrap (((l.length : Nat) : Int) + 1) = (((l ++ [i]).length : Nat) : Int) := by rw [wrap_id (by omega) (by omega), List.length_append]; rfl
        rw [e1, e2]
        exact ⟨(i + wd s i, l ++ [i], ((i : Nat) : Int), m4), le_eq ⟨rfl, rfl, rfl, rfl, rfl, rfl, rfl, trivial⟩ rfl rfl rfl, ⟨hwl, by simpa [hstep] using hJ, hll2, .inr ⟨by simp only; omega, by omega⟩, h⟩, by simp only; omega⟩
      · refine brk_false (by simp; omega) ?_
        (conv => whnf)
        have e1 : IntKind.i64.wrap (((i : Nat) : Int) + w) = ((i + wd s i : Nat) : Int) := by rw [wrap_id (by omega) (by omega)]; omega
        have e2 : IntKind.i64.wrap (((l.length : Nat) : Int) + 1) = (((l ++ [i]).length : Nat) : Int) := by rw [wrap_id (by omega) (by omega), List.length_append]; rfl
        rw [e1, e2]
        exact ⟨(i + wd s i, l ++ [i], bv, m4), le_eq ⟨rfl, rfl, rfl, rfl, rfl, rfl, rfl, trivial⟩ rfl rfl rfl, ⟨hwl, by simpa [hstep] using hJ, hll2, .inr ⟨hbv, hb2⟩, h⟩, by simp only; omega⟩
    · rw [if_neg hneg] at hbs
      refine brk_false (by simp; omega) ?_
      (conv => whnf)
      refine brk_false (by simp; omega) ?_
      (conv => whnf)
      have e1 : IntKind.i64.wrap (((i : Nat) : Int) + w) = ((i + wd s i : Nat) : Int) := by rw [wrap_id (by omega) (by omega)]; omega
      have e2 : IntKind.i64.wrap (((l.length : Nat) : Int) + 1) = (((l ++ [i]).length : Nat) : Int) := by rw [wrap_id (by omega) (by omega), List.length_append]; rfl
      rw [e1, e2]
      exact ⟨(i + wd s i, l ++ [i], bv, m4), le_eq ⟨rfl, rfl, rfl, rfl, rfl, rfl, rfl, trivial⟩ rfl rfl rfl, ⟨hwl, by simpa [hstep] using hJ, hll2, Or.imp (fun h => ⟨h.1, by rw [← hbs]; exact h.2⟩) id hbv, h⟩, by simp only; omega⟩
  · have hp : i = s.size := by have : ¬ ((i : Nat) : Int) < ((s.size : Nat) : Int) := of_decide_eq_false c0; omega
    subst hp
    have hpe : ps s s.size = [] := ps_end (Nat.lt_irrefl _)
    rw [hpe, List.length_nil, Nat.add_zero] at hlen
    have hbv : bv = ((bad s 0 : Nat) : Int) := by
      rcases hbv with ⟨h1, h2⟩ | ⟨h1, _⟩
      · rw [h1, ← h2, bad_end (Nat.lt_irrefl _)]
      · exact h1
    have e2 : IntKind.i64.wrap (((l.length : Nat) : Int) + 1) = ((l.length + 1 : Nat) : Int) := by rw [wrap_id (by omega) (by omega)]; omega
    obtain ⟨z1, hz1⟩ : ∃ x : Int, x = ((s.size : Nat) : Int) := ⟨_, rfl⟩
    (conv => whnf)
    refine brk_true (by rw [hb0]; rfl) ?_
    (conv => whnf)
    refine brk_true (by simp) ?_
    (conv => whnf)
    refine brk_true (by rw [show IntKind.i64.wrap (((s.size, l, bv, M).snd.fst.length : Int) + 1) = ((l.length + 1 : Nat) : Int) from e2]; simp; omega) ?_
    (conv => whnf)
    refine ⟨q, hq, by omega, by show ((l.length : Nat) : Int) < (((pls s).length : Nat) : Int); omega, ?_⟩
    (conv => whnf)
    refine ⟨_, by show M.cell (q.add (l.length * 1)) = _; rw [Nat.mul_one]; exact hc, ?_⟩
    (conv => whnf)
    refine brk_true (by simp) ?_
    (conv => whnf)
    refine FCalls.mono (valids_c hG'.1 (by omega)) ?_
    rintro v m4 ⟨rfl, hm4⟩
    rw [← hbv]
    obtain ⟨bw, hbw⟩ : ∃ x : Int, x = bv := ⟨_, rfl⟩
    rw [show Value.int .i64 bv = Value.int .i64 bw by rw [hbw]]
    (conv => whnf)
    refine brk_true (by simp [hbw]) ?_
    (conv => whnf)
    refine FCalls.mono (column_c (by omega)) ?_
    rintro v m5 ⟨rfl, hm5⟩
    rw [hfil]
    replace h := h.more (Mem.le_trans hm4 hm5)
    clear hc hq hG' hm4 hm5
    (conv => whnf)
    refine brk_false (by simp) ?_
    obtain ⟨P, hP⟩ : ∃ P : Nat, pkI k ((pls s).length : Nat) = (P : Int) ∧ P < (pls s).length := by
      have := pkI_lt (k := k) (n := ((pls s).length : Nat)) (by omega)
      exact ⟨(pkI k ((pls s).length : Nat)).toNat, by omega, by omega⟩
    obtain ⟨hP, hPl⟩ := hP
    obtain ⟨f, hf, hfg, hfd⟩ := ps_at (s := s) 0 (Nat.zero_le _) P (by omega)
    have hgetP : (pls s)[P]? = some ((f : Nat) : Int) := by unfold pls; rw [List.getElem?_map, hfg]; rfl
    obtain ⟨q, hq, hc⟩ := (h.rd 0 rfl).at (iv_get hgetP)
    (conv => whnf)
    refine FCalls.mono (pick_c hk64 (by omega)) ?_
    rintro v m6 ⟨rfl, rfl⟩
    rw [hP]
    (conv => whnf)
    refine ⟨q, hq, by omega, by omega, ?_⟩
    (conv => whnf)
    refine ⟨_, by show m6.cell (q.add (P * 1)) = _; rw [Nat.mul_one]; exact hc, ?_⟩
    (conv => whnf)
    refine ⟨by omega, by omega, by omega, ?_⟩
    (conv => whnf)
    have hxs : (s.extract f s.size).size = s.size - f := by rw [ByteArray.size_extract]; omega
    refine FCalls.mono (places_c (s := s.extract f s.size) (by omega)) ?_
    rintro v m7 ⟨A2, c2, rfl, h2⟩
    replace h := h.on (N := [_]) h2
    clear h2 hc hq
    have hps := ps_ext hf 0 hf
    rw [Nat.add_zero, ← hfd] at hps
    obtain ⟨Y, hY⟩ : ∃ Y, Y = pls (s.extract f s.size) := ⟨_, rfl⟩
    have hYl : Y.length + P = (pls s).length := by
      have := congrArg List.length hps
      rw [List.length_map, List.length_drop] at this
      rw [hY, hpn]
      simp [pls]
      omega
    have hYg : ∀ j, j < Y.length → ∃ y : Nat, Y[j]? = some ((y : Nat) : Int) ∧ y ≤ s.size ∧ (pls s)[j + P]? = some ((f + y : Nat) : Int) := by
      intro j hj
      have hj2 : j < (ps (s.extract f s.size) 0 ++ [(s.extract f s.size).size]).length := by rw [hY] at hj; simpa [pls] using hj
      obtain ⟨y, hy⟩ : ∃ y, (ps (s.extract f s.size) 0 ++ [(s.extract f s.size).size])[j]? = some y := ⟨_, List.getElem?_eq_getElem hj2⟩
      refine ⟨y, by rw [hY]; unfold pls; rw [List.getElem?_map, hy]; rfl, ?_, ?_⟩
      · rcases List.mem_append.1 (List.mem_of_getElem? hy) with h1 | h1
        · have := ps_ge (s := s.extract f s.size) (i := 0) y h1; omega
        · have := List.mem_singleton.1 h1; omega
      · have e4 : (ps s 0 ++ [s.size]).drop P = (ps (s.extract f s.size) 0 ++ [(s.extract f s.size).size]).map (f + ·) := by
          rw [List.drop_append_of_le_length (by omega), ← hps, List.map_append, hxs]
          simp
          omega
        have e5 := congrArg (fun L : List Nat => L[j]?) e4
        simp only [List.getElem?_drop, List.getElem?_map, hy, Option.map_some] at e5
        unfold pls
        rw [List.getElem?_map, Nat.add_comm j P, e5]
        rfl
    rw [← hY] at h ⊢
    replace h : Sep [sl A2 Y.length c2 1 (iv Y), sl A (pls s).length cA 1 (iv (pls s)), kp m1] m7 := h
    replace hk : m.le m7 := Mem.le_trans hk (h.kept 2 rfl)
    (conv => whnf)
    refine loop_keep [0, 1, 6, 12, 13] Nat (fun i => [(14, .v (.int .i64 ((i : Nat) : Int)))]) (fun _ => []) (fun _ => m7) (fun i => True) (fun i => Y.length - i) 0 ⟨rfl, trivial⟩ rfl rfl trivial ?_
    (conv => whnf)
    refine ⟨rfl, ?_⟩
    rintro j _
    (conv => whnf)
    refine brk_intro (fun d0 => ?_) (fun d0 => ?_)
    · have d0 : j < Y.length := by have : ((j : Nat) : Int) < ((Y.length : Nat) : Int) := of_decide_eq_true d0; omega
      (conv => whnf)
      obtain ⟨y, hy1, hy2, hy3⟩ := hYg j d0
      obtain ⟨q1, hq1, hc1⟩ := (h.rd 0 rfl).at (iv_get hy1)
      obtain ⟨q2, hq2, hc2⟩ := (h.rd 1 rfl).at (iv_get hy3)
      have e1 : IntKind.i64.wrap (((j : Nat) : Int) + ((P : Nat) : Int)) = ((j + P : Nat) : Int) := by rw [wrap_id (by omega) (by omega)]; omega
      refine ⟨_, pick_c hk64 (by omega), ?_⟩
      rw [hP]
      (conv => whnf)
      refine brk_true (by rw [e1]; simp; omega) ?_
      (conv => whnf)
      refine ⟨q1, hq1, by omega, by omega, ?_⟩
      (conv => whnf)
      refine ⟨_, by show m7.cell (q1.add (j * 1)) = _; rw [Nat.mul_one]; exact hc1, ?_⟩
      (conv => whnf)
      refine ⟨_, pick_c hk64 (by omega), ?_⟩
      rw [hP]
      (conv => whnf)
      rw [e1]
      refine ⟨q2, hq2, by omega, by omega, ?_⟩
      (conv => whnf)
      refine ⟨_, by show m7.cell (q2.add ((j + P) * 1)) = _; rw [Nat.mul_one]; exact hc2, ?_⟩
      (conv => whnf)
      have e2 : IntKind.i64.wrap (((y : Nat) : Int) + ((f : Nat) : Int)) = ((f + y : Nat) : Int) := by rw [wrap_id (by omega) (by omega)]; omega
      have e3 : IntKind.i64.wrap (((j : Nat) : Int) + 1) = ((j + 1 : Nat) : Int) := by rw [wrap_id (by omega) (by omega)]; omega
      refine brk_false (by rw [e2]; simp) ?_
      (conv => whnf)
      rw [e3]
      exact ⟨j + 1, le_eq ⟨rfl, rfl, rfl, rfl, rfl, rfl, trivial⟩ rfl rfl rfl, trivial, by omega⟩
    · (conv => whnf)
      exact ⟨rfl, hk⟩
end Go.Proofs.YtlnekbdcbkndbaaDoor
