/- Chars: the document's Valid, Places, Decode, Column; the law's same. -/
import Derived.Test.YtlnekbdcbkndbaaDoorChS
namespace Go.Proofs.YtlnekbdcbkndbaaDoor
open Go Go.Mv
set_option maxHeartbeats 2000000
set_option maxRecDepth 10000
set_option linter.unusedVariables false
set_option linter.unusedSimpArgs false
attribute [local irreducible] FCalls IntKind.wrap bits Mem.set Mem.setCell Mem.setCells YCalls RunP NextP
theorem refvalid_c {m : Mem} {s : ByteArray} (hs : s.size < 2 ^ 62) : FCalls Tryd.prog 24 [.string s] m fun v m' => v = .int .i64 ((bad s 0 : Nat) : Int) ∧ m' = m := by
  refine fcalls_of_vc (T := tbl) (B := bodies) (pr := [99999]) (DR := dr24) (args := [.v (.string s)]) tbl_ok bodies_ok mixed Tryd.func24 rfl (by decide +kernel) (by simp [Tryd.f24]) rfl ?_
  (conv => whnf)
  refine loop_keep [0] Nat (fun i => [(3, .v (.int .i64 ((i : Nat) : Int)))]) (fun _ => []) (fun _ => m) (fun i => i ≤ s.size ∧ bad s i = bad s 0) (fun i => s.size - i) 0 ⟨rfl, trivial⟩ rfl rfl ⟨Nat.zero_le _, rfl⟩ ?_
  (conv => whnf)
  refine ⟨rfl, ?_⟩
  rintro i ⟨hi, hJ⟩
  (conv => whnf)
  refine brk_intro (fun c0 => ?_) (fun c0 => ?_)
  · have hp : i < s.size := by have : ((i : Nat) : Int) < ((s.size : Nat) : Int) := of_decide_eq_true c0; omega
    have hw := wd_pos hp
    have hwl := wd_le hp
    have hwi : IntKind.i64.wrap (((i : Nat) : Int) + ((wd s i : Nat) : Int)) = ((i + wd s i : Nat) : Int) := by
      rw [wrap_id (by omega) (by omega)]
      omega
    (conv => whnf)
    refine FCalls.mono (refnext_c (by omega)) ?_
    rintro v M1 ⟨rfl, rfl⟩
    rw [if_pos ⟨by omega, by omega⟩, Int.toNat_natCast]
    rw [bad_step hp] at hJ
    (conv => whnf)
    refine brk_intro (fun c1 => ?_) (fun c1 => ?_)
    · have c1 : cd s i < 0 := of_decide_eq_true c1
      rw [if_pos c1] at hJ
      (conv => whnf)
      rw [← hJ]
      exact ⟨rfl, rfl⟩
    · have c1 : ¬ cd s i < 0 := of_decide_eq_false c1
      rw [if_neg c1] at hJ
      (conv => whnf)
      rw [hwi]
      exact ⟨i + wd s i, le_eq ⟨rfl, rfl, trivial⟩ rfl rfl rfl, ⟨hwl, hJ⟩, by omega⟩
  · have hp : ¬ i < s.size := by have : ¬ ((i : Nat) : Int) < ((s.size : Nat) : Int) := of_decide_eq_false c0; omega
    rw [bad_end hp] at hJ
    have hi : i = s.size := by omega
    (conv => whnf)
    rw [← hJ, hi]
    exact ⟨rfl, rfl⟩
theorem refplaces_c {m : Mem} {s : ByteArray} (hs : s.size < 2 ^ 43) : FCalls Tryd.prog 23 [.string s] m fun v m' => ∃ A c, v = .slice A (pls s).length c ∧ Sep [sl A (pls s).length c 1 (iv (pls s)), kp m] m' := by
  refine fcalls_of_vc (T := tbl) (B := bodies) (pr := [99999]) (DR := dr23) (args := [.v (.string s)]) tbl_ok bodies_ok mixed Tryd.func23 rfl (by decide +kernel) (by simp [Tryd.f23]) rfl ?_
  (conv => whnf)
  intro nb m2 hb he
  have h := (Sep.init m).new' (l := [.int .i64 0]) hb (he.trans rfl)
  clear hb he
  have h := h.slOf 0 (n := 1) (c := 1) (sz := 1) (vs := iv ([0].map (fun x => ((x : Nat) : Int)))) rfl rfl (Nat.le_refl _) (Nat.le_refl _) (fun k v hk => hk)
  have hbd := ps_len (s := s) (i := 0)
  (conv => whnf)
  refine loop_keep [0] (Nat × List Nat × Option Addr × Nat × Mem) (fun t => [(4, .v (.int .i64 ((t.1 : Nat) : Int))), (3, .v (.slice t.2.2.1 (t.2.1 ++ [t.1]).length t.2.2.2.1))]) (fun _ => []) (fun t => t.2.2.2.2)
    (fun t => t.1 ≤ s.size ∧ t.2.1 ++ ps s t.1 = ps s 0 ∧ Sep [sl t.2.2.1 (t.2.1 ++ [t.1]).length t.2.2.2.1 1 (iv ((t.2.1 ++ [t.1]).map (fun x => ((x : Nat) : Int)))), kp m] t.2.2.2.2) (fun t => s.size - t.1)
    (0, [], some ⟨nb, 0, none⟩, 1, m2) ⟨rfl, rfl, trivial⟩ rfl rfl ⟨Nat.zero_le _, rfl, h⟩ ?_
  clear h
  (conv => whnf)
  refine ⟨rfl, ?_⟩
  rintro ⟨i, l, B, cB, M⟩ ⟨hi, hJ, h⟩
  simp only at hi hJ h
  (conv => whnf)
  refine brk_intro (fun c0 => ?_) (fun c0 => ?_)
  · skip
    have hp : i < s.size := by have : ((i : Nat) : Int) < ((s.size : Nat) : Int) := of_decide_eq_true c0; omega
    have hw := wd_pos hp
    have hwl := wd_le hp
    have hwi : IntKind.i64.wrap (((i : Nat) : Int) + ((wd s i : Nat) : Int)) = ((i + wd s i : Nat) : Int) := by
      rw [wrap_id (by omega) (by omega)]
      omega
    rw [ps_step hp] at hJ
    have hll : l.length + 1 ≤ (ps s 0).length + 0 := by
      have := congrArg List.length hJ
      simp at this
      simp
      omega
    (conv => whnf)
    refine FCalls.mono (refnext_c (by omega)) ?_
    rintro v M1 ⟨rfl, rfl⟩
    rw [if_pos ⟨by omega, by omega⟩, Int.toNat_natCast]
    (conv => whnf)
    rw [hwi]
    intro nb m5 hb he
    replace h := h.new' (l := [.int .i64 (((i + wd s i : Nat) : Int))]) hb (he.trans rfl)
    have hBn : m5.holds ⟨nb, 0, none⟩ [.int .i64 (((i + wd s i : Nat) : Int))] := (h.blk 0 rfl).holds fun k v hk => by rw [Nat.zero_add]; exact hk
    clear hb he
    (conv => whnf)
    obtain ⟨ok, hR⟩ := h.app 1 (T := tbl) (e := 3) (news := [.int .i64 (((i + wd s i : Nat) : Int))]) (k := 1) (B := some ⟨nb, 0, none⟩) rfl rfl (.inr ⟨_, rfl, hBn⟩) rfl rfl (by show 2 * ((l ++ [i]).length + 1) * 8 ≤ 2 ^ 48; rw [List.length_append]; simp; omega) rfl
    refine ⟨_, _, ok, fun A2 c5 m6 hr2 => ?_⟩
    replace h := (hR _ _ _ hr2).drop 0
    clear ok hR hr2 hBn
    have e1 : (l ++ [i]).length + 1 = ((l ++ [i]) ++ [(i + wd s i)]).length := by simp
    have e2 : iv ((l ++ [i]).map (fun x => ((x : Nat) : Int))) ++ [.int .i64 (((i + wd s i : Nat) : Int))] = iv (((l ++ [i]) ++ [(i + wd s i)]).map (fun x => ((x : Nat) : Int))) := by simp [iv]
    rw [e1]
    replace h : Sep [sl A2 ((l ++ [i]).length + 1) c5 1 (iv ((l ++ [i]).map (fun x => ((x : Nat) : Int))) ++ [.int .i64 (((i + wd s i : Nat) : Int))]), kp m] m6 := h
    rw [e1, e2] at h
    (conv => whnf)
    exact ⟨(i + wd s i, l ++ [i], A2, c5, m6), le_eq ⟨rfl, rfl, rfl, trivial⟩ rfl rfl rfl, ⟨hwl, by simpa using hJ, h⟩, by simp only; omega⟩
  · have hp : ¬ i < s.size := by have : ¬ ((i : Nat) : Int) < ((s.size : Nat) : Int) := of_decide_eq_false c0; omega
    have hi : i = s.size := by omega
    subst hi
    rw [ps_end hp, List.append_nil] at hJ
    subst hJ
    have e1 : (ps s 0 ++ [s.size]).length = (pls s).length := by simp [pls]
    have e2 : iv ((ps s 0 ++ [s.size]).map (fun x => ((x : Nat) : Int))) = iv (pls s) := rfl
    rw [e1, e2] at h
    (conv => whnf)
    rw [e1]
    exact ⟨_, _, rfl, h⟩
theorem refdecode_c {m : Mem} {s : ByteArray} (hs : s.size < 2 ^ 43) : FCalls Tryd.prog 27 [.string s] m fun v m' =>
    (bad s 0 < s.size → v = .tuple #[.slice none 0 0, .bool false] ∧ m.le m') ∧
    (¬ bad s 0 < s.size → ∃ A c, v = .tuple #[.slice A (codes s).length c, .bool true] ∧ Sep [sl A (codes s).length c 1 (iv (codes s)), kp m] m') := by
  refine fcalls_of_vc (T := tbl) (B := bodies) (pr := [99999]) (DR := dr27) (args := [.v (.string s)]) tbl_ok bodies_ok mixed Tryd.func27 rfl (by decide +kernel) (by simp [Tryd.f27]) rfl ?_
  (conv => whnf)
  have hbd := ps_len (s := s) (i := 0)
  refine loop_keep [0] (Nat × List Nat × Option Addr × Nat × Mem) (fun t => [(5, .v (.int .i64 ((t.1 : Nat) : Int))), (4, .v (.slice t.2.2.1 t.2.1.length t.2.2.2.1))]) (fun _ => []) (fun t => t.2.2.2.2)
    (fun t => t.1 ≤ s.size ∧ bad s t.1 = bad s 0 ∧ t.2.1 ++ ps s t.1 = ps s 0 ∧ Sep [sl t.2.2.1 t.2.1.length t.2.2.2.1 1 (iv (t.2.1.map (cd s))), kp m] t.2.2.2.2) (fun t => s.size - t.1)
    (0, [], none, 0, m) ⟨rfl, rfl, trivial⟩ rfl rfl ⟨Nat.zero_le _, rfl, rfl, Sep.free (A := sl none 0 0 1 []) (Sep.init m) sl_nil⟩ ?_
  (conv => whnf)
  refine ⟨rfl, ?_⟩
  rintro ⟨i, l, B, cB, M⟩ ⟨hi, hb0, hJ, h⟩
  simp only at hi hb0 hJ h
  (conv => whnf)
  refine brk_intro (fun c0 => ?_) (fun c0 => ?_)
  · skip
    have hp : i < s.size := by have : ((i : Nat) : Int) < ((s.size : Nat) : Int) := of_decide_eq_true c0; omega
    have hw := wd_pos hp
    have hwl := wd_le hp
    have hwi : IntKind.i64.wrap (((i : Nat) : Int) + ((wd s i : Nat) : Int)) = ((i + wd s i : Nat) : Int) := by
      rw [wrap_id (by omega) (by omega)]
      omega
    rw [ps_step hp] at hJ
    have hll : l.length + 1 ≤ (ps s 0).length + 0 := by
      have := congrArg List.length hJ
      simp at this
      simp
      omega
    (conv => whnf)
    refine FCalls.mono (refnext_c (by omega)) ?_
    rintro v M1 ⟨rfl, rfl⟩
    rw [if_pos ⟨by omega, by omega⟩, Int.toNat_natCast]
    rw [bad_step hp] at hb0
    (conv => whnf)
    refine brk_intro (fun c1 => ?_) (fun c1 => ?_)
    · have c1 : cd s i < 0 := of_decide_eq_true c1
      rw [if_pos c1] at hb0
      (conv => whnf)
      exact ⟨fun _ => ⟨rfl, h.kept 1 rfl⟩, fun hq => absurd (by omega) hq⟩
    have c1 : ¬ cd s i < 0 := of_decide_eq_false c1
    rw [if_neg c1] at hb0
    (conv => whnf)
    intro nb m5 hb he
    replace h := h.new' (l := [.int .i64 (cd s i)]) hb (he.trans rfl)
    have hBn : m5.holds ⟨nb, 0, none⟩ [.int .i64 (cd s i)] := (h.blk 0 rfl).holds fun k v hk => by rw [Nat.zero_add]; exact hk
    clear hb he
    (conv => whnf)
    obtain ⟨ok, hR⟩ := h.app 1 (T := tbl) (e := 3) (news := [.int .i64 (cd s i)]) (k := 1) (B := some ⟨nb, 0, none⟩) rfl rfl (.inr ⟨_, rfl, hBn⟩) rfl rfl (by show 2 * (_ + 1) * 8 ≤ 2 ^ 48; omega) rfl
    refine ⟨_, _, ok, fun A2 c5 m6 hr2 => ?_⟩
    replace h := (hR _ _ _ hr2).drop 0
    clear ok hR hr2 hBn
    have e1 : l.length + 1 = (l ++ [i]).length := by simp
    have e2 : iv (l.map (cd s)) ++ [.int .i64 (cd s i)] = iv ((l ++ [i]).map (cd s)) := by simp [iv]
    rw [e1]
    replace h : Sep [sl A2 (l.length + 1) c5 1 (iv (l.map (cd s)) ++ [.int .i64 (cd s i)]), kp m] m6 := h
    rw [e1, e2] at h
    (conv => whnf)
    rw [hwi]
    exact ⟨(i + wd s i, l ++ [i], A2, c5, m6), le_eq ⟨rfl, rfl, rfl, trivial⟩ rfl rfl rfl, ⟨hwl, hb0, by simpa using hJ, h⟩, by simp only; omega⟩
  · have hp : ¬ i < s.size := by have : ¬ ((i : Nat) : Int) < ((s.size : Nat) : Int) := of_decide_eq_false c0; omega
    rw [bad_end hp] at hb0
    rw [ps_end hp, List.append_nil] at hJ
    subst hJ
    (conv => whnf)
    refine ⟨fun hq => absurd hq (by omega), fun _ => ?_⟩
    have e1 : (ps s 0).length = (codes s).length := by simp [codes]
    rw [e1] at h ⊢
    exact ⟨_, _, rfl, h⟩
theorem refcolumn_c {m : Mem} {s : ByteArray} (hs : s.size < 2 ^ 43) {at' : Int} : FCalls Tryd.prog 25 [.string s, .int .i64 at'] m fun v m' => v = .int .i64 (((ps s 0).filter fun x => decide (((x : Nat) : Int) < at')).length : Nat) ∧ m.le m' := by
  refine fcalls_of_vc (T := tbl) (B := bodies) (pr := [99999]) (DR := dr25) (args := [.v (.string s), .v (.int .i64 at')]) tbl_ok bodies_ok mixed Tryd.func25 rfl (by decide +kernel) (by simp [Tryd.f25]) rfl ?_
  (conv => whnf)
  refine FCalls.mono (refplaces_c hs) ?_
  rintro v m1 ⟨A, c, rfl, h⟩
  have hbd := ps_len (s := s) (i := 0)
  have hpl : (pls s).length = (ps s 0).length + 1 := by simp [pls]
  (conv => whnf)
  refine loop_keep [0, 1, 5] (Nat × List Nat) (fun t => [(6, .v (.int .i64 ((t.2.length : Nat) : Int)))]) (fun _ => []) (fun _ => m1)
    (fun t => t.2 ++ ps s t.1 = ps s 0 ∧ ∀ x, x ∈ t.2 → ((x : Nat) : Int) < at') (fun t => s.size - t.1) (0, []) ⟨rfl, trivial⟩ rfl rfl ⟨rfl, fun x hx => by cases hx⟩ ?_
  (conv => whnf)
  refine ⟨rfl, ?_⟩
  rintro ⟨i, l⟩ ⟨hJ, hl⟩
  simp only at hJ hl
  have hfl : l.filter (fun x => decide (((x : Nat) : Int) < at')) = l := List.filter_eq_self.2 fun x hx => decide_eq_true (hl x hx)
  have e1 : IntKind.i64.wrap (((pls s).length : Int) - 1) = (((ps s 0).length : Nat) : Int) := by rw [wrap_id (by omega) (by omega)]; omega
  (conv => whnf)
  rw [e1]
  by_cases hp : i < s.size
  · rw [ps_step hp] at hJ
    have hw := wd_pos hp
    have hll : l.length + (1 + (ps s (i + wd s i)).length) = (ps s 0).length := by
      have := congrArg List.length hJ
      simp at this
      omega
    refine brk_true (by simp; omega) ?_
    have hg : (iv (pls s))[l.length]? = some (.int .i64 ((i : Nat) : Int)) := iv_get (by unfold pls; rw [← hJ]; simp)
    obtain ⟨p, hpA, hc⟩ := (h.rd 0 rfl).at hg
    (conv => whnf)
    refine ⟨p, hpA, by omega, by show ((l.length : Nat) : Int) < (((pls s).length : Nat) : Int); omega, ?_⟩
    (conv => whnf)
    refine ⟨_, by show m1.cell (p.add (l.length * 1)) = _; rw [Nat.mul_one]; exact hc, ?_⟩
    (conv => whnf)
    refine brk_intro (fun c1 => ?_) (fun c1 => ?_)
    · have c1 : ((i : Nat) : Int) < at' := of_decide_eq_true (p := ((i : Nat) : Int) < at') c1
      have e2 : IntKind.i64.wrap (((l.length : Nat) : Int) + 1) = (((l ++ [i]).length : Nat) : Int) := by rw [wrap_id (by omega) (by omega), List.length_append]; rfl
      (conv => whnf)
      rw [e2]
      exact ⟨(i + wd s i, l ++ [i]), le_eq ⟨rfl, rfl, rfl, rfl, trivial⟩ rfl rfl rfl, ⟨by simpa using hJ, fun x hx => by
        rcases List.mem_append.1 hx with hx | hx
        · exact hl x hx
        · rw [List.mem_singleton.1 hx]; exact c1⟩, by simp only; omega⟩
    · have c1 : ¬ ((i : Nat) : Int) < at' := of_decide_eq_false (p := ((i : Nat) : Int) < at') c1
      have h0 : ((i :: ps s (i + wd s i)).filter fun x => decide (((x : Nat) : Int) < at')) = [] := by
        rw [List.filter_eq_nil_iff]
        intro x hx
        have := ps_ge (s := s) (i := i) x (by rw [ps_step hp]; exact hx)
        simp
        omega
      (conv => whnf)
      rw [← hJ, List.filter_append, h0, hfl, List.append_nil]
      exact ⟨rfl, h.kept 1 rfl⟩
  · rw [ps_end hp, List.append_nil] at hJ
    refine brk_false (by rw [← hJ]; simp) ?_
    (conv => whnf)
    rw [← hJ, hfl]
    exact ⟨rfl, h.kept 1 rfl⟩
theorem take_eq_step {l r : List Int} {i : Nat} {x y : Int} (h : l.take i = r.take i) (hx : l[i]? = some x) (hy : r[i]? = some y) (hxy : x = y) : l.take (i + 1) = r.take (i + 1) := by
  rw [List.take_add_one, List.take_add_one, h, hx, hy, hxy]
theorem same_c {m : Mem} {A B : Option Addr} {l r : List Int} {c c' : Nat} (hA : Rd m A (iv l)) (hB : Rd m B (iv r)) (hl : l.length < 2 ^ 62) :
    FCalls Tryd.prog 12 [.slice A l.length c, .slice B r.length c'] m fun v m' => v = .bool (decide (l = r)) ∧ m' = m := by
  refine fcalls_of_vc (T := tbl) (B := bodies) (pr := [99999]) (DR := dr12) (args := [.v (.slice A l.length c), .v (.slice B r.length c')]) tbl_ok bodies_ok mixed Tryd.func12 rfl (by decide +kernel) (by simp [Tryd.f12]) rfl ?_
  (conv => whnf)
  refine brk_intro (fun c1 => ?_) (fun c1 => ?_)
  · have c1 : ¬ ((l.length : Nat) : Int) = (r.length : Nat) := by simpa using c1
    (conv => whnf)
    refine ⟨?_, rfl⟩
    rw [decide_eq_false fun e => c1 (by rw [e])]
    rfl
  · have c1 : ((l.length : Nat) : Int) = (r.length : Nat) := by simpa using c1
    (conv => whnf)
    refine loop_keep [0, 1] Nat (fun s => [(5, .v (.int .i64 ((s : Nat) : Int)))]) (fun _ => []) (fun _ => m) (fun s => s ≤ l.length ∧ l.take s = r.take s) (fun s => l.length - s) 0 ⟨rfl, trivial⟩ rfl rfl (by simp) ?_
    (conv => whnf)
    refine ⟨rfl, ?_⟩
    rintro i ⟨h1, h2⟩
    (conv => whnf)
    refine brk_intro (fun c2 => ?_) (fun c2 => ?_)
    · have c2 : (i : Int) < (l.length : Nat) := by simpa using c2
      have step1 : IntKind.i64.wrap ((i : Int) + 1) = ((i + 1 : Nat) : Int) := wrap_id (by omega) (by omega)
      obtain ⟨x, hx⟩ : ∃ x, l[i]? = some x := ⟨_, List.getElem?_eq_getElem (by omega)⟩
      obtain ⟨z, hz⟩ : ∃ z, r[i]? = some z := ⟨_, List.getElem?_eq_getElem (by omega)⟩
      obtain ⟨q1, hq1, hc1⟩ := hA.at (iv_get hx)
      obtain ⟨q2, hq2, hc2⟩ := hB.at (iv_get hz)
      (conv => whnf)
      refine ⟨_, hq1, by omega, c2, ?_⟩
      (conv => whnf)
      refine ⟨_, by show m.cell (q1.add (i * 1)) = _; rw [Nat.mul_one]; exact hc1, ?_⟩
      (conv => whnf)
      refine ⟨_, hq2, by omega, by omega, ?_⟩
      (conv => whnf)
      refine ⟨_, by show m.cell (q2.add (i * 1)) = _; rw [Nat.mul_one]; exact hc2, ?_⟩
      (conv => whnf)
      refine brk_intro (fun c3 => ?_) (fun c3 => ?_)
      · have c3 : x ≠ z := by rintro rfl; simp at c3
        (conv => whnf)
        refine ⟨?_, rfl⟩
        rw [decide_eq_false fun e => c3 (by rw [e, hz] at hx; exact (Option.some.inj hx).symm)]
        rfl
      · have c3 : x = z := by simpa using c3
        (conv => whnf)
        rw [step1]
        exact ⟨i + 1, le_eq ⟨rfl, rfl, rfl, trivial⟩ rfl rfl rfl, ⟨by omega, take_eq_step h2 hx hz c3⟩, by omega⟩
    · have c2 : ¬ (i : Int) < (l.length : Nat) := by simpa using c2
      (conv => whnf)
      refine ⟨?_, rfl⟩
      have hi : i = l.length := by omega
      rw [hi, List.take_length, List.take_of_length_le (by omega)] at h2
      rw [decide_eq_true h2]
      rfl
end Go.Proofs.YtlnekbdcbkndbaaDoor
