/- Texts that the claim leans on, joined: DfB, DfC, DfP, DfD, DfE, DfF, DfG, DfH, DfI, DfJ, DfK, DfL, DfM, DfN, DfO, DfQ, DfR. -/
import Derived.Test.YtkkcdfnlmhmheaaQp3
/- Dfa: code.Right, code.Free. -/
namespace Go.Proofs.Ytkkcdfnlmhmheaa
open Go Go.Mv
set_option maxHeartbeats 1000000
set_option maxRecDepth 10000
set_option linter.unusedVariables false
set_option linter.unusedSimpArgs false
attribute [local irreducible] FCalls IntKind.wrap bits Mem.set Mem.setCell Mem.setCells YCalls RunP NextP RunU
def wrongF (q : Prg) : Option Nat := (List.range q.ins.length).find? fun k => !fineF q k
def rightF (q : Prg) : Int × Int :=
  if 40000 < q.ins.length then (42, 0)
  else if q.groups < 0 ∨ 30 < q.groups ∨ q.counters < 0 ∨ 40 < q.counters then (1, 0)
  else if q.ins.length = 0 then (60, 0)
  else match wrongF q with
    | some k => (60, k)
    | none => (0, 0)
theorem wrong_some {q : Prg} {k : Nat} (h : ∀ j, j < k → fineF q j = true) (hk : k < q.ins.length) (hf : fineF q k = false) : wrongF q = some k := by
  unfold wrongF
  rw [List.find?_range_eq_some]
  refine ⟨by simp [hf], by simpa using hk, fun j hj => by simp [h j hj]⟩
theorem wrong_none {q : Prg} (h : ∀ j, j < q.ins.length → fineF q j = true) : wrongF q = none := by
  unfold wrongF
  rw [List.find?_range_eq_none]
  intro j hj
  simp [h j hj]
theorem right_c {m : Mem} {q : Prg} (hq : q.at m) : FCalls Try.prog 23 [q.val] m fun v m' => v = .tuple #[.int .i64 (rightF q).1, .int .i64 (rightF q).2] ∧ m' = m := by
  refine fcalls_of_vc (T := tbl) (B := bodies) (pr := [1]) (DR := dr23) (args := [.v q.val]) tbl_ok bodies_ok mixed Try.func23 rfl (by decide +kernel) (by simp [Try.f23]) rfl ?_
  (conv => whnf)
  refine brk_intro (fun c1 => ?_) (fun c1 => ?_)
  · have c1 : (40000 : Int) < q.ins.length := by simpa using c1
    (conv => whnf)
    refine ⟨?_, rfl⟩
    unfold rightF
    rw [if_pos (by omega)]
    rfl
  have c1 : ¬ (40000 : Int) < q.ins.length := by simpa using c1
  obtain ⟨rf, hrf⟩ : ∃ rf, rf = rightF q := ⟨_, rfl⟩
  rw [← hrf]
  have hbad : q.groups < 0 ∨ 30 < q.groups ∨ q.counters < 0 ∨ 40 < q.counters → rf = (1, 0) := fun h => by
    rw [hrf]
    unfold rightF
    rw [if_neg (by omega), if_pos h]
  have hgood : ¬ (q.groups < 0 ∨ 30 < q.groups ∨ q.counters < 0 ∨ 40 < q.counters) → (q.ins.length = 0 → rf = (60, 0)) ∧ (∀ k, 0 < q.ins.length → wrongF q = some k → rf = (60, (k : Int))) ∧ (0 < q.ins.length → wrongF q = none → rf = (0, 0)) := fun h => by
    rw [hrf]
    unfold rightF
    rw [if_neg (by omega), if_neg h]
    refine ⟨fun h0 => by rw [if_pos h0], fun k h0 h1 => by rw [if_neg (by omega), h1], fun h0 h1 => by rw [if_neg (by omega), h1]⟩
  clear hrf
  (conv => whnf)
  refine brk_intro (fun c2 => ?_) (fun c2 => ?_)
  rotate_left
  · have c2 : q.groups < 0 := by simpa using c2
    rw [hbad (by omega)]
    (conv => whnf)
    exact ⟨rfl, rfl⟩
  have c2 : ¬ q.groups < 0 := by simpa using c2
  (conv => whnf)
  refine brk_intro (fun c3 => ?_) (fun c3 => ?_)
  rotate_left
  · have c3 : 30 < q.groups := by simpa using c3
    rw [hbad (by omega)]
    (conv => whnf)
    exact ⟨rfl, rfl⟩
  have c3 : ¬ 30 < q.groups := by simpa using c3
  (conv => whnf)
  refine brk_intro (fun c4 => ?_) (fun c4 => ?_)
  rotate_left
  · have c4 : q.counters < 0 := by simpa using c4
    rw [hbad (by omega)]
    (conv => whnf)
    exact ⟨rfl, rfl⟩
  have c4 : ¬ q.counters < 0 := by simpa using c4
  (conv => whnf)
  refine brk_intro (fun c5 => ?_) (fun c5 => ?_)
  · have c5 : 40 < q.counters := by simpa using c5
    rw [hbad (by omega)]
    (conv => whnf)
    exact ⟨rfl, rfl⟩
  have c5 : ¬ 40 < q.counters := by simpa using c5
  obtain ⟨g1, g2, g3⟩ := hgood (by omega)
  clear hbad hgood
  (conv => whnf)
  refine brk_intro (fun c6 => ?_) (fun c6 => ?_)
  · have c6 : q.ins.length = 0 := by
      have : (q.ins.length : Int) = 0 := by simpa using c6
      omega
    rw [g1 c6]
    (conv => whnf)
    exact ⟨rfl, rfl⟩
  have c6 : 0 < q.ins.length := by
    have : ¬ (q.ins.length : Int) = 0 := by simpa using c6
    omega
  (conv => whnf)
  refine loop_keep [0, 1, 36] Nat (fun s => [(37, .v (.int .i64 ((s : Nat) : Int)))]) (fun _ => [.cells q.cells]) (fun _ => m) (fun s => s ≤ q.ins.length ∧ ∀ j, j < s → fineF q j = true) (fun s => q.ins.length - s) 0 ⟨rfl, trivial⟩ rfl rfl ⟨Nat.zero_le _, fun j h => by omega⟩ ?_
  (conv => whnf)
  refine ⟨rfl, ?_⟩
  rintro k ⟨hk, hJ⟩
  (conv => whnf)
  refine brk_intro (fun c7 => ?_) (fun c7 => ?_)
  · have c7 : (k : Int) < q.ins.length := by simpa using c7
    have step1 : IntKind.i64.wrap ((k : Int) + 1) = ((k + 1 : Nat) : Int) := wrap_id (by omega) (by omega)
    obtain ⟨i, hi⟩ : ∃ i, q.ins[k]? = some i := ⟨_, List.getElem?_eq_getElem (by omega)⟩
    (conv => whnf)
    refine FCalls.mono (fine_c hq hi (by omega)) ?_
    rintro v m' ⟨rfl, rfl⟩
    obtain ⟨b, hb⟩ : ∃ b, b = fineF q k := ⟨_, rfl⟩
    rw [← hb]
    (conv => whnf)
    refine brk_intro (fun c8 => ?_) (fun c8 => ?_)
    · have c8 : b = false := by simpa using c8
      rw [g2 k c6 (wrong_some hJ (by omega) (by rw [← hb]; exact c8))]
      (conv => whnf)
      exact ⟨rfl, rfl⟩
    · have c8 : b = true := by simpa using c8
      (conv => whnf)
      refine ⟨k + 1, le_eq ⟨by show some (AV.v (.int .i64 (IntKind.i64.wrap ((k : Int) + 1)))) = _; rw [step1], rfl, rfl, rfl, trivial⟩ rfl rfl rfl, ⟨by omega, fun j hj => ?_⟩, by omega⟩
      rcases Nat.lt_or_ge j k with h | h
      · exact hJ j h
      · have : j = k := by omega
        rw [this, ← hb, c8]
  · have c7 : ¬ (k : Int) < q.ins.length := by simpa using c7
    rw [g3 c6 (wrong_none fun j hj => hJ j (by omega))]
    (conv => whnf)
    exact ⟨rfl, rfl⟩
def freeI (i : Ins) : Bool := !(decide (i.op = 8 ∨ i.op = 9 ∨ i.op = 10))
def freeF (q : Prg) : Bool := q.ins.all freeI
theorem all_take {l : List Ins} {p : Ins → Bool} (h : ∀ (j : Nat) i, l[j]? = some i → p i = true) : l.all p = true := by
  rw [List.all_eq_true]
  intro i hi
  obtain ⟨j, hj⟩ := List.mem_iff_getElem?.1 hi
  exact h j i hj
theorem free_c {m : Mem} {q : Prg} (hq : q.at m) (hn : q.ins.length ≤ 40000) : FCalls Try.prog 24 [q.val] m fun v m' => v = .bool (freeF q) ∧ m' = m := by
  refine FCalls.less ?_
  refine fcalls_of_vc (T := tbl) (B := bodies) (pr := [99999, 1]) (DR := dr24) (args := [.v q.val]) tbl_ok bodies_ok mixed Try.func24 rfl (by decide +kernel) (by simp [Try.f24]) rfl ?_
  (conv => whnf)
  refine loop_keep [0, 6, 7] (Nat × Mem) (fun s => [(8, .v (.int .i64 ((s.1 : Nat) : Int)))]) (fun _ => [.cells q.cells]) (fun s => s.2) (fun s => s.1 ≤ q.ins.length ∧ m.le s.2 ∧ ∀ (j : Nat) i, j < s.1 → q.ins[j]? = some i → freeI i = true) (fun s => q.ins.length - s.1) (0, m) ⟨rfl, trivial⟩ rfl rfl ⟨Nat.zero_le _, Mem.le_refl _, fun j i h => (by omega)⟩ ?_
  (conv => whnf)
  refine ⟨rfl, ?_⟩
  rintro ⟨k, M⟩ ⟨hk, hM, hJ⟩
  simp only at hk hM hJ
  (conv => whnf)
  refine brk_intro (fun c7 => ?_) (fun c7 => ?_)
  · have c7 : (k : Int) < q.ins.length := by simpa using c7
    have step1 : IntKind.i64.wrap ((k : Int) + 1) = ((k + 1 : Nat) : Int) := wrap_id (by omega) (by omega)
    obtain ⟨i, hi⟩ : ∃ i, q.ins[k]? = some i := ⟨_, List.getElem?_eq_getElem (by omega)⟩
    obtain ⟨p, hp, hc⟩ := ins_at (hq.more hM) hi
    (conv => whnf)
    refine ⟨p, hp, by omega, by omega, ?_⟩
    (conv => whnf)
    refine ⟨_, hc 0 _ rfl, ?_⟩
    (conv => whnf)
    refine ⟨_, hc 1 _ rfl, ?_⟩
    (conv => whnf)
    refine ⟨_, hc 2 _ rfl, ?_⟩
    (conv => whnf)
    refine ⟨_, hc 3 _ rfl, ?_⟩
    (conv => whnf)
    refine ⟨_, hc 4 _ rfl, ?_⟩
    (conv => whnf)
    refine ⟨_, hc 5 _ rfl, ?_⟩
    (conv => whnf)
    refine ⟨_, hc 6 _ rfl, ?_⟩
    (conv => whnf)
    refine ⟨_, hc 7 _ rfl, ?_⟩
    (conv => whnf)
    refine ⟨_, hc 8 _ rfl, ?_⟩
    (conv => whnf)
    refine ⟨_, hc 9 _ rfl, ?_⟩
    (conv => whnf)
    intro b5 m2 hb he
    have h := (Sep.init M).new' (l := (tbl.at 46).zero.list) hb he
    clear hb he
    (conv => whnf)
    refine ⟨h.rooms 0 (i := 0) rfl (by decide), fun m3 he => ?_⟩
    replace h : Sep [pt b5 i.cells, kp M] m3 := he ▸ h.putAll 0 (i := 0) i.cells rfl
    clear he
    have k0 := h.cell 0 (i := 0) rfl rfl
    have hM3 : m.le m3 := Mem.le_trans hM (h.kept 1 rfl)
    (conv => whnf)
    refine ⟨_, k0, ?_⟩
    (conv => whnf)
    have hno : i.op = 8 ∨ i.op = 9 ∨ i.op = 10 → freeF q = false := fun h => by
      cases hf : freeF q with
      | false => rfl
      | true =>
        unfold freeF at hf
        rw [List.all_eq_true] at hf
        have := hf i (List.mem_of_getElem? hi)
        unfold freeI at this
        rw [decide_eq_true h] at this
        cases this
    obtain ⟨f, hf⟩ : ∃ f, f = freeF q := ⟨_, rfl⟩
    rw [← hf] at hno ⊢
    clear hf
    refine brk_intro (fun c8 => ?_) (fun c8 => ?_)
    · rw [hno (by have : i.op = 8 := by simpa using c8
                  omega)]
      (conv => whnf)
      refine brk_true (by simpa using c8) ?_
      (conv => whnf)
      exact ⟨m, hM3, rfl, rfl⟩
    · (conv => whnf)
      refine brk_intro (fun c9 => ?_) (fun c9 => ?_)
      · rw [hno (by have : i.op = 9 := by simpa using c9
                    omega)]
        (conv => whnf)
        refine brk_true (by simpa using c9) ?_
        (conv => whnf)
        exact ⟨m, hM3, rfl, rfl⟩
      · (conv => whnf)
        refine brk_intro (fun c10 => ?_) (fun c10 => ?_)
        · rw [hno (by have : i.op = 10 := by simpa using c10
                      omega)]
          (conv => whnf)
          exact ⟨m, hM3, rfl, rfl⟩
        · have c8 : ¬ i.op = 8 := by simpa using c8
          have c9 : ¬ i.op = 9 := by simpa using c9
          have c10 : ¬ i.op = 10 := by simpa using c10
          (conv => whnf)
          refine ⟨(k + 1, m3), le_eq ⟨by show some (AV.v (.int .i64 (IntKind.i64.wrap ((k : Int) + 1)))) = _; rw [step1], rfl, rfl, rfl, trivial⟩ rfl rfl rfl, ⟨by simp only; omega, hM3, fun j i' hj hi' => ?_⟩, by simp only; omega⟩
          simp only at hj
          rcases Nat.lt_or_ge j k with h | h
          · exact hJ j i' h hi'
          · have : j = k := by omega
            rw [this, hi] at hi'
            cases hi'
            unfold freeI
            rw [decide_eq_false (by omega)]
            rfl
  · have c7 : ¬ (k : Int) < q.ins.length := by simpa using c7
    have hf : freeF q = true := all_take fun j i hi => hJ j i (by have := (List.getElem?_eq_some_iff.1 hi).1; omega) hi
    rw [hf]
    (conv => whnf)
    exact ⟨m, hM, rfl, rfl⟩
end Go.Proofs.Ytkkcdfnlmhmheaa
/- Dfa: the document's Of, fine, Right, Free. -/
namespace Go.Proofs.Ytkkcdfnlmhmheaa
open Go Go.Mv
set_option maxHeartbeats 1000000
set_option maxRecDepth 10000
set_option linter.unusedVariables false
set_option linter.unusedSimpArgs false
attribute [local irreducible] FCalls IntKind.wrap bits Mem.set Mem.setCell Mem.setCells YCalls RunP NextP RunU
def rcells (op : Int) (u : Uses) : List Value := [.bool u.set, .bool u.x, .bool u.y, .bool (u.g || u.c), .bool (decide (op = 10)), .bool u.n]
theorem rof_c {m : Mem} {op : Int} : FCalls Try.prog 51 [.int .i64 op] m fun v m' => v = .tuple #[.agg (rcells op ((usesOf op).getD noUse)).toArray, .bool (usesOf op).isSome] ∧ m' = m := by
  refine fcalls_of_vc (T := tbl) (B := bodies) (pr := [2]) (DR := dr51) (args := [.v (.int .i64 op)]) tbl_ok bodies_ok mixed Try.func51 rfl (by decide +kernel) (by simp [Try.f51]) rfl ?_
  (conv => whnf)
  repeat' (first
    | (refine brk_intro (fun c => ?_) (fun c => ?_) <;> (conv => whnf))
    | (apply And.intro <;> (conv => whnf))
    | exact True.intro)
  all_goals first
    | rfl
    | (exfalso; simp only [beq_iff_eq, beq_eq_false_iff_ne, ne_eq] at *; omega)
    | (refine Eq.trans (b := .tuple #[.agg (rcells op ((usesOf op).getD noUse)).toArray, .bool (usesOf op).isSome]) ?_ rfl
       simp only [beq_iff_eq, beq_eq_false_iff_ne, ne_eq] at *
       have e10 : decide (op = 10) = (op == 10) := rfl
       unfold rcells
       generalize he : usesOf op = e
       generalize hd : decide (op = 10) = d
       unfold usesOf at he
       simp_all only [if_true, if_false, true_or, or_true, or_self]
       subst he
       subst hd
       rfl)
    | (simp only [beq_iff_eq, beq_eq_false_iff_ne, ne_eq] at *
       have he : usesOf op = none := by unfold usesOf; simp_all
       have hd : decide (op = 10) = false := decide_eq_false (by assumption)
       unfold rcells
       rw [he, hd]
       rfl)
theorem uses_c {op : Int} {u : Uses} (h : usesOf op = some u) : u.c = decide (op = 9 ∨ op = 10) := by
  unfold usesOf at h
  repeat' split at h
  all_goals first
    | (cases h; done)
    | (cases h; symm; first | exact decide_eq_false (by omega) | exact decide_eq_true (by omega))
theorem rof1 {m : Mem} {op : Int} {u : Uses} (h : usesOf op = some u) {d : Bool} (hd : decide (op = 10) = d) : FCalls Try.prog 51 [.int .i64 op] m fun v m' => v = .tuple #[.agg #[.bool u.set, .bool u.x, .bool u.y, .bool (u.g || u.c), .bool d, .bool u.n], .bool true] ∧ m' = m :=
  (rof_c (op := op)).mono fun v m' ⟨h1, h2⟩ => ⟨by rw [h1, h]; unfold rcells; rw [hd]; rfl, h2⟩
theorem rof0 {m : Mem} {op : Int} (h : usesOf op = none) : FCalls Try.prog 51 [.int .i64 op] m fun v m' => (∃ d, v = .tuple #[.agg #[.bool false, .bool false, .bool false, .bool false, .bool d, .bool false], .bool false]) ∧ m' = m :=
  (rof_c (op := op)).mono fun v m' ⟨h1, h2⟩ => ⟨⟨decide (op = 10), by rw [h1, h]; rfl⟩, h2⟩
theorem usesOf_ways (op : Int) : op = 1 ∨ op = 2 ∨ op = 3 ∨ op = 4 ∨ op = 5 ∨ op = 6 ∨ op = 7 ∨ op = 8 ∨ op = 9 ∨ op = 10 ∨ op = 11 ∨ usesOf op = none := by
  by_cases h : 1 ≤ op ∧ op ≤ 11
  · omega
  · right; right; right; right; right; right; right; right; right; right; right
    unfold usesOf
    repeat (rw [if_neg (by omega)])
theorem rfine_1 {m : Mem} {q : Prg} {k : Nat} {x y n mn mx s0 s1 s2 s3 : Int} (hq : q.at m) (hi : q.ins[k]? = some ⟨1, x, y, n, mn, mx, s0, s1, s2, s3⟩) (hn : q.ins.length ≤ 1048576) :
    FCalls Try.prog 40 [q.val, .int .i64 ((k : Nat) : Int)] m fun v m' => v = .bool (fineF q k) ∧ m' = m := by
  obtain ⟨p, hp, hc⟩ := ins_at hq hi
  have hlt := (List.getElem?_eq_some_iff.1 hi).1
  refine FCalls.less ?_
  refine fcalls_of_vc (T := tbl) (B := bodies) (pr := [99999, 2, 6]) (DR := dr40) (args := [.v q.val, .v (.int .i64 ((k : Nat) : Int))]) tbl_ok bodies_ok mixed Try.func40 rfl (by decide +kernel) (by simp [Try.f40]) rfl ?_
  (conv => whnf)
  refine ⟨p, hp, by omega, by omega, ?_⟩
  (conv => whnf)
  refine ⟨_, hc 0 _ rfl, ?_⟩
  (conv => whnf)
  refine ⟨_, hc 1 _ rfl, ?_⟩
  (conv => whnf)
  refine ⟨_, hc 2 _ rfl, ?_⟩
  (conv => whnf)
  refine ⟨_, hc 3 _ rfl, ?_⟩
  (conv => whnf)
  refine ⟨_, hc 4 _ rfl, ?_⟩
  (conv => whnf)
  refine ⟨_, hc 5 _ rfl, ?_⟩
  (conv => whnf)
  refine ⟨_, hc 6 _ rfl, ?_⟩
  (conv => whnf)
  refine ⟨_, hc 7 _ rfl, ?_⟩
  (conv => whnf)
  refine ⟨_, hc 8 _ rfl, ?_⟩
  (conv => whnf)
  refine ⟨_, hc 9 _ rfl, ?_⟩
  (conv => whnf)
  intro b5 m2 hb he
  have h := (Sep.init m).new' (l := (tbl.at 46).zero.list) hb he
  clear hb he
  (conv => whnf)
  refine ⟨h.rooms 0 (i := 0) rfl (by decide), fun m3 he => ?_⟩
  replace h := he ▸ h.putAll 0 (i := 0) (Ins.cells ⟨1, x, y, n, mn, mx, s0, s1, s2, s3⟩) rfl
  clear he
  have k0 := h.cell 0 (i := 0) rfl rfl
  have k1 := h.cell 0 (i := 1) rfl rfl
  have k2 := h.cell 0 (i := 2) rfl rfl
  have k3 := h.cell 0 (i := 3) rfl rfl
  have k4 := h.cell 0 (i := 4) rfl rfl
  have k5 := h.cell 0 (i := 5) rfl rfl
  have ka : ∀ j, j < 4 → m3.cell (((⟨b5, 0, none⟩ : Addr).add 6).add j) = some (.int .u64 ([s0, s1, s2, s3].getD j 0)) := fun j hj => by
    have : j = 0 ∨ j = 1 ∨ j = 2 ∨ j = 3 := by omega
    rcases this with rfl | rfl | rfl | rfl
    · exact h.cell 0 (i := 6) rfl rfl
    · exact h.cell 0 (i := 7) rfl rfl
    · exact h.cell 0 (i := 8) rfl rfl
    · exact h.cell 0 (i := 9) rfl rfl
  have hk := h.kept 1 rfl
  clear h
  (conv => whnf)
  refine ⟨_, k0, ?_⟩
  (conv => whnf)
  refine FCalls.mono (rof1 (u := ⟨true, false, false, false, false, true⟩) rfl (d := false) rfl) ?_
  rintro v m' ⟨rfl, rfl⟩
  have hF : fineF q k = ((true || decide (s0 = 0 ∧ s1 = 0 ∧ s2 = 0 ∧ s3 = 0)) && withinF false x q.ins.length && withinF false y q.ins.length && withinF false n q.groups && boundsF ⟨1, x, y, n, mn, mx, s0, s1, s2, s3⟩ && (!true || decide (k + 1 < q.ins.length))) := by
    unfold fineF
    rw [hi]
    rfl
  clear hc hp
  have hw : IntKind.i64.wrap (((q.ins.length : Nat) : Int) - 1) = ((q.ins.length : Nat) : Int) - 1 := wrap_id (by omega) (by omega)
  (conv => whnf)
  repeat' (first
    | (refine brk_true ?h ?_; (case h => first | rfl | (simp <;> omega)); (conv => whnf))
    | (refine brk_false ?h ?_; (case h => first | rfl | (simp <;> omega)); (conv => whnf))
    | (refine brk_intro (fun c => ?_) (fun c => ?_) <;> (simp at c) <;> (conv => whnf))
    | (refine ⟨_, k0, ?_⟩; (conv => whnf))
    | (refine ⟨_, k1, ?_⟩; (conv => whnf))
    | (refine ⟨_, k2, ?_⟩; (conv => whnf))
    | (refine ⟨_, k3, ?_⟩; (conv => whnf))
    | (refine ⟨_, k4, ?_⟩; (conv => whnf))
    | (refine ⟨_, k5, ?_⟩; (conv => whnf))
    | (show ∃ xs : List Int, _; refine ⟨[s0, s1, s2, s3], rfl, ka, ?_⟩; (conv => whnf); refine ⟨rfl, rfl, ?_⟩; (conv => whnf)))
  all_goals
    refine ⟨m, hk, ?_, rfl⟩
    change Value.bool _ = Value.bool _
    refine congrArg Value.bool ?_
    rw [hF]
    clear hF
  all_goals first
    | (simp_all [withinF, boundsF]; done)
    | (simp_all [withinF, boundsF]; omega)
    | (simp [withinF, boundsF]; omega)
theorem rfine_2 {m : Mem} {q : Prg} {k : Nat} {x y n mn mx s0 s1 s2 s3 : Int} (hq : q.at m) (hi : q.ins[k]? = some ⟨2, x, y, n, mn, mx, s0, s1, s2, s3⟩) (hn : q.ins.length ≤ 1048576) :
    FCalls Try.prog 40 [q.val, .int .i64 ((k : Nat) : Int)] m fun v m' => v = .bool (fineF q k) ∧ m' = m := by
  obtain ⟨p, hp, hc⟩ := ins_at hq hi
  have hlt := (List.getElem?_eq_some_iff.1 hi).1
  refine FCalls.less ?_
  refine fcalls_of_vc (T := tbl) (B := bodies) (pr := [99999, 2, 6]) (DR := dr40) (args := [.v q.val, .v (.int .i64 ((k : Nat) : Int))]) tbl_ok bodies_ok mixed Try.func40 rfl (by decide +kernel) (by simp [Try.f40]) rfl ?_
  (conv => whnf)
  refine ⟨p, hp, by omega, by omega, ?_⟩
  (conv => whnf)
  refine ⟨_, hc 0 _ rfl, ?_⟩
  (conv => whnf)
  refine ⟨_, hc 1 _ rfl, ?_⟩
  (conv => whnf)
  refine ⟨_, hc 2 _ rfl, ?_⟩
  (conv => whnf)
  refine ⟨_, hc 3 _ rfl, ?_⟩
  (conv => whnf)
  refine ⟨_, hc 4 _ rfl, ?_⟩
  (conv => whnf)
  refine ⟨_, hc 5 _ rfl, ?_⟩
  (conv => whnf)
  refine ⟨_, hc 6 _ rfl, ?_⟩
  (conv => whnf)
  refine ⟨_, hc 7 _ rfl, ?_⟩
  (conv => whnf)
  refine ⟨_, hc 8 _ rfl, ?_⟩
  (conv => whnf)
  refine ⟨_, hc 9 _ rfl, ?_⟩
  (conv => whnf)
  intro b5 m2 hb he
  have h := (Sep.init m).new' (l := (tbl.at 46).zero.list) hb he
  clear hb he
  (conv => whnf)
  refine ⟨h.rooms 0 (i := 0) rfl (by decide), fun m3 he => ?_⟩
  replace h := he ▸ h.putAll 0 (i := 0) (Ins.cells ⟨2, x, y, n, mn, mx, s0, s1, s2, s3⟩) rfl
  clear he
  have k0 := h.cell 0 (i := 0) rfl rfl
  have k1 := h.cell 0 (i := 1) rfl rfl
  have k2 := h.cell 0 (i := 2) rfl rfl
  have k3 := h.cell 0 (i := 3) rfl rfl
  have k4 := h.cell 0 (i := 4) rfl rfl
  have k5 := h.cell 0 (i := 5) rfl rfl
  have ka : ∀ j, j < 4 → m3.cell (((⟨b5, 0, none⟩ : Addr).add 6).add j) = some (.int .u64 ([s0, s1, s2, s3].getD j 0)) := fun j hj => by
    have : j = 0 ∨ j = 1 ∨ j = 2 ∨ j = 3 := by omega
    rcases this with rfl | rfl | rfl | rfl
    · exact h.cell 0 (i := 6) rfl rfl
    · exact h.cell 0 (i := 7) rfl rfl
    · exact h.cell 0 (i := 8) rfl rfl
    · exact h.cell 0 (i := 9) rfl rfl
  have hk := h.kept 1 rfl
  clear h
  (conv => whnf)
  refine ⟨_, k0, ?_⟩
  (conv => whnf)
  refine FCalls.mono (rof1 (u := ⟨false, true, true, false, false, false⟩) rfl (d := false) rfl) ?_
  rintro v m' ⟨rfl, rfl⟩
  have hF : fineF q k = ((false || decide (s0 = 0 ∧ s1 = 0 ∧ s2 = 0 ∧ s3 = 0)) && withinF true x q.ins.length && withinF true y q.ins.length && withinF false n q.groups && boundsF ⟨2, x, y, n, mn, mx, s0, s1, s2, s3⟩ && (!false || decide (k + 1 < q.ins.length))) := by
    unfold fineF
    rw [hi]
    rfl
  clear hc hp
  have hw : IntKind.i64.wrap (((q.ins.length : Nat) : Int) - 1) = ((q.ins.length : Nat) : Int) - 1 := wrap_id (by omega) (by omega)
  (conv => whnf)
  repeat' (first
    | (refine brk_true ?h ?_; (case h => first | rfl | (simp <;> omega)); (conv => whnf))
    | (refine brk_false ?h ?_; (case h => first | rfl | (simp <;> omega)); (conv => whnf))
    | (refine brk_intro (fun c => ?_) (fun c => ?_) <;> (simp at c) <;> (conv => whnf))
    | (refine ⟨_, k0, ?_⟩; (conv => whnf))
    | (refine ⟨_, k1, ?_⟩; (conv => whnf))
    | (refine ⟨_, k2, ?_⟩; (conv => whnf))
    | (refine ⟨_, k3, ?_⟩; (conv => whnf))
    | (refine ⟨_, k4, ?_⟩; (conv => whnf))
    | (refine ⟨_, k5, ?_⟩; (conv => whnf))
    | (show ∃ xs : List Int, _; refine ⟨[s0, s1, s2, s3], rfl, ka, ?_⟩; (conv => whnf); refine ⟨rfl, rfl, ?_⟩; (conv => whnf)))
  all_goals
    refine ⟨m, hk, ?_, rfl⟩
    change Value.bool _ = Value.bool _
    refine congrArg Value.bool ?_
    rw [hF]
    clear hF
  all_goals first
    | (simp_all [withinF, boundsF]; done)
    | (simp_all [withinF, boundsF]; omega)
    | (simp [withinF, boundsF]; omega)
theorem rfine_3 {m : Mem} {q : Prg} {k : Nat} {x y n mn mx s0 s1 s2 s3 : Int} (hq : q.at m) (hi : q.ins[k]? = some ⟨3, x, y, n, mn, mx, s0, s1, s2, s3⟩) (hn : q.ins.length ≤ 1048576) :
    FCalls Try.prog 40 [q.val, .int .i64 ((k : Nat) : Int)] m fun v m' => v = .bool (fineF q k) ∧ m' = m := by
  obtain ⟨p, hp, hc⟩ := ins_at hq hi
  have hlt := (List.getElem?_eq_some_iff.1 hi).1
  refine FCalls.less ?_
  refine fcalls_of_vc (T := tbl) (B := bodies) (pr := [99999, 2, 6]) (DR := dr40) (args := [.v q.val, .v (.int .i64 ((k : Nat) : Int))]) tbl_ok bodies_ok mixed Try.func40 rfl (by decide +kernel) (by simp [Try.f40]) rfl ?_
  (conv => whnf)
  refine ⟨p, hp, by omega, by omega, ?_⟩
  (conv => whnf)
  refine ⟨_, hc 0 _ rfl, ?_⟩
  (conv => whnf)
  refine ⟨_, hc 1 _ rfl, ?_⟩
  (conv => whnf)
  refine ⟨_, hc 2 _ rfl, ?_⟩
  (conv => whnf)
  refine ⟨_, hc 3 _ rfl, ?_⟩
  (conv => whnf)
  refine ⟨_, hc 4 _ rfl, ?_⟩
  (conv => whnf)
  refine ⟨_, hc 5 _ rfl, ?_⟩
  (conv => whnf)
  refine ⟨_, hc 6 _ rfl, ?_⟩
  (conv => whnf)
  refine ⟨_, hc 7 _ rfl, ?_⟩
  (conv => whnf)
  refine ⟨_, hc 8 _ rfl, ?_⟩
  (conv => whnf)
  refine ⟨_, hc 9 _ rfl, ?_⟩
  (conv => whnf)
  intro b5 m2 hb he
  have h := (Sep.init m).new' (l := (tbl.at 46).zero.list) hb he
  clear hb he
  (conv => whnf)
  refine ⟨h.rooms 0 (i := 0) rfl (by decide), fun m3 he => ?_⟩
  replace h := he ▸ h.putAll 0 (i := 0) (Ins.cells ⟨3, x, y, n, mn, mx, s0, s1, s2, s3⟩) rfl
  clear he
  have k0 := h.cell 0 (i := 0) rfl rfl
  have k1 := h.cell 0 (i := 1) rfl rfl
  have k2 := h.cell 0 (i := 2) rfl rfl
  have k3 := h.cell 0 (i := 3) rfl rfl
  have k4 := h.cell 0 (i := 4) rfl rfl
  have k5 := h.cell 0 (i := 5) rfl rfl
  have ka : ∀ j, j < 4 → m3.cell (((⟨b5, 0, none⟩ : Addr).add 6).add j) = some (.int .u64 ([s0, s1, s2, s3].getD j 0)) := fun j hj => by
    have : j = 0 ∨ j = 1 ∨ j = 2 ∨ j = 3 := by omega
    rcases this with rfl | rfl | rfl | rfl
    · exact h.cell 0 (i := 6) rfl rfl
    · exact h.cell 0 (i := 7) rfl rfl
    · exact h.cell 0 (i := 8) rfl rfl
    · exact h.cell 0 (i := 9) rfl rfl
  have hk := h.kept 1 rfl
  clear h
  (conv => whnf)
  refine ⟨_, k0, ?_⟩
  (conv => whnf)
  refine FCalls.mono (rof1 (u := ⟨false, true, false, false, false, false⟩) rfl (d := false) rfl) ?_
  rintro v m' ⟨rfl, rfl⟩
  have hF : fineF q k = ((false || decide (s0 = 0 ∧ s1 = 0 ∧ s2 = 0 ∧ s3 = 0)) && withinF true x q.ins.length && withinF false y q.ins.length && withinF false n q.groups && boundsF ⟨3, x, y, n, mn, mx, s0, s1, s2, s3⟩ && (!false || decide (k + 1 < q.ins.length))) := by
    unfold fineF
    rw [hi]
    rfl
  clear hc hp
  have hw : IntKind.i64.wrap (((q.ins.length : Nat) : Int) - 1) = ((q.ins.length : Nat) : Int) - 1 := wrap_id (by omega) (by omega)
  (conv => whnf)
  repeat' (first
    | (refine brk_true ?h ?_; (case h => first | rfl | (simp <;> omega)); (conv => whnf))
    | (refine brk_false ?h ?_; (case h => first | rfl | (simp <;> omega)); (conv => whnf))
    | (refine brk_intro (fun c => ?_) (fun c => ?_) <;> (simp at c) <;> (conv => whnf))
    | (refine ⟨_, k0, ?_⟩; (conv => whnf))
    | (refine ⟨_, k1, ?_⟩; (conv => whnf))
    | (refine ⟨_, k2, ?_⟩; (conv => whnf))
    | (refine ⟨_, k3, ?_⟩; (conv => whnf))
    | (refine ⟨_, k4, ?_⟩; (conv => whnf))
    | (refine ⟨_, k5, ?_⟩; (conv => whnf))
    | (show ∃ xs : List Int, _; refine ⟨[s0, s1, s2, s3], rfl, ka, ?_⟩; (conv => whnf); refine ⟨rfl, rfl, ?_⟩; (conv => whnf)))
  all_goals
    refine ⟨m, hk, ?_, rfl⟩
    change Value.bool _ = Value.bool _
    refine congrArg Value.bool ?_
    rw [hF]
    clear hF
  all_goals first
    | (simp_all [withinF, boundsF]; done)
    | (simp_all [withinF, boundsF]; omega)
    | (simp [withinF, boundsF]; omega)
theorem rfine_4 {m : Mem} {q : Prg} {k : Nat} {x y n mn mx s0 s1 s2 s3 : Int} (hq : q.at m) (hi : q.ins[k]? = some ⟨4, x, y, n, mn, mx, s0, s1, s2, s3⟩) (hn : q.ins.length ≤ 1048576) :
    FCalls Try.prog 40 [q.val, .int .i64 ((k : Nat) : Int)] m fun v m' => v = .bool (fineF q k) ∧ m' = m := by
  obtain ⟨p, hp, hc⟩ := ins_at hq hi
  have hlt := (List.getElem?_eq_some_iff.1 hi).1
  refine FCalls.less ?_
  refine fcalls_of_vc (T := tbl) (B := bodies) (pr := [99999, 2, 6]) (DR := dr40) (args := [.v q.val, .v (.int .i64 ((k : Nat) : Int))]) tbl_ok bodies_ok mixed Try.func40 rfl (by decide +kernel) (by simp [Try.f40]) rfl ?_
  (conv => whnf)
  refine ⟨p, hp, by omega, by omega, ?_⟩
  (conv => whnf)
  refine ⟨_, hc 0 _ rfl, ?_⟩
  (conv => whnf)
  refine ⟨_, hc 1 _ rfl, ?_⟩
  (conv => whnf)
  refine ⟨_, hc 2 _ rfl, ?_⟩
  (conv => whnf)
  refine ⟨_, hc 3 _ rfl, ?_⟩
  (conv => whnf)
  refine ⟨_, hc 4 _ rfl, ?_⟩
  (conv => whnf)
  refine ⟨_, hc 5 _ rfl, ?_⟩
  (conv => whnf)
  refine ⟨_, hc 6 _ rfl, ?_⟩
  (conv => whnf)
  refine ⟨_, hc 7 _ rfl, ?_⟩
  (conv => whnf)
  refine ⟨_, hc 8 _ rfl, ?_⟩
  (conv => whnf)
  refine ⟨_, hc 9 _ rfl, ?_⟩
  (conv => whnf)
  intro b5 m2 hb he
  have h := (Sep.init m).new' (l := (tbl.at 46).zero.list) hb he
  clear hb he
  (conv => whnf)
  refine ⟨h.rooms 0 (i := 0) rfl (by decide), fun m3 he => ?_⟩
  replace h := he ▸ h.putAll 0 (i := 0) (Ins.cells ⟨4, x, y, n, mn, mx, s0, s1, s2, s3⟩) rfl
  clear he
  have k0 := h.cell 0 (i := 0) rfl rfl
  have k1 := h.cell 0 (i := 1) rfl rfl
  have k2 := h.cell 0 (i := 2) rfl rfl
  have k3 := h.cell 0 (i := 3) rfl rfl
  have k4 := h.cell 0 (i := 4) rfl rfl
  have k5 := h.cell 0 (i := 5) rfl rfl
  have ka : ∀ j, j < 4 → m3.cell (((⟨b5, 0, none⟩ : Addr).add 6).add j) = some (.int .u64 ([s0, s1, s2, s3].getD j 0)) := fun j hj => by
    have : j = 0 ∨ j = 1 ∨ j = 2 ∨ j = 3 := by omega
    rcases this with rfl | rfl | rfl | rfl
    · exact h.cell 0 (i := 6) rfl rfl
    · exact h.cell 0 (i := 7) rfl rfl
    · exact h.cell 0 (i := 8) rfl rfl
    · exact h.cell 0 (i := 9) rfl rfl
  have hk := h.kept 1 rfl
  clear h
  (conv => whnf)
  refine ⟨_, k0, ?_⟩
  (conv => whnf)
  refine FCalls.mono (rof1 (u := ⟨false, false, false, false, false, true⟩) rfl (d := false) rfl) ?_
  rintro v m' ⟨rfl, rfl⟩
  have hF : fineF q k = ((false || decide (s0 = 0 ∧ s1 = 0 ∧ s2 = 0 ∧ s3 = 0)) && withinF false x q.ins.length && withinF false y q.ins.length && withinF false n q.groups && boundsF ⟨4, x, y, n, mn, mx, s0, s1, s2, s3⟩ && (!true || decide (k + 1 < q.ins.length))) := by
    unfold fineF
    rw [hi]
    rfl
  clear hc hp
  have hw : IntKind.i64.wrap (((q.ins.length : Nat) : Int) - 1) = ((q.ins.length : Nat) : Int) - 1 := wrap_id (by omega) (by omega)
  (conv => whnf)
  repeat' (first
    | (refine brk_true ?h ?_; (case h => first | rfl | (simp <;> omega)); (conv => whnf))
    | (refine brk_false ?h ?_; (case h => first | rfl | (simp <;> omega)); (conv => whnf))
    | (refine brk_intro (fun c => ?_) (fun c => ?_) <;> (simp at c) <;> (conv => whnf))
    | (refine ⟨_, k0, ?_⟩; (conv => whnf))
    | (refine ⟨_, k1, ?_⟩; (conv => whnf))
    | (refine ⟨_, k2, ?_⟩; (conv => whnf))
    | (refine ⟨_, k3, ?_⟩; (conv => whnf))
    | (refine ⟨_, k4, ?_⟩; (conv => whnf))
    | (refine ⟨_, k5, ?_⟩; (conv => whnf))
    | (show ∃ xs : List Int, _; refine ⟨[s0, s1, s2, s3], rfl, ka, ?_⟩; (conv => whnf); refine ⟨rfl, rfl, ?_⟩; (conv => whnf)))
  all_goals
    refine ⟨m, hk, ?_, rfl⟩
    change Value.bool _ = Value.bool _
    refine congrArg Value.bool ?_
    rw [hF]
    clear hF
  all_goals first
    | (simp_all [withinF, boundsF]; done)
    | (simp_all [withinF, boundsF]; omega)
    | (simp [withinF, boundsF]; omega)
theorem rfine_5 {m : Mem} {q : Prg} {k : Nat} {x y n mn mx s0 s1 s2 s3 : Int} (hq : q.at m) (hi : q.ins[k]? = some ⟨5, x, y, n, mn, mx, s0, s1, s2, s3⟩) (hn : q.ins.length ≤ 1048576) :
    FCalls Try.prog 40 [q.val, .int .i64 ((k : Nat) : Int)] m fun v m' => v = .bool (fineF q k) ∧ m' = m := by
  obtain ⟨p, hp, hc⟩ := ins_at hq hi
  have hlt := (List.getElem?_eq_some_iff.1 hi).1
  refine FCalls.less ?_
  refine fcalls_of_vc (T := tbl) (B := bodies) (pr := [99999, 2, 6]) (DR := dr40) (args := [.v q.val, .v (.int .i64 ((k : Nat) : Int))]) tbl_ok bodies_ok mixed Try.func40 rfl (by decide +kernel) (by simp [Try.f40]) rfl ?_
  (conv => whnf)
  refine ⟨p, hp, by omega, by omega, ?_⟩
  (conv => whnf)
  refine ⟨_, hc 0 _ rfl, ?_⟩
  (conv => whnf)
  refine ⟨_, hc 1 _ rfl, ?_⟩
  (conv => whnf)
  refine ⟨_, hc 2 _ rfl, ?_⟩
  (conv => whnf)
  refine ⟨_, hc 3 _ rfl, ?_⟩
  (conv => whnf)
  refine ⟨_, hc 4 _ rfl, ?_⟩
  (conv => whnf)
  refine ⟨_, hc 5 _ rfl, ?_⟩
  (conv => whnf)
  refine ⟨_, hc 6 _ rfl, ?_⟩
  (conv => whnf)
  refine ⟨_, hc 7 _ rfl, ?_⟩
  (conv => whnf)
  refine ⟨_, hc 8 _ rfl, ?_⟩
  (conv => whnf)
  refine ⟨_, hc 9 _ rfl, ?_⟩
  (conv => whnf)
  intro b5 m2 hb he
  have h := (Sep.init m).new' (l := (tbl.at 46).zero.list) hb he
  clear hb he
  (conv => whnf)
  refine ⟨h.rooms 0 (i := 0) rfl (by decide), fun m3 he => ?_⟩
  replace h := he ▸ h.putAll 0 (i := 0) (Ins.cells ⟨5, x, y, n, mn, mx, s0, s1, s2, s3⟩) rfl
  clear he
  have k0 := h.cell 0 (i := 0) rfl rfl
  have k1 := h.cell 0 (i := 1) rfl rfl
  have k2 := h.cell 0 (i := 2) rfl rfl
  have k3 := h.cell 0 (i := 3) rfl rfl
  have k4 := h.cell 0 (i := 4) rfl rfl
  have k5 := h.cell 0 (i := 5) rfl rfl
  have ka : ∀ j, j < 4 → m3.cell (((⟨b5, 0, none⟩ : Addr).add 6).add j) = some (.int .u64 ([s0, s1, s2, s3].getD j 0)) := fun j hj => by
    have : j = 0 ∨ j = 1 ∨ j = 2 ∨ j = 3 := by omega
    rcases this with rfl | rfl | rfl | rfl
    · exact h.cell 0 (i := 6) rfl rfl
    · exact h.cell 0 (i := 7) rfl rfl
    · exact h.cell 0 (i := 8) rfl rfl
    · exact h.cell 0 (i := 9) rfl rfl
  have hk := h.kept 1 rfl
  clear h
  (conv => whnf)
  refine ⟨_, k0, ?_⟩
  (conv => whnf)
  refine FCalls.mono (rof1 (u := ⟨false, false, false, false, false, true⟩) rfl (d := false) rfl) ?_
  rintro v m' ⟨rfl, rfl⟩
  have hF : fineF q k = ((false || decide (s0 = 0 ∧ s1 = 0 ∧ s2 = 0 ∧ s3 = 0)) && withinF false x q.ins.length && withinF false y q.ins.length && withinF false n q.groups && boundsF ⟨5, x, y, n, mn, mx, s0, s1, s2, s3⟩ && (!true || decide (k + 1 < q.ins.length))) := by
    unfold fineF
    rw [hi]
    rfl
  clear hc hp
  have hw : IntKind.i64.wrap (((q.ins.length : Nat) : Int) - 1) = ((q.ins.length : Nat) : Int) - 1 := wrap_id (by omega) (by omega)
  (conv => whnf)
  repeat' (first
    | (refine brk_true ?h ?_; (case h => first | rfl | (simp <;> omega)); (conv => whnf))
    | (refine brk_false ?h ?_; (case h => first | rfl | (simp <;> omega)); (conv => whnf))
    | (refine brk_intro (fun c => ?_) (fun c => ?_) <;> (simp at c) <;> (conv => whnf))
    | (refine ⟨_, k0, ?_⟩; (conv => whnf))
    | (refine ⟨_, k1, ?_⟩; (conv => whnf))
    | (refine ⟨_, k2, ?_⟩; (conv => whnf))
    | (refine ⟨_, k3, ?_⟩; (conv => whnf))
    | (refine ⟨_, k4, ?_⟩; (conv => whnf))
    | (refine ⟨_, k5, ?_⟩; (conv => whnf))
    | (show ∃ xs : List Int, _; refine ⟨[s0, s1, s2, s3], rfl, ka, ?_⟩; (conv => whnf); refine ⟨rfl, rfl, ?_⟩; (conv => whnf)))
  all_goals
    refine ⟨m, hk, ?_, rfl⟩
    change Value.bool _ = Value.bool _
    refine congrArg Value.bool ?_
    rw [hF]
    clear hF
  all_goals first
    | (simp_all [withinF, boundsF]; done)
    | (simp_all [withinF, boundsF]; omega)
    | (simp [withinF, boundsF]; omega)
theorem rfine_6 {m : Mem} {q : Prg} {k : Nat} {x y n mn mx s0 s1 s2 s3 : Int} (hq : q.at m) (hi : q.ins[k]? = some ⟨6, x, y, n, mn, mx, s0, s1, s2, s3⟩) (hn : q.ins.length ≤ 1048576) :
    FCalls Try.prog 40 [q.val, .int .i64 ((k : Nat) : Int)] m fun v m' => v = .bool (fineF q k) ∧ m' = m := by
  obtain ⟨p, hp, hc⟩ := ins_at hq hi
  have hlt := (List.getElem?_eq_some_iff.1 hi).1
  refine FCalls.less ?_
  refine fcalls_of_vc (T := tbl) (B := bodies) (pr := [99999, 2, 6]) (DR := dr40) (args := [.v q.val, .v (.int .i64 ((k : Nat) : Int))]) tbl_ok bodies_ok mixed Try.func40 rfl (by decide +kernel) (by simp [Try.f40]) rfl ?_
  (conv => whnf)
  refine ⟨p, hp, by omega, by omega, ?_⟩
  (conv => whnf)
  refine ⟨_, hc 0 _ rfl, ?_⟩
  (conv => whnf)
  refine ⟨_, hc 1 _ rfl, ?_⟩
  (conv => whnf)
  refine ⟨_, hc 2 _ rfl, ?_⟩
  (conv => whnf)
  refine ⟨_, hc 3 _ rfl, ?_⟩
  (conv => whnf)
  refine ⟨_, hc 4 _ rfl, ?_⟩
  (conv => whnf)
  refine ⟨_, hc 5 _ rfl, ?_⟩
  (conv => whnf)
  refine ⟨_, hc 6 _ rfl, ?_⟩
  (conv => whnf)
  refine ⟨_, hc 7 _ rfl, ?_⟩
  (conv => whnf)
  refine ⟨_, hc 8 _ rfl, ?_⟩
  (conv => whnf)
  refine ⟨_, hc 9 _ rfl, ?_⟩
  (conv => whnf)
  intro b5 m2 hb he
  have h := (Sep.init m).new' (l := (tbl.at 46).zero.list) hb he
  clear hb he
  (conv => whnf)
  refine ⟨h.rooms 0 (i := 0) rfl (by decide), fun m3 he => ?_⟩
  replace h := he ▸ h.putAll 0 (i := 0) (Ins.cells ⟨6, x, y, n, mn, mx, s0, s1, s2, s3⟩) rfl
  clear he
  have k0 := h.cell 0 (i := 0) rfl rfl
  have k1 := h.cell 0 (i := 1) rfl rfl
  have k2 := h.cell 0 (i := 2) rfl rfl
  have k3 := h.cell 0 (i := 3) rfl rfl
  have k4 := h.cell 0 (i := 4) rfl rfl
  have k5 := h.cell 0 (i := 5) rfl rfl
  have ka : ∀ j, j < 4 → m3.cell (((⟨b5, 0, none⟩ : Addr).add 6).add j) = some (.int .u64 ([s0, s1, s2, s3].getD j 0)) := fun j hj => by
    have : j = 0 ∨ j = 1 ∨ j = 2 ∨ j = 3 := by omega
    rcases this with rfl | rfl | rfl | rfl
    · exact h.cell 0 (i := 6) rfl rfl
    · exact h.cell 0 (i := 7) rfl rfl
    · exact h.cell 0 (i := 8) rfl rfl
    · exact h.cell 0 (i := 9) rfl rfl
  have hk := h.kept 1 rfl
  clear h
  (conv => whnf)
  refine ⟨_, k0, ?_⟩
  (conv => whnf)
  refine FCalls.mono (rof1 (u := ⟨false, false, false, true, false, true⟩) rfl (d := false) rfl) ?_
  rintro v m' ⟨rfl, rfl⟩
  have hF : fineF q k = ((false || decide (s0 = 0 ∧ s1 = 0 ∧ s2 = 0 ∧ s3 = 0)) && withinF false x q.ins.length && withinF false y q.ins.length && withinF true n q.groups && boundsF ⟨6, x, y, n, mn, mx, s0, s1, s2, s3⟩ && (!true || decide (k + 1 < q.ins.length))) := by
    unfold fineF
    rw [hi]
    rfl
  clear hc hp
  have hw : IntKind.i64.wrap (((q.ins.length : Nat) : Int) - 1) = ((q.ins.length : Nat) : Int) - 1 := wrap_id (by omega) (by omega)
  (conv => whnf)
  repeat' (first
    | (refine brk_true ?h ?_; (case h => first | rfl | (simp <;> omega)); (conv => whnf))
    | (refine brk_false ?h ?_; (case h => first | rfl | (simp <;> omega)); (conv => whnf))
    | (refine brk_intro (fun c => ?_) (fun c => ?_) <;> (simp at c) <;> (conv => whnf))
    | (refine ⟨_, k0, ?_⟩; (conv => whnf))
    | (refine ⟨_, k1, ?_⟩; (conv => whnf))
    | (refine ⟨_, k2, ?_⟩; (conv => whnf))
    | (refine ⟨_, k3, ?_⟩; (conv => whnf))
    | (refine ⟨_, k4, ?_⟩; (conv => whnf))
    | (refine ⟨_, k5, ?_⟩; (conv => whnf))
    | (show ∃ xs : List Int, _; refine ⟨[s0, s1, s2, s3], rfl, ka, ?_⟩; (conv => whnf); refine ⟨rfl, rfl, ?_⟩; (conv => whnf)))
  all_goals
    refine ⟨m, hk, ?_, rfl⟩
    change Value.bool _ = Value.bool _
    refine congrArg Value.bool ?_
    rw [hF]
    clear hF
  all_goals first
    | (simp_all [withinF, boundsF]; done)
    | (simp_all [withinF, boundsF]; omega)
    | (simp [withinF, boundsF]; omega)
theorem rfine_7 {m : Mem} {q : Prg} {k : Nat} {x y n mn mx s0 s1 s2 s3 : Int} (hq : q.at m) (hi : q.ins[k]? = some ⟨7, x, y, n, mn, mx, s0, s1, s2, s3⟩) (hn : q.ins.length ≤ 1048576) :
    FCalls Try.prog 40 [q.val, .int .i64 ((k : Nat) : Int)] m fun v m' => v = .bool (fineF q k) ∧ m' = m := by
  obtain ⟨p, hp, hc⟩ := ins_at hq hi
  have hlt := (List.getElem?_eq_some_iff.1 hi).1
  refine FCalls.less ?_
  refine fcalls_of_vc (T := tbl) (B := bodies) (pr := [99999, 2, 6]) (DR := dr40) (args := [.v q.val, .v (.int .i64 ((k : Nat) : Int))]) tbl_ok bodies_ok mixed Try.func40 rfl (by decide +kernel) (by simp [Try.f40]) rfl ?_
  (conv => whnf)
  refine ⟨p, hp, by omega, by omega, ?_⟩
  (conv => whnf)
  refine ⟨_, hc 0 _ rfl, ?_⟩
  (conv => whnf)
  refine ⟨_, hc 1 _ rfl, ?_⟩
  (conv => whnf)
  refine ⟨_, hc 2 _ rfl, ?_⟩
  (conv => whnf)
  refine ⟨_, hc 3 _ rfl, ?_⟩
  (conv => whnf)
  refine ⟨_, hc 4 _ rfl, ?_⟩
  (conv => whnf)
  refine ⟨_, hc 5 _ rfl, ?_⟩
  (conv => whnf)
  refine ⟨_, hc 6 _ rfl, ?_⟩
  (conv => whnf)
  refine ⟨_, hc 7 _ rfl, ?_⟩
  (conv => whnf)
  refine ⟨_, hc 8 _ rfl, ?_⟩
  (conv => whnf)
  refine ⟨_, hc 9 _ rfl, ?_⟩
  (conv => whnf)
  intro b5 m2 hb he
  have h := (Sep.init m).new' (l := (tbl.at 46).zero.list) hb he
  clear hb he
  (conv => whnf)
  refine ⟨h.rooms 0 (i := 0) rfl (by decide), fun m3 he => ?_⟩
  replace h := he ▸ h.putAll 0 (i := 0) (Ins.cells ⟨7, x, y, n, mn, mx, s0, s1, s2, s3⟩) rfl
  clear he
  have k0 := h.cell 0 (i := 0) rfl rfl
  have k1 := h.cell 0 (i := 1) rfl rfl
  have k2 := h.cell 0 (i := 2) rfl rfl
  have k3 := h.cell 0 (i := 3) rfl rfl
  have k4 := h.cell 0 (i := 4) rfl rfl
  have k5 := h.cell 0 (i := 5) rfl rfl
  have ka : ∀ j, j < 4 → m3.cell (((⟨b5, 0, none⟩ : Addr).add 6).add j) = some (.int .u64 ([s0, s1, s2, s3].getD j 0)) := fun j hj => by
    have : j = 0 ∨ j = 1 ∨ j = 2 ∨ j = 3 := by omega
    rcases this with rfl | rfl | rfl | rfl
    · exact h.cell 0 (i := 6) rfl rfl
    · exact h.cell 0 (i := 7) rfl rfl
    · exact h.cell 0 (i := 8) rfl rfl
    · exact h.cell 0 (i := 9) rfl rfl
  have hk := h.kept 1 rfl
  clear h
  (conv => whnf)
  refine ⟨_, k0, ?_⟩
  (conv => whnf)
  refine FCalls.mono (rof1 (u := ⟨false, false, false, true, false, true⟩) rfl (d := false) rfl) ?_
  rintro v m' ⟨rfl, rfl⟩
  have hF : fineF q k = ((false || decide (s0 = 0 ∧ s1 = 0 ∧ s2 = 0 ∧ s3 = 0)) && withinF false x q.ins.length && withinF false y q.ins.length && withinF true n q.groups && boundsF ⟨7, x, y, n, mn, mx, s0, s1, s2, s3⟩ && (!true || decide (k + 1 < q.ins.length))) := by
    unfold fineF
    rw [hi]
    rfl
  clear hc hp
  have hw : IntKind.i64.wrap (((q.ins.length : Nat) : Int) - 1) = ((q.ins.length : Nat) : Int) - 1 := wrap_id (by omega) (by omega)
  (conv => whnf)
  repeat' (first
    | (refine brk_true ?h ?_; (case h => first | rfl | (simp <;> omega)); (conv => whnf))
    | (refine brk_false ?h ?_; (case h => first | rfl | (simp <;> omega)); (conv => whnf))
    | (refine brk_intro (fun c => ?_) (fun c => ?_) <;> (simp at c) <;> (conv => whnf))
    | (refine ⟨_, k0, ?_⟩; (conv => whnf))
    | (refine ⟨_, k1, ?_⟩; (conv => whnf))
    | (refine ⟨_, k2, ?_⟩; (conv => whnf))
    | (refine ⟨_, k3, ?_⟩; (conv => whnf))
    | (refine ⟨_, k4, ?_⟩; (conv => whnf))
    | (refine ⟨_, k5, ?_⟩; (conv => whnf))
    | (show ∃ xs : List Int, _; refine ⟨[s0, s1, s2, s3], rfl, ka, ?_⟩; (conv => whnf); refine ⟨rfl, rfl, ?_⟩; (conv => whnf)))
  all_goals
    refine ⟨m, hk, ?_, rfl⟩
    change Value.bool _ = Value.bool _
    refine congrArg Value.bool ?_
    rw [hF]
    clear hF
  all_goals first
    | (simp_all [withinF, boundsF]; done)
    | (simp_all [withinF, boundsF]; omega)
    | (simp [withinF, boundsF]; omega)
theorem rfine_8 {m : Mem} {q : Prg} {k : Nat} {x y n mn mx s0 s1 s2 s3 : Int} (hq : q.at m) (hi : q.ins[k]? = some ⟨8, x, y, n, mn, mx, s0, s1, s2, s3⟩) (hn : q.ins.length ≤ 1048576) :
    FCalls Try.prog 40 [q.val, .int .i64 ((k : Nat) : Int)] m fun v m' => v = .bool (fineF q k) ∧ m' = m := by
  obtain ⟨p, hp, hc⟩ := ins_at hq hi
  have hlt := (List.getElem?_eq_some_iff.1 hi).1
  refine FCalls.less ?_
  refine fcalls_of_vc (T := tbl) (B := bodies) (pr := [99999, 2, 6]) (DR := dr40) (args := [.v q.val, .v (.int .i64 ((k : Nat) : Int))]) tbl_ok bodies_ok mixed Try.func40 rfl (by decide +kernel) (by simp [Try.f40]) rfl ?_
  (conv => whnf)
  refine ⟨p, hp, by omega, by omega, ?_⟩
  (conv => whnf)
  refine ⟨_, hc 0 _ rfl, ?_⟩
  (conv => whnf)
  refine ⟨_, hc 1 _ rfl, ?_⟩
  (conv => whnf)
  refine ⟨_, hc 2 _ rfl, ?_⟩
  (conv => whnf)
  refine ⟨_, hc 3 _ rfl, ?_⟩
  (conv => whnf)
  refine ⟨_, hc 4 _ rfl, ?_⟩
  (conv => whnf)
  refine ⟨_, hc 5 _ rfl, ?_⟩
  (conv => whnf)
  refine ⟨_, hc 6 _ rfl, ?_⟩
  (conv => whnf)
  refine ⟨_, hc 7 _ rfl, ?_⟩
  (conv => whnf)
  refine ⟨_, hc 8 _ rfl, ?_⟩
  (conv => whnf)
  refine ⟨_, hc 9 _ rfl, ?_⟩
  (conv => whnf)
  intro b5 m2 hb he
  have h := (Sep.init m).new' (l := (tbl.at 46).zero.list) hb he
  clear hb he
  (conv => whnf)
  refine ⟨h.rooms 0 (i := 0) rfl (by decide), fun m3 he => ?_⟩
  replace h := he ▸ h.putAll 0 (i := 0) (Ins.cells ⟨8, x, y, n, mn, mx, s0, s1, s2, s3⟩) rfl
  clear he
  have k0 := h.cell 0 (i := 0) rfl rfl
  have k1 := h.cell 0 (i := 1) rfl rfl
  have k2 := h.cell 0 (i := 2) rfl rfl
  have k3 := h.cell 0 (i := 3) rfl rfl
  have k4 := h.cell 0 (i := 4) rfl rfl
  have k5 := h.cell 0 (i := 5) rfl rfl
  have ka : ∀ j, j < 4 → m3.cell (((⟨b5, 0, none⟩ : Addr).add 6).add j) = some (.int .u64 ([s0, s1, s2, s3].getD j 0)) := fun j hj => by
    have : j = 0 ∨ j = 1 ∨ j = 2 ∨ j = 3 := by omega
    rcases this with rfl | rfl | rfl | rfl
    · exact h.cell 0 (i := 6) rfl rfl
    · exact h.cell 0 (i := 7) rfl rfl
    · exact h.cell 0 (i := 8) rfl rfl
    · exact h.cell 0 (i := 9) rfl rfl
  have hk := h.kept 1 rfl
  clear h
  (conv => whnf)
  refine ⟨_, k0, ?_⟩
  (conv => whnf)
  refine FCalls.mono (rof1 (u := ⟨false, false, false, true, false, true⟩) rfl (d := false) rfl) ?_
  rintro v m' ⟨rfl, rfl⟩
  have hF : fineF q k = ((false || decide (s0 = 0 ∧ s1 = 0 ∧ s2 = 0 ∧ s3 = 0)) && withinF false x q.ins.length && withinF false y q.ins.length && withinF true n q.groups && boundsF ⟨8, x, y, n, mn, mx, s0, s1, s2, s3⟩ && (!true || decide (k + 1 < q.ins.length))) := by
    unfold fineF
    rw [hi]
    rfl
  clear hc hp
  have hw : IntKind.i64.wrap (((q.ins.length : Nat) : Int) - 1) = ((q.ins.length : Nat) : Int) - 1 := wrap_id (by omega) (by omega)
  (conv => whnf)
  repeat' (first
    | (refine brk_true ?h ?_; (case h => first | rfl | (simp <;> omega)); (conv => whnf))
    | (refine brk_false ?h ?_; (case h => first | rfl | (simp <;> omega)); (conv => whnf))
    | (refine brk_intro (fun c => ?_) (fun c => ?_) <;> (simp at c) <;> (conv => whnf))
    | (refine ⟨_, k0, ?_⟩; (conv => whnf))
    | (refine ⟨_, k1, ?_⟩; (conv => whnf))
    | (refine ⟨_, k2, ?_⟩; (conv => whnf))
    | (refine ⟨_, k3, ?_⟩; (conv => whnf))
    | (refine ⟨_, k4, ?_⟩; (conv => whnf))
    | (refine ⟨_, k5, ?_⟩; (conv => whnf))
    | (show ∃ xs : List Int, _; refine ⟨[s0, s1, s2, s3], rfl, ka, ?_⟩; (conv => whnf); refine ⟨rfl, rfl, ?_⟩; (conv => whnf)))
  all_goals
    refine ⟨m, hk, ?_, rfl⟩
    change Value.bool _ = Value.bool _
    refine congrArg Value.bool ?_
    rw [hF]
    clear hF
  all_goals first
    | (simp_all [withinF, boundsF]; done)
    | (simp_all [withinF, boundsF]; omega)
    | (simp [withinF, boundsF]; omega)
theorem rfine_9 {m : Mem} {q : Prg} {k : Nat} {x y n mn mx s0 s1 s2 s3 : Int} (hq : q.at m) (hi : q.ins[k]? = some ⟨9, x, y, n, mn, mx, s0, s1, s2, s3⟩) (hn : q.ins.length ≤ 1048576) :
    FCalls Try.prog 40 [q.val, .int .i64 ((k : Nat) : Int)] m fun v m' => v = .bool (fineF q k) ∧ m' = m := by
  obtain ⟨p, hp, hc⟩ := ins_at hq hi
  have hlt := (List.getElem?_eq_some_iff.1 hi).1
  refine FCalls.less ?_
  refine fcalls_of_vc (T := tbl) (B := bodies) (pr := [99999, 2, 6]) (DR := dr40) (args := [.v q.val, .v (.int .i64 ((k : Nat) : Int))]) tbl_ok bodies_ok mixed Try.func40 rfl (by decide +kernel) (by simp [Try.f40]) rfl ?_
  (conv => whnf)
  refine ⟨p, hp, by omega, by omega, ?_⟩
  (conv => whnf)
  refine ⟨_, hc 0 _ rfl, ?_⟩
  (conv => whnf)
  refine ⟨_, hc 1 _ rfl, ?_⟩
  (conv => whnf)
  refine ⟨_, hc 2 _ rfl, ?_⟩
  (conv => whnf)
  refine ⟨_, hc 3 _ rfl, ?_⟩
  (conv => whnf)
  refine ⟨_, hc 4 _ rfl, ?_⟩
  (conv => whnf)
  refine ⟨_, hc 5 _ rfl, ?_⟩
  (conv => whnf)
  refine ⟨_, hc 6 _ rfl, ?_⟩
  (conv => whnf)
  refine ⟨_, hc 7 _ rfl, ?_⟩
  (conv => whnf)
  refine ⟨_, hc 8 _ rfl, ?_⟩
  (conv => whnf)
  refine ⟨_, hc 9 _ rfl, ?_⟩
  (conv => whnf)
  intro b5 m2 hb he
  have h := (Sep.init m).new' (l := (tbl.at 46).zero.list) hb he
  clear hb he
  (conv => whnf)
  refine ⟨h.rooms 0 (i := 0) rfl (by decide), fun m3 he => ?_⟩
  replace h := he ▸ h.putAll 0 (i := 0) (Ins.cells ⟨9, x, y, n, mn, mx, s0, s1, s2, s3⟩) rfl
  clear he
  have k0 := h.cell 0 (i := 0) rfl rfl
  have k1 := h.cell 0 (i := 1) rfl rfl
  have k2 := h.cell 0 (i := 2) rfl rfl
  have k3 := h.cell 0 (i := 3) rfl rfl
  have k4 := h.cell 0 (i := 4) rfl rfl
  have k5 := h.cell 0 (i := 5) rfl rfl
  have ka : ∀ j, j < 4 → m3.cell (((⟨b5, 0, none⟩ : Addr).add 6).add j) = some (.int .u64 ([s0, s1, s2, s3].getD j 0)) := fun j hj => by
    have : j = 0 ∨ j = 1 ∨ j = 2 ∨ j = 3 := by omega
    rcases this with rfl | rfl | rfl | rfl
    · exact h.cell 0 (i := 6) rfl rfl
    · exact h.cell 0 (i := 7) rfl rfl
    · exact h.cell 0 (i := 8) rfl rfl
    · exact h.cell 0 (i := 9) rfl rfl
  have hk := h.kept 1 rfl
  clear h
  (conv => whnf)
  refine ⟨_, k0, ?_⟩
  (conv => whnf)
  refine FCalls.mono (rof1 (u := ⟨false, false, false, false, true, true⟩) rfl (d := false) rfl) ?_
  rintro v m' ⟨rfl, rfl⟩
  have hF : fineF q k = ((false || decide (s0 = 0 ∧ s1 = 0 ∧ s2 = 0 ∧ s3 = 0)) && withinF false x q.ins.length && withinF false y q.ins.length && withinF true n q.counters && boundsF ⟨9, x, y, n, mn, mx, s0, s1, s2, s3⟩ && (!true || decide (k + 1 < q.ins.length))) := by
    unfold fineF
    rw [hi]
    rfl
  clear hc hp
  have hw : IntKind.i64.wrap (((q.ins.length : Nat) : Int) - 1) = ((q.ins.length : Nat) : Int) - 1 := wrap_id (by omega) (by omega)
  (conv => whnf)
  repeat' (first
    | (refine brk_true ?h ?_; (case h => first | rfl | (simp <;> omega)); (conv => whnf))
    | (refine brk_false ?h ?_; (case h => first | rfl | (simp <;> omega)); (conv => whnf))
    | (refine brk_intro (fun c => ?_) (fun c => ?_) <;> (simp at c) <;> (conv => whnf))
    | (refine ⟨_, k0, ?_⟩; (conv => whnf))
    | (refine ⟨_, k1, ?_⟩; (conv => whnf))
    | (refine ⟨_, k2, ?_⟩; (conv => whnf))
    | (refine ⟨_, k3, ?_⟩; (conv => whnf))
    | (refine ⟨_, k4, ?_⟩; (conv => whnf))
    | (refine ⟨_, k5, ?_⟩; (conv => whnf))
    | (show ∃ xs : List Int, _; refine ⟨[s0, s1, s2, s3], rfl, ka, ?_⟩; (conv => whnf); refine ⟨rfl, rfl, ?_⟩; (conv => whnf)))
  all_goals
    refine ⟨m, hk, ?_, rfl⟩
    change Value.bool _ = Value.bool _
    refine congrArg Value.bool ?_
    rw [hF]
    clear hF
  all_goals first
    | (simp_all [withinF, boundsF]; done)
    | (simp_all [withinF, boundsF]; omega)
    | (simp [withinF, boundsF]; omega)
theorem rfine_10 {m : Mem} {q : Prg} {k : Nat} {x y n mn mx s0 s1 s2 s3 : Int} (hq : q.at m) (hi : q.ins[k]? = some ⟨10, x, y, n, mn, mx, s0, s1, s2, s3⟩) (hn : q.ins.length ≤ 1048576) :
    FCalls Try.prog 40 [q.val, .int .i64 ((k : Nat) : Int)] m fun v m' => v = .bool (fineF q k) ∧ m' = m := by
  obtain ⟨p, hp, hc⟩ := ins_at hq hi
  have hlt := (List.getElem?_eq_some_iff.1 hi).1
  refine FCalls.less ?_
  refine fcalls_of_vc (T := tbl) (B := bodies) (pr := [99999, 2, 6]) (DR := dr40) (args := [.v q.val, .v (.int .i64 ((k : Nat) : Int))]) tbl_ok bodies_ok mixed Try.func40 rfl (by decide +kernel) (by simp [Try.f40]) rfl ?_
  (conv => whnf)
  refine ⟨p, hp, by omega, by omega, ?_⟩
  (conv => whnf)
  refine ⟨_, hc 0 _ rfl, ?_⟩
  (conv => whnf)
  refine ⟨_, hc 1 _ rfl, ?_⟩
  (conv => whnf)
  refine ⟨_, hc 2 _ rfl, ?_⟩
  (conv => whnf)
  refine ⟨_, hc 3 _ rfl, ?_⟩
  (conv => whnf)
  refine ⟨_, hc 4 _ rfl, ?_⟩
  (conv => whnf)
  refine ⟨_, hc 5 _ rfl, ?_⟩
  (conv => whnf)
  refine ⟨_, hc 6 _ rfl, ?_⟩
  (conv => whnf)
  refine ⟨_, hc 7 _ rfl, ?_⟩
  (conv => whnf)
  refine ⟨_, hc 8 _ rfl, ?_⟩
  (conv => whnf)
  refine ⟨_, hc 9 _ rfl, ?_⟩
  (conv => whnf)
  intro b5 m2 hb he
  have h := (Sep.init m).new' (l := (tbl.at 46).zero.list) hb he
  clear hb he
  (conv => whnf)
  refine ⟨h.rooms 0 (i := 0) rfl (by decide), fun m3 he => ?_⟩
  replace h := he ▸ h.putAll 0 (i := 0) (Ins.cells ⟨10, x, y, n, mn, mx, s0, s1, s2, s3⟩) rfl
  clear he
  have k0 := h.cell 0 (i := 0) rfl rfl
  have k1 := h.cell 0 (i := 1) rfl rfl
  have k2 := h.cell 0 (i := 2) rfl rfl
  have k3 := h.cell 0 (i := 3) rfl rfl
  have k4 := h.cell 0 (i := 4) rfl rfl
  have k5 := h.cell 0 (i := 5) rfl rfl
  have ka : ∀ j, j < 4 → m3.cell (((⟨b5, 0, none⟩ : Addr).add 6).add j) = some (.int .u64 ([s0, s1, s2, s3].getD j 0)) := fun j hj => by
    have : j = 0 ∨ j = 1 ∨ j = 2 ∨ j = 3 := by omega
    rcases this with rfl | rfl | rfl | rfl
    · exact h.cell 0 (i := 6) rfl rfl
    · exact h.cell 0 (i := 7) rfl rfl
    · exact h.cell 0 (i := 8) rfl rfl
    · exact h.cell 0 (i := 9) rfl rfl
  have hk := h.kept 1 rfl
  clear h
  (conv => whnf)
  refine ⟨_, k0, ?_⟩
  (conv => whnf)
  refine FCalls.mono (rof1 (u := ⟨false, true, true, false, true, false⟩) rfl (d := true) rfl) ?_
  rintro v m' ⟨rfl, rfl⟩
  have hF : fineF q k = ((false || decide (s0 = 0 ∧ s1 = 0 ∧ s2 = 0 ∧ s3 = 0)) && withinF true x q.ins.length && withinF true y q.ins.length && withinF true n q.counters && boundsF ⟨10, x, y, n, mn, mx, s0, s1, s2, s3⟩ && (!false || decide (k + 1 < q.ins.length))) := by
    unfold fineF
    rw [hi]
    rfl
  clear hc hp
  have hw : IntKind.i64.wrap (((q.ins.length : Nat) : Int) - 1) = ((q.ins.length : Nat) : Int) - 1 := wrap_id (by omega) (by omega)
  (conv => whnf)
  repeat' (first
    | (refine brk_true ?h ?_; (case h => first | rfl | (simp <;> omega)); (conv => whnf))
    | (refine brk_false ?h ?_; (case h => first | rfl | (simp <;> omega)); (conv => whnf))
    | (refine brk_intro (fun c => ?_) (fun c => ?_) <;> (simp at c) <;> (conv => whnf))
    | (refine ⟨_, k0, ?_⟩; (conv => whnf))
    | (refine ⟨_, k1, ?_⟩; (conv => whnf))
    | (refine ⟨_, k2, ?_⟩; (conv => whnf))
    | (refine ⟨_, k3, ?_⟩; (conv => whnf))
    | (refine ⟨_, k4, ?_⟩; (conv => whnf))
    | (refine ⟨_, k5, ?_⟩; (conv => whnf))
    | (show ∃ xs : List Int, _; refine ⟨[s0, s1, s2, s3], rfl, ka, ?_⟩; (conv => whnf); refine ⟨rfl, rfl, ?_⟩; (conv => whnf)))
  all_goals
    refine ⟨m, hk, ?_, rfl⟩
    change Value.bool _ = Value.bool _
    refine congrArg Value.bool ?_
    rw [hF]
    clear hF
  all_goals first
    | (simp_all [withinF, boundsF]; done)
    | (simp_all [withinF, boundsF]; omega)
    | (simp [withinF, boundsF]; omega)
theorem rfine_11 {m : Mem} {q : Prg} {k : Nat} {x y n mn mx s0 s1 s2 s3 : Int} (hq : q.at m) (hi : q.ins[k]? = some ⟨11, x, y, n, mn, mx, s0, s1, s2, s3⟩) (hn : q.ins.length ≤ 1048576) :
    FCalls Try.prog 40 [q.val, .int .i64 ((k : Nat) : Int)] m fun v m' => v = .bool (fineF q k) ∧ m' = m := by
  obtain ⟨p, hp, hc⟩ := ins_at hq hi
  have hlt := (List.getElem?_eq_some_iff.1 hi).1
  refine FCalls.less ?_
  refine fcalls_of_vc (T := tbl) (B := bodies) (pr := [99999, 2, 6]) (DR := dr40) (args := [.v q.val, .v (.int .i64 ((k : Nat) : Int))]) tbl_ok bodies_ok mixed Try.func40 rfl (by decide +kernel) (by simp [Try.f40]) rfl ?_
  (conv => whnf)
  refine ⟨p, hp, by omega, by omega, ?_⟩
  (conv => whnf)
  refine ⟨_, hc 0 _ rfl, ?_⟩
  (conv => whnf)
  refine ⟨_, hc 1 _ rfl, ?_⟩
  (conv => whnf)
  refine ⟨_, hc 2 _ rfl, ?_⟩
  (conv => whnf)
  refine ⟨_, hc 3 _ rfl, ?_⟩
  (conv => whnf)
  refine ⟨_, hc 4 _ rfl, ?_⟩
  (conv => whnf)
  refine ⟨_, hc 5 _ rfl, ?_⟩
  (conv => whnf)
  refine ⟨_, hc 6 _ rfl, ?_⟩
  (conv => whnf)
  refine ⟨_, hc 7 _ rfl, ?_⟩
  (conv => whnf)
  refine ⟨_, hc 8 _ rfl, ?_⟩
  (conv => whnf)
  refine ⟨_, hc 9 _ rfl, ?_⟩
  (conv => whnf)
  intro b5 m2 hb he
  have h := (Sep.init m).new' (l := (tbl.at 46).zero.list) hb he
  clear hb he
  (conv => whnf)
  refine ⟨h.rooms 0 (i := 0) rfl (by decide), fun m3 he => ?_⟩
  replace h := he ▸ h.putAll 0 (i := 0) (Ins.cells ⟨11, x, y, n, mn, mx, s0, s1, s2, s3⟩) rfl
  clear he
  have k0 := h.cell 0 (i := 0) rfl rfl
  have k1 := h.cell 0 (i := 1) rfl rfl
  have k2 := h.cell 0 (i := 2) rfl rfl
  have k3 := h.cell 0 (i := 3) rfl rfl
  have k4 := h.cell 0 (i := 4) rfl rfl
  have k5 := h.cell 0 (i := 5) rfl rfl
  have ka : ∀ j, j < 4 → m3.cell (((⟨b5, 0, none⟩ : Addr).add 6).add j) = some (.int .u64 ([s0, s1, s2, s3].getD j 0)) := fun j hj => by
    have : j = 0 ∨ j = 1 ∨ j = 2 ∨ j = 3 := by omega
    rcases this with rfl | rfl | rfl | rfl
    · exact h.cell 0 (i := 6) rfl rfl
    · exact h.cell 0 (i := 7) rfl rfl
    · exact h.cell 0 (i := 8) rfl rfl
    · exact h.cell 0 (i := 9) rfl rfl
  have hk := h.kept 1 rfl
  clear h
  (conv => whnf)
  refine ⟨_, k0, ?_⟩
  (conv => whnf)
  refine FCalls.mono (rof1 (u := ⟨false, false, false, false, false, false⟩) rfl (d := false) rfl) ?_
  rintro v m' ⟨rfl, rfl⟩
  have hF : fineF q k = ((false || decide (s0 = 0 ∧ s1 = 0 ∧ s2 = 0 ∧ s3 = 0)) && withinF false x q.ins.length && withinF false y q.ins.length && withinF false n q.groups && boundsF ⟨11, x, y, n, mn, mx, s0, s1, s2, s3⟩ && (!false || decide (k + 1 < q.ins.length))) := by
    unfold fineF
    rw [hi]
    rfl
  clear hc hp
  have hw : IntKind.i64.wrap (((q.ins.length : Nat) : Int) - 1) = ((q.ins.length : Nat) : Int) - 1 := wrap_id (by omega) (by omega)
  (conv => whnf)
  repeat' (first
    | (refine brk_true ?h ?_; (case h => first | rfl | (simp <;> omega)); (conv => whnf))
    | (refine brk_false ?h ?_; (case h => first | rfl | (simp <;> omega)); (conv => whnf))
    | (refine brk_intro (fun c => ?_) (fun c => ?_) <;> (simp at c) <;> (conv => whnf))
    | (refine ⟨_, k0, ?_⟩; (conv => whnf))
    | (refine ⟨_, k1, ?_⟩; (conv => whnf))
    | (refine ⟨_, k2, ?_⟩; (conv => whnf))
    | (refine ⟨_, k3, ?_⟩; (conv => whnf))
    | (refine ⟨_, k4, ?_⟩; (conv => whnf))
    | (refine ⟨_, k5, ?_⟩; (conv => whnf))
    | (show ∃ xs : List Int, _; refine ⟨[s0, s1, s2, s3], rfl, ka, ?_⟩; (conv => whnf); refine ⟨rfl, rfl, ?_⟩; (conv => whnf)))
  all_goals
    refine ⟨m, hk, ?_, rfl⟩
    change Value.bool _ = Value.bool _
    refine congrArg Value.bool ?_
    rw [hF]
    clear hF
  all_goals first
    | (simp_all [withinF, boundsF]; done)
    | (simp_all [withinF, boundsF]; omega)
    | (simp [withinF, boundsF]; omega)
theorem rfine_0 {m : Mem} {q : Prg} {k : Nat} {op x y n mn mx s0 s1 s2 s3 : Int} (hq : q.at m) (hi : q.ins[k]? = some ⟨op, x, y, n, mn, mx, s0, s1, s2, s3⟩) (hn : q.ins.length ≤ 1048576) (hu : usesOf op = none) :
    FCalls Try.prog 40 [q.val, .int .i64 ((k : Nat) : Int)] m fun v m' => v = .bool (fineF q k) ∧ m' = m := by
  obtain ⟨p, hp, hc⟩ := ins_at hq hi
  have hlt := (List.getElem?_eq_some_iff.1 hi).1
  refine FCalls.less ?_
  refine fcalls_of_vc (T := tbl) (B := bodies) (pr := [99999, 2, 6]) (DR := dr40) (args := [.v q.val, .v (.int .i64 ((k : Nat) : Int))]) tbl_ok bodies_ok mixed Try.func40 rfl (by decide +kernel) (by simp [Try.f40]) rfl ?_
  (conv => whnf)
  refine ⟨p, hp, by omega, by omega, ?_⟩
  (conv => whnf)
  refine ⟨_, hc 0 _ rfl, ?_⟩
  (conv => whnf)
  refine ⟨_, hc 1 _ rfl, ?_⟩
  (conv => whnf)
  refine ⟨_, hc 2 _ rfl, ?_⟩
  (conv => whnf)
  refine ⟨_, hc 3 _ rfl, ?_⟩
  (conv => whnf)
  refine ⟨_, hc 4 _ rfl, ?_⟩
  (conv => whnf)
  refine ⟨_, hc 5 _ rfl, ?_⟩
  (conv => whnf)
  refine ⟨_, hc 6 _ rfl, ?_⟩
  (conv => whnf)
  refine ⟨_, hc 7 _ rfl, ?_⟩
  (conv => whnf)
  refine ⟨_, hc 8 _ rfl, ?_⟩
  (conv => whnf)
  refine ⟨_, hc 9 _ rfl, ?_⟩
  (conv => whnf)
  intro b5 m2 hb he
  have h := (Sep.init m).new' (l := (tbl.at 46).zero.list) hb he
  clear hb he
  (conv => whnf)
  refine ⟨h.rooms 0 (i := 0) rfl (by decide), fun m3 he => ?_⟩
  replace h := he ▸ h.putAll 0 (i := 0) (Ins.cells ⟨op, x, y, n, mn, mx, s0, s1, s2, s3⟩) rfl
  clear he
  have k0 := h.cell 0 (i := 0) rfl rfl
  have k1 := h.cell 0 (i := 1) rfl rfl
  have k2 := h.cell 0 (i := 2) rfl rfl
  have k3 := h.cell 0 (i := 3) rfl rfl
  have k4 := h.cell 0 (i := 4) rfl rfl
  have k5 := h.cell 0 (i := 5) rfl rfl
  have ka : ∀ j, j < 4 → m3.cell (((⟨b5, 0, none⟩ : Addr).add 6).add j) = some (.int .u64 ([s0, s1, s2, s3].getD j 0)) := fun j hj => by
    have : j = 0 ∨ j = 1 ∨ j = 2 ∨ j = 3 := by omega
    rcases this with rfl | rfl | rfl | rfl
    · exact h.cell 0 (i := 6) rfl rfl
    · exact h.cell 0 (i := 7) rfl rfl
    · exact h.cell 0 (i := 8) rfl rfl
    · exact h.cell 0 (i := 9) rfl rfl
  have hk := h.kept 1 rfl
  clear h
  (conv => whnf)
  refine ⟨_, k0, ?_⟩
  (conv => whnf)
  refine FCalls.mono (rof0 hu) ?_
  rintro v m' ⟨⟨d, rfl⟩, rfl⟩
  have hF : fineF q k = false := by
    unfold fineF
    rw [hi]
    show (match usesOf op with | none => false | some u => _) = false
    rw [hu]
  (conv => whnf)
  exact ⟨m, hk, by rw [hF]; rfl, rfl⟩
theorem rfine_c {m : Mem} {q : Prg} {k : Nat} {i : Ins} (hq : q.at m) (hi : q.ins[k]? = some i) (hn : q.ins.length ≤ 1048576) :
    FCalls Try.prog 40 [q.val, .int .i64 ((k : Nat) : Int)] m fun v m' => v = .bool (fineF q k) ∧ m' = m := by
  obtain ⟨op, x, y, n, mn, mx, s0, s1, s2, s3⟩ := i
  rcases usesOf_ways op with rfl | rfl | rfl | rfl | rfl | rfl | rfl | rfl | rfl | rfl | rfl | hu
  · exact rfine_1 hq hi hn
  · exact rfine_2 hq hi hn
  · exact rfine_3 hq hi hn
  · exact rfine_4 hq hi hn
  · exact rfine_5 hq hi hn
  · exact rfine_6 hq hi hn
  · exact rfine_7 hq hi hn
  · exact rfine_8 hq hi hn
  · exact rfine_9 hq hi hn
  · exact rfine_10 hq hi hn
  · exact rfine_11 hq hi hn
  · exact rfine_0 hq hi hn hu
end Go.Proofs.Ytkkcdfnlmhmheaa
/- Dfa: the plain law: sets of instructions, what an automaton of them tells of a line. -/
namespace Go.Proofs.Ytkkcdfnlmhmheaa
open Go Go.Mv
set_option maxHeartbeats 1000000
set_option linter.unusedVariables false
set_option linter.unusedSimpArgs false
/-- An automaton's program: how many instructions, where one leads to (the line begins here, ends here), which match, which read a byte, and of these: is a byte in the set. -/
structure Au where
  n : Nat
  sc : Bool → Bool → Nat → List Nat
  isM : Nat → Bool
  isB : Nat → Bool
  hs : Nat → Nat → Bool
/-- All that some lead to. -/
inductive Rch (A : Au) (f l : Bool) (S : List Nat) : Nat → Prop
  | base {k : Nat} (h : k ∈ S) : Rch A f l S k
  | step {k j : Nat} (h : Rch A f l S k) (hj : j ∈ A.sc f l k) : Rch A f l S j
theorem Rch.mono {A : Au} {f f' l l' : Bool} {S S' : List Nat} {k : Nat} (h : Rch A f l S k) (hS : ∀ x, x ∈ S → Rch A f' l' S' x) (hs : ∀ x y, Rch A f' l' S' x → y ∈ A.sc f l x → y ∈ A.sc f' l' x) : Rch A f' l' S' k := by
  induction h with
  | base h => exact hS _ h
  | step _ hj ih => exact .step ih (hs _ _ ih hj)
/-- What a state is. -/
structure Sta where
  reads : List Nat
  mt : Bool
  ae : Bool
  aw : Bool
def Sta.dead (s : Sta) : Bool := s.reads.isEmpty && !s.mt && !s.ae && !s.aw
section
open Classical
noncomputable def rds (A : Au) (f l : Bool) (S : List Nat) : List Nat := (List.range A.n).filter fun k => decide (Rch A f l S k) && A.isB k
noncomputable def mts (A : Au) (f l : Bool) (S : List Nat) : Bool := decide (∃ k, Rch A f l S k ∧ A.isM k = true)
end
noncomputable def sta (A : Au) (S : List Nat) (f aw : Bool) : Sta := ⟨rds A f false S, mts A f false S, mts A f true S, aw⟩
def aNxt (A : Au) (s : Sta) (c : Nat) : List Nat := (s.reads.filter fun k => A.hs k c).map (· + 1) ++ (if s.aw then [0] else [])
noncomputable def trs (A : Au) (s : Sta) (c : Nat) : Sta := sta A (aNxt A s c) false s.aw
/-- Where it tells. -/
noncomputable def plays (A : Au) : Sta → List Nat → Nat → List Nat
  | s, [], at' => if s.mt || s.ae then [at'] else []
  | s, c :: r, at' => (if s.mt then [at'] else []) ++ plays A (trs A s c) r (at' + 1)
theorem mem_rds {A : Au} {f l : Bool} {S : List Nat} {k : Nat} : k ∈ rds A f l S ↔ k < A.n ∧ Rch A f l S k ∧ A.isB k = true := by
  unfold rds
  simp
theorem mts_iff {A : Au} {f l : Bool} {S : List Nat} : mts A f l S = true ↔ ∃ k, Rch A f l S k ∧ A.isM k = true := by
  unfold mts
  simp
theorem Rch.nil {A : Au} {f l : Bool} {k : Nat} (h : Rch A f l [] k) : False := by
  induction h with
  | base h => cases h
  | step _ _ ih => exact ih
theorem sta_nil {A : Au} {f : Bool} : sta A [] f false = ⟨[], false, false, false⟩ := by
  have h1 : rds A f false [] = [] := by
    apply List.eq_nil_iff_forall_not_mem.2
    intro k hk
    exact (mem_rds.1 hk).2.1.nil
  have h2 : ∀ l, mts A f l [] = false := fun l => by
    cases h : mts A f l [] with
    | false => rfl
    | true =>
      obtain ⟨k, hk, _⟩ := mts_iff.1 h
      exact hk.nil.elim
  unfold sta
  rw [h1, h2, h2]
theorem dead_eq {s : Sta} (h : s.dead = true) : s = ⟨[], false, false, false⟩ := by
  obtain ⟨r, a, b, c⟩ := s
  unfold Sta.dead at h
  cases r <;> cases a <;> cases b <;> cases c <;> first | rfl | cases h
theorem trs_dead {A : Au} {s : Sta} {c : Nat} (h : s.dead = true) : (trs A s c).dead = true := by
  rw [dead_eq h]
  unfold trs aNxt
  show (sta A ([] ++ []) false false).dead = true
  rw [List.append_nil, sta_nil]
  rfl
theorem plays_dead {A : Au} : ∀ {r : List Nat} {s : Sta} {at' : Nat}, s.dead = true → plays A s r at' = []
  | [], s, at', h => by rw [dead_eq h]; rfl
  | c :: r, s, at', h => by
    unfold plays
    rw [plays_dead (trs_dead h), dead_eq h]
    rfl
/-- One has all that the other has. -/
structure Sta.le (s t : Sta) : Prop where
  reads : ∀ k, k ∈ s.reads → k ∈ t.reads
  mt : s.mt = true → t.mt = true
  ae : s.ae = true → t.ae = true
  aw : s.aw = true → t.aw = true
theorem sta_le {A : Au} {S T : List Nat} {f a b : Bool} (h : ∀ k, k ∈ S → k ∈ T) (hab : a = true → b = true) : (sta A S f a).le (sta A T f b) := by
  have hr : ∀ l k, Rch A f l S k → Rch A f l T k := fun l k hk => hk.mono (fun x hx => .base (h x hx)) fun x y _ hy => hy
  refine ⟨fun k hk => ?_, fun hm => ?_, fun hm => ?_, hab⟩
  · obtain ⟨h1, h2, h3⟩ := mem_rds.1 hk
    exact mem_rds.2 ⟨h1, hr _ _ h2, h3⟩
  · obtain ⟨k, h1, h2⟩ := mts_iff.1 hm
    exact mts_iff.2 ⟨k, hr _ _ h1, h2⟩
  · obtain ⟨k, h1, h2⟩ := mts_iff.1 hm
    exact mts_iff.2 ⟨k, hr _ _ h1, h2⟩
theorem aNxt_le {A : Au} {s t : Sta} {c : Nat} (h : s.le t) : ∀ k, k ∈ aNxt A s c → k ∈ aNxt A t c := by
  intro k hk
  unfold aNxt at hk ⊢
  rw [List.mem_append] at hk ⊢
  rcases hk with hk | hk
  · left
    obtain ⟨x, hx, rfl⟩ := List.mem_map.1 hk
    obtain ⟨h1, h2⟩ := List.mem_filter.1 hx
    exact List.mem_map.2 ⟨x, List.mem_filter.2 ⟨h.reads x h1, h2⟩, rfl⟩
  · right
    split at hk
    · rename_i ha
      rw [if_pos (h.aw ha)]
      exact hk
    · cases hk
theorem trs_le {A : Au} {s t : Sta} {c : Nat} (h : s.le t) : (trs A s c).le (trs A t c) := sta_le (aNxt_le h) h.aw
theorem plays_le {A : Au} : ∀ {r : List Nat} {s t : Sta} {at' : Nat}, s.le t → ∀ x, x ∈ plays A s r at' → x ∈ plays A t r at'
  | [], s, t, at', h, x, hx => by
    unfold plays at hx ⊢
    split at hx
    · rename_i hc
      rw [if_pos]
      · exact hx
      · simp only [Bool.or_eq_true] at hc ⊢
        exact hc.imp h.mt h.ae
    · cases hx
  | c :: r, s, t, at', h, x, hx => by
    unfold plays at hx ⊢
    rw [List.mem_append] at hx ⊢
    rcases hx with hx | hx
    · left
      split at hx
      · rename_i hc
        rw [if_pos (h.mt hc)]
        exact hx
      · cases hx
    · exact .inr (plays_le (trs_le h) x hx)
theorem plays_ge {A : Au} : ∀ {r : List Nat} {s : Sta} {at' : Nat} (x : Nat), x ∈ plays A s r at' → at' ≤ x ∧ x ≤ at' + r.length
  | [], s, at', x, hx => by
    unfold plays at hx
    split at hx
    · rw [List.mem_singleton] at hx
      simp [hx]
    · cases hx
  | c :: r, s, at', x, hx => by
    unfold plays at hx
    rw [List.mem_append] at hx
    rcases hx with hx | hx
    · split at hx
      · rw [List.mem_singleton] at hx
        simp [hx]
      · cases hx
    · have := plays_ge x hx
      simp only [List.length_cons]
      omega
theorem plays_up {A : Au} : ∀ {r : List Nat} {s : Sta} {at' : Nat}, (plays A s r at').Pairwise (· < ·)
  | [], s, at' => by
    unfold plays
    split <;> simp
  | c :: r, s, at' => by
    unfold plays
    rw [List.pairwise_append]
    refine ⟨by split <;> simp, plays_up, fun x hx y hy => ?_⟩
    have := plays_ge y hy
    split at hx
    · rw [List.mem_singleton] at hx
      omega
    · cases hx
theorem plays_off {A : Au} {k : Nat} : ∀ {r : List Nat} {s : Sta} {at' : Nat}, plays A s r (at' + k) = (plays A s r at').map (· + k)
  | [], s, at' => by
    unfold plays
    split <;> simp
  | c :: r, s, at' => by
    unfold plays
    rw [List.map_append, ← plays_off, show at' + k + 1 = at' + 1 + k by omega]
    split <;> simp
theorem sta_first {A : Au} {S : List Nat} {f f' aw : Bool} (h : ∀ l k, A.sc f l k = A.sc f' l k) : sta A S f aw = sta A S f' aw := by
  have hr : ∀ l k, Rch A f l S k ↔ Rch A f' l S k := fun l k =>
    ⟨fun hk => hk.mono (fun x hx => .base hx) fun x y _ hy => by rw [← h]; exact hy, fun hk => hk.mono (fun x hx => .base hx) fun x y _ hy => by rw [h]; exact hy⟩
  have h1 : ∀ l, mts A f l S = mts A f' l S := fun l => by
    rw [Bool.eq_iff_iff, mts_iff, mts_iff]
    exact ⟨fun ⟨k, h1, h2⟩ => ⟨k, (hr l k).1 h1, h2⟩, fun ⟨k, h1, h2⟩ => ⟨k, (hr l k).2 h1, h2⟩⟩
  have h2 : rds A f false S = rds A f' false S := by
    unfold rds
    refine List.filter_congr fun x hx => ?_
    rw [Bool.eq_iff_iff]
    simp [hr]
  unfold sta
  rw [h1, h1, h2]
end Go.Proofs.Ytkkcdfnlmhmheaa
/- Dfa: the head of an automaton; come. -/
namespace Go.Proofs.Ytkkcdfnlmhmheaa
open Go Go.Mv
set_option maxHeartbeats 1000000
set_option maxRecDepth 10000
set_option linter.unusedVariables false
set_option linter.unusedSimpArgs false
attribute [local irreducible] FCalls IntKind.wrap bits Mem.set Mem.setCell Mem.setCells YCalls RunP NextP RunU
def bitOf (i : Ins) (c : Nat) : Bool := decide (([i.s0, i.s1, i.s2, i.s3].getD (c / 64) 0).fdiv (2 ^ (c % 64)) % 2 = 1)
def auOf (q : Prg) : Au where
  n := q.ins.length
  sc f l k := match q.ins[k]? with
    | none => []
    | some i => if i.op = 2 then [i.x.toNat, i.y.toNat] else if i.op = 3 then [i.x.toNat] else if i.op = 4 then (if f then [k + 1] else []) else if i.op = 5 then (if l then [k + 1] else []) else if i.op = 6 ∨ i.op = 7 then [k + 1] else []
  isM k := match q.ins[k]? with
    | none => false
    | some i => decide (i.op = 11)
  isB k := match q.ins[k]? with
    | none => false
    | some i => decide (i.op = 1)
  hs k c := match q.ins[k]? with
    | none => false
    | some i => bitOf i c
structure GoodP (q : Prg) : Prop where
  n0 : 0 < q.ins.length
  n1 : q.ins.length ≤ 40000
  ok : ∀ k, k < q.ins.length → fineF q k = true
theorem good_of {q : Prg} (h : rightF q = (0, 0)) : GoodP q := by
  unfold rightF at h
  split at h
  · cases h
  · split at h
    · cases h
    · split at h
      · cases h
      · split at h
        · cases h
        · rename_i h1 h2 h3 h4
          refine ⟨by omega, by omega, fun k hk => ?_⟩
          unfold wrongF at h4
          rw [List.find?_range_eq_none] at h4
          have := h4 k hk
          simpa using this
/-- Where an instruction leads to, there is one. -/
theorem fine_x {q : Prg} {k : Nat} {i : Ins} (hf : fineF q k = true) (hi : q.ins[k]? = some i) :
    (i.op = 2 → 0 ≤ i.x ∧ i.x < q.ins.length ∧ 0 ≤ i.y ∧ i.y < q.ins.length) ∧ (i.op = 3 → 0 ≤ i.x ∧ i.x < q.ins.length) ∧ (i.op = 1 ∨ i.op = 4 ∨ i.op = 5 ∨ i.op = 6 ∨ i.op = 7 → k + 1 < q.ins.length) := by
  unfold fineF at hf
  rw [hi] at hf
  simp only at hf
  refine ⟨fun h => ?_, fun h => ?_, fun h => ?_⟩
  · rw [show usesOf i.op = some ⟨false, true, true, false, false, false⟩ by rw [h]; rfl] at hf
    simp [withinF] at hf
    omega
  · rw [show usesOf i.op = some ⟨false, true, false, false, false, false⟩ by rw [h]; rfl] at hf
    simp [withinF] at hf
    omega
  · have : ∃ u, usesOf i.op = some u ∧ u.n = true := by
      rcases h with h | h | h | h | h <;> (rw [h]; exact ⟨_, rfl, rfl⟩)
    obtain ⟨u, hu, hn⟩ := this
    rw [hu] at hf
    simp [hn] at hf
    omega
theorem sc_lt {q : Prg} (hg : GoodP q) {f l : Bool} {k j : Nat} (hj : j ∈ (auOf q).sc f l k) : j < q.ins.length := by
  unfold auOf at hj
  simp only at hj
  cases hi : q.ins[k]? with
  | none => rw [hi] at hj; cases hj
  | some i =>
    rw [hi] at hj
    simp only at hj
    obtain ⟨h1, h2, h3⟩ := fine_x (hg.ok k (List.getElem?_eq_some_iff.1 hi).1) hi
    split at hj
    · rename_i c
      have := h1 c
      simp only [List.mem_cons, List.not_mem_nil, or_false] at hj
      omega
    · split at hj
      · rename_i c
        have := h2 c
        simp only [List.mem_cons, List.not_mem_nil, or_false] at hj
        omega
      · split at hj
        · have := h3 (by omega)
          split at hj
          · simp only [List.mem_cons, List.not_mem_nil, or_false] at hj
            omega
          · cases hj
        · split at hj
          · have := h3 (by omega)
            split at hj
            · simp only [List.mem_cons, List.not_mem_nil, or_false] at hj
              omega
            · cases hj
          · split at hj
            · have := h3 (by omega)
              simp only [List.mem_cons, List.not_mem_nil, or_false] at hj
              omega
            · cases hj
theorem sc_two {q : Prg} {f l : Bool} {k : Nat} : ((auOf q).sc f l k).length ≤ 2 := by
  unfold auOf
  simp only
  repeat' split
  all_goals simp
theorem rch_lt {q : Prg} (hg : GoodP q) {f l : Bool} {S : List Nat} (hS : ∀ k, k ∈ S → k < q.ins.length) {k : Nat} (h : Rch (auOf q) f l S k) : k < q.ins.length := by
  induction h with
  | base h => exact hS _ h
  | step _ hj _ => exact sc_lt hg hj
/-- While come runs: t waits. -/
structure Cm (A : Au) (f l : Bool) (set0 : List Nat) (k : Nat) (set t : List Nat) : Prop where
  on : ∀ x, x ∈ set → ∀ y, y ∈ A.sc f l x → y ∈ set ∨ y ∈ t
  from' : ∀ x, x ∈ set ∨ x ∈ t → x ∈ set0 ∨ Rch A f l [k] x
  sub : ∀ x, x ∈ set0 → x ∈ set
  me : k ∈ set ∨ k ∈ t
  lt : ∀ x, x ∈ t → x < A.n
  many : t.length + set0.length ≤ 1 + set.length
theorem Cm.init {A : Au} {f l : Bool} {set0 : List Nat} {k : Nat} (hk : k < A.n) (h : ∀ x, x ∈ set0 → ∀ y, y ∈ A.sc f l x → y ∈ set0) : Cm A f l set0 k set0 [k] :=
  ⟨fun x hx y hy => .inl (h x hx y hy), fun x hx => hx.imp id fun h => .base h, fun x hx => hx, .inr (List.mem_singleton.2 rfl), fun x hx => by rw [List.mem_singleton] at hx; omega, by simp⟩
theorem Cm.skip {A : Au} {f l : Bool} {set0 set t : List Nat} {k x : Nat} (h : Cm A f l set0 k set (t ++ [x])) (hx : x ∈ set) : Cm A f l set0 k set t := by
  have hi : ∀ y, y ∈ set ∨ y ∈ t ++ [x] → y ∈ set ∨ y ∈ t := fun y hy => by
    rcases hy with hy | hy
    · exact .inl hy
    · rw [List.mem_append, List.mem_singleton] at hy
      rcases hy with hy | rfl
      · exact .inr hy
      · exact .inl hx
  refine ⟨fun a ha y hy => hi _ (h.on a ha y hy), fun a ha => h.from' a (ha.imp id fun h => List.mem_append_left _ h), h.sub, hi _ h.me, fun a ha => h.lt a (List.mem_append_left _ ha), ?_⟩
  have := h.many
  rw [List.length_append] at this
  simp at this
  omega
theorem Cm.put {A : Au} {f l : Bool} {set0 set t : List Nat} {k x : Nat} (h : Cm A f l set0 k set (t ++ [x])) (hn : x ∉ set) (hs : ∀ y, y ∈ A.sc f l x → y < A.n) (h2 : (A.sc f l x).length ≤ 2) : Cm A f l set0 k (set ++ [x]) (t ++ A.sc f l x) := by
  have hx := h.from' x (.inr (by simp))
  have hi : ∀ y, y ∈ set ∨ y ∈ t ++ [x] → y ∈ set ++ [x] ∨ y ∈ t ++ A.sc f l x := fun y hy => by
    simp only [List.mem_append, List.mem_singleton] at hy ⊢
    rcases hy with hy | hy | hy
    · exact .inl (.inl hy)
    · exact .inr (.inl hy)
    · exact .inl (.inr hy)
  refine ⟨fun a ha y hy => ?_, fun a ha => ?_, fun a ha => List.mem_append_left _ (h.sub a ha), hi _ h.me, fun a ha => ?_, ?_⟩
  · rcases List.mem_append.1 ha with ha | ha
    · exact hi _ (h.on a ha y hy)
    · rw [List.mem_singleton] at ha
      subst ha
      exact .inr (List.mem_append_right _ hy)
  · simp only [List.mem_append, List.mem_singleton] at ha
    rcases ha with (ha | rfl) | ha | ha
    · exact h.from' a (.inl ha)
    · exact hx
    · exact h.from' a (.inr (List.mem_append_left _ ha))
    · exact .inr (.step (hx.resolve_left fun h0 => hn (h.sub x h0)) ha)
  · rcases List.mem_append.1 ha with ha | ha
    · exact h.lt a (List.mem_append_left _ ha)
    · exact hs a ha
  · have := h.many
    simp only [List.length_append, List.length_singleton] at this ⊢
    omega
theorem Cm.done {A : Au} {f l : Bool} {set0 set : List Nat} {k : Nat} (h : Cm A f l set0 k set []) : (∀ x, x ∈ set ↔ x ∈ set0 ∨ Rch A f l [k] x) ∧ ∀ x, x ∈ set → ∀ y, y ∈ A.sc f l x → y ∈ set := by
  have hc : ∀ x, x ∈ set → ∀ y, y ∈ A.sc f l x → y ∈ set := fun x hx y hy => (h.on x hx y hy).resolve_right (by simp)
  refine ⟨fun x => ⟨fun hx => h.from' x (.inl hx), fun hx => ?_⟩, hc⟩
  rcases hx with hx | hx
  · exact h.sub x hx
  · induction hx with
    | base hx =>
      rw [List.mem_singleton] at hx
      rw [hx]
      exact h.me.resolve_right (by simp)
    | step _ hj ih => exact hc _ ih _ hj
/-- The head of an automaton. -/
structure Dh where
  q : Prg
  room : Int
  sA : Option Addr
  sn : Nat
  sc : Nat
  nb : Nat
  mv : Nat
  st : Nat
  tA : Option Addr
  tn : Nat
  tc : Nat
  steps : Nat
  flushes : Nat
def w64 (n : Nat) : Value := .int .i64 (IntKind.i64.wrap ((n : Nat) : Int))
def Dh.cells (h : Dh) : List Value := [.slice h.q.A h.q.ins.length h.q.c, .int .i64 h.q.groups, .int .i64 h.q.counters, .bool h.q.fold, .int .i64 h.room, .slice h.sA h.sn h.sc, .map (some h.nb), .pointer (some ⟨h.mv, 0, none⟩), .pointer (some ⟨h.st, 0, none⟩), .slice h.tA h.tn h.tc, w64 h.steps, w64 h.flushes]
theorem wrap_step {n : Nat} : IntKind.i64.wrap (IntKind.i64.wrap ((n : Nat) : Int) + 1) = IntKind.i64.wrap ((n + 1 : Nat) : Int) := by
  simp only [IntKind.wrap_i64]
  omega
def nv (l : List Nat) : List Value := l.map fun x => .int .i64 ((x : Nat) : Int)
theorem nv_len (l : List Nat) : (nv l).length = l.length * 1 := by simp [nv]
theorem nv_app (l r : List Nat) : nv (l ++ r) = nv l ++ nv r := by simp [nv]
theorem nv_get {l : List Nat} {i x : Nat} (h : l[i]? = some x) : (nv l)[i]? = some (.int .i64 ((x : Nat) : Int)) := by simp [nv, h]
end Go.Proofs.Ytkkcdfnlmhmheaa
/- Dfa: come. -/
namespace Go.Proofs.Ytkkcdfnlmhmheaa
open Go Go.Mv
set_option maxHeartbeats 1000000
set_option maxRecDepth 10000
set_option linter.unusedVariables false
set_option linter.unusedSimpArgs false
attribute [local irreducible] FCalls IntKind.wrap bits Mem.set Mem.setCell Mem.setCells YCalls RunP NextP RunU
def Dh.todo (h : Dh) (A : Option Addr) (n c s : Nat) : Dh := { h with tA := A, tn := n, tc := c, steps := s }
theorem sl_lo0 {A : Option Addr} {n c sz : Nat} {vs : List Value} {m : Mem} (h : sl A n c sz vs m) {k : Nat} (hk : k ≤ n) : sl (if c = Int.toNat 0 then A else Option.map (fun p => p.add (Int.toNat 0 * sz)) A) k c sz (vs.take (k * sz)) m := by
  rw [slice_lo0]
  exact sl_cut h hk
theorem put_n {m : Mem} {p room x : Nat} {l : List Nat} (h : Mk.mk p room l m) (hx : x < room) : FCalls Try.prog 71 [.pointer (some ⟨p, 0, none⟩), .int .i64 ((x : Nat) : Int)] m fun v m' => (x ∈ l ∧ v = .bool false ∧ Mk.mk p room l m') ∨ (x ∉ l ∧ v = .bool true ∧ Mk.mk p room (l ++ [x]) m') :=
  (Mk.put_s h ((x : Nat) : Int)).mono fun v m' ⟨h1, h2⟩ => by
    unfold Mk.putL at h2
    by_cases hin : x ∈ l
    · left
      rw [if_neg (by simp [hin])] at h2
      exact ⟨hin, by rw [h1]; simp [hin], h2⟩
    · right
      rw [if_pos (by simp [hin]; omega)] at h2
      refine ⟨hin, by rw [h1]; simp [hin]; omega, by simpa using h2⟩
theorem come_c {m K : Mem} {R : List Asn} {d k : Nat} {h : Dh} {set : List Nat} {td : List Value} {f l : Bool} (hS : Sep (pt d h.cells :: Mk.mk h.st h.q.ins.length set :: sl h.tA h.tn h.tc 1 td :: kp K :: R) m) (hq : h.q.at K) (hg : GoodP h.q) (hk : k < h.q.ins.length) (hcl : ∀ x, x ∈ set → ∀ y, y ∈ (auOf h.q).sc f l x → y ∈ set) :
    FCalls Try.prog 65 [.pointer (some ⟨d, 0, none⟩), .int .i64 ((k : Nat) : Int), .bool f, .bool l] m fun v m' => v = .tuple #[] ∧ ∃ set' A c,
      Sep (pt d (h.todo A 0 c (h.steps + (set'.length - set.length))).cells :: Mk.mk h.st h.q.ins.length set' :: sl A 0 c 1 [] :: kp K :: R) m' ∧ Cm (auOf h.q) f l set k set' [] ∧ set.length ≤ set'.length := by
  have hn1 := hg.n1
  refine fcalls_of_vc (T := tbl) (B := bodies) (pr := [99999]) (DR := dr65) (args := [.v (.pointer (some ⟨d, 0, none⟩)), .v (.int .i64 ((k : Nat) : Int)), .v (.bool f), .v (.bool l)]) tbl_ok bodies_ok mixed Try.func65 rfl (by decide +kernel) (by simp [Try.f65]) rfl ?_
  (conv => whnf)
  refine ⟨_, _, _, hS.cell 0 (i := 9) rfl rfl, ?_⟩
  (conv => whnf)
  refine ⟨by omega, by omega, by omega, ?_⟩
  replace hS : Sep (pt d h.cells :: Mk.mk h.st h.q.ins.length set :: sl (if h.tc = Int.toNat 0 then h.tA else Option.map (fun p => p.add (Int.toNat 0 * (tbl.at 3).size)) h.tA) 0 h.tc (tbl.at 3).size [] :: kp K :: R) m := hS.turn 2 rfl fun m1 _ g => by
    have := sl_lo0 g (Nat.zero_le _)
    rw [Nat.zero_mul, List.take_zero] at this
    exact this
  (conv => whnf)
  intro nb m2 hb he
  replace hS := hS.new' (l := nv [k]) hb he
  have hBn : m2.holds ⟨nb, 0, none⟩ (nv [k]) := (hS.blk 0 rfl).holds fun k v hk => by rw [Nat.zero_add]; exact hk
  clear hb he
  (conv => whnf)
  obtain ⟨ok, hR⟩ := hS.app 3 (T := tbl) (e := 3) (news := nv [k]) (k := 1) (B := some ⟨nb, 0, none⟩) rfl rfl (.inr ⟨_, rfl, hBn⟩) rfl rfl (by decide) rfl
  refine ⟨_, _, ok, fun A' c' m3 hr => ?_⟩
  replace hS := (hR _ _ _ hr).drop 0
  clear ok hR hr hBn
  (conv => whnf)
  refine ⟨hS.room 0 (i := 9) rfl rfl, fun m4 he => ?_⟩
  replace hS := hS.put' 0 he rfl
  clear he
  (conv => whnf)
  refine loop_keep [0, 2, 3] (List Nat × Option Addr × Nat × List Nat × Mem) (fun _ => []) (fun _ => []) (fun s => s.2.2.2.2)
    (fun s => Sep (pt d (h.todo s.2.1 s.1.length s.2.2.1 (h.steps + (s.2.2.2.1.length - set.length))).cells :: Mk.mk h.st h.q.ins.length s.2.2.2.1 :: sl s.2.1 s.1.length s.2.2.1 1 (nv s.1) :: kp K :: R) s.2.2.2.2 ∧ Cm (auOf h.q) f l set k s.2.2.2.1 s.1 ∧ set.length ≤ s.2.2.2.1.length)
    (fun s => 3 * (h.q.ins.length - s.2.2.2.1.length) + s.1.length) ([k], A', c', set, m4) trivial rfl rfl ⟨by rw [Nat.sub_self]; exact hS, Cm.init hk hcl, Nat.le_refl _⟩ ?_
  clear hS
  (conv => whnf)
  refine ⟨rfl, ?_⟩
  rintro ⟨td, A, c, set', M⟩ ⟨hS, hC, hle⟩
  simp only at hS hC hle
  obtain ⟨sm1, sm2, sm3⟩ := Mk.mk_small (Mk.mk_at hS 1 rfl)
  (conv => whnf)
  refine ⟨_, _, _, hS.cell 0 (i := 9) rfl rfl, ?_⟩
  (conv => whnf)
  refine brk_intro (fun c1 => ?_) (fun c1 => ?_)
  rotate_left
  · have c1 : td = [] := by
      have : ¬ (0 : Int) < ((td.length : Nat) : Int) := of_decide_eq_false c1
      exact List.length_eq_zero_iff.1 (by omega)
    subst c1
    (conv => whnf)
    exact ⟨rfl, set', A, c, hS, hC, hle⟩
  have c1 : (0 : Int) < ((td.length : Nat) : Int) := of_decide_eq_true c1
  obtain ⟨t, x, rfl⟩ : ∃ t x, td = t ++ [x] := ⟨_, _, (List.dropLast_concat_getLast (l := td) (by rintro rfl; simp at c1)).symm⟩
  clear c1
  have hx : x < h.q.ins.length := hC.lt x (by simp)
  have hlt : (t ++ [x]).length = t.length + 1 := by simp
  have hmany : t.length + set.length ≤ set'.length := by
    have := hC.many
    omega
  have e1 : IntKind.i64.wrap (((t ++ [x]).length : Nat) - 1) = ((t.length : Nat) : Int) := by rw [hlt, wrap_id (by omega) (by omega)]; omega
  obtain ⟨p, hp, hcx⟩ := (hS.rd 2 rfl).at (nv_get (l := t ++ [x]) (i := t.length) (x := x) (by simp))
  (conv => whnf)
  refine ⟨_, _, _, hS.cell 0 (i := 9) rfl rfl, ?_⟩
  (conv => whnf)
  refine ⟨_, _, _, hS.cell 0 (i := 9) rfl rfl, ?_⟩
  (conv => whnf)
  refine ⟨p, hp, by show 0 ≤ IntKind.i64.wrap (((t ++ [x]).length : Nat) - 1); rw [e1]; omega, by show IntKind.i64.wrap (((t ++ [x]).length : Nat) - 1) < (((t ++ [x]).length : Nat) : Int); rw [e1]; omega, ?_⟩
  (conv => whnf)
  refine ⟨_, by show M.cell (p.add ((IntKind.i64.wrap (((t ++ [x]).length : Nat) - 1)).toNat * 1)) = _; rw [e1, Int.toNat_natCast, Nat.mul_one]; exact hcx, ?_⟩
  (conv => whnf)
  refine ⟨_, _, _, hS.cell 0 (i := 9) rfl rfl, ?_⟩
  (conv => whnf)
  refine ⟨_, _, _, hS.cell 0 (i := 9) rfl rfl, ?_⟩
  (conv => whnf)
  refine ⟨by omega, by show 0 ≤ IntKind.i64.wrap (((t ++ [x]).length : Nat) - 1); rw [e1]; omega, by show IntKind.i64.wrap (((t ++ [x]).length : Nat) - 1) ≤ ((c : Nat) : Int); rw [e1]; have := (hS.asn 2 rfl).2.1; omega, ?_⟩
  (conv => whnf)
  refine ⟨hS.room 0 (i := 9) rfl rfl, fun m5 he => ?_⟩
  have ev : (Value.slice (if c = Int.toNat 0 then A else Option.map (fun p => p.add (Int.toNat 0 * (tbl.at 3).size)) A) ((IntKind.i64.wrap (((t ++ [x]).length : Nat) - 1)).toNat - Int.toNat 0) (c - Int.toNat 0)) = .slice A t.length c := by rw [e1, slice_lo0]; rfl
  replace he : m5 = M.setCell ⟨d, 9, none⟩ (.slice A t.length c) := he.trans (congrArg (fun v => M.setCell ⟨d, 9, none⟩ v) ev)
  replace hS := hS.put' 0 he rfl
  clear he ev
  replace hS : Sep (pt d (h.todo A t.length c (h.steps + (set'.length - set.length))).cells :: Mk.mk h.st h.q.ins.length set' :: sl A t.length c 1 (nv t) :: kp K :: R) m5 := hS.turn 2 rfl fun m1 _ g => by
    have := sl_cut g (k := t.length) (by omega)
    rw [nv_app, Nat.mul_one, List.take_left' (by simp [nv])] at this
    exact this
  (conv => whnf)
  refine ⟨_, hS.cell 0 (i := 8) rfl rfl, ?_⟩
  (conv => whnf)
  refine FCalls.mono (hS.call 1 rfl fun m1 h1 => put_n h1 hx) ?_
  rintro v m6 ⟨m7, ⟨hin, rfl, h1⟩ | ⟨hin, rfl, h1⟩, h2⟩
  · replace hS : Sep (pt d (h.todo A t.length c (h.steps + (set'.length - set.length))).cells :: Mk.mk h.st h.q.ins.length set' :: sl A t.length c 1 (nv t) :: kp K :: R) m6 := (h2.one h1).move 1 rfl
    (conv => whnf)
    refine ⟨(t, A, c, set', m6), le_eq ⟨rfl, rfl, rfl, trivial⟩ rfl rfl rfl, ⟨hS, hC.skip hin, hle⟩, by simp⟩
  replace hS : Sep (pt d (h.todo A t.length c (h.steps + (set'.length - set.length))).cells :: Mk.mk h.st h.q.ins.length (set' ++ [x]) :: sl A t.length c 1 (nv t) :: kp K :: R) m6 := (h2.one h1).move 1 rfl
  clear h1 h2
  obtain ⟨sm4, sm5, sm6⟩ := Mk.mk_small (Mk.mk_at hS 1 rfl)
  have hlen : (set' ++ [x]).length = set'.length + 1 := by simp
  replace hC := hC.put hin (fun y hy => sc_lt hg hy) sc_two
  (conv => whnf)
  refine ⟨_, hS.cell 0 (i := 10) rfl rfl, ?_⟩
  (conv => whnf)
  refine ⟨hS.room 0 (i := 10) rfl rfl, fun m8 he => ?_⟩
  have ev : (Value.int .i64 (IntKind.i64.wrap (IntKind.i64.wrap (((h.steps + (set'.length - set.length) : Nat)) : Int) + 1))) = w64 (h.steps + ((set' ++ [x]).length - set.length)) := by rw [wrap_step, w64, hlen]; congr 3; omega
  replace he : m8 = m6.setCell ⟨d, 10, none⟩ (w64 (h.steps + ((set' ++ [x]).length - set.length))) := he.trans (congrArg (fun v => m6.setCell ⟨d, 10, none⟩ v) ev)
  replace hS := hS.put' 0 he rfl
  clear he ev
  replace hS : Sep (pt d (h.todo A t.length c (h.steps + ((set' ++ [x]).length - set.length))).cells :: Mk.mk h.st h.q.ins.length (set' ++ [x]) :: sl A t.length c 1 (nv t) :: kp K :: R) m8 := hS
  obtain ⟨i, hi⟩ : ∃ i, h.q.ins[x]? = some i := ⟨_, List.getElem?_eq_getElem hx⟩
  obtain ⟨pi, hpi, hci⟩ := ins_at (hq.more (hS.kept 3 rfl)) hi
  (conv => whnf)
  refine ⟨_, _, _, hS.cell 0 (i := 0) rfl rfl, ?_⟩
  (conv => whnf)
  refine ⟨pi, hpi, by omega, by show ((x : Nat) : Int) < ((h.q.ins.length : Nat) : Int); omega, ?_⟩
  (conv => whnf)
  refine ⟨_, hci 0 _ rfl, ?_⟩
  (conv => whnf)
  refine ⟨_, hci 1 _ rfl, ?_⟩
  (conv => whnf)
  refine ⟨_, hci 2 _ rfl, ?_⟩
  (conv => whnf)
  refine ⟨_, hci 3 _ rfl, ?_⟩
  (conv => whnf)
  refine ⟨_, hci 4 _ rfl, ?_⟩
  (conv => whnf)
  refine ⟨_, hci 5 _ rfl, ?_⟩
  (conv => whnf)
  refine ⟨_, hci 6 _ rfl, ?_⟩
  (conv => whnf)
  refine ⟨_, hci 7 _ rfl, ?_⟩
  (conv => whnf)
  refine ⟨_, hci 8 _ rfl, ?_⟩
  (conv => whnf)
  refine ⟨_, hci 9 _ rfl, ?_⟩
  clear hci hpi
  (conv => whnf)
  intro bi m9 hb he
  replace hS := hS.new' (l := (tbl.at 46).zero.list) hb he
  clear hb he
  (conv => whnf)
  refine ⟨hS.rooms 0 (i := 0) rfl (by decide), fun m10 he => ?_⟩
  replace hS : Sep (pt bi i.cells :: pt d (h.todo A t.length c (h.steps + ((set' ++ [x]).length - set.length))).cells :: Mk.mk h.st h.q.ins.length (set' ++ [x]) :: sl A t.length c 1 (nv t) :: kp K :: R) m10 := he ▸ hS.putAll 0 (i := 0) i.cells rfl
  clear he
  (conv => whnf)
  refine ⟨_, hS.cell 0 (i := 0) rfl rfl, ?_⟩
  (conv => whnf)
  have step1 : IntKind.i64.wrap ((x : Int) + 1) = ((x + 1 : Nat) : Int) := wrap_id (by omega) (by omega)
  have ex1 : nv [x + 1] = [.int .i64 (IntKind.i64.wrap ((x : Int) + 1))] := by rw [step1]; rfl
  obtain ⟨f1, f2, f3⟩ := fine_x (hg.ok x hx) hi
  have hsc0 : (auOf h.q).sc f l x = if i.op = 2 then [i.x.toNat, i.y.toNat] else if i.op = 3 then [i.x.toNat] else if i.op = 4 then (if f then [x + 1] else []) else if i.op = 5 then (if l then [x + 1] else []) else if i.op = 6 ∨ i.op = 7 then [x + 1] else [] := by
    unfold auOf
    simp only [hi]
  refine brk_intro (fun c2 => ?_) (fun c2 => ?_)
  · have c2 : i.op = 2 := by simpa using c2
    have hsc : (auOf h.q).sc f l x = [i.x.toNat, i.y.toNat] := by rw [hsc0, if_pos c2]
    have ex : nv [i.x.toNat, i.y.toNat] = [.int .i64 i.x, .int .i64 i.y] := by
      show [Value.int .i64 ((i.x.toNat : Nat) : Int), Value.int .i64 ((i.y.toNat : Nat) : Int)] = _
      rw [Int.toNat_of_nonneg (f1 c2).1, Int.toNat_of_nonneg (f1 c2).2.2.1]
    (conv => whnf)
    refine ⟨_, _, _, hS.cell 1 (i := 9) rfl rfl, ?_⟩
    (conv => whnf)
    refine ⟨_, hS.cell 0 (i := 1) rfl rfl, ?_⟩
    (conv => whnf)
    refine ⟨_, hS.cell 0 (i := 2) rfl rfl, ?_⟩
    (conv => whnf)
    intro nb m11 hb he
    replace hS := hS.new' (l := [.int .i64 i.x, .int .i64 i.y]) hb he
    rw [← ex] at hS
    have hBn : m11.holds ⟨nb, 0, none⟩ (nv [i.x.toNat, i.y.toNat]) := (hS.blk 0 rfl).holds fun k v hk => by rw [Nat.zero_add]; exact hk
    clear hb he
    (conv => whnf)
    obtain ⟨ok, hR⟩ := hS.app 4 (T := tbl) (e := 3) (news := nv [i.x.toNat, i.y.toNat]) (k := 2) (B := some ⟨nb, 0, none⟩) rfl rfl (.inr ⟨_, rfl, hBn⟩) rfl rfl (by show 2 * (t.length + _) * 8 ≤ 2 ^ 48; omega) rfl
    refine ⟨_, _, ok, fun A' c' m12 hr => ?_⟩
    replace hS := ((hR _ _ _ hr).drop 0).drop 0
    clear ok hR hr hBn
    (conv => whnf)
    refine ⟨hS.room 0 (i := 9) rfl rfl, fun m13 he => ?_⟩
    replace hS := hS.put' 0 he rfl
    clear he
    (conv => whnf)
    exact ⟨(t ++ [i.x.toNat, i.y.toNat], A', c', set' ++ [x], m13), le_eq ⟨rfl, rfl, rfl, trivial⟩ rfl rfl rfl, ⟨by dsimp only; rw [nv_app, List.length_append]; exact hS, hsc ▸ hC, by simp only; omega⟩, by simp only [List.length_append, List.length_cons, List.length_nil] at sm5 ⊢; omega⟩
  have c2 : i.op ≠ 2 := by simpa using c2
  rw [if_neg c2] at hsc0
  (conv => whnf)
  refine brk_intro (fun c3 => ?_) (fun c3 => ?_)
  · have c3 : i.op = 3 := by simpa using c3
    have hsc : (auOf h.q).sc f l x = [i.x.toNat] := by rw [hsc0, if_pos c3]
    have ex : nv [i.x.toNat] = [.int .i64 i.x] := by
      show [Value.int .i64 ((i.x.toNat : Nat) : Int)] = _
      rw [Int.toNat_of_nonneg (f2 c3).1]
    (conv => whnf)
    refine ⟨_, _, _, hS.cell 1 (i := 9) rfl rfl, ?_⟩
    (conv => whnf)
    refine ⟨_, hS.cell 0 (i := 1) rfl rfl, ?_⟩
    (conv => whnf)
    intro nb m11 hb he
    replace hS := hS.new' (l := [.int .i64 i.x]) hb he
    rw [← ex] at hS
    have hBn : m11.holds ⟨nb, 0, none⟩ (nv [i.x.toNat]) := (hS.blk 0 rfl).holds fun k v hk => by rw [Nat.zero_add]; exact hk
    clear hb he
    (conv => whnf)
    obtain ⟨ok, hR⟩ := hS.app 4 (T := tbl) (e := 3) (news := nv [i.x.toNat]) (k := 1) (B := some ⟨nb, 0, none⟩) rfl rfl (.inr ⟨_, rfl, hBn⟩) rfl rfl (by show 2 * (t.length + _) * 8 ≤ 2 ^ 48; omega) rfl
    refine ⟨_, _, ok, fun A' c' m12 hr => ?_⟩
    replace hS := ((hR _ _ _ hr).drop 0).drop 0
    clear ok hR hr hBn
    (conv => whnf)
    refine ⟨hS.room 0 (i := 9) rfl rfl, fun m13 he => ?_⟩
    replace hS := hS.put' 0 he rfl
    clear he
    (conv => whnf)
    exact ⟨(t ++ [i.x.toNat], A', c', set' ++ [x], m13), le_eq ⟨rfl, rfl, rfl, trivial⟩ rfl rfl rfl, ⟨by dsimp only; rw [nv_app, List.length_append]; exact hS, hsc ▸ hC, by simp only; omega⟩, by simp only [List.length_append, List.length_cons, List.length_nil] at sm5 ⊢; omega⟩
  have c3 : i.op ≠ 3 := by simpa using c3
  rw [if_neg c3] at hsc0
  have ex := ex1
  (conv => whnf)
  refine brk_intro (fun c4 => ?_) (fun c4 => ?_)
  · have c4 : i.op = 4 := by simpa using c4
    rw [if_pos c4] at hsc0
    (conv => whnf)
    refine brk_intro (fun cf => ?_) (fun cf => ?_)
    · subst cf
      have hsc := hsc0.trans (if_pos rfl)
      (conv => whnf)
      refine ⟨_, _, _, hS.cell 1 (i := 9) rfl rfl, ?_⟩
      (conv => whnf)
      intro nb m11 hb he
      replace hS := hS.new' (l := [.int .i64 (IntKind.i64.wrap ((x : Int) + 1))]) hb he
      rw [← ex] at hS
      have hBn : m11.holds ⟨nb, 0, none⟩ (nv [x + 1]) := (hS.blk 0 rfl).holds fun k v hk => by rw [Nat.zero_add]; exact hk
      clear hb he
      (conv => whnf)
      obtain ⟨ok, hR⟩ := hS.app 4 (T := tbl) (e := 3) (news := nv [x + 1]) (k := 1) (B := some ⟨nb, 0, none⟩) rfl rfl (.inr ⟨_, rfl, hBn⟩) rfl rfl (by show 2 * (t.length + _) * 8 ≤ 2 ^ 48; omega) rfl
      refine ⟨_, _, ok, fun A' c' m12 hr => ?_⟩
      replace hS := ((hR _ _ _ hr).drop 0).drop 0
      clear ok hR hr hBn
      (conv => whnf)
      refine ⟨hS.room 0 (i := 9) rfl rfl, fun m13 he => ?_⟩
      replace hS := hS.put' 0 he rfl
      clear he
      (conv => whnf)
      exact ⟨(t ++ [x + 1], A', c', set' ++ [x], m13), le_eq ⟨rfl, rfl, rfl, trivial⟩ rfl rfl rfl, ⟨by dsimp only; rw [nv_app, List.length_append]; exact hS, hsc ▸ hC, by simp only; omega⟩, by simp only [List.length_append, List.length_cons, List.length_nil] at sm5 ⊢; omega⟩
    · subst cf
      have hsc := hsc0.trans (if_neg (by simp))
      (conv => whnf)
      exact ⟨(t, A, c, set' ++ [x], m10), le_eq ⟨rfl, rfl, rfl, trivial⟩ rfl rfl rfl, ⟨hS.drop 0, by have := hsc ▸ hC; rwa [List.append_nil] at this, by simp only; omega⟩, by simp only [List.length_append, List.length_cons, List.length_nil] at sm5 ⊢; omega⟩
  have c4 : i.op ≠ 4 := by simpa using c4
  rw [if_neg c4] at hsc0
  (conv => whnf)
  refine brk_intro (fun c5 => ?_) (fun c5 => ?_)
  · have c5 : i.op = 5 := by simpa using c5
    rw [if_pos c5] at hsc0
    (conv => whnf)
    refine brk_intro (fun cf => ?_) (fun cf => ?_)
    · subst cf
      have hsc := hsc0.trans (if_pos rfl)
      (conv => whnf)
      refine ⟨_, _, _, hS.cell 1 (i := 9) rfl rfl, ?_⟩
      (conv => whnf)
      intro nb m11 hb he
      replace hS := hS.new' (l := [.int .i64 (IntKind.i64.wrap ((x : Int) + 1))]) hb he
      rw [← ex] at hS
      have hBn : m11.holds ⟨nb, 0, none⟩ (nv [x + 1]) := (hS.blk 0 rfl).holds fun k v hk => by rw [Nat.zero_add]; exact hk
      clear hb he
      (conv => whnf)
      obtain ⟨ok, hR⟩ := hS.app 4 (T := tbl) (e := 3) (news := nv [x + 1]) (k := 1) (B := some ⟨nb, 0, none⟩) rfl rfl (.inr ⟨_, rfl, hBn⟩) rfl rfl (by show 2 * (t.length + _) * 8 ≤ 2 ^ 48; omega) rfl
      refine ⟨_, _, ok, fun A' c' m12 hr => ?_⟩
      replace hS := ((hR _ _ _ hr).drop 0).drop 0
      clear ok hR hr hBn
      (conv => whnf)
      refine ⟨hS.room 0 (i := 9) rfl rfl, fun m13 he => ?_⟩
      replace hS := hS.put' 0 he rfl
      clear he
      (conv => whnf)
      exact ⟨(t ++ [x + 1], A', c', set' ++ [x], m13), le_eq ⟨rfl, rfl, rfl, trivial⟩ rfl rfl rfl, ⟨by dsimp only; rw [nv_app, List.length_append]; exact hS, hsc ▸ hC, by simp only; omega⟩, by simp only [List.length_append, List.length_cons, List.length_nil] at sm5 ⊢; omega⟩
    · subst cf
      have hsc := hsc0.trans (if_neg (by simp))
      (conv => whnf)
      exact ⟨(t, A, c, set' ++ [x], m10), le_eq ⟨rfl, rfl, rfl, trivial⟩ rfl rfl rfl, ⟨hS.drop 0, by have := hsc ▸ hC; rwa [List.append_nil] at this, by simp only; omega⟩, by simp only [List.length_append, List.length_cons, List.length_nil] at sm5 ⊢; omega⟩
  have c5 : i.op ≠ 5 := by simpa using c5
  rw [if_neg c5] at hsc0
  (conv => whnf)
  refine brk_intro (fun c6 => ?_) (fun c6 => ?_)
  · have c6 : i.op = 6 := by simpa using c6
    have hsc := hsc0.trans (if_pos (.inl c6))
    (conv => whnf)
    refine brk_true (by simpa using c6) ?_
    (conv => whnf)
    refine ⟨_, _, _, hS.cell 1 (i := 9) rfl rfl, ?_⟩
    (conv => whnf)
    intro nb m11 hb he
    replace hS := hS.new' (l := [.int .i64 (IntKind.i64.wrap ((x : Int) + 1))]) hb he
    rw [← ex] at hS
    have hBn : m11.holds ⟨nb, 0, none⟩ (nv [x + 1]) := (hS.blk 0 rfl).holds fun k v hk => by rw [Nat.zero_add]; exact hk
    clear hb he
    (conv => whnf)
    obtain ⟨ok, hR⟩ := hS.app 4 (T := tbl) (e := 3) (news := nv [x + 1]) (k := 1) (B := some ⟨nb, 0, none⟩) rfl rfl (.inr ⟨_, rfl, hBn⟩) rfl rfl (by show 2 * (t.length + _) * 8 ≤ 2 ^ 48; omega) rfl
    refine ⟨_, _, ok, fun A' c' m12 hr => ?_⟩
    replace hS := ((hR _ _ _ hr).drop 0).drop 0
    clear ok hR hr hBn
    (conv => whnf)
    refine ⟨hS.room 0 (i := 9) rfl rfl, fun m13 he => ?_⟩
    replace hS := hS.put' 0 he rfl
    clear he
    (conv => whnf)
    exact ⟨(t ++ [x + 1], A', c', set' ++ [x], m13), le_eq ⟨rfl, rfl, rfl, trivial⟩ rfl rfl rfl, ⟨by dsimp only; rw [nv_app, List.length_append]; exact hS, hsc ▸ hC, by simp only; omega⟩, by simp only [List.length_append, List.length_cons, List.length_nil] at sm5 ⊢; omega⟩
  have c6 : i.op ≠ 6 := by simpa using c6
  (conv => whnf)
  refine brk_intro (fun c7 => ?_) (fun c7 => ?_)
  · have c7 : i.op = 7 := by simpa using c7
    have hsc := hsc0.trans (if_pos (.inr c7))
    (conv => whnf)
    refine ⟨_, _, _, hS.cell 1 (i := 9) rfl rfl, ?_⟩
    (conv => whnf)
    intro nb m11 hb he
    replace hS := hS.new' (l := [.int .i64 (IntKind.i64.wrap ((x : Int) + 1))]) hb he
    rw [← ex] at hS
    have hBn : m11.holds ⟨nb, 0, none⟩ (nv [x + 1]) := (hS.blk 0 rfl).holds fun k v hk => by rw [Nat.zero_add]; exact hk
    clear hb he
    (conv => whnf)
    obtain ⟨ok, hR⟩ := hS.app 4 (T := tbl) (e := 3) (news := nv [x + 1]) (k := 1) (B := some ⟨nb, 0, none⟩) rfl rfl (.inr ⟨_, rfl, hBn⟩) rfl rfl (by show 2 * (t.length + _) * 8 ≤ 2 ^ 48; omega) rfl
    refine ⟨_, _, ok, fun A' c' m12 hr => ?_⟩
    replace hS := ((hR _ _ _ hr).drop 0).drop 0
    clear ok hR hr hBn
    (conv => whnf)
    refine ⟨hS.room 0 (i := 9) rfl rfl, fun m13 he => ?_⟩
    replace hS := hS.put' 0 he rfl
    clear he
    (conv => whnf)
    exact ⟨(t ++ [x + 1], A', c', set' ++ [x], m13), le_eq ⟨rfl, rfl, rfl, trivial⟩ rfl rfl rfl, ⟨by dsimp only; rw [nv_app, List.length_append]; exact hS, hsc ▸ hC, by simp only; omega⟩, by simp only [List.length_append, List.length_cons, List.length_nil] at sm5 ⊢; omega⟩
  have c7 : i.op ≠ 7 := by simpa using c7
  have hsc := hsc0.trans (if_neg (by omega))
  (conv => whnf)
  exact ⟨(t, A, c, set' ++ [x], m10), le_eq ⟨rfl, rfl, rfl, trivial⟩ rfl rfl rfl, ⟨hS.drop 0, by have := hsc ▸ hC; rwa [List.append_nil] at this, by simp only; omega⟩, by simp only [List.length_append, List.length_cons, List.length_nil] at sm5 ⊢; omega⟩
end Go.Proofs.Ytkkcdfnlmhmheaa
/- Dfa: closed. -/
namespace Go.Proofs.Ytkkcdfnlmhmheaa
open Go Go.Mv
set_option maxHeartbeats 1000000
set_option maxRecDepth 10000
set_option linter.unusedVariables false
set_option linter.unusedSimpArgs false
attribute [local irreducible] FCalls IntKind.wrap bits Mem.set Mem.setCell Mem.setCells YCalls RunP NextP RunU
theorem rch_take {A : Au} {f l : Bool} {S : List Nat} {i k x : Nat} (hk : S[i]? = some k) : Rch A f l (S.take (i + 1)) x ↔ Rch A f l (S.take i) x ∨ Rch A f l [k] x := by
  have he : S.take (i + 1) = S.take i ++ [k] := by rw [List.take_add_one, hk]; rfl
  constructor
  · intro h
    induction h with
    | base h =>
      rw [he, List.mem_append] at h
      exact h.imp .base .base
    | step _ hj ih => exact ih.imp (fun h => .step h hj) fun h => .step h hj
  · rintro (h | h)
    · exact h.mono (fun x hx => .base (by rw [he]; exact List.mem_append_left _ hx)) fun _ _ _ h => h
    · exact h.mono (fun x hx => .base (by rw [he]; exact List.mem_append_right _ hx)) fun _ _ _ h => h
theorem rdm {m : Mem} {A : Option Addr} {S : List Nat} {i k : Nat} (h : Rd m A (nv S)) (hk : S[i]? = some k) : ∃ p, A = some p ∧ m.cell (p.add i) = some (.int .i64 ((k : Nat) : Int)) := h.at (nv_get hk)
theorem closed_c {m K : Mem} {R : List Asn} {d : Nat} {h : Dh} {set : List Nat} {td : List Value} {f l : Bool} {S : List Nat} {A : Option Addr} {c : Nat} (hS : Sep (pt d h.cells :: Mk.mk h.st h.q.ins.length set :: sl h.tA h.tn h.tc 1 td :: kp K :: R) m) (hq : h.q.at K) (hg : GoodP h.q)
    (hI : ∀ M, Sep (kp K :: R) M → Rd M A (nv S)) (hlt : ∀ x, x ∈ S → x < h.q.ins.length) (hn : S.length < 4611686018427387904) :
    FCalls Try.prog 57 [.pointer (some ⟨d, 0, none⟩), .slice A S.length c, .bool f, .bool l] m fun v m' => v = .bool (mts (auOf h.q) f l S) ∧ ∃ set' A n c td,
      Sep (pt d (h.todo A n c (h.steps + set'.length)).cells :: Mk.mk h.st h.q.ins.length set' :: sl A n c 1 td :: kp K :: R) m' ∧ ∀ x, x ∈ set' ↔ Rch (auOf h.q) f l S x := by
  refine fcalls_of_vc (T := tbl) (B := bodies) (pr := [99999]) (DR := dr57) (args := [.v (.pointer (some ⟨d, 0, none⟩)), .v (.slice A S.length c), .v (.bool f), .v (.bool l)]) tbl_ok bodies_ok mixed Try.func57 rfl (by decide +kernel) (by simp [Try.f57]) rfl ?_
  (conv => whnf)
  intro b4 m1 hb he
  replace hS := hS.new' (l := [.pointer (some ⟨d, 0, none⟩)]) hb he
  clear hb he
  (conv => whnf)
  intro b8 m2 hb he
  replace hS := hS.new' (l := [.bool false]) hb he
  clear hb he
  (conv => whnf)
  refine ⟨_, hS.cell 1 (i := 0) rfl rfl, ?_⟩
  (conv => whnf)
  refine ⟨_, hS.cell 2 (i := 8) rfl rfl, ?_⟩
  (conv => whnf)
  refine FCalls.mono (hS.call 3 rfl fun m1 h1 => Mk.clear_s h1) ?_
  rintro v m6 ⟨m7, ⟨rfl, h1⟩, h2⟩
  replace hS : Sep (pt b8 [.bool false] :: pt b4 [.pointer (some ⟨d, 0, none⟩)] :: pt d (h.todo h.tA h.tn h.tc (h.steps + ([] : List Nat).length)).cells :: Mk.mk h.st h.q.ins.length [] :: sl h.tA h.tn h.tc 1 td :: kp K :: R) m6 := (h2.one h1).back (j := 3) (by simp)
  clear h1 h2
  (conv => whnf)
  refine loop_keep [2, 3, 4, 8, 17, 18] (Nat × List Nat × Option Addr × Nat × Nat × List Value × Mem) (fun s => [(19, .v (.int .i64 ((s.1 : Nat) : Int)))]) (fun _ => []) (fun s => s.2.2.2.2.2.2)
    (fun s => s.1 ≤ S.length ∧ Sep (pt b8 [.bool false] :: pt b4 [.pointer (some ⟨d, 0, none⟩)] :: pt d (h.todo s.2.2.1 s.2.2.2.1 s.2.2.2.2.1 (h.steps + s.2.1.length)).cells :: Mk.mk h.st h.q.ins.length s.2.1 :: sl s.2.2.1 s.2.2.2.1 s.2.2.2.2.1 1 s.2.2.2.2.2.1 :: kp K :: R) s.2.2.2.2.2.2 ∧ ∀ x, x ∈ s.2.1 ↔ Rch (auOf h.q) f l (S.take s.1) x)
    (fun s => S.length - s.1) (0, [], h.tA, h.tn, h.tc, td, m6) ⟨rfl, trivial⟩ rfl rfl ⟨by omega, hS, fun x => ⟨fun hx => (by cases hx), fun hx => hx.nil.elim⟩⟩ ?_
  clear hS
  (conv => whnf)
  refine ⟨rfl, ?_⟩
  rintro ⟨i, st, tA, tn, tc, td, M⟩ ⟨hi, hS, hm⟩
  simp only at hi hS hm
  (conv => whnf)
  refine brk_intro (fun c1 => ?_) (fun c1 => ?_)
  · have c1 : ((i : Nat) : Int) < ((S.length : Nat) : Int) := of_decide_eq_true c1
    obtain ⟨k, hk⟩ : ∃ k, S[i]? = some k := ⟨_, List.getElem?_eq_getElem (by omega)⟩
    obtain ⟨p, hp, hcp⟩ := rdm (hI M (((((hS.drop 0).drop 0).drop 0).drop 0).drop 0)) hk
    have step1 : IntKind.i64.wrap ((i : Int) + 1) = ((i + 1 : Nat) : Int) := wrap_id (by omega) (by omega)
    (conv => whnf)
    refine ⟨p, hp, by omega, by omega, ?_⟩
    (conv => whnf)
    refine ⟨_, by show M.cell (p.add (((i : Nat) : Int).toNat * 1)) = _; rw [Int.toNat_natCast, Nat.mul_one]; exact hcp, ?_⟩
    (conv => whnf)
    refine ⟨_, hS.cell 1 (i := 0) rfl rfl, ?_⟩
    (conv => whnf)
    refine FCalls.mono (come_c (h := h.todo tA tn tc (h.steps + st.length)) (R := pt b8 [.bool false] :: pt b4 [.pointer (some ⟨d, 0, none⟩)] :: R) (td := td) (set := st) (k := k) (f := f) (l := l) (d := d) (K := K) ?_ hq hg (hlt k (List.mem_of_getElem? hk)) fun x hx y hy => (hm y).2 (.step ((hm x).1 hx) hy)) ?_
    · exact (((hS.move 5 rfl).move 5 rfl).move 5 rfl).move 5 rfl
    rintro v m8 ⟨rfl, st', A', c', h1, hC, hle⟩
    replace hS : Sep (pt b8 [.bool false] :: pt b4 [.pointer (some ⟨d, 0, none⟩)] :: pt d (h.todo A' 0 c' (h.steps + st.length + (st'.length - st.length))).cells :: Mk.mk h.st h.q.ins.length st' :: sl A' 0 c' 1 [] :: kp K :: R) m8 := (h1.move 5 rfl).move 5 rfl
    clear h1
    rw [show h.steps + st.length + (st'.length - st.length) = h.steps + st'.length by omega] at hS
    obtain ⟨hC1, _⟩ := hC.done
    (conv => whnf)
    refine ⟨(i + 1, st', A', 0, c', [], m8), le_eq ⟨by show some (AV.v (.int .i64 (IntKind.i64.wrap ((i : Int) + 1)))) = _; rw [step1], rfl, rfl, rfl, rfl, rfl, rfl, trivial⟩ rfl rfl rfl, ⟨by simp only; omega, hS, fun x => ?_⟩, by simp only; omega⟩
    rw [rch_take hk, ← hm]
    exact hC1 x
  · have c1 : ¬ ((i : Nat) : Int) < ((S.length : Nat) : Int) := of_decide_eq_false c1
    rw [show i = S.length by omega, List.take_length] at hm
    (conv => whnf)
    refine ⟨_, hS.cell 1 (i := 0) rfl rfl, ?_⟩
    (conv => whnf)
    refine ⟨_, hS.cell 2 (i := 8) rfl rfl, ?_⟩
    (conv => whnf)
    refine FCalls.mono Mk.all_s fun v m7 ⟨bA, hv, h2⟩ => ?_
    subst hv
    replace hS := hS.on (N := [_]) h2
    clear h2
    (conv => whnf)
    refine Mk.range_all (hS.cell 0 (i := 0) rfl rfl) (Mk.mk_at hS 4 rfl) rfl (fun j M => Sep (pt b8 [.bool false] :: pt b4 [.pointer (some ⟨d, 0, none⟩)] :: pt d (h.todo tA tn tc (h.steps + st.length)).cells :: Mk.mk h.st h.q.ins.length st :: sl tA tn tc 1 td :: kp K :: R) M ∧ ∀ x, x ∈ st.take j → (auOf h.q).isM x = false) ⟨hS.drop 0, by simp⟩ (fun j x M hx ⟨hS, hj⟩ => ?_) (fun M ⟨hS, hj⟩ => ?_)
    · have hxm := (hm x).1 (List.mem_of_getElem? hx)
      have hxl : x < h.q.ins.length := rch_lt hg hlt hxm
      obtain ⟨i, hi⟩ : ∃ i, h.q.ins[x]? = some i := ⟨_, List.getElem?_eq_getElem hxl⟩
      obtain ⟨pi, hpi, hci⟩ := ins_at (hq.more (hS.kept 5 rfl)) hi
      have hM : (auOf h.q).isM x = decide (i.op = 11) := by unfold auOf; simp only [hi]
      (conv => whnf)
      refine ⟨_, hS.cell 1 (i := 0) rfl rfl, ?_⟩
      (conv => whnf)
      refine ⟨_, _, _, hS.cell 2 (i := 0) rfl rfl, ?_⟩
      (conv => whnf)
      refine ⟨pi, hpi, by omega, by show ((x : Nat) : Int) < ((h.q.ins.length : Nat) : Int); omega, ?_⟩
      (conv => whnf)
      refine ⟨_, hci 0 _ rfl, ?_⟩
      (conv => whnf)
      refine brk_intro (fun c2 => ?_) (fun c2 => ?_)
      · have c2 : i.op = 11 := by simpa using c2
        (conv => whnf)
        refine ⟨hS.room 0 (i := 0) rfl rfl, fun m9 he => ?_⟩
        replace hS := hS.put' 0 he rfl
        (conv => whnf)
        refine ⟨_, hS.cell 0 (i := 0) rfl rfl, ?_⟩
        (conv => whnf)
        have hmt : mts (auOf h.q) f l S = true := mts_iff.2 ⟨x, hxm, by rw [hM, decide_eq_true c2]⟩
        rw [hmt]
        exact ⟨rfl, st, tA, tn, tc, td, (hS.drop 0).drop 0, hm⟩
      · have c2 : i.op ≠ 11 := by simpa using c2
        (conv => whnf)
        refine ⟨hS, fun y hy => ?_⟩
        rw [List.take_add_one, hx, List.mem_append] at hy
        rcases hy with hy | hy
        · exact hj y hy
        · have : y = x := by simpa using hy
          rw [this, hM, decide_eq_false c2]
    · rw [List.take_length] at hj
      (conv => whnf)
      refine ⟨hS.room 0 (i := 0) rfl rfl, fun m9 he => ?_⟩
      replace hS := hS.put' 0 he rfl
      (conv => whnf)
      refine ⟨_, hS.cell 0 (i := 0) rfl rfl, ?_⟩
      (conv => whnf)
      have hmt : mts (auOf h.q) f l S = false := by
        cases hb : mts (auOf h.q) f l S with
        | false => rfl
        | true =>
          obtain ⟨x, h1, h2⟩ := mts_iff.1 hb
          rw [hj x ((hm x).2 h1)] at h2
          cases h2
      rw [hmt]
      exact ⟨rfl, st, tA, tn, tc, td, (hS.drop 0).drop 0, hm⟩
end Go.Proofs.Ytkkcdfnlmhmheaa
/- Dfa: a state's cells; key. -/
namespace Go.Proofs.Ytkkcdfnlmhmheaa
open Go Go.Mv
set_option maxHeartbeats 1000000
set_option maxRecDepth 10000
set_option linter.unusedVariables false
set_option linter.unusedSimpArgs false
def flI (s : Sta) : Nat → Int
  | 0 => 0
  | i + 1 => if [s.mt, s.ae, s.aw].getD i false then bits .or .u8 (flI s i) (IntKind.u8.wrap (1 * 2 ^ (min i 8))) else flI s i
def flag (s : Sta) : Nat := (if s.mt then 1 else 0) + (if s.ae then 2 else 0) + (if s.aw then 4 else 0)
theorem flI_fin : ∀ a b c : Bool, flI ⟨[], a, b, c⟩ 3 = ((flag ⟨[], a, b, c⟩ : Nat) : Int) := by decide
theorem flI_all (s : Sta) : flI s 3 = ((flag s : Nat) : Int) := by
  obtain ⟨r, a, b, c⟩ := s
  exact flI_fin a b c
theorem flag_lt (s : Sta) : flag s < 8 := by
  unfold flag
  split <;> split <;> split <;> omega
attribute [local irreducible] FCalls IntKind.wrap bits Mem.set Mem.setCell Mem.setCells YCalls RunP NextP RunU
/-- A state, as it lies in memory. -/
structure SC where
  A : Option Addr
  c : Nat
  s : Sta
def SC.cells (x : SC) : List Value := [.slice x.A x.s.reads.length x.c, .bool x.s.mt, .bool x.s.ae, .bool x.s.aw]
theorem sc_len (x : SC) : x.cells.length = 4 := rfl
def keyR (l : List Nat) : List UInt8 := l.flatMap fun k => [UInt8.ofNat k, UInt8.ofNat (k / 256)]
def keyL (s : Sta) : List UInt8 := UInt8.ofNat (flag s) :: keyR s.reads
def keyB (s : Sta) : ByteArray := ⟨(keyL s).toArray⟩
theorem keyR_inj : ∀ {l r : List Nat}, (∀ k, k ∈ l → k < 65536) → (∀ k, k ∈ r → k < 65536) → keyR l = keyR r → l = r
  | [], [], _, _, _ => rfl
  | [], b :: r, _, _, h => by simp [keyR] at h
  | a :: l, [], _, _, h => by simp [keyR] at h
  | a :: l, b :: r, hl, hr, h => by
    have h' : UInt8.ofNat a :: UInt8.ofNat (a / 256) :: keyR l = UInt8.ofNat b :: UInt8.ofNat (b / 256) :: keyR r := h
    simp only [List.cons.injEq] at h'
    obtain ⟨h1, h2, h3⟩ := h'
    have e1 := congrArg UInt8.toNat h1
    have e2 := congrArg UInt8.toNat h2
    have := hl a (by simp)
    have := hr b (by simp)
    simp at e1 e2
    rw [keyR_inj (fun k hk => hl k (List.mem_cons_of_mem _ hk)) (fun k hk => hr k (List.mem_cons_of_mem _ hk)) h3]
    congr 1
    omega
theorem flag_inj {s t : Sta} (h : flag s = flag t) : s.mt = t.mt ∧ s.ae = t.ae ∧ s.aw = t.aw := by
  obtain ⟨r, a, b, c⟩ := s
  obtain ⟨r', a', b', c'⟩ := t
  cases a <;> cases b <;> cases c <;> cases a' <;> cases b' <;> cases c' <;> first | exact ⟨rfl, rfl, rfl⟩ | (simp [flag] at h)
theorem keyB_inj {s t : Sta} (hs : ∀ k, k ∈ s.reads → k < 65536) (ht : ∀ k, k ∈ t.reads → k < 65536) (h : keyB s = keyB t) : s = t := by
  have h1 : keyL s = keyL t := by
    have := congrArg (fun b : ByteArray => b.data.toList) h
    simpa [keyB] using this
  unfold keyL at h1
  simp only [List.cons.injEq] at h1
  have h2 := congrArg UInt8.toNat h1.1
  have h3 := flag_lt s
  have h4 := flag_lt t
  simp at h2
  obtain ⟨k1, k2, k3⟩ := flag_inj (s := s) (t := t) (by omega)
  have k4 := keyR_inj hs ht h1.2
  obtain ⟨r, a, b, c⟩ := s
  obtain ⟨r', a', b', c'⟩ := t
  simp only at k1 k2 k3 k4
  subst k1 k2 k3 k4
  rfl
theorem byte_lo {k : Nat} : IntKind.u8.wrap ((k : Nat) : Int) = ((UInt8.ofNat k).toNat : Int) := by
  rw [IntKind.wrap_u8]
  simp
theorem byte_hi {k : Nat} : IntKind.u8.wrap (((k : Nat) : Int).fdiv (2 ^ (min (8 : Int).toNat IntKind.i64.bits))) = ((UInt8.ofNat (k / 256)).toNat : Int) := by
  rw [show ((k : Nat) : Int).fdiv (2 ^ (min (8 : Int).toNat IntKind.i64.bits)) = ((k / 256 : Nat) : Int) from ?_]
  · exact byte_lo
  · show ((k : Nat) : Int).fdiv 256 = _
    rw [Int.fdiv_eq_ediv_of_nonneg _ (by omega)]
    omega
theorem key_c {m : Mem} {x : SC} (hA : Rd m x.A (nv x.s.reads)) (hn : x.s.reads.length ≤ 1000000) : FCalls Try.prog 56 [.agg x.cells.toArray] m fun v m' => v = .string (keyB x.s) ∧ m' = m := by
  refine FCalls.less ?_
  refine fcalls_of_vc (T := tbl) (B := bodies) (pr := [99999, 1]) (DR := dr56) (args := [.v (.agg x.cells.toArray)]) tbl_ok bodies_ok mixed Try.func56 rfl (by decide +kernel) (by simp [Try.f56]) rfl ?_
  (conv => whnf)
  intro b3 m1 hb he
  have h := (Sep.init m).new' (l := [.int .u8 (flI x.s 0)]) hb he
  clear hb he
  (conv => whnf)
  intro b15 m2 hb he
  replace h := h.new' (l := [.bool x.s.mt, .bool x.s.ae, .bool x.s.aw]) hb he
  clear hb he
  (conv => whnf)
  refine loop_keep [1, 3, 15, 16] (Nat × Mem) (fun s => [(17, .v (.int .i64 ((s.1 : Nat) : Int)))]) (fun _ => [.cells x.cells]) (fun s => s.2)
    (fun s => s.1 ≤ 3 ∧ Sep [pt b15 [.bool x.s.mt, .bool x.s.ae, .bool x.s.aw], pt b3 [.int .u8 (flI x.s s.1)], kp m] s.2) (fun s => 3 - s.1) (0, m2) ⟨rfl, trivial⟩ rfl rfl ⟨by omega, h⟩ ?_
  clear h
  (conv => whnf)
  refine ⟨rfl, ?_⟩
  rintro ⟨i, M⟩ ⟨hi, h⟩
  simp only at hi h
  (conv => whnf)
  refine brk_intro (fun c1 => ?_) (fun c1 => ?_)
  · have c1 : ((i : Nat) : Int) < 3 := of_decide_eq_true c1
    have step1 : IntKind.i64.wrap ((i : Int) + 1) = ((i + 1 : Nat) : Int) := wrap_id (by omega) (by omega)
    obtain ⟨b, hb⟩ : ∃ b, b = [x.s.mt, x.s.ae, x.s.aw].getD i false := ⟨_, rfl⟩
    have hcb : M.cell ⟨b15, i, none⟩ = some (.bool b) := h.cell 0 rfl (by
      have : i = 0 ∨ i = 1 ∨ i = 2 := by omega
      rcases this with rfl | rfl | rfl <;> (rw [hb]; rfl))
    have hf : flI x.s (i + 1) = if b then bits .or .u8 (flI x.s i) (IntKind.u8.wrap (1 * 2 ^ (min i 8))) else flI x.s i := by rw [hb]; rfl
    (conv => whnf)
    refine ⟨_, rfl, by omega, by omega, ?_⟩
    (conv => whnf)
    refine ⟨_, by show M.cell (Addr.add ⟨b15, 0, none⟩ (((i : Nat) : Int).toNat * 1)) = _; rw [Int.toNat_natCast, Nat.mul_one, add_mk, Nat.zero_add]; exact hcb, ?_⟩
    (conv => whnf)
    refine brk_intro (fun c2 => ?_) (fun c2 => ?_)
    · have c2 : b = true := c2
      rw [c2, if_pos rfl] at hf
      (conv => whnf)
      refine ⟨_, rfl, by omega, by omega, ?_⟩
      (conv => whnf)
      refine ⟨_, h.cell 1 (i := 0) rfl rfl, ?_⟩
      (conv => whnf)
      refine ⟨by omega, ?_⟩
      (conv => whnf)
      refine ⟨_, rfl, by omega, by omega, ?_⟩
      (conv => whnf)
      refine ⟨h.room 1 (i := 0) rfl rfl, fun m3 he => ?_⟩
      replace h := h.put' 1 he rfl
      (conv => whnf)
      refine ⟨(i + 1, m3), le_eq ⟨by show some (AV.v (.int .i64 (IntKind.i64.wrap ((i : Int) + 1)))) = _; rw [step1], rfl, rfl, rfl, rfl, trivial⟩ rfl rfl rfl, ⟨by simp only; omega, ?_⟩, by simp only; omega⟩
      dsimp only
      rw [hf]
      exact h
    · have c2 : b = false := c2
      rw [c2] at hf
      (conv => whnf)
      refine ⟨(i + 1, M), le_eq ⟨by show some (AV.v (.int .i64 (IntKind.i64.wrap ((i : Int) + 1)))) = _; rw [step1], rfl, rfl, rfl, rfl, trivial⟩ rfl rfl rfl, ⟨by simp only; omega, ?_⟩, by simp only; omega⟩
      dsimp only
      rw [hf]
      exact h
  have c1 : ¬ ((i : Nat) : Int) < 3 := of_decide_eq_false c1
  rw [show i = 3 by omega, flI_all] at h
  have hfl : [Value.int .u8 ((flag x.s : Nat) : Int)] = byteVals [UInt8.ofNat (flag x.s)] := by
    have := flag_lt x.s
    show _ = [Value.int .u8 (((UInt8.ofNat (flag x.s)).toNat : Nat) : Int)]
    simp
    omega
  rw [hfl] at h
  replace h : Sep [sl (some ⟨b3, 0, none⟩) 1 1 1 (byteVals [UInt8.ofNat (flag x.s)]), kp m] M := (h.drop 0).slOf 0 rfl rfl (by omega) (by simp [byteVals]) fun k v hk => hk
  (conv => whnf)
  refine loop_keep [1, 32, 33] (Nat × Option Addr × Nat × Mem) (fun s => [(34, .v (.int .i64 ((s.1 : Nat) : Int))), (3, .v (.slice s.2.1 (UInt8.ofNat (flag x.s) :: keyR (x.s.reads.take s.1)).length s.2.2.1))]) (fun _ => [.cells x.cells]) (fun s => s.2.2.2)
    (fun s => s.1 ≤ x.s.reads.length ∧ Sep [sl s.2.1 (UInt8.ofNat (flag x.s) :: keyR (x.s.reads.take s.1)).length s.2.2.1 1 (byteVals (UInt8.ofNat (flag x.s) :: keyR (x.s.reads.take s.1))), kp m] s.2.2.2) (fun s => x.s.reads.length - s.1) (0, some ⟨b3, 0, none⟩, 1, M) ⟨rfl, rfl, trivial⟩ rfl rfl ⟨by omega, h⟩ ?_
  clear h
  (conv => whnf)
  refine ⟨rfl, ?_⟩
  rintro ⟨i, A, c, M⟩ ⟨hi, h⟩
  simp only at hi h
  (conv => whnf)
  refine brk_intro (fun c1 => ?_) (fun c1 => ?_)
  · have c1 : ((i : Nat) : Int) < ((x.s.reads.length : Nat) : Int) := of_decide_eq_true c1
    have step1 : IntKind.i64.wrap ((i : Int) + 1) = ((i + 1 : Nat) : Int) := wrap_id (by omega) (by omega)
    obtain ⟨k, hk⟩ : ∃ k, x.s.reads[i]? = some k := ⟨_, List.getElem?_eq_getElem (by omega)⟩
    obtain ⟨p, hp, hcp⟩ := rdm (hA.more (h.kept 1 rfl)) hk
    have hkr : keyR (x.s.reads.take (i + 1)) = keyR (x.s.reads.take i) ++ [UInt8.ofNat k, UInt8.ofNat (k / 256)] := by
      rw [List.take_add_one, hk]
      simp [keyR]
    have hkl : (keyR (x.s.reads.take i)).length ≤ 2 * i := by
      have : ∀ l : List Nat, (keyR l).length = 2 * l.length := fun l => by
        induction l with
        | nil => rfl
        | cons a l ih => show (keyR l).length + 1 + 1 = 2 * (l.length + 1); omega
      rw [this, List.length_take]
      omega
    (conv => whnf)
    refine ⟨p, hp, by omega, by omega, ?_⟩
    (conv => whnf)
    refine ⟨_, by show M.cell (p.add (((i : Nat) : Int).toNat * 1)) = _; rw [Int.toNat_natCast, Nat.mul_one]; exact hcp, ?_⟩
    (conv => whnf)
    refine ⟨by omega, ?_⟩
    (conv => whnf)
    intro nb m2 hb he
    replace h := h.new' (l := [.int .u8 (IntKind.u8.wrap ((k : Nat) : Int)), .int .u8 (IntKind.u8.wrap (((k : Nat) : Int).fdiv (2 ^ (min (8 : Int).toNat IntKind.i64.bits))))]) hb he
    have hby : [Value.int .u8 (IntKind.u8.wrap ((k : Nat) : Int)), .int .u8 (IntKind.u8.wrap (((k : Nat) : Int).fdiv (2 ^ (min (8 : Int).toNat IntKind.i64.bits))))] = byteVals [UInt8.ofNat k, UInt8.ofNat (k / 256)] := by rw [byte_lo, byte_hi]; rfl
    rw [hby] at h
    have hBn : m2.holds ⟨nb, 0, none⟩ (byteVals [UInt8.ofNat k, UInt8.ofNat (k / 256)]) := (h.blk 0 rfl).holds fun k v hk => by rw [Nat.zero_add]; exact hk
    clear hb he hby
    (conv => whnf)
    obtain ⟨ok, hR⟩ := h.app 1 (T := tbl) (e := 5) (news := byteVals [UInt8.ofNat k, UInt8.ofNat (k / 256)]) (k := 2) (B := some ⟨nb, 0, none⟩) rfl rfl (.inr ⟨_, rfl, hBn⟩) rfl rfl (by show 2 * ((keyR (x.s.reads.take i)).length + 1 + _) * 1 ≤ 2 ^ 48; omega) rfl
    refine ⟨_, _, ok, fun A' c' m3 hr => ?_⟩
    replace h := (hR _ _ _ hr).drop 0
    clear ok hR hr hBn
    have hle : (UInt8.ofNat (flag x.s) :: keyR (x.s.reads.take (i + 1))).length = (UInt8.ofNat (flag x.s) :: keyR (x.s.reads.take i)).length + 2 := by rw [hkr]; simp
    have hbv : byteVals (UInt8.ofNat (flag x.s) :: keyR (x.s.reads.take (i + 1))) = byteVals (UInt8.ofNat (flag x.s) :: keyR (x.s.reads.take i)) ++ byteVals [UInt8.ofNat k, UInt8.ofNat (k / 256)] := by rw [hkr]; simp [byteVals]
    (conv => whnf)
    refine ⟨(i + 1, A', c', m3), le_eq ⟨by show some (AV.v (.int .i64 (IntKind.i64.wrap ((i : Int) + 1)))) = _; rw [step1], by show _ = some (AV.v (.slice A' (UInt8.ofNat (flag x.s) :: keyR (x.s.reads.take (i + 1))).length c')); rw [hle]; rfl, rfl, rfl, rfl, trivial⟩ rfl rfl rfl, ⟨by simp only; omega, ?_⟩, by simp only; omega⟩
    dsimp only
    rw [hle, hbv]
    exact h
  · have c1 : ¬ ((i : Nat) : Int) < ((x.s.reads.length : Nat) : Int) := of_decide_eq_false c1
    obtain rfl : i = x.s.reads.length := by omega
    rw [List.take_length] at h
    have hho := (h.rd 0 rfl).holds (n := (keyL x.s).length) (by simp [byteVals, keyL])
    (conv => whnf)
    refine ⟨keyL x.s, by dsimp only; rw [List.take_length]; rfl, .inr (hho.resolve_left (by simp [keyL])), ?_⟩
    (conv => whnf)
    exact ⟨m, h.kept 1 rfl, rfl, rfl⟩
end Go.Proofs.Ytkkcdfnlmhmheaa
/- Dfa: has; what is kept of states; flush. -/
namespace Go.Proofs.Ytkkcdfnlmhmheaa
open Go Go.Mv
set_option maxHeartbeats 1000000
set_option maxRecDepth 10000
set_option linter.unusedVariables false
set_option linter.unusedSimpArgs false
theorem and63 : ∀ n : Fin 256, bits .and .u8 ((n.val : Nat) : Int) 63 = ((n.val % 64 : Nat) : Int) := by decide +kernel
theorem and1 (x : Int) : bits .and .u64 x 1 = x % 2 := by
  show IntKind.u64.wrap ((BitVec.ofInt 64 x &&& BitVec.ofInt 64 1).toNat : Int) = _
  have h1 : (BitVec.ofInt 64 (1 : Int)).toNat = 2 ^ 1 - 1 := by decide
  rw [BitVec.toNat_and, h1, Nat.and_two_pow_sub_one_eq_mod, BitVec.toNat_ofInt]
  have h2 : (((x % ((2 ^ 64 : Nat) : Int)).toNat % 2 ^ 1 : Nat) : Int) = x % 2 := by omega
  rw [h2, IntKind.wrap_u64]
  omega
attribute [local irreducible] FCalls IntKind.wrap bits Mem.set Mem.setCell Mem.setCells YCalls RunP NextP RunU
theorem has_c {m : Mem} {i : Ins} {c : Nat} (hc : c < 256) : FCalls Try.prog 50 [.agg (intCells .u64 [i.s0, i.s1, i.s2, i.s3]).toArray, .int .u8 ((c : Nat) : Int)] m fun v m' => v = .bool (bitOf i c) ∧ m' = m := by
  refine fcalls_of_vc (T := tbl) (B := bodies) (pr := [2]) (DR := dr50) (args := [.ints .u64 [i.s0, i.s1, i.s2, i.s3], .v (.int .u8 ((c : Nat) : Int))]) tbl_ok bodies_ok mixed Try.func50 rfl (by decide +kernel) (by simp [Try.f50]) rfl ?_
  have e6 : ((c : Nat) : Int).fdiv (2 ^ (min (6 : Int).toNat IntKind.u8.bits)) = ((c / 64 : Nat) : Int) := by
    show ((c : Nat) : Int).fdiv 64 = _
    rw [Int.fdiv_eq_ediv_of_nonneg _ (by omega)]
    omega
  have e63 : bits .and .u8 ((c : Nat) : Int) 63 = ((c % 64 : Nat) : Int) := and63 ⟨c, hc⟩
  (conv => whnf)
  refine ⟨by omega, ?_⟩
  (conv => whnf)
  refine ⟨by rw [e6]; omega, by rw [e6]; omega, ?_⟩
  (conv => whnf)
  refine ⟨by rw [e6]; show 0 + (((c / 64 : Nat) : Int).toNat) * 1 < 4; omega, ?_⟩
  (conv => whnf)
  refine ⟨by rw [e63]; omega, ?_⟩
  (conv => whnf)
  refine ⟨?_, rfl⟩
  show Value.bool (bits .and .u64 (Int.fdiv ([i.s0, i.s1, i.s2, i.s3].getD (0 + (((c : Nat) : Int).fdiv (2 ^ (min (6 : Int).toNat IntKind.u8.bits))).toNat * 1) 0) (2 ^ (min (bits .and .u8 ((c : Nat) : Int) 63).toNat IntKind.u64.bits))) 1 == 1) = _
  rw [e6, e63, and1]
  unfold bitOf
  rw [show 0 + ((c / 64 : Nat) : Int).toNat * 1 = c / 64 by omega, show min ((c % 64 : Nat) : Int).toNat IntKind.u64.bits = c % 64 by show min _ 64 = _; omega]
  rfl
def scells (l : List SC) : List Value := l.flatMap SC.cells
/-- An automaton. -/
structure Df where
  q : Prg
  room : Int
  sA : Option Addr
  sc : Nat
  sts : List SC
  nb : Nat
  nl : MapL
  mv : Nat
  a : Abs
  st : Nat
  set : List Nat
  tA : Option Addr
  tn : Nat
  tc : Nat
  td : List Value
  steps : Nat
  flushes : Nat
def Df.hd (x : Df) : Dh := ⟨x.q, x.room, x.sA, x.sts.length, x.sc, x.nb, x.mv, x.st, x.tA, x.tn, x.tc, x.steps, x.flushes⟩
def Df.parts (K : Mem) (d : Nat) (x : Df) (R : List Asn) : List Asn := pt d x.hd.cells :: Mk.mk x.st x.q.ins.length x.set :: sl x.tA x.tn x.tc 1 x.td :: kp K :: sl x.sA x.sts.length x.sc 4 (scells x.sts) :: mp x.nb x.nl :: tb K x.mv x.a :: R
theorem Df.toTb {K m : Mem} {d : Nat} {x : Df} {R : List Asn} (h : Sep (x.parts K d R) m) : Sep (tb K x.mv x.a :: kp K :: pt d x.hd.cells :: Mk.mk x.st x.q.ins.length x.set :: sl x.tA x.tn x.tc 1 x.td :: sl x.sA x.sts.length x.sc 4 (scells x.sts) :: mp x.nb x.nl :: R) m :=
  (Sep.move (L := x.parts K d R) 3 h rfl).move 6 rfl
theorem Df.ofTb {K m : Mem} {d : Nat} {x : Df} {R : List Asn} (h : Sep (tb K x.mv x.a :: kp K :: pt d x.hd.cells :: Mk.mk x.st x.q.ins.length x.set :: sl x.tA x.tn x.tc 1 x.td :: sl x.sA x.sts.length x.sc 4 (scells x.sts) :: mp x.nb x.nl :: R) m) : Sep (x.parts K d R) m :=
  (((((h.move 6 rfl).move 6 rfl).move 3 rfl).move 6 rfl).move 6 rfl).move 6 rfl
theorem u58 : Try.prog.underlying 58 = some (.map 9 3) := by rfl
theorem u9 : Try.prog.underlying 9 = some .string := by rfl
theorem flush_c {m K : Mem} {R : List Asn} {d : Nat} {x : Df} (hS : Sep (x.parts K d R) m) :
    FCalls Try.prog 55 [.pointer (some ⟨d, 0, none⟩)] m fun v m' => v = .tuple #[] ∧ ∃ K' a', K.le K' ∧ a'.w = x.a.w ∧ a'.most = x.a.most ∧ (a'.f = fun _ => none) ∧
      Sep (Df.parts K' d { x with sts := [], nl := [], a := a', flushes := x.flushes + 1 } R) m' := by
  unfold Df.parts at hS
  refine fcalls_of_vc (T := tbl) (B := bodies) (pr := [99999]) (DR := dr55) (args := [.v (.pointer (some ⟨d, 0, none⟩))]) tbl_ok bodies_ok mixed Try.func55 rfl (by decide +kernel) (by simp [Try.f55]) rfl ?_
  (conv => whnf)
  refine ⟨_, hS.cell 0 (i := 6) rfl rfl, ?_⟩
  (conv => whnf)
  refine map_clear (b := x.nb) (l := x.nl) (hS.move 5 rfl) u58 fun m2 h2 => ?_
  replace hS : Sep (Df.parts K d { x with nl := [] } R) m2 := h2.back (j := 5) (by simp)
  unfold Df.parts at hS
  clear h2
  (conv => whnf)
  refine ⟨_, _, _, hS.cell 0 (i := 5) rfl rfl, ?_⟩
  (conv => whnf)
  refine ⟨by omega, by omega, by omega, ?_⟩
  (conv => whnf)
  refine ⟨hS.room 0 (i := 5) rfl rfl, fun m5 he => ?_⟩
  have ev : (Value.slice (if x.sc = Int.toNat 0 then x.sA else Option.map (fun p => p.add (Int.toNat 0 * (tbl.at 82).size)) x.sA) ((0 : Int).toNat - Int.toNat 0) (x.sc - Int.toNat 0)) = .slice x.sA ([] : List SC).length x.sc := by rw [slice_lo0]; rfl
  replace he : m5 = m2.setCell ⟨d, 5, none⟩ (.slice x.sA ([] : List SC).length x.sc) := he.trans (congrArg (fun v => m2.setCell ⟨d, 5, none⟩ v) ev)
  replace hS := hS.put' 0 he rfl
  clear he ev
  replace hS : Sep (Df.parts K d { x with nl := [], sts := [] } R) m5 := hS.turn 4 rfl fun m1 _ g => by
    have := sl_cut g (Nat.zero_le _)
    rw [Nat.zero_mul, List.take_zero] at this
    exact this
  unfold Df.parts at hS
  (conv => whnf)
  refine ⟨_, hS.cell 0 (i := 7) rfl rfl, ?_⟩
  (conv => whnf)
  refine FCalls.mono (clear_t (Df.toTb (x := { x with nl := [], sts := [] }) hS)) ?_
  rintro v m6 ⟨rfl, K', hK, h2⟩
  obtain ⟨a', ha'⟩ : ∃ a' : Abs, a' = { x.a with f := fun _ => none, n := 0, len := if x.a.len > 16 then 0 else x.a.len } := ⟨_, rfl⟩
  rw [← ha'] at h2
  replace hS : Sep (Df.parts K' d { x with nl := [], sts := [], a := a' } R) m6 := Df.ofTb h2
  unfold Df.parts at hS
  clear h2
  (conv => whnf)
  refine ⟨_, hS.cell 0 (i := 11) rfl rfl, ?_⟩
  (conv => whnf)
  refine ⟨hS.room 0 (i := 11) rfl rfl, fun m8 he => ?_⟩
  have ev : (Value.int .i64 (IntKind.i64.wrap (IntKind.i64.wrap ((x.flushes : Nat) : Int) + 1))) = w64 (x.flushes + 1) := by rw [wrap_step, w64]
  replace he : m8 = m6.setCell ⟨d, 11, none⟩ (w64 (x.flushes + 1)) := he.trans (congrArg (fun v => m6.setCell ⟨d, 11, none⟩ v) ev)
  replace hS := hS.put' 0 he rfl
  (conv => whnf)
  refine ⟨rfl, K', a', hK, by rw [ha'], by rw [ha'], by rw [ha'], hS⟩
end Go.Proofs.Ytkkcdfnlmhmheaa
/- Dfa: slices.Sort of a slice of one's own; what is so of the states that are kept. -/
namespace Go.Proofs.Ytkkcdfnlmhmheaa
open Go Go.Mv Go.Sort
set_option maxHeartbeats 1000000
set_option maxRecDepth 10000
set_option linter.unusedVariables false
set_option linter.unusedSimpArgs false
theorem FCalls.of_putRowO {α : Type} [Inhabited α] {P : Program} {g : FuncId} {args : List Value} {m : Mem} {enc : α → Value} {blk e : Nat} {c : Array Value} {d : Array α} {off : Nat} (hb : m blk = some (.cells c e (0, 0)))
    (h : ∀ w, m.sub w → Calls P g args.toArray w fun e w' => e = .returned (.tuple #[]) ∧ ∃ n os, w' = grow (putRow enc (Sort.ahead w n) blk off d) os) :
    FCalls P g args m fun v m' => v = .tuple #[] ∧ m' = m.set blk (.cells (putCells enc off d c) e (0, 0)) := by
  intro w hw
  refine (h w hw).mono fun e' w' ⟨he, n, os, hw'⟩ => ⟨_, _, he, ⟨rfl, rfl⟩, ?_⟩
  subst hw'
  have hget : w.heap[blk]? = some (.cells c e (0, 0)) := hw blk _ hb
  have hlt := (Array.getElem?_eq_some_iff.1 hget).1
  have hheap : ∀ k, k < w.heap.size → (grow (putRow enc (Sort.ahead w n) blk off d) os).heap[k]? = if k = blk then some (.cells (putCells enc off d c) e (0, 0)) else w.heap[k]? := by
    intro k hk
    show ((mapBlock (Sort.ahead w n) blk (putCells enc off d)).heap ++ os)[k]? = _
    rw [Array.getElem?_append_left (by simpa [mapBlock] using hk)]
    unfold mapBlock
    rw [Array.getElem?_modify]
    by_cases hkb : blk = k
    · subst hkb
      rw [if_pos rfl, if_pos rfl]
      show Option.map _ w.heap[blk]? = _
      rw [hget]
      rfl
    · rw [if_neg hkb, if_neg (Ne.symm hkb)]
      rfl
  refine ⟨rfl, ⟨rfl, by simp [grow, putRow, mapBlock, Sort.ahead]⟩, rfl, ?_, fun b o ho => ?_, fun b hb' hn => ?_, fun b hb' => ?_⟩
  · show _ ≤ ((mapBlock (Sort.ahead w n) blk (putCells enc off d)).heap ++ os).size
    rw [Array.size_append]
    simp [mapBlock]
  · simp only [Mem.set] at ho
    by_cases hbb : b = blk
    · rw [if_pos hbb] at ho
      rw [hheap b (hbb ▸ hlt), if_pos hbb]
      exact ho
    · rw [if_neg hbb] at ho
      rw [hheap b (Mem.sub_lt hw (by rw [ho]; simp)), if_neg hbb]
      exact hw b o ho
  · rw [hheap b hb', if_neg]
    rintro rfl
    rw [hb] at hn
    cases hn
  · simp only [Mem.set] at hb'
    by_cases hbb : b = blk
    · left
      rw [hbb, hb]
      simp
    · rw [if_neg hbb] at hb'
      exact .inl hb'
attribute [local irreducible] FCalls IntKind.wrap bits Mem.set Mem.setCell Mem.setCells YCalls RunP NextP RunU
theorem set_self {m : Mem} {b : Nat} {o : Obj} : (m.set b o) b = some o := by unfold Mem.set; simp
theorem put_off {zs : List Int} {r : List Value} {off : Nat} (hl : off + zs.length ≤ r.length) (k : Nat) : (Sort.putCells (Value.int .i64) off zs.toArray r.toArray).toList[k]? = if off ≤ k ∧ k < off + zs.length then (ints zs)[k - off]? else r[k]? := by
  simp only [Sort.putCells, Array.toList_mapIdx, List.getElem?_mapIdx]
  by_cases hk : off ≤ k ∧ k < off + zs.length
  · rw [if_pos hk, List.getElem?_eq_getElem (by omega)]
    have h1 : k - off < zs.length := by omega
    simp [hk, ints, List.getElem?_eq_getElem h1]
  · rw [if_neg hk]
    cases r[k]? with
    | none => rfl
    | some v => simp [hk]
theorem sort_sl {m : Mem} {A : Option Addr} {c : Nat} {zs : List Int} (h : sl A zs.length c 1 (ints zs) m) (hn : zs.length < 4611686018427387904) :
    FCalls Try.prog 59 [.slice A zs.length c] m fun v m' => v = .tuple #[] ∧ sl A zs.length c 1 (ints (Mk.up zs)) m' := by
  have h0 := h
  obtain ⟨h1, h2, h3⟩ := h
  rcases h3 with ⟨rfl, rfl⟩ | ⟨b, o, r, e, rfl, hb, hr, hk⟩
  · have hz : zs = [] := List.length_eq_zero_iff.1 (by omega)
    subst hz
    exact Mk.sort_nil.mono fun v m' ⟨h4, h5⟩ => ⟨h4, by rw [h5, show Mk.up [] = [] from List.mergeSort_nil]; exact h0⟩
  · have hlen : o + (Mk.up zs).length ≤ r.length := by rw [Mk.up_len]; omega
    refine (FCalls.of_putRowO (d := (Mk.up zs).toArray) (enc := Value.int .i64) (off := o) hb fun w hw => ?_).mono fun v m' ⟨h4, h5⟩ => ?_
    · refine calls_of_every_depth fun D => AnyS.slices_Sort_int_in Try.lays189 D b o c zs w (fun j hj => ?_) ?_ hn
      · have hj : j < zs.length := by simpa using hj
        have hc : m.cell ⟨b, o + j, none⟩ = some (.int .i64 zs[j]) := Blk.cell ⟨e, hb⟩ (hk j _ (by simp [ints, hj]))
        refine ⟨?_, ?_⟩
        · rw [Mem.sub_cell hw hc]
          simp [hj]
        · rw [Mem.sub_fz hw hc]
          exact Blk.fz ⟨e, hb⟩
      · exact Mem.sub_lt hw (by rw [hb]; simp)
    · subst h4 h5
      refine ⟨rfl, by simp [ints, Mk.up_len], h2, .inr ⟨b, o, (Sort.putCells (Value.int .i64) o (Mk.up zs).toArray r.toArray).toList, e, rfl, set_self, by simp [Sort.putCells]; omega, fun k v hv => ?_⟩⟩
      have hkl := (List.getElem?_eq_some_iff.1 hv).1
      rw [put_off hlen, if_pos (by simp [ints] at hkl; omega), show o + k - o = k by omega]
      exact hv
end Go.Proofs.Ytkkcdfnlmhmheaa
/- Dfa: what is so of the states that are kept; the plain law of made, keep, flush. -/
namespace Go.Proofs.Ytkkcdfnlmhmheaa
open Go Go.Mv
set_option maxHeartbeats 1000000
set_option maxRecDepth 10000
set_option linter.unusedVariables false
set_option linter.unusedSimpArgs false
/-- A slice of one's own is kept for good. -/
theorem freeze {K m : Mem} {R : List Asn} {p n c sz : Nat} {a : Abs} {A : Option Addr} {vs : List Value} (h : Sep (tb K p a :: kp K :: sl A n c sz vs :: R) m) : ∃ K', K.le K' ∧ Rd K' A vs ∧ Sep (tb K' p a :: kp K' :: R) m := by
  obtain ⟨m1, m2, k1, k2, k3, ⟨t, hT⟩, m3, m4, g1, g2, g3, g4, m5, m6, e1, e2, e3, hsl, hR⟩ := h
  have hK3 : K.le m3 := g4
  have h35 : m3.apart m5 := fun b => (g1 b).imp id fun hb => Mem.le_none e2 hb
  have h36 : m3.apart m6 := fun b => (g1 b).imp id fun hb => Mem.le_none e3 hb
  have hle2 : (m3.join m5).le m2 := fun b o hb => by
    unfold Mem.join at hb
    cases h3 : m3 b with
    | some o' => rw [h3] at hb; simp at hb; subst hb; exact g2 b _ h3
    | none => rw [h3] at hb; simp at hb; exact g3 b o (e2 b o hb)
  have hnone : ∀ b, m1 b ≠ none → (m3.join m5) b = none := fun b hb => Mem.le_none hle2 ((k1 b).resolve_left hb)
  have hp : m1 p ≠ none := by obtain ⟨e, he⟩ := hT.head; rw [he]; simp
  have hq : m1 t.q ≠ none := by
    by_cases hs : t.sl = []
    · rw [hT.ab.qp hs]; exact hp
    · obtain ⟨⟨e, he⟩, _⟩ := hT.places hs
      rw [he]; simp
  have hKK : K.le (m3.join m5) := Mem.le_trans hK3 Mem.le_join_left
  refine ⟨m3.join m5, hKK, (sl_rd hsl).more (Mem.le_join_right h35), m1, m2, k1, k2, k3, ⟨t, hT.head, hT.places, fun s hs => ⟨(hT.keys s hs).1.up hKK, (hT.keys s hs).2⟩, hT.size, hnone p hp, hnone t.q hq, hT.ab⟩, m3.join m5, m6, fun b => ?_, hle2, Mem.le_trans e3 g3, Mem.le_refl _, hR⟩
  rcases h36 b with h3 | h6
  · rcases e1 b with h5 | h6
    · exact .inl (by simp [Mem.join, h3, h5])
    · exact .inr h6
  · exact .inr h6
def okS (q : Prg) (s : Sta) : Prop := s.reads.length ≤ q.ins.length ∧ ∀ k, k ∈ s.reads → k + 1 < q.ins.length
theorem okS_sta {q : Prg} (hg : GoodP q) {S : List Nat} {f aw : Bool} : okS q (sta (auOf q) S f aw) := by
  refine ⟨?_, fun k hk => ?_⟩
  · show (rds (auOf q) f false S).length ≤ _
    unfold rds
    refine Nat.le_trans (List.length_filter_le _ _) ?_
    rw [List.length_range]
    exact Nat.le_refl _
  · obtain ⟨h1, h2, h3⟩ := mem_rds.1 (show k ∈ rds (auOf q) f false S from hk)
    have h1 : k < q.ins.length := h1
    obtain ⟨i, hi⟩ : ∃ i, q.ins[k]? = some i := ⟨_, List.getElem?_eq_getElem h1⟩
    have h3 : (match q.ins[k]? with | none => false | some i => decide (i.op = 1)) = true := h3
    rw [hi] at h3
    exact (fine_x (hg.ok k h1) hi).2.2 (.inl (of_decide_eq_true h3))
theorem findL_app {k k' : ByteArray} {v : Value} : ∀ {l : MapL}, findL k (l ++ [(k', v)]) = match findL k l with | some x => some x | none => if k' = k then some v else none
  | [] => rfl
  | x :: l => by
    show (if x.1 = k then some x.2 else findL k (l ++ [(k', v)])) = match (if x.1 = k then some x.2 else findL k l) with | some x => some x | none => if k' = k then some v else none
    rw [findL_app]
    split <;> rfl
/-- v stands for s. -/
def Num (sts : List SC) (v : Int) (s : Sta) : Prop := (s.dead = true ∧ v = -1) ∨ (s.dead = false ∧ ∃ i x, v = ((i : Nat) : Int) ∧ sts[i]? = some x ∧ x.s = s)
def Ext (a b : List SC) : Prop := ∀ (i : Nat) x, a[i]? = some x → b[i]? = some x
theorem Ext.refl {a : List SC} : Ext a a := fun _ _ h => h
theorem Ext.trans {a b c : List SC} (h : Ext a b) (k : Ext b c) : Ext a c := fun i x hx => k i x (h i x hx)
theorem Ext.app {a b : List SC} : Ext a (a ++ b) := fun i x hx => by
  rw [List.getElem?_append_left (List.getElem?_eq_some_iff.1 hx).1]
  exact hx
theorem Num.mono {a b : List SC} {v : Int} {s : Sta} (h : Num a v s) (hab : Ext a b) : Num b v s :=
  h.imp id fun ⟨h1, i, x, h2, h3, h4⟩ => ⟨h1, i, x, h2, hab i x h3, h4⟩
def flK (f aw : Bool) : Int := (if f then 1 else 0) + (if aw then 2 else 0)
/-- What a key of the moves speaks of. -/
def Key (q : Prg) (sts : List SC) (ks : List Int) (s : Sta) : Prop :=
  (∃ i x c, sts[i]? = some x ∧ c < 256 ∧ ks = [((i : Nat) : Int), ((c : Nat) : Int)] ∧ s = trs (auOf q) x.s c) ∨ ∃ f aw, ks = [-2, flK f aw] ∧ s = sta (auOf q) [0] f aw
theorem Key.mono {q : Prg} {a b : List SC} {ks : List Int} {s : Sta} (h : Key q a ks s) (hab : Ext a b) : Key q b ks s :=
  h.imp (fun ⟨i, x, c, h1, h2⟩ => ⟨i, x, c, hab i x h1, h2⟩) id
theorem flK_inj {f aw f' aw' : Bool} (h : flK f aw = flK f' aw') : f = f' ∧ aw = aw' := by
  revert h
  cases f <;> cases aw <;> cases f' <;> cases aw' <;> decide
theorem Key.same {q : Prg} {sts : List SC} {ks : List Int} {s s' : Sta} (h : Key q sts ks s) (k : Key q sts ks s') : s = s' := by
  rcases h with ⟨i, x, c, h1, h2, rfl, rfl⟩ | ⟨f, aw, rfl, rfl⟩
  · rcases k with ⟨i', x', c', k1, k2, k3, rfl⟩ | ⟨f, aw, k3, rfl⟩
    · simp only [List.cons.injEq] at k3
      obtain ⟨e1, e2, _⟩ := k3
      have e1 : i = i' := by omega
      have e2 : c = c' := by omega
      subst e1 e2
      rw [h1] at k1
      cases k1
      rfl
    · simp only [List.cons.injEq] at k3
      omega
  · rcases k with ⟨i', x', c', k1, k2, k3, rfl⟩ | ⟨f', aw', k3, rfl⟩
    · simp only [List.cons.injEq] at k3
      omega
    · simp only [List.cons.injEq] at k3
      obtain ⟨e1, e2⟩ := flK_inj k3.2.1
      rw [e1, e2]
structure Inv (K : Mem) (x : Df) : Prop where
  rd : ∀ y, y ∈ x.sts → Rd K y.A (nv y.s.reads)
  ok : ∀ y, y ∈ x.sts → okS x.q y.s ∧ y.s.dead = false
  n1 : ∀ (i : Nat) y, x.sts[i]? = some y → findL (keyB y.s) x.nl = some (.int .i64 ((i : Nat) : Int))
  n2 : ∀ k v, findL k x.nl = some v → ∃ (i : Nat) (y : SC), x.sts[i]? = some y ∧ k = keyB y.s ∧ v = .int .i64 ((i : Nat) : Int)
  mvs : ∀ ks v, x.a.f ks = some v → ∃ s, Key x.q x.sts ks s ∧ Num x.sts v s
  aw : x.a.w = 2
  r0 : 2 ≤ x.room
  r1 : x.room ≤ 100000
  len : ((x.sts.length : Nat) : Int) ≤ x.room
theorem Inv.up {K K' : Mem} {x : Df} (h : Inv K x) (hK : K.le K') : Inv K' x := ⟨fun y hy => (h.rd y hy).more hK, h.ok, h.n1, h.n2, h.mvs, h.aw, h.r0, h.r1, h.len⟩
theorem Inv.flush {K K' : Mem} {x : Df} {a' : Abs} {n : Nat} (h : Inv K x) (hw : a'.w = x.a.w) (hf : a'.f = fun _ => none) : Inv K' { x with sts := [], nl := [], a := a', flushes := n } :=
  ⟨fun y hy => (by cases hy), fun y hy => (by cases hy), fun i y hy => (by simp at hy), fun k v hk => (by cases hk), fun ks v hk => (by simp only at hk; rw [hf] at hk; cases hk), hw.trans h.aw, h.r0, h.r1, by have := h.r0; simp; omega⟩
/-- What the walks of come and closed turn does not matter. -/
theorem Inv.set {K : Mem} {x : Df} (h : Inv K x) (set : List Nat) (tA : Option Addr) (tn tc : Nat) (td : List Value) (steps : Nat) : Inv K { x with set := set, tA := tA, tn := tn, tc := tc, td := td, steps := steps } :=
  ⟨h.rd, h.ok, h.n1, h.n2, h.mvs, h.aw, h.r0, h.r1, h.len⟩
theorem ok_small {q : Prg} (hg : GoodP q) {s : Sta} (h : okS q s) : ∀ k, k ∈ s.reads → k < 65536 := fun k hk => by
  have := h.2 k hk
  have := hg.n1
  omega
theorem Inv.found {K : Mem} {x : Df} (h : Inv K x) (hg : GoodP x.q) {s : Sta} (hs : okS x.q s) (hd : s.dead = false) {v : Value} (hf : findL (keyB s) x.nl = some v) : ∃ r, v = .int .i64 r ∧ Num x.sts r s := by
  obtain ⟨i, y, h1, h2, h3⟩ := h.n2 _ _ hf
  have hy := h.ok y (List.mem_of_getElem? h1)
  have := keyB_inj (ok_small hg hs) (ok_small hg hy.1) h2
  exact ⟨_, h3, .inr ⟨hd, i, y, rfl, h1, this.symm⟩⟩
theorem Inv.push {K : Mem} {x : Df} (h : Inv K x) (hg : GoodP x.q) {y : SC} (hs : okS x.q y.s) (hd : y.s.dead = false) (hr : Rd K y.A (nv y.s.reads)) (hf : findL (keyB y.s) x.nl = none) (hl : ((x.sts.length : Nat) : Int) < x.room) (sA : Option Addr) (sc : Nat) :
    Inv K { x with sts := x.sts ++ [y], nl := x.nl ++ [(keyB y.s, .int .i64 ((x.sts.length : Nat) : Int))], sA := sA, sc := sc } := by
  have hlast : (x.sts ++ [y])[x.sts.length]? = some y := by simp
  have hin : ∀ (i : Nat) z, (x.sts ++ [y])[i]? = some z → x.sts[i]? = some z ∨ (i = x.sts.length ∧ z = y) := fun i z hz => by
    rcases Nat.lt_or_ge i x.sts.length with h1 | h1
    · rw [List.getElem?_append_left h1] at hz
      exact .inl hz
    · have h2 := (List.getElem?_eq_some_iff.1 hz).1
      rw [List.length_append, List.length_singleton] at h2
      have : i = x.sts.length := by omega
      subst this
      rw [hlast] at hz
      cases hz
      exact .inr ⟨rfl, rfl⟩
  refine ⟨fun z hz => ?_, fun z hz => ?_, fun i z hz => ?_, fun k v hk => ?_, fun ks v hk => ?_, h.aw, h.r0, h.r1, by simp only [List.length_append, List.length_singleton]; omega⟩
  · rcases List.mem_append.1 hz with hz | hz
    · exact h.rd z hz
    · rw [List.mem_singleton] at hz
      subst hz
      exact hr
  · rcases List.mem_append.1 hz with hz | hz
    · exact h.ok z hz
    · rw [List.mem_singleton] at hz
      subst hz
      exact ⟨hs, hd⟩
  · show findL (keyB z.s) (x.nl ++ _) = _
    rw [findL_app]
    rcases hin i z hz with h1 | ⟨rfl, rfl⟩
    · rw [h.n1 i z h1]
    · rw [hf]
      simp
  · have hk : findL k (x.nl ++ [(keyB y.s, .int .i64 ((x.sts.length : Nat) : Int))]) = some v := hk
    rw [findL_app] at hk
    cases hc : findL k x.nl with
    | some w =>
      rw [hc] at hk
      simp only [Option.some.injEq] at hk
      subst hk
      obtain ⟨i, z, h1, h2, h3⟩ := h.n2 k w hc
      exact ⟨i, z, Ext.app i z h1, h2, h3⟩
    | none =>
      rw [hc] at hk
      simp only at hk
      split at hk
      · rename_i hkk
        cases hk
        exact ⟨_, y, hlast, hkk.symm, rfl⟩
      · cases hk
  · obtain ⟨s, h1, h2⟩ := h.mvs ks v hk
    exact ⟨s, h1.mono Ext.app, h2.mono Ext.app⟩
/-- A move is noted. -/
theorem Inv.note {K : Mem} {x : Df} (h : Inv K x) {ks : List Int} {v : Int} {s : Sta} {a' : Abs} (hw : a'.w = x.a.w) (hf : a'.f = updF x.a.f ks (some v)) (hk : Key x.q x.sts ks s) (hn : Num x.sts v s) : Inv K { x with a := a' } := by
  refine ⟨h.rd, h.ok, h.n1, h.n2, fun ks' v' hv => ?_, hw.trans h.aw, h.r0, h.r1, h.len⟩
  simp only at hv
  rw [hf] at hv
  unfold updF at hv
  split at hv
  · rename_i he
    cases hv
    exact ⟨s, he ▸ hk, hn⟩
  · exact h.mvs ks' v' hv
/-- Two rising rows of the same numbers are one. -/
theorem rising_ext : ∀ {l r : List Int}, l.Pairwise (· < ·) → r.Pairwise (· < ·) → (∀ x, x ∈ l ↔ x ∈ r) → l = r
  | [], [], _, _, _ => rfl
  | [], b :: r, _, _, h => absurd ((h b).2 (by simp)) (by simp)
  | a :: l, [], _, _, h => absurd ((h a).1 (by simp)) (by simp)
  | a :: l, b :: r, hl, hr, h => by
    rw [List.pairwise_cons] at hl hr
    have hab : a = b := by
      have h1 := (h a).1 (by simp)
      have h2 := (h b).2 (by simp)
      rw [List.mem_cons] at h1 h2
      rcases h1 with h1 | h1
      · exact h1
      · rcases h2 with h2 | h2
        · exact h2.symm
        · have := hl.1 b h2
          have := hr.1 a h1
          omega
    subst hab
    rw [rising_ext hl.2 hr.2 fun x => ?_]
    have := h x
    rw [List.mem_cons, List.mem_cons] at this
    constructor
    · intro hx
      have h1 := hl.1 x hx
      exact (this.1 (.inr hx)).resolve_left (by omega)
    · intro hx
      have h1 := hr.1 x hx
      exact (this.2 (.inr hx)).resolve_left (by omega)
theorem up_rise {l : List Nat} (h : l.Nodup) : (Mk.up (Mk.cast l)).Pairwise (· < ·) := by
  have hs : (Mk.up (Mk.cast l)).Pairwise (fun x y => decide (x ≤ y) = true) := List.pairwise_mergeSort (fun a b c h1 h2 => by simp only [decide_eq_true_eq] at *; omega) (fun a b => by simp only [Bool.or_eq_true, decide_eq_true_eq]; omega) _
  have hn : (Mk.up (Mk.cast l)).Nodup := (List.mergeSort_perm _ _).nodup_iff.2 (show (l.map fun x => ((x : Nat) : Int)).Nodup from List.pairwise_map.2 (h.imp fun h e => h (by omega)))
  refine (hs.and hn).imp fun ⟨h1, h2⟩ => ?_
  simp only [decide_eq_true_eq] at h1
  omega
theorem up_eq {l r : List Nat} (h : l.Nodup) (hr : r.Pairwise (· < ·)) (hm : ∀ x, x ∈ l ↔ x ∈ r) : Mk.up (Mk.cast l) = r.map fun x => ((x : Nat) : Int) := by
  refine rising_ext (up_rise h) (List.pairwise_map.2 (hr.imp fun h => by omega)) fun x => ?_
  rw [show x ∈ Mk.up (Mk.cast l) ↔ x ∈ Mk.cast l from (List.mergeSort_perm _ _).mem_iff]
  show x ∈ l.map _ ↔ _
  simp only [List.mem_map, hm]
theorem rds_up {A : Au} {f l : Bool} {S : List Nat} : (rds A f l S).Pairwise (· < ·) := by
  unfold rds
  exact List.pairwise_lt_range.filter _
end Go.Proofs.Ytkkcdfnlmhmheaa
/- Dfa: made. -/
namespace Go.Proofs.Ytkkcdfnlmhmheaa
open Go Go.Mv
set_option maxHeartbeats 2000000
set_option maxRecDepth 10000
set_option linter.unusedVariables false
set_option linter.unusedSimpArgs false
attribute [local irreducible] FCalls IntKind.wrap bits Mem.set Mem.setCell Mem.setCells YCalls RunP NextP RunU
theorem Df.inn {K m : Mem} {d : Nat} {x : Df} {R : List Asn} {B : Asn} (h : Sep (B :: x.parts K d R) m) : Sep (x.parts K d (B :: R)) m := h.back (j := 7) (by simp [Df.parts])
theorem Df.out {K m : Mem} {d : Nat} {x : Df} {R : List Asn} {B : Asn} (h : Sep (x.parts K d (B :: R)) m) : Sep (B :: x.parts K d R) m := Sep.move (L := x.parts K d (B :: R)) 7 h rfl
theorem Df.inn2 {K m : Mem} {d : Nat} {x : Df} {R : List Asn} {B C : Asn} (h : Sep (B :: C :: x.parts K d R) m) : Sep (x.parts K d (B :: C :: R)) m := by
  have h1 : Sep (B :: (x.parts K d (C :: R))) m := by
    have h2 : Sep (C :: B :: x.parts K d R) m := h.move 1 rfl
    exact h2.back (j := 8) (by simp [Df.parts])
  exact h1.back (j := 7) (by simp [Df.parts])
theorem Df.out2 {K m : Mem} {d : Nat} {x : Df} {R : List Asn} {B C : Asn} (h : Sep (x.parts K d (B :: C :: R)) m) : Sep (B :: C :: x.parts K d R) m := by
  have h1 : Sep (C :: x.parts K d (B :: R)) m := Sep.move (L := x.parts K d (B :: C :: R)) 8 h rfl
  exact Sep.move (L := C :: x.parts K d (B :: R)) 8 h1 rfl
theorem Df.inn3 {K m : Mem} {d : Nat} {x : Df} {R : List Asn} {A B C : Asn} (h : Sep (A :: B :: C :: x.parts K d R) m) : Sep (x.parts K d (B :: C :: A :: R)) m :=
  Df.inn2 (show Sep (B :: C :: x.parts K d (A :: R)) m from h.back (j := 9) (by simp [Df.parts]))
theorem Df.out3 {K m : Mem} {d : Nat} {x : Df} {R : List Asn} {A B C : Asn} (h : Sep (x.parts K d (B :: C :: A :: R)) m) : Sep (A :: B :: C :: x.parts K d R) m :=
  Sep.move (L := B :: C :: x.parts K d (A :: R)) 9 (Df.out2 h) rfl
theorem freeze_d {K m : Mem} {d n c : Nat} {x : Df} {R : List Asn} {A : Option Addr} {vs : List Value} (h : Sep (sl A n c 1 vs :: x.parts K d R) m) : ∃ K', K.le K' ∧ Rd K' A vs ∧ Sep (x.parts K' d R) m := by
  obtain ⟨K', h1, h2, h3⟩ := freeze (Sep.move (L := kp K :: sl A n c 1 vs :: pt d x.hd.cells :: Mk.mk x.st x.q.ins.length x.set :: sl x.tA x.tn x.tc 1 x.td :: sl x.sA x.sts.length x.sc 4 (scells x.sts) :: mp x.nb x.nl :: tb K x.mv x.a :: R) 7 (Sep.move (L := sl A n c 1 vs :: x.parts K d R) 4 h rfl) rfl)
  exact ⟨K', h1, h2, Df.ofTb h3⟩
theorem freeze3 {K m : Mem} {d n c : Nat} {x : Df} {R : List Asn} {A : Option Addr} {vs : List Value} {B C : Asn} (h : Sep (sl A n c 1 vs :: B :: C :: x.parts K d R) m) : ∃ K', K.le K' ∧ Rd K' A vs ∧ Sep (B :: C :: x.parts K' d R) m := by
  obtain ⟨K', h1, h2, h3⟩ := freeze_d (R := B :: C :: R) (Sep.move (L := x.parts K d (B :: C :: sl A n c 1 vs :: R)) 9 (Df.inn3 h) rfl)
  exact ⟨K', h1, h2, Df.out2 h3⟩
theorem look_some {m : Mem} {b : Nat} {l : MapL} {k : ByteArray} {v : Value} {K : Value → Mem → Prop} (h : mp b l m) (hf : findL k l = some v) (hK : K (.tuple #[v, .bool true]) m) : RunP Try.prog (Instr.lookup 58 (.map (some b)) (.string k) true) m K :=
  map_look h u58 u9 Try.zeroValue3 (by rw [hf]; exact hK)
theorem look_none {m : Mem} {b : Nat} {l : MapL} {k : ByteArray} {K : Value → Mem → Prop} (h : mp b l m) (hf : findL k l = none) (hK : K (.tuple #[.int .i64 0, .bool false]) m) : RunP Try.prog (Instr.lookup 58 (.map (some b)) (.string k) true) m K :=
  map_look h u58 u9 Try.zeroValue3 (by rw [hf]; exact hK)
theorem Df.rest {K m : Mem} {d : Nat} {x : Df} {R : List Asn} (h : Sep (x.parts K d R) m) : Sep R m := (((((((show Sep (x.parts K d R) m from h).drop 0).drop 0).drop 0).drop 0).drop 0).drop 0).drop 0
def Df.seen (x : Df) (set : List Nat) (tA : Option Addr) (tn tc : Nat) (td : List Value) (steps : Nat) : Df := { x with set := set, tA := tA, tn := tn, tc := tc, td := td, steps := steps }
/-- closed, of a whole automaton. -/
theorem closed_d {m K : Mem} {R : List Asn} {d : Nat} {x : Df} {f l : Bool} {S : List Nat} {A : Option Addr} {c : Nat} (hS : Sep (x.parts K d R) m) (hq : x.q.at K) (hg : GoodP x.q)
    (hI : ∀ M, Sep R M → Rd M A (nv S)) (hlt : ∀ k, k ∈ S → k < x.q.ins.length) (hn : S.length < 4611686018427387904) :
    FCalls Try.prog 57 [.pointer (some ⟨d, 0, none⟩), .slice A S.length c, .bool f, .bool l] m fun v m' => v = .bool (mts (auOf x.q) f l S) ∧ ∃ set tA tn tc td,
      Sep ((x.seen set tA tn tc td (x.steps + set.length)).parts K d R) m' ∧ set.length ≤ x.q.ins.length ∧ set.Nodup ∧ ∀ k, k ∈ set ↔ Rch (auOf x.q) f l S k := by
  refine (closed_c (h := x.hd) (K := K) (d := d) (set := x.set) (td := x.td) (f := f) (l := l) (S := S) (A := A) (c := c) hS hq hg (fun M hM => hI M ((((hM.drop 0).drop 0).drop 0).drop 0)) hlt hn).mono ?_
  rintro v m' ⟨rfl, set, tA, tn, tc, td, h1, h2⟩
  have h3 := Mk.mk_at h1 1 rfl
  exact ⟨rfl, set, tA, tn, tc, td, h1, (Mk.mk_small h3).2.1, Mk.mk_nodup h3, h2⟩
theorem sort_nv {m : Mem} {A : Option Addr} {c : Nat} {l r : List Nat} (h : sl A l.length c 1 (nv l) m) (hn : l.length < 4611686018427387904) (hnd : l.Nodup) (hr : r.Pairwise (· < ·)) (hm : ∀ k, k ∈ l ↔ k ∈ r) :
    FCalls Try.prog 59 [.slice A l.length c] m fun v m' => v = .tuple #[] ∧ sl A l.length c 1 (nv r) m' := by
  have e1 : nv l = ints (Mk.cast l) := by simp [nv, ints, Mk.cast]
  have e2 : (Mk.cast l).length = l.length := by simp [Mk.cast]
  rw [e1, ← e2] at h
  have h3 := sort_sl h (by rw [e2]; exact hn)
  rw [e2] at h3
  refine h3.mono fun v m' ⟨h4, h5⟩ => ⟨h4, ?_⟩
  rw [up_eq hnd hr hm] at h5
  have e3 : nv r = ints (r.map fun x => ((x : Nat) : Int)) := by simp [nv, ints]
  rw [e3]
  exact h5
theorem len_eq {l r : List Nat} (hnd : l.Nodup) (hr : r.Pairwise (· < ·)) (hm : ∀ k, k ∈ l ↔ k ∈ r) : l.length = r.length := by
  have := congrArg List.length (up_eq hnd hr hm)
  simpa [Mk.up, Mk.cast, List.length_mergeSort] using this
theorem made_c {m K : Mem} {R : List Asn} {d : Nat} {x : Df} {f aw : Bool} {S : List Nat} {A : Option Addr} {c : Nat} (hS : Sep (x.parts K d R) m) (hq : x.q.at K) (hg : GoodP x.q) (hv : Inv K x)
    (hI : ∀ M, Sep R M → Rd M A (nv S)) (hlt : ∀ k, k ∈ S → k < x.q.ins.length) (hn : S.length < 4611686018427387904) :
    FCalls Try.prog 49 [.pointer (some ⟨d, 0, none⟩), .slice A S.length c, .bool f, .bool aw] m fun v m' => ∃ r K' x', v = .int .i64 r ∧ K.le K' ∧ Sep (x'.parts K' d R) m' ∧ Inv K' x' ∧ x'.q = x.q ∧ x'.room = x.room ∧
      Num x'.sts r (sta (auOf x.q) S f aw) ∧ x.steps ≤ x'.steps ∧ x'.steps ≤ x.steps + 2 * x.q.ins.length ∧ ((x'.flushes = x.flushes ∧ x'.a = x.a ∧ Ext x.sts x'.sts) ∨ x'.flushes = x.flushes + 1) := by
  have hn1 := hg.n1
  obtain ⟨s, hs⟩ : ∃ s, s = sta (auOf x.q) S f aw := ⟨_, rfl⟩
  have hok : okS x.q s := hs ▸ okS_sta hg
  rw [← hs]
  refine fcalls_of_vc (T := tbl) (B := bodies) (pr := [99999]) (DR := (100016, 0) :: dr49) (args := [.v (.pointer (some ⟨d, 0, none⟩)), .v (.slice A S.length c), .v (.bool f), .v (.bool aw)]) tbl_ok bodies_ok mixed Try.func49 rfl (by decide +kernel) (by simp [Try.f49]) rfl ?_
  (conv => whnf)
  intro b4 m1 hb he
  replace hS := hS.new' (l := [.pointer (some ⟨d, 0, none⟩)]) hb he
  clear hb he
  (conv => whnf)
  intro b9 m2 hb he
  replace hS := hS.new' (l := [.slice none 0 0, .bool false, .bool false, .bool false]) hb he
  clear hb he
  (conv => whnf)
  refine ⟨hS.rooms 0 (i := 0) rfl (by decide), fun m3 he => ?_⟩
  replace hS : Sep (pt b9 [.slice none 0 0, .bool false, .bool false, .bool aw] :: pt b4 [.pointer (some ⟨d, 0, none⟩)] :: x.parts K d R) m3 := he ▸ hS.putAll 0 (i := 0) [.slice none 0 0, .bool false, .bool false, .bool aw] rfl
  clear he
  (conv => whnf)
  refine ⟨_, hS.cell 1 (i := 0) rfl rfl, ?_⟩
  (conv => whnf)
  refine FCalls.mono (closed_d (x := x) (R := pt b9 [.slice none 0 0, .bool false, .bool false, .bool aw] :: pt b4 [.pointer (some ⟨d, 0, none⟩)] :: R) (f := f) (l := true) (S := S) (A := A) (c := c) (Df.inn2 hS) hq hg (fun M hM => hI M ((hM.drop 0).drop 0)) hlt hn) ?_
  clear hS
  rintro v m4 ⟨rfl, set1, tA1, tn1, tc1, td1, hS, hl1, _, _⟩
  replace hS := Df.out2 hS
  rw [show mts (auOf x.q) f true S = s.ae by rw [hs]; rfl]
  (conv => whnf)
  refine ⟨hS.room 0 (i := 2) rfl rfl, fun m5 he => ?_⟩
  replace hS := hS.put' 0 he rfl
  clear he
  (conv => whnf)
  refine ⟨_, hS.cell 1 (i := 0) rfl rfl, ?_⟩
  (conv => whnf)
  refine FCalls.mono (closed_d (x := x.seen set1 tA1 tn1 tc1 td1 (x.steps + set1.length)) (R := pt b9 [.slice none 0 0, .bool false, .bool s.ae, .bool aw] :: pt b4 [.pointer (some ⟨d, 0, none⟩)] :: R) (f := f) (l := false) (S := S) (A := A) (c := c) (Df.inn2 hS) hq hg (fun M hM => hI M ((hM.drop 0).drop 0)) hlt hn) ?_
  clear hS
  rintro v m6 ⟨rfl, set, tA, tn, tc, td, hS, hl2, hnd, hmem⟩
  obtain ⟨x1, hx1⟩ : ∃ x1, x1 = (x.seen set1 tA1 tn1 tc1 td1 (x.steps + set1.length)).seen set tA tn tc td ((x.seen set1 tA1 tn1 tc1 td1 (x.steps + set1.length)).steps + set.length) := ⟨_, rfl⟩
  rw [← hx1] at hS
  have hst1 : x1.steps = x.steps + set1.length + set.length := by rw [hx1]; rfl
  have hq1 : x1.q = x.q := by rw [hx1]; rfl
  have hset : x1.set = set := by rw [hx1]; rfl
  have hv1 : Inv K x1 := by rw [hx1]; exact (hv.set _ _ _ _ _ _).set _ _ _ _ _ _
  have hsame : x1.room = x.room ∧ x1.flushes = x.flushes ∧ x1.a = x.a ∧ x1.sts = x.sts := by rw [hx1]; exact ⟨rfl, rfl, rfl, rfl⟩
  clear hx1
  replace hS := Df.out2 hS
  rw [show mts (auOf (x.seen set1 tA1 tn1 tc1 td1 (x.steps + set1.length)).q) f false S = s.mt by rw [hs]; rfl]
  (conv => whnf)
  refine ⟨hS.room 0 (i := 1) rfl rfl, fun m7 he => ?_⟩
  replace hS : Sep (pt b9 [.slice none 0 0, .bool s.mt, .bool s.ae, .bool aw] :: pt b4 [.pointer (some ⟨d, 0, none⟩)] :: x1.parts K d R) m7 := hS.put' 0 he rfl
  clear he
  (conv => whnf)
  refine ⟨_, hS.cell 1 (i := 0) rfl rfl, ?_⟩
  (conv => whnf)
  refine ⟨_, hS.cell 2 (i := 8) rfl rfl, ?_⟩
  (conv => whnf)
  refine FCalls.mono Mk.all_s fun v m8 ⟨bA, hvA, h2⟩ => ?_
  subst hvA
  replace hS := hS.on (N := [_]) h2
  clear h2
  (conv => whnf)
  refine Mk.range_all (p := x1.st) (room := x1.q.ins.length) (l := x1.set) (hS.cell 0 (i := 0) rfl rfl) (Mk.mk_at hS 4 rfl) rfl
    (fun j M => ∃ rA rc, Sep (sl rA ((x1.set.take j).filter (auOf x.q).isB).length rc 1 (nv ((x1.set.take j).filter (auOf x.q).isB)) :: pt b9 [.slice rA ((x1.set.take j).filter (auOf x.q).isB).length rc, .bool s.mt, .bool s.ae, .bool aw] :: pt b4 [.pointer (some ⟨d, 0, none⟩)] :: x1.parts K d R) M)
    ⟨none, 0, Sep.free (hS.drop 0) sl_nil⟩ (fun j k M hk ⟨rA, rc, hS⟩ => ?_) (fun M ⟨rA, rc, hS⟩ => ?_)
  · have hkl : k < x.q.ins.length := by
      have := (Mk.mk_small (Mk.mk_at hS 4 rfl)).2.2 k (List.mem_of_getElem? hk)
      rwa [hq1] at this
    obtain ⟨i, hi⟩ : ∃ i, x.q.ins[k]? = some i := ⟨_, List.getElem?_eq_getElem hkl⟩
    obtain ⟨pi, hpi, hci⟩ := ins_at (hq.more (hS.kept 6 rfl)) hi
    have hB : (auOf x.q).isB k = decide (i.op = 1) := by unfold auOf; simp only [hi]
    have hfl : ((x1.set.take j).filter (auOf x.q).isB).length ≤ 40000 := by
      refine Nat.le_trans (List.length_filter_le _ _) ?_
      rw [List.length_take, hset]
      have : set.length ≤ x.q.ins.length := hl2
      omega
    have htk : (x1.set.take (j + 1)).filter (auOf x.q).isB = (x1.set.take j).filter (auOf x.q).isB ++ (if (auOf x.q).isB k then [k] else []) := by
      rw [List.take_add_one, hk, List.filter_append]
      congr 1
      show List.filter _ [k] = _
      cases hb : (auOf x.q).isB k <;> simp [List.filter, hb]
    (conv => whnf)
    refine ⟨_, hS.cell 2 (i := 0) rfl rfl, ?_⟩
    (conv => whnf)
    refine ⟨_, _, _, hS.cell 3 (i := 0) rfl rfl, ?_⟩
    (conv => whnf)
    refine ⟨pi, (by show x1.q.A = _; rw [hq1]; exact hpi), by omega, by show ((k : Nat) : Int) < ((x1.q.ins.length : Nat) : Int); rw [hq1]; omega, ?_⟩
    (conv => whnf)
    refine ⟨_, hci 0 _ rfl, ?_⟩
    (conv => whnf)
    refine brk_intro (fun c2 => ?_) (fun c2 => ?_)
    · have c2 : i.op = 1 := by simpa using c2
      rw [hB, decide_eq_true c2, if_pos rfl] at htk
      (conv => whnf)
      refine ⟨_, _, _, hS.cell 1 (i := 0) rfl rfl, ?_⟩
      (conv => whnf)
      intro nb m11 hb he
      replace hS := hS.new' (l := nv [k]) hb he
      have hBn : m11.holds ⟨nb, 0, none⟩ (nv [k]) := (hS.blk 0 rfl).holds fun k v hk => by rw [Nat.zero_add]; exact hk
      clear hb he
      (conv => whnf)
      obtain ⟨ok, hR⟩ := hS.app 1 (T := tbl) (e := 3) (news := nv [k]) (k := 1) (B := some ⟨nb, 0, none⟩) rfl rfl (.inr ⟨_, rfl, hBn⟩) rfl rfl (by show 2 * (_ + 1) * 8 ≤ 2 ^ 48; omega) rfl
      refine ⟨_, _, ok, fun A' c' m12 hr => ?_⟩
      replace hS := (hR _ _ _ hr).drop 0
      clear ok hR hr hBn
      (conv => whnf)
      refine ⟨hS.room 1 (i := 0) rfl rfl, fun m13 he => ?_⟩
      replace hS := hS.put' 1 he rfl
      clear he
      (conv => whnf)
      refine ⟨A', c', ?_⟩
      rw [htk, nv_app, List.length_append]
      exact hS
    · have c2 : i.op ≠ 1 := by simpa using c2
      rw [hB, decide_eq_false c2, if_neg (by simp), List.append_nil] at htk
      (conv => whnf)
      refine ⟨rA, rc, ?_⟩
      rw [htk]
      exact hS
  rw [List.take_length] at hS
  have hfr : ∀ k, k ∈ x1.set.filter (auOf x.q).isB ↔ k ∈ s.reads := fun k => by
    rw [hs]
    show _ ↔ k ∈ rds (auOf x.q) f false S
    rw [mem_rds, List.mem_filter, hset, hmem]
    exact ⟨fun ⟨h1, h2⟩ => ⟨rch_lt hg hlt h1, h1, h2⟩, fun ⟨_, h1, h2⟩ => ⟨h1, h2⟩⟩
  have hrise : s.reads.Pairwise (· < ·) := by rw [hs]; exact rds_up
  have hnd2 : (x1.set.filter (auOf x.q).isB).Nodup := by rw [hset]; exact hnd.filter _
  have hlen := len_eq hnd2 hrise hfr
  have hlen4 : s.reads.length ≤ 40000 := Nat.le_trans hok.1 hn1
  (conv => whnf)
  refine ⟨_, _, _, hS.cell 1 (i := 0) rfl rfl, ?_⟩
  (conv => whnf)
  refine FCalls.mono (hS.call 0 rfl fun m1 h1 => sort_nv h1 (by omega) hnd2 hrise hfr) ?_
  rintro v m9 ⟨m10, ⟨rfl, h1⟩, h2⟩
  replace hS := h2.one h1
  clear h1 h2
  rw [hlen] at hS
  have hsv : s.aw = aw := by rw [hs]; rfl
  have hdd : s.dead = (s.reads.isEmpty && !s.mt && !s.ae && !s.aw) := rfl
  (conv => whnf)
  refine ⟨_, _, _, hS.cell 1 (i := 0) rfl rfl, ?_⟩
  (conv => whnf)
  have e0 : (((s.reads.length : Nat) : Int) == 0) = s.reads.isEmpty := by
    cases s.reads with
    | nil => rfl
    | cons a l => simp only [List.length_cons, List.isEmpty_cons, beq_eq_false_iff_ne, ne_eq]; omega
  have hways : s.dead = true ∨ (s.dead = false ∧ s.reads ≠ []) ∨ (s.dead = false ∧ s.reads = [] ∧ s.mt = true) ∨ (s.dead = false ∧ s.reads = [] ∧ s.mt = false ∧ s.ae = true) ∨ (s.dead = false ∧ s.reads = [] ∧ s.mt = false ∧ s.ae = false ∧ aw = true) := by
    rw [← hsv, hdd]
    cases s.reads <;> cases s.mt <;> cases s.ae <;> cases s.aw <;> simp
  have hfin : s.dead = true → ∃ r K' x', Value.int .i64 (-1) = .int .i64 r ∧ K.le K' ∧ Sep (x'.parts K' d R) m9 ∧ Inv K' x' ∧ x'.q = x.q ∧ x'.room = x.room ∧
      Num x'.sts r s ∧ x.steps ≤ x'.steps ∧ x'.steps ≤ x.steps + 2 * x.q.ins.length ∧ ((x'.flushes = x.flushes ∧ x'.a = x.a ∧ Ext x.sts x'.sts) ∨ x'.flushes = x.flushes + 1) := fun hd =>
    ⟨-1, K, x1, rfl, Mem.le_refl _, ((hS.drop 0).drop 0).drop 0, hv1, hq1, hsame.1, .inl ⟨hd, rfl⟩, by omega, by have : set.length ≤ x.q.ins.length := hl2; omega, .inl ⟨hsame.2.1, hsame.2.2.1, by rw [hsame.2.2.2]; exact Ext.refl⟩⟩
  rcases hways with hd | ⟨hd, h1⟩ | ⟨hd, h1, h2⟩ | ⟨hd, h1, h2, h3⟩ | ⟨hd, h1, h2, h3, h4⟩
  · have hd' := hd
    rw [hdd] at hd'
    simp only [Bool.and_eq_true, Bool.not_eq_true'] at hd'
    obtain ⟨⟨⟨g1, g2⟩, g3⟩, g4⟩ := hd'
    rw [hsv] at g4
    refine brk_true (by rw [e0, g1]; rfl) ?_
    (conv => whnf)
    refine ⟨_, hS.cell 1 (i := 1) rfl rfl, ?_⟩
    (conv => whnf)
    refine brk_true (by rw [g2]; rfl) ?_
    (conv => whnf)
    refine ⟨_, hS.cell 1 (i := 2) rfl rfl, ?_⟩
    (conv => whnf)
    refine brk_true (by rw [g3]; rfl) ?_
    (conv => whnf)
    refine brk_true (by rw [g4]; rfl) ?_
    (conv => whnf)
    exact hfin hd
  case' inr.inl =>
    have h1' : s.reads.isEmpty = false := by simpa using h1
    refine brk_false (by rw [e0, h1']; rfl) ?_
    (conv => whnf)
  case' inr.inr.inl =>
    have h1' : s.reads.isEmpty = true := by simpa using h1
    refine brk_true (by rw [e0, h1']; rfl) ?_
    (conv => whnf)
    refine ⟨_, hS.cell 1 (i := 1) rfl rfl, ?_⟩
    (conv => whnf)
    refine brk_false (by rw [h2]; rfl) ?_
    (conv => whnf)
  case' inr.inr.inr.inl =>
    have h1' : s.reads.isEmpty = true := by simpa using h1
    refine brk_true (by rw [e0, h1']; rfl) ?_
    (conv => whnf)
    refine ⟨_, hS.cell 1 (i := 1) rfl rfl, ?_⟩
    (conv => whnf)
    refine brk_true (by rw [h2]; rfl) ?_
    (conv => whnf)
    refine ⟨_, hS.cell 1 (i := 2) rfl rfl, ?_⟩
    (conv => whnf)
    refine brk_false (by rw [h3]; rfl) ?_
    (conv => whnf)
  case' inr.inr.inr.inr =>
    have h1' : s.reads.isEmpty = true := by simpa using h1
    refine brk_true (by rw [e0, h1']; rfl) ?_
    (conv => whnf)
    refine ⟨_, hS.cell 1 (i := 1) rfl rfl, ?_⟩
    (conv => whnf)
    refine brk_true (by rw [h2]; rfl) ?_
    (conv => whnf)
    refine ⟨_, hS.cell 1 (i := 2) rfl rfl, ?_⟩
    (conv => whnf)
    refine brk_true (by rw [h3]; rfl) ?_
    (conv => whnf)
    refine brk_false (by rw [h4]; rfl) ?_
    (conv => whnf)
  all_goals
    rw [← hsv] at hS
    clear hfin e0
    refine ⟨_, _, _, hS.cell 1 (i := 0) rfl rfl, ?_⟩
    (conv => whnf)
    refine ⟨_, hS.cell 1 (i := 1) rfl rfl, ?_⟩
    (conv => whnf)
    refine ⟨_, hS.cell 1 (i := 2) rfl rfl, ?_⟩
    (conv => whnf)
    refine ⟨_, hS.cell 1 (i := 3) rfl rfl, ?_⟩
    (conv => whnf)
    refine FCalls.mono (key_c (x := ⟨rA, rc, s⟩) (hS.rd 0 rfl) (by show s.reads.length ≤ _; omega)) ?_
    rintro v m11 ⟨rfl, rfl⟩
    (conv => whnf)
    refine ⟨_, hS.cell 2 (i := 0) rfl rfl, ?_⟩
    (conv => whnf)
    refine ⟨_, hS.cell 3 (i := 6) rfl rfl, ?_⟩
    (conv => whnf)
    cases hf : findL (keyB s) x1.nl with
    | some w =>
      obtain ⟨r, rfl, hnum⟩ := hv1.found (by rw [hq1]; exact hg) (by rw [hq1]; exact hok) hd hf
      refine look_some (mp_at hS 8 rfl) hf ?_
      (conv => whnf)
      exact ⟨r, K, x1, rfl, Mem.le_refl _, ((hS.drop 0).drop 0).drop 0, hv1, hq1, hsame.1, hnum, by omega, by have : set.length ≤ x.q.ins.length := hl2; omega, .inl ⟨hsame.2.1, hsame.2.2.1, by rw [hsame.2.2.2]; exact Ext.refl⟩⟩
    | none =>
      refine look_none (mp_at hS 8 rfl) hf ?_
      (conv => whnf)
      refine join_keep [4, 9, 11] (Mem × Mem × Df) (fun _ => []) (fun z => z.1) (fun z => Sep (sl rA s.reads.length rc 1 (nv s.reads) :: pt b9 [.slice rA s.reads.length rc, .bool s.mt, .bool s.ae, .bool s.aw] :: pt b4 [.pointer (some ⟨d, 0, none⟩)] :: z.2.2.parts z.2.1 d R) z.1 ∧ K.le z.2.1 ∧ Inv z.2.1 z.2.2 ∧ findL (keyB s) z.2.2.nl = none ∧ ((z.2.2.sts.length : Nat) : Int) < z.2.2.room ∧ z.2.2.q = x.q ∧ z.2.2.room = x.room ∧ z.2.2.steps = x1.steps ∧ ((z.2.2.flushes = x.flushes ∧ z.2.2.a = x.a ∧ Ext x.sts z.2.2.sts) ∨ z.2.2.flushes = x.flushes + 1)) ?_
      (conv => whnf)
      refine ⟨?_, ?_⟩
      · (conv => whnf)
        refine ⟨_, hS.cell 2 (i := 0) rfl rfl, ?_⟩
        (conv => whnf)
        refine ⟨_, _, _, hS.cell 3 (i := 5) rfl rfl, ?_⟩
        (conv => whnf)
        refine ⟨_, hS.cell 2 (i := 0) rfl rfl, ?_⟩
        (conv => whnf)
        refine ⟨_, hS.cell 3 (i := 4) rfl rfl, ?_⟩
        (conv => whnf)
        refine brk_intro (fun c1 => ?_) (fun c1 => ?_)
        · (conv => whnf)
          refine ⟨_, hS.cell 2 (i := 0) rfl rfl, ?_⟩
          (conv => whnf)
          refine FCalls.mono (flush_c (Df.inn3 hS)) ?_
          rintro v m12 ⟨rfl, K', a', hK', ha1, ha2, ha3, h2⟩
          (conv => whnf)
          refine ⟨(m12, K', { x1 with sts := [], nl := [], a := a', flushes := x1.flushes + 1 }), le_eq ⟨rfl, rfl, rfl, trivial⟩ rfl rfl rfl, Df.out3 h2, hK', hv1.flush ha1 ha3, rfl, ?_, hq1, hsame.1, rfl, .inr (by show x1.flushes + 1 = _; rw [hsame.2.1])⟩
          have := hv1.r0
          show ((([] : List SC).length : Nat) : Int) < x1.room
          simp
          omega
        · have c1 : ¬ ((x1.sts.length : Nat) : Int) = x1.room := by
            have h9 : (((x1.sts.length : Nat) : Int) == x1.room) = false := c1
            simpa using h9
          (conv => whnf)
          refine ⟨(_, K, x1), le_eq ⟨rfl, rfl, rfl, trivial⟩ rfl rfl rfl, hS, Mem.le_refl _, hv1, hf, ?_, hq1, hsame.1, rfl, .inl ⟨hsame.2.1, hsame.2.2.1, by rw [hsame.2.2.2]; exact Ext.refl⟩⟩
          have := hv1.len
          show ((x1.sts.length : Nat) : Int) < x1.room
          omega
      rintro ⟨M2, K2, x2⟩ ⟨hS, hK2, hv2, hf2, hl2', hq2, hr2, hst2, hfl2⟩
      dsimp only at hS hK2 hv2 hf2 hl2' hq2 hr2 hst2 hfl2
      obtain ⟨K3, hK3, hrd, h3⟩ := freeze3 hS
      replace hS := h3
      have hv3 := hv2.up hK3
      have hgq2 : GoodP x2.q := by rw [hq2]; exact hg
      have hpush := fun sA sc => hv3.push hgq2 (y := ⟨rA, rc, s⟩) (by rw [hq2]; exact hok) hd hrd hf2 hl2' sA sc
      (conv => whnf)
      refine ⟨_, hS.cell 1 (i := 0) rfl rfl, ?_⟩
      (conv => whnf)
      refine ⟨_, _, _, hS.cell 2 (i := 5) rfl rfl, ?_⟩
      (conv => whnf)
      refine ⟨_, _, _, hS.cell 0 (i := 0) rfl rfl, ?_⟩
      (conv => whnf)
      refine ⟨_, hS.cell 0 (i := 1) rfl rfl, ?_⟩
      (conv => whnf)
      refine ⟨_, hS.cell 0 (i := 2) rfl rfl, ?_⟩
      (conv => whnf)
      refine ⟨_, hS.cell 0 (i := 3) rfl rfl, ?_⟩
      (conv => whnf)
      refine ⟨?_, ?_⟩
      · (conv => whnf)
        refine ⟨_, hS.cell 1 (i := 0) rfl rfl, ?_⟩
        (conv => whnf)
        intro nb m3 hb he
        replace hS := hS.new' (l := SC.cells (⟨rA, rc, s⟩ : SC)) hb he
        have hBn : m3.holds ⟨nb, 0, none⟩ (SC.cells (⟨rA, rc, s⟩ : SC)) := (hS.blk 0 rfl).holds fun k v hk => by rw [Nat.zero_add]; exact hk
        clear hb he
        (conv => whnf)
        obtain ⟨ok, hR⟩ := hS.app 7 (T := tbl) (e := 82) (news := SC.cells (⟨rA, rc, s⟩ : SC)) (k := 1) (B := some ⟨nb, 0, none⟩) rfl rfl (.inr ⟨_, rfl, hBn⟩) rfl rfl (by show 2 * (x2.sts.length + 1) * 32 ≤ 2 ^ 48; have := hv2.r1; omega) rfl
        refine ⟨_, _, ok, fun A' c' m4 hr => ?_⟩
        replace hS := (hR _ _ _ hr).drop 0
        clear ok hR hr hBn
        (conv => whnf)
        refine ⟨hS.room 2 (i := 5) rfl rfl, fun m5 he => ?_⟩
        have h5 := hS.put' 2 he rfl
        clear he
        replace hS : Sep (pt b9 [.slice rA s.reads.length rc, .bool s.mt, .bool s.ae, .bool s.aw] :: pt b4 [.pointer (some ⟨d, 0, none⟩)] :: Df.parts K3 d { x2 with sts := x2.sts ++ [⟨rA, rc, s⟩], sA := A', sc := c' } R) m5 := by
          have q1 : (x2.sts ++ [(⟨rA, rc, s⟩ : SC)]).length = x2.sts.length + 1 := by simp
          have q2 : scells (x2.sts ++ [(⟨rA, rc, s⟩ : SC)]) = scells x2.sts ++ SC.cells (⟨rA, rc, s⟩ : SC) := by simp [scells]
          unfold Df.parts Df.hd
          dsimp only
          rw [q1, q2]
          exact h5
        clear h5
        have q3 : IntKind.i64.wrap ((((x2.sts ++ [(⟨rA, rc, s⟩ : SC)]).length : Nat) : Int) - 1) = ((x2.sts.length : Nat) : Int) := by
          have := hv2.r1
          rw [List.length_append, List.length_singleton, wrap_id (by omega) (by omega)]
          omega
        (conv => whnf)
        refine ⟨_, hS.cell 1 (i := 0) rfl rfl, ?_⟩
        (conv => whnf)
        refine ⟨_, hS.cell 2 (i := 6) rfl rfl, ?_⟩
        (conv => whnf)
        refine ⟨_, hS.cell 1 (i := 0) rfl rfl, ?_⟩
        (conv => whnf)
        refine ⟨_, _, _, hS.cell 2 (i := 5) rfl rfl, ?_⟩
        (conv => whnf)
        refine map_push (b := x2.nb) (l := x2.nl) (k := keyB s) (v := .int .i64 (IntKind.i64.wrap ((((x2.sts ++ [(⟨rA, rc, s⟩ : SC)]).length : Nat) : Int) - 1))) (hS.move 7 rfl) u58 u9 hf2 fun m6 h6 => ?_
        rw [q3] at h6
        replace hS : Sep (pt b9 [.slice rA s.reads.length rc, .bool s.mt, .bool s.ae, .bool s.aw] :: pt b4 [.pointer (some ⟨d, 0, none⟩)] :: Df.parts K3 d ({ x2 with sts := x2.sts ++ [⟨rA, rc, s⟩], nl := x2.nl ++ [(keyB s, .int .i64 ((x2.sts.length : Nat) : Int))], sA := A', sc := c' } : Df) R) m6 := h6.back (j := 7) (by simp [Df.parts])
        clear h6
        (conv => whnf)
        refine ⟨_, hS.cell 1 (i := 0) rfl rfl, ?_⟩
        (conv => whnf)
        refine ⟨_, _, _, hS.cell 2 (i := 5) rfl rfl, ?_⟩
        (conv => whnf)
        refine ⟨((x2.sts.length : Nat) : Int), K3, ({ x2 with sts := x2.sts ++ [⟨rA, rc, s⟩], nl := x2.nl ++ [(keyB s, .int .i64 ((x2.sts.length : Nat) : Int))], sA := A', sc := c' } : Df), by rw [← q3]; rfl, Mem.le_trans hK2 hK3, (hS.drop 0).drop 0, hpush A' c', hq2, hr2, .inr ⟨hd, x2.sts.length, ⟨rA, rc, s⟩, rfl, by simp, rfl⟩, by show x.steps ≤ x2.steps; omega, by show x2.steps ≤ _; have : set.length ≤ x.q.ins.length := hl2; omega, hfl2.imp (fun ⟨z1, z2, z3⟩ => ⟨z1, z2, z3.trans Ext.app⟩) id⟩
      · refine ⟨?_, True.intro⟩
        (conv => whnf)
        intro nb m3 hb he
        replace hS := hS.new' (l := SC.cells (⟨rA, rc, s⟩ : SC)) hb he
        have hBn : m3.holds ⟨nb, 0, none⟩ (SC.cells (⟨rA, rc, s⟩ : SC)) := (hS.blk 0 rfl).holds fun k v hk => by rw [Nat.zero_add]; exact hk
        clear hb he
        (conv => whnf)
        refine ⟨?_, ?_⟩
        · (conv => whnf)
          refine ⟨_, hS.cell 2 (i := 0) rfl rfl, ?_⟩
          (conv => whnf)
          obtain ⟨ok, hR⟩ := hS.app 7 (T := tbl) (e := 82) (news := SC.cells (⟨rA, rc, s⟩ : SC)) (k := 1) (B := some ⟨nb, 0, none⟩) rfl rfl (.inr ⟨_, rfl, hBn⟩) rfl rfl (by show 2 * (x2.sts.length + 1) * 32 ≤ 2 ^ 48; have := hv2.r1; omega) rfl
          refine ⟨_, _, ok, fun A' c' m4 hr => ?_⟩
          replace hS := (hR _ _ _ hr).drop 0
          clear ok hR hr hBn
          (conv => whnf)
          refine ⟨hS.room 2 (i := 5) rfl rfl, fun m5 he => ?_⟩
          have h5 := hS.put' 2 he rfl
          clear he
          replace hS : Sep (pt b9 [.slice rA s.reads.length rc, .bool s.mt, .bool s.ae, .bool s.aw] :: pt b4 [.pointer (some ⟨d, 0, none⟩)] :: Df.parts K3 d { x2 with sts := x2.sts ++ [⟨rA, rc, s⟩], sA := A', sc := c' } R) m5 := by
            have q1 : (x2.sts ++ [(⟨rA, rc, s⟩ : SC)]).length = x2.sts.length + 1 := by simp
            have q2 : scells (x2.sts ++ [(⟨rA, rc, s⟩ : SC)]) = scells x2.sts ++ SC.cells (⟨rA, rc, s⟩ : SC) := by simp [scells]
            unfold Df.parts Df.hd
            dsimp only
            rw [q1, q2]
            exact h5
          clear h5
          have q3 : IntKind.i64.wrap ((((x2.sts ++ [(⟨rA, rc, s⟩ : SC)]).length : Nat) : Int) - 1) = ((x2.sts.length : Nat) : Int) := by
            have := hv2.r1
            rw [List.length_append, List.length_singleton, wrap_id (by omega) (by omega)]
            omega
          (conv => whnf)
          refine ⟨_, hS.cell 1 (i := 0) rfl rfl, ?_⟩
          (conv => whnf)
          refine ⟨_, hS.cell 2 (i := 6) rfl rfl, ?_⟩
          (conv => whnf)
          refine ⟨_, hS.cell 1 (i := 0) rfl rfl, ?_⟩
          (conv => whnf)
          refine ⟨_, _, _, hS.cell 2 (i := 5) rfl rfl, ?_⟩
          (conv => whnf)
          refine map_push (b := x2.nb) (l := x2.nl) (k := keyB s) (v := .int .i64 (IntKind.i64.wrap ((((x2.sts ++ [(⟨rA, rc, s⟩ : SC)]).length : Nat) : Int) - 1))) (hS.move 7 rfl) u58 u9 hf2 fun m6 h6 => ?_
          rw [q3] at h6
          replace hS : Sep (pt b9 [.slice rA s.reads.length rc, .bool s.mt, .bool s.ae, .bool s.aw] :: pt b4 [.pointer (some ⟨d, 0, none⟩)] :: Df.parts K3 d ({ x2 with sts := x2.sts ++ [⟨rA, rc, s⟩], nl := x2.nl ++ [(keyB s, .int .i64 ((x2.sts.length : Nat) : Int))], sA := A', sc := c' } : Df) R) m6 := h6.back (j := 7) (by simp [Df.parts])
          clear h6
          (conv => whnf)
          refine ⟨_, hS.cell 1 (i := 0) rfl rfl, ?_⟩
          (conv => whnf)
          refine ⟨_, _, _, hS.cell 2 (i := 5) rfl rfl, ?_⟩
          (conv => whnf)
          refine ⟨((x2.sts.length : Nat) : Int), K3, ({ x2 with sts := x2.sts ++ [⟨rA, rc, s⟩], nl := x2.nl ++ [(keyB s, .int .i64 ((x2.sts.length : Nat) : Int))], sA := A', sc := c' } : Df), by rw [← q3]; rfl, Mem.le_trans hK2 hK3, (hS.drop 0).drop 0, hpush A' c', hq2, hr2, .inr ⟨hd, x2.sts.length, ⟨rA, rc, s⟩, rfl, by simp, rfl⟩, by show x.steps ≤ x2.steps; omega, by show x2.steps ≤ _; have : set.length ≤ x.q.ins.length := hl2; omega, hfl2.imp (fun ⟨z1, z2, z3⟩ => ⟨z1, z2, z3.trans Ext.app⟩) id⟩
        · refine ⟨?_, True.intro⟩
          (conv => whnf)
          obtain ⟨ok, hR⟩ := hS.app 7 (T := tbl) (e := 82) (news := SC.cells (⟨rA, rc, s⟩ : SC)) (k := 1) (B := some ⟨nb, 0, none⟩) rfl rfl (.inr ⟨_, rfl, hBn⟩) rfl rfl (by show 2 * (x2.sts.length + 1) * 32 ≤ 2 ^ 48; have := hv2.r1; omega) rfl
          refine ⟨_, _, ok, fun A' c' m4 hr => ?_⟩
          replace hS := (hR _ _ _ hr).drop 0
          clear ok hR hr hBn
          (conv => whnf)
          refine ⟨_, hS.cell 1 (i := 0) rfl rfl, ?_⟩
          (conv => whnf)
          refine ⟨hS.room 2 (i := 5) rfl rfl, fun m5 he => ?_⟩
          have h5 := hS.put' 2 he rfl
          clear he
          replace hS : Sep (pt b9 [.slice rA s.reads.length rc, .bool s.mt, .bool s.ae, .bool s.aw] :: pt b4 [.pointer (some ⟨d, 0, none⟩)] :: Df.parts K3 d { x2 with sts := x2.sts ++ [⟨rA, rc, s⟩], sA := A', sc := c' } R) m5 := by
            have q1 : (x2.sts ++ [(⟨rA, rc, s⟩ : SC)]).length = x2.sts.length + 1 := by simp
            have q2 : scells (x2.sts ++ [(⟨rA, rc, s⟩ : SC)]) = scells x2.sts ++ SC.cells (⟨rA, rc, s⟩ : SC) := by simp [scells]
            unfold Df.parts Df.hd
            dsimp only
            rw [q1, q2]
            exact h5
          clear h5
          have q3 : IntKind.i64.wrap ((((x2.sts ++ [(⟨rA, rc, s⟩ : SC)]).length : Nat) : Int) - 1) = ((x2.sts.length : Nat) : Int) := by
            have := hv2.r1
            rw [List.length_append, List.length_singleton, wrap_id (by omega) (by omega)]
            omega
          (conv => whnf)
          refine ⟨_, hS.cell 1 (i := 0) rfl rfl, ?_⟩
          (conv => whnf)
          refine ⟨_, hS.cell 2 (i := 6) rfl rfl, ?_⟩
          (conv => whnf)
          refine ⟨_, hS.cell 1 (i := 0) rfl rfl, ?_⟩
          (conv => whnf)
          refine ⟨_, _, _, hS.cell 2 (i := 5) rfl rfl, ?_⟩
          (conv => whnf)
          refine map_push (b := x2.nb) (l := x2.nl) (k := keyB s) (v := .int .i64 (IntKind.i64.wrap ((((x2.sts ++ [(⟨rA, rc, s⟩ : SC)]).length : Nat) : Int) - 1))) (hS.move 7 rfl) u58 u9 hf2 fun m6 h6 => ?_
          rw [q3] at h6
          replace hS : Sep (pt b9 [.slice rA s.reads.length rc, .bool s.mt, .bool s.ae, .bool s.aw] :: pt b4 [.pointer (some ⟨d, 0, none⟩)] :: Df.parts K3 d ({ x2 with sts := x2.sts ++ [⟨rA, rc, s⟩], nl := x2.nl ++ [(keyB s, .int .i64 ((x2.sts.length : Nat) : Int))], sA := A', sc := c' } : Df) R) m6 := h6.back (j := 7) (by simp [Df.parts])
          clear h6
          (conv => whnf)
          refine ⟨_, hS.cell 1 (i := 0) rfl rfl, ?_⟩
          (conv => whnf)
          refine ⟨_, _, _, hS.cell 2 (i := 5) rfl rfl, ?_⟩
          (conv => whnf)
          refine ⟨((x2.sts.length : Nat) : Int), K3, ({ x2 with sts := x2.sts ++ [⟨rA, rc, s⟩], nl := x2.nl ++ [(keyB s, .int .i64 ((x2.sts.length : Nat) : Int))], sA := A', sc := c' } : Df), by rw [← q3]; rfl, Mem.le_trans hK2 hK3, (hS.drop 0).drop 0, hpush A' c', hq2, hr2, .inr ⟨hd, x2.sts.length, ⟨rA, rc, s⟩, rfl, by simp, rfl⟩, by show x.steps ≤ x2.steps; omega, by show x2.steps ≤ _; have : set.length ≤ x.q.ins.length := hl2; omega, hfl2.imp (fun ⟨z1, z2, z3⟩ => ⟨z1, z2, z3.trans Ext.app⟩) id⟩
end Go.Proofs.Ytkkcdfnlmhmheaa
/- Dfa: keep. -/
namespace Go.Proofs.Ytkkcdfnlmhmheaa
open Go Go.Mv
set_option maxHeartbeats 2000000
set_option maxRecDepth 10000
set_option linter.unusedVariables false
set_option linter.unusedSimpArgs false
attribute [local irreducible] FCalls IntKind.wrap bits Mem.set Mem.setCell Mem.setCells YCalls RunP NextP RunU
theorem put_ways {a a' : Abs} {ks : List Int} {v code : Int} (h : putA a ks v code a') (hk : (ks.length : Int) = a.w) : a'.w = a.w ∧ ((code = 0 ∧ a'.f = updF a.f ks (some v)) ∨ (code = 10 ∧ a' = a)) := by
  obtain ⟨h1, h2, h3⟩ := h
  rw [if_neg (by simpa using hk)] at h3
  refine ⟨h1, ?_⟩
  split at h3
  · exact .inl ⟨h3.1, h3.2.1⟩
  · split at h3
    · exact .inr h3
    · exact .inl ⟨h3.1, h3.2.1⟩
theorem sc_at {m : Mem} {A : Option Addr} {l : List SC} {k : Nat} {y : SC} (h : Rd m A (scells l)) (hi : l[k]? = some y) : ∃ p, A = some p ∧ ∀ (o : Nat) v, y.cells[o]? = some v → m.cell ((p.add (k * 4)).add o) = some v := by
  obtain ⟨q0, hq0, _⟩ := h.atf (k := k * 4) (off := 0) ((flat_get sc_len hi (o := 0) (by decide)).trans rfl)
  refine ⟨q0, hq0, fun o v ho => ?_⟩
  have hlt : o < 4 := by
    have := (List.getElem?_eq_some_iff.1 ho).1
    rw [sc_len] at this
    exact this
  obtain ⟨q1, hq1, hc1⟩ := h.atf (k := k * 4) (off := o) ((flat_get sc_len hi (o := o) hlt).trans ho)
  rw [hq0] at hq1
  cases hq1
  exact hc1
theorem Num.pos {sts : List SC} {v : Int} {s : Sta} (h : Num sts v s) (hv : v ≠ -1) : s.dead = false ∧ ∃ i y, v = ((i : Nat) : Int) ∧ sts[i]? = some y ∧ y.s = s :=
  h.resolve_left fun h => hv h.2
theorem Num.neg {sts : List SC} {v : Int} {s : Sta} (h : Num sts v s) (hv : v = -1) : s.dead = true := by
  rcases h with h | ⟨_, i, y, h, _⟩
  · exact h.1
  · omega
theorem Key.len {q : Prg} {sts : List SC} {ks : List Int} {s : Sta} (h : Key q sts ks s) : ks.length = 2 := by
  rcases h with ⟨i, x, c, _, _, rfl, _⟩ | ⟨f, aw, rfl, _⟩ <;> rfl
theorem keep_c {m K : Mem} {R : List Asn} {d : Nat} {x : Df} {ks : List Int} {v : Int} {s : Sta} {A : Option Addr} {c : Nat} (hS : Sep (x.parts K d R) m) (hg : GoodP x.q) (hv : Inv K x) (hks : Key x.q x.sts ks s) (hnum : Num x.sts v s)
    (hI : ∀ M, Sep R M → Ints M A ks) :
    FCalls Try.prog 48 [.pointer (some ⟨d, 0, none⟩), .slice A ks.length c, .int .i64 v] m fun u m' => ∃ r K' x', u = .int .i64 r ∧ K.le K' ∧ Sep (x'.parts K' d R) m' ∧ Inv K' x' ∧ x'.q = x.q ∧ x'.room = x.room ∧
      Num x'.sts r s ∧ x'.steps = x.steps ∧ ((x'.flushes = x.flushes ∧ r = v ∧ x'.sts = x.sts ∧ x'.a.f = updF x.a.f ks (some v)) ∨ x'.flushes = x.flushes + 1) := by
  refine fcalls_of_vc (T := tbl) (B := bodies) (pr := [99999]) (DR := dr48) (args := [.v (.pointer (some ⟨d, 0, none⟩)), .v (.slice A ks.length c), .v (.int .i64 v)]) tbl_ok bodies_ok mixed Try.func48 rfl (by decide +kernel) (by simp [Try.f48]) rfl ?_
  (conv => whnf)
  refine ⟨_, hS.cell 0 (i := 7) rfl rfl, ?_⟩
  (conv => whnf)
  refine FCalls.mono (put_t v (Df.toTb hS) fun mr hR => hI mr (((((hR.drop 0).drop 0).drop 0).drop 0).drop 0)) ?_
  rintro u m1 ⟨code, a', K1, rfl, hp, hK1, h2⟩
  obtain ⟨hw, hways⟩ := put_ways hp (by rw [hks.len, hv.aw]; rfl)
  have h3 : Sep (Df.parts K1 d { x with a := a' } R) m1 := Df.ofTb (x := { x with a := a' }) h2
  rcases hways with ⟨rfl, hf⟩ | ⟨rfl, rfl⟩
  · (conv => whnf)
    exact ⟨v, K1, { x with a := a' }, rfl, hK1, h3, (hv.note hw hf hks hnum).up hK1, rfl, rfl, hnum, rfl, .inl ⟨rfl, rfl, rfl, hf⟩⟩
  clear h2 hp hw
  have hv1 := hv.up hK1
  (conv => whnf)
  refine brk_intro (fun c1 => ?_) (fun c1 => ?_)
  · have c1 : v = -1 := by simpa using c1
    (conv => whnf)
    refine FCalls.mono (flush_c h3) ?_
    rintro u m2 ⟨rfl, K2, a2, hK2, ha1, ha2, ha3, h4⟩
    (conv => whnf)
    exact ⟨-1, K2, _, rfl, Mem.le_trans hK1 hK2, h4, hv1.flush ha1 ha3, rfl, rfl, .inl ⟨hnum.neg c1, rfl⟩, rfl, .inr rfl⟩
  have c1 : v ≠ -1 := by simpa using c1
  obtain ⟨hd, i, y, rfl, hi, rfl⟩ := hnum.pos c1
  have hil := (List.getElem?_eq_some_iff.1 hi).1
  obtain ⟨p, hpA, hcp⟩ := sc_at (h3.rd 4 rfl) hi
  (conv => whnf)
  refine ⟨_, _, _, h3.cell 0 (i := 5) rfl rfl, ?_⟩
  (conv => whnf)
  refine ⟨p, hpA, by omega, by show ((i : Nat) : Int) < ((x.sts.length : Nat) : Int); omega, ?_⟩
  (conv => whnf)
  refine ⟨_, _, _, hcp 0 _ rfl, ?_⟩
  (conv => whnf)
  refine ⟨_, hcp 1 _ rfl, ?_⟩
  (conv => whnf)
  refine ⟨_, hcp 2 _ rfl, ?_⟩
  (conv => whnf)
  refine ⟨_, hcp 3 _ rfl, ?_⟩
  (conv => whnf)
  intro b7 m2 hb he
  have hS := h3.new' (l := [.slice none 0 0, .bool false, .bool false, .bool false]) hb he
  clear hb he
  (conv => whnf)
  refine ⟨hS.rooms 0 (i := 0) rfl (by decide), fun m3 he => ?_⟩
  replace hS : Sep (pt b7 y.cells :: Df.parts K1 d x R) m3 := he ▸ hS.putAll 0 (i := 0) y.cells rfl
  clear he
  (conv => whnf)
  refine FCalls.mono (flush_c (Df.inn hS)) ?_
  rintro u m4 ⟨rfl, K2, a2, hK2, ha1, ha2, ha3, h4⟩
  have hv2 := hv1.flush (K' := K2) (n := x.flushes + 1) ha1 ha3
  have hy := (hv1.up hK2).ok y (List.mem_of_getElem? hi)
  have hry := (hv1.up hK2).rd y (List.mem_of_getElem? hi)
  have hpush := fun sA sc => hv2.push hg (y := y) hy.1 hy.2 hry rfl (by have := hv.r0; simp; omega) sA sc
  have hS := Df.out h4
  clear h4
  (conv => whnf)
  refine ⟨_, _, _, hS.cell 1 (i := 5) rfl rfl, ?_⟩
  (conv => whnf)
  refine ⟨_, _, _, hS.cell 0 (i := 0) rfl rfl, ?_⟩
  (conv => whnf)
  refine ⟨_, hS.cell 0 (i := 1) rfl rfl, ?_⟩
  (conv => whnf)
  refine ⟨_, hS.cell 0 (i := 2) rfl rfl, ?_⟩
  (conv => whnf)
  refine ⟨_, hS.cell 0 (i := 3) rfl rfl, ?_⟩
  (conv => whnf)
  intro nb m5 hb he
  replace hS := hS.new' (l := SC.cells y) hb he
  have hBn : m5.holds ⟨nb, 0, none⟩ (SC.cells y) := (hS.blk 0 rfl).holds fun k v hk => by rw [Nat.zero_add]; exact hk
  clear hb he
  (conv => whnf)
  obtain ⟨ok, hR⟩ := hS.app 6 (T := tbl) (e := 82) (news := SC.cells y) (k := 1) (B := some ⟨nb, 0, none⟩) rfl rfl (.inr ⟨_, rfl, hBn⟩) rfl rfl (by show 2 * (0 + 1) * 32 ≤ 2 ^ 48; omega) rfl
  refine ⟨_, _, ok, fun A' c' m6 hr => ?_⟩
  replace hS := (hR _ _ _ hr).drop 0
  clear ok hR hr hBn
  (conv => whnf)
  refine ⟨hS.room 1 (i := 5) rfl rfl, fun m7 he => ?_⟩
  have h5 := hS.put' 1 he rfl
  clear he
  replace hS : Sep (pt b7 y.cells :: Df.parts K2 d { x with sts := [y], nl := [], a := a2, flushes := x.flushes + 1, sA := A', sc := c' } R) m7 := by
    unfold Df.parts Df.hd
    rw [show scells [y] = scells [] ++ y.cells by simp [scells]]
    exact h5
  clear h5
  (conv => whnf)
  refine ⟨_, _, _, hS.cell 0 (i := 0) rfl rfl, ?_⟩
  (conv => whnf)
  refine ⟨_, hS.cell 0 (i := 1) rfl rfl, ?_⟩
  (conv => whnf)
  refine ⟨_, hS.cell 0 (i := 2) rfl rfl, ?_⟩
  (conv => whnf)
  refine ⟨_, hS.cell 0 (i := 3) rfl rfl, ?_⟩
  (conv => whnf)
  have hkr : Rd m7 y.A (nv y.s.reads) := hry.more (hS.kept 4 rfl)
  have hkl : y.s.reads.length ≤ 1000000 := by have := hy.1.1; have := hg.n1; have : x.q.ins.length ≤ 40000 := this; exact Nat.le_trans hy.1.1 (by show x.q.ins.length ≤ _; omega)
  have fin : ∀ m8, Sep (pt b7 y.cells :: Df.parts K2 d { x with sts := [y], nl := [(keyB y.s, .int .i64 0)], a := a2, flushes := x.flushes + 1, sA := A', sc := c' } R) m8 → ∃ r K' x', Value.int .i64 0 = .int .i64 r ∧ K.le K' ∧ Sep (Df.parts K' d x' R) m8 ∧ Inv K' x' ∧ x'.q = x.q ∧ x'.room = x.room ∧
      Num x'.sts r y.s ∧ x'.steps = x.steps ∧ ((x'.flushes = x.flushes ∧ r = ((i : Nat) : Int) ∧ x'.sts = x.sts ∧ x'.a.f = updF x.a.f ks (some ((i : Nat) : Int))) ∨ x'.flushes = x.flushes + 1) := fun m8 h8 =>
    ⟨0, K2, _, rfl, Mem.le_trans hK1 hK2, h8.drop 0, hpush A' c', rfl, rfl, .inr ⟨hd, 0, y, rfl, rfl, rfl⟩, rfl, .inr rfl⟩
  have fin2 : ∀ m8, Sep (mp x.nb ([] ++ [(keyB y.s, .int .i64 0)]) :: (pt b7 y.cells :: Df.parts K2 d { x with sts := [y], nl := [], a := a2, flushes := x.flushes + 1, sA := A', sc := c' } R).eraseIdx 6) m8 → Sep (pt b7 y.cells :: Df.parts K2 d { x with sts := [y], nl := [(keyB y.s, .int .i64 0)], a := a2, flushes := x.flushes + 1, sA := A', sc := c' } R) m8 := fun m8 h8 =>
    h8.back (j := 6) (by simp [Df.parts])
  refine ⟨?_, ?_⟩
  · (conv => whnf)
    refine ⟨_, hS.cell 1 (i := 6) rfl rfl, ?_⟩
    (conv => whnf)
    refine FCalls.mono (key_c (x := y) hkr hkl) ?_
    rintro v m8 ⟨rfl, rfl⟩
    (conv => whnf)
    refine map_push (b := x.nb) (l := []) (k := keyB y.s) (v := .int .i64 0) (hS.move 6 rfl) u58 u9 rfl fun m9 h9 => ?_
    (conv => whnf)
    exact fin m9 (fin2 m9 h9)
  · refine ⟨?_, True.intro⟩
    (conv => whnf)
    refine FCalls.mono (key_c (x := y) hkr hkl) ?_
    rintro v m8 ⟨rfl, rfl⟩
    (conv => whnf)
    refine ⟨_, hS.cell 1 (i := 6) rfl rfl, ?_⟩
    (conv => whnf)
    refine map_push (b := x.nb) (l := []) (k := keyB y.s) (v := .int .i64 0) (hS.move 6 rfl) u58 u9 rfl fun m9 h9 => ?_
    (conv => whnf)
    exact fin m9 (fin2 m9 h9)
end Go.Proofs.Ytkkcdfnlmhmheaa
/- Dfa: start. -/
namespace Go.Proofs.Ytkkcdfnlmhmheaa
open Go Go.Mv
set_option maxHeartbeats 2000000
set_option maxRecDepth 10000
set_option linter.unusedVariables false
set_option linter.unusedSimpArgs false
theorem or01 : bits .or .i64 0 1 = 1 := by decide
theorem or02 : bits .or .i64 0 2 = 2 := by decide
theorem or12 : bits .or .i64 1 2 = 3 := by decide
attribute [local irreducible] FCalls IntKind.wrap bits Mem.set Mem.setCell Mem.setCells YCalls RunP NextP RunU
/-- What one that goes on leaves: k: at most so many steps; one: so many if it was known. -/
structure Went (x x' : Df) (ks : List Int) (r : Int) (k one : Nat) : Prop where
  q : x'.q = x.q
  room : x'.room = x.room
  st0 : x.steps ≤ x'.steps
  st1 : x'.steps ≤ x.steps + k
  fl : x.flushes ≤ x'.flushes
  fl1 : x'.flushes ≤ x.flushes + 2
  hit : ∀ v, x.a.f ks = some v → r = v ∧ x'.steps = x.steps + one ∧ x'.flushes = x.flushes
  kept : x'.flushes = x.flushes → x'.a.f ks = some r ∧ (∀ k v, x.a.f k = some v → x'.a.f k = some v) ∧ Ext x.sts x'.sts
theorem get_hit {K m : Mem} {p : Nat} {a : Abs} {R : List Asn} {A : Option Addr} {ks : List Int} {c : Nat} {v : Int} (h : Sep (tb K p a :: kp K :: R) m) (hI : Ints m A ks) (hf : a.f ks = some v) :
    FCalls Try.prog 47 [.pointer (some ⟨p, 0, none⟩), .slice A ks.length c] m fun u m' => u = .tuple #[.int .i64 v, .bool true] ∧ m' = m :=
  (get_t h hI).mono fun u m' ⟨h1, h2⟩ => ⟨by rw [h1, hf]; rfl, h2⟩
theorem get_miss {K m : Mem} {p : Nat} {a : Abs} {R : List Asn} {A : Option Addr} {ks : List Int} {c : Nat} (h : Sep (tb K p a :: kp K :: R) m) (hI : Ints m A ks) (hf : a.f ks = none) :
    FCalls Try.prog 47 [.pointer (some ⟨p, 0, none⟩), .slice A ks.length c] m fun u m' => u = .tuple #[.int .i64 0, .bool false] ∧ m' = m :=
  (get_t h hI).mono fun u m' ⟨h1, h2⟩ => ⟨by rw [h1, hf]; rfl, h2⟩
theorem went_keep {x x1 x2 : Df} {ks : List Int} {r v : Int} {k one : Nat} (hf : x.a.f ks = none) (hq1 : x1.q = x.q) (hr1 : x1.room = x.room) (h0 : x.steps ≤ x1.steps) (h1 : x1.steps ≤ x.steps + k) (hfl : (x1.flushes = x.flushes ∧ x1.a = x.a ∧ Ext x.sts x1.sts) ∨ x1.flushes = x.flushes + 1)
    (hq2 : x2.q = x1.q) (hr2 : x2.room = x1.room) (hs : x2.steps = x1.steps) (hfl2 : (x2.flushes = x1.flushes ∧ r = v ∧ x2.sts = x1.sts ∧ x2.a.f = updF x1.a.f ks (some v)) ∨ x2.flushes = x1.flushes + 1) : Went x x2 ks r k one := by
  refine ⟨hq2.trans hq1, hr2.trans hr1, by omega, by omega, by omega, by omega, fun v hv => (by rw [hf] at hv; cases hv), fun he => ?_⟩
  rcases hfl with ⟨g1, g2, g3⟩ | g1
  · rcases hfl2 with ⟨k1, rfl, k3, k4⟩ | k1
    · rw [k4, k3, g2]
      refine ⟨by simp [updF], fun k' v' hk => ?_, g3⟩
      unfold updF
      rw [if_neg]
      · exact hk
      · rintro rfl
        rw [hf] at hk
        cases hk
    · omega
  · omega
theorem start_c {m K : Mem} {R : List Asn} {d : Nat} {x : Df} {f aw : Bool} (hS : Sep (x.parts K d R) m) (hq : x.q.at K) (hg : GoodP x.q) (hv : Inv K x) :
    FCalls Try.prog 38 [.pointer (some ⟨d, 0, none⟩), .bool f, .bool aw] m fun u m' => ∃ r K' x', u = .int .i64 r ∧ K.le K' ∧ Sep (x'.parts K' d R) m' ∧ Inv K' x' ∧
      Num x'.sts r (sta (auOf x.q) [0] f aw) ∧ Went x x' [-2, flK f aw] r (2 * x.q.ins.length) 0 := by
  have hkey : ∀ sts, Key x.q sts [-2, flK f aw] (sta (auOf x.q) [0] f aw) := fun sts => .inr ⟨f, aw, rfl, rfl⟩
  refine fcalls_of_vc (T := tbl) (B := bodies) (pr := [99999]) (DR := dr38) (args := [.v (.pointer (some ⟨d, 0, none⟩)), .v (.bool f), .v (.bool aw)]) tbl_ok bodies_ok mixed Try.func38 rfl (by decide +kernel) (by simp [Try.f38]) rfl ?_
  (conv => whnf)
  intro ba m1 hb he
  replace hS := hS.new' (l := [.int .i64 (-2), .int .i64 0]) hb he
  clear hb he
  (conv => whnf)
  refine brk_intro (fun c1 => ?_) (fun c1 => ?_)
  case' refine_1 =>
    (conv => whnf)
    refine ⟨_, rfl, by omega, by omega, ?_⟩
    (conv => whnf)
    refine ⟨_, hS.cell 0 (i := 1) rfl rfl, ?_⟩
    (conv => whnf)
    refine ⟨_, rfl, by omega, by omega, ?_⟩
    (conv => whnf)
    refine ⟨hS.room 0 (i := 1) rfl rfl, fun m2 he => ?_⟩
    replace hS := hS.put' 0 he rfl
    clear he
    have hS : Sep (pt ba [.int .i64 (-2), .int .i64 (bits .or .i64 0 1)] :: x.parts K d R) m2 := hS
    rw [or01] at hS
    (conv => whnf)
    refine brk_intro (fun c2 => ?_) (fun c2 => ?_)
  case' refine_2 =>
    (conv => whnf)
    refine brk_intro (fun c2 => ?_) (fun c2 => ?_)
  case' refine_1.refine_1 =>
    (conv => whnf)
    refine ⟨_, rfl, by omega, by omega, ?_⟩
    (conv => whnf)
    refine ⟨_, hS.cell 0 (i := 1) rfl rfl, ?_⟩
    (conv => whnf)
    refine ⟨_, rfl, by omega, by omega, ?_⟩
    (conv => whnf)
    refine ⟨hS.room 0 (i := 1) rfl rfl, fun m3 he => ?_⟩
    replace hS := hS.put' 0 he rfl
    clear he
    have hS : Sep (pt ba [.int .i64 (-2), .int .i64 (bits .or .i64 1 2)] :: x.parts K d R) m3 := hS
    rw [or12] at hS
    replace hS : Sep (pt ba (ints [-2, flK f aw]) :: x.parts K d R) m3 := by rw [c1, c2]; exact hS
  case' refine_1.refine_2 =>
    replace hS : Sep (pt ba (ints [-2, flK f aw]) :: x.parts K d R) m2 := by rw [c1, c2]; exact hS
  case' refine_2.refine_1 =>
    (conv => whnf)
    refine ⟨_, rfl, by omega, by omega, ?_⟩
    (conv => whnf)
    refine ⟨_, hS.cell 0 (i := 1) rfl rfl, ?_⟩
    (conv => whnf)
    refine ⟨_, rfl, by omega, by omega, ?_⟩
    (conv => whnf)
    refine ⟨hS.room 0 (i := 1) rfl rfl, fun m3 he => ?_⟩
    replace hS := hS.put' 0 he rfl
    clear he
    have hS : Sep (pt ba [.int .i64 (-2), .int .i64 (bits .or .i64 0 2)] :: x.parts K d R) m3 := hS
    rw [or02] at hS
    replace hS : Sep (pt ba (ints [-2, flK f aw]) :: x.parts K d R) m3 := by rw [c1, c2]; exact hS
  case' refine_2.refine_2 =>
    replace hS : Sep (pt ba (ints [-2, flK f aw]) :: x.parts K d R) m1 := by rw [c1, c2]; exact hS
  all_goals
    (conv => whnf)
    refine ⟨_, hS.cell 1 (i := 7) rfl rfl, ?_⟩
    have hIa := Blk.ints_ (xs := [-2, flK f aw]) (hS.blk 0 rfl)
    have hT := Df.toTb (Df.inn hS)
    (conv => whnf)
    cases hf : x.a.f [-2, flK f aw] with
    | some v =>
      refine FCalls.mono (get_hit hT hIa hf) ?_
      rintro u m5 ⟨rfl, rfl⟩
      obtain ⟨s, h1, h2⟩ := hv.mvs _ _ hf
      rw [h1.same (hkey _)] at h2
      (conv => whnf)
      exact ⟨v, K, x, rfl, Mem.le_refl _, hS.drop 0, hv, h2, rfl, rfl, Nat.le_refl _, by omega, Nat.le_refl _, by omega, fun v' hv' => (by rw [hf] at hv'; cases hv'; exact ⟨rfl, rfl, rfl⟩), fun _ => ⟨hf, fun _ _ h => h, Ext.refl⟩⟩
    | none =>
      refine FCalls.mono (get_miss hT hIa hf) ?_
      rintro u m5 ⟨rfl, rfl⟩
      clear hT hIa
      (conv => whnf)
      intro bz m6 hb he
      replace hS := hS.new' (l := nv [0]) hb he
      clear hb he
      (conv => whnf)
      refine FCalls.mono (made_c (S := [0]) (A := some ⟨bz, 0, none⟩) (c := 1) (f := f) (aw := aw) (Df.inn2 hS) hq hg hv (fun M hM => ?_) (fun k hk => ?_) (by simp)) ?_
      · refine .inr ⟨_, rfl, fun k v hk => ?_⟩
        rw [add_mk, Nat.zero_add]
        exact hM.cell 0 rfl hk
      · have := hg.n0
        rw [List.mem_singleton] at hk
        omega
      rintro u m7 ⟨v, K1, x1, rfl, hK1, h1, hv1, hq1, hr1, hn1, hs0, hs1, hfl⟩
      (conv => whnf)
      refine FCalls.mono (keep_c (ks := [-2, flK f aw]) (A := some ⟨ba, 0, none⟩) (c := 2) (v := v) (s := sta (auOf x.q) [0] f aw) h1 (hq1 ▸ hg) hv1 (by rw [hq1]; exact hkey _) hn1 (fun M hM => ?_)) ?_
      · exact Blk.ints_ (xs := [-2, flK f aw]) (hM.blk 1 rfl)
      rintro u m8 ⟨r, K2, x2, rfl, hK2, h2, hv2, hq2, hr2, hn2, hs2, hfl2⟩
      (conv => whnf)
      exact ⟨r, K2, x2, rfl, Mem.le_trans hK1 hK2, ((Df.out2 h2).drop 0).drop 0, hv2, hn2, went_keep hf hq1 hr1 hs0 hs1 hfl hq2 hr2 hs2 hfl2⟩
end Go.Proofs.Ytkkcdfnlmhmheaa
/- Dfa: move. -/
namespace Go.Proofs.Ytkkcdfnlmhmheaa
open Go Go.Mv
set_option maxHeartbeats 2000000
set_option maxRecDepth 10000
set_option linter.unusedVariables false
set_option linter.unusedSimpArgs false
theorem wrap_ne {n : Nat} : (IntKind.i64.wrap ((n : Nat) : Int) == IntKind.i64.wrap ((n + 1 : Nat) : Int)) = false := by
  simp only [IntKind.wrap_i64, beq_eq_false_iff_ne, ne_eq]
  omega
attribute [local irreducible] FCalls IntKind.wrap bits Mem.set Mem.setCell Mem.setCells YCalls RunP NextP RunU
def takes (A : Au) (l : List Nat) (c : Nat) : List Nat := (l.filter fun k => A.hs k c).map (· + 1)
theorem takes_len {A : Au} {l : List Nat} {c : Nat} : (takes A l c).length ≤ l.length := by
  unfold takes
  rw [List.length_map]
  exact List.length_filter_le _ _
theorem takes_succ {A : Au} {l : List Nat} {c i k : Nat} (hk : l[i]? = some k) : takes A (l.take (i + 1)) c = takes A (l.take i) c ++ (if A.hs k c then [k + 1] else []) := by
  unfold takes
  rw [List.take_add_one, hk, List.filter_append, List.map_append]
  congr 1
  show List.map _ (List.filter _ [k]) = _
  cases hb : A.hs k c <;> simp [List.filter, hb]
theorem made_n {m K : Mem} {R : List Asn} {d : Nat} {x : Df} {f aw : Bool} {S : List Nat} {A : Option Addr} {c n : Nat} (hnS : n = S.length) (hS : Sep (x.parts K d R) m) (hq : x.q.at K) (hg : GoodP x.q) (hv : Inv K x)
    (hI : ∀ M, Sep R M → Rd M A (nv S)) (hlt : ∀ k, k ∈ S → k < x.q.ins.length) (hn : S.length < 4611686018427387904) :
    FCalls Try.prog 49 [.pointer (some ⟨d, 0, none⟩), .slice A n c, .bool f, .bool aw] m fun v m' => ∃ r K' x', v = .int .i64 r ∧ K.le K' ∧ Sep (x'.parts K' d R) m' ∧ Inv K' x' ∧ x'.q = x.q ∧ x'.room = x.room ∧
      Num x'.sts r (sta (auOf x.q) S f aw) ∧ x.steps ≤ x'.steps ∧ x'.steps ≤ x.steps + 2 * x.q.ins.length ∧ ((x'.flushes = x.flushes ∧ x'.a = x.a ∧ Ext x.sts x'.sts) ∨ x'.flushes = x.flushes + 1) := by
  subst hnS
  exact made_c hS hq hg hv hI hlt hn
theorem move_c {m K : Mem} {R : List Asn} {d c : Nat} {nn : Int} {s : Sta} {x : Df} (hS : Sep (x.parts K d R) m) (hq : x.q.at K) (hg : GoodP x.q) (hv : Inv K x) (hnum : Num x.sts nn s) (hd : s.dead = false) (hc : c < 256) :
    FCalls Try.prog 39 [.pointer (some ⟨d, 0, none⟩), .int .i64 nn, .int .u8 ((c : Nat) : Int)] m fun u m' => ∃ r K' x', u = .int .i64 r ∧ K.le K' ∧ Sep (x'.parts K' d R) m' ∧ Inv K' x' ∧
      Num x'.sts r (trs (auOf x.q) s c) ∧ Went x x' [nn, ((c : Nat) : Int)] r (3 * x.q.ins.length + 1) 1 := by
  have hn1 := hg.n1
  obtain ⟨_, i, y, rfl, hi, rfl⟩ := hnum.resolve_left fun h => by rw [hd] at h; cases h.1
  have hil := (List.getElem?_eq_some_iff.1 hi).1
  have hr1 := hv.r1
  have hlen := hv.len
  have hy := hv.ok y (List.mem_of_getElem? hi)
  have hry := hv.rd y (List.mem_of_getElem? hi)
  have hrl : y.s.reads.length ≤ 40000 := Nat.le_trans hy.1.1 hn1
  have hkey : ∀ sts, Ext x.sts sts → Key x.q sts [((i : Nat) : Int), ((c : Nat) : Int)] (trs (auOf x.q) y.s c) := fun sts he => .inl ⟨i, y, c, he i y hi, hc, rfl, rfl⟩
  refine fcalls_of_vc (T := tbl) (B := bodies) (pr := [99999]) (DR := dr39) (args := [.v (.pointer (some ⟨d, 0, none⟩)), .v (.int .i64 ((i : Nat) : Int)), .v (.int .u8 ((c : Nat) : Int))]) tbl_ok bodies_ok mixed Try.func39 rfl (by decide +kernel) (by simp [Try.f39]) rfl ?_
  (conv => whnf)
  refine ⟨_, hS.cell 0 (i := 10) rfl rfl, ?_⟩
  (conv => whnf)
  refine ⟨hS.room 0 (i := 10) rfl rfl, fun m1 he => ?_⟩
  have ev : (Value.int .i64 (IntKind.i64.wrap (IntKind.i64.wrap ((x.steps : Nat) : Int) + 1))) = w64 (x.steps + 1) := by rw [wrap_step, w64]
  replace he : m1 = m.setCell ⟨d, 10, none⟩ (w64 (x.steps + 1)) := he.trans (congrArg (fun v => m.setCell ⟨d, 10, none⟩ v) ev)
  have h1 := hS.put' 0 he rfl
  clear he ev
  replace hS : Sep (Df.parts K d { x with steps := x.steps + 1 } R) m1 := h1
  clear h1
  have hcw : IntKind.i64.wrap ((c : Nat) : Int) = ((c : Nat) : Int) := wrap_id (by omega) (by omega)
  (conv => whnf)
  intro ba m2 hb he
  replace hS := hS.new' (l := [.int .i64 ((i : Nat) : Int), .int .i64 (IntKind.i64.wrap ((c : Nat) : Int))]) hb he
  rw [hcw] at hS
  replace hS : Sep (pt ba (ints [((i : Nat) : Int), ((c : Nat) : Int)]) :: Df.parts K d { x with steps := x.steps + 1 } R) m2 := hS
  clear hb he
  (conv => whnf)
  refine ⟨_, hS.cell 1 (i := 7) rfl rfl, ?_⟩
  have hIa := Blk.ints_ (xs := [((i : Nat) : Int), ((c : Nat) : Int)]) (hS.blk 0 rfl)
  have hT := Df.toTb (Df.inn hS)
  (conv => whnf)
  cases hf : x.a.f [((i : Nat) : Int), ((c : Nat) : Int)] with
  | some v =>
    refine FCalls.mono (get_hit hT hIa hf) ?_
    rintro u m5 ⟨rfl, rfl⟩
    obtain ⟨s, h1, h2⟩ := hv.mvs _ _ hf
    rw [h1.same (hkey _ Ext.refl)] at h2
    (conv => whnf)
    exact ⟨v, K, { x with steps := x.steps + 1 }, rfl, Mem.le_refl _, hS.drop 0, hv.set x.set x.tA x.tn x.tc x.td (x.steps + 1), h2, rfl, rfl, by show x.steps ≤ x.steps + 1; omega, by show x.steps + 1 ≤ _; omega, Nat.le_refl _, by show x.flushes ≤ _; omega, fun v' hv' => (by rw [hf] at hv'; cases hv'; exact ⟨rfl, rfl, rfl⟩), fun _ => ⟨hf, fun _ _ h => h, Ext.refl⟩⟩
  | none =>
    refine FCalls.mono (get_miss hT hIa hf) ?_
    rintro u m5 ⟨rfl, rfl⟩
    clear hT hIa
    obtain ⟨p, hpA, hcp⟩ := sc_at (hS.rd 5 rfl) hi
    (conv => whnf)
    refine ⟨_, _, _, hS.cell 1 (i := 5) rfl rfl, ?_⟩
    (conv => whnf)
    refine ⟨p, hpA, by omega, by show ((i : Nat) : Int) < ((x.sts.length : Nat) : Int); omega, ?_⟩
    (conv => whnf)
    refine ⟨_, _, _, hcp 0 _ rfl, ?_⟩
    (conv => whnf)
    refine ⟨_, hcp 1 _ rfl, ?_⟩
    (conv => whnf)
    refine ⟨_, hcp 2 _ rfl, ?_⟩
    (conv => whnf)
    refine ⟨_, hcp 3 _ rfl, ?_⟩
    (conv => whnf)
    intro b10 m6 hb he
    replace hS := hS.new' (l := [.slice none 0 0, .bool false, .bool false, .bool false]) hb he
    clear hb he hcp hpA
    (conv => whnf)
    refine ⟨hS.rooms 0 (i := 0) rfl (by decide), fun m7 he => ?_⟩
    replace hS : Sep (pt b10 y.cells :: pt ba (ints [((i : Nat) : Int), ((c : Nat) : Int)]) :: Df.parts K d { x with steps := x.steps + 1 } R) m7 := he ▸ hS.putAll 0 (i := 0) y.cells rfl
    clear he
    (conv => whnf)
    refine ⟨_, _, _, hS.cell 0 (i := 0) rfl rfl, ?_⟩
    (conv => whnf)
    refine loop_keep [0, 2, 7, 10, 46, 47] (Nat × Option Addr × Nat × Mem) (fun z => [(48, .v (.int .i64 ((z.1 : Nat) : Int))), (11, .v (.slice z.2.1 (takes (auOf x.q) (y.s.reads.take z.1) c).length z.2.2.1))]) (fun _ => []) (fun z => z.2.2.2)
      (fun z => z.1 ≤ y.s.reads.length ∧ Sep (sl z.2.1 (takes (auOf x.q) (y.s.reads.take z.1) c).length z.2.2.1 1 (nv (takes (auOf x.q) (y.s.reads.take z.1) c)) :: pt b10 y.cells :: pt ba (ints [((i : Nat) : Int), ((c : Nat) : Int)]) :: Df.parts K d { x with steps := x.steps + 1 + z.1 } R) z.2.2.2)
      (fun z => y.s.reads.length - z.1) (0, none, 0, m7) ⟨rfl, rfl, trivial⟩ rfl rfl ⟨by omega, Sep.free hS sl_nil⟩ ?_
    clear hS
    (conv => whnf)
    refine ⟨rfl, ?_⟩
    rintro ⟨j, lA, lc, M⟩ ⟨hj, hS⟩
    dsimp only at hj hS
    (conv => whnf)
    refine brk_intro (fun c1 => ?_) (fun c1 => ?_)
    · have c1 : ((j : Nat) : Int) < ((y.s.reads.length : Nat) : Int) := of_decide_eq_true c1
      have step1 : IntKind.i64.wrap ((j : Int) + 1) = ((j + 1 : Nat) : Int) := wrap_id (by omega) (by omega)
      obtain ⟨k, hk⟩ : ∃ k, y.s.reads[j]? = some k := ⟨_, List.getElem?_eq_getElem (by omega)⟩
      have hkl : k < x.q.ins.length := by have := hy.1.2 k (List.mem_of_getElem? hk); omega
      have step2 : IntKind.i64.wrap ((k : Int) + 1) = ((k + 1 : Nat) : Int) := wrap_id (by omega) (by omega)
      obtain ⟨pr, hpr, hcr⟩ := rdm (hry.more (hS.kept 6 rfl)) hk
      obtain ⟨ii, hii⟩ : ∃ ii, x.q.ins[k]? = some ii := ⟨_, List.getElem?_eq_getElem hkl⟩
      have hhs : (auOf x.q).hs k c = bitOf ii c := by unfold auOf; simp only [hii]
      have htl : (takes (auOf x.q) (y.s.reads.take j) c).length ≤ 40000 := Nat.le_trans takes_len (by rw [List.length_take]; omega)
      have htk := takes_succ (A := auOf x.q) (c := c) hk
      rw [hhs] at htk
      (conv => whnf)
      refine ⟨pr, hpr, by omega, by omega, ?_⟩
      (conv => whnf)
      refine ⟨_, by show M.cell (pr.add (((j : Nat) : Int).toNat * 1)) = _; rw [Int.toNat_natCast, Nat.mul_one]; exact hcr, ?_⟩
      (conv => whnf)
      refine ⟨_, hS.cell 3 (i := 10) rfl rfl, ?_⟩
      (conv => whnf)
      refine ⟨hS.room 3 (i := 10) rfl rfl, fun m8 he => ?_⟩
      have ev : (Value.int .i64 (IntKind.i64.wrap (IntKind.i64.wrap (((x.steps + 1 + j : Nat)) : Int) + 1))) = w64 (x.steps + 1 + (j + 1)) := by rw [wrap_step, w64]; rfl
      replace he : m8 = M.setCell ⟨d, 10, none⟩ (w64 (x.steps + 1 + (j + 1))) := he.trans (congrArg (fun v => M.setCell ⟨d, 10, none⟩ v) ev)
      have h1 := hS.put' 3 he rfl
      clear he ev
      replace hS : Sep (sl lA (takes (auOf x.q) (y.s.reads.take j) c).length lc 1 (nv (takes (auOf x.q) (y.s.reads.take j) c)) :: pt b10 y.cells :: pt ba (ints [((i : Nat) : Int), ((c : Nat) : Int)]) :: Df.parts K d { x with steps := x.steps + 1 + (j + 1) } R) m8 := h1
      clear h1
      obtain ⟨pi, hpi, hci⟩ := ins_at (hq.more (hS.kept 6 rfl)) hii
      have ka : ∀ j, j < 4 → m8.cell (((pi.add (k * 10)).add 6).add j) = some (.int .u64 ([ii.s0, ii.s1, ii.s2, ii.s3].getD j 0)) := fun j hj => by
        rw [add_add]
        have : j = 0 ∨ j = 1 ∨ j = 2 ∨ j = 3 := by omega
        rcases this with rfl | rfl | rfl | rfl
        · exact hci 6 _ rfl
        · exact hci 7 _ rfl
        · exact hci 8 _ rfl
        · exact hci 9 _ rfl
      (conv => whnf)
      refine ⟨_, _, _, hS.cell 3 (i := 0) rfl rfl, ?_⟩
      (conv => whnf)
      refine ⟨pi, hpi, by omega, by show ((k : Nat) : Int) < ((x.q.ins.length : Nat) : Int); omega, ?_⟩
      (conv => whnf)
      refine ⟨[ii.s0, ii.s1, ii.s2, ii.s3], rfl, ka, ?_⟩
      (conv => whnf)
      refine FCalls.mono (has_c (i := ii) hc) ?_
      rintro u m9 ⟨rfl, rfl⟩
      (conv => whnf)
      refine brk_intro (fun c2 => ?_) (fun c2 => ?_)
      · have c2 : bitOf ii c = true := c2
        rw [c2, if_pos rfl] at htk
        (conv => whnf)
        intro nb m11 hb he
        replace hS := hS.new' (l := [.int .i64 (IntKind.i64.wrap ((k : Int) + 1))]) hb he
        rw [step2] at hS
        replace hS := (show Sep (pt nb (nv [k + 1]) :: _) m11 from hS)
        have hBn : m11.holds ⟨nb, 0, none⟩ (nv [k + 1]) := (hS.blk 0 rfl).holds fun k v hk => by rw [Nat.zero_add]; exact hk
        clear hb he
        (conv => whnf)
        obtain ⟨ok, hR⟩ := hS.app 1 (T := tbl) (e := 3) (news := nv [k + 1]) (k := 1) (B := some ⟨nb, 0, none⟩) rfl rfl (.inr ⟨_, rfl, hBn⟩) rfl rfl (by show 2 * (_ + 1) * 8 ≤ 2 ^ 48; omega) rfl
        refine ⟨_, _, ok, fun A' c' m12 hr => ?_⟩
        replace hS := (hR _ _ _ hr).drop 0
        clear ok hR hr hBn
        (conv => whnf)
        refine ⟨(j + 1, A', c', m12), le_eq ⟨by show some (AV.v (.int .i64 (IntKind.i64.wrap ((j : Int) + 1)))) = _; rw [step1], by show _ = some (AV.v (.slice A' (takes (auOf x.q) (y.s.reads.take (j + 1)) c).length c')); rw [htk, List.length_append]; rfl, rfl, rfl, rfl, rfl, rfl, rfl, trivial⟩ rfl rfl rfl, ⟨by simp only; omega, ?_⟩, by simp only; omega⟩
        dsimp only
        rw [htk, List.length_append, nv_app]
        exact hS
      · have c2 : bitOf ii c = false := c2
        rw [c2, if_neg (by simp), List.append_nil] at htk
        (conv => whnf)
        refine ⟨(j + 1, lA, lc, m9), le_eq ⟨by show some (AV.v (.int .i64 (IntKind.i64.wrap ((j : Int) + 1)))) = _; rw [step1], by show _ = some (AV.v (.slice lA (takes (auOf x.q) (y.s.reads.take (j + 1)) c).length lc)); rw [htk]; rfl, rfl, rfl, rfl, rfl, rfl, rfl, trivial⟩ rfl rfl rfl, ⟨by simp only; omega, ?_⟩, by simp only; omega⟩
        dsimp only
        rw [htk]
        exact hS
    have c1 : ¬ ((j : Nat) : Int) < ((y.s.reads.length : Nat) : Int) := of_decide_eq_false c1
    obtain rfl : j = y.s.reads.length := by omega
    rw [List.take_length] at hS
    have hnx : aNxt (auOf x.q) y.s c = takes (auOf x.q) y.s.reads c ++ (if y.s.aw then [0] else []) := rfl
    have htl : (takes (auOf x.q) y.s.reads c).length ≤ 40000 := Nat.le_trans takes_len hrl
    have hnl : ∀ k, k ∈ aNxt (auOf x.q) y.s c → k < x.q.ins.length := fun k hk => by
      rw [hnx, List.mem_append] at hk
      rcases hk with hk | hk
      · obtain ⟨z, hz, rfl⟩ := List.mem_map.1 hk
        exact hy.1.2 z (List.mem_filter.1 hz).1
      · have := hg.n0
        split at hk
        · rw [List.mem_singleton] at hk; omega
        · cases hk
    have hnlen : (aNxt (auOf x.q) y.s c).length ≤ 40001 := by
      rw [hnx, List.length_append]
      split <;> simp <;> omega
    (conv => whnf)
    refine ⟨_, hS.cell 1 (i := 3) rfl rfl, ?_⟩
    (conv => whnf)
    refine brk_intro (fun c2 => ?_) (fun c2 => ?_)
    case' refine_1 =>
      have c2 : y.s.aw = true := c2
      rw [c2, if_pos rfl] at hnx
      (conv => whnf)
      intro nb m11 hb he
      replace hS := hS.new' (l := nv [0]) hb he
      have hBn : m11.holds ⟨nb, 0, none⟩ (nv [0]) := (hS.blk 0 rfl).holds fun k v hk => by rw [Nat.zero_add]; exact hk
      clear hb he
      (conv => whnf)
      obtain ⟨ok, hR⟩ := hS.app 1 (T := tbl) (e := 3) (vs := nv (takes (auOf x.q) y.s.reads c)) (n := (takes (auOf x.q) y.s.reads c).length) (A := lA) (c := lc) (news := nv [0]) (k := 1) (B := some ⟨nb, 0, none⟩) rfl rfl (.inr ⟨_, rfl, hBn⟩) rfl rfl (by show 2 * (_ + 1) * 8 ≤ 2 ^ 48; omega) rfl
      rw [← List.take_length (l := y.s.reads)] at ok hR
      refine ⟨_, _, ok, fun A' c' m12 hr => ?_⟩
      replace hS := (hR _ _ _ hr).drop 0
      clear ok hR hr hBn
      rw [List.take_length] at hS
      replace hS : Sep (sl A' (aNxt (auOf x.q) y.s c).length c' 1 (nv (aNxt (auOf x.q) y.s c)) :: pt b10 y.cells :: pt ba (ints [((i : Nat) : Int), ((c : Nat) : Int)]) :: Df.parts K d { x with steps := x.steps + 1 + y.s.reads.length } R) m12 := by
        rw [hnx, List.length_append, nv_app]
        exact hS
      (conv => whnf)
      refine ⟨_, hS.cell 3 (i := 11) rfl rfl, ?_⟩
      (conv => whnf)
      refine ⟨_, hS.cell 1 (i := 3) rfl rfl, ?_⟩
      (conv => whnf)
      refine FCalls.mono (made_n (S := aNxt (auOf x.q) y.s c) (A := A') (c := c') (f := false) (aw := y.s.aw) (x := { x with steps := x.steps + 1 + y.s.reads.length }) (by rw [hnx, List.length_append, List.take_length]; rfl) (Df.inn3 hS) hq hg (hv.set x.set x.tA x.tn x.tc x.td _) (fun M hM => hM.rd 2 rfl) hnl (by omega)) ?_
      rintro u m20 ⟨v, K1, x1, rfl, hK1, h1, hv1, hq1, hr1, hn1, hs0, hs1, hfl⟩
      have hfl : (x1.flushes = x.flushes ∧ x1.a = x.a ∧ Ext x.sts x1.sts) ∨ x1.flushes = x.flushes + 1 := hfl
      have hq1 : x1.q = x.q := hq1
      have hr1 : x1.room = x.room := hr1
      have hs0 : x.steps + 1 + y.s.reads.length ≤ x1.steps := hs0
      have hs1 : x1.steps ≤ x.steps + 1 + y.s.reads.length + 2 * x.q.ins.length := hs1
      have hyl := hy.1.1
      clear hS
      have hS := Df.out3 h1
      (conv => whnf)
      refine ⟨_, hS.cell 3 (i := 11) rfl rfl, ?_⟩
      (conv => whnf)
      rcases hfl with ⟨g1, g2, g3⟩ | g1
      · refine brk_true (by show (IntKind.i64.wrap ((x.flushes : Nat) : Int) == IntKind.i64.wrap ((x1.flushes : Nat) : Int)) = true; rw [g1]; simp) ?_
        (conv => whnf)
        refine FCalls.mono (keep_c (ks := [((i : Nat) : Int), ((c : Nat) : Int)]) (A := some ⟨ba, 0, none⟩) (c := 2) (v := v) (s := trs (auOf x.q) y.s c) h1 (hq1 ▸ hg) hv1 (by rw [hq1]; exact hkey _ g3) hn1 (fun M hM => ?_)) ?_
        · exact Blk.ints_ (xs := [((i : Nat) : Int), ((c : Nat) : Int)]) (hM.blk 1 rfl)
        rintro u m21 ⟨r, K2, x2, rfl, hK2, h2, hv2, hq2, hr2, hn2, hs2, hfl2⟩
        (conv => whnf)
        exact ⟨r, K2, x2, rfl, Mem.le_trans hK1 hK2, (((Df.out3 h2).drop 0).drop 0).drop 0, hv2, hn2, went_keep hf hq1 hr1 (by omega) (by omega) (.inl ⟨g1, g2, g3⟩) hq2 hr2 hs2 hfl2⟩
      · refine brk_false (by show (IntKind.i64.wrap ((x.flushes : Nat) : Int) == IntKind.i64.wrap ((x1.flushes : Nat) : Int)) = false; rw [g1]; exact wrap_ne) ?_
        (conv => whnf)
        exact ⟨v, K1, x1, rfl, hK1, ((hS.drop 0).drop 0).drop 0, hv1, hn1, hq1, hr1, by omega, by omega, by omega, by omega, fun v' hv' => (by rw [hf] at hv'; cases hv'), fun he => by omega⟩
    have c2 : y.s.aw = false := c2
    rw [c2, if_neg (by simp), List.append_nil] at hnx
    replace hS : Sep (sl lA (aNxt (auOf x.q) y.s c).length lc 1 (nv (aNxt (auOf x.q) y.s c)) :: pt b10 y.cells :: pt ba (ints [((i : Nat) : Int), ((c : Nat) : Int)]) :: Df.parts K d { x with steps := x.steps + 1 + y.s.reads.length } R) M := by
      rw [hnx]
      exact hS
    (conv => whnf)
    refine ⟨_, hS.cell 3 (i := 11) rfl rfl, ?_⟩
    (conv => whnf)
    refine ⟨_, hS.cell 1 (i := 3) rfl rfl, ?_⟩
    (conv => whnf)
    refine FCalls.mono (made_n (S := aNxt (auOf x.q) y.s c) (A := lA) (c := lc) (f := false) (aw := y.s.aw) (x := { x with steps := x.steps + 1 + y.s.reads.length }) (by rw [hnx, List.take_length]) (Df.inn3 hS) hq hg (hv.set x.set x.tA x.tn x.tc x.td _) (fun M hM => hM.rd 2 rfl) hnl (by omega)) ?_
    rintro u m20 ⟨v, K1, x1, rfl, hK1, h1, hv1, hq1, hr1, hn1, hs0, hs1, hfl⟩
    have hfl : (x1.flushes = x.flushes ∧ x1.a = x.a ∧ Ext x.sts x1.sts) ∨ x1.flushes = x.flushes + 1 := hfl
    have hq1 : x1.q = x.q := hq1
    have hr1 : x1.room = x.room := hr1
    have hs0 : x.steps + 1 + y.s.reads.length ≤ x1.steps := hs0
    have hs1 : x1.steps ≤ x.steps + 1 + y.s.reads.length + 2 * x.q.ins.length := hs1
    have hyl := hy.1.1
    clear hS
    have hS := Df.out3 h1
    (conv => whnf)
    refine ⟨_, hS.cell 3 (i := 11) rfl rfl, ?_⟩
    (conv => whnf)
    rcases hfl with ⟨g1, g2, g3⟩ | g1
    · refine brk_true (by show (IntKind.i64.wrap ((x.flushes : Nat) : Int) == IntKind.i64.wrap ((x1.flushes : Nat) : Int)) = true; rw [g1]; simp) ?_
      (conv => whnf)
      refine FCalls.mono (keep_c (ks := [((i : Nat) : Int), ((c : Nat) : Int)]) (A := some ⟨ba, 0, none⟩) (c := 2) (v := v) (s := trs (auOf x.q) y.s c) h1 (hq1 ▸ hg) hv1 (by rw [hq1]; exact hkey _ g3) hn1 (fun M hM => ?_)) ?_
      · exact Blk.ints_ (xs := [((i : Nat) : Int), ((c : Nat) : Int)]) (hM.blk 1 rfl)
      rintro u m21 ⟨r, K2, x2, rfl, hK2, h2, hv2, hq2, hr2, hn2, hs2, hfl2⟩
      (conv => whnf)
      exact ⟨r, K2, x2, rfl, Mem.le_trans hK1 hK2, (((Df.out3 h2).drop 0).drop 0).drop 0, hv2, hn2, went_keep hf hq1 hr1 (by omega) (by omega) (.inl ⟨g1, g2, g3⟩) hq2 hr2 hs2 hfl2⟩
    · refine brk_false (by show (IntKind.i64.wrap ((x.flushes : Nat) : Int) == IntKind.i64.wrap ((x1.flushes : Nat) : Int)) = false; rw [g1]; exact wrap_ne) ?_
      (conv => whnf)
      exact ⟨v, K1, x1, rfl, hK1, ((hS.drop 0).drop 0).drop 0, hv1, hn1, hq1, hr1, by omega, by omega, by omega, by omega, fun v' hv' => (by rw [hf] at hv'; cases hv'), fun he => by omega⟩
end Go.Proofs.Ytkkcdfnlmhmheaa
/- Dfa: play. -/
namespace Go.Proofs.Ytkkcdfnlmhmheaa
open Go Go.Mv
set_option maxHeartbeats 2000000
set_option maxRecDepth 10000
set_option linter.unusedVariables false
set_option linter.unusedSimpArgs false
attribute [local irreducible] FCalls IntKind.wrap bits Mem.set Mem.setCell Mem.setCells YCalls RunP NextP RunU
def bytesOf (s : ByteArray) (i : Nat) : List Nat := (s.data.toList.drop i).map UInt8.toNat
theorem bytes_at {s : ByteArray} {i : Nat} (h : i < s.size) : bytesOf s i = (s.data.toList.getD i 0).toNat :: bytesOf s (i + 1) := by
  have h1 : i < s.data.toList.length := h
  unfold bytesOf
  rw [List.drop_eq_getElem_cons h1, List.map_cons]
  rw [List.getD_eq_getElem?_getD, List.getElem?_eq_getElem h1]
  rfl
theorem bytes_end {s : ByteArray} {i : Nat} (h : s.size ≤ i) : bytesOf s i = [] := by
  have h1 : s.data.toList.length ≤ i := h
  unfold bytesOf
  rw [List.drop_eq_nil_of_le h1]
  rfl
theorem bytes_len {s : ByteArray} {i : Nat} : (bytesOf s i).length = s.size - i := by
  unfold bytesOf
  rw [List.length_map, List.length_drop]
  rfl
/-- The way over some bytes is known. -/
def Pth (stop : Bool) (f : List Int → Option Int) (sts : List SC) : Int → List Nat → Prop
  | _, [] => True
  | n, c :: r => n = -1 ∨ (stop = true ∧ ∃ i y, n = ((i : Nat) : Int) ∧ sts[i]? = some y ∧ y.s.mt = true) ∨ ∃ to, f [n, ((c : Nat) : Int)] = some to ∧ Pth stop f sts to r
def Gr (x x' : Df) : Prop := (∀ k v, x.a.f k = some v → x'.a.f k = some v) ∧ Ext x.sts x'.sts
theorem Gr.refl {x : Df} : Gr x x := ⟨fun _ _ h => h, Ext.refl⟩
theorem Gr.trans {x y z : Df} (h : Gr x y) (k : Gr y z) : Gr x z := ⟨fun a v hv => k.1 a v (h.1 a v hv), h.2.trans k.2⟩
theorem Pth.mono {stop : Bool} {f f' : List Int → Option Int} {a b : List SC} (hf : ∀ k v, f k = some v → f' k = some v) (hab : Ext a b) : ∀ {l : List Nat} {n : Int}, Pth stop f a n l → Pth stop f' b n l
  | [], _, _ => trivial
  | c :: r, n, h => by
    rcases h with h | ⟨h1, i, y, h2, h3, h4⟩ | ⟨to, h1, h2⟩
    · exact .inl h
    · exact .inr (.inl ⟨h1, i, y, h2, hab i y h3, h4⟩)
    · exact .inr (.inr ⟨to, hf _ _ h1, h2.mono hf hab⟩)
def Known (stop : Bool) (f aw : Bool) (x : Df) (l : List Nat) : Prop := ∃ n0, x.a.f [-2, flK f aw] = some n0 ∧ Pth stop x.a.f x.sts n0 l
/-- What a play leaves. -/
structure Played (stop f aw : Bool) (x x' : Df) (l : List Nat) (at0 : Nat) (T : List Nat) : Prop where
  q : x'.q = x.q
  room : x'.room = x.room
  told : T = if stop then (plays (auOf x.q) (sta (auOf x.q) [0] f aw) l at0).take 1 else plays (auOf x.q) (sta (auOf x.q) [0] f aw) l at0
  st0 : x.steps ≤ x'.steps
  st1 : x'.steps ≤ x.steps + 2 * x.q.ins.length + l.length * (3 * x.q.ins.length + 1)
  fl : x.flushes ≤ x'.flushes
  fl1 : x'.flushes ≤ x.flushes + 2 * (l.length + 1)
  kept : x'.flushes = x.flushes → Gr x x' ∧ Known stop f aw x' l
  hit : Known stop f aw x l → x'.flushes = x.flushes ∧ x'.steps ≤ x.steps + l.length
/-- While it goes: n: where it is; l: what is left; T: what was told. -/
structure Pl (stop f aw : Bool) (x0 x : Df) (L : List Nat) (at0 i : Nat) (n : Int) (s : Sta) (T : List Nat) (l : List Nat) : Prop where
  q : x.q = x0.q
  room : x.room = x0.room
  num : Num x.sts n s
  len : L.length = (i - at0) + l.length
  le : at0 ≤ i
  told : plays (auOf x0.q) (sta (auOf x0.q) [0] f aw) L at0 = T ++ plays (auOf x0.q) s l i
  short : T.length ≤ i - at0
  none' : stop = true → T = []
  st0 : x0.steps ≤ x.steps
  st1 : x.steps ≤ x0.steps + 2 * x0.q.ins.length + (i - at0) * (3 * x0.q.ins.length + 1)
  fl : x0.flushes ≤ x.flushes
  fl1 : x.flushes ≤ x0.flushes + 2 * (i - at0 + 1)
  kept : x.flushes = x0.flushes → Gr x0 x ∧ ∃ n0, x.a.f [-2, flK f aw] = some n0 ∧ ∀ x', Gr x x' → Pth stop x'.a.f x'.sts n l → Pth stop x'.a.f x'.sts n0 L
  hit : Known stop f aw x0 L → x.flushes = x0.flushes ∧ x.steps ≤ x0.steps + (i - at0) ∧ Pth stop x.a.f x.sts n l
theorem Pl.init {stop f aw : Bool} {x0 x : Df} {L : List Nat} {at0 : Nat} {n : Int} (hw : Went x0 x [-2, flK f aw] n (2 * x0.q.ins.length) 0) (hn : Num x.sts n (sta (auOf x0.q) [0] f aw)) : Pl stop f aw x0 x L at0 at0 n (sta (auOf x0.q) [0] f aw) [] L := by
  refine ⟨hw.q, hw.room, hn, by omega, Nat.le_refl _, rfl, by simp, fun _ => rfl, hw.st0, by have := hw.st1; omega, hw.fl, by have := hw.fl1; omega, fun he => ?_, fun ⟨n0, h1, h2⟩ => ?_⟩
  · obtain ⟨h1, h2, h3⟩ := hw.kept he
    exact ⟨⟨h2, h3⟩, n, h1, fun x' _ h => h⟩
  · obtain ⟨rfl, h4, h5⟩ := hw.hit n0 h1
    obtain ⟨g1, g2, g3⟩ := hw.kept h5
    exact ⟨h5, by omega, h2.mono g2 g3⟩
theorem Pl.next {stop f aw : Bool} {x0 x x1 : Df} {L l T : List Nat} {at0 i c : Nat} {n r : Int} {s : Sta} (h : Pl stop f aw x0 x L at0 i n s T (c :: l)) (hd : s.dead = false) (hw : Went x x1 [n, ((c : Nat) : Int)] r (3 * x.q.ins.length + 1) 1) (hn : Num x1.sts r (trs (auOf x0.q) s c)) (hst : stop = true → s.mt = false) :
    Pl stop f aw x0 x1 L at0 (i + 1) r (trs (auOf x0.q) s c) (T ++ if s.mt then [i] else []) l := by
  have hle := h.le
  have hlen := h.len
  rw [List.length_cons] at hlen
  have hpos := h.num.resolve_left fun h => by rw [hd] at h; cases h.1
  obtain ⟨_, j, y, hnj, hj, hys⟩ := hpos
  have hm : (i + 1 - at0) * (3 * x0.q.ins.length + 1) = (i - at0) * (3 * x0.q.ins.length + 1) + (3 * x0.q.ins.length + 1) := by rw [show i + 1 - at0 = (i - at0) + 1 by omega, Nat.add_mul, Nat.one_mul]
  have hq := h.q
  refine ⟨hw.q.trans h.q, hw.room.trans h.room, hn, by omega, by omega, ?_, ?_, fun hs => by rw [h.none' hs, hst hs]; rfl, Nat.le_trans h.st0 hw.st0, ?_, Nat.le_trans h.fl hw.fl, by have := h.fl1; have := hw.fl1; omega, fun he => ?_, fun hk => ?_⟩
  · rw [h.told]
    show T ++ ((if s.mt then [i] else []) ++ plays _ (trs _ s c) l (i + 1)) = _
    rw [List.append_assoc]
  · have := h.short
    rw [List.length_append]
    split <;> simp <;> omega
  · have h1 := h.st1
    have h2 := hw.st1
    rw [hq] at h2
    omega
  · have h1 := h.fl
    have h2 := hw.fl
    obtain ⟨g1, n0, g2, g3⟩ := h.kept (by omega)
    obtain ⟨k1, k2, k3⟩ := hw.kept (by omega)
    refine ⟨g1.trans ⟨k2, k3⟩, n0, k2 _ _ g2, fun x' hx' hp => g3 x' (Gr.trans ⟨k2, k3⟩ hx') ?_⟩
    exact .inr (.inr ⟨r, hx'.1 _ _ k1, hp⟩)
  · obtain ⟨g1, g2, g3⟩ := h.hit hk
    rcases g3 with g3 | ⟨hs, i', y', g4, g5, g6⟩ | ⟨to, g4, g5⟩
    · omega
    · have : i' = j := by omega
      subst this
      rw [hj] at g5
      cases g5
      rw [hys, hst hs] at g6
      cases g6
    · obtain ⟨rfl, k1, k2⟩ := hw.hit to g4
      obtain ⟨_, k4, k5⟩ := hw.kept k2
      exact ⟨by omega, by omega, g5.mono k4 k5⟩
/-- It ends: dead, at the line's end, or told enough. -/
theorem Pl.done {stop f aw : Bool} {x0 x : Df} {L l T T' : List Nat} {at0 i : Nat} {n : Int} {s : Sta} (h : Pl stop f aw x0 x L at0 i n s T l) (hT : T' = if stop then (T ++ plays (auOf x0.q) s l i).take 1 else T ++ plays (auOf x0.q) s l i) (hp : n = -1 ∨ l = [] ∨ (stop = true ∧ s.dead = false ∧ s.mt = true)) : Played stop f aw x0 x L at0 T' := by
  have hlen := h.len
  have hle := h.le
  have hpth : Pth stop x.a.f x.sts n l := by
    rcases hp with rfl | rfl | ⟨h1, h2, h3⟩
    · cases l with
      | nil => trivial
      | cons c l => exact .inl rfl
    · trivial
    · cases l with
      | nil => trivial
      | cons c l =>
        obtain ⟨_, j, y, hnj, hj, hys⟩ := h.num.resolve_left fun h => by rw [h2] at h; cases h.1
        exact .inr (.inl ⟨h1, j, y, hnj, hj, by rw [hys]; exact h3⟩)
  refine ⟨h.q, h.room, ?_, h.st0, ?_, h.fl, by have := h.fl1; omega, fun he => ?_, fun hk => ?_⟩
  · rw [hT, h.told]
  · have h1 := h.st1
    have : (i - at0) * (3 * x0.q.ins.length + 1) ≤ L.length * (3 * x0.q.ins.length + 1) := Nat.mul_le_mul_right _ (by omega)
    omega
  · obtain ⟨g1, n0, g2, g3⟩ := h.kept he
    exact ⟨g1, n0, g2, g3 x Gr.refl hpth⟩
  · obtain ⟨g1, g2, _⟩ := h.hit hk
    exact ⟨g1, by omega⟩
end Go.Proofs.Ytkkcdfnlmhmheaa
/- Dfa: play, by its three ways to tell. -/
namespace Go.Proofs.Ytkkcdfnlmhmheaa
open Go Go.Mv
set_option maxHeartbeats 2000000
set_option maxRecDepth 10000
set_option linter.unusedVariables false
set_option linter.unusedSimpArgs false
attribute [local irreducible] FCalls IntKind.wrap bits Mem.set Mem.setCell Mem.setCells YCalls RunP NextP RunU
theorem beqT {b : Bool} (h : (b == true) = true) : b = true := by cases b <;> first | rfl | cases h
theorem beqF {b : Bool} (h : (b == true) = false) : b = false := by cases b <;> first | rfl | cases h
theorem play_l {m K : Mem} {R : List Asn} {d at0 : Nat} {x : Df} {aw : Bool} {line : ByteArray} {cap : List Value} (Tl : List Nat → Asn)
    (tell : ∀ (T : List Nat) (a : Nat) (m1 : Mem), T.length ≤ a → a ≤ line.size → Tl T m1 → FCalls Try.prog 29 (.int .i64 ((a : Nat) : Int) :: cap) m1 fun v m' => v = .bool true ∧ Tl (T ++ [a]) m')
    (hS : Sep (x.parts K d (Tl [] :: R)) m) (hq : x.q.at K) (hg : GoodP x.q) (hv : Inv K x) (hat : at0 ≤ line.size) (hls : line.size < 4611686018427387904) :
    FCalls Try.prog 28 [.pointer (some ⟨d, 0, none⟩), .string line, .int .i64 ((at0 : Nat) : Int), .bool aw, .func (.func 29) #[] cap.toArray] m fun v m' => v = .tuple #[] ∧ ∃ K' x' T, K.le K' ∧ Sep (Df.parts K' d x' (Tl T :: R)) m' ∧ Inv K' x' ∧
      Played false (((at0 : Nat) : Int) == 0) aw x x' (bytesOf line at0) at0 T := by
  refine fcalls_of_vc (T := tbl) (B := bodies) (pr := [99999]) (DR := dr28) (args := [.v (.pointer (some ⟨d, 0, none⟩)), .v (.string line), .v (.int .i64 ((at0 : Nat) : Int)), .v (.bool aw), .v (.func (.func 29) #[] cap.toArray)]) tbl_ok bodies_ok mixed Try.func28 rfl (by decide +kernel) (by simp [Try.f28]) rfl ?_
  (conv => whnf)
  refine FCalls.mono (start_c hS hq hg hv) ?_
  rintro u m1 ⟨r, K1, x1, rfl, hK1, h1, hv1, hn1, hw⟩
  have hP0 : Pl false (((at0 : Nat) : Int) == 0) aw x x1 (bytesOf line at0) at0 at0 r _ [] (bytesOf line at0) := Pl.init hw hn1
  (conv => whnf)
  refine loop_keep [0, 1, 4] (Nat × Int × Sta × List Nat × Df × Mem × Mem) (fun z => [(2, .v (.int .i64 ((z.1 : Nat) : Int))), (10, .v (.int .i64 z.2.1))]) (fun _ => []) (fun z => z.2.2.2.2.2.2)
    (fun z => Sep (Df.parts z.2.2.2.2.2.1 d z.2.2.2.2.1 (Tl z.2.2.2.1 :: R)) z.2.2.2.2.2.2 ∧ K.le z.2.2.2.2.2.1 ∧ Inv z.2.2.2.2.2.1 z.2.2.2.2.1 ∧ z.1 ≤ line.size ∧ Pl false (((at0 : Nat) : Int) == 0) aw x z.2.2.2.2.1 (bytesOf line at0) at0 z.1 z.2.1 z.2.2.1 z.2.2.2.1 (bytesOf line z.1))
    (fun z => line.size - z.1) (at0, r, _, [], x1, K1, m1) ⟨rfl, rfl, trivial⟩ rfl rfl ⟨h1, hK1, hv1, hat, hP0⟩ ?_
  clear h1 hK1 hv1 hP0 hn1 hw hS
  (conv => whnf)
  refine ⟨rfl, ?_⟩
  rintro ⟨i, n, s, T, x1, K1, M⟩ ⟨hS, hK1, hv1, hi, hP⟩
  dsimp only at hS hK1 hv1 hi hP
  have hq1 := hP.q
  (conv => whnf)
  refine brk_intro (fun c1 => ?_) (fun c1 => ?_)
  rotate_left
  · have c1 : n = -1 := by simpa using c1
    have hd := hP.num.neg c1
    (conv => whnf)
    refine ⟨rfl, K1, x1, T, hK1, hS, hv1, hP.done ?_ (.inl c1)⟩
    rw [plays_dead hd, List.append_nil]
    rfl
  have c1 : n ≠ -1 := by simpa using c1
  obtain ⟨hd, j, y, rfl, hj, rfl⟩ := hP.num.pos c1
  have hjl := (List.getElem?_eq_some_iff.1 hj).1
  have hlen := hv1.len
  have hr1 := hv1.r1
  have step1 : i < line.size → IntKind.i64.wrap ((i : Int) + 1) = ((i + 1 : Nat) : Int) := fun h => wrap_id (by omega) (by omega)
  obtain ⟨p, hpA, hcp⟩ := sc_at (hS.rd 4 rfl) hj
  (conv => whnf)
  refine ⟨_, _, _, hS.cell 0 (i := 5) rfl rfl, ?_⟩
  (conv => whnf)
  refine ⟨p, hpA, by show (0 : Int) ≤ ((j : Nat) : Int); omega, by show ((j : Nat) : Int) < ((x1.sts.length : Nat) : Int); omega, ?_⟩
  (conv => whnf)
  refine ⟨_, _, _, hcp 0 _ rfl, ?_⟩
  (conv => whnf)
  refine ⟨_, hcp 1 _ rfl, ?_⟩
  (conv => whnf)
  refine ⟨_, hcp 2 _ rfl, ?_⟩
  (conv => whnf)
  refine ⟨_, hcp 3 _ rfl, ?_⟩
  (conv => whnf)
  intro b11 m2 hb he
  replace hS := hS.new' (l := [.slice none 0 0, .bool false, .bool false, .bool false]) hb he
  clear hb he hcp hpA
  (conv => whnf)
  refine ⟨hS.rooms 0 (i := 0) rfl (by decide), fun m3 he => ?_⟩
  replace hS : Sep (pt b11 y.cells :: Df.parts K1 d x1 (Tl T :: R)) m3 := he ▸ hS.putAll 0 (i := 0) y.cells rfl
  clear he
  have heq : ∀ {P : Prop}, (((i : Nat) : Int) == ((line.size : Nat) : Int)) = true → (i = line.size → P) → P := fun h k => k (by have := of_decide_eq_true h; omega)
  (conv => whnf)
  refine ⟨_, hS.cell 0 (i := 1) rfl rfl, ?_⟩
  (conv => whnf)
  cases hmt : y.s.mt with
  | true =>
    (conv => whnf)
    refine FCalls.mono (hS.call 8 rfl fun m1 h1 => tell T i m1 (by have := hP.short; omega) hi h1) ?_
    rintro u m6 ⟨m7, ⟨rfl, h1⟩, h2⟩
    have h3 := h2.one h1
    clear hS h1 h2
    have hS : Sep (pt b11 y.cells :: Df.parts K1 d x1 (Tl (T ++ [i]) :: R)) m6 := h3.back (j := 8) (by simp [Df.parts])
    clear h3
    (conv => whnf)
    refine brk_intro (fun c5 => ?_) (fun c5 => ?_)
    · have he : i = line.size := by have : ((i : Nat) : Int) = ((line.size : Nat) : Int) := of_decide_eq_true c5; omega
      (conv => whnf)
      exact ⟨rfl, K1, x1, T ++ [i], hK1, hS.drop 0, hv1, hP.done (by rw [bytes_end (Nat.le_of_eq he.symm)]; simp [plays, hmt]) (.inr (.inl (bytes_end (Nat.le_of_eq he.symm))))⟩
    · have hlt : i < line.size := by have : ¬ ((i : Nat) : Int) = ((line.size : Nat) : Int) := of_decide_eq_false c5; omega
      have step1 := step1 hlt
      (conv => whnf)
      refine ⟨by omega, by show ((i : Nat) : Int) < ((line.size : Nat) : Int); omega, ?_⟩
      (conv => whnf)
      refine FCalls.mono (move_c (c := (line.data.toList.getD i 0).toNat) (Df.inn hS) (hq1 ▸ hq.more hK1) (hq1 ▸ hg) hv1 hP.num hd (UInt8.toNat_lt _)) ?_
      rintro u m8 ⟨r, K2, x2, rfl, hK2, h4, hv2, hn2, hw2⟩
      rw [hq1] at hn2
      have hP2 := (bytes_at hlt ▸ hP).next hd hw2 hn2 (fun h => by cases h)
      rw [hmt] at hP2
      (conv => whnf)
      exact ⟨(i + 1, r, _, T ++ [i], x2, K2, m8), le_eq ⟨by show some (AV.v (.int .i64 (IntKind.i64.wrap ((i : Int) + 1)))) = _; rw [step1], rfl, rfl, rfl, rfl, trivial⟩ rfl rfl rfl, ⟨Df.out h4 |>.drop 0, Mem.le_trans hK1 hK2, hv2, by omega, hP2⟩, by simp only; omega⟩
  | false =>
    (conv => whnf)
    refine ⟨_, hS.cell 0 (i := 2) rfl rfl, ?_⟩
    (conv => whnf)
    cases hae : y.s.ae with
    | true =>
      (conv => whnf)
      refine brk_intro (fun c4 => ?_) (fun c4 => ?_)
      · have c4 : (((i : Nat) : Int) == ((line.size : Nat) : Int)) = true := beqT c4
        have he : i = line.size := by have : ((i : Nat) : Int) = ((line.size : Nat) : Int) := of_decide_eq_true c4; omega
        (conv => whnf)
        refine FCalls.mono (hS.call 8 rfl fun m1 h1 => tell T i m1 (by have := hP.short; omega) hi h1) ?_
        rintro u m6 ⟨m7, ⟨rfl, h1⟩, h2⟩
        have h3 := h2.one h1
        clear hS h1 h2
        have hS : Sep (pt b11 y.cells :: Df.parts K1 d x1 (Tl (T ++ [i]) :: R)) m6 := h3.back (j := 8) (by simp [Df.parts])
        clear h3
        (conv => whnf)
        refine brk_true c4 ?_
        (conv => whnf)
        exact ⟨rfl, K1, x1, T ++ [i], hK1, hS.drop 0, hv1, hP.done (by rw [bytes_end (Nat.le_of_eq he.symm)]; simp [plays, hmt, hae]) (.inr (.inl (bytes_end (Nat.le_of_eq he.symm))))⟩
      · have c4 : (((i : Nat) : Int) == ((line.size : Nat) : Int)) = false := beqF c4
        have hlt : i < line.size := by have : ¬ ((i : Nat) : Int) = ((line.size : Nat) : Int) := of_decide_eq_false c4; omega
        have step1 := step1 hlt
        (conv => whnf)
        refine brk_false c4 ?_
        (conv => whnf)
        refine ⟨by omega, by show ((i : Nat) : Int) < ((line.size : Nat) : Int); omega, ?_⟩
        (conv => whnf)
        refine FCalls.mono (move_c (c := (line.data.toList.getD i 0).toNat) (Df.inn hS) (hq1 ▸ hq.more hK1) (hq1 ▸ hg) hv1 hP.num hd (UInt8.toNat_lt _)) ?_
        rintro u m8 ⟨r, K2, x2, rfl, hK2, h4, hv2, hn2, hw2⟩
        rw [hq1] at hn2
        have hP2 := (bytes_at hlt ▸ hP).next hd hw2 hn2 (fun h => by cases h)
        rw [hmt] at hP2
        (conv => whnf)
        exact ⟨(i + 1, r, _, T, x2, K2, m8), le_eq ⟨by show some (AV.v (.int .i64 (IntKind.i64.wrap ((i : Int) + 1)))) = _; rw [step1], rfl, rfl, rfl, rfl, trivial⟩ rfl rfl rfl, ⟨Df.out h4 |>.drop 0, Mem.le_trans hK1 hK2, hv2, by omega, by simpa using hP2⟩, by simp only; omega⟩
    | false =>
      (conv => whnf)
      refine brk_intro (fun c5 => ?_) (fun c5 => ?_)
      · have he : i = line.size := by have : ((i : Nat) : Int) = ((line.size : Nat) : Int) := of_decide_eq_true c5; omega
        (conv => whnf)
        exact ⟨rfl, K1, x1, T, hK1, hS.drop 0, hv1, hP.done (by rw [bytes_end (Nat.le_of_eq he.symm)]; simp [plays, hmt, hae]) (.inr (.inl (bytes_end (Nat.le_of_eq he.symm))))⟩
      · have hlt : i < line.size := by have : ¬ ((i : Nat) : Int) = ((line.size : Nat) : Int) := of_decide_eq_false c5; omega
        have step1 := step1 hlt
        (conv => whnf)
        refine ⟨by omega, by show ((i : Nat) : Int) < ((line.size : Nat) : Int); omega, ?_⟩
        (conv => whnf)
        refine FCalls.mono (move_c (c := (line.data.toList.getD i 0).toNat) (Df.inn hS) (hq1 ▸ hq.more hK1) (hq1 ▸ hg) hv1 hP.num hd (UInt8.toNat_lt _)) ?_
        rintro u m8 ⟨r, K2, x2, rfl, hK2, h4, hv2, hn2, hw2⟩
        rw [hq1] at hn2
        have hP2 := (bytes_at hlt ▸ hP).next hd hw2 hn2 (fun h => by cases h)
        rw [hmt] at hP2
        (conv => whnf)
        exact ⟨(i + 1, r, _, T, x2, K2, m8), le_eq ⟨by show some (AV.v (.int .i64 (IntKind.i64.wrap ((i : Int) + 1)))) = _; rw [step1], rfl, rfl, rfl, rfl, trivial⟩ rfl rfl rfl, ⟨Df.out h4 |>.drop 0, Mem.le_trans hK1 hK2, hv2, by omega, by simpa using hP2⟩, by simp only; omega⟩
theorem play_a {m K : Mem} {R : List Asn} {d at0 : Nat} {x : Df} {aw : Bool} {line : ByteArray} {cap : List Value} (Tl : List Nat → Asn)
    (tell : ∀ (T : List Nat) (a : Nat) (m1 : Mem), T.length ≤ a → a ≤ line.size → Tl T m1 → FCalls Try.prog 30 (.int .i64 ((a : Nat) : Int) :: cap) m1 fun v m' => v = .bool false ∧ Tl (T ++ [a]) m')
    (hS : Sep (x.parts K d (Tl [] :: R)) m) (hq : x.q.at K) (hg : GoodP x.q) (hv : Inv K x) (hat : at0 ≤ line.size) (hls : line.size < 4611686018427387904) :
    FCalls Try.prog 28 [.pointer (some ⟨d, 0, none⟩), .string line, .int .i64 ((at0 : Nat) : Int), .bool aw, .func (.func 30) #[] cap.toArray] m fun v m' => v = .tuple #[] ∧ ∃ K' x' T, K.le K' ∧ Sep (Df.parts K' d x' (Tl T :: R)) m' ∧ Inv K' x' ∧
      Played true (((at0 : Nat) : Int) == 0) aw x x' (bytesOf line at0) at0 T := by
  refine fcalls_of_vc (T := tbl) (B := bodies) (pr := [99999]) (DR := dr28) (args := [.v (.pointer (some ⟨d, 0, none⟩)), .v (.string line), .v (.int .i64 ((at0 : Nat) : Int)), .v (.bool aw), .v (.func (.func 30) #[] cap.toArray)]) tbl_ok bodies_ok mixed Try.func28 rfl (by decide +kernel) (by simp [Try.f28]) rfl ?_
  (conv => whnf)
  refine FCalls.mono (start_c hS hq hg hv) ?_
  rintro u m1 ⟨r, K1, x1, rfl, hK1, h1, hv1, hn1, hw⟩
  have hP0 : Pl true (((at0 : Nat) : Int) == 0) aw x x1 (bytesOf line at0) at0 at0 r _ [] (bytesOf line at0) := Pl.init hw hn1
  (conv => whnf)
  refine loop_keep [0, 1, 4] (Nat × Int × Sta × List Nat × Df × Mem × Mem) (fun z => [(2, .v (.int .i64 ((z.1 : Nat) : Int))), (10, .v (.int .i64 z.2.1))]) (fun _ => []) (fun z => z.2.2.2.2.2.2)
    (fun z => Sep (Df.parts z.2.2.2.2.2.1 d z.2.2.2.2.1 (Tl z.2.2.2.1 :: R)) z.2.2.2.2.2.2 ∧ K.le z.2.2.2.2.2.1 ∧ Inv z.2.2.2.2.2.1 z.2.2.2.2.1 ∧ z.1 ≤ line.size ∧ Pl true (((at0 : Nat) : Int) == 0) aw x z.2.2.2.2.1 (bytesOf line at0) at0 z.1 z.2.1 z.2.2.1 z.2.2.2.1 (bytesOf line z.1))
    (fun z => line.size - z.1) (at0, r, _, [], x1, K1, m1) ⟨rfl, rfl, trivial⟩ rfl rfl ⟨h1, hK1, hv1, hat, hP0⟩ ?_
  clear h1 hK1 hv1 hP0 hn1 hw hS
  (conv => whnf)
  refine ⟨rfl, ?_⟩
  rintro ⟨i, n, s, T, x1, K1, M⟩ ⟨hS, hK1, hv1, hi, hP⟩
  dsimp only at hS hK1 hv1 hi hP
  have hq1 := hP.q
  (conv => whnf)
  refine brk_intro (fun c1 => ?_) (fun c1 => ?_)
  rotate_left
  · have c1 : n = -1 := by simpa using c1
    have hd := hP.num.neg c1
    (conv => whnf)
    refine ⟨rfl, K1, x1, T, hK1, hS, hv1, hP.done ?_ (.inl c1)⟩
    rw [plays_dead hd, List.append_nil]
    rw [hP.none' rfl]; rfl
  have c1 : n ≠ -1 := by simpa using c1
  obtain ⟨hd, j, y, rfl, hj, rfl⟩ := hP.num.pos c1
  have hjl := (List.getElem?_eq_some_iff.1 hj).1
  have hlen := hv1.len
  have hr1 := hv1.r1
  have step1 : i < line.size → IntKind.i64.wrap ((i : Int) + 1) = ((i + 1 : Nat) : Int) := fun h => wrap_id (by omega) (by omega)
  obtain ⟨p, hpA, hcp⟩ := sc_at (hS.rd 4 rfl) hj
  (conv => whnf)
  refine ⟨_, _, _, hS.cell 0 (i := 5) rfl rfl, ?_⟩
  (conv => whnf)
  refine ⟨p, hpA, by show (0 : Int) ≤ ((j : Nat) : Int); omega, by show ((j : Nat) : Int) < ((x1.sts.length : Nat) : Int); omega, ?_⟩
  (conv => whnf)
  refine ⟨_, _, _, hcp 0 _ rfl, ?_⟩
  (conv => whnf)
  refine ⟨_, hcp 1 _ rfl, ?_⟩
  (conv => whnf)
  refine ⟨_, hcp 2 _ rfl, ?_⟩
  (conv => whnf)
  refine ⟨_, hcp 3 _ rfl, ?_⟩
  (conv => whnf)
  intro b11 m2 hb he
  replace hS := hS.new' (l := [.slice none 0 0, .bool false, .bool false, .bool false]) hb he
  clear hb he hcp hpA
  (conv => whnf)
  refine ⟨hS.rooms 0 (i := 0) rfl (by decide), fun m3 he => ?_⟩
  replace hS : Sep (pt b11 y.cells :: Df.parts K1 d x1 (Tl T :: R)) m3 := he ▸ hS.putAll 0 (i := 0) y.cells rfl
  clear he
  have heq : ∀ {P : Prop}, (((i : Nat) : Int) == ((line.size : Nat) : Int)) = true → (i = line.size → P) → P := fun h k => k (by have := of_decide_eq_true h; omega)
  (conv => whnf)
  refine ⟨_, hS.cell 0 (i := 1) rfl rfl, ?_⟩
  (conv => whnf)
  cases hmt : y.s.mt with
  | true =>
    (conv => whnf)
    refine FCalls.mono (hS.call 8 rfl fun m1 h1 => tell T i m1 (by have := hP.short; omega) hi h1) ?_
    rintro u m6 ⟨m7, ⟨rfl, h1⟩, h2⟩
    have h3 := h2.one h1
    clear hS h1 h2
    have hS : Sep (pt b11 y.cells :: Df.parts K1 d x1 (Tl (T ++ [i]) :: R)) m6 := h3.back (j := 8) (by simp [Df.parts])
    clear h3
    (conv => whnf)
    (conv => whnf)
    exact ⟨rfl, K1, x1, T ++ [i], hK1, hS.drop 0, hv1, hP.done (by rw [hP.none' rfl]; cases hb : bytesOf line i <;> simp [plays, hmt]) (.inr (.inr ⟨rfl, hd, hmt⟩))⟩
  | false =>
    (conv => whnf)
    refine ⟨_, hS.cell 0 (i := 2) rfl rfl, ?_⟩
    (conv => whnf)
    cases hae : y.s.ae with
    | true =>
      (conv => whnf)
      refine brk_intro (fun c4 => ?_) (fun c4 => ?_)
      · have c4 : (((i : Nat) : Int) == ((line.size : Nat) : Int)) = true := beqT c4
        have he : i = line.size := by have : ((i : Nat) : Int) = ((line.size : Nat) : Int) := of_decide_eq_true c4; omega
        (conv => whnf)
        refine FCalls.mono (hS.call 8 rfl fun m1 h1 => tell T i m1 (by have := hP.short; omega) hi h1) ?_
        rintro u m6 ⟨m7, ⟨rfl, h1⟩, h2⟩
        have h3 := h2.one h1
        clear hS h1 h2
        have hS : Sep (pt b11 y.cells :: Df.parts K1 d x1 (Tl (T ++ [i]) :: R)) m6 := h3.back (j := 8) (by simp [Df.parts])
        clear h3
        (conv => whnf)
        (conv => whnf)
        exact ⟨rfl, K1, x1, T ++ [i], hK1, hS.drop 0, hv1, hP.done (by rw [hP.none' rfl]; rw [bytes_end (Nat.le_of_eq he.symm)]; simp [plays, hmt, hae]) (.inr (.inl (bytes_end (Nat.le_of_eq he.symm))))⟩
      · have c4 : (((i : Nat) : Int) == ((line.size : Nat) : Int)) = false := beqF c4
        have hlt : i < line.size := by have : ¬ ((i : Nat) : Int) = ((line.size : Nat) : Int) := of_decide_eq_false c4; omega
        have step1 := step1 hlt
        (conv => whnf)
        refine brk_false c4 ?_
        (conv => whnf)
        refine ⟨by omega, by show ((i : Nat) : Int) < ((line.size : Nat) : Int); omega, ?_⟩
        (conv => whnf)
        refine FCalls.mono (move_c (c := (line.data.toList.getD i 0).toNat) (Df.inn hS) (hq1 ▸ hq.more hK1) (hq1 ▸ hg) hv1 hP.num hd (UInt8.toNat_lt _)) ?_
        rintro u m8 ⟨r, K2, x2, rfl, hK2, h4, hv2, hn2, hw2⟩
        rw [hq1] at hn2
        have hP2 := (bytes_at hlt ▸ hP).next hd hw2 hn2 (fun _ => hmt)
        rw [hmt] at hP2
        (conv => whnf)
        exact ⟨(i + 1, r, _, T, x2, K2, m8), le_eq ⟨by show some (AV.v (.int .i64 (IntKind.i64.wrap ((i : Int) + 1)))) = _; rw [step1], rfl, rfl, rfl, rfl, trivial⟩ rfl rfl rfl, ⟨Df.out h4 |>.drop 0, Mem.le_trans hK1 hK2, hv2, by omega, by simpa using hP2⟩, by simp only; omega⟩
    | false =>
      (conv => whnf)
      refine brk_intro (fun c5 => ?_) (fun c5 => ?_)
      · have he : i = line.size := by have : ((i : Nat) : Int) = ((line.size : Nat) : Int) := of_decide_eq_true c5; omega
        (conv => whnf)
        exact ⟨rfl, K1, x1, T, hK1, hS.drop 0, hv1, hP.done (by rw [hP.none' rfl]; rw [bytes_end (Nat.le_of_eq he.symm)]; simp [plays, hmt, hae]) (.inr (.inl (bytes_end (Nat.le_of_eq he.symm))))⟩
      · have hlt : i < line.size := by have : ¬ ((i : Nat) : Int) = ((line.size : Nat) : Int) := of_decide_eq_false c5; omega
        have step1 := step1 hlt
        (conv => whnf)
        refine ⟨by omega, by show ((i : Nat) : Int) < ((line.size : Nat) : Int); omega, ?_⟩
        (conv => whnf)
        refine FCalls.mono (move_c (c := (line.data.toList.getD i 0).toNat) (Df.inn hS) (hq1 ▸ hq.more hK1) (hq1 ▸ hg) hv1 hP.num hd (UInt8.toNat_lt _)) ?_
        rintro u m8 ⟨r, K2, x2, rfl, hK2, h4, hv2, hn2, hw2⟩
        rw [hq1] at hn2
        have hP2 := (bytes_at hlt ▸ hP).next hd hw2 hn2 (fun _ => hmt)
        rw [hmt] at hP2
        (conv => whnf)
        exact ⟨(i + 1, r, _, T, x2, K2, m8), le_eq ⟨by show some (AV.v (.int .i64 (IntKind.i64.wrap ((i : Int) + 1)))) = _; rw [step1], rfl, rfl, rfl, rfl, trivial⟩ rfl rfl rfl, ⟨Df.out h4 |>.drop 0, Mem.le_trans hK1 hK2, hv2, by omega, by simpa using hP2⟩, by simp only; omega⟩
theorem play_e {m K : Mem} {R : List Asn} {d at0 : Nat} {x : Df} {aw : Bool} {line : ByteArray} {cap : List Value} (Tl : List Nat → Asn)
    (tell : ∀ (T : List Nat) (a : Nat) (m1 : Mem), T.length ≤ a → a ≤ line.size → Tl T m1 → FCalls Try.prog 31 (.int .i64 ((a : Nat) : Int) :: cap) m1 fun v m' => v = .bool true ∧ Tl (T ++ [a]) m')
    (hS : Sep (x.parts K d (Tl [] :: R)) m) (hq : x.q.at K) (hg : GoodP x.q) (hv : Inv K x) (hat : at0 ≤ line.size) (hls : line.size < 4611686018427387904) :
    FCalls Try.prog 28 [.pointer (some ⟨d, 0, none⟩), .string line, .int .i64 ((at0 : Nat) : Int), .bool aw, .func (.func 31) #[] cap.toArray] m fun v m' => v = .tuple #[] ∧ ∃ K' x' T, K.le K' ∧ Sep (Df.parts K' d x' (Tl T :: R)) m' ∧ Inv K' x' ∧
      Played false (((at0 : Nat) : Int) == 0) aw x x' (bytesOf line at0) at0 T := by
  refine fcalls_of_vc (T := tbl) (B := bodies) (pr := [99999]) (DR := dr28) (args := [.v (.pointer (some ⟨d, 0, none⟩)), .v (.string line), .v (.int .i64 ((at0 : Nat) : Int)), .v (.bool aw), .v (.func (.func 31) #[] cap.toArray)]) tbl_ok bodies_ok mixed Try.func28 rfl (by decide +kernel) (by simp [Try.f28]) rfl ?_
  (conv => whnf)
  refine FCalls.mono (start_c hS hq hg hv) ?_
  rintro u m1 ⟨r, K1, x1, rfl, hK1, h1, hv1, hn1, hw⟩
  have hP0 : Pl false (((at0 : Nat) : Int) == 0) aw x x1 (bytesOf line at0) at0 at0 r _ [] (bytesOf line at0) := Pl.init hw hn1
  (conv => whnf)
  refine loop_keep [0, 1, 4] (Nat × Int × Sta × List Nat × Df × Mem × Mem) (fun z => [(2, .v (.int .i64 ((z.1 : Nat) : Int))), (10, .v (.int .i64 z.2.1))]) (fun _ => []) (fun z => z.2.2.2.2.2.2)
    (fun z => Sep (Df.parts z.2.2.2.2.2.1 d z.2.2.2.2.1 (Tl z.2.2.2.1 :: R)) z.2.2.2.2.2.2 ∧ K.le z.2.2.2.2.2.1 ∧ Inv z.2.2.2.2.2.1 z.2.2.2.2.1 ∧ z.1 ≤ line.size ∧ Pl false (((at0 : Nat) : Int) == 0) aw x z.2.2.2.2.1 (bytesOf line at0) at0 z.1 z.2.1 z.2.2.1 z.2.2.2.1 (bytesOf line z.1))
    (fun z => line.size - z.1) (at0, r, _, [], x1, K1, m1) ⟨rfl, rfl, trivial⟩ rfl rfl ⟨h1, hK1, hv1, hat, hP0⟩ ?_
  clear h1 hK1 hv1 hP0 hn1 hw hS
  (conv => whnf)
  refine ⟨rfl, ?_⟩
  rintro ⟨i, n, s, T, x1, K1, M⟩ ⟨hS, hK1, hv1, hi, hP⟩
  dsimp only at hS hK1 hv1 hi hP
  have hq1 := hP.q
  (conv => whnf)
  refine brk_intro (fun c1 => ?_) (fun c1 => ?_)
  rotate_left
  · have c1 : n = -1 := by simpa using c1
    have hd := hP.num.neg c1
    (conv => whnf)
    refine ⟨rfl, K1, x1, T, hK1, hS, hv1, hP.done ?_ (.inl c1)⟩
    rw [plays_dead hd, List.append_nil]
    rfl
  have c1 : n ≠ -1 := by simpa using c1
  obtain ⟨hd, j, y, rfl, hj, rfl⟩ := hP.num.pos c1
  have hjl := (List.getElem?_eq_some_iff.1 hj).1
  have hlen := hv1.len
  have hr1 := hv1.r1
  have step1 : i < line.size → IntKind.i64.wrap ((i : Int) + 1) = ((i + 1 : Nat) : Int) := fun h => wrap_id (by omega) (by omega)
  obtain ⟨p, hpA, hcp⟩ := sc_at (hS.rd 4 rfl) hj
  (conv => whnf)
  refine ⟨_, _, _, hS.cell 0 (i := 5) rfl rfl, ?_⟩
  (conv => whnf)
  refine ⟨p, hpA, by show (0 : Int) ≤ ((j : Nat) : Int); omega, by show ((j : Nat) : Int) < ((x1.sts.length : Nat) : Int); omega, ?_⟩
  (conv => whnf)
  refine ⟨_, _, _, hcp 0 _ rfl, ?_⟩
  (conv => whnf)
  refine ⟨_, hcp 1 _ rfl, ?_⟩
  (conv => whnf)
  refine ⟨_, hcp 2 _ rfl, ?_⟩
  (conv => whnf)
  refine ⟨_, hcp 3 _ rfl, ?_⟩
  (conv => whnf)
  intro b11 m2 hb he
  replace hS := hS.new' (l := [.slice none 0 0, .bool false, .bool false, .bool false]) hb he
  clear hb he hcp hpA
  (conv => whnf)
  refine ⟨hS.rooms 0 (i := 0) rfl (by decide), fun m3 he => ?_⟩
  replace hS : Sep (pt b11 y.cells :: Df.parts K1 d x1 (Tl T :: R)) m3 := he ▸ hS.putAll 0 (i := 0) y.cells rfl
  clear he
  have heq : ∀ {P : Prop}, (((i : Nat) : Int) == ((line.size : Nat) : Int)) = true → (i = line.size → P) → P := fun h k => k (by have := of_decide_eq_true h; omega)
  (conv => whnf)
  refine ⟨_, hS.cell 0 (i := 1) rfl rfl, ?_⟩
  (conv => whnf)
  cases hmt : y.s.mt with
  | true =>
    (conv => whnf)
    refine FCalls.mono (hS.call 8 rfl fun m1 h1 => tell T i m1 (by have := hP.short; omega) hi h1) ?_
    rintro u m6 ⟨m7, ⟨rfl, h1⟩, h2⟩
    have h3 := h2.one h1
    clear hS h1 h2
    have hS : Sep (pt b11 y.cells :: Df.parts K1 d x1 (Tl (T ++ [i]) :: R)) m6 := h3.back (j := 8) (by simp [Df.parts])
    clear h3
    (conv => whnf)
    refine brk_intro (fun c5 => ?_) (fun c5 => ?_)
    · have he : i = line.size := by have : ((i : Nat) : Int) = ((line.size : Nat) : Int) := of_decide_eq_true c5; omega
      (conv => whnf)
      exact ⟨rfl, K1, x1, T ++ [i], hK1, hS.drop 0, hv1, hP.done (by rw [bytes_end (Nat.le_of_eq he.symm)]; simp [plays, hmt]) (.inr (.inl (bytes_end (Nat.le_of_eq he.symm))))⟩
    · have hlt : i < line.size := by have : ¬ ((i : Nat) : Int) = ((line.size : Nat) : Int) := of_decide_eq_false c5; omega
      have step1 := step1 hlt
      (conv => whnf)
      refine ⟨by omega, by show ((i : Nat) : Int) < ((line.size : Nat) : Int); omega, ?_⟩
      (conv => whnf)
      refine FCalls.mono (move_c (c := (line.data.toList.getD i 0).toNat) (Df.inn hS) (hq1 ▸ hq.more hK1) (hq1 ▸ hg) hv1 hP.num hd (UInt8.toNat_lt _)) ?_
      rintro u m8 ⟨r, K2, x2, rfl, hK2, h4, hv2, hn2, hw2⟩
      rw [hq1] at hn2
      have hP2 := (bytes_at hlt ▸ hP).next hd hw2 hn2 (fun h => by cases h)
      rw [hmt] at hP2
      (conv => whnf)
      exact ⟨(i + 1, r, _, T ++ [i], x2, K2, m8), le_eq ⟨by show some (AV.v (.int .i64 (IntKind.i64.wrap ((i : Int) + 1)))) = _; rw [step1], rfl, rfl, rfl, rfl, trivial⟩ rfl rfl rfl, ⟨Df.out h4 |>.drop 0, Mem.le_trans hK1 hK2, hv2, by omega, hP2⟩, by simp only; omega⟩
  | false =>
    (conv => whnf)
    refine ⟨_, hS.cell 0 (i := 2) rfl rfl, ?_⟩
    (conv => whnf)
    cases hae : y.s.ae with
    | true =>
      (conv => whnf)
      refine brk_intro (fun c4 => ?_) (fun c4 => ?_)
      · have c4 : (((i : Nat) : Int) == ((line.size : Nat) : Int)) = true := beqT c4
        have he : i = line.size := by have : ((i : Nat) : Int) = ((line.size : Nat) : Int) := of_decide_eq_true c4; omega
        (conv => whnf)
        refine FCalls.mono (hS.call 8 rfl fun m1 h1 => tell T i m1 (by have := hP.short; omega) hi h1) ?_
        rintro u m6 ⟨m7, ⟨rfl, h1⟩, h2⟩
        have h3 := h2.one h1
        clear hS h1 h2
        have hS : Sep (pt b11 y.cells :: Df.parts K1 d x1 (Tl (T ++ [i]) :: R)) m6 := h3.back (j := 8) (by simp [Df.parts])
        clear h3
        (conv => whnf)
        refine brk_true c4 ?_
        (conv => whnf)
        exact ⟨rfl, K1, x1, T ++ [i], hK1, hS.drop 0, hv1, hP.done (by rw [bytes_end (Nat.le_of_eq he.symm)]; simp [plays, hmt, hae]) (.inr (.inl (bytes_end (Nat.le_of_eq he.symm))))⟩
      · have c4 : (((i : Nat) : Int) == ((line.size : Nat) : Int)) = false := beqF c4
        have hlt : i < line.size := by have : ¬ ((i : Nat) : Int) = ((line.size : Nat) : Int) := of_decide_eq_false c4; omega
        have step1 := step1 hlt
        (conv => whnf)
        refine brk_false c4 ?_
        (conv => whnf)
        refine ⟨by omega, by show ((i : Nat) : Int) < ((line.size : Nat) : Int); omega, ?_⟩
        (conv => whnf)
        refine FCalls.mono (move_c (c := (line.data.toList.getD i 0).toNat) (Df.inn hS) (hq1 ▸ hq.more hK1) (hq1 ▸ hg) hv1 hP.num hd (UInt8.toNat_lt _)) ?_
        rintro u m8 ⟨r, K2, x2, rfl, hK2, h4, hv2, hn2, hw2⟩
        rw [hq1] at hn2
        have hP2 := (bytes_at hlt ▸ hP).next hd hw2 hn2 (fun h => by cases h)
        rw [hmt] at hP2
        (conv => whnf)
        exact ⟨(i + 1, r, _, T, x2, K2, m8), le_eq ⟨by show some (AV.v (.int .i64 (IntKind.i64.wrap ((i : Int) + 1)))) = _; rw [step1], rfl, rfl, rfl, rfl, trivial⟩ rfl rfl rfl, ⟨Df.out h4 |>.drop 0, Mem.le_trans hK1 hK2, hv2, by omega, by simpa using hP2⟩, by simp only; omega⟩
    | false =>
      (conv => whnf)
      refine brk_intro (fun c5 => ?_) (fun c5 => ?_)
      · have he : i = line.size := by have : ((i : Nat) : Int) = ((line.size : Nat) : Int) := of_decide_eq_true c5; omega
        (conv => whnf)
        exact ⟨rfl, K1, x1, T, hK1, hS.drop 0, hv1, hP.done (by rw [bytes_end (Nat.le_of_eq he.symm)]; simp [plays, hmt, hae]) (.inr (.inl (bytes_end (Nat.le_of_eq he.symm))))⟩
      · have hlt : i < line.size := by have : ¬ ((i : Nat) : Int) = ((line.size : Nat) : Int) := of_decide_eq_false c5; omega
        have step1 := step1 hlt
        (conv => whnf)
        refine ⟨by omega, by show ((i : Nat) : Int) < ((line.size : Nat) : Int); omega, ?_⟩
        (conv => whnf)
        refine FCalls.mono (move_c (c := (line.data.toList.getD i 0).toNat) (Df.inn hS) (hq1 ▸ hq.more hK1) (hq1 ▸ hg) hv1 hP.num hd (UInt8.toNat_lt _)) ?_
        rintro u m8 ⟨r, K2, x2, rfl, hK2, h4, hv2, hn2, hw2⟩
        rw [hq1] at hn2
        have hP2 := (bytes_at hlt ▸ hP).next hd hw2 hn2 (fun h => by cases h)
        rw [hmt] at hP2
        (conv => whnf)
        exact ⟨(i + 1, r, _, T, x2, K2, m8), le_eq ⟨by show some (AV.v (.int .i64 (IntKind.i64.wrap ((i : Int) + 1)))) = _; rw [step1], rfl, rfl, rfl, rfl, trivial⟩ rfl rfl rfl, ⟨Df.out h4 |>.drop 0, Mem.le_trans hK1 hK2, hv2, by omega, by simpa using hP2⟩, by simp only; omega⟩
end Go.Proofs.Ytkkcdfnlmhmheaa
/- Dfa: Longest, Any, Ends. -/
namespace Go.Proofs.Ytkkcdfnlmhmheaa
open Go Go.Mv
set_option maxHeartbeats 2000000
set_option maxRecDepth 10000
set_option linter.unusedVariables false
set_option linter.unusedSimpArgs false
attribute [local irreducible] FCalls IntKind.wrap bits Mem.set Mem.setCell Mem.setCells YCalls RunP NextP RunU
def lastI (T : List Nat) : Int := match T.getLast? with
  | none => 0
  | some x => ((x : Nat) : Int)
theorem lastI_app {T : List Nat} {a : Nat} : lastI (T ++ [a]) = ((a : Nat) : Int) := by
  unfold lastI
  rw [List.getLast?_append]
  rfl
def tlL (b6 b7 : Nat) (T : List Nat) : Asn := Sep [pt b6 [.int .i64 (lastI T)], pt b7 [.bool (!T.isEmpty)]]
def tlE (b6 : Nat) (T : List Nat) : Asn := fun m => ∃ A c, Sep [pt b6 [.slice A T.length c], sl A T.length c 1 (nv T)] m
theorem tell_l {b6 b7 : Nat} (T : List Nat) (a : Nat) {m1 : Mem} (h : tlL b6 b7 T m1) : FCalls Try.prog 29 [.int .i64 ((a : Nat) : Int), .pointer (some ⟨b6, 0, none⟩), .pointer (some ⟨b7, 0, none⟩)] m1 fun v m' => v = .bool true ∧ tlL b6 b7 (T ++ [a]) m' := by
  unfold tlL at h
  refine fcalls_of_vc (T := tbl) (B := bodies) (pr := [99999]) (DR := dr29) (args := [.v (.int .i64 ((a : Nat) : Int)), .v (.pointer (some ⟨b6, 0, none⟩)), .v (.pointer (some ⟨b7, 0, none⟩))]) tbl_ok bodies_ok mixed Try.func29 rfl (by decide +kernel) (by simp [Try.f29]) rfl ?_
  (conv => whnf)
  refine ⟨h.room 0 (i := 0) rfl rfl, fun m2 he => ?_⟩
  replace h := h.put' 0 he rfl
  (conv => whnf)
  refine ⟨h.room 1 (i := 0) rfl rfl, fun m3 he => ?_⟩
  replace h := h.put' 1 he rfl
  (conv => whnf)
  refine ⟨rfl, ?_⟩
  unfold tlL
  rw [lastI_app, show (!(T ++ [a]).isEmpty) = true by simp]
  exact h
theorem tell_a {b6 b7 : Nat} (T : List Nat) (a : Nat) {m1 : Mem} (h : tlL b6 b7 T m1) : FCalls Try.prog 30 [.int .i64 ((a : Nat) : Int), .pointer (some ⟨b6, 0, none⟩), .pointer (some ⟨b7, 0, none⟩)] m1 fun v m' => v = .bool false ∧ tlL b6 b7 (T ++ [a]) m' := by
  unfold tlL at h
  refine fcalls_of_vc (T := tbl) (B := bodies) (pr := [99999]) (DR := dr30) (args := [.v (.int .i64 ((a : Nat) : Int)), .v (.pointer (some ⟨b6, 0, none⟩)), .v (.pointer (some ⟨b7, 0, none⟩))]) tbl_ok bodies_ok mixed Try.func30 rfl (by decide +kernel) (by simp [Try.f30]) rfl ?_
  (conv => whnf)
  refine ⟨h.room 0 (i := 0) rfl rfl, fun m2 he => ?_⟩
  replace h := h.put' 0 he rfl
  (conv => whnf)
  refine ⟨h.room 1 (i := 0) rfl rfl, fun m3 he => ?_⟩
  replace h := h.put' 1 he rfl
  (conv => whnf)
  refine ⟨rfl, ?_⟩
  unfold tlL
  rw [lastI_app, show (!(T ++ [a]).isEmpty) = true by simp]
  exact h
theorem tell_e {b6 : Nat} (T : List Nat) (a : Nat) {m1 : Mem} (h : tlE b6 T m1) (hT : T.length ≤ 1099511627776) : FCalls Try.prog 31 [.int .i64 ((a : Nat) : Int), .pointer (some ⟨b6, 0, none⟩)] m1 fun v m' => v = .bool true ∧ tlE b6 (T ++ [a]) m' := by
  obtain ⟨A, c, h⟩ := h
  refine fcalls_of_vc (T := tbl) (B := bodies) (pr := [99999]) (DR := dr31) (args := [.v (.int .i64 ((a : Nat) : Int)), .v (.pointer (some ⟨b6, 0, none⟩))]) tbl_ok bodies_ok mixed Try.func31 rfl (by decide +kernel) (by simp [Try.f31]) rfl ?_
  (conv => whnf)
  refine ⟨_, _, _, h.cell 0 (i := 0) rfl rfl, ?_⟩
  (conv => whnf)
  intro nb m2 hb he
  replace h := h.new' (l := nv [a]) hb he
  have hBn : m2.holds ⟨nb, 0, none⟩ (nv [a]) := (h.blk 0 rfl).holds fun k v hk => by rw [Nat.zero_add]; exact hk
  clear hb he
  (conv => whnf)
  obtain ⟨ok, hR⟩ := h.app 2 (T := tbl) (e := 3) (news := nv [a]) (k := 1) (B := some ⟨nb, 0, none⟩) rfl rfl (.inr ⟨_, rfl, hBn⟩) rfl rfl (by show 2 * (T.length + 1) * 8 ≤ 2 ^ 48; omega) rfl
  refine ⟨_, _, ok, fun A' c' m3 hr => ?_⟩
  replace h := (hR _ _ _ hr).drop 0
  clear ok hR hr hBn
  (conv => whnf)
  refine ⟨h.room 0 (i := 0) rfl rfl, fun m4 he => ?_⟩
  replace h := h.put' 0 he rfl
  (conv => whnf)
  refine ⟨rfl, A', c', ?_⟩
  rw [List.length_append, nv_app]
  exact h
theorem bad_l {m : Mem} {d : Nat} {line : ByteArray} {at0 : Int} (hat : at0 < 0 ∨ ((line.size : Nat) : Int) < at0) : FCalls Try.prog 12 [.pointer (some ⟨d, 0, none⟩), .string line, .int .i64 at0] m fun v m' => v = .tuple #[.int .i64 0, .bool false, .int .i64 1] ∧ m' = m := by
  refine FCalls.less ?_
  have h := Sep.init m
  refine fcalls_of_vc (T := tbl) (B := bodies) (pr := [99999]) (DR := dr12) (args := [.v (.pointer (some ⟨d, 0, none⟩)), .v (.string line), .v (.int .i64 at0)]) tbl_ok bodies_ok mixed Try.func12 rfl (by decide +kernel) (by simp [Try.f12]) rfl ?_
  (conv => whnf)
  intro b6 m1 hb he
  replace h := h.new' (l := [.int .i64 0]) hb he
  clear hb he
  (conv => whnf)
  intro b7 m2 hb he
  replace h := h.new' (l := [.bool false]) hb he
  clear hb he
  (conv => whnf)
  by_cases h0 : at0 < 0
  · refine brk_false (by rw [decide_eq_true h0]; rfl) ?_
    (conv => whnf)
    refine ⟨h.room 1 (i := 0) rfl rfl, fun m3 he => ?_⟩
    replace h := h.put' 1 he rfl
    clear he
    (conv => whnf)
    refine ⟨h.room 0 (i := 0) rfl rfl, fun m4 he => ?_⟩
    replace h := h.put' 0 he rfl
    clear he
    (conv => whnf)
    refine ⟨_, h.cell 1 (i := 0) rfl rfl, ?_⟩
    (conv => whnf)
    refine ⟨_, h.cell 0 (i := 0) rfl rfl, ?_⟩
    (conv => whnf)
    exact ⟨m, h.kept 2 rfl, rfl, rfl⟩
  · refine brk_true (by rw [decide_eq_false h0]; rfl) ?_
    (conv => whnf)
    refine brk_true (by show (bif false then true else decide (at0 > ((line.size : Nat) : Int))) = true; rw [decide_eq_true (show at0 > ((line.size : Nat) : Int) by omega)]; rfl) ?_
    (conv => whnf)
    refine ⟨h.room 1 (i := 0) rfl rfl, fun m3 he => ?_⟩
    replace h := h.put' 1 he rfl
    clear he
    (conv => whnf)
    refine ⟨h.room 0 (i := 0) rfl rfl, fun m4 he => ?_⟩
    replace h := h.put' 0 he rfl
    clear he
    (conv => whnf)
    refine ⟨_, h.cell 1 (i := 0) rfl rfl, ?_⟩
    (conv => whnf)
    refine ⟨_, h.cell 0 (i := 0) rfl rfl, ?_⟩
    (conv => whnf)
    exact ⟨m, h.kept 2 rfl, rfl, rfl⟩
theorem bad_a {m : Mem} {d : Nat} {line : ByteArray} {at0 : Int} (hat : at0 < 0 ∨ ((line.size : Nat) : Int) < at0) : FCalls Try.prog 13 [.pointer (some ⟨d, 0, none⟩), .string line, .int .i64 at0] m fun v m' => v = .tuple #[.int .i64 0, .bool false, .int .i64 1] ∧ m' = m := by
  refine FCalls.less ?_
  have h := Sep.init m
  refine fcalls_of_vc (T := tbl) (B := bodies) (pr := [99999]) (DR := dr13) (args := [.v (.pointer (some ⟨d, 0, none⟩)), .v (.string line), .v (.int .i64 at0)]) tbl_ok bodies_ok mixed Try.func13 rfl (by decide +kernel) (by simp [Try.f13]) rfl ?_
  (conv => whnf)
  intro b6 m1 hb he
  replace h := h.new' (l := [.int .i64 0]) hb he
  clear hb he
  (conv => whnf)
  intro b7 m2 hb he
  replace h := h.new' (l := [.bool false]) hb he
  clear hb he
  (conv => whnf)
  by_cases h0 : at0 < 0
  · refine brk_false (by rw [decide_eq_true h0]; rfl) ?_
    (conv => whnf)
    refine ⟨h.room 1 (i := 0) rfl rfl, fun m3 he => ?_⟩
    replace h := h.put' 1 he rfl
    clear he
    (conv => whnf)
    refine ⟨h.room 0 (i := 0) rfl rfl, fun m4 he => ?_⟩
    replace h := h.put' 0 he rfl
    clear he
    (conv => whnf)
    refine ⟨_, h.cell 1 (i := 0) rfl rfl, ?_⟩
    (conv => whnf)
    refine ⟨_, h.cell 0 (i := 0) rfl rfl, ?_⟩
    (conv => whnf)
    exact ⟨m, h.kept 2 rfl, rfl, rfl⟩
  · refine brk_true (by rw [decide_eq_false h0]; rfl) ?_
    (conv => whnf)
    refine brk_true (by show (bif false then true else decide (at0 > ((line.size : Nat) : Int))) = true; rw [decide_eq_true (show at0 > ((line.size : Nat) : Int) by omega)]; rfl) ?_
    (conv => whnf)
    refine ⟨h.room 1 (i := 0) rfl rfl, fun m3 he => ?_⟩
    replace h := h.put' 1 he rfl
    clear he
    (conv => whnf)
    refine ⟨h.room 0 (i := 0) rfl rfl, fun m4 he => ?_⟩
    replace h := h.put' 0 he rfl
    clear he
    (conv => whnf)
    refine ⟨_, h.cell 1 (i := 0) rfl rfl, ?_⟩
    (conv => whnf)
    refine ⟨_, h.cell 0 (i := 0) rfl rfl, ?_⟩
    (conv => whnf)
    exact ⟨m, h.kept 2 rfl, rfl, rfl⟩
theorem bad_e {m : Mem} {d : Nat} {line : ByteArray} {at0 : Int} (hat : at0 < 0 ∨ ((line.size : Nat) : Int) < at0) : FCalls Try.prog 14 [.pointer (some ⟨d, 0, none⟩), .string line, .int .i64 at0] m fun v m' => v = .tuple #[.slice none 0 0, .int .i64 1] ∧ m' = m := by
  refine FCalls.less ?_
  have h := Sep.init m
  refine fcalls_of_vc (T := tbl) (B := bodies) (pr := [99999]) (DR := dr14) (args := [.v (.pointer (some ⟨d, 0, none⟩)), .v (.string line), .v (.int .i64 at0)]) tbl_ok bodies_ok mixed Try.func14 rfl (by decide +kernel) (by simp [Try.f14]) rfl ?_
  (conv => whnf)
  intro b6 m1 hb he
  replace h := h.new' (l := [.slice none 0 0]) hb he
  clear hb he
  (conv => whnf)
  by_cases h0 : at0 < 0
  · refine brk_false (by rw [decide_eq_true h0]; rfl) ?_
    (conv => whnf)
    refine ⟨h.room 0 (i := 0) rfl rfl, fun m4 he => ?_⟩
    replace h := h.put' 0 he rfl
    clear he
    (conv => whnf)
    refine ⟨_, _, _, h.cell 0 (i := 0) rfl rfl, ?_⟩
    (conv => whnf)
    exact ⟨m, h.kept 1 rfl, rfl, rfl⟩
  · refine brk_true (by rw [decide_eq_false h0]; rfl) ?_
    (conv => whnf)
    refine brk_true (by show (bif false then true else decide (at0 > ((line.size : Nat) : Int))) = true; rw [decide_eq_true (show at0 > ((line.size : Nat) : Int) by omega)]; rfl) ?_
    (conv => whnf)
    refine ⟨h.room 0 (i := 0) rfl rfl, fun m4 he => ?_⟩
    replace h := h.put' 0 he rfl
    clear he
    (conv => whnf)
    refine ⟨_, _, _, h.cell 0 (i := 0) rfl rfl, ?_⟩
    (conv => whnf)
    exact ⟨m, h.kept 1 rfl, rfl, rfl⟩
theorem l_ok {m K : Mem} {R : List Asn} {d at0 : Nat} {x : Df} {line : ByteArray} (hS : Sep (x.parts K d R) m) (hq : x.q.at K) (hg : GoodP x.q) (hv : Inv K x) (hat : at0 ≤ line.size) (hls : line.size < 1099511627776) :
    FCalls Try.prog 12 [.pointer (some ⟨d, 0, none⟩), .string line, .int .i64 ((at0 : Nat) : Int)] m fun v m' => ∃ K' x' T, v = .tuple #[.int .i64 (lastI T), .bool (!T.isEmpty), .int .i64 0] ∧ K.le K' ∧ Sep (Df.parts K' d x' R) m' ∧ Inv K' x' ∧ Played false (((at0 : Nat) : Int) == 0) false x x' (bytesOf line at0) at0 T := by
  have e1 : decide (((at0 : Nat) : Int) < 0) = false := decide_eq_false (by omega)
  have e2 : decide (((at0 : Nat) : Int) > ((line.size : Nat) : Int)) = false := decide_eq_false (by omega)
  refine fcalls_of_vc (T := tbl) (B := bodies) (pr := [99999]) (DR := dr12) (args := [.v (.pointer (some ⟨d, 0, none⟩)), .v (.string line), .v (.int .i64 ((at0 : Nat) : Int))]) tbl_ok bodies_ok mixed Try.func12 rfl (by decide +kernel) (by simp [Try.f12]) rfl ?_
  (conv => whnf)
  intro b6 m1 hb he
  replace hS := hS.new' (l := [.int .i64 0]) hb he
  clear hb he
  (conv => whnf)
  intro b7 m2 hb he
  replace hS := hS.new' (l := [.bool false]) hb he
  clear hb he
  (conv => whnf)
  refine brk_false (by show (bif false then true else decide (((at0 : Nat) : Int) > ((line.size : Nat) : Int))) = false; rw [e2]; rfl) ?_
  (conv => whnf)
  have hT0 : Sep (Df.parts K d x (tlL b6 b7 [] :: R)) m2 := by
    have h1 : Sep (pt b6 [.int .i64 (lastI [])] :: pt b7 [.bool (!([] : List Nat).isEmpty)] :: x.parts K d R) m2 := hS.move 1 rfl
    exact Df.inn (Sep.group (L := [pt b6 [.int .i64 (lastI [])], pt b7 [.bool (!([] : List Nat).isEmpty)]]) h1)
  refine FCalls.mono (play_l (cap := [.pointer (some ⟨b6, 0, none⟩), .pointer (some ⟨b7, 0, none⟩)]) (tlL b6 b7) (fun T a m1 _ _ h => tell_l T a h) hT0 hq hg hv hat (by omega)) ?_
  rintro u m3 ⟨rfl, K', x', T, hK, h1, hv', hP⟩
  have h : Sep (pt b6 [.int .i64 (lastI T)] :: pt b7 [.bool (!T.isEmpty)] :: Df.parts K' d x' R) m3 := Sep.split (L := [pt b6 [.int .i64 (lastI T)], pt b7 [.bool (!T.isEmpty)]]) (Df.out h1)
  (conv => whnf)
  refine ⟨_, h.cell 0 (i := 0) rfl rfl, ?_⟩
  (conv => whnf)
  refine ⟨?_, ?_⟩
  · (conv => whnf)
    refine ⟨_, h.cell 1 (i := 0) rfl rfl, ?_⟩
    (conv => whnf)
    refine ⟨h.room 0 (i := 0) rfl rfl, fun m4 he => ?_⟩
    have h5 := h.put' 0 he rfl
    clear he
    replace h : Sep (pt b6 [.int .i64 (lastI T)] :: pt b7 [.bool (!T.isEmpty)] :: Df.parts K' d x' R) m4 := h5
    (conv => whnf)
    refine ⟨h.room 1 (i := 0) rfl rfl, fun m6 he => ?_⟩
    have h7 := h.put' 1 he rfl
    clear he
    replace h : Sep (pt b6 [.int .i64 (lastI T)] :: pt b7 [.bool (!T.isEmpty)] :: Df.parts K' d x' R) m6 := h7
    (conv => whnf)
    refine ⟨_, h.cell 0 (i := 0) rfl rfl, ?_⟩
    (conv => whnf)
    refine ⟨_, h.cell 1 (i := 0) rfl rfl, ?_⟩
    (conv => whnf)
    exact ⟨K', x', T, rfl, hK, (h.drop 0).drop 0, hv', hP⟩
  · refine ⟨?_, True.intro⟩
    (conv => whnf)
    refine ⟨h.room 0 (i := 0) rfl rfl, fun m4 he => ?_⟩
    have h5 := h.put' 0 he rfl
    clear he
    replace h : Sep (pt b6 [.int .i64 (lastI T)] :: pt b7 [.bool (!T.isEmpty)] :: Df.parts K' d x' R) m4 := h5
    (conv => whnf)
    refine ⟨_, h.cell 1 (i := 0) rfl rfl, ?_⟩
    (conv => whnf)
    refine ⟨h.room 1 (i := 0) rfl rfl, fun m6 he => ?_⟩
    have h7 := h.put' 1 he rfl
    clear he
    replace h : Sep (pt b6 [.int .i64 (lastI T)] :: pt b7 [.bool (!T.isEmpty)] :: Df.parts K' d x' R) m6 := h7
    (conv => whnf)
    refine ⟨_, h.cell 0 (i := 0) rfl rfl, ?_⟩
    (conv => whnf)
    refine ⟨_, h.cell 1 (i := 0) rfl rfl, ?_⟩
    (conv => whnf)
    exact ⟨K', x', T, rfl, hK, (h.drop 0).drop 0, hv', hP⟩
theorem a_ok {m K : Mem} {R : List Asn} {d at0 : Nat} {x : Df} {line : ByteArray} (hS : Sep (x.parts K d R) m) (hq : x.q.at K) (hg : GoodP x.q) (hv : Inv K x) (hat : at0 ≤ line.size) (hls : line.size < 1099511627776) :
    FCalls Try.prog 13 [.pointer (some ⟨d, 0, none⟩), .string line, .int .i64 ((at0 : Nat) : Int)] m fun v m' => ∃ K' x' T, v = .tuple #[.int .i64 (lastI T), .bool (!T.isEmpty), .int .i64 0] ∧ K.le K' ∧ Sep (Df.parts K' d x' R) m' ∧ Inv K' x' ∧ Played true (((at0 : Nat) : Int) == 0) true x x' (bytesOf line at0) at0 T := by
  have e1 : decide (((at0 : Nat) : Int) < 0) = false := decide_eq_false (by omega)
  have e2 : decide (((at0 : Nat) : Int) > ((line.size : Nat) : Int)) = false := decide_eq_false (by omega)
  refine fcalls_of_vc (T := tbl) (B := bodies) (pr := [99999]) (DR := dr13) (args := [.v (.pointer (some ⟨d, 0, none⟩)), .v (.string line), .v (.int .i64 ((at0 : Nat) : Int))]) tbl_ok bodies_ok mixed Try.func13 rfl (by decide +kernel) (by simp [Try.f13]) rfl ?_
  (conv => whnf)
  intro b6 m1 hb he
  replace hS := hS.new' (l := [.int .i64 0]) hb he
  clear hb he
  (conv => whnf)
  intro b7 m2 hb he
  replace hS := hS.new' (l := [.bool false]) hb he
  clear hb he
  (conv => whnf)
  refine brk_false (by show (bif false then true else decide (((at0 : Nat) : Int) > ((line.size : Nat) : Int))) = false; rw [e2]; rfl) ?_
  (conv => whnf)
  have hT0 : Sep (Df.parts K d x (tlL b6 b7 [] :: R)) m2 := by
    have h1 : Sep (pt b6 [.int .i64 (lastI [])] :: pt b7 [.bool (!([] : List Nat).isEmpty)] :: x.parts K d R) m2 := hS.move 1 rfl
    exact Df.inn (Sep.group (L := [pt b6 [.int .i64 (lastI [])], pt b7 [.bool (!([] : List Nat).isEmpty)]]) h1)
  refine FCalls.mono (play_a (cap := [.pointer (some ⟨b6, 0, none⟩), .pointer (some ⟨b7, 0, none⟩)]) (tlL b6 b7) (fun T a m1 _ _ h => tell_a T a h) hT0 hq hg hv hat (by omega)) ?_
  rintro u m3 ⟨rfl, K', x', T, hK, h1, hv', hP⟩
  have h : Sep (pt b6 [.int .i64 (lastI T)] :: pt b7 [.bool (!T.isEmpty)] :: Df.parts K' d x' R) m3 := Sep.split (L := [pt b6 [.int .i64 (lastI T)], pt b7 [.bool (!T.isEmpty)]]) (Df.out h1)
  (conv => whnf)
  refine ⟨_, h.cell 0 (i := 0) rfl rfl, ?_⟩
  (conv => whnf)
  refine ⟨?_, ?_⟩
  · (conv => whnf)
    refine ⟨_, h.cell 1 (i := 0) rfl rfl, ?_⟩
    (conv => whnf)
    refine ⟨h.room 0 (i := 0) rfl rfl, fun m4 he => ?_⟩
    have h5 := h.put' 0 he rfl
    clear he
    replace h : Sep (pt b6 [.int .i64 (lastI T)] :: pt b7 [.bool (!T.isEmpty)] :: Df.parts K' d x' R) m4 := h5
    (conv => whnf)
    refine ⟨h.room 1 (i := 0) rfl rfl, fun m6 he => ?_⟩
    have h7 := h.put' 1 he rfl
    clear he
    replace h : Sep (pt b6 [.int .i64 (lastI T)] :: pt b7 [.bool (!T.isEmpty)] :: Df.parts K' d x' R) m6 := h7
    (conv => whnf)
    refine ⟨_, h.cell 0 (i := 0) rfl rfl, ?_⟩
    (conv => whnf)
    refine ⟨_, h.cell 1 (i := 0) rfl rfl, ?_⟩
    (conv => whnf)
    exact ⟨K', x', T, rfl, hK, (h.drop 0).drop 0, hv', hP⟩
  · refine ⟨?_, True.intro⟩
    (conv => whnf)
    refine ⟨h.room 0 (i := 0) rfl rfl, fun m4 he => ?_⟩
    have h5 := h.put' 0 he rfl
    clear he
    replace h : Sep (pt b6 [.int .i64 (lastI T)] :: pt b7 [.bool (!T.isEmpty)] :: Df.parts K' d x' R) m4 := h5
    (conv => whnf)
    refine ⟨_, h.cell 1 (i := 0) rfl rfl, ?_⟩
    (conv => whnf)
    refine ⟨h.room 1 (i := 0) rfl rfl, fun m6 he => ?_⟩
    have h7 := h.put' 1 he rfl
    clear he
    replace h : Sep (pt b6 [.int .i64 (lastI T)] :: pt b7 [.bool (!T.isEmpty)] :: Df.parts K' d x' R) m6 := h7
    (conv => whnf)
    refine ⟨_, h.cell 0 (i := 0) rfl rfl, ?_⟩
    (conv => whnf)
    refine ⟨_, h.cell 1 (i := 0) rfl rfl, ?_⟩
    (conv => whnf)
    exact ⟨K', x', T, rfl, hK, (h.drop 0).drop 0, hv', hP⟩
theorem e_ok {m K : Mem} {R : List Asn} {d at0 : Nat} {x : Df} {line : ByteArray} (hS : Sep (x.parts K d R) m) (hq : x.q.at K) (hg : GoodP x.q) (hv : Inv K x) (hat : at0 ≤ line.size) (hls : line.size < 1099511627776) :
    FCalls Try.prog 14 [.pointer (some ⟨d, 0, none⟩), .string line, .int .i64 ((at0 : Nat) : Int)] m fun v m' => ∃ K' x' T, (∃ A c, v = .tuple #[.slice A T.length c, .int .i64 0] ∧ Sep (sl A T.length c 1 (nv T) :: Df.parts K' d x' R) m') ∧ K.le K' ∧ Inv K' x' ∧ Played false (((at0 : Nat) : Int) == 0) true x x' (bytesOf line at0) at0 T := by
  have e1 : decide (((at0 : Nat) : Int) < 0) = false := decide_eq_false (by omega)
  have e2 : decide (((at0 : Nat) : Int) > ((line.size : Nat) : Int)) = false := decide_eq_false (by omega)
  refine fcalls_of_vc (T := tbl) (B := bodies) (pr := [99999]) (DR := dr14) (args := [.v (.pointer (some ⟨d, 0, none⟩)), .v (.string line), .v (.int .i64 ((at0 : Nat) : Int))]) tbl_ok bodies_ok mixed Try.func14 rfl (by decide +kernel) (by simp [Try.f14]) rfl ?_
  (conv => whnf)
  intro b6 m1 hb he
  replace hS := hS.new' (l := [.slice none 0 0]) hb he
  clear hb he
  (conv => whnf)
  refine brk_false (by show (bif false then true else decide (((at0 : Nat) : Int) > ((line.size : Nat) : Int))) = false; rw [e2]; rfl) ?_
  (conv => whnf)
  have hT0 : Sep (Df.parts K d x (tlE b6 [] :: R)) m1 := by
    have h1 : Sep (pt b6 [.slice none ([] : List Nat).length 0] :: sl none ([] : List Nat).length 0 1 (nv []) :: x.parts K d R) m1 := (Sep.free hS sl_nil).move 1 rfl
    obtain ⟨m1, m2, k1, k2, k3, k4, k5⟩ := Sep.group (L := [pt b6 [.slice none ([] : List Nat).length 0], sl none ([] : List Nat).length 0 1 (nv [])]) h1
    exact Df.inn ⟨m1, m2, k1, k2, k3, ⟨none, 0, k4⟩, k5⟩
  refine FCalls.mono (play_e (cap := [.pointer (some ⟨b6, 0, none⟩)]) (tlE b6) (fun T a m1 h1 h2 h => tell_e T a h (by omega)) hT0 hq hg hv hat (by omega)) ?_
  rintro u m3 ⟨rfl, K', x', T, hK, h1, hv', hP⟩
  obtain ⟨n1, n2, k1, k2, k3, ⟨A, c, k4⟩, k5⟩ := Df.out h1
  have h : Sep (pt b6 [.slice A T.length c] :: sl A T.length c 1 (nv T) :: Df.parts K' d x' R) m3 := Sep.split (L := [pt b6 [.slice A T.length c], sl A T.length c 1 (nv T)]) ⟨n1, n2, k1, k2, k3, k4, k5⟩
  clear k1 k2 k3 k4 k5 h1
  (conv => whnf)
  refine ⟨_, _, _, h.cell 0 (i := 0) rfl rfl, ?_⟩
  (conv => whnf)
  refine ⟨h.room 0 (i := 0) rfl rfl, fun m4 he => ?_⟩
  have h5 := h.put' 0 he rfl
  clear he
  replace h : Sep (pt b6 [.slice A T.length c] :: sl A T.length c 1 (nv T) :: Df.parts K' d x' R) m4 := h5
  (conv => whnf)
  refine ⟨_, _, _, h.cell 0 (i := 0) rfl rfl, ?_⟩
  (conv => whnf)
  exact ⟨K', x', T, ⟨A, c, rfl, h.drop 0⟩, hK, hv', hP⟩
end Go.Proofs.Ytkkcdfnlmhmheaa
