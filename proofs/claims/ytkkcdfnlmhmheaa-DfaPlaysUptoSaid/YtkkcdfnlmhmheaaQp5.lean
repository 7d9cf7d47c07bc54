/- Texts that the claim leans on, joined: DfS, DfT, DfU, DfV, DfW, DfX, DfY, DfZ, DfKp, DfIn, DfCa, DfRa, DfRb, DfRc, DfRd, DfRe. -/
import Derived.Test.YtkkcdfnlmhmheaaQp4
/- Dfa: New; Steps, States, Flushes. -/
namespace Go.Proofs.Ytkkcdfnlmhmheaa
open Go Go.Mv
set_option maxHeartbeats 2000000
set_option maxRecDepth 10000
set_option linter.unusedVariables false
set_option linter.unusedSimpArgs false
theorem icells_one : ∀ l : List Ins, oneCells (icells l) = true
  | [] => rfl
  | i :: l => by
    show oneCells (i.cells ++ icells l) = true
    exact icells_one l
theorem icells_len (l : List Ins) : (icells l).length = l.length * 10 := flat_len ins_len l
attribute [local irreducible] FCalls IntKind.wrap bits Mem.set Mem.setCell Mem.setCells YCalls RunP NextP RunU
theorem clone_c {m : Mem} {R : List Asn} {A : Option Addr} {c : Nat} {l : List Ins} (hS : Sep R m) (hA : Rd m A (icells l)) (hn : l.length ≤ 40000) :
    FCalls Try.prog 25 [.slice A l.length c] m fun v m' => ∃ A' c', v = .slice A' l.length c' ∧ Sep (sl A' l.length c' 10 (icells l) :: R) m' := by
  refine fcalls_of_vc (T := tbl) (B := bodies) (pr := [99999]) (DR := dr25) (args := [.v (.slice A l.length c)]) tbl_ok bodies_ok mixed Try.func25 rfl (by decide +kernel) (by simp [Try.f25]) rfl ?_
  (conv => whnf)
  cases A with
  | none =>
    have hl : l = [] := by
      rcases hA with h | ⟨p, h, _⟩
      · have := congrArg List.length h
        rw [icells_len] at this
        exact List.length_eq_zero_iff.1 (by simp at this; omega)
      · cases h
    subst hl
    (conv => whnf)
    exact ⟨none, 0, rfl, Sep.free hS sl_nil⟩
  | some p =>
    (conv => whnf)
    intro nb m2 hb he
    replace hS := hS.new' (l := []) hb he
    have hA2 : Rd m2 (some p) (icells l) := hA.more (he ▸ Mem.le_set hb)
    clear hb he
    replace hS : Sep (sl (some ⟨nb, 0, none⟩) 0 0 10 [] :: R) m2 := hS.slOf 0 rfl rfl (Nat.le_refl _) (by simp) fun k v hk => (by simp at hk)
    (conv => whnf)
    obtain ⟨ok, hR⟩ := hS.app 0 (T := tbl) (e := 46) (news := icells l) (k := l.length) (B := some p) rfl (icells_len l) ((hA2.holds (icells_len l)).imp id fun h => h) (icells_one l) rfl (by show 2 * (0 + l.length) * 80 ≤ 2 ^ 48; omega) rfl
    refine ⟨_, _, ok, fun A' c' m3 hr => ?_⟩
    replace hS := hR _ _ _ hr
    (conv => whnf)
    refine ⟨A', c', by rw [Nat.zero_add]; rfl, ?_⟩
    rw [Nat.zero_add, List.nil_append] at hS
    exact hS
def refusedF (q : Prg) (room : Int) : Int := if (rightF q).1 ≠ 0 then (rightF q).1 else if freeF q = false then 51 else if room < 2 ∨ 100000 < room then 1 else 0
theorem refused_good {q : Prg} {room : Int} (h : refusedF q room = 0) : GoodP q ∧ freeF q = true ∧ 2 ≤ room ∧ room ≤ 100000 := by
  unfold refusedF at h
  split at h
  · rename_i h1
    exact absurd h h1
  · rename_i h1
    split at h
    · cases h
    · rename_i h2
      split at h
      · cases h
      · rename_i h3
        refine ⟨good_of ?_, by simpa using h2, by omega, by omega⟩
        have h4 : (rightF q).1 = 0 := by simpa using h1
        by_cases g1 : 40000 < q.ins.length
        · unfold rightF at h4
          rw [if_pos g1] at h4
          cases h4
        by_cases g2 : q.groups < 0 ∨ 30 < q.groups ∨ q.counters < 0 ∨ 40 < q.counters
        · unfold rightF at h4
          rw [if_neg g1, if_pos g2] at h4
          cases h4
        by_cases g3 : q.ins.length = 0
        · unfold rightF at h4
          rw [if_neg g1, if_neg g2, if_pos g3] at h4
          cases h4
        unfold rightF at h4 ⊢
        rw [if_neg g1, if_neg g2, if_neg g3] at h4 ⊢
        cases hw : wrongF q with
        | none => rfl
        | some k => rw [hw] at h4; cases h4
theorem right_n {q : Prg} (h : (rightF q).1 = 0) : q.ins.length ≤ 40000 := by
  unfold rightF at h
  split at h
  · cases h
  · omega
theorem new_bad {m : Mem} {q : Prg} {room : Int} (hq : q.at m) (hr : refusedF q room ≠ 0) : FCalls Try.prog 10 [q.val, .int .i64 room] m fun v m' => v = .tuple #[.pointer none, .int .i64 (refusedF q room)] ∧ m' = m := by
  refine fcalls_of_vc (T := tbl) (B := bodies) (pr := [99999, 2]) (DR := dr10) (args := [.v q.val, .v (.int .i64 room)]) tbl_ok bodies_ok mixed Try.func10 rfl (by decide +kernel) (by simp [Try.f10]) rfl ?_
  (conv => whnf)
  refine FCalls.mono (right_c hq) ?_
  rintro v m' ⟨rfl, rfl⟩
  obtain ⟨rc, hrc⟩ : ∃ rc, rc = (rightF q).1 := ⟨_, rfl⟩
  rw [← hrc]
  have hF : refusedF q room = if rc ≠ 0 then rc else if freeF q = false then 51 else if room < 2 ∨ 100000 < room then 1 else 0 := by rw [hrc]; rfl
  rw [hF] at hr ⊢
  (conv => whnf)
  refine brk_intro (fun c1 => ?_) (fun c1 => ?_)
  · have c1 : rc ≠ 0 := by simpa using c1
    rw [if_pos c1]
    (conv => whnf)
    exact ⟨rfl, rfl⟩
  have c1 : rc = 0 := by simpa using c1
  rw [if_neg (by simp [c1])] at hr ⊢
  (conv => whnf)
  refine FCalls.mono (free_c hq (right_n (by rw [← hrc]; exact c1))) ?_
  rintro v m1 ⟨rfl, rfl⟩
  (conv => whnf)
  refine brk_intro (fun c2 => ?_) (fun c2 => ?_)
  · have c2 : freeF q = false := by simpa using c2
    rw [if_pos c2]
    (conv => whnf)
    exact ⟨rfl, rfl⟩
  have c2 : freeF q = true := by simpa using c2
  rw [if_neg (by simp [c2])] at hr ⊢
  have h3 : room < 2 ∨ 100000 < room := Classical.byContradiction fun h => hr (if_neg h)
  rw [if_pos h3]
  (conv => whnf)
  by_cases h4 : room < 2
  · refine brk_false (by rw [decide_eq_true h4]; rfl) ?_
    (conv => whnf)
    exact ⟨rfl, rfl⟩
  · refine brk_true (by rw [decide_eq_false h4]; rfl) ?_
    (conv => whnf)
    refine brk_true (by show (bif false then true else decide (room > 100000)) = true; rw [decide_eq_true (show room > 100000 by omega)]; rfl) ?_
    (conv => whnf)
    exact ⟨rfl, rfl⟩
/-- A new automaton of the instructions of q. -/
structure Fresh (q : Prg) (room : Int) (x : Df) : Prop where
  ins : x.q.ins = q.ins
  room : x.room = room
  sts : x.sts = []
  a : x.a.f = fun _ => none
  steps : x.steps = 0
  flushes : x.flushes = 0
theorem new_ok {m : Mem} {R : List Asn} {q : Prg} {room : Int} (hS : Sep R m) (hq : q.at m) (hr : refusedF q room = 0) : FCalls Try.prog 10 [q.val, .int .i64 room] m fun v m' => ∃ d K x, v = .tuple #[.pointer (some ⟨d, 0, none⟩), .int .i64 0] ∧
    Sep (Df.parts K d x R) m' ∧ x.q.at K ∧ GoodP x.q ∧ Inv K x ∧ Fresh q room x := by
  obtain ⟨hg, hfr, hr0, hr1⟩ := refused_good hr
  have hright : rightF q = (0, 0) := by
    unfold rightF
    have h0 := hg.n0
    have h1 := hg.n1
    unfold refusedF at hr
    rw [if_neg (by omega)]
    by_cases hb : q.groups < 0 ∨ 30 < q.groups ∨ q.counters < 0 ∨ 40 < q.counters
    · exfalso
      have : rightF q = (1, 0) := by unfold rightF; rw [if_neg (by omega), if_pos hb]
      rw [this] at hr
      simp at hr
    · rw [if_neg hb, if_neg (by omega), wrong_none hg.ok]
  refine fcalls_of_vc (T := tbl) (B := bodies) (pr := [99999, 2]) (DR := dr10) (args := [.v q.val, .v (.int .i64 room)]) tbl_ok bodies_ok mixed Try.func10 rfl (by decide +kernel) (by simp [Try.f10]) rfl ?_
  (conv => whnf)
  refine FCalls.mono (right_c hq) ?_
  rintro v m' ⟨rfl, rfl⟩
  rw [hright]
  (conv => whnf)
  refine FCalls.mono (free_c hq hg.n1) ?_
  rintro v m1 ⟨rfl, rfl⟩
  rw [hfr]
  (conv => whnf)
  refine brk_true (by rw [decide_eq_false (show ¬ room < 2 by omega)]; rfl) ?_
  (conv => whnf)
  refine brk_false (by show (bif false then true else decide (room > 100000)) = false; rw [decide_eq_false (show ¬ room > 100000 by omega)]; rfl) ?_
  (conv => whnf)
  refine FCalls.mono (clone_c hS hq hg.n1) ?_
  rintro v m2 ⟨A', c', rfl, hS⟩
  (conv => whnf)
  show RunP Try.prog (Instr.makeMap 58 none) _ _
  refine map_new (t := 58) hS fun nb m3 hS => ?_
  (conv => whnf)
  intro d m4 hb he
  replace hS := hS.new' (l := [.slice A' q.ins.length c', .int .i64 q.groups, .int .i64 q.counters, .bool q.fold, .int .i64 room, .slice none 0 0, .map (some nb), .pointer none, .pointer none, .slice none 0 0, .int .i64 0, .int .i64 0]) hb he
  clear hb he
  (conv => whnf)
  refine FCalls.mono (new_t (K := Mem.empty) (w := 2) (most := 1000000) hS (fun _ _ h => (by cases h)) (by omega) (by omega) (by omega) (by omega)) ?_
  rintro u m5 ⟨pt', rfl, hS⟩
  (conv => whnf)
  refine ⟨hS.room 1 (i := 7) rfl rfl, fun m6 he => ?_⟩
  replace hS := hS.put' 1 he rfl
  clear he
  (conv => whnf)
  refine FCalls.mono Mk.new_s ?_
  rintro u m7 ⟨hn1, _⟩
  obtain ⟨ps, rfl, h2⟩ := hn1 ⟨by omega, by show ((q.ins.length : Nat) : Int) ≤ 100000; have := hg.n1; omega⟩
  replace hS := hS.on (N := [_]) h2
  clear h2 hn1
  rw [show (((q.ins.length : Nat) : Int)).toNat = q.ins.length from Int.toNat_natCast _] at hS
  (conv => whnf)
  refine ⟨hS.room 2 (i := 8) rfl rfl, fun m8 he => ?_⟩
  replace hS := hS.put' 2 he rfl
  clear he
  (conv => whnf)
  have h3 : Sep (tb Mem.empty pt' ⟨2, 1000000, fun _ => none, 0, 0⟩ :: kp Mem.empty :: sl A' q.ins.length c' 10 (icells q.ins) :: Mk.mk ps q.ins.length [] :: pt d [.slice A' q.ins.length c', .int .i64 q.groups, .int .i64 q.counters, .bool q.fold, .int .i64 room, .slice none 0 0, .map (some nb), .pointer (some ⟨pt', 0, none⟩), .pointer (some ⟨ps, 0, none⟩), .slice none 0 0, .int .i64 0, .int .i64 0] :: mp nb [] :: R) m8 := by
    have h4 := Sep.free (A := kp Mem.empty) hS (fun _ _ h => h)
    exact (h4.move 5 rfl |>.move 1 rfl).move 3 rfl
  obtain ⟨K', _, hrd, h4⟩ := freeze h3
  have hw0 : Value.int .i64 0 = w64 0 := by unfold w64; rw [wrap_id (by omega) (by omega)]; rfl
  have h5 : Sep (Df.parts K' d ⟨⟨A', c', q.ins, q.groups, q.counters, q.fold⟩, room, none, 0, [], nb, [], pt', ⟨2, 1000000, fun _ => none, 0, 0⟩, ps, [], none, 0, 0, [], 0, 0⟩ R) m8 := by
    refine Df.ofTb ?_
    have h6 := Sep.free (A := sl none 0 0 4 []) (Sep.free (A := sl none 0 0 1 []) h4 sl_nil) sl_nil
    unfold Df.hd Dh.cells
    dsimp only
    rw [← hw0]
    exact ((((((h6.move 6 rfl).move 1 rfl).move 2 rfl).move 5 rfl).move 6 rfl).move 6 rfl).move 6 rfl
  refine ⟨d, K', _, rfl, h5, hrd, ⟨hg.n0, hg.n1, hg.ok⟩, ⟨fun y hy => (by cases hy), fun y hy => (by cases hy), fun i y hy => (by simp at hy), fun k v hk => (by cases hk), fun ks v hk => (by cases hk), rfl, hr0, hr1, by simp; omega⟩, rfl, rfl, rfl, rfl, rfl, rfl⟩
end Go.Proofs.Ytkkcdfnlmhmheaa
/- Dfa: the chapter's first example. -/
namespace Go.Proofs.Ytkkcdfnlmhmheaa
open Go Go.Mv
set_option maxHeartbeats 2000000
set_option maxRecDepth 10000
set_option linter.unusedVariables false
set_option linter.unusedSimpArgs false
def insL : List Ins := [⟨2, 1, 3, 0, 0, 0, 0, 0, 0, 0⟩, ⟨1, 0, 0, 0, 0, 0, 0, 8589934592, 0, 0⟩, ⟨3, 0, 0, 0, 0, 0, 0, 0, 0, 0⟩, ⟨11, 0, 0, 0, 0, 0, 0, 0, 0, 0⟩]
def qL (A : Option Addr) (c : Nat) : Prg := ⟨A, c, insL, 0, 0, false⟩
def auL : Au := auOf (qL none 0)
theorem auL_eq {q : Prg} (h : q.ins = insL) : auOf q = auL := by
  show auOf ⟨none, 0, q.ins, 0, 0, false⟩ = _
  rw [h]
  rfl
theorem refL2 (A : Option Addr) (c : Nat) : refusedF (qL A c) 2 = 0 := by
  show refusedF (qL none 0) 2 = 0
  decide
theorem refL1 (A : Option Addr) (c : Nat) : refusedF (qL A c) 1 = 1 := by
  show refusedF (qL none 0) 1 = 1
  decide
theorem staL {S : List Nat} {f aw : Bool} (h : 0 ∈ S ∨ 2 ∈ S) : sta auL S f aw = ⟨[1], true, true, aw⟩ := by
  have r0 : ∀ l, Rch auL f l S 0 := fun l => by
    rcases h with h | h
    · exact .base h
    · exact .step (k := 2) (.base h) (by show 0 ∈ [0]; simp)
  have r1 : ∀ l, Rch auL f l S 1 := fun l => .step (r0 l) (by show 1 ∈ [1, 3]; simp)
  have r3 : ∀ l, Rch auL f l S 3 := fun l => .step (r0 l) (by show 3 ∈ [1, 3]; simp)
  have hm : ∀ l, mts auL f l S = true := fun l => mts_iff.2 ⟨3, r3 l, rfl⟩
  have hr : rds auL f false S = [1] := by
    unfold rds
    show List.filter _ [0, 1, 2, 3] = [1]
    have b0 : auL.isB 0 = false := rfl
    have b1 : auL.isB 1 = true := rfl
    have b2 : auL.isB 2 = false := rfl
    have b3 : auL.isB 3 = false := rfl
    simp [List.filter, b0, b1, b2, b3, r1]
  unfold sta
  rw [hr, hm, hm]
theorem hs97 : auL.hs 1 97 = true := by decide
theorem hs98 : auL.hs 1 98 = false := by decide
theorem trL97 {aw : Bool} : trs auL ⟨[1], true, true, aw⟩ 97 = ⟨[1], true, true, aw⟩ := by
  unfold trs
  rw [staL]
  right
  unfold aNxt
  simp [List.filter, hs97]
theorem trL98 : trs auL ⟨[1], true, true, true⟩ 98 = ⟨[1], true, true, true⟩ := by
  unfold trs
  rw [staL]
  left
  unfold aNxt
  simp
theorem trL98' : (trs auL ⟨[1], true, true, false⟩ 98).dead = true := by
  unfold trs aNxt
  simp only [List.filter, hs98]
  show (sta auL [] false false).dead = true
  rw [sta_nil]
  rfl
theorem playL1 : plays auL (sta auL [0] true false) [97, 97, 98] 0 = [0, 1, 2] := by
  rw [staL (by simp)]
  simp only [plays, trL97, if_true]
  rw [show trs auL ⟨[1], true, true, false⟩ 98 = ⟨[], false, false, false⟩ from dead_eq trL98']
  rfl
theorem playL2 : (plays auL (sta auL [0] false true) [97, 98] 1).take 1 = [1] := by
  rw [staL (by simp)]
  simp only [plays, if_true]
  rfl
theorem playL3 : plays auL (sta auL [0] false true) [98] 2 = [2, 3] := by
  rw [staL (by simp)]
  simp only [plays, trL98, if_true]
  rfl
attribute [local irreducible] FCalls IntKind.wrap bits Mem.set Mem.setCell Mem.setCells YCalls RunP NextP RunU
theorem loop_c {m : Mem} {R : List Asn} (hS : Sep R m) : FCalls Try.prog 22 [] m fun v m' => ∃ b, v = (qL (some ⟨b, 0, none⟩) 4).val ∧ Sep (pt b (icells insL) :: R) m' := by
  refine fcalls_of_vc (T := tbl) (B := bodies) (pr := [99999, 0, 1]) (DR := dr22) (args := []) tbl_ok bodies_ok mixed Try.func22 rfl (by decide +kernel) (by simp [Try.f22]) rfl ?_
  (conv => whnf)
  refine ⟨by decide, ?_⟩
  (conv => whnf)
  refine ⟨by decide, ?_⟩
  (conv => whnf)
  refine ⟨rfl, rfl, rfl, ?_⟩
  (conv => whnf)
  refine ⟨rfl, rfl, ?_⟩
  (conv => whnf)
  intro b m2 hb he
  replace hS := hS.new' (l := icells insL) hb he
  clear hb he
  (conv => whnf)
  exact ⟨b, rfl, hS⟩
theorem known_c {m : Mem} : FCalls Try.prog 9 [] m fun v m' => v = .bool true ∧ m' = m := by
  refine FCalls.less ?_
  refine fcalls_of_vc (T := tbl) (B := bodies) (pr := [99999]) (DR := dr9) (args := []) tbl_ok bodies_ok mixed Try.func9 rfl (by decide +kernel) (by simp [Try.f9]) rfl ?_
  (conv => whnf)
  refine FCalls.mono (loop_c (Sep.init m)) ?_
  rintro u m1 ⟨b1, rfl, hS⟩
  (conv => whnf)
  refine FCalls.mono (new_ok (q := qL (some ⟨b1, 0, none⟩) 4) (room := 2) hS ?_ (refL2 _ _)) ?_
  · exact .inr ⟨_, rfl, fun k v hk => by rw [add_mk, Nat.zero_add]; exact hS.cell 0 rfl hk⟩
  rintro u m2 ⟨d, K, x, rfl, hS, hq, hg, hv, hF⟩
  (conv => whnf)
  refine FCalls.mono (loop_c hS) ?_
  rintro u m3 ⟨b2, rfl, hS⟩
  (conv => whnf)
  refine FCalls.mono (new_bad (q := qL (some ⟨b2, 0, none⟩) 4) (room := 1) ?_ (by rw [refL1]; decide)) ?_
  · exact .inr ⟨_, rfl, fun k v hk => by rw [add_mk, Nat.zero_add]; exact hS.cell 0 rfl hk⟩
  rintro u m4 ⟨rfl, rfl⟩
  rw [refL1]
  replace hS := hS.drop 0
  have hau : auOf x.q = auL := auL_eq hF.ins
  (conv => whnf)
  refine FCalls.mono (l_ok (line := ⟨#[97, 97, 98]⟩) (at0 := 0) hS hq hg hv (by decide) (by decide)) ?_
  rintro u m5 ⟨K1, x1, T1, rfl, hK1, hS, hv1, hP1⟩
  have hT1 : T1 = [0, 1, 2] := by
    rw [hP1.told, hau]
    exact playL1
  subst hT1
  have hau1 : auOf x1.q = auL := by rw [hP1.q]; exact hau
  have hg1 : GoodP x1.q := hP1.q ▸ hg
  have hq1 : x1.q.at K1 := hP1.q ▸ hq.more hK1
  (conv => whnf)
  refine FCalls.mono (a_ok (line := ⟨#[97, 97, 98]⟩) (at0 := 1) hS hq1 hg1 hv1 (by decide) (by decide)) ?_
  rintro u m6 ⟨K2, x2, T2, rfl, hK2, hS, hv2, hP2⟩
  have hT2 : T2 = [1] := by
    rw [hP2.told, hau1]
    exact playL2
  subst hT2
  have hau2 : auOf x2.q = auL := by rw [hP2.q]; exact hau1
  have hg2 : GoodP x2.q := hP2.q ▸ hg1
  have hq2 : x2.q.at K2 := hP2.q ▸ hq1.more hK2
  (conv => whnf)
  refine FCalls.mono (e_ok (line := ⟨#[97, 97, 98]⟩) (at0 := 2) hS hq2 hg2 hv2 (by decide) (by decide)) ?_
  rintro u m7 ⟨K3, x3, T3, ⟨A, c, rfl, hS⟩, hK3, hv3, hP3⟩
  have hT3 : T3 = [2, 3] := by
    rw [hP3.told, hau2]
    exact playL3
  subst hT3
  have h0 := (hS.rd 0 rfl).at (k := 0) rfl
  have h1 := (hS.rd 0 rfl).at (k := 1) rfl
  obtain ⟨p, hp, hc0⟩ := h0
  obtain ⟨p', hp', hc1⟩ := h1
  rw [hp] at hp'
  cases hp'
  subst hp
  (conv => whnf)
  refine ⟨_, rfl, by omega, by decide, ?_⟩
  (conv => whnf)
  refine ⟨_, hc0, ?_⟩
  (conv => whnf)
  refine ⟨_, rfl, by omega, by decide, ?_⟩
  (conv => whnf)
  refine ⟨_, hc1, ?_⟩
  (conv => whnf)
  exact ⟨m, hS.drop 0 |> Df.rest |>.kept 1 rfl, rfl, rfl⟩
end Go.Proofs.Ytkkcdfnlmhmheaa
/- Dfa: an automaton as one part; what it answers; small functions of the statements. -/
namespace Go.Proofs.Ytkkcdfnlmhmheaa
open Go Go.Mv
set_option maxHeartbeats 2000000
set_option maxRecDepth 10000
set_option linter.unusedVariables false
set_option linter.unusedSimpArgs false
attribute [local irreducible] FCalls IntKind.wrap bits Mem.set Mem.setCell Mem.setCells YCalls RunP NextP RunU
/-- An automaton at d. -/
def dm (A : Au) (d : Nat) : Asn := fun m => ∃ K x, Sep (Df.parts K d x []) m ∧ x.q.at K ∧ GoodP x.q ∧ Inv K x ∧ auOf x.q = A
theorem dm_more {A : Au} {d : Nat} {m m' : Mem} (h : dm A d m) (hm : m.le m') : dm A d m' := by
  obtain ⟨K, x, h1, h2⟩ := h
  exact ⟨K, x, h1.more hm, h2⟩
noncomputable def lst (A : Au) (aw : Bool) (line : ByteArray) (a : Nat) : List Nat := plays A (sta A [0] (((a : Nat) : Int) == 0) aw) (bytesOf line a) a
structure Ans where
  n : Int
  ok : Bool
  e : Int
noncomputable def ansL (A : Au) (line : ByteArray) (at0 : Int) : Ans := if at0 < 0 ∨ ((line.size : Nat) : Int) < at0 then ⟨0, false, 1⟩ else ⟨lastI (lst A false line at0.toNat), !(lst A false line at0.toNat).isEmpty, 0⟩
noncomputable def ansA (A : Au) (line : ByteArray) (at0 : Int) : Ans := if at0 < 0 ∨ ((line.size : Nat) : Int) < at0 then ⟨0, false, 1⟩ else ⟨lastI ((lst A true line at0.toNat).take 1), !((lst A true line at0.toNat).take 1).isEmpty, 0⟩
noncomputable def ansE (A : Au) (line : ByteArray) (at0 : Int) : List Nat := if at0 < 0 ∨ ((line.size : Nat) : Int) < at0 then [] else lst A true line at0.toNat
def errE (line : ByteArray) (at0 : Int) : Int := if at0 < 0 ∨ ((line.size : Nat) : Int) < at0 then 1 else 0
def Ans.val (a : Ans) : Value := .tuple #[.int .i64 a.n, .bool a.ok, .int .i64 a.e]
theorem nat_at {line : ByteArray} {at0 : Int} (h : ¬ (at0 < 0 ∨ ((line.size : Nat) : Int) < at0)) : ∃ a : Nat, at0 = ((a : Nat) : Int) ∧ a ≤ line.size := ⟨at0.toNat, by omega, by omega⟩
theorem ask_l {m : Mem} {A : Au} {d : Nat} {line : ByteArray} {at0 : Int} (h : dm A d m) (hls : line.size < 1099511627776) :
    FCalls Try.prog 12 [.pointer (some ⟨d, 0, none⟩), .string line, .int .i64 at0] m fun v m' => v = (ansL A line at0).val ∧ dm A d m' := by
  unfold ansL
  by_cases hb : at0 < 0 ∨ ((line.size : Nat) : Int) < at0
  · rw [if_pos hb]
    exact (bad_l hb).mono fun v m' ⟨h1, h2⟩ => ⟨h1, h2 ▸ h⟩
  · rw [if_neg hb]
    obtain ⟨a, rfl, ha⟩ := nat_at hb
    obtain ⟨K, x, h1, hq, hg, hv, rfl⟩ := h
    refine (l_ok h1 hq hg hv ha hls).mono ?_
    rintro v m' ⟨K', x', T, rfl, hK, h2, hv', hP⟩
    have hT : T = lst (auOf x.q) false line a := hP.told
    rw [Int.toNat_natCast, ← hT]
    exact ⟨rfl, K', x', h2, hP.q ▸ hq.more hK, hP.q ▸ hg, hv', by rw [hP.q]⟩
theorem ask_a {m : Mem} {A : Au} {d : Nat} {line : ByteArray} {at0 : Int} (h : dm A d m) (hls : line.size < 1099511627776) :
    FCalls Try.prog 13 [.pointer (some ⟨d, 0, none⟩), .string line, .int .i64 at0] m fun v m' => v = (ansA A line at0).val ∧ dm A d m' := by
  unfold ansA
  by_cases hb : at0 < 0 ∨ ((line.size : Nat) : Int) < at0
  · rw [if_pos hb]
    exact (bad_a hb).mono fun v m' ⟨h1, h2⟩ => ⟨h1, h2 ▸ h⟩
  · rw [if_neg hb]
    obtain ⟨a, rfl, ha⟩ := nat_at hb
    obtain ⟨K, x, h1, hq, hg, hv, rfl⟩ := h
    refine (a_ok h1 hq hg hv ha hls).mono ?_
    rintro v m' ⟨K', x', T, rfl, hK, h2, hv', hP⟩
    have hT : T = (lst (auOf x.q) true line a).take 1 := hP.told
    rw [Int.toNat_natCast, ← hT]
    exact ⟨rfl, K', x', h2, hP.q ▸ hq.more hK, hP.q ▸ hg, hv', by rw [hP.q]⟩
theorem ask_e {m : Mem} {A : Au} {d : Nat} {line : ByteArray} {at0 : Int} (h : dm A d m) (hls : line.size < 1099511627776) :
    FCalls Try.prog 14 [.pointer (some ⟨d, 0, none⟩), .string line, .int .i64 at0] m fun v m' => ∃ B c, v = .tuple #[.slice B (ansE A line at0).length c, .int .i64 (errE line at0)] ∧ Sep [sl B (ansE A line at0).length c 1 (nv (ansE A line at0)), dm A d] m' := by
  unfold ansE errE
  by_cases hb : at0 < 0 ∨ ((line.size : Nat) : Int) < at0
  · rw [if_pos hb, if_pos hb]
    refine (bad_e hb).mono fun v m' ⟨h1, h2⟩ => ⟨none, 0, h1, Sep.free ?_ sl_nil⟩
    exact ⟨m', Mem.empty, fun _ => .inr rfl, Mem.le_refl _, fun _ _ h => (by cases h), h2 ▸ h, trivial⟩
  · rw [if_neg hb, if_neg hb]
    obtain ⟨a, rfl, ha⟩ := nat_at hb
    obtain ⟨K, x, h1, hq, hg, hv, rfl⟩ := h
    refine (e_ok h1 hq hg hv ha hls).mono ?_
    rintro v m' ⟨K', x', T, ⟨B, c, rfl, h2⟩, hK, hv', hP⟩
    have hT : T = lst (auOf x.q) true line a := hP.told
    rw [Int.toNat_natCast, ← hT]
    refine ⟨B, c, rfl, ?_⟩
    obtain ⟨m1, m2, k1, k2, k3, k4, k5⟩ := h2
    exact ⟨m1, m2, k1, k2, k3, k4, m2, Mem.empty, fun _ => .inr rfl, Mem.le_refl _, fun _ _ h => (by cases h), ⟨K', x', k5, hP.q ▸ hq.more hK, hP.q ▸ hg, hv', by rw [hP.q]⟩, trivial⟩
theorem new_d {m : Mem} {R : List Asn} {q : Prg} {room : Int} (hS : Sep R m) (hq : q.at m) (hr : refusedF q room = 0) : FCalls Try.prog 10 [q.val, .int .i64 room] m fun v m' => ∃ d, v = .tuple #[.pointer (some ⟨d, 0, none⟩), .int .i64 0] ∧ Sep (dm (auOf q) d :: R) m' :=
  (new_ok hS hq hr).mono fun v m' ⟨d, K, x, h1, h2, h3, h4, h5, h6⟩ => by
    refine ⟨d, h1, ?_⟩
    obtain ⟨m1, m2, k1, k2, k3, k4, k5⟩ := Sep.group (L := Df.parts K d x []) (R := R) h2
    exact ⟨m1, m2, k1, k2, k3, ⟨K, x, k4, h3, h4, h5, by show auOf ⟨none, 0, x.q.ins, 0, 0, false⟩ = auOf ⟨none, 0, q.ins, 0, 0, false⟩; rw [h6.ins]⟩, k5⟩
def pickI (c n : Int) : Int := (if c < 0 then -(c + 1) else c).tmod n
theorem pickI_range {c n : Int} (hn : 0 < n) : 0 ≤ pickI c n ∧ pickI c n < n := by
  unfold pickI
  have h : 0 ≤ (if c < 0 then -(c + 1) else c) := by split <;> omega
  exact ⟨Int.tmod_nonneg _ h, Int.tmod_lt_of_pos _ hn⟩
theorem pick_c {m : Mem} {c n : Int} (h0 : -9223372036854775808 ≤ c) (h1 : c ≤ 9223372036854775807) (hn : 0 < n) : FCalls Try.prog 11 [.int .i64 c, .int .i64 n] m fun v m' => v = .int .i64 (pickI c n) ∧ m' = m := by
  refine fcalls_of_vc (T := tbl) (B := bodies) (pr := []) (DR := dr11) (args := [.v (.int .i64 c), .v (.int .i64 n)]) tbl_ok bodies_ok mixed Try.func11 rfl (by decide +kernel) (by simp [Try.f11]) rfl ?_
  (conv => whnf)
  refine brk_intro (fun c1 => ?_) (fun c1 => ?_)
  · have c1 : c < 0 := by simpa using c1
    (conv => whnf)
    refine ⟨by omega, ?_⟩
    (conv => whnf)
    refine ⟨?_, rfl⟩
    show Value.int .i64 ((IntKind.i64.wrap (0 - IntKind.i64.wrap (c + 1))).tmod n) = _
    rw [wrap_id (x := c + 1) (by omega) (by omega), wrap_id (by omega) (by omega)]
    unfold pickI
    rw [if_pos c1]
    congr 2
    omega
  · have c1 : ¬ c < 0 := by simpa using c1
    (conv => whnf)
    refine ⟨by omega, ?_⟩
    (conv => whnf)
    refine ⟨?_, rfl⟩
    unfold pickI
    rw [if_neg c1]
    rfl
theorem places_c {m : Mem} {A B : Option Addr} {l r : List Nat} {c e : Nat} (hA : Rd m A (nv l)) (hB : Rd m B (nv r)) (hl : l.length < 4611686018427387904) :
    FCalls Try.prog 15 [.slice A l.length c, .slice B r.length e] m fun v m' => v = .bool (decide (l = r)) ∧ m' = m := by
  refine fcalls_of_vc (T := tbl) (B := bodies) (pr := []) (DR := dr15) (args := [.v (.slice A l.length c), .v (.slice B r.length e)]) tbl_ok bodies_ok mixed Try.func15 rfl (by decide +kernel) (by simp [Try.f15]) rfl ?_
  (conv => whnf)
  refine brk_intro (fun c1 => ?_) (fun c1 => ?_)
  · have c1 : ¬ ((l.length : Nat) : Int) = ((r.length : Nat) : Int) := by
      have h : (((l.length : Nat) : Int) != ((r.length : Nat) : Int)) = true := c1
      simpa using h
    (conv => whnf)
    exact ⟨by rw [decide_eq_false (fun h => c1 (by rw [h]))]; rfl, rfl⟩
  have c1 : l.length = r.length := by
    have h : (((l.length : Nat) : Int) != ((r.length : Nat) : Int)) = false := c1
    have : ((l.length : Nat) : Int) = ((r.length : Nat) : Int) := by simpa using h
    omega
  (conv => whnf)
  refine loop_keep [0, 1] Nat (fun z => [(5, .v (.int .i64 ((z : Nat) : Int)))]) (fun _ => []) (fun _ => m) (fun z => z ≤ l.length ∧ l.take z = r.take z) (fun z => l.length - z) 0 ⟨rfl, trivial⟩ rfl rfl ⟨by omega, by simp⟩ ?_
  (conv => whnf)
  refine ⟨rfl, ?_⟩
  rintro i ⟨hi, ht⟩
  (conv => whnf)
  refine brk_intro (fun c2 => ?_) (fun c2 => ?_)
  · have c2 : ((i : Nat) : Int) < ((l.length : Nat) : Int) := of_decide_eq_true c2
    have step1 : IntKind.i64.wrap ((i : Int) + 1) = ((i + 1 : Nat) : Int) := wrap_id (by omega) (by omega)
    obtain ⟨x, hx⟩ : ∃ x, l[i]? = some x := ⟨_, List.getElem?_eq_getElem (by omega)⟩
    obtain ⟨y, hy⟩ : ∃ y, r[i]? = some y := ⟨_, List.getElem?_eq_getElem (by omega)⟩
    obtain ⟨p, hp, hcp⟩ := rdm hA hx
    obtain ⟨p', hp', hcp'⟩ := rdm hB hy
    (conv => whnf)
    refine ⟨p, hp, by omega, by omega, ?_⟩
    (conv => whnf)
    refine ⟨_, by show m.cell (p.add (((i : Nat) : Int).toNat * 1)) = _; rw [Int.toNat_natCast, Nat.mul_one]; exact hcp, ?_⟩
    (conv => whnf)
    refine ⟨p', hp', by omega, by omega, ?_⟩
    (conv => whnf)
    refine ⟨_, by show m.cell (p'.add (((i : Nat) : Int).toNat * 1)) = _; rw [Int.toNat_natCast, Nat.mul_one]; exact hcp', ?_⟩
    (conv => whnf)
    refine brk_intro (fun c3 => ?_) (fun c3 => ?_)
    · have c3 : x ≠ y := by
        have h : (((x : Nat) : Int) != ((y : Nat) : Int)) = true := c3
        have : ((x : Nat) : Int) ≠ ((y : Nat) : Int) := by simpa using h
        omega
      (conv => whnf)
      refine ⟨?_, rfl⟩
      rw [decide_eq_false fun h => ?_]
      · rfl
      · rw [h, hy] at hx
        cases hx
        exact c3 rfl
    · have c3 : x = y := by
        have h : (((x : Nat) : Int) != ((y : Nat) : Int)) = false := c3
        have : ((x : Nat) : Int) = ((y : Nat) : Int) := by simpa using h
        omega
      (conv => whnf)
      refine ⟨i + 1, le_eq ⟨by show some (AV.v (.int .i64 (IntKind.i64.wrap ((i : Int) + 1)))) = _; rw [step1], rfl, rfl, trivial⟩ rfl rfl rfl, ⟨by omega, ?_⟩, by omega⟩
      rw [List.take_add_one, List.take_add_one, hx, hy, ht, c3]
  · have c2 : ¬ ((i : Nat) : Int) < ((l.length : Nat) : Int) := of_decide_eq_false c2
    obtain rfl : i = l.length := by omega
    (conv => whnf)
    refine ⟨?_, rfl⟩
    rw [List.take_length, c1, List.take_length] at ht
    rw [decide_eq_true ht]
    rfl
end Go.Proofs.Ytkkcdfnlmhmheaa
/- Dfa: what the answers have to do with one another; the calls as they are read. -/
namespace Go.Proofs.Ytkkcdfnlmhmheaa
open Go Go.Mv
set_option maxHeartbeats 2000000
set_option maxRecDepth 10000
set_option linter.unusedVariables false
set_option linter.unusedSimpArgs false
theorem lst_up {A : Au} {aw : Bool} {line : ByteArray} {a : Nat} : (lst A aw line a).Pairwise (· < ·) := plays_up
theorem lst_sub {A : Au} {line : ByteArray} {a x : Nat} (h : x ∈ lst A false line a) : x ∈ lst A true line a := plays_le (sta_le (fun _ h => h) (fun h => by cases h)) x h
theorem up_len' {l : List Nat} {a n : Nat} (h : l.Pairwise (· < ·)) (hb : ∀ x, x ∈ l → a ≤ x ∧ x ≤ a + n) : l.length ≤ n + 1 := by
  have h1 : ∀ (l : List Nat) (a b : Nat), l.Pairwise (· < ·) → (∀ x, x ∈ l → a ≤ x ∧ x < b) → l.length ≤ b - a := by
    intro l
    induction l with
    | nil => intro a b _ _; simp
    | cons y r ih =>
      intro a b hp hb
      rw [List.pairwise_cons] at hp
      have h1 := hb y (by simp)
      have h2 := ih (y + 1) b hp.2 fun x hx => ⟨hp.1 x hx, (hb x (List.mem_cons_of_mem _ hx)).2⟩
      rw [List.length_cons]
      omega
  have := h1 l a (a + n + 1) h fun x hx => ⟨(hb x hx).1, by have := (hb x hx).2; omega⟩
  omega
theorem lst_len {A : Au} {aw : Bool} {line : ByteArray} {a : Nat} (ha : a ≤ line.size) : (lst A aw line a).length ≤ line.size + 1 := by
  have h := up_len' (lst_up (A := A) (aw := aw) (line := line) (a := a)) (a := a) (n := (bytesOf line a).length) fun x hx => plays_ge x hx
  rw [bytes_len] at h
  omega
theorem lastI_mem {l : List Nat} (h : l.isEmpty = false) : ∃ x, x ∈ l ∧ lastI l = ((x : Nat) : Int) := by
  cases hl : l.getLast? with
  | none =>
    rw [List.getLast?_eq_none_iff] at hl
    rw [hl] at h
    cases h
  | some x => exact ⟨x, List.mem_of_getLast? hl, by unfold lastI; rw [hl]⟩
structure Rooms (a1 a2 : Ans) (L : List Nat) (line : ByteArray) (at0 : Int) : Prop where
  ok : a2.ok = decide ((0 : Int) < ((L.length : Nat) : Int))
  first : a2.ok = true → ∃ x, L[0]? = some x ∧ a2.n = ((x : Nat) : Int)
  range : (a1.e == 0) = (decide (0 ≤ at0) && decide (at0 ≤ ((line.size : Nat) : Int)))
  there : a1.ok = true → ∃ x, x ∈ L ∧ a1.n = ((x : Nat) : Int)
  up : L.Pairwise (· < ·)
  len : L.length ≤ line.size + 1
theorem rooms_law {A : Au} {line : ByteArray} {at0 : Int} : Rooms (ansL A line at0) (ansA A line at0) (ansE A line at0) line at0 := by
  unfold ansL ansA ansE
  by_cases hb : at0 < 0 ∨ ((line.size : Nat) : Int) < at0
  · rw [if_pos hb, if_pos hb, if_pos hb]
    refine ⟨rfl, fun h => (by cases h), ?_, fun h => (by cases h), List.Pairwise.nil, by simp⟩
    show false = _
    rcases hb with hb | hb
    · rw [decide_eq_false (by omega)]; rfl
    · rw [decide_eq_false (show ¬ at0 ≤ ((line.size : Nat) : Int) by omega), Bool.and_false]
  · rw [if_neg hb, if_neg hb, if_neg hb]
    obtain ⟨a, rfl, ha⟩ := nat_at hb
    rw [Int.toNat_natCast]
    refine ⟨?_, fun h => ?_, ?_, fun h => ?_, lst_up, lst_len ha⟩
    · show (!((lst A true line a).take 1).isEmpty) = _
      cases lst A true line a with
      | nil => rfl
      | cons x r => symm; rw [decide_eq_true (by simp only [List.length_cons]; omega)]; rfl
    · have h : (!((lst A true line a).take 1).isEmpty) = true := h
      cases hl : lst A true line a with
      | nil => rw [hl] at h; cases h
      | cons x r => exact ⟨x, rfl, rfl⟩
    · show true = _
      rw [decide_eq_true (by omega), decide_eq_true (by omega)]
      rfl
    · have h : (!(lst A false line a).isEmpty) = true := h
      obtain ⟨x, h1, h2⟩ := lastI_mem (by simpa using h)
      exact ⟨x, lst_sub h1, h2⟩
/-- A call that is asked. -/
structure Cl where
  kind : Int
  line : ByteArray
  at' : Int
  again : Bool
def Cl.cells (z : Cl) : List Value := [.int .i64 z.kind, .string z.line, .int .i64 z.at', .bool z.again]
theorem cl_len (z : Cl) : z.cells.length = 4 := rfl
theorem cl_at {m : Mem} {A : Option Addr} {l : List Cl} {k : Nat} {y : Cl} (h : Rd m A (l.flatMap Cl.cells)) (hi : l[k]? = some y) : ∃ p, A = some p ∧ ∀ (o : Nat) v, y.cells[o]? = some v → m.cell ((p.add (k * 4)).add o) = some v := by
  obtain ⟨q0, hq0, _⟩ := h.atf (k := k * 4) (off := 0) ((flat_get cl_len hi (o := 0) (by decide)).trans rfl)
  refine ⟨q0, hq0, fun o v ho => ?_⟩
  have hlt : o < 4 := by
    have := (List.getElem?_eq_some_iff.1 ho).1
    rw [cl_len] at this
    exact this
  obtain ⟨q1, hq1, hc1⟩ := h.atf (k := k * 4) (off := o) ((flat_get cl_len hi (o := o) hlt).trans ho)
  rw [hq0] at hq1
  cases hq1
  exact hc1
theorem refused_room {q : Prg} {r s : Int} (hr : 2 ≤ r ∧ r ≤ 100000) (hs : 2 ≤ s ∧ s ≤ 100000) : refusedF q r = refusedF q s := by
  unfold refusedF
  rw [if_neg (show ¬ (r < 2 ∨ 100000 < r) by omega), if_neg (show ¬ (s < 2 ∨ 100000 < s) by omega)]
end Go.Proofs.Ytkkcdfnlmhmheaa
/- Dfa: DfaRooms. -/
namespace Go.Proofs.Ytkkcdfnlmhmheaa
open Go Go.Mv
set_option maxHeartbeats 4000000
set_option maxRecDepth 10000
set_option linter.unusedVariables false
set_option linter.unusedSimpArgs false
attribute [local irreducible] FCalls IntKind.wrap bits Mem.set Mem.setCell Mem.setCells YCalls RunP NextP RunU
def In64 (x : Int) : Prop := -9223372036854775808 ≤ x ∧ x ≤ 9223372036854775807
theorem dfaRooms_c {m : Mem} {q : Prg} {one two : Int} {A : Option Addr} {c : Nat} {zs : List Cl} (hq : q.at m) (h1 : In64 one) (h2 : In64 two) (hA : Rd m A (zs.flatMap Cl.cells)) (hz : ∀ z, z ∈ zs → z.line.size ≤ 1048576) (hn : zs.length ≤ 1048576) :
    FCalls Try.prog 3 [q.val, .int .i64 one, .int .i64 two, .slice A zs.length c] m fun v m' => v = .bool true ∧ m' = m := by
  refine FCalls.less ?_
  have hp1 := pickI_range (c := one) (n := 99999) (by omega)
  have hp2 := pickI_range (c := two) (n := 4) (by omega)
  have hw1 : IntKind.i64.wrap (2 + pickI one 99999) = 2 + pickI one 99999 := wrap_id (by omega) (by omega)
  have hw2 : IntKind.i64.wrap (2 + pickI two 4) = 2 + pickI two 4 := wrap_id (by omega) (by omega)
  have hrr : refusedF q (2 + pickI two 4) = refusedF q (2 + pickI one 99999) := refused_room (by omega) (by omega)
  refine fcalls_of_vc (T := tbl) (B := bodies) (pr := [99999, 4]) (DR := (100020, 0) :: dr3) (args := [.v q.val, .v (.int .i64 one), .v (.int .i64 two), .v (.slice A zs.length c)]) tbl_ok bodies_ok mixed Try.func3 rfl (by decide +kernel) (by simp [Try.f3]) rfl ?_
  (conv => whnf)
  refine FCalls.mono known_c ?_
  rintro v m' ⟨rfl, rfl⟩
  (conv => whnf)
  refine ⟨?_, ?_⟩
  all_goals
    try refine ⟨?_, True.intro⟩
    (conv => whnf)
    refine FCalls.mono (pick_c h1.1 h1.2 (by omega)) ?_
    rintro v mB ⟨rfl, rfl⟩
    (conv => whnf)
    rcases Classical.em (refusedF q (2 + pickI one 99999) = 0) with hr | hr
    rotate_left
    · refine FCalls.mono (new_bad (q := q) hq (by rw [hw1]; exact hr)) ?_
      rintro v m' ⟨rfl, rfl⟩
      rw [hw1]
      (conv => whnf)
      refine ⟨?_, ?_⟩
      all_goals
        try refine ⟨?_, True.intro⟩
        (conv => whnf)
        refine FCalls.mono (pick_c h2.1 h2.2 (by omega)) ?_
        rintro v m' ⟨rfl, rfl⟩
        (conv => whnf)
        refine FCalls.mono (new_bad (q := q) hq (by rw [hw2, hrr]; exact hr)) ?_
        rintro v m' ⟨rfl, rfl⟩
        rw [hw2, hrr]
        obtain ⟨rf, hrf⟩ : ∃ rf, rf = refusedF q (2 + pickI one 99999) := ⟨_, rfl⟩
        rw [← hrf] at hr ⊢
        (conv => whnf)
        refine brk_false (by simp [hr]) ?_
        (conv => whnf)
        refine brk_true (by simp) ?_
        (conv => whnf)
        exact ⟨_, Mem.le_refl _, by simp [single], rfl⟩
    · refine FCalls.mono (new_d (q := q) (Sep.init _) hq (by rw [hw1]; exact hr)) ?_
      rintro v m1 ⟨da, rfl, hS⟩
      (conv => whnf)
      refine ⟨?_, ?_⟩
      all_goals
        try refine ⟨?_, True.intro⟩
        (conv => whnf)
        refine FCalls.mono (pick_c h2.1 h2.2 (by omega)) ?_
        rintro v m' ⟨rfl, rfl⟩
        (conv => whnf)
        refine FCalls.mono (new_d (q := q) hS (hq.more (hS.kept 1 rfl)) (by rw [hw2, hrr]; exact hr)) ?_
        rintro v m2 ⟨db, rfl, hS⟩
        (conv => whnf)
        refine loop_keep [3, 10, 12] (Nat × Mem) (fun z => [(14, .v (.int .i64 ((z.1 : Nat) : Int)))]) (fun _ => [.cells q.cells]) (fun z => z.2) (fun z => z.1 ≤ zs.length ∧ Sep [dm (auOf q) da, dm (auOf q) db, kp mB] z.2) (fun z => zs.length - z.1) (0, m2) ⟨rfl, trivial⟩ rfl rfl ⟨by omega, hS.move 1 rfl⟩ ?_
        clear hS
        (conv => whnf)
        refine ⟨rfl, ?_⟩
        rintro ⟨i, M⟩ ⟨hi, hS⟩
        dsimp only at hi hS
        have fin : ∃ m'', (∀ b o, m'' b = some o → M b = some o) ∧ Value.bool true = .bool true ∧ m'' = mB := ⟨_, hS.kept 2 rfl, rfl, rfl⟩
        (conv => whnf)
        refine brk_intro (fun c1 => ?_) (fun c1 => ?_)
        rotate_left
        · (conv => whnf)
          exact fin
        have c1 : ((i : Nat) : Int) < ((zs.length : Nat) : Int) := of_decide_eq_true (beqT c1)
        (conv => whnf)
        refine brk_intro (fun c2 => ?_) (fun c2 => ?_)
        rotate_left
        · (conv => whnf)
          exact fin
        clear fin c2
        have step1 : IntKind.i64.wrap ((i : Int) + 1) = ((i + 1 : Nat) : Int) := wrap_id (by omega) (by omega)
        obtain ⟨z, hzi⟩ : ∃ z, zs[i]? = some z := ⟨_, List.getElem?_eq_getElem (by omega)⟩
        have hzl := hz z (List.mem_of_getElem? hzi)
        obtain ⟨p, hp, hcp⟩ := cl_at (hA.more (hS.kept 2 rfl)) hzi
        (conv => whnf)
        refine ⟨p, hp, by omega, by omega, ?_⟩
        (conv => whnf)
        refine ⟨_, hcp 0 _ rfl, ?_⟩
        (conv => whnf)
        refine ⟨_, hcp 1 _ rfl, ?_⟩
        (conv => whnf)
        refine ⟨_, hcp 2 _ rfl, ?_⟩
        (conv => whnf)
        refine ⟨_, hcp 3 _ rfl, ?_⟩
        clear hcp hp
        (conv => whnf)
        intro b15 m3 hb he
        replace hS := hS.new' (l := [.int .i64 0, .string ⟨#[]⟩, .int .i64 0, .bool false]) hb he
        clear hb he
        (conv => whnf)
        refine ⟨hS.rooms 0 (i := 0) rfl (by decide), fun m4 he => ?_⟩
        replace hS : Sep [pt b15 z.cells, dm (auOf q) da, dm (auOf q) db, kp mB] m4 := he ▸ hS.putAll 0 (i := 0) z.cells rfl
        clear he
        (conv => whnf)
        refine ⟨_, hS.cell 0 (i := 1) rfl rfl, ?_⟩
        (conv => whnf)
        refine ⟨_, hS.cell 0 (i := 2) rfl rfl, ?_⟩
        (conv => whnf)
        refine FCalls.mono (hS.call 1 rfl fun m1 h1 => ask_l h1 (by omega)) ?_
        rintro v m5 ⟨m6, ⟨rfl, k1⟩, k2⟩
        replace hS : Sep [pt b15 z.cells, dm (auOf q) da, dm (auOf q) db, kp mB] m5 := (k2.one k1).move 1 rfl
        clear k1 k2
        (conv => whnf)
        refine ⟨_, hS.cell 0 (i := 1) rfl rfl, ?_⟩
        (conv => whnf)
        refine ⟨_, hS.cell 0 (i := 2) rfl rfl, ?_⟩
        (conv => whnf)
        refine FCalls.mono (hS.call 2 rfl fun m1 h1 => ask_l h1 (by omega)) ?_
        rintro v m5 ⟨m6, ⟨rfl, k1⟩, k2⟩
        replace hS : Sep [pt b15 z.cells, dm (auOf q) da, dm (auOf q) db, kp mB] m5 := (k2.one k1).move 2 rfl |>.move 2 rfl
        clear k1 k2
        (conv => whnf)
        refine ⟨_, hS.cell 0 (i := 1) rfl rfl, ?_⟩
        (conv => whnf)
        refine ⟨_, hS.cell 0 (i := 2) rfl rfl, ?_⟩
        (conv => whnf)
        refine FCalls.mono (hS.call 1 rfl fun m1 h1 => ask_a h1 (by omega)) ?_
        rintro v m5 ⟨m6, ⟨rfl, k1⟩, k2⟩
        replace hS : Sep [pt b15 z.cells, dm (auOf q) da, dm (auOf q) db, kp mB] m5 := (k2.one k1).move 1 rfl
        clear k1 k2
        (conv => whnf)
        refine ⟨_, hS.cell 0 (i := 1) rfl rfl, ?_⟩
        (conv => whnf)
        refine ⟨_, hS.cell 0 (i := 2) rfl rfl, ?_⟩
        (conv => whnf)
        refine FCalls.mono (hS.call 2 rfl fun m1 h1 => ask_a h1 (by omega)) ?_
        rintro v m5 ⟨m6, ⟨rfl, k1⟩, k2⟩
        replace hS : Sep [pt b15 z.cells, dm (auOf q) da, dm (auOf q) db, kp mB] m5 := (k2.one k1).move 2 rfl |>.move 2 rfl
        clear k1 k2
        (conv => whnf)
        refine ⟨_, hS.cell 0 (i := 1) rfl rfl, ?_⟩
        (conv => whnf)
        refine ⟨_, hS.cell 0 (i := 2) rfl rfl, ?_⟩
        (conv => whnf)
        refine FCalls.mono (hS.call 1 rfl fun m1 h1 => ask_e h1 (by omega)) ?_
        rintro v m5 ⟨m6, ⟨B1, e1, rfl, k1⟩, k2⟩
        replace hS : Sep [sl B1 (ansE (auOf q) z.line z.at').length e1 1 (nv (ansE (auOf q) z.line z.at')), dm (auOf q) da, pt b15 z.cells, dm (auOf q) db, kp mB] m5 := k2.sep k1
        clear k1 k2
        (conv => whnf)
        refine ⟨_, hS.cell 2 (i := 1) rfl rfl, ?_⟩
        (conv => whnf)
        refine ⟨_, hS.cell 2 (i := 2) rfl rfl, ?_⟩
        (conv => whnf)
        refine FCalls.mono (hS.call 3 rfl fun m1 h1 => ask_e h1 (by omega)) ?_
        rintro v m7 ⟨m6, ⟨B2, e2, rfl, k1⟩, k2⟩
        replace hS : Sep [sl B2 (ansE (auOf q) z.line z.at').length e2 1 (nv (ansE (auOf q) z.line z.at')), dm (auOf q) db, sl B1 (ansE (auOf q) z.line z.at').length e1 1 (nv (ansE (auOf q) z.line z.at')), dm (auOf q) da, pt b15 z.cells, kp mB] m7 := k2.sep k1
        clear k1 k2
        have hR := rooms_law (A := auOf q) (line := z.line) (at0 := z.at')
        obtain ⟨a1, ha1⟩ : ∃ a, a = ansL (auOf q) z.line z.at' := ⟨_, rfl⟩
        obtain ⟨a2, ha2⟩ : ∃ a, a = ansA (auOf q) z.line z.at' := ⟨_, rfl⟩
        obtain ⟨L, hL⟩ : ∃ a, a = ansE (auOf q) z.line z.at' := ⟨_, rfl⟩
        rw [← ha1, ← ha2, ← hL] at hR
        rw [← hL] at hS
        rw [← ha1, ← ha2, ← hL]
        clear ha1 ha2 hL
        have hll := hR.len
        (conv => whnf)
        refine FCalls.mono (places_c (hS.rd 2 rfl) (hS.rd 0 rfl) (by omega)) ?_
        rintro v m8 ⟨rfl, rfl⟩
        rw [decide_eq_true rfl]
        (conv => whnf)
        refine join_keep [3, 10, 12, 14, 16, 17, 28] Unit (fun _ => []) (fun _ => m8) (fun _ => True) ?_
        (conv => whnf)
        refine ⟨?_, ?_⟩
        · have hrg := hR.range
          cases hok : a2.ok with
          | true =>
            obtain ⟨x0, hx0, hn0⟩ := hR.first hok
            obtain ⟨p0, hp0, hc0⟩ := (hS.rd 2 rfl).at (nv_get hx0)
            have hl0 : 0 < L.length := (List.getElem?_eq_some_iff.1 hx0).1
            (conv => whnf)
            refine brk_true (by simp) ?_
            (conv => whnf)
            refine brk_true (by simp) ?_
            (conv => whnf)
            refine brk_true (by simp) ?_
            (conv => whnf)
            refine brk_true (by simp; omega) ?_
            (conv => whnf)
            refine ⟨p0, hp0, by omega, by omega, ?_⟩
            (conv => whnf)
            refine ⟨_, hc0, ?_⟩
            (conv => whnf)
            refine brk_true (by simp [hn0]) ?_
            (conv => whnf)
            refine ⟨_, hS.cell 4 (i := 2) rfl rfl, ?_⟩
            (conv => whnf)
            rcases Decidable.em (z.at' ≥ 0) with g1 | g1
            case' inl =>
              refine brk_true (by simp [g1]) ?_
              (conv => whnf)
              refine ⟨_, hS.cell 4 (i := 2) rfl rfl, ?_⟩
              (conv => whnf)
              refine ⟨_, hS.cell 4 (i := 1) rfl rfl, ?_⟩
              (conv => whnf)
              refine brk_false (by simp [hrg, g1]) ?_
            case' inr =>
              refine brk_false (by simp [g1]) ?_
              (conv => whnf)
              refine brk_false (by simp [hrg, g1]) ?_
            all_goals
              (conv => whnf)
              exact ⟨(), le_eq ⟨rfl, rfl, rfl, rfl, rfl, rfl, rfl, trivial⟩ rfl rfl rfl, trivial⟩
          | false =>
            have hl0 : L.length = 0 := by
              have := hR.ok
              rw [hok] at this
              have := of_decide_eq_false this.symm
              omega
            have hd0 : decide (((L.length : Nat) : Int) > 0) = false := decide_eq_false (by omega)
            (conv => whnf)
            refine brk_true (by simp) ?_
            (conv => whnf)
            refine brk_true (by simp) ?_
            (conv => whnf)
            refine brk_true (by simp) ?_
            (conv => whnf)
            refine brk_true (by rw [hd0]; rfl) ?_
            (conv => whnf)
            refine ⟨_, hS.cell 4 (i := 2) rfl rfl, ?_⟩
            (conv => whnf)
            rcases Decidable.em (z.at' ≥ 0) with g1 | g1
            case' inl =>
              refine brk_true (by simp [g1]) ?_
              (conv => whnf)
              refine ⟨_, hS.cell 4 (i := 2) rfl rfl, ?_⟩
              (conv => whnf)
              refine ⟨_, hS.cell 4 (i := 1) rfl rfl, ?_⟩
              (conv => whnf)
              refine brk_false (by simp [hrg, g1]) ?_
            case' inr =>
              refine brk_false (by simp [g1]) ?_
              (conv => whnf)
              refine brk_false (by simp [hrg, g1]) ?_
            all_goals
              (conv => whnf)
              exact ⟨(), le_eq ⟨rfl, rfl, rfl, rfl, rfl, rfl, rfl, trivial⟩ rfl rfl rfl, trivial⟩
          
        rintro ⟨⟩ _
        (conv => whnf)
        refine loop_keep [3, 10, 12, 14, 16, 28] (Nat × Bool) (fun y => [(34, .v (.int .i64 ((y.1 : Nat) : Int))), (33, .v (.bool y.2))]) (fun _ => [.cells q.cells]) (fun _ => m8) (fun y => y.1 ≤ L.length ∧ (y.2 = true ↔ a1.ok = false ∨ ∃ x, x ∈ L.take y.1 ∧ a1.n = ((x : Nat) : Int))) (fun y => L.length - y.1) (0, !a1.ok) ⟨rfl, rfl, trivial⟩ rfl rfl ⟨by omega, by simp⟩ ?_
        (conv => whnf)
        refine ⟨rfl, ?_⟩
        rintro ⟨y, b⟩ ⟨hy, hb⟩
        dsimp only at hy hb
        (conv => whnf)
        refine brk_intro (fun c5 => ?_) (fun c5 => ?_)
        · have c6 : ((y : Nat) : Int) < ((L.length : Nat) : Int) := of_decide_eq_true c5
          obtain ⟨x, hx⟩ : ∃ x, L[y]? = some x := ⟨_, List.getElem?_eq_getElem (by omega)⟩
          obtain ⟨px, hpx, hcx⟩ := rdm (hS.rd 2 rfl) hx
          have hcx : m8.cell (px.add (((y : Nat) : Int).toNat * 1)) = some (.int .i64 ((x : Nat) : Int)) := by rw [Int.toNat_natCast, Nat.mul_one]; exact hcx
          have step2 : IntKind.i64.wrap ((y : Int) + 1) = ((y + 1 : Nat) : Int) := wrap_id (by omega) (by omega)
          have htk : L.take (y + 1) = L.take y ++ [x] := by rw [List.take_add_one, hx]; rfl
          have hin : (∃ x, x ∈ L.take (y + 1) ∧ a1.n = ((x : Nat) : Int)) ↔ (∃ x, x ∈ L.take y ∧ a1.n = ((x : Nat) : Int)) ∨ a1.n = ((x : Nat) : Int) := by
            rw [htk]
            constructor
            · rintro ⟨w, h3, h4⟩
              rcases List.mem_append.1 h3 with h3 | h3
              · exact .inl ⟨w, h3, h4⟩
              · rw [List.mem_singleton] at h3
                exact .inr (h3 ▸ h4)
            · rintro (⟨w, h3, h4⟩ | h4)
              · exact ⟨w, List.mem_append_left _ h3, h4⟩
              · exact ⟨x, List.mem_append_right _ (List.mem_singleton.2 rfl), h4⟩
          (conv => whnf)
          obtain ⟨b', hb', hgo⟩ : ∃ b', (b' = true ↔ a1.ok = false ∨ ∃ x, x ∈ L.take (y + 1) ∧ a1.n = ((x : Nat) : Int)) ∧ (b' = if b then true else (((x : Nat) : Int) == a1.n)) := by
            refine ⟨_, ?_, rfl⟩
            rw [hin, ← or_assoc, ← hb]
            cases b
            · show ((((x : Nat) : Int) == a1.n) = true) ↔ _
              rw [beq_iff_eq]
              exact ⟨fun h => .inr h.symm, fun h => (h.resolve_left (by simp)).symm⟩
            · simp
          cases b with
          | true =>
            have hgo : b' = true := hgo
            subst hgo
            (conv => whnf)
            rcases Nat.eq_zero_or_pos y with hy0 | hy0
            case' inl =>
              refine brk_false (by simp [hy0]) ?_
              (conv => whnf)
            case' inr =>
              obtain ⟨x', hx'⟩ : ∃ x', L[y - 1]? = some x' := ⟨_, List.getElem?_eq_getElem (by omega)⟩
              obtain ⟨px', hpx', hcx'⟩ := rdm (hS.rd 2 rfl) hx'
              have e1 : IntKind.i64.wrap ((y : Int) - 1) = ((y - 1 : Nat) : Int) := by rw [wrap_id (by omega) (by omega)]; omega
              have hlt : x' < x := by
                obtain ⟨k1, k2⟩ := List.getElem?_eq_some_iff.1 hx
                obtain ⟨k3, k4⟩ := List.getElem?_eq_some_iff.1 hx'
                rw [← k2, ← k4]
                exact List.pairwise_iff_getElem.1 hR.up (y - 1) y k3 k1 (by omega)
              refine brk_true (by simp; omega) ?_
              (conv => whnf)
              refine ⟨px, hpx, by omega, c6, ?_⟩
              (conv => whnf)
              refine ⟨_, hcx, ?_⟩
              (conv => whnf)
              refine ⟨px', hpx', by show (0 : Int) ≤ IntKind.i64.wrap ((y : Int) - 1); rw [e1]; omega, by show IntKind.i64.wrap ((y : Int) - 1) < ((L.length : Nat) : Int); rw [e1]; omega, ?_⟩
              (conv => whnf)
              refine ⟨_, by show m8.cell (px'.add ((IntKind.i64.wrap ((y : Int) - 1)).toNat * 1)) = _; rw [e1, Int.toNat_natCast, Nat.mul_one]; exact hcx', ?_⟩
              (conv => whnf)
              refine brk_false (by show (bif true then decide (((x : Nat) : Int) ≤ ((x' : Nat) : Int)) else false) = false; rw [decide_eq_false (by omega)]; rfl) ?_
              (conv => whnf)
            all_goals
              exact ⟨(y + 1, true), le_eq ⟨by show some (AV.v (.int .i64 (IntKind.i64.wrap ((y : Int) + 1)))) = _; rw [step2], rfl, rfl, rfl, rfl, rfl, rfl, rfl, trivial⟩ rfl rfl rfl, ⟨by simp only; omega, hb'⟩, by simp only; omega⟩
          | false =>
            have hgo : b' = (((x : Nat) : Int) == a1.n) := hgo
            subst hgo
            (conv => whnf)
            refine ⟨px, hpx, by omega, c6, ?_⟩
            (conv => whnf)
            refine ⟨_, hcx, ?_⟩
            (conv => whnf)
            rcases Nat.eq_zero_or_pos y with hy0 | hy0
            case' inl =>
              refine brk_false (by simp [hy0]) ?_
              (conv => whnf)
            case' inr =>
              obtain ⟨x', hx'⟩ : ∃ x', L[y - 1]? = some x' := ⟨_, List.getElem?_eq_getElem (by omega)⟩
              obtain ⟨px', hpx', hcx'⟩ := rdm (hS.rd 2 rfl) hx'
              have e1 : IntKind.i64.wrap ((y : Int) - 1) = ((y - 1 : Nat) : Int) := by rw [wrap_id (by omega) (by omega)]; omega
              have hlt : x' < x := by
                obtain ⟨k1, k2⟩ := List.getElem?_eq_some_iff.1 hx
                obtain ⟨k3, k4⟩ := List.getElem?_eq_some_iff.1 hx'
                rw [← k2, ← k4]
                exact List.pairwise_iff_getElem.1 hR.up (y - 1) y k3 k1 (by omega)
              refine brk_true (by simp; omega) ?_
              (conv => whnf)
              refine ⟨px, hpx, by omega, c6, ?_⟩
              (conv => whnf)
              refine ⟨_, hcx, ?_⟩
              (conv => whnf)
              refine ⟨px', hpx', by show (0 : Int) ≤ IntKind.i64.wrap ((y : Int) - 1); rw [e1]; omega, by show IntKind.i64.wrap ((y : Int) - 1) < ((L.length : Nat) : Int); rw [e1]; omega, ?_⟩
              (conv => whnf)
              refine ⟨_, by show m8.cell (px'.add ((IntKind.i64.wrap ((y : Int) - 1)).toNat * 1)) = _; rw [e1, Int.toNat_natCast, Nat.mul_one]; exact hcx', ?_⟩
              (conv => whnf)
              refine brk_false (by show (bif true then decide (((x : Nat) : Int) ≤ ((x' : Nat) : Int)) else false) = false; rw [decide_eq_false (by omega)]; rfl) ?_
              (conv => whnf)
            all_goals
              exact ⟨(y + 1, _), le_eq ⟨by show some (AV.v (.int .i64 (IntKind.i64.wrap ((y : Int) + 1)))) = _; rw [step2], rfl, rfl, rfl, rfl, rfl, rfl, rfl, trivial⟩ rfl rfl rfl, ⟨by simp only; omega, hb'⟩, by simp only; omega⟩
        · have c6 : ¬ ((y : Nat) : Int) < ((L.length : Nat) : Int) := of_decide_eq_false c5
          rw [show y = L.length by omega, List.take_length] at hb
          have hbt : b = true := hb.2 (by
            cases h : a1.ok with
            | false => exact .inl rfl
            | true => exact .inr (hR.there h))
          subst hbt
          (conv => whnf)
          exact ⟨(i + 1, m8), le_eq ⟨by show some (AV.v (.int .i64 (IntKind.i64.wrap ((i : Int) + 1)))) = _; rw [step1], rfl, rfl, rfl, trivial⟩ rfl rfl rfl, ⟨by simp only; omega, ((((hS.drop 0).drop 1).drop 2).move 1 rfl)⟩, by simp only; omega⟩
end Go.Proofs.Ytkkcdfnlmhmheaa
/- Dfa: DfaFresh. -/
namespace Go.Proofs.Ytkkcdfnlmhmheaa
open Go Go.Mv
set_option maxHeartbeats 4000000
set_option maxRecDepth 10000
set_option linter.unusedVariables false
set_option linter.unusedSimpArgs false
attribute [local irreducible] FCalls IntKind.wrap bits Mem.set Mem.setCell Mem.setCells YCalls RunP NextP RunU
theorem dfaFresh_c {m : Mem} {q : Prg} {room : Int} {A : Option Addr} {c : Nat} {zs : List Cl} (hq : q.at m) (h1 : In64 room) (hA : Rd m A (zs.flatMap Cl.cells)) (hz : ∀ z, z ∈ zs → z.line.size ≤ 1048576) (hn : zs.length ≤ 1048576) :
    FCalls Try.prog 4 [q.val, .int .i64 room, .slice A zs.length c] m fun v m' => v = .bool true ∧ m' = m := by
  refine FCalls.less ?_
  have hp1 := pickI_range (c := room) (n := 6) (by omega)
  have hw1 : IntKind.i64.wrap (2 + pickI room 6) = 2 + pickI room 6 := wrap_id (by omega) (by omega)
  have hrr : refusedF q 100000 = refusedF q (2 + pickI room 6) := refused_room (by omega) (by omega)
  refine fcalls_of_vc (T := tbl) (B := bodies) (pr := [99999, 3]) (DR := dr4) (args := [.v q.val, .v (.int .i64 room), .v (.slice A zs.length c)]) tbl_ok bodies_ok mixed Try.func4 rfl (by decide +kernel) (by simp [Try.f4]) rfl ?_
  (conv => whnf)
  refine FCalls.mono known_c ?_
  rintro v m' ⟨rfl, rfl⟩
  (conv => whnf)
  refine FCalls.mono (pick_c h1.1 h1.2 (by omega)) ?_
  rintro v mB ⟨rfl, rfl⟩
  (conv => whnf)
  rcases Classical.em (refusedF q (2 + pickI room 6) = 0) with hr | hr
  rotate_left
  · refine FCalls.mono (new_bad (q := q) hq (by rw [hw1]; exact hr)) ?_
    rintro v m' ⟨rfl, rfl⟩
    rw [hw1]
    obtain ⟨rf, hrf⟩ : ∃ rf, rf = refusedF q (2 + pickI room 6) := ⟨_, rfl⟩
    rw [← hrf] at hr ⊢
    (conv => whnf)
    refine brk_true (by simpa using hr) ?_
    (conv => whnf)
    exact ⟨_, Mem.le_refl _, rfl, rfl⟩
  refine FCalls.mono (new_d (q := q) (Sep.init _) hq (by rw [hw1]; exact hr)) ?_
  rintro v m2 ⟨da, rfl, hS⟩
  (conv => whnf)
  refine loop_keep [2, 3, 8] (Nat × Mem) (fun z => [(10, .v (.int .i64 ((z.1 : Nat) : Int)))]) (fun _ => [.cells q.cells]) (fun z => z.2) (fun z => z.1 ≤ zs.length ∧ Sep [dm (auOf q) da, kp mB] z.2) (fun z => zs.length - z.1) (0, m2) ⟨rfl, trivial⟩ rfl rfl ⟨by omega, hS⟩ ?_
  clear hS
  (conv => whnf)
  refine ⟨rfl, ?_⟩
  rintro ⟨i, M⟩ ⟨hi, hS⟩
  dsimp only at hi hS
  have fin : ∃ m'', (∀ b o, m'' b = some o → M b = some o) ∧ Value.bool true = .bool true ∧ m'' = mB := ⟨_, hS.kept 1 rfl, rfl, rfl⟩
  (conv => whnf)
  refine brk_intro (fun c1 => ?_) (fun c1 => ?_)
  rotate_left
  · (conv => whnf)
    exact fin
  have c1 : ((i : Nat) : Int) < ((zs.length : Nat) : Int) := of_decide_eq_true (beqT c1)
  (conv => whnf)
  refine brk_intro (fun c2 => ?_) (fun c2 => ?_)
  rotate_left
  · (conv => whnf)
    exact fin
  clear fin c2
  have step1 : IntKind.i64.wrap ((i : Int) + 1) = ((i + 1 : Nat) : Int) := wrap_id (by omega) (by omega)
  obtain ⟨z, hzi⟩ : ∃ z, zs[i]? = some z := ⟨_, List.getElem?_eq_getElem (by omega)⟩
  have hzl := hz z (List.mem_of_getElem? hzi)
  obtain ⟨p, hp, hcp⟩ := cl_at (hA.more (hS.kept 1 rfl)) hzi
  (conv => whnf)
  refine ⟨p, hp, by omega, by omega, ?_⟩
  (conv => whnf)
  refine ⟨_, hcp 0 _ rfl, ?_⟩
  (conv => whnf)
  refine ⟨_, hcp 1 _ rfl, ?_⟩
  (conv => whnf)
  refine ⟨_, hcp 2 _ rfl, ?_⟩
  (conv => whnf)
  refine ⟨_, hcp 3 _ rfl, ?_⟩
  clear hcp hp
  (conv => whnf)
  intro b15 m3 hb he
  replace hS := hS.new' (l := [.int .i64 0, .string ⟨#[]⟩, .int .i64 0, .bool false]) hb he
  clear hb he
  (conv => whnf)
  refine ⟨hS.rooms 0 (i := 0) rfl (by decide), fun m4 he => ?_⟩
  replace hS : Sep [pt b15 z.cells, dm (auOf q) da, kp mB] m4 := he ▸ hS.putAll 0 (i := 0) z.cells rfl
  clear he
  (conv => whnf)
  refine FCalls.mono (new_d (q := q) hS (hq.more (hS.kept 2 rfl)) (by rw [hrr]; exact hr)) ?_
  rintro v m5 ⟨db, rfl, hS⟩
  replace hS : Sep [pt b15 z.cells, dm (auOf q) da, dm (auOf q) db, kp mB] m5 := (hS.move 2 rfl).move 2 rfl
  (conv => whnf)
  refine ⟨_, hS.cell 0 (i := 1) rfl rfl, ?_⟩
  (conv => whnf)
  refine ⟨_, hS.cell 0 (i := 2) rfl rfl, ?_⟩
  (conv => whnf)
  refine FCalls.mono (hS.call 1 rfl fun m1 h1 => ask_l h1 (by omega)) ?_
  rintro v m5 ⟨m6, ⟨rfl, k1⟩, k2⟩
  replace hS : Sep [pt b15 z.cells, dm (auOf q) da, dm (auOf q) db, kp mB] m5 := (k2.one k1).move 1 rfl
  clear k1 k2
  (conv => whnf)
  refine ⟨_, hS.cell 0 (i := 1) rfl rfl, ?_⟩
  (conv => whnf)
  refine ⟨_, hS.cell 0 (i := 2) rfl rfl, ?_⟩
  (conv => whnf)
  refine FCalls.mono (hS.call 2 rfl fun m1 h1 => ask_l h1 (by omega)) ?_
  rintro v m5 ⟨m6, ⟨rfl, k1⟩, k2⟩
  replace hS : Sep [pt b15 z.cells, dm (auOf q) da, dm (auOf q) db, kp mB] m5 := (k2.one k1).move 2 rfl |>.move 2 rfl
  clear k1 k2
  (conv => whnf)
  refine ⟨_, hS.cell 0 (i := 1) rfl rfl, ?_⟩
  (conv => whnf)
  refine ⟨_, hS.cell 0 (i := 2) rfl rfl, ?_⟩
  (conv => whnf)
  refine FCalls.mono (hS.call 1 rfl fun m1 h1 => ask_e h1 (by omega)) ?_
  rintro v m5 ⟨m6, ⟨B1, e1, rfl, k1⟩, k2⟩
  replace hS : Sep [sl B1 (ansE (auOf q) z.line z.at').length e1 1 (nv (ansE (auOf q) z.line z.at')), dm (auOf q) da, pt b15 z.cells, dm (auOf q) db, kp mB] m5 := k2.sep k1
  clear k1 k2
  (conv => whnf)
  refine ⟨_, hS.cell 2 (i := 1) rfl rfl, ?_⟩
  (conv => whnf)
  refine ⟨_, hS.cell 2 (i := 2) rfl rfl, ?_⟩
  (conv => whnf)
  refine FCalls.mono (hS.call 3 rfl fun m1 h1 => ask_e h1 (by omega)) ?_
  rintro v m7 ⟨m6, ⟨B2, e2, rfl, k1⟩, k2⟩
  replace hS : Sep [sl B2 (ansE (auOf q) z.line z.at').length e2 1 (nv (ansE (auOf q) z.line z.at')), dm (auOf q) db, sl B1 (ansE (auOf q) z.line z.at').length e1 1 (nv (ansE (auOf q) z.line z.at')), dm (auOf q) da, pt b15 z.cells, kp mB] m7 := k2.sep k1
  clear k1 k2
  have hR := rooms_law (A := auOf q) (line := z.line) (at0 := z.at')
  have hll := hR.len
  (conv => whnf)
  refine FCalls.mono (places_c (hS.rd 2 rfl) (hS.rd 0 rfl) (by omega)) ?_
  rintro v m8 ⟨rfl, rfl⟩
  rw [decide_eq_true rfl]
  (conv => whnf)
  refine brk_true (by simp) ?_
  (conv => whnf)
  refine brk_true (by simp) ?_
  (conv => whnf)
  refine brk_true (by simp) ?_
  (conv => whnf)
  refine brk_true (by simp) ?_
  (conv => whnf)
  exact ⟨(i + 1, m8), le_eq ⟨by show some (AV.v (.int .i64 (IntKind.i64.wrap ((i : Int) + 1)))) = _; rw [step1], rfl, rfl, rfl, trivial⟩ rfl rfl rfl, ⟨by simp only; omega, ((((hS.drop 0).drop 0).drop 0).drop 1)⟩, by simp only; omega⟩
end Go.Proofs.Ytkkcdfnlmhmheaa
/- Dfa: DfaAhead. -/
namespace Go.Proofs.Ytkkcdfnlmhmheaa
open Go Go.Mv
set_option maxHeartbeats 4000000
set_option maxRecDepth 10000
set_option linter.unusedVariables false
set_option linter.unusedSimpArgs false
theorem no_begin {q : Prg} (h : ∀ (j : Nat) i, q.ins[j]? = some i → i.op ≠ 4) (f f' l : Bool) (k : Nat) : (auOf q).sc f l k = (auOf q).sc f' l k := by
  unfold auOf
  simp only
  cases hi : q.ins[k]? with
  | none => rfl
  | some i =>
    simp only
    rw [if_neg (h k i hi), if_neg (h k i hi)]
theorem bytes_app {a b : ByteArray} : bytesOf (a ++ b) a.size = bytesOf b 0 := by
  unfold bytesOf
  have h : (a ++ b).data.toList = a.data.toList ++ b.data.toList := by simp [ByteArray.data_append]
  rw [h, List.drop_append_of_le_length (by show a.size ≤ a.size; omega)]
  rw [List.drop_eq_nil_of_le (by show a.size ≤ a.size; omega)]
  rfl
theorem size_app {a b : ByteArray} : (a ++ b).size = a.size + b.size := ByteArray.size_append
theorem lst_ahead {q : Prg} (h : ∀ (j : Nat) i, q.ins[j]? = some i → i.op ≠ 4) {aw : Bool} {a b : ByteArray} : lst (auOf q) aw (a ++ b) a.size = (lst (auOf q) aw b 0).map (· + a.size) := by
  unfold lst
  rw [bytes_app, ← plays_off, Nat.zero_add, sta_first (f := ((a.size : Nat) : Int) == 0) (f' := ((0 : Nat) : Int) == 0) fun l k => no_begin h _ _ l k]
structure Aheads (a1 a2 : Ans) (L1 L2 : List Nat) (k : Nat) (n : Nat) : Prop where
  ok : a1.ok = a2.ok
  num : a1.ok = true → a2.n = a1.n + ((k : Nat) : Int)
  list : L2 = L1.map (· + k)
  len : L1.length ≤ n + 1
  small : 0 ≤ a1.n ∧ a1.n ≤ ((n : Nat) : Int)
  small' : ∀ x, x ∈ L1 → x ≤ n
theorem ahead_law {q : Prg} (h : ∀ (j : Nat) i, q.ins[j]? = some i → i.op ≠ 4) {a b : ByteArray} :
    Aheads (ansL (auOf q) b 0) (ansL (auOf q) (a ++ b) ((a.size : Nat) : Int)) (ansE (auOf q) b 0) (ansE (auOf q) (a ++ b) ((a.size : Nat) : Int)) a.size b.size := by
  have hs := size_app (a := a) (b := b)
  have e1 : ansL (auOf q) b 0 = ⟨lastI (lst (auOf q) false b 0), !(lst (auOf q) false b 0).isEmpty, 0⟩ := by unfold ansL; rw [if_neg (by omega)]; rfl
  have e2 : ansL (auOf q) (a ++ b) ((a.size : Nat) : Int) = ⟨lastI ((lst (auOf q) false b 0).map (· + a.size)), !((lst (auOf q) false b 0).map (· + a.size)).isEmpty, 0⟩ := by unfold ansL; rw [if_neg (by omega), Int.toNat_natCast, lst_ahead h]
  have e3 : ansE (auOf q) b 0 = lst (auOf q) true b 0 := by unfold ansE; rw [if_neg (by omega)]; rfl
  have e4 : ansE (auOf q) (a ++ b) ((a.size : Nat) : Int) = (lst (auOf q) true b 0).map (· + a.size) := by unfold ansE; rw [if_neg (by omega), Int.toNat_natCast, lst_ahead h]
  rw [e1, e2, e3, e4]
  have hb : ∀ aw x, x ∈ lst (auOf q) aw b 0 → x ≤ b.size := fun aw x hx => by
    have := (plays_ge x hx).2
    rw [bytes_len] at this
    omega
  refine ⟨by cases lst (auOf q) false b 0 <;> rfl, fun ho => ?_, rfl, lst_len (by omega), ?_, hb true⟩
  · have ho : (!(lst (auOf q) false b 0).isEmpty) = true := ho
    obtain ⟨x, h1, h2⟩ := lastI_mem (by simpa using ho)
    show lastI ((lst (auOf q) false b 0).map (· + a.size)) = lastI (lst (auOf q) false b 0) + _
    unfold lastI at h2 ⊢
    rw [List.getLast?_map]
    cases hl : (lst (auOf q) false b 0).getLast? with
    | none => rw [List.getLast?_eq_none_iff] at hl; rw [hl] at h1; cases h1
    | some y => simp
  · show 0 ≤ lastI _ ∧ lastI _ ≤ _
    unfold lastI
    cases hl : (lst (auOf q) false b 0).getLast? with
    | none => simp
    | some y =>
      have := hb false y (List.mem_of_getLast? hl)
      simp
      omega
attribute [local irreducible] FCalls IntKind.wrap bits Mem.set Mem.setCell Mem.setCells YCalls RunP NextP RunU
theorem dfaAhead_c {m : Mem} {q : Prg} {room : Int} {a b : ByteArray} (hq : q.at m) (h1 : In64 room) (ha : a.size ≤ 1048576) (hb : b.size ≤ 1048576) (hqn : q.ins.length ≤ 1048576) :
    FCalls Try.prog 5 [q.val, .int .i64 room, .string a, .string b] m fun v m' => v = .bool true ∧ m' = m := by
  refine FCalls.less ?_
  have hp1 := pickI_range (c := room) (n := 50) (by omega)
  have hw1 : IntKind.i64.wrap (2 + pickI room 50) = 2 + pickI room 50 := wrap_id (by omega) (by omega)
  refine fcalls_of_vc (T := tbl) (B := bodies) (pr := [99999, 4]) (DR := dr5) (args := [.v q.val, .v (.int .i64 room), .v (.string a), .v (.string b)]) tbl_ok bodies_ok mixed Try.func5 rfl (by decide +kernel) (by simp [Try.f5]) rfl ?_
  (conv => whnf)
  refine FCalls.mono known_c ?_
  rintro v m' ⟨rfl, rfl⟩
  (conv => whnf)
  refine ⟨?_, ?_⟩
  all_goals
    try refine ⟨?_, True.intro⟩
    (conv => whnf)
    refine FCalls.mono (pick_c h1.1 h1.2 (by omega)) ?_
    rintro v mB ⟨rfl, rfl⟩
    (conv => whnf)
    rcases Classical.em (refusedF q (2 + pickI room 50) = 0) with hr | hr
    rotate_left
    · refine FCalls.mono (new_bad (q := q) hq (by rw [hw1]; exact hr)) ?_
      rintro v mC ⟨rfl, rfl⟩
      rw [hw1]
      obtain ⟨rf, hrf⟩ : ∃ rf, rf = refusedF q (2 + pickI room 50) := ⟨_, rfl⟩
      rw [← hrf] at hr ⊢
      have hqM := hq
      (conv => whnf)
      refine loop_keep [4, 9, 10, 11] Nat (fun z => [(12, .v (.int .i64 ((z : Nat) : Int)))]) (fun _ => [.cells q.cells]) (fun z => mC) (fun z => z ≤ q.ins.length ∧ ∀ (j : Nat) i, j < z → q.ins[j]? = some i → i.op ≠ 4) (fun z => q.ins.length - z) 0 ⟨rfl, trivial⟩ rfl rfl ⟨by omega, fun j i h => by omega⟩ ?_
      (conv => whnf)
      refine ⟨rfl, ?_⟩
      rintro k ⟨hk, hno⟩
      (conv => whnf)
      refine brk_intro (fun c1 => ?_) (fun c1 => ?_)
      · have c1 : ((k : Nat) : Int) < ((q.ins.length : Nat) : Int) := of_decide_eq_true c1
        have step1 : IntKind.i64.wrap ((k : Int) + 1) = ((k + 1 : Nat) : Int) := wrap_id (by omega) (by omega)
        obtain ⟨i, hi⟩ : ∃ i, q.ins[k]? = some i := ⟨_, List.getElem?_eq_getElem (by omega)⟩
        obtain ⟨pi, hpi, hci⟩ := ins_at hqM hi
        (conv => whnf)
        refine ⟨pi, hpi, by omega, by omega, ?_⟩
        (conv => whnf)
        refine ⟨_, hci 0 _ rfl, ?_⟩
        (conv => whnf)
        refine brk_intro (fun c2 => ?_) (fun c2 => ?_)
        · (conv => whnf)
          exact ⟨_, Mem.le_refl _, rfl, rfl⟩
        · have c2 : i.op ≠ 4 := by simpa using c2
          (conv => whnf)
          refine ⟨k + 1, le_eq ⟨by show some (AV.v (.int .i64 (IntKind.i64.wrap ((k : Int) + 1)))) = _; rw [step1], rfl, rfl, rfl, rfl, trivial⟩ rfl rfl rfl, ⟨by omega, fun j i' hj hi' => ?_⟩, by omega⟩
          rcases Nat.lt_or_ge j k with h | h
          · exact hno j i' h hi'
          · have : j = k := by omega
            rw [this, hi] at hi'
            cases hi'
            exact c2
      have c1 : ¬ ((k : Nat) : Int) < ((q.ins.length : Nat) : Int) := of_decide_eq_false c1
      replace hno : ∀ (j : Nat) i, q.ins[j]? = some i → i.op ≠ 4 := fun j i hi => hno j i (by have := (List.getElem?_eq_some_iff.1 hi).1; omega) hi
      (conv => whnf)
      refine brk_true (by simpa using hr) ?_
      (conv => whnf)
      exact ⟨_, Mem.le_refl _, rfl, rfl⟩
    refine FCalls.mono (new_d (q := q) (Sep.init _) hq (by rw [hw1]; exact hr)) ?_
    rintro v m2 ⟨da, rfl, hS⟩
    have hqM := hq.more (hS.kept 1 rfl)
    (conv => whnf)
    refine loop_keep [2, 3, 4, 9, 10, 11] Nat (fun z => [(12, .v (.int .i64 ((z : Nat) : Int)))]) (fun _ => [.cells q.cells]) (fun z => m2) (fun z => z ≤ q.ins.length ∧ ∀ (j : Nat) i, j < z → q.ins[j]? = some i → i.op ≠ 4) (fun z => q.ins.length - z) 0 ⟨rfl, trivial⟩ rfl rfl ⟨by omega, fun j i h => by omega⟩ ?_
    (conv => whnf)
    refine ⟨rfl, ?_⟩
    rintro k ⟨hk, hno⟩
    (conv => whnf)
    refine brk_intro (fun c1 => ?_) (fun c1 => ?_)
    · have c1 : ((k : Nat) : Int) < ((q.ins.length : Nat) : Int) := of_decide_eq_true c1
      have step1 : IntKind.i64.wrap ((k : Int) + 1) = ((k + 1 : Nat) : Int) := wrap_id (by omega) (by omega)
      obtain ⟨i, hi⟩ : ∃ i, q.ins[k]? = some i := ⟨_, List.getElem?_eq_getElem (by omega)⟩
      obtain ⟨pi, hpi, hci⟩ := ins_at hqM hi
      (conv => whnf)
      refine ⟨pi, hpi, by omega, by omega, ?_⟩
      (conv => whnf)
      refine ⟨_, hci 0 _ rfl, ?_⟩
      (conv => whnf)
      refine brk_intro (fun c2 => ?_) (fun c2 => ?_)
      · (conv => whnf)
        exact ⟨_, hS.kept 1 rfl, rfl, rfl⟩
      · have c2 : i.op ≠ 4 := by simpa using c2
        (conv => whnf)
        refine ⟨k + 1, le_eq ⟨by show some (AV.v (.int .i64 (IntKind.i64.wrap ((k : Int) + 1)))) = _; rw [step1], rfl, rfl, rfl, rfl, rfl, rfl, trivial⟩ rfl rfl rfl, ⟨by omega, fun j i' hj hi' => ?_⟩, by omega⟩
        rcases Nat.lt_or_ge j k with h | h
        · exact hno j i' h hi'
        · have : j = k := by omega
          rw [this, hi] at hi'
          cases hi'
          exact c2
    have c1 : ¬ ((k : Nat) : Int) < ((q.ins.length : Nat) : Int) := of_decide_eq_false c1
    replace hno : ∀ (j : Nat) i, q.ins[j]? = some i → i.op ≠ 4 := fun j i hi => hno j i (by have := (List.getElem?_eq_some_iff.1 hi).1; omega) hi
    (conv => whnf)
    have hR := ahead_law hno (a := a) (b := b)
    have hsz := size_app (a := a) (b := b)
    refine FCalls.mono (hS.call 0 rfl fun m1 h1 => ask_l (line := b) (at0 := 0) h1 (by omega)) ?_
    rintro v m3 ⟨m6, ⟨rfl, k1⟩, k2⟩
    replace hS := k2.one k1
    clear k1 k2
    (conv => whnf)
    refine ⟨by show ((a.size + b.size : Nat) : Int) ≤ 9223372036854775807; omega, ?_⟩
    (conv => whnf)
    refine FCalls.mono (hS.call 0 rfl fun m1 h1 => ask_l (line := a ++ b) (at0 := ((a.size : Nat) : Int)) h1 (by omega)) ?_
    rintro v m4 ⟨m6, ⟨rfl, k1⟩, k2⟩
    replace hS := k2.one k1
    clear k1 k2
    (conv => whnf)
    refine FCalls.mono (hS.call 0 rfl fun m1 h1 => ask_e (line := b) (at0 := 0) h1 (by omega)) ?_
    rintro v m5 ⟨m6, ⟨B1, e1, rfl, k1⟩, k2⟩
    replace hS := k2.sep k1
    clear k1 k2
    (conv => whnf)
    refine ⟨by show ((a.size + b.size : Nat) : Int) ≤ 9223372036854775807; omega, ?_⟩
    (conv => whnf)
    refine FCalls.mono (hS.call 1 rfl fun m1 h1 => ask_e (line := a ++ b) (at0 := ((a.size : Nat) : Int)) h1 (by omega)) ?_
    rintro v m7 ⟨m6, ⟨B2, e2, rfl, k1⟩, k2⟩
    replace hS := k2.sep k1
    clear k1 k2
    obtain ⟨a1, ha1⟩ : ∃ y, y = ansL (auOf q) b 0 := ⟨_, rfl⟩
    obtain ⟨a2, ha2⟩ : ∃ y, y = ansL (auOf q) (a ++ b) ((a.size : Nat) : Int) := ⟨_, rfl⟩
    obtain ⟨L1, hL1⟩ : ∃ y, y = ansE (auOf q) b 0 := ⟨_, rfl⟩
    obtain ⟨L2, hL2⟩ : ∃ y, y = ansE (auOf q) (a ++ b) ((a.size : Nat) : Int) := ⟨_, rfl⟩
    rw [← ha1, ← ha2, ← hL1, ← hL2] at hR
    rw [← hL1, ← hL2] at hS
    replace hS : Sep [sl B2 L2.length e2 1 (nv L2), dm (auOf q) da, sl B1 L1.length e1 1 (nv L1), kp mB] m7 := hS
    rw [← ha1, ← ha2, ← hL1, ← hL2]
    clear ha1 ha2 hL1 hL2
    have hlen2 : L2.length = L1.length := by rw [hR.list, List.length_map]
    have hok := hR.ok
    have hsm := hR.small
    have hl1 := hR.len
    (conv => whnf)
    refine brk_true (by rw [hok]; simp) ?_
    (conv => whnf)
    rcases Bool.eq_false_or_eq_true a1.ok with ho | ho
    case' inl =>
      have hnum := hR.num ho
      have hw2 : IntKind.i64.wrap (a1.n + ((a.size : Nat) : Int)) = a1.n + ((a.size : Nat) : Int) := wrap_id (by omega) (by omega)
      refine brk_true (by rw [ho]; rfl) ?_
      (conv => whnf)
      refine brk_true (by rw [hw2, hnum]; simp) ?_
      (conv => whnf)
    case' inr =>
      refine brk_false (by rw [ho]; rfl) ?_
      (conv => whnf)
      try refine brk_false ho ?_
      try (conv => whnf)
    all_goals
      refine brk_false (by rw [hlen2]; simp) ?_
      (conv => whnf)
      refine loop_keep [13, 20, 22] Nat (fun z => [(24, .v (.int .i64 ((z : Nat) : Int)))]) (fun _ => [.cells q.cells]) (fun z => m7) (fun z => z ≤ L1.length) (fun z => L1.length - z) 0 ⟨rfl, trivial⟩ rfl rfl (by omega) ?_
      (conv => whnf)
      refine ⟨rfl, ?_⟩
      rintro k hk
      (conv => whnf)
      refine brk_intro (fun c1 => ?_) (fun c1 => ?_)
      · have c3 : ((k : Nat) : Int) < ((L1.length : Nat) : Int) := of_decide_eq_true c1
        have step1 : IntKind.i64.wrap ((k : Int) + 1) = ((k + 1 : Nat) : Int) := wrap_id (by omega) (by omega)
        obtain ⟨x, hx⟩ : ∃ x, L1[k]? = some x := ⟨_, List.getElem?_eq_getElem (by omega)⟩
        have hxs := hR.small' x (List.mem_of_getElem? hx)
        have hx2 : L2[k]? = some (x + a.size) := by rw [hR.list, List.getElem?_map, hx]; rfl
        obtain ⟨p1, hp1', hc1⟩ := rdm (hS.rd 2 rfl) hx
        obtain ⟨p2, hp2', hc2⟩ := rdm (hS.rd 0 rfl) hx2
        have hw3 : IntKind.i64.wrap (((x : Nat) : Int) + ((a.size : Nat) : Int)) = ((x + a.size : Nat) : Int) := by rw [wrap_id (by omega) (by omega)]; omega
        (conv => whnf)
        refine ⟨p2, hp2', by omega, by show ((k : Nat) : Int) < ((L2.length : Nat) : Int); omega, ?_⟩
        (conv => whnf)
        refine ⟨_, by show m7.cell (p2.add (((k : Nat) : Int).toNat * 1)) = _; rw [Int.toNat_natCast, Nat.mul_one]; exact hc2, ?_⟩
        (conv => whnf)
        refine ⟨p1, hp1', by omega, c3, ?_⟩
        (conv => whnf)
        refine ⟨_, by show m7.cell (p1.add (((k : Nat) : Int).toNat * 1)) = _; rw [Int.toNat_natCast, Nat.mul_one]; exact hc1, ?_⟩
        (conv => whnf)
        refine brk_false (by rw [hw3]; simp) ?_
        (conv => whnf)
        exact ⟨k + 1, le_eq ⟨by show some (AV.v (.int .i64 (IntKind.i64.wrap ((k : Int) + 1)))) = _; rw [step1], rfl, rfl, rfl, trivial⟩ rfl rfl rfl, by omega, by omega⟩
      · (conv => whnf)
        exact ⟨_, hS.kept 3 rfl, rfl, rfl⟩
end Go.Proofs.Ytkkcdfnlmhmheaa
/- Dfa: an automaton with its steps told; DfaKept. -/
namespace Go.Proofs.Ytkkcdfnlmhmheaa
open Go Go.Mv
set_option maxHeartbeats 4000000
set_option maxRecDepth 10000
set_option linter.unusedVariables false
set_option linter.unusedSimpArgs false
attribute [local irreducible] FCalls IntKind.wrap bits Mem.set Mem.setCell Mem.setCells YCalls RunP NextP RunU
/-- An automaton at d of q's instructions: its steps, how often all was given up, how many states, what is known. -/
def dk (q : Prg) (d S F : Nat) (P : Df → Prop) : Asn := fun m => ∃ K x, Sep (Df.parts K d x []) m ∧ x.q.at K ∧ GoodP x.q ∧ Inv K x ∧ x.q.ins = q.ins ∧ x.steps = S ∧ x.flushes = F ∧ P x
theorem au_ins {p q : Prg} (h : p.ins = q.ins) : auOf p = auOf q := by
  show auOf ⟨none, 0, p.ins, 0, 0, false⟩ = auOf ⟨none, 0, q.ins, 0, 0, false⟩
  rw [h]
theorem dk_more {q : Prg} {d S F : Nat} {P : Df → Prop} {m m' : Mem} (h : dk q d S F P m) (hm : m.le m') : dk q d S F P m' := by
  obtain ⟨K, x, h1, h2⟩ := h
  exact ⟨K, x, h1.more hm, h2⟩
theorem dk_at {q : Prg} {d S F : Nat} {P : Df → Prop} {L : List Asn} {m : Mem} (h : Sep L m) (j : Nat) (hj : L[j]? = some (dk q d S F P)) : dk q d S F P m := by
  obtain ⟨m1, h1, h2⟩ := h.get j hj
  exact dk_more h2 h1
theorem dk_weak {q : Prg} {d S F : Nat} {P Q : Df → Prop} {m : Mem} (h : dk q d S F P m) (hPQ : ∀ x, P x → Q x) : dk q d S F Q m := by
  obtain ⟨K, x, h1, h2, h3, h4, h5, h6, h7, h8⟩ := h
  exact ⟨K, x, h1, h2, h3, h4, h5, h6, h7, hPQ x h8⟩
theorem steps_c {m : Mem} {q : Prg} {d S F : Nat} {P : Df → Prop} (h : dk q d S F P m) : FCalls Try.prog 16 [.pointer (some ⟨d, 0, none⟩)] m fun v m' => v = w64 S ∧ m' = m := by
  obtain ⟨K, x, h1, _, _, _, _, rfl, _⟩ := h
  refine fcalls_of_vc (T := tbl) (B := bodies) (pr := []) (DR := dr16) (args := [.v (.pointer (some ⟨d, 0, none⟩))]) tbl_ok bodies_ok mixed Try.func16 rfl (by decide +kernel) (by simp [Try.f16]) rfl ?_
  (conv => whnf)
  refine ⟨_, Sep.cell (L := Df.parts K d x []) h1 0 (i := 10) rfl rfl, ?_⟩
  (conv => whnf)
  exact ⟨rfl, rfl⟩
theorem flushes_c {m : Mem} {q : Prg} {d S F : Nat} {P : Df → Prop} (h : dk q d S F P m) : FCalls Try.prog 17 [.pointer (some ⟨d, 0, none⟩)] m fun v m' => v = w64 F ∧ m' = m := by
  obtain ⟨K, x, h1, _, _, _, _, _, rfl, _⟩ := h
  refine fcalls_of_vc (T := tbl) (B := bodies) (pr := []) (DR := dr17) (args := [.v (.pointer (some ⟨d, 0, none⟩))]) tbl_ok bodies_ok mixed Try.func17 rfl (by decide +kernel) (by simp [Try.f17]) rfl ?_
  (conv => whnf)
  refine ⟨_, Sep.cell (L := Df.parts K d x []) h1 0 (i := 11) rfl rfl, ?_⟩
  (conv => whnf)
  exact ⟨rfl, rfl⟩
theorem states_c {m : Mem} {q : Prg} {d S F : Nat} {P : Df → Prop} (h : dk q d S F P m) : FCalls Try.prog 19 [.pointer (some ⟨d, 0, none⟩)] m fun v m' => (∃ n : Nat, v = .int .i64 ((n : Nat) : Int) ∧ ∃ x : Df, P x ∧ ((n : Nat) : Int) ≤ x.room ∧ n = x.sts.length) ∧ m' = m := by
  obtain ⟨K, x, h1, _, _, hv, _, _, _, hP⟩ := h
  refine fcalls_of_vc (T := tbl) (B := bodies) (pr := []) (DR := dr19) (args := [.v (.pointer (some ⟨d, 0, none⟩))]) tbl_ok bodies_ok mixed Try.func19 rfl (by decide +kernel) (by simp [Try.f19]) rfl ?_
  (conv => whnf)
  refine ⟨_, _, _, Sep.cell (L := Df.parts K d x []) h1 0 (i := 5) rfl rfl, ?_⟩
  (conv => whnf)
  exact ⟨⟨x.sts.length, rfl, x, hP, hv.len, rfl⟩, rfl⟩
theorem new_k {m : Mem} {R : List Asn} {q : Prg} {room : Int} (hS : Sep R m) (hq : q.at m) (hr : refusedF q room = 0) : FCalls Try.prog 10 [q.val, .int .i64 room] m fun v m' => ∃ d, v = .tuple #[.pointer (some ⟨d, 0, none⟩), .int .i64 0] ∧ Sep (dk q d 0 0 (fun x => x.room = room ∧ x.sts = []) :: R) m' :=
  (new_ok hS hq hr).mono fun v m' ⟨d, K, x, h1, h2, h3, h4, h5, h6⟩ => by
    refine ⟨d, h1, ?_⟩
    obtain ⟨m1, m2, k1, k2, k3, k4, k5⟩ := Sep.group (L := Df.parts K d x []) (R := R) h2
    exact ⟨m1, m2, k1, k2, k3, ⟨K, x, k4, h3, h4, h5, h6.ins, h6.steps, h6.flushes, h6.room, h6.sts⟩, k5⟩
/-- What a call does to the counts. -/
structure Ran (n S F S' F' len : Nat) (kn : Prop) : Prop where
  s0 : S ≤ S'
  s1 : S' ≤ S + 2 * n + len * (3 * n + 1)
  f0 : F ≤ F'
  f1 : F' ≤ F + 2 * (len + 1)
  hit : kn → F' = F ∧ S' ≤ S + len
theorem Ran.all {n S F S' F' len : Nat} {kn : Prop} (h : Ran n S F S' F' len kn) (hn : 0 < n) : S' ≤ S + 8 * n * (len + 1) := by
  have h1 := h.s1
  have h2 : len * (3 * n + 1) ≤ len * (8 * n) := Nat.mul_le_mul_left _ (by omega)
  have h3 : 8 * n * (len + 1) = len * (8 * n) + 8 * n := by rw [Nat.mul_add, Nat.mul_one, Nat.mul_comm]
  omega
theorem run_l {m : Mem} {q : Prg} {d S F at0 : Nat} {P : Df → Prop} {line : ByteArray} (h : dk q d S F P m) (hat : at0 ≤ line.size) (hls : line.size < 1099511627776) :
    FCalls Try.prog 12 [.pointer (some ⟨d, 0, none⟩), .string line, .int .i64 ((at0 : Nat) : Int)] m fun v m' => ∃ S' F', v = .tuple #[.int .i64 (lastI (lst (auOf q) false line at0)), .bool (!(lst (auOf q) false line at0).isEmpty), .int .i64 0] ∧ dk q d S' F' (fun x => (∃ x0, P x0 ∧ x.room = x0.room) ∧ (F' = F → Known false (((at0 : Nat) : Int) == 0) false x (bytesOf line at0))) m' ∧ Ran q.ins.length S F S' F' (line.size - at0) (∀ x, P x → Known false (((at0 : Nat) : Int) == 0) false x (bytesOf line at0)) := by
  obtain ⟨K, x, h1, hq, hg, hv, hi, rfl, rfl, hP⟩ := h
  refine (l_ok h1 hq hg hv hat hls).mono ?_
  rintro v m' ⟨K', x', T, rfl, hK, h2, hv', hPl⟩
  have hT : T = lst (auOf x.q) false line at0 := hPl.told
  rw [au_ins hi] at hT
  subst hT
  refine ⟨x'.steps, x'.flushes, rfl, ⟨K', x', h2, hPl.q ▸ hq.more hK, hPl.q ▸ hg, hv', by rw [hPl.q]; exact hi, rfl, rfl, ⟨x, hP, hPl.room⟩, fun he => (hPl.kept he).2⟩, ?_⟩
  have hl : (bytesOf line at0).length = line.size - at0 := bytes_len
  refine ⟨hPl.st0, ?_, hPl.fl, ?_, fun hk => ?_⟩
  · have := hPl.st1
    rw [hl, hi] at this
    exact this
  · have := hPl.fl1
    rw [hl] at this
    exact this
  · have := hPl.hit (hk x hP)
    rw [hl] at this
    exact this
theorem run_a {m : Mem} {q : Prg} {d S F at0 : Nat} {P : Df → Prop} {line : ByteArray} (h : dk q d S F P m) (hat : at0 ≤ line.size) (hls : line.size < 1099511627776) :
    FCalls Try.prog 13 [.pointer (some ⟨d, 0, none⟩), .string line, .int .i64 ((at0 : Nat) : Int)] m fun v m' => ∃ S' F', v = .tuple #[.int .i64 (lastI ((lst (auOf q) true line at0).take 1)), .bool (!((lst (auOf q) true line at0).take 1).isEmpty), .int .i64 0] ∧ dk q d S' F' (fun x => (∃ x0, P x0 ∧ x.room = x0.room) ∧ (F' = F → Known true (((at0 : Nat) : Int) == 0) true x (bytesOf line at0))) m' ∧ Ran q.ins.length S F S' F' (line.size - at0) (∀ x, P x → Known true (((at0 : Nat) : Int) == 0) true x (bytesOf line at0)) := by
  obtain ⟨K, x, h1, hq, hg, hv, hi, rfl, rfl, hP⟩ := h
  refine (a_ok h1 hq hg hv hat hls).mono ?_
  rintro v m' ⟨K', x', T, rfl, hK, h2, hv', hPl⟩
  have hT : T = (lst (auOf x.q) true line at0).take 1 := hPl.told
  rw [au_ins hi] at hT
  subst hT
  refine ⟨x'.steps, x'.flushes, rfl, ⟨K', x', h2, hPl.q ▸ hq.more hK, hPl.q ▸ hg, hv', by rw [hPl.q]; exact hi, rfl, rfl, ⟨x, hP, hPl.room⟩, fun he => (hPl.kept he).2⟩, ?_⟩
  have hl : (bytesOf line at0).length = line.size - at0 := bytes_len
  refine ⟨hPl.st0, ?_, hPl.fl, ?_, fun hk => ?_⟩
  · have := hPl.st1
    rw [hl, hi] at this
    exact this
  · have := hPl.fl1
    rw [hl] at this
    exact this
  · have := hPl.hit (hk x hP)
    rw [hl] at this
    exact this
theorem run_e {m : Mem} {q : Prg} {d S F at0 : Nat} {P : Df → Prop} {line : ByteArray} (h : dk q d S F P m) (hat : at0 ≤ line.size) (hls : line.size < 1099511627776) :
    FCalls Try.prog 14 [.pointer (some ⟨d, 0, none⟩), .string line, .int .i64 ((at0 : Nat) : Int)] m fun v m' => ∃ S' F' B c, v = .tuple #[.slice B (lst (auOf q) true line at0).length c, .int .i64 0] ∧ Sep [sl B (lst (auOf q) true line at0).length c 1 (nv (lst (auOf q) true line at0)), dk q d S' F' (fun x => (∃ x0, P x0 ∧ x.room = x0.room) ∧ (F' = F → Known false (((at0 : Nat) : Int) == 0) true x (bytesOf line at0)))] m' ∧ Ran q.ins.length S F S' F' (line.size - at0) (∀ x, P x → Known false (((at0 : Nat) : Int) == 0) true x (bytesOf line at0)) := by
  obtain ⟨K, x, h1, hq, hg, hv, hi, rfl, rfl, hP⟩ := h
  refine (e_ok h1 hq hg hv hat hls).mono ?_
  rintro v m' ⟨K', x', T, ⟨B, c, rfl, h2⟩, hK, hv', hPl⟩
  have hT : T = lst (auOf x.q) true line at0 := hPl.told
  rw [au_ins hi] at hT
  subst hT
  obtain ⟨m1, m2, k1, k2, k3, k4, k5⟩ := h2
  refine ⟨x'.steps, x'.flushes, B, c, rfl, ⟨m1, m2, k1, k2, k3, k4, m2, Mem.empty, fun _ => .inr rfl, Mem.le_refl _, fun _ _ h => (by cases h), ⟨K', x', k5, hPl.q ▸ hq.more hK, hPl.q ▸ hg, hv', by rw [hPl.q]; exact hi, rfl, rfl, ⟨x, hP, hPl.room⟩, fun he => (hPl.kept he).2⟩, trivial⟩, ?_⟩
  have hl : (bytesOf line at0).length = line.size - at0 := bytes_len
  refine ⟨hPl.st0, ?_, hPl.fl, ?_, fun hk => ?_⟩
  · have := hPl.st1
    rw [hl, hi] at this
    exact this
  · have := hPl.fl1
    rw [hl] at this
    exact this
  · have := hPl.hit (hk x hP)
    rw [hl] at this
    exact this
end Go.Proofs.Ytkkcdfnlmhmheaa
/- Dfa: DfaKept. -/
namespace Go.Proofs.Ytkkcdfnlmhmheaa
open Go Go.Mv
set_option maxHeartbeats 4000000
set_option maxRecDepth 10000
set_option linter.unusedVariables false
set_option linter.unusedSimpArgs false
theorem wrapI {n : Nat} (h : n < 9223372036854775808) : IntKind.i64.wrap ((n : Nat) : Int) = ((n : Nat) : Int) := wrap_id (by omega) (by omega)
attribute [local irreducible] FCalls IntKind.wrap bits Mem.set Mem.setCell Mem.setCells YCalls RunP NextP RunU
theorem w64_eq {n : Nat} (h : n < 9223372036854775808) : w64 n = .int .i64 ((n : Nat) : Int) := by unfold w64; rw [wrapI h]
/-- What is kept by kind. -/
def KnK (k : Int) (x : Df) (l : List Nat) : Prop := if k = 0 then Known false true false x l else if k = 1 then Known true true true x l else Known false true true x l
theorem knk0 {x : Df} {l : List Nat} : KnK 0 x l ↔ Known false (((0 : Nat) : Int) == 0) false x l := by
  unfold KnK
  rw [if_pos rfl]
  exact Iff.rfl
theorem knk1 {x : Df} {l : List Nat} : KnK 1 x l ↔ Known true (((0 : Nat) : Int) == 0) true x l := by
  unfold KnK
  rw [if_neg (by decide), if_pos rfl]
  exact Iff.rfl
theorem knk2 {x : Df} {l : List Nat} : KnK 2 x l ↔ Known false (((0 : Nat) : Int) == 0) true x l := by
  unfold KnK
  rw [if_neg (by decide), if_neg (by decide)]
  exact Iff.rfl
theorem dfaKept_c {m : Mem} {q : Prg} {room kind times : Int} {line : ByteArray} (hq : q.at m) (h1 : In64 room) (h2 : In64 kind) (h3 : In64 times) (hln : line.size ≤ 1048576) :
    FCalls Try.prog 6 [q.val, .int .i64 room, .string line, .int .i64 kind, .int .i64 times] m fun v m' => v = .bool true ∧ m' = m := by
  refine FCalls.less ?_
  have hp1 := pickI_range (c := room) (n := 99999) (by omega)
  have hp2 := pickI_range (c := kind) (n := 3) (by omega)
  have hp3 := pickI_range (c := times) (n := 13) (by omega)
  have hw1 : IntKind.i64.wrap (2 + pickI room 99999) = 2 + pickI room 99999 := wrap_id (by omega) (by omega)
  refine fcalls_of_vc (T := tbl) (B := bodies) (pr := [99999, 5]) (DR := (100016, 0) :: dr6) (args := [.v q.val, .v (.int .i64 room), .v (.string line), .v (.int .i64 kind), .v (.int .i64 times)]) tbl_ok bodies_ok mixed Try.func6 rfl (by decide +kernel) (by simp [Try.f6]) rfl ?_
  (conv => whnf)
  refine FCalls.mono known_c ?_
  rintro v m' ⟨rfl, rfl⟩
  (conv => whnf)
  refine ⟨?_, ?_⟩
  all_goals
    try refine ⟨?_, True.intro⟩
    (conv => whnf)
    refine FCalls.mono (pick_c h1.1 h1.2 (by omega)) ?_
    rintro v mB ⟨rfl, rfl⟩
    (conv => whnf)
    rcases Classical.em (refusedF q (2 + pickI room 99999) = 0) with hr | hr
    rotate_left
    · refine FCalls.mono (new_bad (q := q) hq (by rw [hw1]; exact hr)) ?_
      rintro v mC ⟨rfl, rfl⟩
      rw [hw1]
      obtain ⟨rf, hrf⟩ : ∃ rf, rf = refusedF q (2 + pickI room 99999) := ⟨_, rfl⟩
      rw [← hrf] at hr ⊢
      (conv => whnf)
      refine brk_true (by simpa using hr) ?_
      (conv => whnf)
      exact ⟨_, Mem.le_refl _, rfl, rfl⟩
    obtain ⟨hg, _, _, _⟩ := refused_good hr
    have hn0 := hg.n0
    have hn1 := hg.n1
    refine FCalls.mono (new_k (q := q) (Sep.init _) hq (by rw [hw1]; exact hr)) ?_
    rintro v m2 ⟨da, rfl, hS⟩
    (conv => whnf)
    intro b14 m3 hb he
    replace hS := hS.new' (l := [.int .i64 0, .string ⟨#[]⟩, .int .i64 0, .bool false]) hb he
    clear hb he
    (conv => whnf)
    refine ⟨hS.rooms 0 (i := 0) rfl (by decide), fun m4 he => ?_⟩
    replace hS := he ▸ hS.putAll 0 (i := 0) [.int .i64 kind, .string line, .int .i64 0, .bool false] rfl
    clear he
    replace hS : Sep [pt b14 [.int .i64 kind, .string line, .int .i64 0, .bool false], dk q da 0 0 (fun x => (-1 : Int) = -1 ∨ KnK (pickI kind 3) x (bytesOf line 0)), kp mB] m4 := Sep.turn hS 1 rfl fun m1 _ h => dk_weak h fun x _ => .inl rfl
    obtain ⟨W, hW⟩ : ∃ W, W = 8 * q.ins.length * (line.size + 1) := ⟨_, rfl⟩
    have hWb : W ≤ 8 * 40000 * 1048577 := by
      rw [hW]
      exact Nat.mul_le_mul (Nat.mul_le_mul_left _ hn1) (by omega)
    (conv => whnf)
    refine loop_keep [2, 4, 5, 12, 14] (Nat × Int × Nat × Nat × Mem) (fun z => [(16, .v (.int .i64 ((z.1 : Nat) : Int))), (15, .v (.int .i64 z.2.1))]) (fun _ => [.cells q.cells]) (fun z => z.2.2.2.2)
      (fun z => z.1 ≤ 13 ∧ Sep [pt b14 [.int .i64 kind, .string line, .int .i64 0, .bool false], dk q da z.2.2.1 z.2.2.2.1 (fun x => z.2.1 = -1 ∨ KnK (pickI kind 3) x (bytesOf line 0)), kp mB] z.2.2.2.2 ∧ z.2.2.1 ≤ z.1 * W ∧ z.2.2.2.1 ≤ z.1 * (2 * (line.size + 1)) ∧ (z.2.1 = -1 ∨ z.2.1 = ((z.2.2.2.1 : Nat) : Int)))
      (fun z => 13 - z.1) (0, -1, 0, 0, m4) ⟨rfl, rfl, trivial⟩ rfl rfl ⟨by omega, hS, Nat.zero_le _, Nat.zero_le _, .inl rfl⟩ ?_
    clear hS
    (conv => whnf)
    refine ⟨rfl, ?_⟩
    rintro ⟨i, qt, S, F, M⟩ ⟨hi, hS, hSb, hFb, hqt⟩
    dsimp only at hi hS hSb hFb hqt
    have hSw : S ≤ 13 * W := Nat.le_trans hSb (Nat.mul_le_mul_right _ hi)
    have hFw : F ≤ 13 * (2 * (line.size + 1)) := Nat.le_trans hFb (Nat.mul_le_mul_right _ hi)
    (conv => whnf)
    refine FCalls.mono (pick_c h3.1 h3.2 (by omega)) ?_
    rintro v mD ⟨rfl, hD⟩
    subst hD
    (conv => whnf)
    refine brk_intro (fun c1 => ?_) (fun c1 => ?_)
    rotate_left
    · (conv => whnf)
      exact ⟨_, hS.kept 2 rfl, rfl, rfl⟩
    have c1 : ((i : Nat) : Int) < pickI times 13 := of_decide_eq_true c1
    have step1 : IntKind.i64.wrap ((i : Int) + 1) = ((i + 1 : Nat) : Int) := wrap_id (by omega) (by omega)
    (conv => whnf)
    refine FCalls.mono (steps_c (dk_at hS 1 rfl)) ?_
    rintro v mE ⟨rfl, hE⟩
    subst hE
    rw [w64_eq (by omega)]
    (conv => whnf)
    refine FCalls.mono (flushes_c (dk_at hS 1 rfl)) ?_
    rintro v mE ⟨rfl, hE⟩
    subst hE
    rw [w64_eq (by omega)]
    (conv => whnf)
    refine join_keep [2, 4, 5, 12, 14, 15, 16, 17, 18] (Mem × Nat × Nat) (fun _ => []) (fun z => z.1) (fun z => Sep [pt b14 [.int .i64 kind, .string line, .int .i64 0, .bool false], dk q da z.2.1 z.2.2 (fun x => z.2.2 = F → KnK (pickI kind 3) x (bytesOf line 0)), kp mB] z.1 ∧ Ran q.ins.length S F z.2.1 z.2.2 line.size (qt = ((F : Nat) : Int))) ?_
    (conv => whnf)
    refine ⟨?_, ?_⟩
    · (conv => whnf)
      refine ⟨_, hS.cell 0 (i := 0) rfl rfl, ?_⟩
      (conv => whnf)
      refine FCalls.mono (pick_c h2.1 h2.2 (by omega)) ?_
      rintro v mE ⟨rfl, hE⟩
      subst hE
      have hkn : qt = ((F : Nat) : Int) → ∀ x, (qt = -1 ∨ KnK (pickI kind 3) x (bytesOf line 0)) → KnK (pickI kind 3) x (bytesOf line 0) := fun h x hx => hx.resolve_left (by omega)
      rcases (show pickI kind 3 = 0 ∨ pickI kind 3 = 1 ∨ pickI kind 3 = 2 by omega) with hk | hk | hk
      all_goals rw [hk] at hS hkn ⊢
      · (conv => whnf)
        refine FCalls.mono (hS.call 1 rfl fun m1 h1 => run_l (at0 := 0) h1 (Nat.zero_le _) (by omega)) ?_
        rintro v m5 ⟨m6, ⟨S', F', rfl, k1, hR⟩, k2⟩
        have h4 := (k2.one k1).move 1 rfl
        (conv => whnf)
        exact ⟨(m5, S', F'), le_eq ⟨rfl, rfl, rfl, rfl, rfl, rfl, rfl, rfl, rfl, trivial⟩ rfl rfl rfl, Sep.turn h4 1 rfl fun m1 _ h => dk_weak h fun x hx he => knk0.2 (hx.2 he), hR.s0, hR.s1, hR.f0, hR.f1, fun h => hR.hit fun x hx => knk0.1 (hkn h x hx)⟩
      · (conv => whnf)
        refine FCalls.mono (hS.call 1 rfl fun m1 h1 => run_a (at0 := 0) h1 (Nat.zero_le _) (by omega)) ?_
        rintro v m5 ⟨m6, ⟨S', F', rfl, k1, hR⟩, k2⟩
        have h4 := (k2.one k1).move 1 rfl
        (conv => whnf)
        exact ⟨(m5, S', F'), le_eq ⟨rfl, rfl, rfl, rfl, rfl, rfl, rfl, rfl, rfl, trivial⟩ rfl rfl rfl, Sep.turn h4 1 rfl fun m1 _ h => dk_weak h fun x hx he => knk1.2 (hx.2 he), hR.s0, hR.s1, hR.f0, hR.f1, fun h => hR.hit fun x hx => knk1.1 (hkn h x hx)⟩
      · (conv => whnf)
        refine FCalls.mono (hS.call 1 rfl fun m1 h1 => run_e (at0 := 0) h1 (Nat.zero_le _) (by omega)) ?_
        rintro v m5 ⟨m6, ⟨S', F', B, c, rfl, k1, hR⟩, k2⟩
        have h4 := ((k2.sep k1).drop 0).move 1 rfl
        (conv => whnf)
        exact ⟨(m5, S', F'), le_eq ⟨rfl, rfl, rfl, rfl, rfl, rfl, rfl, rfl, rfl, trivial⟩ rfl rfl rfl, Sep.turn h4 1 rfl fun m1 _ h => dk_weak h fun x hx he => knk2.2 (hx.2 he), hR.s0, hR.s1, hR.f0, hR.f1, fun h => hR.hit fun x hx => knk2.1 (hkn h x hx)⟩
    · clear hS
      rintro ⟨M2, S', F'⟩ ⟨hS, hR⟩
      dsimp only at hS hR
      have hall := hR.all hn0
      rw [← hW] at hall
      have hs0 := hR.s0
      have hf0 := hR.f0
      have hf1 := hR.f1
      have hnn : IntKind.i64.wrap (((S' : Nat) : Int) - ((S : Nat) : Int)) = ((S' - S : Nat) : Int) := by rw [wrap_id (by omega) (by omega)]; omega
      have hm1 : IntKind.i64.wrap (8 * ((q.ins.length : Nat) : Int)) = ((8 * q.ins.length : Nat) : Int) := by rw [wrap_id (by omega) (by omega)]; omega
      have hm2 : IntKind.i64.wrap (((line.size : Nat) : Int) + 1) = ((line.size + 1 : Nat) : Int) := by rw [wrap_id (by omega) (by omega)]; omega
      have hm3 : IntKind.i64.wrap (((8 * q.ins.length : Nat) : Int) * ((line.size + 1 : Nat) : Int)) = ((W : Nat) : Int) := by rw [← Int.natCast_mul, ← hW, wrap_id (by omega) (by omega)]
      have hm4 : IntKind.i64.wrap (4 * ((line.size + 1 : Nat) : Int)) = ((4 * (line.size + 1) : Nat) : Int) := by rw [wrap_id (by omega) (by omega)]; omega
      have hS2 : S' ≤ (i + 1) * W := by rw [Nat.add_mul, Nat.one_mul]; omega
      have hF2 : F' ≤ (i + 1) * (2 * (line.size + 1)) := by rw [Nat.add_mul, Nat.one_mul]; omega
      (conv => whnf)
      refine FCalls.mono (steps_c (dk_at hS 1 rfl)) ?_
      rintro v mE ⟨rfl, hE⟩
      subst hE
      rw [w64_eq (by omega)]
      (conv => whnf)
      refine brk_true (by rw [hnn, decide_eq_false (by omega)]; rfl) ?_
      (conv => whnf)
      refine brk_true (by rw [hnn, hm1, hm2, hm3, decide_eq_false (by omega)]; rfl) ?_
      (conv => whnf)
      rcases Decidable.em (qt = ((F : Nat) : Int)) with hq1 | hq1
      case' inl =>
        obtain ⟨g1, g2⟩ := hR.hit hq1
        refine brk_true (by rw [hq1]; simp) ?_
        (conv => whnf)
        refine FCalls.mono (flushes_c (dk_at hS 1 rfl)) ?_
        rintro v mE ⟨rfl, hE⟩
        subst hE
        rw [w64_eq (by omega)]
        (conv => whnf)
        refine brk_true (by rw [g1]; simp) ?_
        (conv => whnf)
        refine brk_false (by rw [hnn, hm2, hm4, decide_eq_false (by omega)]; rfl) ?_
        (conv => whnf)
      case' inr =>
        refine brk_false (by simp [hq1]) ?_
        (conv => whnf)
      all_goals
        refine FCalls.mono (flushes_c (dk_at hS 1 rfl)) ?_
        rintro v mE ⟨rfl, hE⟩
        subst hE
        rw [w64_eq (by omega)]
        (conv => whnf)
        refine brk_intro (fun c5 => ?_) (fun c5 => ?_)
        · (conv => whnf)
          exact ⟨(i + 1, -1, S', F', _), le_eq ⟨by show some (AV.v (.int .i64 (IntKind.i64.wrap ((i : Int) + 1)))) = _; rw [step1], rfl, rfl, rfl, rfl, rfl, rfl, trivial⟩ rfl rfl rfl, ⟨by simp only; omega, Sep.turn hS 1 rfl fun m1 _ h => dk_weak h fun x _ => .inl rfl, hS2, hF2, .inl rfl⟩, by simp only; omega⟩
        · have c6 : F' = F := by
            have h9 : (((F' : Nat) : Int) != ((F : Nat) : Int)) = false := c5
            have : ((F' : Nat) : Int) = ((F : Nat) : Int) := by simpa using h9
            omega
          (conv => whnf)
          exact ⟨(i + 1, ((F : Nat) : Int), S', F', _), le_eq ⟨by show some (AV.v (.int .i64 (IntKind.i64.wrap ((i : Int) + 1)))) = _; rw [step1], rfl, rfl, rfl, rfl, rfl, rfl, trivial⟩ rfl rfl rfl, ⟨by simp only; omega, Sep.turn hS 1 rfl fun m1 _ h => dk_weak h fun x hx => .inr (hx c6), hS2, hF2, .inr (by rw [c6])⟩, by simp only; omega⟩
end Go.Proofs.Ytkkcdfnlmhmheaa
/- Dfa: programs and calls as they come in. -/
namespace Go.Proofs.Ytkkcdfnlmhmheaa
open Go Go.Mv
set_option maxHeartbeats 2000000
set_option maxRecDepth 10000
set_option linter.unusedVariables false
abbrev InsT := Int × (Int × (Int × (Int × (Int × (Int × (List Int × Unit))))))
def insF (y : InsT) : List Value := [.int .i64 y.1] ++ ([.int .i64 y.2.1] ++ ([.int .i64 y.2.2.1] ++ ([.int .i64 y.2.2.2.1] ++ ([.int .i64 y.2.2.2.2.1] ++ ([.int .i64 y.2.2.2.2.2.1] ++ (y.2.2.2.2.2.2.1.flatMap (fun n : Int => [Value.int .u64 n]) ++ []))))))
def toIns (y : InsT) : Ins := ⟨y.1, y.2.1, y.2.2.1, y.2.2.2.1, y.2.2.2.2.1, y.2.2.2.2.2.1, y.2.2.2.2.2.2.1.getD 0 0, y.2.2.2.2.2.2.1.getD 1 0, y.2.2.2.2.2.2.1.getD 2 0, y.2.2.2.2.2.2.1.getD 3 0⟩
theorem insF_eq {y : InsT} (h : y.2.2.2.2.2.2.1.length = 4) : insF y = (toIns y).cells := by
  obtain ⟨a, b, c, d, e, f, l, u⟩ := y
  match l, h with
  | [p, q, r, s], _ => rfl
theorem insF_flat : ∀ {l : List InsT}, (∀ y, y ∈ l → y.2.2.2.2.2.2.1.length = 4) → l.flatMap insF = icells (l.map toIns)
  | [], _ => rfl
  | y :: l, h => by
    rw [List.flatMap_cons, insF_eq (h y (by simp)), insF_flat fun z hz => h z (by simp [hz])]
    rfl
abbrev PrgT := (Option Addr × Nat × Nat × List InsT) × (Int × (Int × (Bool × Unit)))
def prgF (z : PrgT) : List Value := [.slice z.1.1 z.1.2.1 z.1.2.2.1] ++ ([.int .i64 z.2.1] ++ ([.int .i64 z.2.2.1] ++ ([.bool z.2.2.2.1] ++ [])))
def toPrg (z : PrgT) : Prg := ⟨z.1.1, z.1.2.2.1, z.1.2.2.2.map toIns, z.2.1, z.2.2.1, z.2.2.2.1⟩
theorem prgF_val {z : PrgT} (h : z.1.2.2.2.length = z.1.2.1) : Value.agg (prgF z).toArray = (toPrg z).val := by
  unfold toPrg Prg.val Prg.cells prgF
  dsimp only
  rw [List.length_map, h]
  rfl
theorem prgF_at {z : PrgT} {m : Mem} (h : Rd m z.1.1 (z.1.2.2.2.flatMap insF)) (hl : ∀ y, y ∈ z.1.2.2.2 → y.2.2.2.2.2.2.1.length = 4) : (toPrg z).at m := by
  rw [insF_flat hl] at h
  exact h
abbrev ClT := Int × (ByteArray × (Int × (Bool × Unit)))
def clF (y : ClT) : List Value := [.int .i64 y.1] ++ ([.string y.2.1] ++ ([.int .i64 y.2.2.1] ++ ([.bool y.2.2.2.1] ++ [])))
def toCl (y : ClT) : Cl := ⟨y.1, y.2.1, y.2.2.1, y.2.2.2.1⟩
theorem clF_flat (l : List ClT) : l.flatMap clF = (l.map toCl).flatMap Cl.cells := by
  induction l with
  | nil => rfl
  | cons y l ih => rw [List.flatMap_cons, ih]; rfl
theorem in64 {a : Int} (h : (Lit.int .i64 a).wf = true) : In64 a := by
  unfold Lit.wf at h
  simp [IntKind.min, IntKind.max, IntKind.signed, IntKind.bits] at h
  unfold In64
  omega
end Go.Proofs.Ytkkcdfnlmhmheaa
/- Dfa: the document's Right, Free; refused; DfaNew. -/
namespace Go.Proofs.Ytkkcdfnlmhmheaa
open Go Go.Mv
set_option maxHeartbeats 2000000
set_option maxRecDepth 10000
set_option linter.unusedVariables false
set_option linter.unusedSimpArgs false
attribute [local irreducible] FCalls IntKind.wrap bits Mem.set Mem.setCell Mem.setCells YCalls RunP NextP RunU
theorem rright_c {m : Mem} {q : Prg} (hq : q.at m) : FCalls Try.prog 32 [q.val] m fun v m' => v = .tuple #[.int .i64 (rightF q).1, .int .i64 (rightF q).2] ∧ m' = m := by
  refine fcalls_of_vc (T := tbl) (B := bodies) (pr := [1]) (DR := dr32) (args := [.v q.val]) tbl_ok bodies_ok mixed Try.func32 rfl (by decide +kernel) (by simp [Try.f32]) rfl ?_
  (conv => whnf)
  refine brk_intro (fun c1 => ?_) (fun c1 => ?_)
  · have c1 : (40000 : Int) < q.ins.length := by simpa using c1
    (conv => whnf)
    refine ⟨?_, rfl⟩
    unfold rightF
    rw [if_pos (by omega)]
    rfl
  have c1 : ¬ (40000 : Int) < q.ins.length := by simpa using c1
  obtain ⟨rf, hrf⟩ : ∃ rf, rf = rightF q := ⟨_, rfl⟩
  rw [← hrf]
  have hbad : q.groups < 0 ∨ 30 < q.groups ∨ q.counters < 0 ∨ 40 < q.counters → rf = (1, 0) := fun h => by
    rw [hrf]
    unfold rightF
    rw [if_neg (by omega), if_pos h]
  have hgood : ¬ (q.groups < 0 ∨ 30 < q.groups ∨ q.counters < 0 ∨ 40 < q.counters) → (q.ins.length = 0 → rf = (60, 0)) ∧ (∀ k, 0 < q.ins.length → wrongF q = some k → rf = (60, (k : Int))) ∧ (0 < q.ins.length → wrongF q = none → rf = (0, 0)) := fun h => by
    rw [hrf]
    unfold rightF
    rw [if_neg (by omega), if_neg h]
    refine ⟨fun h0 => by rw [if_pos h0], fun k h0 h1 => by rw [if_neg (by omega), h1], fun h0 h1 => by rw [if_neg (by omega), h1]⟩
  clear hrf
  (conv => whnf)
  refine brk_intro (fun c2 => ?_) (fun c2 => ?_)
  rotate_left
  · have c2 : q.groups < 0 := by simpa using c2
    rw [hbad (by omega)]
    (conv => whnf)
    exact ⟨rfl, rfl⟩
  have c2 : ¬ q.groups < 0 := by simpa using c2
  (conv => whnf)
  refine brk_intro (fun c3 => ?_) (fun c3 => ?_)
  rotate_left
  · have c3 : 30 < q.groups := by simpa using c3
    rw [hbad (by omega)]
    (conv => whnf)
    exact ⟨rfl, rfl⟩
  have c3 : ¬ 30 < q.groups := by simpa using c3
  (conv => whnf)
  refine brk_intro (fun c4 => ?_) (fun c4 => ?_)
  rotate_left
  · have c4 : q.counters < 0 := by simpa using c4
    rw [hbad (by omega)]
    (conv => whnf)
    exact ⟨rfl, rfl⟩
  have c4 : ¬ q.counters < 0 := by simpa using c4
  (conv => whnf)
  refine brk_intro (fun c5 => ?_) (fun c5 => ?_)
  · have c5 : 40 < q.counters := by simpa using c5
    rw [hbad (by omega)]
    (conv => whnf)
    exact ⟨rfl, rfl⟩
  have c5 : ¬ 40 < q.counters := by simpa using c5
  obtain ⟨g1, g2, g3⟩ := hgood (by omega)
  clear hbad hgood
  (conv => whnf)
  refine loop_keep [1] Nat (fun s => [(4, .v (.int .i64 ((s : Nat) : Int)))]) (fun _ => [.cells q.cells]) (fun _ => m) (fun s => s ≤ q.ins.length ∧ ∀ j, j < s → fineF q j = true) (fun s => q.ins.length - s) 0 ⟨rfl, trivial⟩ rfl rfl ⟨Nat.zero_le _, fun j h => by omega⟩ ?_
  (conv => whnf)
  refine ⟨rfl, ?_⟩
  rintro k ⟨hk, hJ⟩
  (conv => whnf)
  refine brk_intro (fun c7 => ?_) (fun c7 => ?_)
  · have c7 : ((k : Nat) : Int) < ((q.ins.length : Nat) : Int) := of_decide_eq_true c7
    have step1 : IntKind.i64.wrap ((k : Int) + 1) = ((k + 1 : Nat) : Int) := wrap_id (by omega) (by omega)
    obtain ⟨i, hi⟩ : ∃ i, q.ins[k]? = some i := ⟨_, List.getElem?_eq_getElem (by omega)⟩
    (conv => whnf)
    refine FCalls.mono (rfine_c hq hi (by omega)) ?_
    rintro v m' ⟨rfl, rfl⟩
    obtain ⟨b, hb⟩ : ∃ b, b = fineF q k := ⟨_, rfl⟩
    rw [← hb]
    (conv => whnf)
    refine brk_intro (fun c8 => ?_) (fun c8 => ?_)
    · have c8 : b = false := by simpa using c8
      rw [g2 k (by omega) (wrong_some hJ (by omega) (by rw [← hb]; exact c8))]
      (conv => whnf)
      exact ⟨rfl, rfl⟩
    · have c8 : b = true := by simpa using c8
      (conv => whnf)
      refine ⟨k + 1, le_eq ⟨by show some (AV.v (.int .i64 (IntKind.i64.wrap ((k : Int) + 1)))) = _; rw [step1], rfl, trivial⟩ rfl rfl rfl, ⟨by omega, fun j hj => ?_⟩, by omega⟩
      rcases Nat.lt_or_ge j k with h | h
      · exact hJ j h
      · have : j = k := by omega
        rw [this, ← hb, c8]
  · have c7 : ¬ ((k : Nat) : Int) < ((q.ins.length : Nat) : Int) := of_decide_eq_false c7
    (conv => whnf)
    refine brk_intro (fun c6 => ?_) (fun c6 => ?_)
    · have c6 : q.ins.length = 0 := by
        have : ((q.ins.length : Nat) : Int) = 0 := by simpa using c6
        omega
      rw [g1 c6]
      (conv => whnf)
      exact ⟨rfl, rfl⟩
    · have c6 : 0 < q.ins.length := by
        have : ¬ ((q.ins.length : Nat) : Int) = 0 := by simpa using c6
        omega
      rw [g3 c6 (wrong_none fun j hj => hJ j (by omega))]
      (conv => whnf)
      exact ⟨rfl, rfl⟩
theorem rfree_c {m : Mem} {q : Prg} (hq : q.at m) (hn : q.ins.length ≤ 1048576) : FCalls Try.prog 33 [q.val] m fun v m' => v = .bool (freeF q) ∧ m' = m := by
  refine fcalls_of_vc (T := tbl) (B := bodies) (pr := [1]) (DR := dr33) (args := [.v q.val]) tbl_ok bodies_ok mixed Try.func33 rfl (by decide +kernel) (by simp [Try.f33]) rfl ?_
  (conv => whnf)
  refine loop_keep [1] Nat (fun s => [(3, .v (.int .i64 ((s : Nat) : Int)))]) (fun _ => [.cells q.cells]) (fun s => m) (fun s => s ≤ q.ins.length ∧ ∀ (j : Nat) i, j < s → q.ins[j]? = some i → freeI i = true) (fun s => q.ins.length - s) 0 ⟨rfl, trivial⟩ rfl rfl ⟨Nat.zero_le _, fun j i h => (by omega)⟩ ?_
  (conv => whnf)
  refine ⟨rfl, ?_⟩
  rintro k ⟨hk, hJ⟩
  (conv => whnf)
  refine brk_intro (fun c7 => ?_) (fun c7 => ?_)
  · have c7 : ((k : Nat) : Int) < ((q.ins.length : Nat) : Int) := of_decide_eq_true c7
    have step1 : IntKind.i64.wrap ((k : Int) + 1) = ((k + 1 : Nat) : Int) := wrap_id (by omega) (by omega)
    obtain ⟨i, hi⟩ : ∃ i, q.ins[k]? = some i := ⟨_, List.getElem?_eq_getElem (by omega)⟩
    obtain ⟨p, hp, hc⟩ := ins_at hq hi
    have hno : freeI i = false → freeF q = false := fun h => by
      cases hf : freeF q with
      | false => rfl
      | true =>
        unfold freeF at hf
        rw [List.all_eq_true] at hf
        rw [hf i (List.mem_of_getElem? hi)] at h
        cases h
    have hI : freeI i = !(i.op == 8 || i.op == 9 || i.op == 10) := by
      unfold freeI
      by_cases h8 : i.op = 8
      · simp [h8]
      · by_cases h9 : i.op = 9
        · simp [h9]
        · by_cases h10 : i.op = 10 <;> simp [h8, h9, h10]
    (conv => whnf)
    refine ⟨p, hp, by omega, by omega, ?_⟩
    (conv => whnf)
    refine ⟨_, hc 0 _ rfl, ?_⟩
    (conv => whnf)
    obtain ⟨f, hf⟩ : ∃ f, f = freeF q := ⟨_, rfl⟩
    rw [← hf] at hno ⊢
    clear hf
    have bad : freeI i = false → Value.bool false = .bool f := fun h => by rw [hno h]
    have good : freeI i = true → ∀ (j : Nat) i', j < k + 1 → q.ins[j]? = some i' → freeI i' = true := fun h j i' hj hi' => by
      rcases Nat.lt_or_ge j k with hlt | hge
      · exact hJ j i' hlt hi'
      · have : j = k := by omega
        rw [this, hi] at hi'
        cases hi'
        exact h
    rcases Decidable.em (i.op = 8) with c8 | c8
    · refine brk_false (by simp [c8]) ?_
      (conv => whnf)
      exact ⟨bad (by rw [hI, c8]; rfl), rfl⟩
    refine brk_true (by simp [c8]) ?_
    (conv => whnf)
    rcases Decidable.em (i.op = 9) with c9 | c9
    · refine brk_false (by simp [c9]) ?_
      (conv => whnf)
      exact ⟨bad (by rw [hI, c9]; rfl), rfl⟩
    refine brk_true (by simp [c8, c9]) ?_
    (conv => whnf)
    rcases Decidable.em (i.op = 10) with c10 | c10
    · refine brk_true (by simp [c10]) ?_
      (conv => whnf)
      exact ⟨bad (by rw [hI, c10]; rfl), rfl⟩
    · refine brk_false (by simp [c8, c9, c10]) ?_
      (conv => whnf)
      exact ⟨k + 1, le_eq ⟨by show some (AV.v (.int .i64 (IntKind.i64.wrap ((k : Int) + 1)))) = _; rw [step1], rfl, trivial⟩ rfl rfl rfl, ⟨by omega, good (by rw [hI]; simp [c8, c9, c10])⟩, by omega⟩
  · have c7 : ¬ ((k : Nat) : Int) < ((q.ins.length : Nat) : Int) := of_decide_eq_false c7
    have hf : freeF q = true := all_take fun j i hi => hJ j i (by have := (List.getElem?_eq_some_iff.1 hi).1; omega) hi
    rw [hf]
    (conv => whnf)
    exact ⟨rfl, rfl⟩
theorem refused_c {m : Mem} {q : Prg} {room : Int} (hq : q.at m) : FCalls Try.prog 18 [q.val, .int .i64 room] m fun v m' => v = .int .i64 (refusedF q room) ∧ m' = m := by
  refine fcalls_of_vc (T := tbl) (B := bodies) (pr := [2]) (DR := dr18) (args := [.v q.val, .v (.int .i64 room)]) tbl_ok bodies_ok mixed Try.func18 rfl (by decide +kernel) (by simp [Try.f18]) rfl ?_
  (conv => whnf)
  refine FCalls.mono (rright_c hq) ?_
  rintro v m' ⟨rfl, rfl⟩
  obtain ⟨rc, hrc⟩ : ∃ rc, rc = (rightF q).1 := ⟨_, rfl⟩
  rw [← hrc]
  have hF : refusedF q room = if rc ≠ 0 then rc else if freeF q = false then 51 else if room < 2 ∨ 100000 < room then 1 else 0 := by rw [hrc]; rfl
  rw [hF]
  (conv => whnf)
  refine brk_intro (fun c1 => ?_) (fun c1 => ?_)
  · have c1 : rc ≠ 0 := by simpa using c1
    rw [if_pos c1]
    (conv => whnf)
    exact ⟨rfl, rfl⟩
  have c1 : rc = 0 := by simpa using c1
  rw [if_neg (by simp [c1])]
  (conv => whnf)
  refine FCalls.mono (rfree_c hq (by have := right_n (q := q) (by rw [← hrc]; exact c1); omega)) ?_
  rintro v m1 ⟨rfl, rfl⟩
  (conv => whnf)
  refine brk_intro (fun c2 => ?_) (fun c2 => ?_)
  · have c2 : freeF q = false := by simpa using c2
    rw [if_pos c2]
    (conv => whnf)
    exact ⟨rfl, rfl⟩
  have c2 : freeF q = true := by simpa using c2
  rw [if_neg (by simp [c2])]
  (conv => whnf)
  by_cases h4 : room < 2
  · rw [if_pos (.inl h4)]
    refine brk_false (by rw [decide_eq_true h4]; rfl) ?_
    (conv => whnf)
    exact ⟨rfl, rfl⟩
  · refine brk_true (by rw [decide_eq_false h4]; rfl) ?_
    (conv => whnf)
    by_cases h5 : 100000 < room
    · rw [if_pos (.inr h5)]
      refine brk_true (by show (bif false then true else decide (room > 100000)) = true; rw [decide_eq_true (show room > 100000 by omega)]; rfl) ?_
      (conv => whnf)
      exact ⟨rfl, rfl⟩
    · rw [if_neg (by omega)]
      refine brk_false (by show (bif false then true else decide (room > 100000)) = false; rw [decide_eq_false (show ¬ room > 100000 by omega)]; rfl) ?_
      (conv => whnf)
      exact ⟨rfl, rfl⟩
theorem zero64 : w64 0 = .int .i64 0 := by
  unfold w64
  rw [wrap_id (by omega) (by omega)]
  rfl
theorem dfaNew_c {m : Mem} {q : Prg} {room : Int} (hq : q.at m) : FCalls Try.prog 7 [q.val, .int .i64 room] m fun v m' => v = .bool true ∧ m' = m := by
  refine FCalls.less ?_
  refine fcalls_of_vc (T := tbl) (B := bodies) (pr := [99999, 2]) (DR := dr7) (args := [.v q.val, .v (.int .i64 room)]) tbl_ok bodies_ok mixed Try.func7 rfl (by decide +kernel) (by simp [Try.f7]) rfl ?_
  (conv => whnf)
  refine FCalls.mono known_c ?_
  rintro v mB ⟨rfl, rfl⟩
  (conv => whnf)
  rcases Classical.em (refusedF q room = 0) with hr | hr
  · refine FCalls.mono (new_k (q := q) (Sep.init _) hq hr) ?_
    rintro v m2 ⟨d, rfl, hS⟩
    (conv => whnf)
    refine FCalls.mono (refused_c (hq.more (hS.kept 1 rfl))) ?_
    rintro v m3 ⟨rfl, rfl⟩
    rw [hr]
    (conv => whnf)
    refine FCalls.mono (states_c (dk_at hS 0 rfl)) ?_
    rintro v m3 ⟨⟨n, rfl, x, hx, _, hn⟩, rfl⟩
    obtain rfl : n = 0 := by rw [hn, hx.2]; rfl
    (conv => whnf)
    refine FCalls.mono (flushes_c (dk_at hS 0 rfl)) ?_
    rintro v m3 ⟨rfl, rfl⟩
    rw [zero64]
    (conv => whnf)
    refine FCalls.mono (steps_c (dk_at hS 0 rfl)) ?_
    rintro v m3 ⟨rfl, rfl⟩
    rw [zero64]
    (conv => whnf)
    exact ⟨_, hS.kept 1 rfl, rfl, rfl⟩
  · refine FCalls.mono (new_bad (q := q) hq hr) ?_
    rintro v m' ⟨rfl, rfl⟩
    (conv => whnf)
    refine FCalls.mono (refused_c hq) ?_
    rintro v m3 ⟨rfl, rfl⟩
    obtain ⟨rf, hrf⟩ : ∃ rf, rf = refusedF q room := ⟨_, rfl⟩
    rw [← hrf] at hr ⊢
    (conv => whnf)
    refine brk_true (by simpa using hr) ?_
    (conv => whnf)
    exact ⟨_, Mem.le_refl _, by simp [single], rfl⟩
end Go.Proofs.Ytkkcdfnlmhmheaa
/- Dfa: the document's Times, Dfa, In, step. -/
namespace Go.Proofs.Ytkkcdfnlmhmheaa
open Go Go.Mv
set_option maxHeartbeats 4000000
set_option maxRecDepth 10000
set_option linter.unusedVariables false
set_option linter.unusedSimpArgs false
/-- While step runs. -/
structure Cs (A : Au) (f l : Bool) (S : List Nat) (set t : List Nat) : Prop where
  on : ∀ x, x ∈ set → ∀ y, y ∈ A.sc f l x → y ∈ set ∨ y ∈ t
  from' : ∀ x, x ∈ set ∨ x ∈ t → Rch A f l S x
  all : ∀ x, x ∈ S → x ∈ set ∨ x ∈ t
  lt : ∀ x, x ∈ t → x < A.n
  lts : ∀ x, x ∈ set → x < A.n
  nd : set.Nodup
  many : t.length ≤ S.length + set.length
theorem Cs.init {A : Au} {f l : Bool} {S : List Nat} (hk : ∀ x, x ∈ S → x < A.n) : Cs A f l S [] S :=
  ⟨fun x hx => (by cases hx), fun x hx => .base (hx.resolve_left (by simp)), fun x hx => .inr hx, hk, fun x hx => (by cases hx), List.nodup_nil, by simp⟩
theorem Cs.skip {A : Au} {f l : Bool} {S set t : List Nat} {x : Nat} (h : Cs A f l S set (t ++ [x])) (hx : x ∈ set) : Cs A f l S set t := by
  have hi : ∀ y, y ∈ set ∨ y ∈ t ++ [x] → y ∈ set ∨ y ∈ t := fun y hy => by
    rcases hy with hy | hy
    · exact .inl hy
    · rw [List.mem_append, List.mem_singleton] at hy
      rcases hy with hy | rfl
      · exact .inr hy
      · exact .inl hx
  refine ⟨fun a ha y hy => hi _ (h.on a ha y hy), fun a ha => h.from' a (ha.imp id fun h => List.mem_append_left _ h), fun a ha => hi _ (h.all a ha), fun a ha => h.lt a (List.mem_append_left _ ha), h.lts, h.nd, ?_⟩
  have := h.many
  rw [List.length_append] at this
  simp at this
  omega
theorem Cs.put {A : Au} {f l : Bool} {S set t : List Nat} {x : Nat} (h : Cs A f l S set (t ++ [x])) (hn : x ∉ set) (hs : ∀ y, y ∈ A.sc f l x → y < A.n) (h2 : (A.sc f l x).length ≤ 2) : Cs A f l S (set ++ [x]) (t ++ A.sc f l x) := by
  have hx := h.from' x (.inr (by simp))
  have hi : ∀ y, y ∈ set ∨ y ∈ t ++ [x] → y ∈ set ++ [x] ∨ y ∈ t ++ A.sc f l x := fun y hy => by
    simp only [List.mem_append, List.mem_singleton] at hy ⊢
    rcases hy with hy | hy | hy
    · exact .inl (.inl hy)
    · exact .inr (.inl hy)
    · exact .inl (.inr hy)
  refine ⟨fun a ha y hy => ?_, fun a ha => ?_, fun a ha => hi _ (h.all a ha), fun a ha => ?_, fun a ha => ?_, ?_, ?_⟩
  · rcases List.mem_append.1 ha with ha | ha
    · exact hi _ (h.on a ha y hy)
    · rw [List.mem_singleton] at ha
      subst ha
      exact .inr (List.mem_append_right _ hy)
  · simp only [List.mem_append, List.mem_singleton] at ha
    rcases ha with (ha | rfl) | ha | ha
    · exact h.from' a (.inl ha)
    · exact hx
    · exact h.from' a (.inr (List.mem_append_left _ ha))
    · exact .step hx ha
  · rcases List.mem_append.1 ha with ha | ha
    · exact h.lt a (List.mem_append_left _ ha)
    · exact hs a ha
  · rcases List.mem_append.1 ha with ha | ha
    · exact h.lts a ha
    · rw [List.mem_singleton] at ha
      rw [ha]
      exact h.lt x (by simp)
  · rw [List.nodup_append]
    refine ⟨h.nd, by simp, fun a ha b hb => ?_⟩
    rw [List.mem_singleton] at hb
    rintro rfl
    exact hn (hb ▸ ha)
  · have := h.many
    simp only [List.length_append, List.length_singleton] at this ⊢
    omega
theorem Cs.done {A : Au} {f l : Bool} {S set : List Nat} (h : Cs A f l S set []) (x : Nat) : x ∈ set ↔ Rch A f l S x := by
  refine ⟨fun hx => h.from' x (.inl hx), fun hx => ?_⟩
  induction hx with
  | base hx => exact (h.all _ hx).resolve_right (by simp)
  | step _ hj ih => exact (h.on _ ih _ hj).resolve_right (by simp)
theorem Cs.len {A : Au} {f l : Bool} {S set t : List Nat} (h : Cs A f l S set t) : set.length ≤ A.n := by
  have := h.nd.length_le_of_subset (l₂ := List.range A.n) fun x hx => List.mem_range.2 (h.lts x hx)
  rwa [List.length_range] at this
def seenL (n : Nat) (out : List Nat) : List Value := (List.range n).map fun k => Value.bool (decide (k ∈ out))
theorem seenL_len {n : Nat} {out : List Nat} : (seenL n out).length = n := by simp [seenL]
theorem seenL_get {n x : Nat} {out : List Nat} (h : x < n) : (seenL n out)[x]? = some (.bool (decide (x ∈ out))) := by simp [seenL, h]
theorem seenL_put {n x : Nat} {out : List Nat} : (seenL n out).set x (.bool true) = seenL n (out ++ [x]) := by
  apply List.ext_getElem?
  intro k
  rcases Nat.lt_or_ge k n with h | h
  · rw [seenL_get h]
    by_cases hk : x = k
    · subst hk
      rw [List.getElem?_set_self (by rw [seenL_len]; exact h)]
      simp
    · rw [List.getElem?_set_ne hk, seenL_get h]
      have : k ∈ out ↔ k ∈ out ++ [x] := by simp [Ne.symm hk]
      simp [Ne.symm hk]
  · rw [List.getElem?_eq_none (by simp [seenL_len]; exact h), List.getElem?_eq_none (by rw [seenL_len]; exact h)]
theorem seenL_new {n : Nat} : boolCells (List.replicate n false) = seenL n [] := by
  apply List.ext_getElem?
  intro k
  rcases Nat.lt_or_ge k n with h | h
  · rw [seenL_get h]
    simp [boolCells, h]
  · rw [List.getElem?_eq_none (by simpa [boolCells] using h), List.getElem?_eq_none (by rw [seenL_len]; exact h)]
theorem free_ops {q : Prg} (hg : GoodP q) (hf : freeF q = true) {k : Nat} {i : Ins} (hi : q.ins[k]? = some i) : i.op = 1 ∨ i.op = 2 ∨ i.op = 3 ∨ i.op = 4 ∨ i.op = 5 ∨ i.op = 6 ∨ i.op = 7 ∨ i.op = 11 := by
  have h1 := hg.ok k (List.getElem?_eq_some_iff.1 hi).1
  have h2 : freeI i = true := by
    unfold freeF at hf
    rw [List.all_eq_true] at hf
    exact hf i (List.mem_of_getElem? hi)
  unfold freeI at h2
  simp at h2
  unfold fineF at h1
  rw [hi] at h1
  simp only at h1
  rcases usesOf_ways i.op with h | h | h | h | h | h | h | h | h | h | h | h
  all_goals first
    | omega
    | (rw [h] at h1; cases h1)
attribute [local irreducible] FCalls IntKind.wrap bits Mem.set Mem.setCell Mem.setCells YCalls RunP NextP RunU
theorem times_c {m : Mem} {a b : Nat} (h : a * b < 4611686018427387904) : FCalls Try.prog 36 [.int .i64 ((a : Nat) : Int), .int .i64 ((b : Nat) : Int)] m fun v m' => v = .int .i64 ((a * b : Nat) : Int) ∧ m' = m := by
  refine fcalls_of_vc (T := tbl) (B := bodies) (pr := []) (DR := dr36) (args := [.v (.int .i64 ((a : Nat) : Int)), .v (.int .i64 ((b : Nat) : Int))]) tbl_ok bodies_ok mixed Try.func36 rfl (by decide +kernel) (by simp [Try.f36]) rfl ?_
  (conv => whnf)
  rcases Nat.eq_zero_or_pos a with ha | ha
  · refine brk_false (by simp [ha]) ?_
    (conv => whnf)
    exact ⟨by rw [ha]; simp [single], rfl⟩
  refine brk_true (by simp; omega) ?_
  (conv => whnf)
  rcases Nat.eq_zero_or_pos b with hb | hb
  · refine brk_true (by simp [hb]) ?_
    (conv => whnf)
    exact ⟨by rw [hb]; simp [single], rfl⟩
  refine brk_false (by simp; omega) ?_
  (conv => whnf)
  refine ⟨by omega, ?_⟩
  (conv => whnf)
  have hq : ((4611686018427387904 : Int).tdiv ((b : Nat) : Int)) = ((4611686018427387904 / b : Nat) : Int) := rfl
  have hle : a ≤ 4611686018427387904 / b := by
    rw [Nat.le_div_iff_mul_le hb]
    omega
  have hwq : IntKind.i64.wrap ((4611686018427387904 / b : Nat) : Int) = ((4611686018427387904 / b : Nat) : Int) := by
    have := Nat.div_le_self 4611686018427387904 b
    exact wrap_id (by omega) (by omega)
  refine brk_false (by rw [hq, hwq, decide_eq_false (by omega)]) ?_
  (conv => whnf)
  refine ⟨?_, rfl⟩
  rw [← Int.natCast_mul, wrap_id (by omega) (by omega)]
  rfl
theorem dfaSteps_c {m : Mem} {q : Prg} {n : Nat} (hq : q.ins.length ≤ 40000) (hn : n ≤ 1048576) : FCalls Try.prog 21 [q.val, .int .i64 ((n : Nat) : Int)] m fun v m' => v = .int .i64 ((8 * q.ins.length * (n + 1) : Nat) : Int) ∧ m' = m := by
  have hb : 8 * q.ins.length * (n + 1) ≤ 8 * 40000 * 1048577 := Nat.mul_le_mul (Nat.mul_le_mul_left _ hq) (by omega)
  refine fcalls_of_vc (T := tbl) (B := bodies) (pr := [2]) (DR := dr21) (args := [.v q.val, .v (.int .i64 ((n : Nat) : Int))]) tbl_ok bodies_ok mixed Try.func21 rfl (by decide +kernel) (by simp [Try.f21]) rfl ?_
  (conv => whnf)
  refine FCalls.mono (times_c (a := 8) (b := q.ins.length) (by omega)) ?_
  rintro v m' ⟨rfl, rfl⟩
  have hw : IntKind.i64.wrap (((n : Nat) : Int) + 1) = ((n + 1 : Nat) : Int) := wrap_id (by omega) (by omega)
  (conv => whnf)
  rw [hw]
  refine FCalls.mono (times_c (a := 8 * q.ins.length) (b := n + 1) (by omega)) ?_
  rintro v m' ⟨rfl, rfl⟩
  (conv => whnf)
  exact ⟨rfl, rfl⟩
theorem in_c {m : Mem} {i : Ins} {c : Nat} (hc : c < 256) (hs : ∀ j, 0 ≤ [i.s0, i.s1, i.s2, i.s3].getD j 0) : FCalls Try.prog 43 [.agg (intCells .u64 [i.s0, i.s1, i.s2, i.s3]).toArray, .int .i64 ((c : Nat) : Int)] m fun v m' => v = .bool (bitOf i c) ∧ m' = m := by
  refine fcalls_of_vc (T := tbl) (B := bodies) (pr := [2]) (DR := dr43) (args := [.ints .u64 [i.s0, i.s1, i.s2, i.s3], .v (.int .i64 ((c : Nat) : Int))]) tbl_ok bodies_ok mixed Try.func43 rfl (by decide +kernel) (by simp [Try.f43]) rfl ?_
  have e6 : IntKind.i64.wrap (((c : Nat) : Int).tdiv 64) = ((c / 64 : Nat) : Int) := by
    rw [show ((c : Nat) : Int).tdiv 64 = ((c / 64 : Nat) : Int) from rfl]
    exact wrap_id (by omega) (by omega)
  have e63 : ((c : Nat) : Int).tmod 64 = ((c % 64 : Nat) : Int) := rfl
  (conv => whnf)
  refine ⟨by omega, ?_⟩
  (conv => whnf)
  refine ⟨by rw [e6]; omega, by rw [e6]; omega, ?_⟩
  (conv => whnf)
  refine ⟨by rw [e6]; show 0 + (((c / 64 : Nat) : Int).toNat) * 1 < 4; omega, ?_⟩
  (conv => whnf)
  refine ⟨by omega, ?_⟩
  (conv => whnf)
  refine ⟨by rw [e63]; omega, ?_⟩
  (conv => whnf)
  refine ⟨by omega, ?_⟩
  (conv => whnf)
  refine ⟨?_, rfl⟩
  show Value.bool ((Int.fdiv ([i.s0, i.s1, i.s2, i.s3].getD (0 + (IntKind.i64.wrap (((c : Nat) : Int).tdiv 64)).toNat * 1) 0) (2 ^ (min (((c : Nat) : Int).tmod 64).toNat IntKind.u64.bits))).tmod 2 == 1) = _
  rw [e6, e63]
  unfold bitOf
  rw [show 0 + ((c / 64 : Nat) : Int).toNat * 1 = c / 64 by omega, show min ((c % 64 : Nat) : Int).toNat IntKind.u64.bits = c % 64 by show min _ 64 = _; omega]
  have h0 := hs (c / 64)
  have h1 : 0 ≤ ([i.s0, i.s1, i.s2, i.s3].getD (c / 64) 0).fdiv (2 ^ (c % 64)) := Int.fdiv_nonneg h0 (by exact Int.le_of_lt (Int.pow_pos (by omega)))
  rw [Int.tmod_eq_emod_of_nonneg h1]
  rfl
end Go.Proofs.Ytkkcdfnlmhmheaa
/- Dfa: the document's step. -/
namespace Go.Proofs.Ytkkcdfnlmhmheaa
open Go Go.Mv
set_option maxHeartbeats 4000000
set_option maxRecDepth 10000
set_option linter.unusedVariables false
set_option linter.unusedSimpArgs false
attribute [local irreducible] FCalls IntKind.wrap bits Mem.set Mem.setCell Mem.setCells YCalls RunP NextP RunU
theorem sl_eq {A : Option Addr} {n k c : Nat} (h : n = k) : some (AV.v (.slice A n c)) = some (AV.v (.slice A k c)) := by rw [h]
theorem zeros_bool (n : Nat) : (zerosOf tbl 4 n).list = seenL n [] := by
  rw [← seenL_new]
  rfl
theorem step_c {m : Mem} {R : List Asn} {q : Prg} {line : ByteArray} {at0 c : Nat} {A : Option Addr} {S : List Nat} (hS : Sep (sl A S.length c 1 (nv S) :: R) m) (hq : ∀ M, Sep R M → q.at M) (hg : GoodP q) (hf : freeF q = true) (hlt : ∀ x, x ∈ S → x < q.ins.length) (hat : at0 ≤ line.size) (hls : line.size < 1099511627776) (hSn : S.length ≤ 100000) :
    FCalls Try.prog 42 [q.val, .string line, .int .i64 ((at0 : Nat) : Int), .slice A S.length c] m fun v m' => ∃ out A' c', v = .slice A' out.length c' ∧ Sep (sl A' out.length c' 1 (nv out) :: R) m' ∧ (∀ x, x ∈ out ↔ Rch (auOf q) (decide (at0 = 0)) (decide (at0 = line.size)) S x) ∧ out.length ≤ q.ins.length := by
  have hn1 := hg.n1
  refine fcalls_of_vc (T := tbl) (B := bodies) (pr := [99999]) (DR := dr42) (args := [.v q.val, .v (.string line), .v (.int .i64 ((at0 : Nat) : Int)), .v (.slice A S.length c)]) tbl_ok bodies_ok mixed Try.func42 rfl (by decide +kernel) (by simp [Try.f42]) rfl ?_
  (conv => whnf)
  intro b4 m1 hb he
  replace hS := hS.new' (l := q.cells) hb he
  clear hb he
  (conv => whnf)
  refine ⟨_, _, _, hS.cell 0 (i := 0) rfl rfl, ?_⟩
  (conv => whnf)
  refine ⟨by omega, by omega, by show ((q.ins.length : Nat) : Int) ≤ 9223372036854775807; omega, by show 1 * ((q.ins.length : Nat) : Int) ≤ 2 ^ 48; omega, fun bs m2 hb he => ?_⟩
  replace hS := hS.new' (l := seenL q.ins.length []) hb (he.trans (by rw [← zeros_bool]; rfl))
  clear hb he
  have hsn : (seenL q.ins.length []).length = q.ins.length * 1 := by rw [seenL_len, Nat.mul_one]
  (conv => whnf)
  refine loop_keep [1, 2, 4, 9] (List Nat × Option Addr × Nat × List Nat × Option Addr × Nat × Mem) (fun s => [(3, .v (.slice s.2.1 s.1.length s.2.2.1)), (10, .v (.slice s.2.2.2.2.1 s.2.2.2.1.length s.2.2.2.2.2.1))]) (fun _ => []) (fun s => s.2.2.2.2.2.2)
    (fun s => Sep (pt bs (seenL q.ins.length s.2.2.2.1) :: pt b4 q.cells :: sl s.2.1 s.1.length s.2.2.1 1 (nv s.1) :: sl s.2.2.2.2.1 s.2.2.2.1.length s.2.2.2.2.2.1 1 (nv s.2.2.2.1) :: R) s.2.2.2.2.2.2 ∧ Cs (auOf q) (decide (at0 = 0)) (decide (at0 = line.size)) S s.2.2.2.1 s.1)
    (fun s => 3 * (q.ins.length - s.2.2.2.1.length) + s.1.length) (S, A, c, [], none, 0, m2) ⟨rfl, rfl, trivial⟩ rfl rfl ⟨((Sep.free (A := sl none 0 0 1 []) hS sl_nil).back (j := 3) (by simp)), Cs.init hlt⟩ ?_
  clear hS
  (conv => whnf)
  refine ⟨rfl, ?_⟩
  rintro ⟨td, A, c, st, B, e, M⟩ ⟨hS, hC⟩
  simp only at hS hC
  have hst := hC.len
  replace hst : st.length ≤ q.ins.length := hst
  (conv => whnf)
  refine brk_intro (fun c1 => ?_) (fun c1 => ?_)
  rotate_left
  · have c1 : td = [] := by
      have : ¬ (0 : Int) < ((td.length : Nat) : Int) := of_decide_eq_false c1
      exact List.length_eq_zero_iff.1 (by omega)
    subst c1
    (conv => whnf)
    exact ⟨st, B, e, rfl, ((hS.drop 0).drop 0).drop 0, hC.done, hst⟩
  have c1 : (0 : Int) < ((td.length : Nat) : Int) := of_decide_eq_true c1
  obtain ⟨t, x, rfl⟩ : ∃ t x, td = t ++ [x] := ⟨_, _, (List.dropLast_concat_getLast (l := td) (by rintro rfl; simp at c1)).symm⟩
  clear c1
  have hx : x < q.ins.length := hC.lt x (by simp)
  have hlt : (t ++ [x]).length = t.length + 1 := by simp
  have hmany : t.length + 1 ≤ S.length + st.length := by
    have := hC.many
    rw [hlt] at this
    exact this
  have e1 : IntKind.i64.wrap (((t ++ [x]).length : Nat) - 1) = ((t.length : Nat) : Int) := by rw [hlt, wrap_id (by omega) (by omega)]; omega
  obtain ⟨p, hp, hcx⟩ := (hS.rd 2 rfl).at (nv_get (l := t ++ [x]) (i := t.length) (x := x) (by simp))
  (conv => whnf)
  refine ⟨p, hp, by show 0 ≤ IntKind.i64.wrap (((t ++ [x]).length : Nat) - 1); rw [e1]; omega, by show IntKind.i64.wrap (((t ++ [x]).length : Nat) - 1) < (((t ++ [x]).length : Nat) : Int); rw [e1]; omega, ?_⟩
  (conv => whnf)
  refine ⟨_, by show M.cell (p.add ((IntKind.i64.wrap (((t ++ [x]).length : Nat) - 1)).toNat * 1)) = _; rw [e1, Int.toNat_natCast, Nat.mul_one]; exact hcx, ?_⟩
  (conv => whnf)
  refine ⟨by omega, by show 0 ≤ IntKind.i64.wrap (((t ++ [x]).length : Nat) - 1); rw [e1]; omega, by show IntKind.i64.wrap (((t ++ [x]).length : Nat) - 1) ≤ ((c : Nat) : Int); rw [e1]; have := (hS.asn 2 rfl).2.1; omega, ?_⟩
  rw [e1, slice_lo0]
  replace hS : Sep (pt bs (seenL q.ins.length st) :: pt b4 q.cells :: sl A t.length c 1 (nv t) :: sl B st.length e 1 (nv st) :: R) M := hS.turn 2 rfl fun m1 _ g => by
    have := sl_cut g (k := t.length) (by omega)
    rw [nv_app, Nat.mul_one, List.take_left' (by simp [nv])] at this
    exact this
  (conv => whnf)
  have hxl : x < (seenL q.ins.length st).length := by rw [seenL_len]; exact hx
  refine ⟨_, rfl, by omega, by show ((x : Nat) : Int) < ((q.ins.length : Nat) : Int); omega, ?_⟩
  (conv => whnf)
  have hax : (⟨bs, 0, none⟩ : Addr).add (((x : Nat) : Int).toNat * 1) = ⟨bs, x, none⟩ := by
    rw [Int.toNat_natCast, Nat.mul_one]
    unfold Addr.add
    split
    · rename_i h
      rw [h]
    · rw [Nat.zero_add]
  refine ⟨_, by show M.cell ((⟨bs, 0, none⟩ : Addr).add (((x : Nat) : Int).toNat * 1)) = _; rw [hax]; exact hS.cell 0 (i := x) rfl (seenL_get hx), ?_⟩
  (conv => whnf)
  refine brk_intro (fun c2 => ?_) (fun c2 => ?_)
  · have hin : x ∈ st := by simpa using c2
    (conv => whnf)
    refine ⟨(t, A, c, st, B, e, M), le_eq ⟨rfl, rfl, rfl, rfl, rfl, rfl, trivial⟩ rfl rfl rfl, ⟨hS, hC.skip hin⟩, by simp⟩
  have hin : x ∉ st := by simpa using c2
  (conv => whnf)
  refine ⟨_, rfl, by omega, by show ((x : Nat) : Int) < ((q.ins.length : Nat) : Int); omega, ?_⟩
  (conv => whnf)
  refine ⟨by show (∃ u, M.cell ((⟨bs, 0, none⟩ : Addr).add (((x : Nat) : Int).toNat * 1)) = some u) ∧ M.fz ((⟨bs, 0, none⟩ : Addr).add (((x : Nat) : Int).toNat * 1)) = false; rw [hax]; exact hS.room 0 (i := x) rfl (seenL_get hx), fun m5 he => ?_⟩
  replace he : m5 = M.setCell ⟨bs, x, none⟩ (.bool true) := he.trans (congrArg (fun a => M.setCell a (.bool true)) hax)
  replace hS := hS.put' 0 (i := x) he rfl
  rw [seenL_put] at hS
  clear he
  replace hS : Sep (pt bs (seenL q.ins.length (st ++ [x])) :: pt b4 q.cells :: sl A t.length c 1 (nv t) :: sl B st.length e 1 (nv st) :: R) m5 := hS
  (conv => whnf)
  intro nb m6 hb he
  replace hS := hS.new' (l := nv [x]) hb he
  have hBn : m6.holds ⟨nb, 0, none⟩ (nv [x]) := (hS.blk 0 rfl).holds fun k v hk => by rw [Nat.zero_add]; exact hk
  clear hb he
  (conv => whnf)
  obtain ⟨ok, hR⟩ := hS.app 4 (T := tbl) (e := 3) (news := nv [x]) (k := 1) (B := some ⟨nb, 0, none⟩) rfl rfl (.inr ⟨_, rfl, hBn⟩) rfl rfl (by show 2 * (st.length + _) * 8 ≤ 2 ^ 48; omega) rfl
  refine ⟨_, _, ok, fun B' e' m7 hr => ?_⟩
  replace hS := (hR _ _ _ hr).drop 0
  clear ok hR hr hBn
  replace hS : Sep (pt bs (seenL q.ins.length (st ++ [x])) :: pt b4 q.cells :: sl A t.length c 1 (nv t) :: sl B' (st ++ [x]).length e' 1 (nv (st ++ [x])) :: R) m7 := by rw [nv_app, List.length_append]; exact hS
  obtain ⟨⟨op, ix, iy, i_n, mn, mx, s0, s1, s2, s3⟩, hi⟩ : ∃ i, q.ins[x]? = some i := ⟨_, List.getElem?_eq_getElem hx⟩
  obtain ⟨pi, hpi, hci⟩ := ins_at (hq _ (((hS.drop 0).drop 0).drop 0 |>.drop 0)) hi
  (conv => whnf)
  refine ⟨_, _, _, hS.cell 1 (i := 0) rfl rfl, ?_⟩
  (conv => whnf)
  refine ⟨pi, hpi, by omega, by show ((x : Nat) : Int) < ((q.ins.length : Nat) : Int); omega, ?_⟩
  (conv => whnf)
  refine ⟨_, hci 0 _ rfl, ?_⟩
  (conv => whnf)
  refine ⟨_, hci 1 _ rfl, ?_⟩
  (conv => whnf)
  refine ⟨_, hci 2 _ rfl, ?_⟩
  (conv => whnf)
  refine ⟨_, hci 3 _ rfl, ?_⟩
  (conv => whnf)
  refine ⟨_, hci 4 _ rfl, ?_⟩
  (conv => whnf)
  refine ⟨_, hci 5 _ rfl, ?_⟩
  (conv => whnf)
  refine ⟨_, hci 6 _ rfl, ?_⟩
  (conv => whnf)
  refine ⟨_, hci 7 _ rfl, ?_⟩
  (conv => whnf)
  refine ⟨_, hci 8 _ rfl, ?_⟩
  (conv => whnf)
  refine ⟨_, hci 9 _ rfl, ?_⟩
  clear hci hpi
  (conv => whnf)
  intro bi m9 hb he
  replace hS := hS.new' (l := (tbl.at 46).zero.list) hb he
  clear hb he
  (conv => whnf)
  refine ⟨hS.rooms 0 (i := 0) rfl (by decide), fun m10 he => ?_⟩
  replace hS : Sep (pt bi (Ins.cells ⟨op, ix, iy, i_n, mn, mx, s0, s1, s2, s3⟩) :: pt bs (seenL q.ins.length (st ++ [x])) :: pt b4 q.cells :: sl A t.length c 1 (nv t) :: sl B' (st ++ [x]).length e' 1 (nv (st ++ [x])) :: R) m10 := he ▸ hS.putAll 0 (i := 0) (Ins.cells ⟨op, ix, iy, i_n, mn, mx, s0, s1, s2, s3⟩) rfl
  clear he
  replace hC := hC.put hin (fun y hy => sc_lt hg hy) sc_two
  obtain ⟨f1, f2, f3⟩ := fine_x (hg.ok x hx) hi
  have hlen : (st ++ [x]).length = st.length + 1 := by simp
  have hst2 : (st ++ [x]).length ≤ q.ins.length := hC.len
  have hsc0 : (auOf q).sc (decide (at0 = 0)) (decide (at0 = line.size)) x = if op = 2 then [ix.toNat, iy.toNat] else if op = 3 then [ix.toNat] else if op = 4 then (if decide (at0 = 0) then [x + 1] else []) else if op = 5 then (if decide (at0 = line.size) then [x + 1] else []) else if op = 6 ∨ op = 7 then [x + 1] else [] := by
    unfold auOf
    simp only [hi]
  have step1 : IntKind.i64.wrap ((x : Int) + 1) = ((x + 1 : Nat) : Int) := wrap_id (by omega) (by omega)
  have ex1 : nv [x + 1] = [.int .i64 (IntKind.i64.wrap ((x : Int) + 1))] := by rw [step1]; rfl
  have hfo := free_ops hg hf hi
  simp only at f1 f2 f3 hfo
  clear hi hg hf
  (conv => whnf)
  refine ⟨_, hS.cell 0 (i := 0) rfl rfl, ?_⟩
  (conv => whnf)
  rcases hfo with rfl | rfl | rfl | rfl | rfl | rfl | rfl | rfl
  · refine FCalls.mono (rof1 (op := 1) (u := ⟨true, false, false, false, false, true⟩) rfl (d := false) rfl) ?_
    rintro v m' ⟨rfl, rfl⟩
    (conv => whnf)
    intro b13 m11 hb he
    replace hS := hS.new' (l := (tbl.at 101).zero.list) hb he
    clear hb he
    (conv => whnf)
    refine ⟨hS.rooms 0 (i := 0) rfl (by decide), fun m12 he => ?_⟩
    replace hS := he ▸ hS.putAll 0 (i := 0) [.bool true, .bool false, .bool false, .bool false, .bool false, .bool true] rfl
    clear he
    (conv => whnf)
    have k0 := hS.cell 1 (i := 0) rfl rfl
    repeat (refine ⟨_, k0, ?_⟩; (conv => whnf))
    replace hsc0 : (auOf q).sc (decide (at0 = 0)) (decide (at0 = line.size)) x = [] := hsc0.trans (by simp)
    have hC2 : Cs (auOf q) (decide (at0 = 0)) (decide (at0 = line.size)) S (st ++ [x]) t := by rw [hsc0, List.append_nil] at hC; exact hC
    exact ⟨(t, A, c, st ++ [x], B', e', _), le_eq ⟨sl_eq (by simp), sl_eq (by simp), rfl, rfl, rfl, rfl, trivial⟩ rfl rfl rfl, ⟨(hS.drop 0).drop 0, hC2⟩, by simp only [List.length_append, List.length_cons, List.length_nil] at hst2 ⊢; omega⟩
  · refine FCalls.mono (rof1 (op := 2) (u := ⟨false, true, true, false, false, false⟩) rfl (d := false) rfl) ?_
    rintro v m' ⟨rfl, rfl⟩
    (conv => whnf)
    intro b13 m11 hb he
    replace hS := hS.new' (l := (tbl.at 101).zero.list) hb he
    clear hb he
    (conv => whnf)
    refine ⟨hS.rooms 0 (i := 0) rfl (by decide), fun m12 he => ?_⟩
    replace hS := he ▸ hS.putAll 0 (i := 0) [.bool false, .bool true, .bool true, .bool false, .bool false, .bool false] rfl
    clear he
    (conv => whnf)
    have k0 := hS.cell 1 (i := 0) rfl rfl
    repeat (refine ⟨_, k0, ?_⟩; (conv => whnf))
    replace hsc0 : (auOf q).sc (decide (at0 = 0)) (decide (at0 = line.size)) x = [ix.toNat, iy.toNat] := hsc0.trans (by simp)
    have ex : nv [ix.toNat] = [.int .i64 ix] := by
      show [Value.int .i64 ((ix.toNat : Nat) : Int)] = _
      rw [Int.toNat_of_nonneg (f1 rfl).1]
    refine ⟨_, hS.cell 0 (i := 5) rfl rfl, ?_⟩
    (conv => whnf)
    refine ⟨_, hS.cell 0 (i := 1) rfl rfl, ?_⟩
    (conv => whnf)
    refine ⟨_, hS.cell 1 (i := 1) rfl rfl, ?_⟩
    (conv => whnf)
    intro nb0 m13 hb he
    replace hS := hS.new' (l := [.int .i64 ix]) hb he
    rw [← ex] at hS
    have hBn : m13.holds ⟨nb0, 0, none⟩ (nv [ix.toNat]) := (hS.blk 0 rfl).holds fun k v hk => by rw [Nat.zero_add]; exact hk
    clear hb he
    (conv => whnf)
    obtain ⟨ok, hR⟩ := hS.app 5 (T := tbl) (e := 3) (news := nv [ix.toNat]) (k := 1) (B := some ⟨nb0, 0, none⟩) rfl rfl (.inr ⟨_, rfl, hBn⟩) rfl rfl (by show 2 * (t.length + _) * 8 ≤ 2 ^ 48; omega) rfl
    refine ⟨_, _, ok, fun A1 c1 m14 hr => ?_⟩
    replace hS := (hR _ _ _ hr).drop 0
    clear ok hR hr hBn
    replace hS : Sep (pt b13 [.bool false, .bool true, .bool true, .bool false, .bool false, .bool false] :: pt bi (Ins.cells ⟨2, ix, iy, i_n, mn, mx, s0, s1, s2, s3⟩) :: pt bs (seenL q.ins.length (st ++ [x])) :: pt b4 q.cells :: sl A1 (t.length + 1) c1 1 (nv (t ++ [ix.toNat])) :: sl B' (st ++ [x]).length e' 1 (nv (st ++ [x])) :: R) m14 := by rw [nv_app]; exact hS
    (conv => whnf)
    refine ⟨_, hS.cell 0 (i := 2) rfl rfl, ?_⟩
    (conv => whnf)
    refine ⟨_, hS.cell 1 (i := 2) rfl rfl, ?_⟩
    clear ex
    have ex : nv [iy.toNat] = [.int .i64 iy] := by
      show [Value.int .i64 ((iy.toNat : Nat) : Int)] = _
      rw [Int.toNat_of_nonneg (f1 rfl).2.2.1]
    have hlt1 : (t ++ [ix.toNat]).length = t.length + 1 := by simp
    (conv => whnf)
    intro nb1 m13 hb he
    replace hS := hS.new' (l := [.int .i64 iy]) hb he
    rw [← ex] at hS
    have hBn : m13.holds ⟨nb1, 0, none⟩ (nv [iy.toNat]) := (hS.blk 0 rfl).holds fun k v hk => by rw [Nat.zero_add]; exact hk
    clear hb he
    (conv => whnf)
    obtain ⟨ok, hR⟩ := hS.app 5 (T := tbl) (e := 3) (news := nv [iy.toNat]) (k := 1) (B := some ⟨nb1, 0, none⟩) rfl rfl (.inr ⟨_, rfl, hBn⟩) rfl rfl (by show 2 * (t.length + 1 + _) * 8 ≤ 2 ^ 48; omega) rfl
    refine ⟨_, _, ok, fun A2 c2 m14 hr => ?_⟩
    replace hS := (hR _ _ _ hr).drop 0
    clear ok hR hr hBn
    replace hS : Sep (pt b13 [.bool false, .bool true, .bool true, .bool false, .bool false, .bool false] :: pt bi (Ins.cells ⟨2, ix, iy, i_n, mn, mx, s0, s1, s2, s3⟩) :: pt bs (seenL q.ins.length (st ++ [x])) :: pt b4 q.cells :: sl A2 (t ++ [ix.toNat] ++ [iy.toNat]).length c2 1 (nv (t ++ [ix.toNat] ++ [iy.toNat])) :: sl B' (st ++ [x]).length e' 1 (nv (st ++ [x])) :: R) m14 := by rw [nv_app, show (t ++ [ix.toNat] ++ [iy.toNat]).length = t.length + 1 + 1 by simp]; exact hS
    (conv => whnf)
    have hC2 : Cs (auOf q) (decide (at0 = 0)) (decide (at0 = line.size)) S (st ++ [x]) (t ++ [ix.toNat] ++ [iy.toNat]) := by rw [hsc0] at hC; rw [List.append_assoc]; exact hC
    exact ⟨(t ++ [ix.toNat] ++ [iy.toNat], A2, c2, st ++ [x], B', e', _), le_eq ⟨sl_eq (by simp), sl_eq (by simp), rfl, rfl, rfl, rfl, trivial⟩ rfl rfl rfl, ⟨(hS.drop 0).drop 0, hC2⟩, by simp only [List.length_append, List.length_cons, List.length_nil] at hst2 ⊢; omega⟩
  · refine FCalls.mono (rof1 (op := 3) (u := ⟨false, true, false, false, false, false⟩) rfl (d := false) rfl) ?_
    rintro v m' ⟨rfl, rfl⟩
    (conv => whnf)
    intro b13 m11 hb he
    replace hS := hS.new' (l := (tbl.at 101).zero.list) hb he
    clear hb he
    (conv => whnf)
    refine ⟨hS.rooms 0 (i := 0) rfl (by decide), fun m12 he => ?_⟩
    replace hS := he ▸ hS.putAll 0 (i := 0) [.bool false, .bool true, .bool false, .bool false, .bool false, .bool false] rfl
    clear he
    (conv => whnf)
    have k0 := hS.cell 1 (i := 0) rfl rfl
    repeat (refine ⟨_, k0, ?_⟩; (conv => whnf))
    replace hsc0 : (auOf q).sc (decide (at0 = 0)) (decide (at0 = line.size)) x = [ix.toNat] := hsc0.trans (by simp)
    have ex : nv [ix.toNat] = [.int .i64 ix] := by
      show [Value.int .i64 ((ix.toNat : Nat) : Int)] = _
      rw [Int.toNat_of_nonneg (f2 rfl).1]
    refine ⟨_, hS.cell 0 (i := 5) rfl rfl, ?_⟩
    (conv => whnf)
    refine ⟨_, hS.cell 0 (i := 1) rfl rfl, ?_⟩
    (conv => whnf)
    refine ⟨_, hS.cell 1 (i := 1) rfl rfl, ?_⟩
    (conv => whnf)
    intro nb0 m13 hb he
    replace hS := hS.new' (l := [.int .i64 ix]) hb he
    rw [← ex] at hS
    have hBn : m13.holds ⟨nb0, 0, none⟩ (nv [ix.toNat]) := (hS.blk 0 rfl).holds fun k v hk => by rw [Nat.zero_add]; exact hk
    clear hb he
    (conv => whnf)
    obtain ⟨ok, hR⟩ := hS.app 5 (T := tbl) (e := 3) (news := nv [ix.toNat]) (k := 1) (B := some ⟨nb0, 0, none⟩) rfl rfl (.inr ⟨_, rfl, hBn⟩) rfl rfl (by show 2 * (t.length + _) * 8 ≤ 2 ^ 48; omega) rfl
    refine ⟨_, _, ok, fun A1 c1 m14 hr => ?_⟩
    replace hS := (hR _ _ _ hr).drop 0
    clear ok hR hr hBn
    replace hS : Sep (pt b13 [.bool false, .bool true, .bool false, .bool false, .bool false, .bool false] :: pt bi (Ins.cells ⟨3, ix, iy, i_n, mn, mx, s0, s1, s2, s3⟩) :: pt bs (seenL q.ins.length (st ++ [x])) :: pt b4 q.cells :: sl A1 (t ++ [ix.toNat]).length c1 1 (nv (t ++ [ix.toNat])) :: sl B' (st ++ [x]).length e' 1 (nv (st ++ [x])) :: R) m14 := by rw [nv_app, List.length_append]; exact hS
    (conv => whnf)
    refine ⟨_, hS.cell 0 (i := 2) rfl rfl, ?_⟩
    (conv => whnf)
    have hC2 : Cs (auOf q) (decide (at0 = 0)) (decide (at0 = line.size)) S (st ++ [x]) (t ++ [ix.toNat]) := by rw [hsc0] at hC; exact hC
    exact ⟨(t ++ [ix.toNat], A1, c1, st ++ [x], B', e', _), le_eq ⟨sl_eq (by simp), sl_eq (by simp), rfl, rfl, rfl, rfl, trivial⟩ rfl rfl rfl, ⟨(hS.drop 0).drop 0, hC2⟩, by simp only [List.length_append, List.length_cons, List.length_nil] at hst2 ⊢; omega⟩
  · refine FCalls.mono (rof1 (op := 4) (u := ⟨false, false, false, false, false, true⟩) rfl (d := false) rfl) ?_
    rintro v m' ⟨rfl, rfl⟩
    (conv => whnf)
    intro b13 m11 hb he
    replace hS := hS.new' (l := (tbl.at 101).zero.list) hb he
    clear hb he
    (conv => whnf)
    refine ⟨hS.rooms 0 (i := 0) rfl (by decide), fun m12 he => ?_⟩
    replace hS := he ▸ hS.putAll 0 (i := 0) [.bool false, .bool false, .bool false, .bool false, .bool false, .bool true] rfl
    clear he
    (conv => whnf)
    have k0 := hS.cell 1 (i := 0) rfl rfl
    repeat (refine ⟨_, k0, ?_⟩; (conv => whnf))
    by_cases hz : at0 = 0
    · replace hsc0 : (auOf q).sc (decide (at0 = 0)) (decide (at0 = line.size)) x = [x + 1] := hsc0.trans (by simp [hz])
      refine brk_true (by simp [hz]) ?_
      (conv => whnf)
      refine ⟨_, k0, ?_⟩
      (conv => whnf)
      have ex := ex1
      refine ⟨_, hS.cell 0 (i := 5) rfl rfl, ?_⟩
      (conv => whnf)
      intro nb0 m13 hb he
      replace hS := hS.new' (l := [.int .i64 (IntKind.i64.wrap ((x : Int) + 1))]) hb he
      rw [← ex] at hS
      have hBn : m13.holds ⟨nb0, 0, none⟩ (nv [x + 1]) := (hS.blk 0 rfl).holds fun k v hk => by rw [Nat.zero_add]; exact hk
      clear hb he
      (conv => whnf)
      obtain ⟨ok, hR⟩ := hS.app 5 (T := tbl) (e := 3) (news := nv [x + 1]) (k := 1) (B := some ⟨nb0, 0, none⟩) rfl rfl (.inr ⟨_, rfl, hBn⟩) rfl rfl (by show 2 * (t.length + _) * 8 ≤ 2 ^ 48; omega) rfl
      refine ⟨_, _, ok, fun A1 c1 m14 hr => ?_⟩
      replace hS := (hR _ _ _ hr).drop 0
      clear ok hR hr hBn
      replace hS : Sep (pt b13 [.bool false, .bool false, .bool false, .bool false, .bool false, .bool true] :: pt bi (Ins.cells ⟨4, ix, iy, i_n, mn, mx, s0, s1, s2, s3⟩) :: pt bs (seenL q.ins.length (st ++ [x])) :: pt b4 q.cells :: sl A1 (t ++ [x + 1]).length c1 1 (nv (t ++ [x + 1])) :: sl B' (st ++ [x]).length e' 1 (nv (st ++ [x])) :: R) m14 := by rw [nv_app, List.length_append]; exact hS
      (conv => whnf)
      refine ⟨_, hS.cell 0 (i := 1) rfl rfl, ?_⟩
      (conv => whnf)
      refine ⟨_, hS.cell 0 (i := 2) rfl rfl, ?_⟩
      (conv => whnf)
      have hC2 : Cs (auOf q) (decide (at0 = 0)) (decide (at0 = line.size)) S (st ++ [x]) (t ++ [x + 1]) := by rw [hsc0] at hC; exact hC
      exact ⟨(t ++ [x + 1], A1, c1, st ++ [x], B', e', _), le_eq ⟨sl_eq (by simp), sl_eq (by simp), rfl, rfl, rfl, rfl, trivial⟩ rfl rfl rfl, ⟨(hS.drop 0).drop 0, hC2⟩, by simp only [List.length_append, List.length_cons, List.length_nil] at hst2 ⊢; omega⟩
    · replace hsc0 : (auOf q).sc (decide (at0 = 0)) (decide (at0 = line.size)) x = [] := hsc0.trans (by simp [hz])
      refine brk_false (by simp; omega) ?_
      (conv => whnf)
      have hC2 : Cs (auOf q) (decide (at0 = 0)) (decide (at0 = line.size)) S (st ++ [x]) t := by rw [hsc0, List.append_nil] at hC; exact hC
      exact ⟨(t, A, c, st ++ [x], B', e', _), le_eq ⟨sl_eq (by simp), sl_eq (by simp), rfl, rfl, rfl, rfl, trivial⟩ rfl rfl rfl, ⟨(hS.drop 0).drop 0, hC2⟩, by simp only [List.length_append, List.length_cons, List.length_nil] at hst2 ⊢; omega⟩
  · refine FCalls.mono (rof1 (op := 5) (u := ⟨false, false, false, false, false, true⟩) rfl (d := false) rfl) ?_
    rintro v m' ⟨rfl, rfl⟩
    (conv => whnf)
    intro b13 m11 hb he
    replace hS := hS.new' (l := (tbl.at 101).zero.list) hb he
    clear hb he
    (conv => whnf)
    refine ⟨hS.rooms 0 (i := 0) rfl (by decide), fun m12 he => ?_⟩
    replace hS := he ▸ hS.putAll 0 (i := 0) [.bool false, .bool false, .bool false, .bool false, .bool false, .bool true] rfl
    clear he
    (conv => whnf)
    have k0 := hS.cell 1 (i := 0) rfl rfl
    repeat (refine ⟨_, k0, ?_⟩; (conv => whnf))
    by_cases hz : at0 = line.size
    · replace hsc0 : (auOf q).sc (decide (at0 = 0)) (decide (at0 = line.size)) x = [x + 1] := hsc0.trans (by simp [hz])
      refine brk_false (by simp [hz]) ?_
      (conv => whnf)
      have ex := ex1
      refine ⟨_, hS.cell 0 (i := 5) rfl rfl, ?_⟩
      (conv => whnf)
      intro nb0 m13 hb he
      replace hS := hS.new' (l := [.int .i64 (IntKind.i64.wrap ((x : Int) + 1))]) hb he
      rw [← ex] at hS
      have hBn : m13.holds ⟨nb0, 0, none⟩ (nv [x + 1]) := (hS.blk 0 rfl).holds fun k v hk => by rw [Nat.zero_add]; exact hk
      clear hb he
      (conv => whnf)
      obtain ⟨ok, hR⟩ := hS.app 5 (T := tbl) (e := 3) (news := nv [x + 1]) (k := 1) (B := some ⟨nb0, 0, none⟩) rfl rfl (.inr ⟨_, rfl, hBn⟩) rfl rfl (by show 2 * (t.length + _) * 8 ≤ 2 ^ 48; omega) rfl
      refine ⟨_, _, ok, fun A1 c1 m14 hr => ?_⟩
      replace hS := (hR _ _ _ hr).drop 0
      clear ok hR hr hBn
      replace hS : Sep (pt b13 [.bool false, .bool false, .bool false, .bool false, .bool false, .bool true] :: pt bi (Ins.cells ⟨5, ix, iy, i_n, mn, mx, s0, s1, s2, s3⟩) :: pt bs (seenL q.ins.length (st ++ [x])) :: pt b4 q.cells :: sl A1 (t ++ [x + 1]).length c1 1 (nv (t ++ [x + 1])) :: sl B' (st ++ [x]).length e' 1 (nv (st ++ [x])) :: R) m14 := by rw [nv_app, List.length_append]; exact hS
      (conv => whnf)
      refine ⟨_, hS.cell 0 (i := 1) rfl rfl, ?_⟩
      (conv => whnf)
      refine ⟨_, hS.cell 0 (i := 2) rfl rfl, ?_⟩
      (conv => whnf)
      have hC2 : Cs (auOf q) (decide (at0 = 0)) (decide (at0 = line.size)) S (st ++ [x]) (t ++ [x + 1]) := by rw [hsc0] at hC; exact hC
      exact ⟨(t ++ [x + 1], A1, c1, st ++ [x], B', e', _), le_eq ⟨sl_eq (by simp), sl_eq (by simp), rfl, rfl, rfl, rfl, trivial⟩ rfl rfl rfl, ⟨(hS.drop 0).drop 0, hC2⟩, by simp only [List.length_append, List.length_cons, List.length_nil] at hst2 ⊢; omega⟩
    · replace hsc0 : (auOf q).sc (decide (at0 = 0)) (decide (at0 = line.size)) x = [] := hsc0.trans (by simp [hz])
      refine brk_true (by simp; omega) ?_
      (conv => whnf)
      have hC2 : Cs (auOf q) (decide (at0 = 0)) (decide (at0 = line.size)) S (st ++ [x]) t := by rw [hsc0, List.append_nil] at hC; exact hC
      exact ⟨(t, A, c, st ++ [x], B', e', _), le_eq ⟨sl_eq (by simp), sl_eq (by simp), rfl, rfl, rfl, rfl, trivial⟩ rfl rfl rfl, ⟨(hS.drop 0).drop 0, hC2⟩, by simp only [List.length_append, List.length_cons, List.length_nil] at hst2 ⊢; omega⟩
  · refine FCalls.mono (rof1 (op := 6) (u := ⟨false, false, false, true, false, true⟩) rfl (d := false) rfl) ?_
    rintro v m' ⟨rfl, rfl⟩
    (conv => whnf)
    intro b13 m11 hb he
    replace hS := hS.new' (l := (tbl.at 101).zero.list) hb he
    clear hb he
    (conv => whnf)
    refine ⟨hS.rooms 0 (i := 0) rfl (by decide), fun m12 he => ?_⟩
    replace hS := he ▸ hS.putAll 0 (i := 0) [.bool false, .bool false, .bool false, .bool true, .bool false, .bool true] rfl
    clear he
    (conv => whnf)
    have k0 := hS.cell 1 (i := 0) rfl rfl
    repeat (refine ⟨_, k0, ?_⟩; (conv => whnf))
    replace hsc0 : (auOf q).sc (decide (at0 = 0)) (decide (at0 = line.size)) x = [x + 1] := hsc0.trans (by simp)
    have ex := ex1
    refine ⟨_, hS.cell 0 (i := 5) rfl rfl, ?_⟩
    (conv => whnf)
    intro nb0 m13 hb he
    replace hS := hS.new' (l := [.int .i64 (IntKind.i64.wrap ((x : Int) + 1))]) hb he
    rw [← ex] at hS
    have hBn : m13.holds ⟨nb0, 0, none⟩ (nv [x + 1]) := (hS.blk 0 rfl).holds fun k v hk => by rw [Nat.zero_add]; exact hk
    clear hb he
    (conv => whnf)
    obtain ⟨ok, hR⟩ := hS.app 5 (T := tbl) (e := 3) (news := nv [x + 1]) (k := 1) (B := some ⟨nb0, 0, none⟩) rfl rfl (.inr ⟨_, rfl, hBn⟩) rfl rfl (by show 2 * (t.length + _) * 8 ≤ 2 ^ 48; omega) rfl
    refine ⟨_, _, ok, fun A1 c1 m14 hr => ?_⟩
    replace hS := (hR _ _ _ hr).drop 0
    clear ok hR hr hBn
    replace hS : Sep (pt b13 [.bool false, .bool false, .bool false, .bool true, .bool false, .bool true] :: pt bi (Ins.cells ⟨6, ix, iy, i_n, mn, mx, s0, s1, s2, s3⟩) :: pt bs (seenL q.ins.length (st ++ [x])) :: pt b4 q.cells :: sl A1 (t ++ [x + 1]).length c1 1 (nv (t ++ [x + 1])) :: sl B' (st ++ [x]).length e' 1 (nv (st ++ [x])) :: R) m14 := by rw [nv_app, List.length_append]; exact hS
    (conv => whnf)
    refine ⟨_, hS.cell 0 (i := 1) rfl rfl, ?_⟩
    (conv => whnf)
    refine ⟨_, hS.cell 0 (i := 2) rfl rfl, ?_⟩
    (conv => whnf)
    have hC2 : Cs (auOf q) (decide (at0 = 0)) (decide (at0 = line.size)) S (st ++ [x]) (t ++ [x + 1]) := by rw [hsc0] at hC; exact hC
    exact ⟨(t ++ [x + 1], A1, c1, st ++ [x], B', e', _), le_eq ⟨sl_eq (by simp), sl_eq (by simp), rfl, rfl, rfl, rfl, trivial⟩ rfl rfl rfl, ⟨(hS.drop 0).drop 0, hC2⟩, by simp only [List.length_append, List.length_cons, List.length_nil] at hst2 ⊢; omega⟩
  · refine FCalls.mono (rof1 (op := 7) (u := ⟨false, false, false, true, false, true⟩) rfl (d := false) rfl) ?_
    rintro v m' ⟨rfl, rfl⟩
    (conv => whnf)
    intro b13 m11 hb he
    replace hS := hS.new' (l := (tbl.at 101).zero.list) hb he
    clear hb he
    (conv => whnf)
    refine ⟨hS.rooms 0 (i := 0) rfl (by decide), fun m12 he => ?_⟩
    replace hS := he ▸ hS.putAll 0 (i := 0) [.bool false, .bool false, .bool false, .bool true, .bool false, .bool true] rfl
    clear he
    (conv => whnf)
    have k0 := hS.cell 1 (i := 0) rfl rfl
    repeat (refine ⟨_, k0, ?_⟩; (conv => whnf))
    replace hsc0 : (auOf q).sc (decide (at0 = 0)) (decide (at0 = line.size)) x = [x + 1] := hsc0.trans (by simp)
    have ex := ex1
    refine ⟨_, hS.cell 0 (i := 5) rfl rfl, ?_⟩
    (conv => whnf)
    intro nb0 m13 hb he
    replace hS := hS.new' (l := [.int .i64 (IntKind.i64.wrap ((x : Int) + 1))]) hb he
    rw [← ex] at hS
    have hBn : m13.holds ⟨nb0, 0, none⟩ (nv [x + 1]) := (hS.blk 0 rfl).holds fun k v hk => by rw [Nat.zero_add]; exact hk
    clear hb he
    (conv => whnf)
    obtain ⟨ok, hR⟩ := hS.app 5 (T := tbl) (e := 3) (news := nv [x + 1]) (k := 1) (B := some ⟨nb0, 0, none⟩) rfl rfl (.inr ⟨_, rfl, hBn⟩) rfl rfl (by show 2 * (t.length + _) * 8 ≤ 2 ^ 48; omega) rfl
    refine ⟨_, _, ok, fun A1 c1 m14 hr => ?_⟩
    replace hS := (hR _ _ _ hr).drop 0
    clear ok hR hr hBn
    replace hS : Sep (pt b13 [.bool false, .bool false, .bool false, .bool true, .bool false, .bool true] :: pt bi (Ins.cells ⟨7, ix, iy, i_n, mn, mx, s0, s1, s2, s3⟩) :: pt bs (seenL q.ins.length (st ++ [x])) :: pt b4 q.cells :: sl A1 (t ++ [x + 1]).length c1 1 (nv (t ++ [x + 1])) :: sl B' (st ++ [x]).length e' 1 (nv (st ++ [x])) :: R) m14 := by rw [nv_app, List.length_append]; exact hS
    (conv => whnf)
    refine ⟨_, hS.cell 0 (i := 1) rfl rfl, ?_⟩
    (conv => whnf)
    refine ⟨_, hS.cell 0 (i := 2) rfl rfl, ?_⟩
    (conv => whnf)
    have hC2 : Cs (auOf q) (decide (at0 = 0)) (decide (at0 = line.size)) S (st ++ [x]) (t ++ [x + 1]) := by rw [hsc0] at hC; exact hC
    exact ⟨(t ++ [x + 1], A1, c1, st ++ [x], B', e', _), le_eq ⟨sl_eq (by simp), sl_eq (by simp), rfl, rfl, rfl, rfl, trivial⟩ rfl rfl rfl, ⟨(hS.drop 0).drop 0, hC2⟩, by simp only [List.length_append, List.length_cons, List.length_nil] at hst2 ⊢; omega⟩
  · refine FCalls.mono (rof1 (op := 11) (u := ⟨false, false, false, false, false, false⟩) rfl (d := false) rfl) ?_
    rintro v m' ⟨rfl, rfl⟩
    (conv => whnf)
    intro b13 m11 hb he
    replace hS := hS.new' (l := (tbl.at 101).zero.list) hb he
    clear hb he
    (conv => whnf)
    refine ⟨hS.rooms 0 (i := 0) rfl (by decide), fun m12 he => ?_⟩
    replace hS := he ▸ hS.putAll 0 (i := 0) [.bool false, .bool false, .bool false, .bool false, .bool false, .bool false] rfl
    clear he
    (conv => whnf)
    have k0 := hS.cell 1 (i := 0) rfl rfl
    repeat (refine ⟨_, k0, ?_⟩; (conv => whnf))
    replace hsc0 : (auOf q).sc (decide (at0 = 0)) (decide (at0 = line.size)) x = [] := hsc0.trans (by simp)
    refine ⟨_, hS.cell 0 (i := 5) rfl rfl, ?_⟩
    (conv => whnf)
    refine ⟨_, hS.cell 0 (i := 1) rfl rfl, ?_⟩
    (conv => whnf)
    refine ⟨_, hS.cell 0 (i := 2) rfl rfl, ?_⟩
    (conv => whnf)
    have hC2 : Cs (auOf q) (decide (at0 = 0)) (decide (at0 = line.size)) S (st ++ [x]) t := by rw [hsc0, List.append_nil] at hC; exact hC
    exact ⟨(t, A, c, st ++ [x], B', e', _), le_eq ⟨sl_eq (by simp), sl_eq (by simp), rfl, rfl, rfl, rfl, trivial⟩ rfl rfl rfl, ⟨(hS.drop 0).drop 0, hC2⟩, by simp only [List.length_append, List.length_cons, List.length_nil] at hst2 ⊢; omega⟩
end Go.Proofs.Ytkkcdfnlmhmheaa
/- Dfa: the document's Anywhere. -/
namespace Go.Proofs.Ytkkcdfnlmhmheaa
open Go Go.Mv
set_option maxHeartbeats 4000000
set_option maxRecDepth 10000
set_option linter.unusedVariables false
set_option linter.unusedSimpArgs false
attribute [local irreducible] FCalls IntKind.wrap bits Mem.set Mem.setCell Mem.setCells YCalls RunP NextP RunU
theorem sta_congr {A : Au} {S T : List Nat} {f a : Bool} (h : ∀ k, k ∈ S ↔ k ∈ T) : sta A S f a = sta A T f a := by
  have hr : ∀ l k, Rch A f l S k ↔ Rch A f l T k := fun l k => ⟨fun hk => hk.mono (fun x hx => .base ((h x).1 hx)) fun x y _ hy => hy, fun hk => hk.mono (fun x hx => .base ((h x).2 hx)) fun x y _ hy => hy⟩
  have h1 : rds A f false S = rds A f false T := by
    unfold rds
    rw [show Rch A f false S = Rch A f false T from funext fun k => propext (hr false k)]
  have h2 : ∀ l, mts A f l S = mts A f l T := fun l => by
    unfold mts
    rw [show Rch A f l S = Rch A f l T from funext fun k => propext (hr l k)]
  unfold sta
  rw [h1, h2, h2]
theorem mts_mono {q : Prg} {f : Bool} {S : List Nat} (h : mts (auOf q) f false S = true) : mts (auOf q) f true S = true := by
  obtain ⟨k, h1, h2⟩ := mts_iff.1 h
  refine mts_iff.2 ⟨k, h1.mono (fun x hx => .base hx) (fun x y _ hy => ?_), h2⟩
  unfold auOf at hy ⊢
  simp only at hy ⊢
  cases hi : q.ins[x]? with
  | none => rw [hi] at hy; exact hy
  | some i =>
    rw [hi] at hy
    simp only at hy ⊢
    by_cases h2 : i.op = 2
    · rw [if_pos h2] at hy ⊢; exact hy
    rw [if_neg h2] at hy ⊢
    by_cases h3 : i.op = 3
    · rw [if_pos h3] at hy ⊢; exact hy
    rw [if_neg h3] at hy ⊢
    by_cases h4 : i.op = 4
    · rw [if_pos h4] at hy ⊢; exact hy
    rw [if_neg h4] at hy ⊢
    by_cases h5 : i.op = 5
    · rw [if_pos h5] at hy; simp at hy
    rw [if_neg h5] at hy ⊢
    exact hy
/-- The next ones, of those in a list. -/
def nxL (b : Nat → Bool) (l : List Nat) : List Nat := (l.filter b).map (· + 1)
theorem nxL_snoc {b : Nat → Bool} {l : List Nat} {x : Nat} : nxL b (l ++ [x]) = nxL b l ++ (if b x then [x + 1] else []) := by
  unfold nxL
  rw [List.filter_append, List.map_append]
  congr 1
  cases h : b x <;> simp [h]
theorem nxL_len {b : Nat → Bool} {l : List Nat} : (nxL b l).length ≤ l.length := by
  unfold nxL
  rw [List.length_map]
  exact List.length_filter_le _ _
/-- One step's place: what is told here, and the next state. -/
theorem any_step {q : Prg} {line : ByteArray} {i : Nat} {N O : List Nat} {f : Bool} (hO : ∀ x, x ∈ O ↔ Rch (auOf q) f (decide (i = line.size)) (N ++ [0]) x) (hlt : ∀ x, x ∈ O → x < q.ins.length) (hi : i ≤ line.size) :
    plays (auOf q) (sta (auOf q) (N ++ [0]) f true) (bytesOf line i) i = (if O.any (auOf q).isM then [i] else []) ++ (if i < line.size then plays (auOf q) (sta (auOf q) (nxL (fun k => (auOf q).isB k && (decide (i < line.size) && (auOf q).hs k (line.data.toList.getD i 0).toNat)) O ++ [0]) false true) (bytesOf line (i + 1)) (i + 1) else []) := by
  have hmt : O.any (auOf q).isM = mts (auOf q) f (decide (i = line.size)) (N ++ [0]) := by
    cases h : mts (auOf q) f (decide (i = line.size)) (N ++ [0]) with
    | true =>
      obtain ⟨k, h1, h2⟩ := mts_iff.1 h
      exact List.any_eq_true.2 ⟨k, (hO k).2 h1, h2⟩
    | false =>
      rw [List.any_eq_false]
      intro k hk hm
      have := mts_iff.2 ⟨k, (hO k).1 hk, hm⟩
      rw [h] at this
      cases this
  rcases Nat.lt_or_ge i line.size with hl | hl
  · rw [decide_eq_false (by omega)] at hmt hO
    have e : ∀ (s : Sta) (c : Nat) (r : List Nat), plays (auOf q) s (c :: r) i = (if s.mt then [i] else []) ++ plays (auOf q) (trs (auOf q) s c) r (i + 1) := fun _ _ _ => rfl
    rw [bytes_at hl, if_pos hl, hmt, e]
    refine congrArg (fun z => (if mts (auOf q) f false (N ++ [0]) = true then [i] else []) ++ plays (auOf q) z (bytesOf line (i + 1)) (i + 1)) ?_
    show sta (auOf q) (aNxt (auOf q) (sta (auOf q) (N ++ [0]) f true) (line.data.toList.getD i 0).toNat) false true = _
    apply sta_congr
    intro k
    unfold aNxt nxL
    simp only [List.mem_append, List.mem_map, List.mem_filter, sta, if_true, mem_rds, Bool.and_eq_true, decide_eq_true_eq]
    constructor
    · rintro (⟨x, ⟨⟨h1, h2, h3⟩, h4⟩, rfl⟩ | h)
      · exact .inl ⟨x, ⟨(hO x).2 h2, h3, hl, h4⟩, rfl⟩
      · exact .inr h
    · rintro (⟨x, ⟨h1, h2, h3, h4⟩, rfl⟩ | h)
      · exact .inl ⟨x, ⟨⟨hlt x h1, (hO x).1 h1, h2⟩, h4⟩, rfl⟩
      · exact .inr h
  · rw [decide_eq_true (by omega)] at hmt
    rw [bytes_end hl, if_neg (show ¬ i < line.size by omega), hmt, List.append_nil]
    show (if (mts (auOf q) f false (N ++ [0]) || mts (auOf q) f true (N ++ [0])) = true then _ else _) = _
    cases h : mts (auOf q) f false (N ++ [0]) with
    | true => rw [mts_mono h]; rfl
    | false => rw [Bool.false_or]
theorem bt_wrap {line : ByteArray} {i : Nat} : IntKind.i64.wrap (bt line ((i : Nat) : Int)) = (((line.data.toList.getD i 0).toNat : Nat) : Int) := by
  have h : bt line ((i : Nat) : Int) = (((line.data.toList.getD i 0).toNat : Nat) : Int) := by
    unfold bt
    rw [Int.toNat_natCast]
  have := UInt8.toNat_lt (line.data.toList.getD i 0)
  rw [h, wrap_id (by omega) (by omega)]
theorem nxL_lt {q : Prg} (hg : GoodP q) {b : Nat → Bool} {O : List Nat} {x : Nat} (hx : x ∈ nxL (fun k => (auOf q).isB k && b k) O) : x < q.ins.length := by
  unfold nxL at hx
  obtain ⟨k, hk, rfl⟩ := List.mem_map.1 hx
  have hb := (List.mem_filter.1 hk).2
  rw [Bool.and_eq_true] at hb
  have hb := hb.1
  unfold auOf at hb
  simp only at hb
  cases hi : q.ins[k]? with
  | none => rw [hi] at hb; cases hb
  | some i =>
    rw [hi] at hb
    have h1 : i.op = 1 := by simpa using hb
    exact (fine_x (hg.ok k (List.getElem?_eq_some_iff.1 hi).1) hi).2.2 (.inl h1)
theorem step_n {m : Mem} {R : List Asn} {q : Prg} {line : ByteArray} {at0 c n : Nat} {A : Option Addr} {S : List Nat} (hS : Sep (sl A n c 1 (nv S) :: R) m) (hn : n = S.length) (hq : ∀ M, Sep R M → q.at M) (hg : GoodP q) (hf : freeF q = true) (hlt : ∀ x, x ∈ S → x < q.ins.length) (hat : at0 ≤ line.size) (hls : line.size < 1099511627776) (hSn : S.length ≤ 100000) :
    FCalls Try.prog 42 [q.val, .string line, .int .i64 ((at0 : Nat) : Int), .slice A n c] m fun v m' => ∃ out A' c', v = .slice A' out.length c' ∧ Sep (sl A' out.length c' 1 (nv out) :: R) m' ∧ (∀ x, x ∈ out ↔ Rch (auOf q) (decide (at0 = 0)) (decide (at0 = line.size)) S x) ∧ out.length ≤ q.ins.length := by
  subst hn
  exact step_c hS hq hg hf hlt hat hls hSn
theorem anywhere_c {m : Mem} {R : List Asn} {q : Prg} {line : ByteArray} {at0 : Nat} (hS : Sep R m) (hq : ∀ M, Sep R M → q.at M) (hg : GoodP q) (hf : freeF q = true) (hU : ∀ i, i ∈ q.ins → ∀ j, 0 ≤ [i.s0, i.s1, i.s2, i.s3].getD j 0) (hat : at0 ≤ line.size) (hls : line.size < 1099511627776) :
    FCalls Try.prog 35 [q.val, .string line, .int .i64 ((at0 : Nat) : Int)] m fun v m' => ∃ A' c', v = .slice A' (plays (auOf q) (sta (auOf q) [0] (decide (at0 = 0)) true) (bytesOf line at0) at0).length c' ∧ Sep (sl A' (plays (auOf q) (sta (auOf q) [0] (decide (at0 = 0)) true) (bytesOf line at0) at0).length c' 1 (nv (plays (auOf q) (sta (auOf q) [0] (decide (at0 = 0)) true) (bytesOf line at0) at0)) :: R) m' := by
  have hn1 := hg.n1
  have hn0 := hg.n0
  generalize hT : plays (auOf q) (sta (auOf q) [0] (decide (at0 = 0)) true) (bytesOf line at0) at0 = T
  refine fcalls_of_vc (T := tbl) (B := bodies) (pr := [99999]) (DR := dr35) (args := [.v q.val, .v (.string line), .v (.int .i64 ((at0 : Nat) : Int))]) tbl_ok bodies_ok mixed Try.func35 rfl (by decide +kernel) (by simp [Try.f35]) rfl ?_
  (conv => whnf)
  intro b3 m1 hb he
  replace hS := hS.new' (l := q.cells) hb he
  clear hb he
  (conv => whnf)
  refine loop_keep [1, 3] (Nat × List Nat × Option Addr × Nat × List Nat × Option Addr × Nat × Mem) (fun s => [(2, .v (.int .i64 ((s.1 : Nat) : Int))), (7, .v (.slice s.2.2.1 s.2.1.length s.2.2.2.1)), (8, .v (.slice s.2.2.2.2.2.1 s.2.2.2.2.1.length s.2.2.2.2.2.2.1))]) (fun _ => []) (fun s => s.2.2.2.2.2.2.2)
    (fun s => Sep (sl s.2.2.2.2.2.1 s.2.2.2.2.1.length s.2.2.2.2.2.2.1 1 (nv s.2.2.2.2.1) :: sl s.2.2.1 s.2.1.length s.2.2.2.1 1 (nv s.2.1) :: pt b3 q.cells :: R) s.2.2.2.2.2.2.2 ∧ s.1 ≤ line.size + 1 ∧ s.2.1.length ≤ s.1 ∧ (∀ x, x ∈ s.2.2.2.2.1 → x < q.ins.length) ∧ s.2.2.2.2.1.length ≤ q.ins.length ∧ T = s.2.1 ++ (if s.1 ≤ line.size then plays (auOf q) (sta (auOf q) (s.2.2.2.2.1 ++ [0]) (decide (s.1 = 0)) true) (bytesOf line s.1) s.1 else []))
    (fun s => line.size + 1 - s.1) (at0, [], none, 0, [], none, 0, m1) ⟨rfl, rfl, rfl, trivial⟩ rfl rfl ⟨Sep.free (A := sl none 0 0 1 []) (Sep.free (A := sl none 0 0 1 []) hS sl_nil) sl_nil, by omega, by simp, fun x hx => (by cases hx), by simp, by rw [if_pos (by exact hat)]; exact hT.symm⟩ ?_
  clear hS hT
  (conv => whnf)
  refine ⟨rfl, ?_⟩
  rintro ⟨i, hits, A, c, N, B, e, M⟩ ⟨hS, hi, hh, hN, hNl, hT⟩
  simp only at hS hi hh hN hNl hT
  (conv => whnf)
  refine brk_intro (fun c1 => ?_) (fun c1 => ?_)
  rotate_left
  · have c1 : ¬ ((i : Nat) : Int) ≤ ((line.size : Nat) : Int) := of_decide_eq_false c1
    rw [if_neg (by omega), List.append_nil] at hT
    subst hT
    (conv => whnf)
    exact ⟨A, c, rfl, (hS.move 1 rfl).drop 2 |>.drop 1⟩
  have c1 : ((i : Nat) : Int) ≤ ((line.size : Nat) : Int) := of_decide_eq_true c1
  have c1 : i ≤ line.size := by omega
  (conv => whnf)
  refine ⟨?_, ?_⟩
  · (conv => whnf)
    refine ⟨_, _, _, hS.cell 2 (i := 0) rfl rfl, ?_⟩
    (conv => whnf)
    refine ⟨_, hS.cell 2 (i := 1) rfl rfl, ?_⟩
    (conv => whnf)
    refine ⟨_, hS.cell 2 (i := 2) rfl rfl, ?_⟩
    (conv => whnf)
    refine ⟨_, hS.cell 2 (i := 3) rfl rfl, ?_⟩
    (conv => whnf)
    intro nb m2 hb he
    replace hS := hS.new' (l := nv [0]) hb he
    clear hb he
    (conv => whnf)
    have hBn : m2.holds ⟨nb, 0, none⟩ (nv [0]) := (hS.blk 0 rfl).holds fun k v hk => by rw [Nat.zero_add]; exact hk
    obtain ⟨ok, hR⟩ := hS.app 1 (T := tbl) (e := 3) (news := nv [0]) (k := 1) (B := some ⟨nb, 0, none⟩) rfl rfl (.inr ⟨_, rfl, hBn⟩) rfl rfl (by show 2 * (N.length + _) * 8 ≤ 2 ^ 48; omega) rfl
    refine ⟨_, _, ok, fun B' e' m3 hr => ?_⟩
    replace hS := (hR _ _ _ hr).drop 0
    clear ok hR hr hBn
    (conv => whnf)
    have hN0 : (N ++ [0]).length = N.length + 1 := by simp
    replace hS : Sep (sl B' (N.length + 1) e' 1 (nv (N ++ [0])) :: sl A hits.length c 1 (nv hits) :: pt b3 q.cells :: R) m3 := by rw [nv_app]; exact hS
    refine FCalls.mono (step_n (S := N ++ [0]) (n := N.length + 1) (R := sl A hits.length c 1 (nv hits) :: pt b3 q.cells :: R) hS hN0.symm (fun M h => hq M ((h.drop 0).drop 0)) hg hf (fun x hx => by
      rcases List.mem_append.1 hx with h | h
      · exact hN x h
      · rw [List.mem_singleton] at h
        omega) c1 hls (by omega)) ?_
    clear hS
    rintro v m4 ⟨O, A5, c5, rfl, hS, hO, hOl⟩
    have hOlt : ∀ x, x ∈ O → x < q.ins.length := fun x hx => rch_lt hg (fun y hy => by
      rcases List.mem_append.1 hy with h | h
      · exact hN y h
      · rw [List.mem_singleton] at h
        omega) ((hO x).1 hx)
    replace hT := hT.trans (by rw [if_pos c1, any_step (line := line) hO hOlt c1])
    clear hN hNl
    (conv => whnf)
    refine loop_keep [1, 2, 3, 7, 8] (Nat × List Nat × Option Addr × Nat × Mem) (fun s => [(11, .v (.int .i64 ((s.1 : Nat) : Int))), (10, .v (.bool ((O.take s.1).any (auOf q).isM))), (9, .v (.slice s.2.2.1 s.2.1.length s.2.2.2.1))]) (fun _ => []) (fun s => s.2.2.2.2)
      (fun s => Sep (sl s.2.2.1 s.2.1.length s.2.2.2.1 1 (nv s.2.1) :: sl A5 O.length c5 1 (nv O) :: sl A hits.length c 1 (nv hits) :: pt b3 q.cells :: R) s.2.2.2.2 ∧ s.1 ≤ O.length ∧ s.2.1 = nxL (fun k => (auOf q).isB k && (decide (i < line.size) && (auOf q).hs k (line.data.toList.getD i 0).toNat)) (O.take s.1))
      (fun s => O.length - s.1) (0, [], none, 0, m4) ⟨rfl, rfl, rfl, trivial⟩ rfl rfl ⟨Sep.free (A := sl none 0 0 1 []) hS sl_nil, by omega, rfl⟩ ?_
    clear hS
    (conv => whnf)
    refine ⟨rfl, ?_⟩
    rintro ⟨j, P, pA, pc, M6⟩ ⟨hS, hj, hP⟩
    simp only at hS hj hP
    (conv => whnf)
    refine brk_intro (fun c2 => ?_) (fun c2 => ?_)
    rotate_left
    · have c2 : ¬ ((j : Nat) : Int) < ((O.length : Nat) : Int) := of_decide_eq_false c2
      have hjO : j = O.length := by omega
      rw [hjO, List.take_length] at hP
      rw [← hP] at hT
      have hPl : P.length ≤ q.ins.length := by rw [hP]; exact Nat.le_trans nxL_len hOl
      have hPn : ∀ x, x ∈ P → x < q.ins.length := fun x hx => by
        rw [hP] at hx
        exact nxL_lt hg hx
      have hT2 : T = (hits ++ (if O.any (auOf q).isM then [i] else [])) ++ (if i + 1 ≤ line.size then plays (auOf q) (sta (auOf q) (P ++ [0]) (decide (i + 1 = 0)) true) (bytesOf line (i + 1)) (i + 1) else []) := by
        rw [hT, List.append_assoc, decide_eq_false (show ¬ i + 1 = 0 by omega)]
        rfl
      clear hT hP hOlt hO
      have wi : IntKind.i64.wrap ((i : Int) + 1) = ((i + 1 : Nat) : Int) := wrap_id (by omega) (by omega)
      subst hjO
      have htk : List.take O.length O = O := List.take_length
      (conv => whnf)
      refine brk_intro (fun c3 => ?_) (fun c3 => ?_)
      · replace c3 : O.any (auOf q).isM = true := by rw [← htk]; exact c3
        rw [c3] at hT2
        (conv => whnf)
        intro nb m7 hb he
        replace hS := hS.new' (l := nv [i]) hb he
        have hBn : m7.holds ⟨nb, 0, none⟩ (nv [i]) := (hS.blk 0 rfl).holds fun k v hk => by rw [Nat.zero_add]; exact hk
        clear hb he
        (conv => whnf)
        obtain ⟨ok, hR⟩ := hS.app 3 (T := tbl) (e := 3) (news := nv [i]) (k := 1) (B := some ⟨nb, 0, none⟩) rfl rfl (.inr ⟨_, rfl, hBn⟩) rfl rfl (by show 2 * (hits.length + _) * 8 ≤ 2 ^ 48; omega) rfl
        refine ⟨_, _, ok, fun A' c' m8 hr => ?_⟩
        replace hS := (hR _ _ _ hr).drop 0
        clear ok hR hr hBn
        replace hS : Sep (sl pA P.length pc 1 (nv P) :: sl A5 O.length c5 1 (nv O) :: sl A' (hits ++ [i]).length c' 1 (nv (hits ++ [i])) :: pt b3 q.cells :: R) m8 := by rw [nv_app, List.length_append]; exact hS
        (conv => whnf)
        exact ⟨(i + 1, hits ++ [i], A', c', P, pA, pc, m8), le_eq ⟨by show some (AV.v (.int .i64 (IntKind.i64.wrap ((i : Int) + 1)))) = _; rw [wi], sl_eq (by simp), rfl, rfl, rfl, trivial⟩ rfl rfl rfl, ⟨hS.drop 1, by simp only; omega, by simp only [List.length_append, List.length_singleton]; omega, hPn, hPl, hT2⟩, by simp only; omega⟩
      · replace c3 : O.any (auOf q).isM = false := by rw [← htk]; exact c3
        rw [c3] at hT2
        rw [if_neg (by decide), List.append_nil] at hT2
        (conv => whnf)
        exact ⟨(i + 1, hits, A, c, P, pA, pc, M6), le_eq ⟨by show some (AV.v (.int .i64 (IntKind.i64.wrap ((i : Int) + 1)))) = _; rw [wi], rfl, rfl, rfl, rfl, trivial⟩ rfl rfl rfl, ⟨hS.drop 1, by simp only; omega, by simp only; omega, hPn, hPl, hT2⟩, by simp only; omega⟩
    have c2 : ((j : Nat) : Int) < ((O.length : Nat) : Int) := of_decide_eq_true c2
    obtain ⟨x, hx⟩ : ∃ x, O[j]? = some x := ⟨_, List.getElem?_eq_getElem (by omega)⟩
    have hxO := List.mem_of_getElem? hx
    have hxn := hOlt x hxO
    obtain ⟨p5, hp5, hc5⟩ := (hS.rd 1 rfl).at (nv_get hx)
    obtain ⟨⟨op, ix, iy, i_n, mn, mx, s0, s1, s2, s3⟩, hi2⟩ : ∃ i, q.ins[x]? = some i := ⟨_, List.getElem?_eq_getElem hxn⟩
    obtain ⟨pi, hpi, hci⟩ := ins_at (hq _ ((((hS.drop 0).drop 0).drop 0).drop 0)) hi2
    (conv => whnf)
    refine ⟨_, _, _, hS.cell 3 (i := 0) rfl rfl, ?_⟩
    (conv => whnf)
    refine ⟨p5, hp5, by omega, by show ((j : Nat) : Int) < ((O.length : Nat) : Int); omega, ?_⟩
    (conv => whnf)
    refine ⟨_, by show M6.cell (p5.add (((j : Nat) : Int).toNat * 1)) = _; rw [Int.toNat_natCast, Nat.mul_one]; exact hc5, ?_⟩
    (conv => whnf)
    refine ⟨pi, hpi, by omega, by show ((x : Nat) : Int) < ((q.ins.length : Nat) : Int); omega, ?_⟩
    (conv => whnf)
    refine ⟨_, hci 0 _ rfl, ?_⟩
    (conv => whnf)
    refine ⟨_, hci 1 _ rfl, ?_⟩
    (conv => whnf)
    refine ⟨_, hci 2 _ rfl, ?_⟩
    (conv => whnf)
    refine ⟨_, hci 3 _ rfl, ?_⟩
    (conv => whnf)
    refine ⟨_, hci 4 _ rfl, ?_⟩
    (conv => whnf)
    refine ⟨_, hci 5 _ rfl, ?_⟩
    (conv => whnf)
    refine ⟨_, hci 6 _ rfl, ?_⟩
    (conv => whnf)
    refine ⟨_, hci 7 _ rfl, ?_⟩
    (conv => whnf)
    refine ⟨_, hci 8 _ rfl, ?_⟩
    (conv => whnf)
    refine ⟨_, hci 9 _ rfl, ?_⟩
    (conv => whnf)
    clear hci hpi
    intro bi m9 hb he
    replace hS := hS.new' (l := (tbl.at 46).zero.list) hb he
    clear hb he
    (conv => whnf)
    refine ⟨hS.rooms 0 (i := 0) rfl (by decide), fun m10 he => ?_⟩
    replace hS : Sep (pt bi (Ins.cells ⟨op, ix, iy, i_n, mn, mx, s0, s1, s2, s3⟩) :: sl pA P.length pc 1 (nv P) :: sl A5 O.length c5 1 (nv O) :: sl A hits.length c 1 (nv hits) :: pt b3 q.cells :: R) m10 := he ▸ hS.putAll 0 (i := 0) (Ins.cells ⟨op, ix, iy, i_n, mn, mx, s0, s1, s2, s3⟩) rfl
    clear he
    have hM : (auOf q).isM x = decide (op = 11) := by unfold auOf; simp only [hi2]
    have hB : (auOf q).isB x = decide (op = 1) := by unfold auOf; simp only [hi2]
    have hH : ∀ z, (auOf q).hs x z = bitOf ⟨op, ix, iy, i_n, mn, mx, s0, s1, s2, s3⟩ z := fun z => by unfold auOf; simp only [hi2]
    have hUx := hU _ (List.mem_of_getElem? hi2)
    have htk : O.take (j + 1) = O.take j ++ [x] := by rw [List.take_add_one, hx]; rfl
    have wj : IntKind.i64.wrap ((j : Int) + 1) = ((j + 1 : Nat) : Int) := wrap_id (by omega) (by omega)
    have k0 := hS.cell 0 (i := 0) rfl rfl
    have hany : (O.take (j + 1)).any (auOf q).isM = ((O.take j).any (auOf q).isM || decide (op = 11)) := by rw [htk, List.any_append, ← hM]; simp
    have hPl : P.length ≤ 40000 := by
      have h1 : P.length ≤ (O.take j).length := by rw [hP]; exact nxL_len
      have h2 : (O.take j).length ≤ O.length := by rw [List.length_take]; omega
      omega
    clear hi2 hM
    (conv => whnf)
    generalize hh2 : (O.take j).any (auOf q).isM = h2 at *
    cases h2 with
    | true =>
      by_cases h11 : op = 11
      · subst h11
        have hany2 : (O.take (j + 1)).any (auOf q).isM = true := hany.trans (by simp)
        (conv => whnf)
        repeat (refine ⟨_, k0, ?_⟩; (conv => whnf))
        exact ⟨(j + 1, P, pA, pc, m10), le_eq ⟨by show some (AV.v (.int .i64 (IntKind.i64.wrap ((j : Int) + 1)))) = _; rw [wj], (by dsimp only; rw [hany2]; rfl), rfl, rfl, rfl, rfl, rfl, rfl, trivial⟩ rfl rfl rfl, ⟨hS.drop 0, by simp only; omega, by dsimp only; rw [htk, nxL_snoc, if_neg (by rw [hB]; simp), List.append_nil]; exact hP⟩, by simp only; omega⟩
      have hany2 : (O.take (j + 1)).any (auOf q).isM = true := hany.trans (by simp [h11])
      by_cases h1 : op = 1
      · subst h1
        (conv => whnf)
        repeat (refine ⟨_, k0, ?_⟩; (conv => whnf))
        by_cases hl : i < line.size
        · refine brk_true (by simp; omega) ?_
          (conv => whnf)
          refine ⟨[s0, s1, s2, s3], rfl, fun k hk => ?_, ?_⟩
          · rcases (show k = 0 ∨ k = 1 ∨ k = 2 ∨ k = 3 by omega) with rfl | rfl | rfl | rfl
            · exact hS.cell 0 (i := 6) rfl rfl
            · exact hS.cell 0 (i := 7) rfl rfl
            · exact hS.cell 0 (i := 8) rfl rfl
            · exact hS.cell 0 (i := 9) rfl rfl
          (conv => whnf)
          refine ⟨by show (0 : Int) ≤ ((i : Nat) : Int); omega, by show ((i : Nat) : Int) < ((line.size : Nat) : Int); omega, ?_⟩
          (conv => whnf)
          rw [show IntKind.i64.wrap (bt line ((i : Nat) : Int)) = (((line.data.toList.getD i 0).toNat : Nat) : Int) from bt_wrap]
          refine ⟨_, in_c (i := ⟨1, ix, iy, i_n, mn, mx, s0, s1, s2, s3⟩) (c := (line.data.toList.getD i 0).toNat) (UInt8.toNat_lt _) hUx, ?_⟩
          (conv => whnf)
          refine brk_intro (fun c4 => ?_) (fun c4 => ?_)
          · replace c4 : bitOf ⟨1, ix, iy, i_n, mn, mx, s0, s1, s2, s3⟩ (line.data.toList.getD i 0).toNat = true := c4
            obtain ⟨p6, hp6, hc6⟩ := (hS.rd 2 rfl).at (nv_get hx)
            have wx : IntKind.i64.wrap ((x : Int) + 1) = ((x + 1 : Nat) : Int) := wrap_id (by omega) (by omega)
            have ex : nv [x + 1] = [.int .i64 (IntKind.i64.wrap ((x : Int) + 1))] := by rw [wx]; rfl
            (conv => whnf)
            refine ⟨p6, hp6, by show (0 : Int) ≤ ((j : Nat) : Int); omega, by show ((j : Nat) : Int) < ((O.length : Nat) : Int); omega, ?_⟩
            (conv => whnf)
            refine ⟨_, by show m10.cell (p6.add (((j : Nat) : Int).toNat * 1)) = _; rw [Int.toNat_natCast, Nat.mul_one]; exact hc6, ?_⟩
            (conv => whnf)
            intro nb2 m13 hb he
            replace hS := hS.new' (l := [.int .i64 (IntKind.i64.wrap ((x : Int) + 1))]) hb he
            rw [← ex] at hS
            have hBn : m13.holds ⟨nb2, 0, none⟩ (nv [x + 1]) := (hS.blk 0 rfl).holds fun k v hk => by rw [Nat.zero_add]; exact hk
            clear hb he
            (conv => whnf)
            obtain ⟨ok, hR⟩ := hS.app 2 (T := tbl) (e := 3) (news := nv [x + 1]) (k := 1) (B := some ⟨nb2, 0, none⟩) rfl rfl (.inr ⟨_, rfl, hBn⟩) rfl rfl (by show 2 * (P.length + _) * 8 ≤ 2 ^ 48; omega) rfl
            refine ⟨_, _, ok, fun pA' pc' m14 hr => ?_⟩
            replace hS := (hR _ _ _ hr).drop 0
            clear ok hR hr hBn
            replace hS : Sep (pt bi (Ins.cells ⟨1, ix, iy, i_n, mn, mx, s0, s1, s2, s3⟩) :: sl pA' (P ++ [x + 1]).length pc' 1 (nv (P ++ [x + 1])) :: sl A5 O.length c5 1 (nv O) :: sl A hits.length c 1 (nv hits) :: pt b3 q.cells :: R) m14 := by rw [nv_app, List.length_append]; exact hS
            (conv => whnf)
            exact ⟨(j + 1, P ++ [x + 1], pA', pc', m14), le_eq ⟨by show some (AV.v (.int .i64 (IntKind.i64.wrap ((j : Int) + 1)))) = _; rw [wj], (by dsimp only; rw [hany2]; rfl), sl_eq (by simp), rfl, rfl, rfl, rfl, rfl, trivial⟩ rfl rfl rfl, ⟨hS.drop 0, by simp only; omega, by dsimp only; rw [htk, nxL_snoc, if_pos (by rw [hB, hH, c4, decide_eq_true hl]; rfl), ← hP]⟩, by simp only; omega⟩
          · replace c4 : bitOf ⟨1, ix, iy, i_n, mn, mx, s0, s1, s2, s3⟩ (line.data.toList.getD i 0).toNat = false := c4
            (conv => whnf)
            exact ⟨(j + 1, P, pA, pc, m10), le_eq ⟨by show some (AV.v (.int .i64 (IntKind.i64.wrap ((j : Int) + 1)))) = _; rw [wj], (by dsimp only; rw [hany2]; rfl), rfl, rfl, rfl, rfl, rfl, rfl, trivial⟩ rfl rfl rfl, ⟨hS.drop 0, by simp only; omega, by dsimp only; rw [htk, nxL_snoc, if_neg (by rw [hB, hH, c4]; simp), List.append_nil]; exact hP⟩, by simp only; omega⟩
        · refine brk_false (by simp; omega) ?_
          (conv => whnf)
          exact ⟨(j + 1, P, pA, pc, m10), le_eq ⟨by show some (AV.v (.int .i64 (IntKind.i64.wrap ((j : Int) + 1)))) = _; rw [wj], (by dsimp only; rw [hany2]; rfl), rfl, rfl, rfl, rfl, rfl, rfl, trivial⟩ rfl rfl rfl, ⟨hS.drop 0, by simp only; omega, by dsimp only; rw [htk, nxL_snoc, if_neg (by rw [decide_eq_false hl]; simp), List.append_nil]; exact hP⟩, by simp only; omega⟩
      (conv => whnf)
      repeat (refine ⟨_, k0, ?_⟩; (conv => whnf))
      refine brk_false (by simp [h1]) ?_
      (conv => whnf)
      exact ⟨(j + 1, P, pA, pc, m10), le_eq ⟨by show some (AV.v (.int .i64 (IntKind.i64.wrap ((j : Int) + 1)))) = _; rw [wj], (by show some (AV.v (.bool true)) = some (AV.v (.bool ((O.take (j + 1)).any (auOf q).isM))); rw [hany2]), rfl, rfl, rfl, rfl, rfl, rfl, trivial⟩ rfl rfl rfl, ⟨hS.drop 0, by simp only; omega, by dsimp only; rw [htk, nxL_snoc, if_neg (by rw [hB, decide_eq_false h1]; simp), List.append_nil]; exact hP⟩, by simp only; omega⟩
    | false =>
      by_cases h11 : op = 11
      · subst h11
        have hany2 : (O.take (j + 1)).any (auOf q).isM = true := hany.trans (by simp)
        (conv => whnf)
        repeat (refine ⟨_, k0, ?_⟩; (conv => whnf))
        exact ⟨(j + 1, P, pA, pc, m10), le_eq ⟨by show some (AV.v (.int .i64 (IntKind.i64.wrap ((j : Int) + 1)))) = _; rw [wj], (by dsimp only; rw [hany2]; rfl), rfl, rfl, rfl, rfl, rfl, rfl, trivial⟩ rfl rfl rfl, ⟨hS.drop 0, by simp only; omega, by dsimp only; rw [htk, nxL_snoc, if_neg (by rw [hB]; simp), List.append_nil]; exact hP⟩, by simp only; omega⟩
      have hany2 : (O.take (j + 1)).any (auOf q).isM = false := hany.trans (by simp [h11])
      by_cases h1 : op = 1
      · subst h1
        (conv => whnf)
        repeat (refine ⟨_, k0, ?_⟩; (conv => whnf))
        by_cases hl : i < line.size
        · refine brk_true (by simp; omega) ?_
          (conv => whnf)
          refine ⟨[s0, s1, s2, s3], rfl, fun k hk => ?_, ?_⟩
          · rcases (show k = 0 ∨ k = 1 ∨ k = 2 ∨ k = 3 by omega) with rfl | rfl | rfl | rfl
            · exact hS.cell 0 (i := 6) rfl rfl
            · exact hS.cell 0 (i := 7) rfl rfl
            · exact hS.cell 0 (i := 8) rfl rfl
            · exact hS.cell 0 (i := 9) rfl rfl
          (conv => whnf)
          refine ⟨by show (0 : Int) ≤ ((i : Nat) : Int); omega, by show ((i : Nat) : Int) < ((line.size : Nat) : Int); omega, ?_⟩
          (conv => whnf)
          rw [show IntKind.i64.wrap (bt line ((i : Nat) : Int)) = (((line.data.toList.getD i 0).toNat : Nat) : Int) from bt_wrap]
          refine ⟨_, in_c (i := ⟨1, ix, iy, i_n, mn, mx, s0, s1, s2, s3⟩) (c := (line.data.toList.getD i 0).toNat) (UInt8.toNat_lt _) hUx, ?_⟩
          (conv => whnf)
          refine brk_intro (fun c4 => ?_) (fun c4 => ?_)
          · replace c4 : bitOf ⟨1, ix, iy, i_n, mn, mx, s0, s1, s2, s3⟩ (line.data.toList.getD i 0).toNat = true := c4
            obtain ⟨p6, hp6, hc6⟩ := (hS.rd 2 rfl).at (nv_get hx)
            have wx : IntKind.i64.wrap ((x : Int) + 1) = ((x + 1 : Nat) : Int) := wrap_id (by omega) (by omega)
            have ex : nv [x + 1] = [.int .i64 (IntKind.i64.wrap ((x : Int) + 1))] := by rw [wx]; rfl
            (conv => whnf)
            refine ⟨p6, hp6, by show (0 : Int) ≤ ((j : Nat) : Int); omega, by show ((j : Nat) : Int) < ((O.length : Nat) : Int); omega, ?_⟩
            (conv => whnf)
            refine ⟨_, by show m10.cell (p6.add (((j : Nat) : Int).toNat * 1)) = _; rw [Int.toNat_natCast, Nat.mul_one]; exact hc6, ?_⟩
            (conv => whnf)
            intro nb2 m13 hb he
            replace hS := hS.new' (l := [.int .i64 (IntKind.i64.wrap ((x : Int) + 1))]) hb he
            rw [← ex] at hS
            have hBn : m13.holds ⟨nb2, 0, none⟩ (nv [x + 1]) := (hS.blk 0 rfl).holds fun k v hk => by rw [Nat.zero_add]; exact hk
            clear hb he
            (conv => whnf)
            obtain ⟨ok, hR⟩ := hS.app 2 (T := tbl) (e := 3) (news := nv [x + 1]) (k := 1) (B := some ⟨nb2, 0, none⟩) rfl rfl (.inr ⟨_, rfl, hBn⟩) rfl rfl (by show 2 * (P.length + _) * 8 ≤ 2 ^ 48; omega) rfl
            refine ⟨_, _, ok, fun pA' pc' m14 hr => ?_⟩
            replace hS := (hR _ _ _ hr).drop 0
            clear ok hR hr hBn
            replace hS : Sep (pt bi (Ins.cells ⟨1, ix, iy, i_n, mn, mx, s0, s1, s2, s3⟩) :: sl pA' (P ++ [x + 1]).length pc' 1 (nv (P ++ [x + 1])) :: sl A5 O.length c5 1 (nv O) :: sl A hits.length c 1 (nv hits) :: pt b3 q.cells :: R) m14 := by rw [nv_app, List.length_append]; exact hS
            (conv => whnf)
            exact ⟨(j + 1, P ++ [x + 1], pA', pc', m14), le_eq ⟨by show some (AV.v (.int .i64 (IntKind.i64.wrap ((j : Int) + 1)))) = _; rw [wj], (by dsimp only; rw [hany2]; rfl), sl_eq (by simp), rfl, rfl, rfl, rfl, rfl, trivial⟩ rfl rfl rfl, ⟨hS.drop 0, by simp only; omega, by dsimp only; rw [htk, nxL_snoc, if_pos (by rw [hB, hH, c4, decide_eq_true hl]; rfl), ← hP]⟩, by simp only; omega⟩
          · replace c4 : bitOf ⟨1, ix, iy, i_n, mn, mx, s0, s1, s2, s3⟩ (line.data.toList.getD i 0).toNat = false := c4
            (conv => whnf)
            exact ⟨(j + 1, P, pA, pc, m10), le_eq ⟨by show some (AV.v (.int .i64 (IntKind.i64.wrap ((j : Int) + 1)))) = _; rw [wj], (by dsimp only; rw [hany2]; rfl), rfl, rfl, rfl, rfl, rfl, rfl, trivial⟩ rfl rfl rfl, ⟨hS.drop 0, by simp only; omega, by dsimp only; rw [htk, nxL_snoc, if_neg (by rw [hB, hH, c4]; simp), List.append_nil]; exact hP⟩, by simp only; omega⟩
        · refine brk_false (by simp; omega) ?_
          (conv => whnf)
          exact ⟨(j + 1, P, pA, pc, m10), le_eq ⟨by show some (AV.v (.int .i64 (IntKind.i64.wrap ((j : Int) + 1)))) = _; rw [wj], (by dsimp only; rw [hany2]; rfl), rfl, rfl, rfl, rfl, rfl, rfl, trivial⟩ rfl rfl rfl, ⟨hS.drop 0, by simp only; omega, by dsimp only; rw [htk, nxL_snoc, if_neg (by rw [decide_eq_false hl]; simp), List.append_nil]; exact hP⟩, by simp only; omega⟩
      (conv => whnf)
      repeat (refine ⟨_, k0, ?_⟩; (conv => whnf))
      refine brk_false (by simp [h1]) ?_
      (conv => whnf)
      exact ⟨(j + 1, P, pA, pc, m10), le_eq ⟨by show some (AV.v (.int .i64 (IntKind.i64.wrap ((j : Int) + 1)))) = _; rw [wj], (by show some (AV.v (.bool (op == 11))) = some (AV.v (.bool ((O.take (j + 1)).any (auOf q).isM))); rw [hany2, show (op == 11) = false by simpa using h11]), rfl, rfl, rfl, rfl, rfl, rfl, trivial⟩ rfl rfl rfl, ⟨hS.drop 0, by simp only; omega, by dsimp only; rw [htk, nxL_snoc, if_neg (by rw [hB, decide_eq_false h1]; simp), List.append_nil]; exact hP⟩, by simp only; omega⟩
  refine ⟨?_, True.intro⟩
  (conv => whnf)
  intro nb m2 hb he
  replace hS := hS.new' (l := nv [0]) hb he
  clear hb he
  (conv => whnf)
  refine ⟨?_, ?_⟩
  · (conv => whnf)
    refine ⟨_, _, _, hS.cell 3 (i := 0) rfl rfl, ?_⟩
    (conv => whnf)
    refine ⟨_, hS.cell 3 (i := 1) rfl rfl, ?_⟩
    (conv => whnf)
    refine ⟨_, hS.cell 3 (i := 2) rfl rfl, ?_⟩
    (conv => whnf)
    refine ⟨_, hS.cell 3 (i := 3) rfl rfl, ?_⟩
    (conv => whnf)
    have hBn : m2.holds ⟨nb, 0, none⟩ (nv [0]) := (hS.blk 0 rfl).holds fun k v hk => by rw [Nat.zero_add]; exact hk
    obtain ⟨ok, hR⟩ := hS.app 1 (T := tbl) (e := 3) (news := nv [0]) (k := 1) (B := some ⟨nb, 0, none⟩) rfl rfl (.inr ⟨_, rfl, hBn⟩) rfl rfl (by show 2 * (N.length + _) * 8 ≤ 2 ^ 48; omega) rfl
    refine ⟨_, _, ok, fun B' e' m3 hr => ?_⟩
    replace hS := (hR _ _ _ hr).drop 0
    clear ok hR hr hBn
    (conv => whnf)
    have hN0 : (N ++ [0]).length = N.length + 1 := by simp
    replace hS : Sep (sl B' (N.length + 1) e' 1 (nv (N ++ [0])) :: sl A hits.length c 1 (nv hits) :: pt b3 q.cells :: R) m3 := by rw [nv_app]; exact hS
    refine FCalls.mono (step_n (S := N ++ [0]) (n := N.length + 1) (R := sl A hits.length c 1 (nv hits) :: pt b3 q.cells :: R) hS hN0.symm (fun M h => hq M ((h.drop 0).drop 0)) hg hf (fun x hx => by
      rcases List.mem_append.1 hx with h | h
      · exact hN x h
      · rw [List.mem_singleton] at h
        omega) c1 hls (by omega)) ?_
    clear hS
    rintro v m4 ⟨O, A5, c5, rfl, hS, hO, hOl⟩
    have hOlt : ∀ x, x ∈ O → x < q.ins.length := fun x hx => rch_lt hg (fun y hy => by
      rcases List.mem_append.1 hy with h | h
      · exact hN y h
      · rw [List.mem_singleton] at h
        omega) ((hO x).1 hx)
    replace hT := hT.trans (by rw [if_pos c1, any_step (line := line) hO hOlt c1])
    clear hN hNl
    (conv => whnf)
    refine loop_keep [1, 2, 3, 7, 8] (Nat × List Nat × Option Addr × Nat × Mem) (fun s => [(11, .v (.int .i64 ((s.1 : Nat) : Int))), (10, .v (.bool ((O.take s.1).any (auOf q).isM))), (9, .v (.slice s.2.2.1 s.2.1.length s.2.2.2.1))]) (fun _ => []) (fun s => s.2.2.2.2)
      (fun s => Sep (sl s.2.2.1 s.2.1.length s.2.2.2.1 1 (nv s.2.1) :: sl A5 O.length c5 1 (nv O) :: sl A hits.length c 1 (nv hits) :: pt b3 q.cells :: R) s.2.2.2.2 ∧ s.1 ≤ O.length ∧ s.2.1 = nxL (fun k => (auOf q).isB k && (decide (i < line.size) && (auOf q).hs k (line.data.toList.getD i 0).toNat)) (O.take s.1))
      (fun s => O.length - s.1) (0, [], none, 0, m4) ⟨rfl, rfl, rfl, trivial⟩ rfl rfl ⟨Sep.free (A := sl none 0 0 1 []) hS sl_nil, by omega, rfl⟩ ?_
    clear hS
    (conv => whnf)
    refine ⟨rfl, ?_⟩
    rintro ⟨j, P, pA, pc, M6⟩ ⟨hS, hj, hP⟩
    simp only at hS hj hP
    (conv => whnf)
    refine brk_intro (fun c2 => ?_) (fun c2 => ?_)
    rotate_left
    · have c2 : ¬ ((j : Nat) : Int) < ((O.length : Nat) : Int) := of_decide_eq_false c2
      have hjO : j = O.length := by omega
      rw [hjO, List.take_length] at hP
      rw [← hP] at hT
      have hPl : P.length ≤ q.ins.length := by rw [hP]; exact Nat.le_trans nxL_len hOl
      have hPn : ∀ x, x ∈ P → x < q.ins.length := fun x hx => by
        rw [hP] at hx
        exact nxL_lt hg hx
      have hT2 : T = (hits ++ (if O.any (auOf q).isM then [i] else [])) ++ (if i + 1 ≤ line.size then plays (auOf q) (sta (auOf q) (P ++ [0]) (decide (i + 1 = 0)) true) (bytesOf line (i + 1)) (i + 1) else []) := by
        rw [hT, List.append_assoc, decide_eq_false (show ¬ i + 1 = 0 by omega)]
        rfl
      clear hT hP hOlt hO
      have wi : IntKind.i64.wrap ((i : Int) + 1) = ((i + 1 : Nat) : Int) := wrap_id (by omega) (by omega)
      subst hjO
      have htk : List.take O.length O = O := List.take_length
      (conv => whnf)
      refine brk_intro (fun c3 => ?_) (fun c3 => ?_)
      · replace c3 : O.any (auOf q).isM = true := by rw [← htk]; exact c3
        rw [c3] at hT2
        (conv => whnf)
        intro nb m7 hb he
        replace hS := hS.new' (l := nv [i]) hb he
        have hBn : m7.holds ⟨nb, 0, none⟩ (nv [i]) := (hS.blk 0 rfl).holds fun k v hk => by rw [Nat.zero_add]; exact hk
        clear hb he
        (conv => whnf)
        obtain ⟨ok, hR⟩ := hS.app 3 (T := tbl) (e := 3) (news := nv [i]) (k := 1) (B := some ⟨nb, 0, none⟩) rfl rfl (.inr ⟨_, rfl, hBn⟩) rfl rfl (by show 2 * (hits.length + _) * 8 ≤ 2 ^ 48; omega) rfl
        refine ⟨_, _, ok, fun A' c' m8 hr => ?_⟩
        replace hS := (hR _ _ _ hr).drop 0
        clear ok hR hr hBn
        replace hS : Sep (sl pA P.length pc 1 (nv P) :: sl A5 O.length c5 1 (nv O) :: sl A' (hits ++ [i]).length c' 1 (nv (hits ++ [i])) :: pt b3 q.cells :: R) m8 := by rw [nv_app, List.length_append]; exact hS
        (conv => whnf)
        exact ⟨(i + 1, hits ++ [i], A', c', P, pA, pc, m8), le_eq ⟨by show some (AV.v (.int .i64 (IntKind.i64.wrap ((i : Int) + 1)))) = _; rw [wi], sl_eq (by simp), rfl, rfl, rfl, trivial⟩ rfl rfl rfl, ⟨hS.drop 1, by simp only; omega, by simp only [List.length_append, List.length_singleton]; omega, hPn, hPl, hT2⟩, by simp only; omega⟩
      · replace c3 : O.any (auOf q).isM = false := by rw [← htk]; exact c3
        rw [c3] at hT2
        rw [if_neg (by decide), List.append_nil] at hT2
        (conv => whnf)
        exact ⟨(i + 1, hits, A, c, P, pA, pc, M6), le_eq ⟨by show some (AV.v (.int .i64 (IntKind.i64.wrap ((i : Int) + 1)))) = _; rw [wi], rfl, rfl, rfl, rfl, trivial⟩ rfl rfl rfl, ⟨hS.drop 1, by simp only; omega, by simp only; omega, hPn, hPl, hT2⟩, by simp only; omega⟩
    have c2 : ((j : Nat) : Int) < ((O.length : Nat) : Int) := of_decide_eq_true c2
    obtain ⟨x, hx⟩ : ∃ x, O[j]? = some x := ⟨_, List.getElem?_eq_getElem (by omega)⟩
    have hxO := List.mem_of_getElem? hx
    have hxn := hOlt x hxO
    obtain ⟨p5, hp5, hc5⟩ := (hS.rd 1 rfl).at (nv_get hx)
    obtain ⟨⟨op, ix, iy, i_n, mn, mx, s0, s1, s2, s3⟩, hi2⟩ : ∃ i, q.ins[x]? = some i := ⟨_, List.getElem?_eq_getElem hxn⟩
    obtain ⟨pi, hpi, hci⟩ := ins_at (hq _ ((((hS.drop 0).drop 0).drop 0).drop 0)) hi2
    (conv => whnf)
    refine ⟨_, _, _, hS.cell 3 (i := 0) rfl rfl, ?_⟩
    (conv => whnf)
    refine ⟨p5, hp5, by omega, by show ((j : Nat) : Int) < ((O.length : Nat) : Int); omega, ?_⟩
    (conv => whnf)
    refine ⟨_, by show M6.cell (p5.add (((j : Nat) : Int).toNat * 1)) = _; rw [Int.toNat_natCast, Nat.mul_one]; exact hc5, ?_⟩
    (conv => whnf)
    refine ⟨pi, hpi, by omega, by show ((x : Nat) : Int) < ((q.ins.length : Nat) : Int); omega, ?_⟩
    (conv => whnf)
    refine ⟨_, hci 0 _ rfl, ?_⟩
    (conv => whnf)
    refine ⟨_, hci 1 _ rfl, ?_⟩
    (conv => whnf)
    refine ⟨_, hci 2 _ rfl, ?_⟩
    (conv => whnf)
    refine ⟨_, hci 3 _ rfl, ?_⟩
    (conv => whnf)
    refine ⟨_, hci 4 _ rfl, ?_⟩
    (conv => whnf)
    refine ⟨_, hci 5 _ rfl, ?_⟩
    (conv => whnf)
    refine ⟨_, hci 6 _ rfl, ?_⟩
    (conv => whnf)
    refine ⟨_, hci 7 _ rfl, ?_⟩
    (conv => whnf)
    refine ⟨_, hci 8 _ rfl, ?_⟩
    (conv => whnf)
    refine ⟨_, hci 9 _ rfl, ?_⟩
    (conv => whnf)
    clear hci hpi
    intro bi m9 hb he
    replace hS := hS.new' (l := (tbl.at 46).zero.list) hb he
    clear hb he
    (conv => whnf)
    refine ⟨hS.rooms 0 (i := 0) rfl (by decide), fun m10 he => ?_⟩
    replace hS : Sep (pt bi (Ins.cells ⟨op, ix, iy, i_n, mn, mx, s0, s1, s2, s3⟩) :: sl pA P.length pc 1 (nv P) :: sl A5 O.length c5 1 (nv O) :: sl A hits.length c 1 (nv hits) :: pt b3 q.cells :: R) m10 := he ▸ hS.putAll 0 (i := 0) (Ins.cells ⟨op, ix, iy, i_n, mn, mx, s0, s1, s2, s3⟩) rfl
    clear he
    have hM : (auOf q).isM x = decide (op = 11) := by unfold auOf; simp only [hi2]
    have hB : (auOf q).isB x = decide (op = 1) := by unfold auOf; simp only [hi2]
    have hH : ∀ z, (auOf q).hs x z = bitOf ⟨op, ix, iy, i_n, mn, mx, s0, s1, s2, s3⟩ z := fun z => by unfold auOf; simp only [hi2]
    have hUx := hU _ (List.mem_of_getElem? hi2)
    have htk : O.take (j + 1) = O.take j ++ [x] := by rw [List.take_add_one, hx]; rfl
    have wj : IntKind.i64.wrap ((j : Int) + 1) = ((j + 1 : Nat) : Int) := wrap_id (by omega) (by omega)
    have k0 := hS.cell 0 (i := 0) rfl rfl
    have hany : (O.take (j + 1)).any (auOf q).isM = ((O.take j).any (auOf q).isM || decide (op = 11)) := by rw [htk, List.any_append, ← hM]; simp
    have hPl : P.length ≤ 40000 := by
      have h1 : P.length ≤ (O.take j).length := by rw [hP]; exact nxL_len
      have h2 : (O.take j).length ≤ O.length := by rw [List.length_take]; omega
      omega
    clear hi2 hM
    (conv => whnf)
    generalize hh2 : (O.take j).any (auOf q).isM = h2 at *
    cases h2 with
    | true =>
      by_cases h11 : op = 11
      · subst h11
        have hany2 : (O.take (j + 1)).any (auOf q).isM = true := hany.trans (by simp)
        (conv => whnf)
        repeat (refine ⟨_, k0, ?_⟩; (conv => whnf))
        exact ⟨(j + 1, P, pA, pc, m10), le_eq ⟨by show some (AV.v (.int .i64 (IntKind.i64.wrap ((j : Int) + 1)))) = _; rw [wj], (by dsimp only; rw [hany2]; rfl), rfl, rfl, rfl, rfl, rfl, rfl, trivial⟩ rfl rfl rfl, ⟨hS.drop 0, by simp only; omega, by dsimp only; rw [htk, nxL_snoc, if_neg (by rw [hB]; simp), List.append_nil]; exact hP⟩, by simp only; omega⟩
      have hany2 : (O.take (j + 1)).any (auOf q).isM = true := hany.trans (by simp [h11])
      by_cases h1 : op = 1
      · subst h1
        (conv => whnf)
        repeat (refine ⟨_, k0, ?_⟩; (conv => whnf))
        by_cases hl : i < line.size
        · refine brk_true (by simp; omega) ?_
          (conv => whnf)
          refine ⟨[s0, s1, s2, s3], rfl, fun k hk => ?_, ?_⟩
          · rcases (show k = 0 ∨ k = 1 ∨ k = 2 ∨ k = 3 by omega) with rfl | rfl | rfl | rfl
            · exact hS.cell 0 (i := 6) rfl rfl
            · exact hS.cell 0 (i := 7) rfl rfl
            · exact hS.cell 0 (i := 8) rfl rfl
            · exact hS.cell 0 (i := 9) rfl rfl
          (conv => whnf)
          refine ⟨by show (0 : Int) ≤ ((i : Nat) : Int); omega, by show ((i : Nat) : Int) < ((line.size : Nat) : Int); omega, ?_⟩
          (conv => whnf)
          rw [show IntKind.i64.wrap (bt line ((i : Nat) : Int)) = (((line.data.toList.getD i 0).toNat : Nat) : Int) from bt_wrap]
          refine ⟨_, in_c (i := ⟨1, ix, iy, i_n, mn, mx, s0, s1, s2, s3⟩) (c := (line.data.toList.getD i 0).toNat) (UInt8.toNat_lt _) hUx, ?_⟩
          (conv => whnf)
          refine brk_intro (fun c4 => ?_) (fun c4 => ?_)
          · replace c4 : bitOf ⟨1, ix, iy, i_n, mn, mx, s0, s1, s2, s3⟩ (line.data.toList.getD i 0).toNat = true := c4
            obtain ⟨p6, hp6, hc6⟩ := (hS.rd 2 rfl).at (nv_get hx)
            have wx : IntKind.i64.wrap ((x : Int) + 1) = ((x + 1 : Nat) : Int) := wrap_id (by omega) (by omega)
            have ex : nv [x + 1] = [.int .i64 (IntKind.i64.wrap ((x : Int) + 1))] := by rw [wx]; rfl
            (conv => whnf)
            refine ⟨p6, hp6, by show (0 : Int) ≤ ((j : Nat) : Int); omega, by show ((j : Nat) : Int) < ((O.length : Nat) : Int); omega, ?_⟩
            (conv => whnf)
            refine ⟨_, by show m10.cell (p6.add (((j : Nat) : Int).toNat * 1)) = _; rw [Int.toNat_natCast, Nat.mul_one]; exact hc6, ?_⟩
            (conv => whnf)
            intro nb2 m13 hb he
            replace hS := hS.new' (l := [.int .i64 (IntKind.i64.wrap ((x : Int) + 1))]) hb he
            rw [← ex] at hS
            have hBn : m13.holds ⟨nb2, 0, none⟩ (nv [x + 1]) := (hS.blk 0 rfl).holds fun k v hk => by rw [Nat.zero_add]; exact hk
            clear hb he
            (conv => whnf)
            obtain ⟨ok, hR⟩ := hS.app 2 (T := tbl) (e := 3) (news := nv [x + 1]) (k := 1) (B := some ⟨nb2, 0, none⟩) rfl rfl (.inr ⟨_, rfl, hBn⟩) rfl rfl (by show 2 * (P.length + _) * 8 ≤ 2 ^ 48; omega) rfl
            refine ⟨_, _, ok, fun pA' pc' m14 hr => ?_⟩
            replace hS := (hR _ _ _ hr).drop 0
            clear ok hR hr hBn
            replace hS : Sep (pt bi (Ins.cells ⟨1, ix, iy, i_n, mn, mx, s0, s1, s2, s3⟩) :: sl pA' (P ++ [x + 1]).length pc' 1 (nv (P ++ [x + 1])) :: sl A5 O.length c5 1 (nv O) :: sl A hits.length c 1 (nv hits) :: pt b3 q.cells :: R) m14 := by rw [nv_app, List.length_append]; exact hS
            (conv => whnf)
            exact ⟨(j + 1, P ++ [x + 1], pA', pc', m14), le_eq ⟨by show some (AV.v (.int .i64 (IntKind.i64.wrap ((j : Int) + 1)))) = _; rw [wj], (by dsimp only; rw [hany2]; rfl), sl_eq (by simp), rfl, rfl, rfl, rfl, rfl, trivial⟩ rfl rfl rfl, ⟨hS.drop 0, by simp only; omega, by dsimp only; rw [htk, nxL_snoc, if_pos (by rw [hB, hH, c4, decide_eq_true hl]; rfl), ← hP]⟩, by simp only; omega⟩
          · replace c4 : bitOf ⟨1, ix, iy, i_n, mn, mx, s0, s1, s2, s3⟩ (line.data.toList.getD i 0).toNat = false := c4
            (conv => whnf)
            exact ⟨(j + 1, P, pA, pc, m10), le_eq ⟨by show some (AV.v (.int .i64 (IntKind.i64.wrap ((j : Int) + 1)))) = _; rw [wj], (by dsimp only; rw [hany2]; rfl), rfl, rfl, rfl, rfl, rfl, rfl, trivial⟩ rfl rfl rfl, ⟨hS.drop 0, by simp only; omega, by dsimp only; rw [htk, nxL_snoc, if_neg (by rw [hB, hH, c4]; simp), List.append_nil]; exact hP⟩, by simp only; omega⟩
        · refine brk_false (by simp; omega) ?_
          (conv => whnf)
          exact ⟨(j + 1, P, pA, pc, m10), le_eq ⟨by show some (AV.v (.int .i64 (IntKind.i64.wrap ((j : Int) + 1)))) = _; rw [wj], (by dsimp only; rw [hany2]; rfl), rfl, rfl, rfl, rfl, rfl, rfl, trivial⟩ rfl rfl rfl, ⟨hS.drop 0, by simp only; omega, by dsimp only; rw [htk, nxL_snoc, if_neg (by rw [decide_eq_false hl]; simp), List.append_nil]; exact hP⟩, by simp only; omega⟩
      (conv => whnf)
      repeat (refine ⟨_, k0, ?_⟩; (conv => whnf))
      refine brk_false (by simp [h1]) ?_
      (conv => whnf)
      exact ⟨(j + 1, P, pA, pc, m10), le_eq ⟨by show some (AV.v (.int .i64 (IntKind.i64.wrap ((j : Int) + 1)))) = _; rw [wj], (by show some (AV.v (.bool true)) = some (AV.v (.bool ((O.take (j + 1)).any (auOf q).isM))); rw [hany2]), rfl, rfl, rfl, rfl, rfl, rfl, trivial⟩ rfl rfl rfl, ⟨hS.drop 0, by simp only; omega, by dsimp only; rw [htk, nxL_snoc, if_neg (by rw [hB, decide_eq_false h1]; simp), List.append_nil]; exact hP⟩, by simp only; omega⟩
    | false =>
      by_cases h11 : op = 11
      · subst h11
        have hany2 : (O.take (j + 1)).any (auOf q).isM = true := hany.trans (by simp)
        (conv => whnf)
        repeat (refine ⟨_, k0, ?_⟩; (conv => whnf))
        exact ⟨(j + 1, P, pA, pc, m10), le_eq ⟨by show some (AV.v (.int .i64 (IntKind.i64.wrap ((j : Int) + 1)))) = _; rw [wj], (by dsimp only; rw [hany2]; rfl), rfl, rfl, rfl, rfl, rfl, rfl, trivial⟩ rfl rfl rfl, ⟨hS.drop 0, by simp only; omega, by dsimp only; rw [htk, nxL_snoc, if_neg (by rw [hB]; simp), List.append_nil]; exact hP⟩, by simp only; omega⟩
      have hany2 : (O.take (j + 1)).any (auOf q).isM = false := hany.trans (by simp [h11])
      by_cases h1 : op = 1
      · subst h1
        (conv => whnf)
        repeat (refine ⟨_, k0, ?_⟩; (conv => whnf))
        by_cases hl : i < line.size
        · refine brk_true (by simp; omega) ?_
          (conv => whnf)
          refine ⟨[s0, s1, s2, s3], rfl, fun k hk => ?_, ?_⟩
          · rcases (show k = 0 ∨ k = 1 ∨ k = 2 ∨ k = 3 by omega) with rfl | rfl | rfl | rfl
            · exact hS.cell 0 (i := 6) rfl rfl
            · exact hS.cell 0 (i := 7) rfl rfl
            · exact hS.cell 0 (i := 8) rfl rfl
            · exact hS.cell 0 (i := 9) rfl rfl
          (conv => whnf)
          refine ⟨by show (0 : Int) ≤ ((i : Nat) : Int); omega, by show ((i : Nat) : Int) < ((line.size : Nat) : Int); omega, ?_⟩
          (conv => whnf)
          rw [show IntKind.i64.wrap (bt line ((i : Nat) : Int)) = (((line.data.toList.getD i 0).toNat : Nat) : Int) from bt_wrap]
          refine ⟨_, in_c (i := ⟨1, ix, iy, i_n, mn, mx, s0, s1, s2, s3⟩) (c := (line.data.toList.getD i 0).toNat) (UInt8.toNat_lt _) hUx, ?_⟩
          (conv => whnf)
          refine brk_intro (fun c4 => ?_) (fun c4 => ?_)
          · replace c4 : bitOf ⟨1, ix, iy, i_n, mn, mx, s0, s1, s2, s3⟩ (line.data.toList.getD i 0).toNat = true := c4
            obtain ⟨p6, hp6, hc6⟩ := (hS.rd 2 rfl).at (nv_get hx)
            have wx : IntKind.i64.wrap ((x : Int) + 1) = ((x + 1 : Nat) : Int) := wrap_id (by omega) (by omega)
            have ex : nv [x + 1] = [.int .i64 (IntKind.i64.wrap ((x : Int) + 1))] := by rw [wx]; rfl
            (conv => whnf)
            refine ⟨p6, hp6, by show (0 : Int) ≤ ((j : Nat) : Int); omega, by show ((j : Nat) : Int) < ((O.length : Nat) : Int); omega, ?_⟩
            (conv => whnf)
            refine ⟨_, by show m10.cell (p6.add (((j : Nat) : Int).toNat * 1)) = _; rw [Int.toNat_natCast, Nat.mul_one]; exact hc6, ?_⟩
            (conv => whnf)
            intro nb2 m13 hb he
            replace hS := hS.new' (l := [.int .i64 (IntKind.i64.wrap ((x : Int) + 1))]) hb he
            rw [← ex] at hS
            have hBn : m13.holds ⟨nb2, 0, none⟩ (nv [x + 1]) := (hS.blk 0 rfl).holds fun k v hk => by rw [Nat.zero_add]; exact hk
            clear hb he
            (conv => whnf)
            obtain ⟨ok, hR⟩ := hS.app 2 (T := tbl) (e := 3) (news := nv [x + 1]) (k := 1) (B := some ⟨nb2, 0, none⟩) rfl rfl (.inr ⟨_, rfl, hBn⟩) rfl rfl (by show 2 * (P.length + _) * 8 ≤ 2 ^ 48; omega) rfl
            refine ⟨_, _, ok, fun pA' pc' m14 hr => ?_⟩
            replace hS := (hR _ _ _ hr).drop 0
            clear ok hR hr hBn
            replace hS : Sep (pt bi (Ins.cells ⟨1, ix, iy, i_n, mn, mx, s0, s1, s2, s3⟩) :: sl pA' (P ++ [x + 1]).length pc' 1 (nv (P ++ [x + 1])) :: sl A5 O.length c5 1 (nv O) :: sl A hits.length c 1 (nv hits) :: pt b3 q.cells :: R) m14 := by rw [nv_app, List.length_append]; exact hS
            (conv => whnf)
            exact ⟨(j + 1, P ++ [x + 1], pA', pc', m14), le_eq ⟨by show some (AV.v (.int .i64 (IntKind.i64.wrap ((j : Int) + 1)))) = _; rw [wj], (by dsimp only; rw [hany2]; rfl), sl_eq (by simp), rfl, rfl, rfl, rfl, rfl, trivial⟩ rfl rfl rfl, ⟨hS.drop 0, by simp only; omega, by dsimp only; rw [htk, nxL_snoc, if_pos (by rw [hB, hH, c4, decide_eq_true hl]; rfl), ← hP]⟩, by simp only; omega⟩
          · replace c4 : bitOf ⟨1, ix, iy, i_n, mn, mx, s0, s1, s2, s3⟩ (line.data.toList.getD i 0).toNat = false := c4
            (conv => whnf)
            exact ⟨(j + 1, P, pA, pc, m10), le_eq ⟨by show some (AV.v (.int .i64 (IntKind.i64.wrap ((j : Int) + 1)))) = _; rw [wj], (by dsimp only; rw [hany2]; rfl), rfl, rfl, rfl, rfl, rfl, rfl, trivial⟩ rfl rfl rfl, ⟨hS.drop 0, by simp only; omega, by dsimp only; rw [htk, nxL_snoc, if_neg (by rw [hB, hH, c4]; simp), List.append_nil]; exact hP⟩, by simp only; omega⟩
        · refine brk_false (by simp; omega) ?_
          (conv => whnf)
          exact ⟨(j + 1, P, pA, pc, m10), le_eq ⟨by show some (AV.v (.int .i64 (IntKind.i64.wrap ((j : Int) + 1)))) = _; rw [wj], (by dsimp only; rw [hany2]; rfl), rfl, rfl, rfl, rfl, rfl, rfl, trivial⟩ rfl rfl rfl, ⟨hS.drop 0, by simp only; omega, by dsimp only; rw [htk, nxL_snoc, if_neg (by rw [decide_eq_false hl]; simp), List.append_nil]; exact hP⟩, by simp only; omega⟩
      (conv => whnf)
      repeat (refine ⟨_, k0, ?_⟩; (conv => whnf))
      refine brk_false (by simp [h1]) ?_
      (conv => whnf)
      exact ⟨(j + 1, P, pA, pc, m10), le_eq ⟨by show some (AV.v (.int .i64 (IntKind.i64.wrap ((j : Int) + 1)))) = _; rw [wj], (by show some (AV.v (.bool (op == 11))) = some (AV.v (.bool ((O.take (j + 1)).any (auOf q).isM))); rw [hany2, show (op == 11) = false by simpa using h11]), rfl, rfl, rfl, rfl, rfl, rfl, trivial⟩ rfl rfl rfl, ⟨hS.drop 0, by simp only; omega, by dsimp only; rw [htk, nxL_snoc, if_neg (by rw [hB, decide_eq_false h1]; simp), List.append_nil]; exact hP⟩, by simp only; omega⟩
  refine ⟨?_, True.intro⟩
  (conv => whnf)
  have hBn : m2.holds ⟨nb, 0, none⟩ (nv [0]) := (hS.blk 0 rfl).holds fun k v hk => by rw [Nat.zero_add]; exact hk
  obtain ⟨ok, hR⟩ := hS.app 1 (T := tbl) (e := 3) (news := nv [0]) (k := 1) (B := some ⟨nb, 0, none⟩) rfl rfl (.inr ⟨_, rfl, hBn⟩) rfl rfl (by show 2 * (N.length + _) * 8 ≤ 2 ^ 48; omega) rfl
  refine ⟨_, _, ok, fun B' e' m3 hr => ?_⟩
  replace hS := (hR _ _ _ hr).drop 0
  clear ok hR hr hBn
  (conv => whnf)
  refine ⟨_, _, _, hS.cell 2 (i := 0) rfl rfl, ?_⟩
  (conv => whnf)
  refine ⟨_, hS.cell 2 (i := 1) rfl rfl, ?_⟩
  (conv => whnf)
  refine ⟨_, hS.cell 2 (i := 2) rfl rfl, ?_⟩
  (conv => whnf)
  refine ⟨_, hS.cell 2 (i := 3) rfl rfl, ?_⟩
  (conv => whnf)
  have hN0 : (N ++ [0]).length = N.length + 1 := by simp
  replace hS : Sep (sl B' (N.length + 1) e' 1 (nv (N ++ [0])) :: sl A hits.length c 1 (nv hits) :: pt b3 q.cells :: R) m3 := by rw [nv_app]; exact hS
  refine FCalls.mono (step_n (S := N ++ [0]) (n := N.length + 1) (R := sl A hits.length c 1 (nv hits) :: pt b3 q.cells :: R) hS hN0.symm (fun M h => hq M ((h.drop 0).drop 0)) hg hf (fun x hx => by
    rcases List.mem_append.1 hx with h | h
    · exact hN x h
    · rw [List.mem_singleton] at h
      omega) c1 hls (by omega)) ?_
  clear hS
  rintro v m4 ⟨O, A5, c5, rfl, hS, hO, hOl⟩
  have hOlt : ∀ x, x ∈ O → x < q.ins.length := fun x hx => rch_lt hg (fun y hy => by
    rcases List.mem_append.1 hy with h | h
    · exact hN y h
    · rw [List.mem_singleton] at h
      omega) ((hO x).1 hx)
  replace hT := hT.trans (by rw [if_pos c1, any_step (line := line) hO hOlt c1])
  clear hN hNl
  (conv => whnf)
  refine loop_keep [1, 2, 3, 7, 8] (Nat × List Nat × Option Addr × Nat × Mem) (fun s => [(11, .v (.int .i64 ((s.1 : Nat) : Int))), (10, .v (.bool ((O.take s.1).any (auOf q).isM))), (9, .v (.slice s.2.2.1 s.2.1.length s.2.2.2.1))]) (fun _ => []) (fun s => s.2.2.2.2)
    (fun s => Sep (sl s.2.2.1 s.2.1.length s.2.2.2.1 1 (nv s.2.1) :: sl A5 O.length c5 1 (nv O) :: sl A hits.length c 1 (nv hits) :: pt b3 q.cells :: R) s.2.2.2.2 ∧ s.1 ≤ O.length ∧ s.2.1 = nxL (fun k => (auOf q).isB k && (decide (i < line.size) && (auOf q).hs k (line.data.toList.getD i 0).toNat)) (O.take s.1))
    (fun s => O.length - s.1) (0, [], none, 0, m4) ⟨rfl, rfl, rfl, trivial⟩ rfl rfl ⟨Sep.free (A := sl none 0 0 1 []) hS sl_nil, by omega, rfl⟩ ?_
  clear hS
  (conv => whnf)
  refine ⟨rfl, ?_⟩
  rintro ⟨j, P, pA, pc, M6⟩ ⟨hS, hj, hP⟩
  simp only at hS hj hP
  (conv => whnf)
  refine brk_intro (fun c2 => ?_) (fun c2 => ?_)
  rotate_left
  · have c2 : ¬ ((j : Nat) : Int) < ((O.length : Nat) : Int) := of_decide_eq_false c2
    have hjO : j = O.length := by omega
    rw [hjO, List.take_length] at hP
    rw [← hP] at hT
    have hPl : P.length ≤ q.ins.length := by rw [hP]; exact Nat.le_trans nxL_len hOl
    have hPn : ∀ x, x ∈ P → x < q.ins.length := fun x hx => by
      rw [hP] at hx
      exact nxL_lt hg hx
    have hT2 : T = (hits ++ (if O.any (auOf q).isM then [i] else [])) ++ (if i + 1 ≤ line.size then plays (auOf q) (sta (auOf q) (P ++ [0]) (decide (i + 1 = 0)) true) (bytesOf line (i + 1)) (i + 1) else []) := by
      rw [hT, List.append_assoc, decide_eq_false (show ¬ i + 1 = 0 by omega)]
      rfl
    clear hT hP hOlt hO
    have wi : IntKind.i64.wrap ((i : Int) + 1) = ((i + 1 : Nat) : Int) := wrap_id (by omega) (by omega)
    subst hjO
    have htk : List.take O.length O = O := List.take_length
    (conv => whnf)
    refine brk_intro (fun c3 => ?_) (fun c3 => ?_)
    · replace c3 : O.any (auOf q).isM = true := by rw [← htk]; exact c3
      rw [c3] at hT2
      (conv => whnf)
      intro nb m7 hb he
      replace hS := hS.new' (l := nv [i]) hb he
      have hBn : m7.holds ⟨nb, 0, none⟩ (nv [i]) := (hS.blk 0 rfl).holds fun k v hk => by rw [Nat.zero_add]; exact hk
      clear hb he
      (conv => whnf)
      obtain ⟨ok, hR⟩ := hS.app 3 (T := tbl) (e := 3) (news := nv [i]) (k := 1) (B := some ⟨nb, 0, none⟩) rfl rfl (.inr ⟨_, rfl, hBn⟩) rfl rfl (by show 2 * (hits.length + _) * 8 ≤ 2 ^ 48; omega) rfl
      refine ⟨_, _, ok, fun A' c' m8 hr => ?_⟩
      replace hS := (hR _ _ _ hr).drop 0
      clear ok hR hr hBn
      replace hS : Sep (sl pA P.length pc 1 (nv P) :: sl A5 O.length c5 1 (nv O) :: sl A' (hits ++ [i]).length c' 1 (nv (hits ++ [i])) :: pt b3 q.cells :: R) m8 := by rw [nv_app, List.length_append]; exact hS
      (conv => whnf)
      exact ⟨(i + 1, hits ++ [i], A', c', P, pA, pc, m8), le_eq ⟨by show some (AV.v (.int .i64 (IntKind.i64.wrap ((i : Int) + 1)))) = _; rw [wi], sl_eq (by simp), rfl, rfl, rfl, trivial⟩ rfl rfl rfl, ⟨hS.drop 1, by simp only; omega, by simp only [List.length_append, List.length_singleton]; omega, hPn, hPl, hT2⟩, by simp only; omega⟩
    · replace c3 : O.any (auOf q).isM = false := by rw [← htk]; exact c3
      rw [c3] at hT2
      rw [if_neg (by decide), List.append_nil] at hT2
      (conv => whnf)
      exact ⟨(i + 1, hits, A, c, P, pA, pc, M6), le_eq ⟨by show some (AV.v (.int .i64 (IntKind.i64.wrap ((i : Int) + 1)))) = _; rw [wi], rfl, rfl, rfl, rfl, trivial⟩ rfl rfl rfl, ⟨hS.drop 1, by simp only; omega, by simp only; omega, hPn, hPl, hT2⟩, by simp only; omega⟩
  have c2 : ((j : Nat) : Int) < ((O.length : Nat) : Int) := of_decide_eq_true c2
  obtain ⟨x, hx⟩ : ∃ x, O[j]? = some x := ⟨_, List.getElem?_eq_getElem (by omega)⟩
  have hxO := List.mem_of_getElem? hx
  have hxn := hOlt x hxO
  obtain ⟨p5, hp5, hc5⟩ := (hS.rd 1 rfl).at (nv_get hx)
  obtain ⟨⟨op, ix, iy, i_n, mn, mx, s0, s1, s2, s3⟩, hi2⟩ : ∃ i, q.ins[x]? = some i := ⟨_, List.getElem?_eq_getElem hxn⟩
  obtain ⟨pi, hpi, hci⟩ := ins_at (hq _ ((((hS.drop 0).drop 0).drop 0).drop 0)) hi2
  (conv => whnf)
  refine ⟨_, _, _, hS.cell 3 (i := 0) rfl rfl, ?_⟩
  (conv => whnf)
  refine ⟨p5, hp5, by omega, by show ((j : Nat) : Int) < ((O.length : Nat) : Int); omega, ?_⟩
  (conv => whnf)
  refine ⟨_, by show M6.cell (p5.add (((j : Nat) : Int).toNat * 1)) = _; rw [Int.toNat_natCast, Nat.mul_one]; exact hc5, ?_⟩
  (conv => whnf)
  refine ⟨pi, hpi, by omega, by show ((x : Nat) : Int) < ((q.ins.length : Nat) : Int); omega, ?_⟩
  (conv => whnf)
  refine ⟨_, hci 0 _ rfl, ?_⟩
  (conv => whnf)
  refine ⟨_, hci 1 _ rfl, ?_⟩
  (conv => whnf)
  refine ⟨_, hci 2 _ rfl, ?_⟩
  (conv => whnf)
  refine ⟨_, hci 3 _ rfl, ?_⟩
  (conv => whnf)
  refine ⟨_, hci 4 _ rfl, ?_⟩
  (conv => whnf)
  refine ⟨_, hci 5 _ rfl, ?_⟩
  (conv => whnf)
  refine ⟨_, hci 6 _ rfl, ?_⟩
  (conv => whnf)
  refine ⟨_, hci 7 _ rfl, ?_⟩
  (conv => whnf)
  refine ⟨_, hci 8 _ rfl, ?_⟩
  (conv => whnf)
  refine ⟨_, hci 9 _ rfl, ?_⟩
  (conv => whnf)
  clear hci hpi
  intro bi m9 hb he
  replace hS := hS.new' (l := (tbl.at 46).zero.list) hb he
  clear hb he
  (conv => whnf)
  refine ⟨hS.rooms 0 (i := 0) rfl (by decide), fun m10 he => ?_⟩
  replace hS : Sep (pt bi (Ins.cells ⟨op, ix, iy, i_n, mn, mx, s0, s1, s2, s3⟩) :: sl pA P.length pc 1 (nv P) :: sl A5 O.length c5 1 (nv O) :: sl A hits.length c 1 (nv hits) :: pt b3 q.cells :: R) m10 := he ▸ hS.putAll 0 (i := 0) (Ins.cells ⟨op, ix, iy, i_n, mn, mx, s0, s1, s2, s3⟩) rfl
  clear he
  have hM : (auOf q).isM x = decide (op = 11) := by unfold auOf; simp only [hi2]
  have hB : (auOf q).isB x = decide (op = 1) := by unfold auOf; simp only [hi2]
  have hH : ∀ z, (auOf q).hs x z = bitOf ⟨op, ix, iy, i_n, mn, mx, s0, s1, s2, s3⟩ z := fun z => by unfold auOf; simp only [hi2]
  have hUx := hU _ (List.mem_of_getElem? hi2)
  have htk : O.take (j + 1) = O.take j ++ [x] := by rw [List.take_add_one, hx]; rfl
  have wj : IntKind.i64.wrap ((j : Int) + 1) = ((j + 1 : Nat) : Int) := wrap_id (by omega) (by omega)
  have k0 := hS.cell 0 (i := 0) rfl rfl
  have hany : (O.take (j + 1)).any (auOf q).isM = ((O.take j).any (auOf q).isM || decide (op = 11)) := by rw [htk, List.any_append, ← hM]; simp
  have hPl : P.length ≤ 40000 := by
    have h1 : P.length ≤ (O.take j).length := by rw [hP]; exact nxL_len
    have h2 : (O.take j).length ≤ O.length := by rw [List.length_take]; omega
    omega
  clear hi2 hM
  (conv => whnf)
  generalize hh2 : (O.take j).any (auOf q).isM = h2 at *
  cases h2 with
  | true =>
    by_cases h11 : op = 11
    · subst h11
      have hany2 : (O.take (j + 1)).any (auOf q).isM = true := hany.trans (by simp)
      (conv => whnf)
      repeat (refine ⟨_, k0, ?_⟩; (conv => whnf))
      exact ⟨(j + 1, P, pA, pc, m10), le_eq ⟨by show some (AV.v (.int .i64 (IntKind.i64.wrap ((j : Int) + 1)))) = _; rw [wj], (by dsimp only; rw [hany2]; rfl), rfl, rfl, rfl, rfl, rfl, rfl, trivial⟩ rfl rfl rfl, ⟨hS.drop 0, by simp only; omega, by dsimp only; rw [htk, nxL_snoc, if_neg (by rw [hB]; simp), List.append_nil]; exact hP⟩, by simp only; omega⟩
    have hany2 : (O.take (j + 1)).any (auOf q).isM = true := hany.trans (by simp [h11])
    by_cases h1 : op = 1
    · subst h1
      (conv => whnf)
      repeat (refine ⟨_, k0, ?_⟩; (conv => whnf))
      by_cases hl : i < line.size
      · refine brk_true (by simp; omega) ?_
        (conv => whnf)
        refine ⟨[s0, s1, s2, s3], rfl, fun k hk => ?_, ?_⟩
        · rcases (show k = 0 ∨ k = 1 ∨ k = 2 ∨ k = 3 by omega) with rfl | rfl | rfl | rfl
          · exact hS.cell 0 (i := 6) rfl rfl
          · exact hS.cell 0 (i := 7) rfl rfl
          · exact hS.cell 0 (i := 8) rfl rfl
          · exact hS.cell 0 (i := 9) rfl rfl
        (conv => whnf)
        refine ⟨by show (0 : Int) ≤ ((i : Nat) : Int); omega, by show ((i : Nat) : Int) < ((line.size : Nat) : Int); omega, ?_⟩
        (conv => whnf)
        rw [show IntKind.i64.wrap (bt line ((i : Nat) : Int)) = (((line.data.toList.getD i 0).toNat : Nat) : Int) from bt_wrap]
        refine ⟨_, in_c (i := ⟨1, ix, iy, i_n, mn, mx, s0, s1, s2, s3⟩) (c := (line.data.toList.getD i 0).toNat) (UInt8.toNat_lt _) hUx, ?_⟩
        (conv => whnf)
        refine brk_intro (fun c4 => ?_) (fun c4 => ?_)
        · replace c4 : bitOf ⟨1, ix, iy, i_n, mn, mx, s0, s1, s2, s3⟩ (line.data.toList.getD i 0).toNat = true := c4
          obtain ⟨p6, hp6, hc6⟩ := (hS.rd 2 rfl).at (nv_get hx)
          have wx : IntKind.i64.wrap ((x : Int) + 1) = ((x + 1 : Nat) : Int) := wrap_id (by omega) (by omega)
          have ex : nv [x + 1] = [.int .i64 (IntKind.i64.wrap ((x : Int) + 1))] := by rw [wx]; rfl
          (conv => whnf)
          refine ⟨p6, hp6, by show (0 : Int) ≤ ((j : Nat) : Int); omega, by show ((j : Nat) : Int) < ((O.length : Nat) : Int); omega, ?_⟩
          (conv => whnf)
          refine ⟨_, by show m10.cell (p6.add (((j : Nat) : Int).toNat * 1)) = _; rw [Int.toNat_natCast, Nat.mul_one]; exact hc6, ?_⟩
          (conv => whnf)
          intro nb2 m13 hb he
          replace hS := hS.new' (l := [.int .i64 (IntKind.i64.wrap ((x : Int) + 1))]) hb he
          rw [← ex] at hS
          have hBn : m13.holds ⟨nb2, 0, none⟩ (nv [x + 1]) := (hS.blk 0 rfl).holds fun k v hk => by rw [Nat.zero_add]; exact hk
          clear hb he
          (conv => whnf)
          obtain ⟨ok, hR⟩ := hS.app 2 (T := tbl) (e := 3) (news := nv [x + 1]) (k := 1) (B := some ⟨nb2, 0, none⟩) rfl rfl (.inr ⟨_, rfl, hBn⟩) rfl rfl (by show 2 * (P.length + _) * 8 ≤ 2 ^ 48; omega) rfl
          refine ⟨_, _, ok, fun pA' pc' m14 hr => ?_⟩
          replace hS := (hR _ _ _ hr).drop 0
          clear ok hR hr hBn
          replace hS : Sep (pt bi (Ins.cells ⟨1, ix, iy, i_n, mn, mx, s0, s1, s2, s3⟩) :: sl pA' (P ++ [x + 1]).length pc' 1 (nv (P ++ [x + 1])) :: sl A5 O.length c5 1 (nv O) :: sl A hits.length c 1 (nv hits) :: pt b3 q.cells :: R) m14 := by rw [nv_app, List.length_append]; exact hS
          (conv => whnf)
          exact ⟨(j + 1, P ++ [x + 1], pA', pc', m14), le_eq ⟨by show some (AV.v (.int .i64 (IntKind.i64.wrap ((j : Int) + 1)))) = _; rw [wj], (by dsimp only; rw [hany2]; rfl), sl_eq (by simp), rfl, rfl, rfl, rfl, rfl, trivial⟩ rfl rfl rfl, ⟨hS.drop 0, by simp only; omega, by dsimp only; rw [htk, nxL_snoc, if_pos (by rw [hB, hH, c4, decide_eq_true hl]; rfl), ← hP]⟩, by simp only; omega⟩
        · replace c4 : bitOf ⟨1, ix, iy, i_n, mn, mx, s0, s1, s2, s3⟩ (line.data.toList.getD i 0).toNat = false := c4
          (conv => whnf)
          exact ⟨(j + 1, P, pA, pc, m10), le_eq ⟨by show some (AV.v (.int .i64 (IntKind.i64.wrap ((j : Int) + 1)))) = _; rw [wj], (by dsimp only; rw [hany2]; rfl), rfl, rfl, rfl, rfl, rfl, rfl, trivial⟩ rfl rfl rfl, ⟨hS.drop 0, by simp only; omega, by dsimp only; rw [htk, nxL_snoc, if_neg (by rw [hB, hH, c4]; simp), List.append_nil]; exact hP⟩, by simp only; omega⟩
      · refine brk_false (by simp; omega) ?_
        (conv => whnf)
        exact ⟨(j + 1, P, pA, pc, m10), le_eq ⟨by show some (AV.v (.int .i64 (IntKind.i64.wrap ((j : Int) + 1)))) = _; rw [wj], (by dsimp only; rw [hany2]; rfl), rfl, rfl, rfl, rfl, rfl, rfl, trivial⟩ rfl rfl rfl, ⟨hS.drop 0, by simp only; omega, by dsimp only; rw [htk, nxL_snoc, if_neg (by rw [decide_eq_false hl]; simp), List.append_nil]; exact hP⟩, by simp only; omega⟩
    (conv => whnf)
    repeat (refine ⟨_, k0, ?_⟩; (conv => whnf))
    refine brk_false (by simp [h1]) ?_
    (conv => whnf)
    exact ⟨(j + 1, P, pA, pc, m10), le_eq ⟨by show some (AV.v (.int .i64 (IntKind.i64.wrap ((j : Int) + 1)))) = _; rw [wj], (by show some (AV.v (.bool true)) = some (AV.v (.bool ((O.take (j + 1)).any (auOf q).isM))); rw [hany2]), rfl, rfl, rfl, rfl, rfl, rfl, trivial⟩ rfl rfl rfl, ⟨hS.drop 0, by simp only; omega, by dsimp only; rw [htk, nxL_snoc, if_neg (by rw [hB, decide_eq_false h1]; simp), List.append_nil]; exact hP⟩, by simp only; omega⟩
  | false =>
    by_cases h11 : op = 11
    · subst h11
      have hany2 : (O.take (j + 1)).any (auOf q).isM = true := hany.trans (by simp)
      (conv => whnf)
      repeat (refine ⟨_, k0, ?_⟩; (conv => whnf))
      exact ⟨(j + 1, P, pA, pc, m10), le_eq ⟨by show some (AV.v (.int .i64 (IntKind.i64.wrap ((j : Int) + 1)))) = _; rw [wj], (by dsimp only; rw [hany2]; rfl), rfl, rfl, rfl, rfl, rfl, rfl, trivial⟩ rfl rfl rfl, ⟨hS.drop 0, by simp only; omega, by dsimp only; rw [htk, nxL_snoc, if_neg (by rw [hB]; simp), List.append_nil]; exact hP⟩, by simp only; omega⟩
    have hany2 : (O.take (j + 1)).any (auOf q).isM = false := hany.trans (by simp [h11])
    by_cases h1 : op = 1
    · subst h1
      (conv => whnf)
      repeat (refine ⟨_, k0, ?_⟩; (conv => whnf))
      by_cases hl : i < line.size
      · refine brk_true (by simp; omega) ?_
        (conv => whnf)
        refine ⟨[s0, s1, s2, s3], rfl, fun k hk => ?_, ?_⟩
        · rcases (show k = 0 ∨ k = 1 ∨ k = 2 ∨ k = 3 by omega) with rfl | rfl | rfl | rfl
          · exact hS.cell 0 (i := 6) rfl rfl
          · exact hS.cell 0 (i := 7) rfl rfl
          · exact hS.cell 0 (i := 8) rfl rfl
          · exact hS.cell 0 (i := 9) rfl rfl
        (conv => whnf)
        refine ⟨by show (0 : Int) ≤ ((i : Nat) : Int); omega, by show ((i : Nat) : Int) < ((line.size : Nat) : Int); omega, ?_⟩
        (conv => whnf)
        rw [show IntKind.i64.wrap (bt line ((i : Nat) : Int)) = (((line.data.toList.getD i 0).toNat : Nat) : Int) from bt_wrap]
        refine ⟨_, in_c (i := ⟨1, ix, iy, i_n, mn, mx, s0, s1, s2, s3⟩) (c := (line.data.toList.getD i 0).toNat) (UInt8.toNat_lt _) hUx, ?_⟩
        (conv => whnf)
        refine brk_intro (fun c4 => ?_) (fun c4 => ?_)
        · replace c4 : bitOf ⟨1, ix, iy, i_n, mn, mx, s0, s1, s2, s3⟩ (line.data.toList.getD i 0).toNat = true := c4
          obtain ⟨p6, hp6, hc6⟩ := (hS.rd 2 rfl).at (nv_get hx)
          have wx : IntKind.i64.wrap ((x : Int) + 1) = ((x + 1 : Nat) : Int) := wrap_id (by omega) (by omega)
          have ex : nv [x + 1] = [.int .i64 (IntKind.i64.wrap ((x : Int) + 1))] := by rw [wx]; rfl
          (conv => whnf)
          refine ⟨p6, hp6, by show (0 : Int) ≤ ((j : Nat) : Int); omega, by show ((j : Nat) : Int) < ((O.length : Nat) : Int); omega, ?_⟩
          (conv => whnf)
          refine ⟨_, by show m10.cell (p6.add (((j : Nat) : Int).toNat * 1)) = _; rw [Int.toNat_natCast, Nat.mul_one]; exact hc6, ?_⟩
          (conv => whnf)
          intro nb2 m13 hb he
          replace hS := hS.new' (l := [.int .i64 (IntKind.i64.wrap ((x : Int) + 1))]) hb he
          rw [← ex] at hS
          have hBn : m13.holds ⟨nb2, 0, none⟩ (nv [x + 1]) := (hS.blk 0 rfl).holds fun k v hk => by rw [Nat.zero_add]; exact hk
          clear hb he
          (conv => whnf)
          obtain ⟨ok, hR⟩ := hS.app 2 (T := tbl) (e := 3) (news := nv [x + 1]) (k := 1) (B := some ⟨nb2, 0, none⟩) rfl rfl (.inr ⟨_, rfl, hBn⟩) rfl rfl (by show 2 * (P.length + _) * 8 ≤ 2 ^ 48; omega) rfl
          refine ⟨_, _, ok, fun pA' pc' m14 hr => ?_⟩
          replace hS := (hR _ _ _ hr).drop 0
          clear ok hR hr hBn
          replace hS : Sep (pt bi (Ins.cells ⟨1, ix, iy, i_n, mn, mx, s0, s1, s2, s3⟩) :: sl pA' (P ++ [x + 1]).length pc' 1 (nv (P ++ [x + 1])) :: sl A5 O.length c5 1 (nv O) :: sl A hits.length c 1 (nv hits) :: pt b3 q.cells :: R) m14 := by rw [nv_app, List.length_append]; exact hS
          (conv => whnf)
          exact ⟨(j + 1, P ++ [x + 1], pA', pc', m14), le_eq ⟨by show some (AV.v (.int .i64 (IntKind.i64.wrap ((j : Int) + 1)))) = _; rw [wj], (by dsimp only; rw [hany2]; rfl), sl_eq (by simp), rfl, rfl, rfl, rfl, rfl, trivial⟩ rfl rfl rfl, ⟨hS.drop 0, by simp only; omega, by dsimp only; rw [htk, nxL_snoc, if_pos (by rw [hB, hH, c4, decide_eq_true hl]; rfl), ← hP]⟩, by simp only; omega⟩
        · replace c4 : bitOf ⟨1, ix, iy, i_n, mn, mx, s0, s1, s2, s3⟩ (line.data.toList.getD i 0).toNat = false := c4
          (conv => whnf)
          exact ⟨(j + 1, P, pA, pc, m10), le_eq ⟨by show some (AV.v (.int .i64 (IntKind.i64.wrap ((j : Int) + 1)))) = _; rw [wj], (by dsimp only; rw [hany2]; rfl), rfl, rfl, rfl, rfl, rfl, rfl, trivial⟩ rfl rfl rfl, ⟨hS.drop 0, by simp only; omega, by dsimp only; rw [htk, nxL_snoc, if_neg (by rw [hB, hH, c4]; simp), List.append_nil]; exact hP⟩, by simp only; omega⟩
      · refine brk_false (by simp; omega) ?_
        (conv => whnf)
        exact ⟨(j + 1, P, pA, pc, m10), le_eq ⟨by show some (AV.v (.int .i64 (IntKind.i64.wrap ((j : Int) + 1)))) = _; rw [wj], (by dsimp only; rw [hany2]; rfl), rfl, rfl, rfl, rfl, rfl, rfl, trivial⟩ rfl rfl rfl, ⟨hS.drop 0, by simp only; omega, by dsimp only; rw [htk, nxL_snoc, if_neg (by rw [decide_eq_false hl]; simp), List.append_nil]; exact hP⟩, by simp only; omega⟩
    (conv => whnf)
    repeat (refine ⟨_, k0, ?_⟩; (conv => whnf))
    refine brk_false (by simp [h1]) ?_
    (conv => whnf)
    exact ⟨(j + 1, P, pA, pc, m10), le_eq ⟨by show some (AV.v (.int .i64 (IntKind.i64.wrap ((j : Int) + 1)))) = _; rw [wj], (by show some (AV.v (.bool (op == 11))) = some (AV.v (.bool ((O.take (j + 1)).any (auOf q).isM))); rw [hany2, show (op == 11) = false by simpa using h11]), rfl, rfl, rfl, rfl, rfl, rfl, trivial⟩ rfl rfl rfl, ⟨hS.drop 0, by simp only; omega, by dsimp only; rw [htk, nxL_snoc, if_neg (by rw [hB, decide_eq_false h1]; simp), List.append_nil]; exact hP⟩, by simp only; omega⟩
end Go.Proofs.Ytkkcdfnlmhmheaa
/- Dfa: the plain law of the document's rows: the greatest place that is told from one instruction. -/
namespace Go.Proofs.Ytkkcdfnlmhmheaa
open Go Go.Mv
set_option maxHeartbeats 1000000
set_option maxRecDepth 10000
set_option linter.unusedVariables false
set_option linter.unusedSimpArgs false
def gmax : List Nat → Int
  | [] => -1
  | e :: r => max (e : Int) (gmax r)
theorem gmax_le {e : Nat} : ∀ {T : List Nat}, e ∈ T → (e : Int) ≤ gmax T
  | [], h => by cases h
  | a :: r, h => by
    unfold gmax
    rcases List.mem_cons.1 h with rfl | h
    · omega
    · have := gmax_le h
      omega
theorem gmax_is : ∀ (T : List Nat), gmax T = -1 ∨ ∃ e, e ∈ T ∧ gmax T = (e : Int)
  | [] => .inl rfl
  | a :: r => by
    unfold gmax
    rcases gmax_is r with h | ⟨e, h1, h2⟩
    · exact .inr ⟨a, by simp, by omega⟩
    · rcases Int.le_total (a : Int) (gmax r) with h | h
      · exact .inr ⟨e, by simp [h1], by omega⟩
      · exact .inr ⟨a, by simp, by omega⟩
theorem gmax_ge (T : List Nat) : -1 ≤ gmax T := by
  rcases gmax_is T with h | ⟨e, _, h⟩ <;> omega
theorem gmax_up {T : List Nat} {v : Int} (h0 : -1 ≤ v) (h : ∀ e, e ∈ T → (e : Int) ≤ v) : gmax T ≤ v := by
  rcases gmax_is T with h1 | ⟨e, h1, h2⟩
  · omega
  · rw [h2]; exact h e h1
theorem plays_sort {A : Au} : ∀ {r : List Nat} {s : Sta} {at' : Nat}, (plays A s r at').Pairwise (· < ·)
  | [], s, at' => by
    unfold plays
    split
    · simp
    · exact List.Pairwise.nil
  | c :: r, s, at' => by
    unfold plays
    rw [List.pairwise_append]
    refine ⟨by split <;> simp, plays_sort, fun a ha b hb => ?_⟩
    have h1 := (plays_ge b hb).1
    split at ha
    · rw [List.mem_singleton] at ha
      omega
    · cases ha
theorem gmax_last : ∀ {T : List Nat}, T.Pairwise (· < ·) → lastI T = max (gmax T) 0 ∧ (T.isEmpty = false ↔ 0 ≤ gmax T)
  | [], _ => by
    refine ⟨rfl, ?_⟩
    unfold gmax
    simp
  | a :: r, h => by
    obtain ⟨h1, h2⟩ := List.pairwise_cons.1 h
    have ih := gmax_last h2
    have hg : gmax (a :: r) = max (a : Int) (gmax r) := rfl
    cases r with
    | nil =>
      refine ⟨?_, ?_⟩
      · show ((a : Nat) : Int) = _
        rw [hg]
        show ((a : Nat) : Int) = max (max (a : Int) (-1)) 0
        omega
      · rw [hg]
        show false = false ↔ 0 ≤ max (a : Int) (-1)
        exact ⟨fun _ => by omega, fun _ => rfl⟩
    | cons b t =>
      have hb := h1 b (by simp)
      have hbm : (b : Int) ≤ gmax (b :: t) := gmax_le (by simp)
      have hl : lastI (a :: b :: t) = lastI (b :: t) := by
        unfold lastI
        rw [List.getLast?_cons_cons]
      rw [hl, ih.1, hg]
      refine ⟨by omega, ⟨fun _ => by omega, fun _ => rfl⟩⟩
theorem rch_one {A : Au} {f l : Bool} {S : List Nat} {x : Nat} : Rch A f l S x ↔ ∃ k, k ∈ S ∧ Rch A f l [k] x := by
  constructor
  · intro h
    induction h with
    | base h => exact ⟨_, h, .base (by simp)⟩
    | step _ hj ih =>
      obtain ⟨k, h1, h2⟩ := ih
      exact ⟨k, h1, .step h2 hj⟩
  · rintro ⟨k, h1, h2⟩
    exact h2.mono (fun y hy => by rw [List.mem_singleton] at hy; exact hy ▸ .base h1) fun _ _ _ h => h
theorem mts_one {A : Au} {f l : Bool} {S : List Nat} : mts A f l S = true ↔ ∃ k, k ∈ S ∧ mts A f l [k] = true := by
  rw [mts_iff]
  constructor
  · rintro ⟨x, h1, h2⟩
    obtain ⟨k, hk, h3⟩ := rch_one.1 h1
    exact ⟨k, hk, mts_iff.2 ⟨x, h3, h2⟩⟩
  · rintro ⟨k, hk, h1⟩
    obtain ⟨x, h3, h2⟩ := mts_iff.1 h1
    exact ⟨x, rch_one.2 ⟨k, hk, h3⟩, h2⟩
theorem nxt_one {A : Au} {f : Bool} {S : List Nat} {c y : Nat} : y ∈ aNxt A (sta A S f false) c ↔ ∃ k, k ∈ S ∧ y ∈ aNxt A (sta A [k] f false) c := by
  unfold aNxt
  simp only [sta, List.mem_append, List.mem_map, List.mem_filter, mem_rds]
  constructor
  · rintro (⟨x, ⟨⟨h1, h2, h3⟩, h4⟩, h5⟩ | h)
    · obtain ⟨k, hk, h6⟩ := rch_one.1 h2
      exact ⟨k, hk, .inl ⟨x, ⟨⟨h1, h6, h3⟩, h4⟩, h5⟩⟩
    · simp at h
  · rintro ⟨k, hk, ⟨x, ⟨⟨h1, h2, h3⟩, h4⟩, h5⟩ | h⟩
    · exact .inl ⟨x, ⟨⟨h1, rch_one.2 ⟨k, hk, h2⟩, h3⟩, h4⟩, h5⟩
    · simp at h
theorem plays_one {A : Au} {e : Nat} : ∀ {r : List Nat} {S : List Nat} {f : Bool} {at' : Nat}, e ∈ plays A (sta A S f false) r at' ↔ ∃ k, k ∈ S ∧ e ∈ plays A (sta A [k] f false) r at'
  | [], S, f, at' => by
    have h : ∀ T : List Nat, e ∈ plays A (sta A T f false) [] at' ↔ (mts A f false T = true ∨ mts A f true T = true) ∧ e = at' := fun T => by
      show e ∈ (if (mts A f false T || mts A f true T) = true then [at'] else []) ↔ _
      split
      · rename_i h
        simp only [Bool.or_eq_true] at h
        simp [h]
      · rename_i h
        simp only [Bool.or_eq_true] at h
        simp [h]
    rw [h]
    constructor
    · rintro ⟨h1 | h1, h2⟩
      · obtain ⟨k, hk, h3⟩ := mts_one.1 h1
        exact ⟨k, hk, (h _).2 ⟨.inl h3, h2⟩⟩
      · obtain ⟨k, hk, h3⟩ := mts_one.1 h1
        exact ⟨k, hk, (h _).2 ⟨.inr h3, h2⟩⟩
    · rintro ⟨k, hk, h1⟩
      obtain ⟨h1 | h1, h2⟩ := (h _).1 h1
      · exact ⟨.inl (mts_one.2 ⟨k, hk, h1⟩), h2⟩
      · exact ⟨.inr (mts_one.2 ⟨k, hk, h1⟩), h2⟩
  | c :: r, S, f, at' => by
    have h : ∀ T : List Nat, e ∈ plays A (sta A T f false) (c :: r) at' ↔ (mts A f false T = true ∧ e = at') ∨ ∃ y, y ∈ aNxt A (sta A T f false) c ∧ e ∈ plays A (sta A [y] false false) r (at' + 1) := fun T => by
      show e ∈ (if mts A f false T = true then [at'] else []) ++ plays A (sta A (aNxt A (sta A T f false) c) false false) r (at' + 1) ↔ _
      rw [List.mem_append, plays_one (r := r)]
      split
      · rename_i h
        simp [h]
      · rename_i h
        simp [h]
    rw [h]
    constructor
    · rintro (⟨h1, h2⟩ | ⟨y, h1, h2⟩)
      · obtain ⟨k, hk, h3⟩ := mts_one.1 h1
        exact ⟨k, hk, (h _).2 (.inl ⟨h3, h2⟩)⟩
      · obtain ⟨k, hk, h3⟩ := nxt_one.1 h1
        exact ⟨k, hk, (h _).2 (.inr ⟨y, h3, h2⟩)⟩
    · rintro ⟨k, hk, h1⟩
      rcases (h _).1 h1 with ⟨h1, h2⟩ | ⟨y, h1, h2⟩
      · exact .inl ⟨mts_one.2 ⟨k, hk, h1⟩, h2⟩
      · exact .inr ⟨y, nxt_one.2 ⟨k, hk, h1⟩, h2⟩
/-- The greatest place that is told from an instruction at a place. -/
noncomputable def Gr0 (A : Au) (line : ByteArray) (i k : Nat) : Int := gmax (plays A (sta A [k] (decide (i = 0)) false) (bytesOf line i) i)
/-- What an instruction tells by itself. -/
noncomputable def Lo (A : Au) (line : ByteArray) (i x : Nat) : Int := if A.isM x then (i : Int) else if A.isB x && (decide (i < line.size) && A.hs x (line.data.toList.getD i 0).toNat) then Gr0 A line (i + 1) (x + 1) else -1
theorem told_iff {q : Prg} {line : ByteArray} {i k e : Nat} (hg : GoodP q) (hk : k < q.ins.length) (hi : i ≤ line.size) :
    e ∈ plays (auOf q) (sta (auOf q) [k] (decide (i = 0)) false) (bytesOf line i) i ↔ ∃ x, Rch (auOf q) (decide (i = 0)) (decide (i = line.size)) [k] x ∧ (((auOf q).isM x = true ∧ e = i) ∨ ((auOf q).isB x = true ∧ i < line.size ∧ (auOf q).hs x (line.data.toList.getD i 0).toNat = true ∧ e ∈ plays (auOf q) (sta (auOf q) [x + 1] false false) (bytesOf line (i + 1)) (i + 1))) := by
  rcases Nat.lt_or_ge i line.size with hl | hl
  · rw [decide_eq_false (show ¬ i = line.size by omega), bytes_at hl]
    show e ∈ (if mts (auOf q) (decide (i = 0)) false [k] = true then [i] else []) ++ plays (auOf q) (sta (auOf q) (aNxt (auOf q) (sta (auOf q) [k] (decide (i = 0)) false) (line.data.toList.getD i 0).toNat) false false) (bytesOf line (i + 1)) (i + 1) ↔ _
    rw [List.mem_append, plays_one]
    constructor
    · rintro (h | ⟨y, h1, h2⟩)
      · split at h
        · rename_i hm
          obtain ⟨x, h1, h2⟩ := mts_iff.1 hm
          rw [List.mem_singleton] at h
          exact ⟨x, h1, .inl ⟨h2, h⟩⟩
        · cases h
      · unfold aNxt at h1
        simp only [sta, List.mem_append, List.mem_map, List.mem_filter, mem_rds] at h1
        rcases h1 with ⟨x, ⟨⟨_, h3, h4⟩, h5⟩, rfl⟩ | h
        · exact ⟨x, h3, .inr ⟨h4, hl, h5, h2⟩⟩
        · simp at h
    · rintro ⟨x, h1, ⟨h2, h3⟩ | ⟨h2, _, h3, h4⟩⟩
      · left
        rw [if_pos (mts_iff.2 ⟨x, h1, h2⟩), h3]
        simp
      · right
        refine ⟨x + 1, ?_, h4⟩
        unfold aNxt
        simp only [sta, List.mem_append, List.mem_map, List.mem_filter, mem_rds]
        exact .inl ⟨x, ⟨⟨rch_lt hg (by simpa using hk) h1, h1, h2⟩, h3⟩, rfl⟩
  · rw [decide_eq_true (show i = line.size by omega), bytes_end hl]
    show e ∈ (if (mts (auOf q) (decide (i = 0)) false [k] || mts (auOf q) (decide (i = 0)) true [k]) = true then [i] else []) ↔ _
    constructor
    · intro h
      split at h
      · rename_i hm
        have hm2 : mts (auOf q) (decide (i = 0)) true [k] = true := by
          rw [Bool.or_eq_true] at hm
          exact hm.elim mts_mono id
        obtain ⟨x, h1, h2⟩ := mts_iff.1 hm2
        rw [List.mem_singleton] at h
        exact ⟨x, h1, .inl ⟨h2, h⟩⟩
      · cases h
    · rintro ⟨x, h1, ⟨h2, h3⟩ | ⟨_, h2, _⟩⟩
      · rw [if_pos (by rw [mts_iff.2 ⟨x, h1, h2⟩, Bool.or_true]), h3]
        simp
      · omega
theorem lo_ge {A : Au} {line : ByteArray} {i x : Nat} : -1 ≤ Lo A line i x := by
  unfold Lo Gr0
  repeat' split
  · omega
  · exact gmax_ge _
  · omega
theorem lo_le {q : Prg} {line : ByteArray} {i k x : Nat} (hg : GoodP q) (hk : k < q.ins.length) (hi : i ≤ line.size) (hx : Rch (auOf q) (decide (i = 0)) (decide (i = line.size)) [k] x) : Lo (auOf q) line i x ≤ Gr0 (auOf q) line i k := by
  unfold Lo
  split
  · rename_i hm
    exact gmax_le ((told_iff hg hk hi).2 ⟨x, hx, .inl ⟨hm, rfl⟩⟩)
  · split
    · rename_i _ hb
      simp only [Bool.and_eq_true, decide_eq_true_eq] at hb
      unfold Gr0
      rw [decide_eq_false (show ¬ i + 1 = 0 by omega)]
      exact gmax_up (gmax_ge _) fun e he => gmax_le ((told_iff hg hk hi).2 ⟨x, hx, .inr ⟨hb.1, hb.2.1, hb.2.2, he⟩⟩)
    · exact gmax_ge _
theorem gr_le {q : Prg} {line : ByteArray} {i k : Nat} {v : Int} (hg : GoodP q) (hk : k < q.ins.length) (hi : i ≤ line.size) (h0 : -1 ≤ v) (h : ∀ x, Rch (auOf q) (decide (i = 0)) (decide (i = line.size)) [k] x → Lo (auOf q) line i x ≤ v) : Gr0 (auOf q) line i k ≤ v := by
  refine gmax_up h0 fun e he => ?_
  obtain ⟨x, hx, h1⟩ := (told_iff hg hk hi).1 he
  refine Int.le_trans ?_ (h x hx)
  unfold Lo
  rcases h1 with ⟨h2, rfl⟩ | ⟨h2, h3, h4, h5⟩
  · rw [if_pos h2]
    exact Int.le_refl _
  · split
    · rename_i hm
      exfalso
      unfold auOf at hm h2
      simp only at hm h2
      cases hi2 : q.ins[x]? with
      | none => rw [hi2] at hm; cases hm
      | some j =>
        rw [hi2] at hm h2
        have a1 : j.op = 11 := by simpa using hm
        have a2 : j.op = 1 := by simpa using h2
        omega
    · rw [if_pos (by rw [h2, decide_eq_true h3, h4]; rfl)]
      unfold Gr0
      rw [decide_eq_false (show ¬ i + 1 = 0 by omega)]
      exact gmax_le h5
end Go.Proofs.Ytkkcdfnlmhmheaa
/- Dfa: the document's rows. -/
namespace Go.Proofs.Ytkkcdfnlmhmheaa
open Go Go.Mv
set_option maxHeartbeats 4000000
set_option maxRecDepth 10000
set_option linter.unusedVariables false
set_option linter.unusedSimpArgs false
theorem freeze_pt {K m : Mem} {R : List Asn} {b : Nat} {l : List Value} (h : Sep (pt b l :: kp K :: R) m) : ∃ K', K.le K' ∧ Rd K' (some ⟨b, 0, none⟩) l ∧ Sep (kp K' :: R) m := by
  obtain ⟨m1, m2, h1, h2, h3, hA, hR⟩ := Sep.group (L := [pt b l, kp K]) (R := R) h
  exact ⟨m1, hA.kept 1 rfl, .inr ⟨_, rfl, fun k v hk => by rw [add_mk, Nat.zero_add]; exact hA.cell 0 rfl hk⟩, m1, m2, h1, h2, h3, Mem.le_refl _, hR⟩
theorem gr_on {q : Prg} {line : ByteArray} {i k j : Nat} (hg : GoodP q) (hk : k < q.ins.length) (hi : i ≤ line.size) (hj : j ∈ (auOf q).sc (decide (i = 0)) (decide (i = line.size)) k) : Gr0 (auOf q) line i j ≤ Gr0 (auOf q) line i k :=
  gr_le hg (sc_lt hg hj) hi (gmax_ge _) fun x hx => lo_le hg hk hi (hx.mono (fun y hy => by
    rw [List.mem_singleton] at hy
    subst hy
    exact .step (.base (by simp)) hj) fun _ _ _ h => h)
/-- What is found for one instruction, of a row as it stands. -/
structure Bs (q : Prg) (line : ByteArray) (i k : Nat) (V : List Int) (b : Int) : Prop where
  is : b = -1 ∨ b = Lo (auOf q) line i k ∨ ∃ j, j ∈ (auOf q).sc (decide (i = 0)) (decide (i = line.size)) k ∧ b = V.getD j 0
  lo : Lo (auOf q) line i k ≤ b
  on : ∀ j, j ∈ (auOf q).sc (decide (i = 0)) (decide (i = line.size)) k → V.getD j 0 ≤ b
/-- A row while it grows. -/
structure Rw (q : Prg) (line : ByteArray) (i : Nat) (V : List Int) : Prop where
  len : V.length = q.ins.length
  ge : ∀ k, k < q.ins.length → -1 ≤ V.getD k 0
  le : ∀ k, k < q.ins.length → V.getD k 0 ≤ Gr0 (auOf q) line i k
theorem gr_top {A : Au} {line : ByteArray} {i k : Nat} (hi : i ≤ line.size) : Gr0 A line i k ≤ (line.size : Int) := gmax_up (by omega) fun e he => by
  have := (plays_ge e he).2
  rw [bytes_len] at this
  omega
theorem Bs.le {q : Prg} {line : ByteArray} {i k : Nat} {V : List Int} {b : Int} (hg : GoodP q) (hk : k < q.ins.length) (hi : i ≤ line.size) (hV : Rw q line i V) (h : Bs q line i k V b) : b ≤ Gr0 (auOf q) line i k := by
  rcases h.is with h1 | h1 | ⟨j, hj, h1⟩
  · rw [h1]
    exact gmax_ge _
  · rw [h1]
    exact lo_le hg hk hi (.base (by simp))
  · rw [h1]
    exact Int.le_trans (hV.le j (sc_lt hg hj)) (gr_on hg hk hi hj)
def rest (line : ByteArray) (V : List Int) : Nat := (V.map fun v => ((line.size : Int) - v).toNat).sum
theorem getD_set {V : List Int} {k j : Nat} {b : Int} (hk : k < V.length) : (V.set k b).getD j 0 = if j = k then b else V.getD j 0 := by
  by_cases h : j = k
  · subst h
    rw [if_pos rfl]
    simp [List.getD, hk]
  · rw [if_neg h]
    simp [List.getD, List.getElem?_set_ne (Ne.symm h)]
theorem rest_set {line : ByteArray} : ∀ {V : List Int} {k : Nat} {b : Int}, k < V.length → V.getD k 0 < b → b ≤ (line.size : Int) → rest line (V.set k b) < rest line V
  | [], k, b, hk, _, _ => by simp at hk
  | v :: V, 0, b, hk, h1, h2 => by
    have h1 : v < b := h1
    show ((line.size : Int) - b).toNat + rest line V < ((line.size : Int) - v).toNat + rest line V
    omega
  | v :: V, k + 1, b, hk, h1, h2 => by
    have := rest_set (line := line) (V := V) (k := k) (b := b) (by simpa using hk) h1 h2
    show ((line.size : Int) - v).toNat + rest line (V.set k b) < ((line.size : Int) - v).toNat + rest line V
    omega
theorem Rw.set {q : Prg} {line : ByteArray} {i k : Nat} {V : List Int} {b : Int} (hV : Rw q line i V) (hk : k < q.ins.length) (h1 : V.getD k 0 < b) (h2 : b ≤ Gr0 (auOf q) line i k) : Rw q line i (V.set k b) := by
  refine ⟨by rw [List.length_set]; exact hV.len, fun j hj => ?_, fun j hj => ?_⟩ <;> rw [getD_set (by rw [hV.len]; exact hk)] <;> split
  · have := hV.ge k hk
    omega
  · exact hV.ge j hj
  · rename_i h
    rw [h]
    exact h2
  · exact hV.le j hj
/-- When a pass found nothing. -/
theorem Rw.full {q : Prg} {line : ByteArray} {i : Nat} {V : List Int} (hg : GoodP q) (hi : i ≤ line.size) (hV : Rw q line i V) (h : ∀ k, k < q.ins.length → ∃ b, Bs q line i k V b ∧ b ≤ V.getD k 0) (k : Nat) (hk : k < q.ins.length) : V.getD k 0 = Gr0 (auOf q) line i k := by
  refine Int.le_antisymm (hV.le k hk) (gr_le hg hk hi (hV.ge k hk) fun x hx => ?_)
  have hlt : ∀ x, Rch (auOf q) (decide (i = 0)) (decide (i = line.size)) [k] x → x < q.ins.length := fun x hx => rch_lt hg (by simpa using hk) hx
  have hm : V.getD x 0 ≤ V.getD k 0 := by
    induction hx with
    | base h => rw [List.mem_singleton] at h; rw [h]; exact Int.le_refl _
    | step hr hj ih =>
      obtain ⟨b, hb, hle⟩ := h _ (hlt _ hr)
      exact Int.le_trans (hb.on _ hj) (Int.le_trans hle ih)
  obtain ⟨b, hb, hle⟩ := h x (hlt x hx)
  exact Int.le_trans hb.lo (Int.le_trans hle hm)
end Go.Proofs.Ytkkcdfnlmhmheaa
