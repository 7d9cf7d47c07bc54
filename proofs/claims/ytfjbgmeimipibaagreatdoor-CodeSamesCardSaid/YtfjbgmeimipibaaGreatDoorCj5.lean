/- Texts that the claim leans on, joined: CoQ, CoR, CoS, CoT, CoU, CoV, CoLaid, CoIn. -/
import Derived.Test.YtfjbgmeimipibaaGreatDoorCj4
import Derived.Test.YtfjbgmeimipibaaGreatDoorRows
import Derived.Test.YtfjbgmeimipibaaGreatDoorTie
import Derived.Test.YtfjbgmeimipibaaGreatDoorCards
import Derived.WalkKit
import Derived.ProofKit
import Derived.OpenShut
import Derived.Below
import Derived.LaidMore
import Derived.SevenTiedAt
import Derived.Lib.LaidU8
import Derived.Deep.DeepHandedRow
import Derived.Lay
import Derived.Lib.TrailingZeros
/- Code: Reach. -/
namespace Go.Proofs.YtfjbgmeimipibaaGreatDoor
open Go Go.Mv
set_option maxHeartbeats 4000000
set_option maxRecDepth 10000
set_option linter.unusedVariables false
set_option linter.unusedSimpArgs false
def ReachOut (q : Prg) (v : Value) (m m' : Mem) : Prop :=
  if (rightF q).1 = 0 then ∃ A n, v = .tuple #[.slice A (reachL q).length n, .int .i64 0] ∧ Mv.Sep [sl A (reachL q).length n 1 (beginsV (reachL q)), kp m] m'
  else v = .tuple #[.slice none 0 0, .int .i64 (rightF q).1] ∧ m.le m'
theorem reachOut_no {q : Prg} {v : Value} {m m' : Mem} (h : (rightF q).1 ≠ 0) (hv : v = .tuple #[.slice none 0 0, .int .i64 (rightF q).1]) (hm : m.le m') : ReachOut q v m m' := by
  unfold ReachOut
  rw [if_neg h]
  exact ⟨hv, hm⟩
theorem reachOut_ok {q : Prg} {v : Value} {m m' : Mem} {A : Option Addr} {n : Nat} (h : (rightF q).1 = 0) (hv : v = .tuple #[.slice A (reachL q).length n, .int .i64 0]) (hm : Mv.Sep [sl A (reachL q).length n 1 (beginsV (reachL q)), kp m] m') : ReachOut q v m m' := by
  unfold ReachOut
  rw [if_pos h]
  exact ⟨A, n, hv, hm⟩
theorem right_pos {q : Prg} (h : (rightF q).1 = 0) : 0 < q.ins.length := by
  unfold rightF at h
  split at h
  · cases h
  split at h
  · cases h
  split at h
  · cases h
  · omega
theorem begins_app (a b : List Nat) : beginsV (a ++ b) = beginsV a ++ beginsV b := by simp [beginsV]
theorem bool_at {l : List Bool} {k : Nat} {b : Bool} (h : l[k]? = some b) : (boolCells l)[k]? = some (.bool b) := by simp [boolCells, h]
theorem bool_set {l : List Bool} {k : Nat} : (boolCells l).set k (.bool true) = boolCells (l.set k true) := by simp [boolCells, List.map_set]
theorem add_at {b k : Nat} : (⟨b, 0, none⟩ : Addr).add (((k : Nat) : Int).toNat * 1) = ⟨b, k, none⟩ := by
  rw [Int.toNat_natCast, Nat.mul_one, add_mk, Nat.zero_add]
theorem outL_zero {seen : List Bool} : outL seen 0 = [] := rfl
attribute [local irreducible] ReachOut outL reachL rightF muD FCalls IntKind.wrap bits Mem.set Mem.setCell Mem.setCells YCalls RunP NextP RunU
theorem reach_c {m : Mem} {q : Prg} (hq : q.at m) : FCalls Tryz.prog 19 [q.val] m (ReachOut q · m) := by
  refine fcalls_of_vc (T := tbl) (B := bodies) (pr := [99999, 1, 9, 10]) (DR := dr19) (args := [.v q.val]) tbl_ok bodies_ok mixed Tryz.func19 rfl (by decide +kernel) (by simp [Tryz.f19]) rfl ?_
  (conv => whnf)
  obtain ⟨r1, r2, hr⟩ : ∃ r1 r2, rightF q = (r1, r2) := ⟨_, _, rfl⟩
  have hRight := right_c hq
  rw [hr] at hRight
  refine FCalls.mono hRight ?_
  rintro v m1 ⟨rfl, rfl⟩
  clear hRight
  (conv => whnf)
  refine brk_intro (fun q1 => ?_) (fun q1 => ?_)
  · have c1 : r1 ≠ 0 := by simpa using q1
    (conv => whnf)
    exact reachOut_no (by rw [hr]; exact c1) (by rw [hr]; rfl) (Mem.le_refl _)
  · have c1 : r1 = 0 := by simpa using q1
    obtain ⟨hn, -, -, hfine⟩ := right_ops (q := q) (by rw [hr]; exact c1)
    have hn1 := right_pos (q := q) (by rw [hr]; exact c1)
    have hrz : (rightF q).1 = 0 := by rw [hr]; exact c1
    (conv => whnf)
    refine ⟨by omega, by omega, by show ((q.ins.length : Nat) : Int) ≤ 9223372036854775807; omega, by show 1 * ((q.ins.length : Nat) : Int) ≤ 2 ^ 48; omega, fun bs m2 hb he => ?_⟩
    have h := (Sep.init m1).new' (l := boolCells (List.replicate q.ins.length false)) hb (he.trans (by rw [Int.toNat_natCast]; rfl))
    clear hb he
    (conv => whnf)
    intro n0 m3 hb he
    replace h := h.new' (l := beginsV [0]) hb (he.trans rfl)
    replace h : Mv.Sep [sl (some ⟨n0, 0, none⟩) 1 1 1 (beginsV [0]), pt bs (boolCells (List.replicate q.ins.length false)), kp m1] m3 := h.slOf 0 rfl rfl (Nat.le_refl _) (by simp [beginsV]) fun k v hk => hk
    clear hb he
    (conv => whnf)
    have hmu0 : muD (List.replicate q.ins.length false) [0] ≤ 4 * q.ins.length + 1 := by unfold muD; simp
    refine loop_keep [1, 6] (List Nat × Option Addr × Nat × List Bool × Mem) (fun s => [(7, .v (.slice s.2.1 s.1.length s.2.2.1))]) (fun _ => [.cells q.cells]) (fun s => s.2.2.2.2)
      (fun s => Mv.Sep [sl s.2.1 s.1.length s.2.2.1 1 (beginsV s.1), pt bs (boolCells s.2.2.2.1), kp m1] s.2.2.2.2 ∧ Dfs q s.2.2.2.1 s.1 ∧ muD s.2.2.2.1 s.1 ≤ 4 * q.ins.length + 1) (fun s => muD s.2.2.2.1 s.1)
      ([0], some ⟨n0, 0, none⟩, 1, List.replicate q.ins.length false, m3) ⟨rfl, trivial⟩ rfl rfl ⟨h, Dfs.init hn1, hmu0⟩ ?_
    clear h hmu0
    (conv => whnf)
    refine ⟨rfl, ?_⟩
    rintro ⟨st, A, c, seen, M⟩ ⟨h, hD, hmu⟩
    simp only at h hD hmu
    (conv => whnf)
    refine brk_intro (fun q2 => ?_) (fun q2 => ?_)
    rotate_left
    · have c2 : st = [] := by
        have : ¬ (0 : Int) < ((st.length : Nat) : Int) := of_decide_eq_false q2
        exact List.length_eq_zero_iff.1 (by omega)
      subst c2
      have hend := outL_end hD
      have hlen := hD.len
      replace h := Sep.free (A := sl none 0 0 1 []) (h.drop 0) sl_nil
      (conv => whnf)
      refine loop_keep [81, 82] (Nat × Option Addr × Nat × Mem) (fun s => [(83, .v (.int .i64 ((s.1 : Nat) : Int))), (12, .v (.slice s.2.1 (outL seen s.1).length s.2.2.1))]) (fun _ => [.cells q.cells]) (fun s => s.2.2.2)
        (fun s => s.1 ≤ q.ins.length ∧ Mv.Sep [sl s.2.1 (outL seen s.1).length s.2.2.1 1 (beginsV (outL seen s.1)), pt bs (boolCells seen), kp m1] s.2.2.2) (fun s => q.ins.length - s.1)
        (0, none, 0, M) ⟨rfl, by show some (AV.v (.slice none 0 0)) = some (AV.v (.slice none (outL seen 0).length 0)); rw [outL_zero]; rfl, trivial⟩ rfl rfl ⟨Nat.zero_le _, by simp only; rw [outL_zero]; exact h⟩ ?_
      clear h
      (conv => whnf)
      refine ⟨rfl, ?_⟩
      rintro ⟨j, B, e, M⟩ ⟨hj, h⟩
      simp only at hj h
      (conv => whnf)
      refine brk_intro (fun q3 => ?_) (fun q3 => ?_)
      · have c3 : j < q.ins.length := by have : ((j : Nat) : Int) < ((q.ins.length : Nat) : Int) := of_decide_eq_true q3; omega
        have step1 : IntKind.i64.wrap ((j : Int) + 1) = ((j + 1 : Nat) : Int) := wrap_id (by omega) (by omega)
        obtain ⟨b, hb⟩ : ∃ b, seen[j]? = some b := ⟨_, List.getElem?_eq_getElem (by omega)⟩
        (conv => whnf)
        refine ⟨_, rfl, by omega, by show ((j : Nat) : Int) < ((q.ins.length : Nat) : Int); omega, ?_⟩
        (conv => whnf)
        refine ⟨_, by show M.cell ((⟨bs, 0, none⟩ : Addr).add (((j : Nat) : Int).toNat * 1)) = _; rw [add_at]; exact h.cell 1 (i := j) rfl (bool_at hb), ?_⟩
        (conv => whnf)
        have hol := outL_len (seen := seen) (j := j)
        refine brk_intro (fun q4 => ?_) (fun q4 => ?_)
        · have c4 : b = true := q4
          have hs : seen[j]? = some true := by rw [hb, c4]
          (conv => whnf)
          intro nb M5 hb he
          replace h := h.new' (l := beginsV [j]) hb (he.trans rfl)
          have hBn : M5.holds ⟨nb, 0, none⟩ (beginsV [j]) := (h.blk 0 rfl).holds fun k v hk => by rw [Nat.zero_add]; exact hk
          clear hb he
          (conv => whnf)
          obtain ⟨ok, hR⟩ := h.app 1 (T := tbl) (e := 3) (news := beginsV [j]) (k := 1) (B := some ⟨nb, 0, none⟩) rfl rfl (.inr ⟨_, rfl, hBn⟩) rfl rfl (by show 2 * (_ + 1) * 8 ≤ 2 ^ 48; omega) rfl
          refine ⟨_, _, ok, fun B2 e2 M6 hr2 => ?_⟩
          replace h := (hR _ _ _ hr2).drop 0
          clear ok hR hr2 hBn
          (conv => whnf)
          have eo : outL seen (j + 1) = outL seen j ++ [j] := by rw [outL_step, if_pos hs]
          exact ⟨(j + 1, B2, e2, M6), le_eq ⟨by show some (AV.v (.int .i64 (IntKind.i64.wrap ((j : Int) + 1)))) = _; rw [step1], by show some (AV.v (.slice B2 ((outL seen j).length + 1) e2)) = some (AV.v (.slice B2 (outL seen (j + 1)).length e2)); rw [eo, List.length_append]; rfl, rfl, rfl, trivial⟩ rfl rfl rfl, ⟨c3, by simp only; rw [eo, List.length_append, begins_app]; exact h⟩, by simp only; omega⟩
        · have c4 : b = false := q4
          have hs : ¬ seen[j]? = some true := by rw [hb, c4]; simp
          have eo : outL seen (j + 1) = outL seen j := by rw [outL_step, if_neg hs]
          (conv => whnf)
          exact ⟨(j + 1, B, e, M), le_eq ⟨by show some (AV.v (.int .i64 (IntKind.i64.wrap ((j : Int) + 1)))) = _; rw [step1], by show some (AV.v (.slice B (outL seen j).length e)) = some (AV.v (.slice B (outL seen (j + 1)).length e)); rw [eo], rfl, rfl, trivial⟩ rfl rfl rfl, ⟨c3, by simp only; rw [eo]; exact h⟩, by simp only; omega⟩
      · have c3 : j = q.ins.length := by have : ¬ ((j : Nat) : Int) < ((q.ins.length : Nat) : Int) := of_decide_eq_false q3; omega
        subst c3
        (conv => whnf)
        rw [hend] at h
        exact reachOut_ok hrz (by rw [hend]; rfl) (h.drop 1)
    have c2 : (0 : Int) < ((st.length : Nat) : Int) := of_decide_eq_true q2
    obtain ⟨t, x, rfl⟩ : ∃ t x, st = t ++ [x] := ⟨_, _, (List.dropLast_concat_getLast (l := st) (by rintro rfl; simp at c2)).symm⟩
    clear c2
    have hx : x < q.ins.length := hD.lt x (by simp)
    have hl : (t ++ [x]).length = t.length + 1 := by simp
    have hmu2 : t.length + 1 ≤ 4 * q.ins.length + 1 := by have := hmu; unfold muD at this; omega
    have e1 : IntKind.i64.wrap (((t ++ [x]).length : Nat) - 1) = ((t.length : Nat) : Int) := by rw [hl, wrap_id (by omega) (by omega)]; omega
    obtain ⟨p, hp, hcx⟩ := (h.rd 0 rfl).at (k := t.length) (v := .int .i64 ((x : Nat) : Int)) (by simp [beginsV])
    (conv => whnf)
    refine ⟨p, hp, by show 0 ≤ IntKind.i64.wrap (((t ++ [x]).length : Nat) - 1); rw [e1]; omega, by show IntKind.i64.wrap (((t ++ [x]).length : Nat) - 1) < (((t ++ [x]).length : Nat) : Int); rw [e1]; omega, ?_⟩
    (conv => whnf)
    refine ⟨_, by show M.cell (p.add ((IntKind.i64.wrap (((t ++ [x]).length : Nat) - 1)).toNat * 1)) = _; rw [e1, Int.toNat_natCast, Nat.mul_one]; exact hcx, ?_⟩
    (conv => whnf)
    refine ⟨by omega, by show 0 ≤ IntKind.i64.wrap (((t ++ [x]).length : Nat) - 1); rw [e1]; omega, by show IntKind.i64.wrap (((t ++ [x]).length : Nat) - 1) ≤ ((c : Nat) : Int); rw [e1]; have := (h.asn 0 rfl).2.1; omega, ?_⟩
    rw [e1, slice_lo0]
    replace h : Mv.Sep [sl A t.length c 1 (beginsV t), pt bs (boolCells seen), kp m1] M := h.turn 0 rfl fun m1 _ g => by
      have := sl_cut g (k := t.length) (by omega)
      rw [begins_app, Nat.mul_one, List.take_left' (by simp [beginsV])] at this
      exact this
    (conv => whnf)
    have hlen := hD.len
    obtain ⟨b, hb⟩ : ∃ b, seen[x]? = some b := ⟨_, List.getElem?_eq_getElem (by omega)⟩
    refine ⟨_, rfl, by omega, by show ((x : Nat) : Int) < ((q.ins.length : Nat) : Int); omega, ?_⟩
    (conv => whnf)
    refine ⟨_, by show M.cell ((⟨bs, 0, none⟩ : Addr).add (((x : Nat) : Int).toNat * 1)) = _; rw [add_at]; exact h.cell 1 (i := x) rfl (bool_at hb), ?_⟩
    (conv => whnf)
    refine brk_intro (fun q4 => ?_) (fun q4 => ?_)
    · have c4 : b = true := q4
      (conv => whnf)
      exact ⟨(t, A, c, seen, M), le_eq ⟨rfl, rfl, rfl, trivial⟩ rfl rfl rfl, ⟨h, hD.old (by rw [hb, c4]), by simp only; unfold muD at hmu ⊢; omega⟩, by simp only; unfold muD; omega⟩
    have c4 : b = false := q4
    subst c4
    (conv => whnf)
    refine ⟨_, rfl, by omega, by show ((x : Nat) : Int) < ((q.ins.length : Nat) : Int); omega, ?_⟩
    (conv => whnf)
    refine ⟨by show (∃ u, M.cell ((⟨bs, 0, none⟩ : Addr).add (((x : Nat) : Int).toNat * 1)) = some u) ∧ M.fz ((⟨bs, 0, none⟩ : Addr).add (((x : Nat) : Int).toNat * 1)) = false; rw [add_at]; exact h.room 1 (i := x) rfl (bool_at hb), fun m5 he => ?_⟩
    replace he : m5 = M.setCell ⟨bs, x, none⟩ (.bool true) := he.trans (congrArg (fun a => M.setCell a (.bool true)) add_at)
    replace h := h.put' 1 (i := x) he rfl
    rw [bool_set] at h
    clear he
    replace h : Mv.Sep [sl A t.length c 1 (beginsV t), pt bs (boolCells (seen.set x true)), kp m1] m5 := h
    obtain ⟨i, hi⟩ : ∃ i, q.ins[x]? = some i := ⟨_, List.getElem?_eq_getElem hx⟩
    obtain ⟨u, hu⟩ := fine_uses (hfine x i hi) hi
    obtain ⟨hsn, hsx, hsy⟩ := fine_succ (hfine x i hi) hi hu
    replace hD := hD.new (succ_lt hfine)
    rw [succL_u hi hu] at hD
    have hcnt := count_set hb
    have hfew := succ_few i u x
    have hmu3 : ∀ st', st'.length = t.length + (succU i u x).length → muD (seen.set x true) st' < muD seen (t ++ [x]) := fun st' e => by unfold muD; omega
    have step1 : IntKind.i64.wrap ((x : Int) + 1) = ((x + 1 : Nat) : Int) := wrap_id (by omega) (by omega)
    obtain ⟨pi, hpi, hci⟩ := ins_at (hq.more (h.kept 2 rfl)) hi
    (conv => whnf)
    refine ⟨pi, hpi, by omega, by omega, ?_⟩
    (conv => whnf)
    refine ⟨_, hci 0 _ rfl, ?_⟩
    (conv => whnf)
    refine ⟨_, hci 1 _ rfl, ?_⟩
    (conv => whnf)
    refine ⟨_, hci 2 _ rfl, ?_⟩
    (conv => whnf)
    refine ⟨_, hci 3 _ rfl, ?_⟩
    (conv => whnf)
    refine ⟨_, hci 4 _ rfl, ?_⟩
    (conv => whnf)
    refine ⟨_, hci 5 _ rfl, ?_⟩
    (conv => whnf)
    refine ⟨_, hci 6 _ rfl, ?_⟩
    (conv => whnf)
    refine ⟨_, hci 7 _ rfl, ?_⟩
    (conv => whnf)
    refine ⟨_, hci 8 _ rfl, ?_⟩
    (conv => whnf)
    refine ⟨_, hci 9 _ rfl, ?_⟩
    (conv => whnf)
    have hof := of_c (m := m5) (op := i.op)
    rw [hu] at hof
    refine FCalls.mono hof ?_
    rintro v m6 ⟨rfl, rfl⟩
    clear hof hci hpi
    have ex1 : beginsV [x + 1] = [.int .i64 (IntKind.i64.wrap ((x : Int) + 1))] := by rw [step1]; rfl
    obtain ⟨us, ux, uy, ug, uc, un⟩ := u
    have hw := uses_ways hu
    simp only at hw hsn hsx hsy
    clear hu
    rcases hw with ⟨rfl, rfl, rfl⟩ | ⟨rfl, rfl, rfl⟩ | ⟨rfl, rfl, rfl⟩ | ⟨rfl, rfl, rfl⟩
    · (conv => whnf)
      intro nb M5 hb he
      replace h := h.new' (l := beginsV [x + 1]) hb (he.trans (by rw [ex1]; rfl))
      have hBn : M5.holds ⟨nb, 0, none⟩ (beginsV [x + 1]) := (h.blk 0 rfl).holds fun k v hk => by rw [Nat.zero_add]; exact hk
      clear hb he
      (conv => whnf)
      obtain ⟨ok, hR⟩ := h.app 1 (T := tbl) (e := 3) (news := beginsV [x + 1]) (k := 1) (B := some ⟨nb, 0, none⟩) rfl rfl (.inr ⟨_, rfl, hBn⟩) rfl rfl (by show 2 * (t.length + 1) * 8 ≤ 2 ^ 48; omega) rfl
      refine ⟨_, _, ok, fun A2 c2 M6 hr2 => ?_⟩
      replace h := (hR _ _ _ hr2).drop 0
      clear ok hR hr2 hBn
      (conv => whnf)
      have es : succU i ⟨us, false, false, ug, uc, true⟩ x = [x + 1] := rfl
      rw [es] at hD hmu3
      have h2 : Mv.Sep [sl A2 (t ++ [x + 1]).length c2 1 (beginsV (t ++ [x + 1])), pt bs (boolCells (seen.set x true)), kp m1] M6 := by
        rw [show (t ++ [x + 1]).length = t.length + 1 by simp, show beginsV (t ++ [x + 1]) = beginsV t ++ beginsV [x + 1] by simp [beginsV]]
        exact h
      have hlt := hmu3 (t ++ [x + 1]) (by simp)
      exact ⟨(t ++ [x + 1], A2, c2, seen.set x true, _), le_more (l := [_, _]) ⟨by show some (AV.v (.slice A2 (t.length + 1) c2)) = some (AV.v (.slice A2 (t ++ [x + 1]).length c2)); rw [show (t ++ [x + 1]).length = t.length + 1 by simp], rfl, rfl, trivial⟩ rfl rfl rfl, ⟨h2, hD, by simp only; omega⟩, hlt⟩
    · have exx : beginsV [i.x.toNat] = [.int .i64 i.x] := by have := hsx rfl; simp [beginsV]; omega
      have eyy : beginsV [i.y.toNat] = [.int .i64 i.y] := by have := hsy rfl; simp [beginsV]; omega
      (conv => whnf)
      intro nb M5 hb he
      replace h := h.new' (l := beginsV [i.x.toNat]) hb (he.trans (by rw [exx]; rfl))
      have hBn : M5.holds ⟨nb, 0, none⟩ (beginsV [i.x.toNat]) := (h.blk 0 rfl).holds fun k v hk => by rw [Nat.zero_add]; exact hk
      clear hb he
      (conv => whnf)
      obtain ⟨ok, hR⟩ := h.app 1 (T := tbl) (e := 3) (news := beginsV [i.x.toNat]) (k := 1) (B := some ⟨nb, 0, none⟩) rfl rfl (.inr ⟨_, rfl, hBn⟩) rfl rfl (by show 2 * (t.length + 1) * 8 ≤ 2 ^ 48; omega) rfl
      refine ⟨_, _, ok, fun A2 c2 M6 hr2 => ?_⟩
      replace h := (hR _ _ _ hr2).drop 0
      clear ok hR hr2 hBn
      (conv => whnf)
      intro nb M5 hb he
      replace h := h.new' (l := beginsV [i.y.toNat]) hb (he.trans (by rw [eyy]; rfl))
      have hBn : M5.holds ⟨nb, 0, none⟩ (beginsV [i.y.toNat]) := (h.blk 0 rfl).holds fun k v hk => by rw [Nat.zero_add]; exact hk
      clear hb he
      (conv => whnf)
      obtain ⟨ok, hR⟩ := h.app 1 (T := tbl) (e := 3) (news := beginsV [i.y.toNat]) (k := 1) (B := some ⟨nb, 0, none⟩) rfl rfl (.inr ⟨_, rfl, hBn⟩) rfl rfl (by show 2 * (t.length + 1 + 1) * 8 ≤ 2 ^ 48; omega) rfl
      refine ⟨_, _, ok, fun A2 c2 M6 hr2 => ?_⟩
      replace h := (hR _ _ _ hr2).drop 0
      clear ok hR hr2 hBn
      (conv => whnf)
      have es : succU i ⟨us, true, true, ug, uc, false⟩ x = [i.x.toNat, i.y.toNat] := rfl
      rw [es] at hD hmu3
      have h2 : Mv.Sep [sl A2 (t ++ [i.x.toNat, i.y.toNat]).length c2 1 (beginsV (t ++ [i.x.toNat, i.y.toNat])), pt bs (boolCells (seen.set x true)), kp m1] M6 := by
        rw [show (t ++ [i.x.toNat, i.y.toNat]).length = t.length + 1 + 1 by simp, show beginsV (t ++ [i.x.toNat, i.y.toNat]) = beginsV t ++ beginsV [i.x.toNat] ++ beginsV [i.y.toNat] by simp [beginsV]]
        exact h
      have hlt := hmu3 (t ++ [i.x.toNat, i.y.toNat]) (by simp)
      exact ⟨(t ++ [i.x.toNat, i.y.toNat], A2, c2, seen.set x true, _), le_more (l := [_, _]) ⟨by show some (AV.v (.slice A2 (t.length + 1 + 1) c2)) = some (AV.v (.slice A2 (t ++ [i.x.toNat, i.y.toNat]).length c2)); rw [show (t ++ [i.x.toNat, i.y.toNat]).length = t.length + 1 + 1 by simp], rfl, rfl, trivial⟩ rfl rfl rfl, ⟨h2, hD, by simp only; omega⟩, hlt⟩
    · have exx : beginsV [i.x.toNat] = [.int .i64 i.x] := by have := hsx rfl; simp [beginsV]; omega
      (conv => whnf)
      intro nb M5 hb he
      replace h := h.new' (l := beginsV [i.x.toNat]) hb (he.trans (by rw [exx]; rfl))
      have hBn : M5.holds ⟨nb, 0, none⟩ (beginsV [i.x.toNat]) := (h.blk 0 rfl).holds fun k v hk => by rw [Nat.zero_add]; exact hk
      clear hb he
      (conv => whnf)
      obtain ⟨ok, hR⟩ := h.app 1 (T := tbl) (e := 3) (news := beginsV [i.x.toNat]) (k := 1) (B := some ⟨nb, 0, none⟩) rfl rfl (.inr ⟨_, rfl, hBn⟩) rfl rfl (by show 2 * (t.length + 1) * 8 ≤ 2 ^ 48; omega) rfl
      refine ⟨_, _, ok, fun A2 c2 M6 hr2 => ?_⟩
      replace h := (hR _ _ _ hr2).drop 0
      clear ok hR hr2 hBn
      (conv => whnf)
      have es : succU i ⟨us, true, false, ug, uc, false⟩ x = [i.x.toNat] := rfl
      rw [es] at hD hmu3
      have h2 : Mv.Sep [sl A2 (t ++ [i.x.toNat]).length c2 1 (beginsV (t ++ [i.x.toNat])), pt bs (boolCells (seen.set x true)), kp m1] M6 := by
        rw [show (t ++ [i.x.toNat]).length = t.length + 1 by simp, show beginsV (t ++ [i.x.toNat]) = beginsV t ++ beginsV [i.x.toNat] by simp [beginsV]]
        exact h
      have hlt := hmu3 (t ++ [i.x.toNat]) (by simp)
      exact ⟨(t ++ [i.x.toNat], A2, c2, seen.set x true, _), le_more (l := [_, _]) ⟨by show some (AV.v (.slice A2 (t.length + 1) c2)) = some (AV.v (.slice A2 (t ++ [i.x.toNat]).length c2)); rw [show (t ++ [i.x.toNat]).length = t.length + 1 by simp], rfl, rfl, trivial⟩ rfl rfl rfl, ⟨h2, hD, by simp only; omega⟩, hlt⟩
    · (conv => whnf)
      have es : succU i ⟨us, false, false, ug, uc, false⟩ x = [] := rfl
      rw [es] at hD hmu3
      have h2 : Mv.Sep [sl A (t).length c 1 (beginsV (t)), pt bs (boolCells (seen.set x true)), kp m1] m6 := by
        rw [show (t).length = t.length by simp, show beginsV (t) = beginsV t by simp [beginsV]]
        exact h
      have hlt := hmu3 (t) (by simp)
      exact ⟨(t, A, c, seen.set x true, _), le_more (l := [_, _]) ⟨by show some (AV.v (.slice A (t.length) c)) = some (AV.v (.slice A (t).length c)); rw [show (t).length = t.length by simp], rfl, rfl, trivial⟩ rfl rfl rfl, ⟨h2, by simpa using hD, by simp only; omega⟩, hlt⟩
end Go.Proofs.YtfjbgmeimipibaaGreatDoor
/- Code: the document's Reach. -/
namespace Go.Proofs.YtfjbgmeimipibaaGreatDoor
open Go Go.Mv
set_option maxHeartbeats 4000000
set_option maxRecDepth 10000
set_option linter.unusedVariables false
set_option linter.unusedSimpArgs false
attribute [local irreducible] ReachOut outL reachL rightF muD FCalls IntKind.wrap bits Mem.set Mem.setCell Mem.setCells YCalls RunP NextP RunU
theorem rreach_c {m : Mem} {q : Prg} (hq : q.at m) : FCalls Tryz.prog 16 [q.val] m (ReachOut q · m) := by
  refine fcalls_of_vc (T := tbl) (B := bodies) (pr := [99999, 1, 9]) (DR := dr16) (args := [.v q.val]) tbl_ok bodies_ok mixed Tryz.func16 rfl (by decide +kernel) (by simp [Tryz.f16]) rfl ?_
  (conv => whnf)
  obtain ⟨r1, r2, hr⟩ : ∃ r1 r2, rightF q = (r1, r2) := ⟨_, _, rfl⟩
  have hRight := rright_c hq
  rw [hr] at hRight
  refine FCalls.mono hRight ?_
  rintro v m1 ⟨rfl, rfl⟩
  clear hRight
  (conv => whnf)
  refine brk_intro (fun q1 => ?_) (fun q1 => ?_)
  · have c1 : r1 ≠ 0 := by simpa using q1
    (conv => whnf)
    exact reachOut_no (by rw [hr]; exact c1) (by rw [hr]; rfl) (Mem.le_refl _)
  · have c1 : r1 = 0 := by simpa using q1
    obtain ⟨hn, -, -, hfine⟩ := right_ops (q := q) (by rw [hr]; exact c1)
    have hn1 := right_pos (q := q) (by rw [hr]; exact c1)
    have hrz : (rightF q).1 = 0 := by rw [hr]; exact c1
    (conv => whnf)
    refine ⟨by omega, by omega, by show ((q.ins.length : Nat) : Int) ≤ 9223372036854775807; omega, by show 1 * ((q.ins.length : Nat) : Int) ≤ 2 ^ 48; omega, fun bs m2 hb he => ?_⟩
    have h := (Sep.init m1).new' (l := boolCells (List.replicate q.ins.length false)) hb (he.trans (by rw [Int.toNat_natCast]; rfl))
    clear hb he
    (conv => whnf)
    intro n0 m3 hb he
    replace h := h.new' (l := beginsV [0]) hb (he.trans rfl)
    replace h : Mv.Sep [sl (some ⟨n0, 0, none⟩) 1 1 1 (beginsV [0]), pt bs (boolCells (List.replicate q.ins.length false)), kp m1] m3 := h.slOf 0 rfl rfl (Nat.le_refl _) (by simp [beginsV]) fun k v hk => hk
    clear hb he
    (conv => whnf)
    have hmu0 : muD (List.replicate q.ins.length false) [0] ≤ 4 * q.ins.length + 1 := by unfold muD; simp
    refine loop_keep [1, 6] (List Nat × Option Addr × Nat × List Bool × Mem) (fun s => [(7, .v (.slice s.2.1 s.1.length s.2.2.1))]) (fun _ => [.cells q.cells]) (fun s => s.2.2.2.2)
      (fun s => Mv.Sep [sl s.2.1 s.1.length s.2.2.1 1 (beginsV s.1), pt bs (boolCells s.2.2.2.1), kp m1] s.2.2.2.2 ∧ Dfs q s.2.2.2.1 s.1 ∧ muD s.2.2.2.1 s.1 ≤ 4 * q.ins.length + 1) (fun s => muD s.2.2.2.1 s.1)
      ([0], some ⟨n0, 0, none⟩, 1, List.replicate q.ins.length false, m3) ⟨rfl, trivial⟩ rfl rfl ⟨h, Dfs.init hn1, hmu0⟩ ?_
    clear h hmu0
    (conv => whnf)
    refine ⟨rfl, ?_⟩
    rintro ⟨st, A, c, seen, M⟩ ⟨h, hD, hmu⟩
    simp only at h hD hmu
    (conv => whnf)
    refine brk_intro (fun q2 => ?_) (fun q2 => ?_)
    rotate_left
    · have c2 : st = [] := by
        have : ¬ (0 : Int) < ((st.length : Nat) : Int) := of_decide_eq_false q2
        exact List.length_eq_zero_iff.1 (by omega)
      subst c2
      have hend := outL_end hD
      have hlen := hD.len
      replace h := Sep.free (A := sl none 0 0 1 []) (h.drop 0) sl_nil
      (conv => whnf)
      refine loop_keep [6] (Nat × Option Addr × Nat × Mem) (fun s => [(12, .v (.int .i64 ((s.1 : Nat) : Int))), (11, .v (.slice s.2.1 (outL seen s.1).length s.2.2.1))]) (fun _ => [.cells q.cells]) (fun s => s.2.2.2)
        (fun s => s.1 ≤ q.ins.length ∧ Mv.Sep [sl s.2.1 (outL seen s.1).length s.2.2.1 1 (beginsV (outL seen s.1)), pt bs (boolCells seen), kp m1] s.2.2.2) (fun s => q.ins.length - s.1)
        (0, none, 0, M) ⟨rfl, by show some (AV.v (.slice none 0 0)) = some (AV.v (.slice none (outL seen 0).length 0)); rw [outL_zero]; rfl, trivial⟩ rfl rfl ⟨Nat.zero_le _, by simp only; rw [outL_zero]; exact h⟩ ?_
      clear h
      (conv => whnf)
      refine ⟨rfl, ?_⟩
      rintro ⟨j, B, e, M⟩ ⟨hj, h⟩
      simp only at hj h
      (conv => whnf)
      refine brk_intro (fun q3 => ?_) (fun q3 => ?_)
      · have c3 : j < q.ins.length := by have : ((j : Nat) : Int) < ((q.ins.length : Nat) : Int) := of_decide_eq_true q3; omega
        have step1 : IntKind.i64.wrap ((j : Int) + 1) = ((j + 1 : Nat) : Int) := wrap_id (by omega) (by omega)
        obtain ⟨b, hb⟩ : ∃ b, seen[j]? = some b := ⟨_, List.getElem?_eq_getElem (by omega)⟩
        (conv => whnf)
        refine ⟨_, rfl, by omega, by show ((j : Nat) : Int) < ((q.ins.length : Nat) : Int); omega, ?_⟩
        (conv => whnf)
        refine ⟨_, by show M.cell ((⟨bs, 0, none⟩ : Addr).add (((j : Nat) : Int).toNat * 1)) = _; rw [add_at]; exact h.cell 1 (i := j) rfl (bool_at hb), ?_⟩
        (conv => whnf)
        have hol := outL_len (seen := seen) (j := j)
        refine brk_intro (fun q4 => ?_) (fun q4 => ?_)
        · have c4 : b = true := q4
          have hs : seen[j]? = some true := by rw [hb, c4]
          (conv => whnf)
          intro nb M5 hb he
          replace h := h.new' (l := beginsV [j]) hb (he.trans rfl)
          have hBn : M5.holds ⟨nb, 0, none⟩ (beginsV [j]) := (h.blk 0 rfl).holds fun k v hk => by rw [Nat.zero_add]; exact hk
          clear hb he
          (conv => whnf)
          obtain ⟨ok, hR⟩ := h.app 1 (T := tbl) (e := 3) (news := beginsV [j]) (k := 1) (B := some ⟨nb, 0, none⟩) rfl rfl (.inr ⟨_, rfl, hBn⟩) rfl rfl (by show 2 * (_ + 1) * 8 ≤ 2 ^ 48; omega) rfl
          refine ⟨_, _, ok, fun B2 e2 M6 hr2 => ?_⟩
          replace h := (hR _ _ _ hr2).drop 0
          clear ok hR hr2 hBn
          (conv => whnf)
          have eo : outL seen (j + 1) = outL seen j ++ [j] := by rw [outL_step, if_pos hs]
          exact ⟨(j + 1, B2, e2, M6), le_eq ⟨by show some (AV.v (.int .i64 (IntKind.i64.wrap ((j : Int) + 1)))) = _; rw [step1], by show some (AV.v (.slice B2 ((outL seen j).length + 1) e2)) = some (AV.v (.slice B2 (outL seen (j + 1)).length e2)); rw [eo, List.length_append]; rfl, rfl, trivial⟩ rfl rfl rfl, ⟨c3, by simp only; rw [eo, List.length_append, begins_app]; exact h⟩, by simp only; omega⟩
        · have c4 : b = false := q4
          have hs : ¬ seen[j]? = some true := by rw [hb, c4]; simp
          have eo : outL seen (j + 1) = outL seen j := by rw [outL_step, if_neg hs]
          (conv => whnf)
          exact ⟨(j + 1, B, e, M), le_eq ⟨by show some (AV.v (.int .i64 (IntKind.i64.wrap ((j : Int) + 1)))) = _; rw [step1], by show some (AV.v (.slice B (outL seen j).length e)) = some (AV.v (.slice B (outL seen (j + 1)).length e)); rw [eo], rfl, trivial⟩ rfl rfl rfl, ⟨c3, by simp only; rw [eo]; exact h⟩, by simp only; omega⟩
      · have c3 : j = q.ins.length := by have : ¬ ((j : Nat) : Int) < ((q.ins.length : Nat) : Int) := of_decide_eq_false q3; omega
        subst c3
        (conv => whnf)
        rw [hend] at h
        exact reachOut_ok hrz (by rw [hend]; rfl) (h.drop 1)
    have c2 : (0 : Int) < ((st.length : Nat) : Int) := of_decide_eq_true q2
    obtain ⟨t, x, rfl⟩ : ∃ t x, st = t ++ [x] := ⟨_, _, (List.dropLast_concat_getLast (l := st) (by rintro rfl; simp at c2)).symm⟩
    clear c2
    have hx : x < q.ins.length := hD.lt x (by simp)
    have hl : (t ++ [x]).length = t.length + 1 := by simp
    have hmu2 : t.length + 1 ≤ 4 * q.ins.length + 1 := by have := hmu; unfold muD at this; omega
    have e1 : IntKind.i64.wrap (((t ++ [x]).length : Nat) - 1) = ((t.length : Nat) : Int) := by rw [hl, wrap_id (by omega) (by omega)]; omega
    obtain ⟨p, hp, hcx⟩ := (h.rd 0 rfl).at (k := t.length) (v := .int .i64 ((x : Nat) : Int)) (by simp [beginsV])
    (conv => whnf)
    refine ⟨p, hp, by show 0 ≤ IntKind.i64.wrap (((t ++ [x]).length : Nat) - 1); rw [e1]; omega, by show IntKind.i64.wrap (((t ++ [x]).length : Nat) - 1) < (((t ++ [x]).length : Nat) : Int); rw [e1]; omega, ?_⟩
    (conv => whnf)
    refine ⟨_, by show M.cell (p.add ((IntKind.i64.wrap (((t ++ [x]).length : Nat) - 1)).toNat * 1)) = _; rw [e1, Int.toNat_natCast, Nat.mul_one]; exact hcx, ?_⟩
    (conv => whnf)
    refine ⟨by omega, by show 0 ≤ IntKind.i64.wrap (((t ++ [x]).length : Nat) - 1); rw [e1]; omega, by show IntKind.i64.wrap (((t ++ [x]).length : Nat) - 1) ≤ ((c : Nat) : Int); rw [e1]; have := (h.asn 0 rfl).2.1; omega, ?_⟩
    rw [e1, slice_lo0]
    replace h : Mv.Sep [sl A t.length c 1 (beginsV t), pt bs (boolCells seen), kp m1] M := h.turn 0 rfl fun m1 _ g => by
      have := sl_cut g (k := t.length) (by omega)
      rw [begins_app, Nat.mul_one, List.take_left' (by simp [beginsV])] at this
      exact this
    (conv => whnf)
    have hlen := hD.len
    obtain ⟨b, hb⟩ : ∃ b, seen[x]? = some b := ⟨_, List.getElem?_eq_getElem (by omega)⟩
    refine ⟨_, rfl, by omega, by show ((x : Nat) : Int) < ((q.ins.length : Nat) : Int); omega, ?_⟩
    (conv => whnf)
    refine ⟨_, by show M.cell ((⟨bs, 0, none⟩ : Addr).add (((x : Nat) : Int).toNat * 1)) = _; rw [add_at]; exact h.cell 1 (i := x) rfl (bool_at hb), ?_⟩
    (conv => whnf)
    refine brk_intro (fun q4 => ?_) (fun q4 => ?_)
    · have c4 : b = true := q4
      (conv => whnf)
      exact ⟨(t, A, c, seen, M), le_eq ⟨rfl, rfl, rfl, trivial⟩ rfl rfl rfl, ⟨h, hD.old (by rw [hb, c4]), by simp only; unfold muD at hmu ⊢; omega⟩, by simp only; unfold muD; omega⟩
    have c4 : b = false := q4
    subst c4
    (conv => whnf)
    refine ⟨_, rfl, by omega, by show ((x : Nat) : Int) < ((q.ins.length : Nat) : Int); omega, ?_⟩
    (conv => whnf)
    refine ⟨by show (∃ u, M.cell ((⟨bs, 0, none⟩ : Addr).add (((x : Nat) : Int).toNat * 1)) = some u) ∧ M.fz ((⟨bs, 0, none⟩ : Addr).add (((x : Nat) : Int).toNat * 1)) = false; rw [add_at]; exact h.room 1 (i := x) rfl (bool_at hb), fun m5 he => ?_⟩
    replace he : m5 = M.setCell ⟨bs, x, none⟩ (.bool true) := he.trans (congrArg (fun a => M.setCell a (.bool true)) add_at)
    replace h := h.put' 1 (i := x) he rfl
    rw [bool_set] at h
    clear he
    replace h : Mv.Sep [sl A t.length c 1 (beginsV t), pt bs (boolCells (seen.set x true)), kp m1] m5 := h
    obtain ⟨i, hi⟩ : ∃ i, q.ins[x]? = some i := ⟨_, List.getElem?_eq_getElem hx⟩
    obtain ⟨u, hu⟩ := fine_uses (hfine x i hi) hi
    obtain ⟨hsn, hsx, hsy⟩ := fine_succ (hfine x i hi) hi hu
    replace hD := hD.new (succ_lt hfine)
    rw [succL_u hi hu] at hD
    have hcnt := count_set hb
    have hfew := succ_few i u x
    have hmu3 : ∀ st', st'.length = t.length + (succU i u x).length → muD (seen.set x true) st' < muD seen (t ++ [x]) := fun st' e => by unfold muD; omega
    have step1 : IntKind.i64.wrap ((x : Int) + 1) = ((x + 1 : Nat) : Int) := wrap_id (by omega) (by omega)
    obtain ⟨pi, hpi, hci⟩ := ins_at (hq.more (h.kept 2 rfl)) hi
    (conv => whnf)
    refine ⟨pi, hpi, by omega, by omega, ?_⟩
    (conv => whnf)
    refine ⟨_, hci 0 _ rfl, ?_⟩
    (conv => whnf)
    have hof := rof1 (m := m5) hu (d := decide (i.op = 10)) rfl
    refine FCalls.mono hof ?_
    rintro v m6 ⟨rfl, rfl⟩
    clear hof hci hpi
    have ex1 : beginsV [x + 1] = [.int .i64 (IntKind.i64.wrap ((x : Int) + 1))] := by rw [step1]; rfl
    obtain ⟨us, ux, uy, ug, uc, un⟩ := u
    have hw := uses_ways hu
    simp only at hw hsn hsx hsy
    clear hu
    rcases hw with ⟨rfl, rfl, rfl⟩ | ⟨rfl, rfl, rfl⟩ | ⟨rfl, rfl, rfl⟩ | ⟨rfl, rfl, rfl⟩
    · (conv => whnf)
      intro nb M5 hb he
      replace h := h.new' (l := beginsV [x + 1]) hb (he.trans (by rw [ex1]; rfl))
      have hBn : M5.holds ⟨nb, 0, none⟩ (beginsV [x + 1]) := (h.blk 0 rfl).holds fun k v hk => by rw [Nat.zero_add]; exact hk
      clear hb he
      (conv => whnf)
      obtain ⟨ok, hR⟩ := h.app 1 (T := tbl) (e := 3) (news := beginsV [x + 1]) (k := 1) (B := some ⟨nb, 0, none⟩) rfl rfl (.inr ⟨_, rfl, hBn⟩) rfl rfl (by show 2 * (t.length + 1) * 8 ≤ 2 ^ 48; omega) rfl
      refine ⟨_, _, ok, fun A2 c2 M6 hr2 => ?_⟩
      replace h := (hR _ _ _ hr2).drop 0
      clear ok hR hr2 hBn
      (conv => whnf)
      have es : succU i ⟨us, false, false, ug, uc, true⟩ x = [x + 1] := rfl
      rw [es] at hD hmu3
      have h2 : Mv.Sep [sl A2 (t ++ [x + 1]).length c2 1 (beginsV (t ++ [x + 1])), pt bs (boolCells (seen.set x true)), kp m1] M6 := by
        rw [show (t ++ [x + 1]).length = t.length + 1 by simp, show beginsV (t ++ [x + 1]) = beginsV t ++ beginsV [x + 1] by simp [beginsV]]
        exact h
      have hlt := hmu3 (t ++ [x + 1]) (by simp)
      exact ⟨(t ++ [x + 1], A2, c2, seen.set x true, _), le_more (l := [_]) ⟨by show some (AV.v (.slice A2 (t.length + 1) c2)) = some (AV.v (.slice A2 (t ++ [x + 1]).length c2)); rw [show (t ++ [x + 1]).length = t.length + 1 by simp], rfl, rfl, trivial⟩ rfl rfl rfl, ⟨h2, hD, by simp only; omega⟩, hlt⟩
    · have exx : beginsV [i.x.toNat] = [.int .i64 i.x] := by have := hsx rfl; simp [beginsV]; omega
      have eyy : beginsV [i.y.toNat] = [.int .i64 i.y] := by have := hsy rfl; simp [beginsV]; omega
      (conv => whnf)
      obtain ⟨pi, hpi, hci⟩ := ins_at (hq.more (h.kept 2 rfl)) hi
      refine ⟨pi, hpi, by omega, by show ((x : Nat) : Int) < ((q.ins.length : Nat) : Int); omega, ?_⟩
      (conv => whnf)
      refine ⟨_, hci 1 _ rfl, ?_⟩
      (conv => whnf)
      intro nb M5 hb he
      replace h := h.new' (l := beginsV [i.x.toNat]) hb (he.trans (by rw [exx]; rfl))
      have hBn : M5.holds ⟨nb, 0, none⟩ (beginsV [i.x.toNat]) := (h.blk 0 rfl).holds fun k v hk => by rw [Nat.zero_add]; exact hk
      clear hb he
      (conv => whnf)
      obtain ⟨ok, hR⟩ := h.app 1 (T := tbl) (e := 3) (news := beginsV [i.x.toNat]) (k := 1) (B := some ⟨nb, 0, none⟩) rfl rfl (.inr ⟨_, rfl, hBn⟩) rfl rfl (by show 2 * (t.length + 1) * 8 ≤ 2 ^ 48; omega) rfl
      refine ⟨_, _, ok, fun A2 c2 M6 hr2 => ?_⟩
      replace h := (hR _ _ _ hr2).drop 0
      clear ok hR hr2 hBn
      (conv => whnf)
      obtain ⟨pi, hpi, hci⟩ := ins_at (hq.more (h.kept 2 rfl)) hi
      refine ⟨pi, hpi, by omega, by show ((x : Nat) : Int) < ((q.ins.length : Nat) : Int); omega, ?_⟩
      (conv => whnf)
      refine ⟨_, hci 2 _ rfl, ?_⟩
      (conv => whnf)
      intro nb M5 hb he
      replace h := h.new' (l := beginsV [i.y.toNat]) hb (he.trans (by rw [eyy]; rfl))
      have hBn : M5.holds ⟨nb, 0, none⟩ (beginsV [i.y.toNat]) := (h.blk 0 rfl).holds fun k v hk => by rw [Nat.zero_add]; exact hk
      clear hb he
      (conv => whnf)
      obtain ⟨ok, hR⟩ := h.app 1 (T := tbl) (e := 3) (news := beginsV [i.y.toNat]) (k := 1) (B := some ⟨nb, 0, none⟩) rfl rfl (.inr ⟨_, rfl, hBn⟩) rfl rfl (by show 2 * (t.length + 1 + 1) * 8 ≤ 2 ^ 48; omega) rfl
      refine ⟨_, _, ok, fun A2 c2 M6 hr2 => ?_⟩
      replace h := (hR _ _ _ hr2).drop 0
      clear ok hR hr2 hBn
      (conv => whnf)
      have es : succU i ⟨us, true, true, ug, uc, false⟩ x = [i.x.toNat, i.y.toNat] := rfl
      rw [es] at hD hmu3
      have h2 : Mv.Sep [sl A2 (t ++ [i.x.toNat, i.y.toNat]).length c2 1 (beginsV (t ++ [i.x.toNat, i.y.toNat])), pt bs (boolCells (seen.set x true)), kp m1] M6 := by
        rw [show (t ++ [i.x.toNat, i.y.toNat]).length = t.length + 1 + 1 by simp, show beginsV (t ++ [i.x.toNat, i.y.toNat]) = beginsV t ++ beginsV [i.x.toNat] ++ beginsV [i.y.toNat] by simp [beginsV]]
        exact h
      have hlt := hmu3 (t ++ [i.x.toNat, i.y.toNat]) (by simp)
      exact ⟨(t ++ [i.x.toNat, i.y.toNat], A2, c2, seen.set x true, _), le_more (l := [_]) ⟨by show some (AV.v (.slice A2 (t.length + 1 + 1) c2)) = some (AV.v (.slice A2 (t ++ [i.x.toNat, i.y.toNat]).length c2)); rw [show (t ++ [i.x.toNat, i.y.toNat]).length = t.length + 1 + 1 by simp], rfl, rfl, trivial⟩ rfl rfl rfl, ⟨h2, hD, by simp only; omega⟩, hlt⟩
    · have exx : beginsV [i.x.toNat] = [.int .i64 i.x] := by have := hsx rfl; simp [beginsV]; omega
      (conv => whnf)
      obtain ⟨pi, hpi, hci⟩ := ins_at (hq.more (h.kept 2 rfl)) hi
      refine ⟨pi, hpi, by omega, by show ((x : Nat) : Int) < ((q.ins.length : Nat) : Int); omega, ?_⟩
      (conv => whnf)
      refine ⟨_, hci 1 _ rfl, ?_⟩
      (conv => whnf)
      intro nb M5 hb he
      replace h := h.new' (l := beginsV [i.x.toNat]) hb (he.trans (by rw [exx]; rfl))
      have hBn : M5.holds ⟨nb, 0, none⟩ (beginsV [i.x.toNat]) := (h.blk 0 rfl).holds fun k v hk => by rw [Nat.zero_add]; exact hk
      clear hb he
      (conv => whnf)
      obtain ⟨ok, hR⟩ := h.app 1 (T := tbl) (e := 3) (news := beginsV [i.x.toNat]) (k := 1) (B := some ⟨nb, 0, none⟩) rfl rfl (.inr ⟨_, rfl, hBn⟩) rfl rfl (by show 2 * (t.length + 1) * 8 ≤ 2 ^ 48; omega) rfl
      refine ⟨_, _, ok, fun A2 c2 M6 hr2 => ?_⟩
      replace h := (hR _ _ _ hr2).drop 0
      clear ok hR hr2 hBn
      (conv => whnf)
      have es : succU i ⟨us, true, false, ug, uc, false⟩ x = [i.x.toNat] := rfl
      rw [es] at hD hmu3
      have h2 : Mv.Sep [sl A2 (t ++ [i.x.toNat]).length c2 1 (beginsV (t ++ [i.x.toNat])), pt bs (boolCells (seen.set x true)), kp m1] M6 := by
        rw [show (t ++ [i.x.toNat]).length = t.length + 1 by simp, show beginsV (t ++ [i.x.toNat]) = beginsV t ++ beginsV [i.x.toNat] by simp [beginsV]]
        exact h
      have hlt := hmu3 (t ++ [i.x.toNat]) (by simp)
      exact ⟨(t ++ [i.x.toNat], A2, c2, seen.set x true, _), le_more (l := [_]) ⟨by show some (AV.v (.slice A2 (t.length + 1) c2)) = some (AV.v (.slice A2 (t ++ [i.x.toNat]).length c2)); rw [show (t ++ [i.x.toNat]).length = t.length + 1 by simp], rfl, rfl, trivial⟩ rfl rfl rfl, ⟨h2, hD, by simp only; omega⟩, hlt⟩
    · (conv => whnf)
      have es : succU i ⟨us, false, false, ug, uc, false⟩ x = [] := rfl
      rw [es] at hD hmu3
      have h2 : Mv.Sep [sl A (t).length c 1 (beginsV (t)), pt bs (boolCells (seen.set x true)), kp m1] m6 := by
        rw [show (t).length = t.length by simp, show beginsV (t) = beginsV t by simp [beginsV]]
        exact h
      have hlt := hmu3 (t) (by simp)
      exact ⟨(t, A, c, seen.set x true, _), le_more (l := [_]) ⟨by show some (AV.v (.slice A (t.length) c)) = some (AV.v (.slice A (t).length c)); rw [show (t).length = t.length by simp], rfl, rfl, trivial⟩ rfl rfl rfl, ⟨h2, by simpa using hD, by simp only; omega⟩, hlt⟩
end Go.Proofs.YtfjbgmeimipibaaGreatDoor
/- Code: the chapter's first program, plain. -/
namespace Go.Proofs.YtfjbgmeimipibaaGreatDoor
open Go Go.Mv
set_option maxHeartbeats 2000000
set_option maxRecDepth 10000
set_option linter.unusedVariables false
set_option linter.unusedSimpArgs false
def smallI : List Ins := [⟨2, 1, 3, 0, 0, 0, 0, 0, 0, 0⟩, ⟨1, 0, 0, 0, 0, 0, 0, 8589934592, 0, 0⟩, ⟨3, 0, 0, 0, 0, 0, 0, 0, 0, 0⟩, ⟨11, 0, 0, 0, 0, 0, 0, 0, 0, 0⟩]
def smallP : Prg := ⟨none, 0, smallI, 0, 0, false⟩
def smallT : List UInt8 := [112, 114, 111, 103, 114, 97, 109, 32, 48, 32, 48, 10, 115, 112, 108, 105, 116, 32, 49, 32, 51, 10, 98, 121, 116, 101, 32, 54, 49, 10, 106, 117, 109, 112, 32, 48, 10, 109, 97, 116, 99, 104, 10]
def openT : List UInt8 := [112, 114, 111, 103, 114, 97, 109, 32, 48, 32, 48]
theorem small_right : rightF smallP = (0, 0) := by decide +kernel
theorem small_free : freeF smallP = true := by decide +kernel
theorem small_text : textL smallP = smallT := by decide +kernel
theorem open_read : readR openT = .error (61, 0) := by rfl
theorem small_read : readR smallT = .ok smallP := by rfl
theorem small_reach : (reachL smallP).length = 4 := by
  have h0 : Rch smallP 0 := .zero
  have h1 : Rch smallP 1 := .step h0 (by decide)
  have h3 : Rch smallP 3 := .step h0 (by decide)
  have h2 : Rch smallP 2 := .step h1 (by decide)
  have : reachL smallP = List.range 4 := by
    unfold reachL
    refine List.filter_eq_self.2 fun k hk => ?_
    have : k < 4 := by have := List.mem_range.1 hk; exact this
    have : k = 0 ∨ k = 1 ∨ k = 2 ∨ k = 3 := by omega
    rcases this with rfl | rfl | rfl | rfl <;> simpa
  rw [this]
  rfl
theorem small_ok : ∀ i ∈ smallI, InsOk i := by
  intro i hi
  simp only [smallI, List.mem_cons, List.not_mem_nil, or_false] at hi
  rcases hi with rfl | rfl | rfl | rfl <;> constructor <;> decide
theorem textL_A {A : Option Addr} {n : Nat} {I : List Ins} {g c : Int} {f : Bool} : textL ⟨A, n, I, g, c, f⟩ = textL ⟨none, 0, I, g, c, f⟩ := rfl
theorem freeF_A {A : Option Addr} {n : Nat} {I : List Ins} {g c : Int} {f : Bool} : freeF ⟨A, n, I, g, c, f⟩ = freeF ⟨none, 0, I, g, c, f⟩ := rfl
theorem same_yes {A B : Option Addr} {n k : Nat} {I : List Ins} {g c : Int} {f : Bool} : sameF ⟨A, n, I, g, c, f⟩ ⟨B, k, I, g, c, f⟩ = true := decide_eq_true ⟨rfl, rfl, rfl, rfl⟩
theorem Rch.to {q r : Prg} (h : q.ins = r.ins) {k : Nat} (hk : Rch q k) : Rch r k := by
  induction hk with
  | zero => exact .zero
  | step _ hj ih => exact .step ih (by unfold succL at hj ⊢; rw [← h]; exact hj)
theorem reach_A {q r : Prg} (h : q.ins = r.ins) : reachL q = reachL r := by
  unfold reachL
  rw [h]
  refine List.filter_congr fun k _ => ?_
  by_cases hk : Rch q k
  · simp [hk, hk.to h]
  · have : ¬ Rch r k := fun hr => hk (hr.to h.symm)
    simp [hk, this]
end Go.Proofs.YtfjbgmeimipibaaGreatDoor
/- Code: the laws' small program; known. -/
namespace Go.Proofs.YtfjbgmeimipibaaGreatDoor
open Go Go.Mv
set_option maxHeartbeats 4000000
set_option maxRecDepth 10000
set_option linter.unusedVariables false
set_option linter.unusedSimpArgs false
attribute [local irreducible] ByteArray.toList ReachOut ReadOut readR textL rightF freeF sameF reachL FCalls IntKind.wrap bits Mem.set Mem.setCell Mem.setCells YCalls RunP NextP RunU
theorem small_c {m : Mem} : FCalls Tryz.prog 32 [] m fun v m' => ∃ b, v = (Prg.mk (some ⟨b, 0, none⟩) 4 smallI 0 0 false).val ∧ Mv.Sep [sl (some ⟨b, 0, none⟩) 4 4 10 (icells smallI), kp m] m' := by
  refine fcalls_of_vc (T := tbl) (B := bodies) (pr := [99999, 0, 1]) (DR := dr32) (args := []) tbl_ok bodies_ok mixed Tryz.func32 rfl (by decide +kernel) (by simp [Tryz.f32]) rfl ?_
  (conv => whnf)
  refine ⟨by decide, ?_⟩
  (conv => whnf)
  refine ⟨by decide, ?_⟩
  (conv => whnf)
  refine ⟨rfl, rfl, rfl, ?_⟩
  (conv => whnf)
  refine ⟨rfl, rfl, ?_⟩
  (conv => whnf)
  intro nb m2 hb he
  have h := (Sep.init m).new' (l := icells smallI) hb (he.trans rfl)
  clear hb he
  (conv => whnf)
  refine ⟨nb, rfl, ?_⟩
  exact h.slOf 0 rfl rfl (Nat.le_refl _) (Nat.le_refl _) fun k v hk => hk
theorem small_right_c {m : Mem} {b n : Nat} (hq : (Prg.mk (some ⟨b, 0, none⟩) n smallI 0 0 false).at m) : FCalls Tryz.prog 17 [(Prg.mk (some ⟨b, 0, none⟩) n smallI 0 0 false).val] m fun v m' => v = .tuple #[.int .i64 0, .int .i64 0] ∧ m' = m := by
  have h := right_c hq
  rw [rightF_A, show rightF ⟨none, 0, smallI, 0, 0, false⟩ = (0, 0) from small_right] at h
  exact h
theorem small_text_c {m : Mem} (hg : Gl m) {b n : Nat} (hq : (Prg.mk (some ⟨b, 0, none⟩) n smallI 0 0 false).at m) : FCalls Tryz.prog 18 [(Prg.mk (some ⟨b, 0, none⟩) n smallI 0 0 false).val] m fun v m' => v = .tuple #[str smallT, .int .i64 0] ∧ m' = m := by
  have h := text_c hg hq small_ok
  rw [rightF_A, show rightF ⟨none, 0, smallI, 0, 0, false⟩ = (0, 0) from small_right, if_pos rfl, textL_A, show textL ⟨none, 0, smallI, 0, 0, false⟩ = smallT from small_text] at h
  exact h
theorem small_cmp : (ByteArray.toList ⟨smallT.toArray⟩ == ByteArray.toList ⟨#[112, 114, 111, 103, 114, 97, 109, 32, 48, 32, 48, 10, 115, 112, 108, 105, 116, 32, 49, 32, 51, 10, 98, 121, 116, 101, 32, 54, 49, 10, 106, 117, 109, 112, 32, 48, 10, 109, 97, 116, 99, 104, 10]⟩) = true := by
  have e : (⟨smallT.toArray⟩ : ByteArray) = ⟨#[112, 114, 111, 103, 114, 97, 109, 32, 48, 32, 48, 10, 115, 112, 108, 105, 116, 32, 49, 32, 51, 10, 98, 121, 116, 101, 32, 54, 49, 10, 106, 117, 109, 112, 32, 48, 10, 109, 97, 116, 99, 104, 10]⟩ := rfl
  rw [e]
  exact beq_self_eq_true _
theorem known_c {m : Mem} (hg : Gl m) : FCalls Tryz.prog 12 [] m fun v m' => v = .bool true ∧ m.le m' := by
  refine fcalls_of_vc (T := tbl) (B := bodies) (pr := [99999, 1, 6, 10]) (DR := dr12) (args := []) tbl_ok bodies_ok mixed Tryz.func12 rfl (by decide +kernel) (by simp [Tryz.f12]) rfl ?_
  (conv => whnf)
  refine FCalls.mono small_c ?_
  rintro v m1 ⟨b, rfl, h⟩
  have hq : (Prg.mk (some ⟨b, 0, none⟩) 4 smallI 0 0 false).at m1 := h.rd 0 rfl
  have hm := h.kept 1 rfl
  have hg1 := hg.more hm
  clear h
  (conv => whnf)
  refine FCalls.mono (small_right_c hq) ?_
  rintro v m2 ⟨rfl, rfl⟩
  (conv => whnf)
  obtain ⟨t, ht⟩ : ∃ t, t = smallT := ⟨_, rfl⟩
  have htx := small_text_c hg1 hq
  rw [← ht] at htx
  refine FCalls.mono htx ?_
  rintro v m3 ⟨rfl, rfl⟩
  clear htx
  (conv => whnf)
  have hr := read_c hg1 (s := smallT) (by decide)
  rw [small_read] at hr
  refine FCalls.mono hr ?_
  intro v m4 ho
  unfold ReadOut at ho
  obtain ⟨A, n, rfl, h⟩ := ho
  clear hr
  have hm4 := h.kept 1 rfl
  have hq4 := hq.more hm4
  have hr4 : (Prg.mk A n smallI 0 0 false).at m4 := h.rd 0 rfl
  have hg4 := hg1.more hm4
  have hle4 := Mem.le_trans hm hm4
  clear h
  (conv => whnf)
  refine FCalls.mono (reach_c hq4) ?_
  intro v m5 ho
  unfold ReachOut at ho
  rw [if_pos (by rw [rightF_A]; exact congrArg Prod.fst small_right)] at ho
  obtain ⟨B, e, rfl, h⟩ := ho
  have e4 : (reachL (Prg.mk (some ⟨b, 0, none⟩) 4 smallI 0 0 false)).length = 4 := by rw [reach_A (q := Prg.mk (some ⟨b, 0, none⟩) 4 smallI 0 0 false) (r := smallP) rfl]; exact small_reach
  rw [e4] at h ⊢
  have hm5 := h.kept 1 rfl
  have hq5 := hq4.more hm5
  have hr5 := hr4.more hm5
  have hg5 := hg4.more hm5
  have hle5 := Mem.le_trans hle4 hm5
  clear h
  (conv => whnf)
  have hr := read_c hg5 (s := openT) (by decide)
  rw [open_read] at hr
  refine FCalls.mono hr ?_
  intro v m6 ho
  unfold ReadOut at ho
  obtain ⟨bb, rfl, h⟩ := ho
  have hm6 := h.kept 1 rfl
  have hq6 := hq5.more hm6
  have hr6 := hr5.more hm6
  have hle6 := Mem.le_trans hle5 hm6
  clear h hr
  (conv => whnf)
  have hs := same_c hq6 hr6 (show (4 : Nat) ≤ _ by omega)
  rw [show sameF (Prg.mk (some ⟨b, 0, none⟩) 4 smallI 0 0 false) (Prg.mk A n smallI 0 0 false) = true from same_yes] at hs
  refine FCalls.mono hs ?_
  rintro v m7 ⟨rfl, rfl⟩
  clear hs
  (conv => whnf)
  have hf := free_a hq6 (show (4 : Nat) ≤ _ by omega)
  rw [freeF_A, show freeF ⟨none, 0, smallI, 0, 0, false⟩ = true from small_free] at hf
  refine FCalls.mono hf ?_
  rintro v m8 ⟨rfl, rfl⟩
  clear hf
  (conv => whnf)
  cases hd : (ByteArray.toList ⟨t.toArray⟩ == ByteArray.toList ⟨#[112, 114, 111, 103, 114, 97, 109, 32, 48, 32, 48, 10, 115, 112, 108, 105, 116, 32, 49, 32, 51, 10, 98, 121, 116, 101, 32, 54, 49, 10, 106, 117, 109, 112, 32, 48, 10, 109, 97, 116, 99, 104, 10]⟩) with
  | false =>
    exfalso
    rw [ht, small_cmp] at hd
    cases hd
  | true =>
    clear hd
    (conv => whnf)
    refine ⟨_, fun w => (nil_cmp Tryz.underlying48 w _ (.inl rfl)).1, ?_⟩
    (conv => whnf)
    refine ⟨_, fun w => (nil_cmp Tryz.underlying48 w _ (.inr ⟨_, _, rfl⟩)).2, ?_⟩
    (conv => whnf)
    exact ⟨rfl, hle6⟩
end Go.Proofs.YtfjbgmeimipibaaGreatDoor
/- Code: lent. -/
namespace Go.Proofs.YtfjbgmeimipibaaGreatDoor
open Go Go.Mv
set_option maxHeartbeats 4000000
set_option maxRecDepth 10000
set_option linter.unusedVariables false
set_option linter.unusedSimpArgs false
attribute [local irreducible] FCalls IntKind.wrap bits Mem.set Mem.setCell Mem.setCells YCalls RunP NextP RunU
def markI : Ins := ⟨-7, 0, 0, 0, 0, 0, 0, 0, 0, 0⟩
theorem icells_one : ∀ l : List Ins, oneCells (icells l) = true
  | [] => rfl
  | i :: l => by
    show oneCells (i.cells ++ icells l) = true
    exact icells_one l
theorem icells_len (l : List Ins) : (icells l).length = l.length * 10 := flat_len ins_len l
theorem icells_app (a b : List Ins) : icells (a ++ b) = icells a ++ icells b := by simp [icells]
theorem lent_c {m : Mem} {q : Prg} (hq : q.at m) (hn : q.ins.length * 160 + 320 ≤ 2 ^ 48) : FCalls Tryz.prog 13 [q.val] m fun v m' =>
    ∃ A n, v = (Prg.mk A n q.ins q.groups q.counters q.fold).val ∧ Mv.Sep [sl A (q.ins.length + 2) n 10 (icells (q.ins ++ [markI, markI])), kp m] m' := by
  refine fcalls_of_vc (T := tbl) (B := bodies) (pr := [99999, 1, 2, 4]) (DR := dr13) (args := [.v q.val]) tbl_ok bodies_ok mixed Tryz.func13 rfl (by decide +kernel) (by simp [Tryz.f13]) rfl ?_
  (conv => whnf)
  have h := Sep.free (A := sl none 0 0 10 []) (Sep.init m) sl_nil
  obtain ⟨ok, hR⟩ := h.app 0 (T := tbl) (e := 56) (news := icells q.ins) (k := q.ins.length) (B := q.A) rfl (icells_len _) (Mv.Rd.holds hq (icells_len _)) (icells_one _) rfl (by show 2 * (0 + q.ins.length) * 80 ≤ 2 ^ 48; omega) rfl
  refine ⟨_, _, ok, fun A1 c1 m2 hr2 => ?_⟩
  replace h := hR _ _ _ hr2
  clear ok hR hr2
  replace h : Mv.Sep [sl A1 (0 + q.ins.length) c1 10 (icells q.ins), kp m] m2 := h
  (conv => whnf)
  refine ⟨?_, ?_, trivial⟩
  · (conv => whnf)
    intro nb m5 hb he
    replace h := h.new' (l := icells [markI, markI]) hb (he.trans rfl)
    have hBn : m5.holds ⟨nb, 0, none⟩ (icells [markI, markI]) := (h.blk 0 rfl).holds fun k v hk => by rw [Nat.zero_add]; exact hk
    clear hb he
    (conv => whnf)
    refine ⟨?_, ?_, trivial⟩
    · (conv => whnf)
      obtain ⟨ok, hR⟩ := h.app 1 (T := tbl) (e := 56) (news := icells [markI, markI]) (k := 2) (B := some ⟨nb, 0, none⟩) rfl rfl (.inr ⟨_, rfl, hBn⟩) (icells_one _) rfl (by show 2 * (0 + q.ins.length + 2) * 80 ≤ 2 ^ 48; omega) rfl
      refine ⟨_, _, ok, fun A2 c2 m6 hr2 => ?_⟩
      replace h := (hR _ _ _ hr2).drop 0
      clear ok hR hr2 hBn
      (conv => whnf)
      refine ⟨by omega, by omega, by have := (h.asn 0 rfl).2.1; show ((q.ins.length : Nat) : Int) ≤ ((c2 : Nat) : Int); omega, ?_⟩
      (conv => whnf)
      rw [slice_lo0]
      have e2 : 0 + q.ins.length + 2 = q.ins.length + 2 := by omega
      rw [e2] at h
      exact ⟨A2, c2, rfl, by rw [icells_app]; exact h⟩
    · (conv => whnf)
      refine ⟨?_, ?_, trivial⟩
      · (conv => whnf)
        obtain ⟨ok, hR⟩ := h.app 1 (T := tbl) (e := 56) (news := icells [markI, markI]) (k := 2) (B := some ⟨nb, 0, none⟩) rfl rfl (.inr ⟨_, rfl, hBn⟩) (icells_one _) rfl (by show 2 * (0 + q.ins.length + 2) * 80 ≤ 2 ^ 48; omega) rfl
        refine ⟨_, _, ok, fun A2 c2 m6 hr2 => ?_⟩
        replace h := (hR _ _ _ hr2).drop 0
        clear ok hR hr2 hBn
        (conv => whnf)
        refine ⟨by omega, by omega, by have := (h.asn 0 rfl).2.1; show ((q.ins.length : Nat) : Int) ≤ ((c2 : Nat) : Int); omega, ?_⟩
        (conv => whnf)
        rw [slice_lo0]
        have e2 : 0 + q.ins.length + 2 = q.ins.length + 2 := by omega
        rw [e2] at h
        exact ⟨A2, c2, rfl, by rw [icells_app]; exact h⟩
      · (conv => whnf)
        obtain ⟨ok, hR⟩ := h.app 1 (T := tbl) (e := 56) (news := icells [markI, markI]) (k := 2) (B := some ⟨nb, 0, none⟩) rfl rfl (.inr ⟨_, rfl, hBn⟩) (icells_one _) rfl (by show 2 * (0 + q.ins.length + 2) * 80 ≤ 2 ^ 48; omega) rfl
        refine ⟨_, _, ok, fun A2 c2 m6 hr2 => ?_⟩
        replace h := (hR _ _ _ hr2).drop 0
        clear ok hR hr2 hBn
        (conv => whnf)
        refine ⟨by omega, by omega, by have := (h.asn 0 rfl).2.1; show ((q.ins.length : Nat) : Int) ≤ ((c2 : Nat) : Int); omega, ?_⟩
        (conv => whnf)
        rw [slice_lo0]
        have e2 : 0 + q.ins.length + 2 = q.ins.length + 2 := by omega
        rw [e2] at h
        exact ⟨A2, c2, rfl, by rw [icells_app]; exact h⟩
  · (conv => whnf)
    refine ⟨?_, ?_, trivial⟩
    · (conv => whnf)
      intro nb m5 hb he
      replace h := h.new' (l := icells [markI, markI]) hb (he.trans rfl)
      have hBn : m5.holds ⟨nb, 0, none⟩ (icells [markI, markI]) := (h.blk 0 rfl).holds fun k v hk => by rw [Nat.zero_add]; exact hk
      clear hb he
      (conv => whnf)
      refine ⟨?_, ?_, trivial⟩
      · (conv => whnf)
        obtain ⟨ok, hR⟩ := h.app 1 (T := tbl) (e := 56) (news := icells [markI, markI]) (k := 2) (B := some ⟨nb, 0, none⟩) rfl rfl (.inr ⟨_, rfl, hBn⟩) (icells_one _) rfl (by show 2 * (0 + q.ins.length + 2) * 80 ≤ 2 ^ 48; omega) rfl
        refine ⟨_, _, ok, fun A2 c2 m6 hr2 => ?_⟩
        replace h := (hR _ _ _ hr2).drop 0
        clear ok hR hr2 hBn
        (conv => whnf)
        refine ⟨by omega, by omega, by have := (h.asn 0 rfl).2.1; show ((q.ins.length : Nat) : Int) ≤ ((c2 : Nat) : Int); omega, ?_⟩
        (conv => whnf)
        rw [slice_lo0]
        have e2 : 0 + q.ins.length + 2 = q.ins.length + 2 := by omega
        rw [e2] at h
        exact ⟨A2, c2, rfl, by rw [icells_app]; exact h⟩
      · (conv => whnf)
        obtain ⟨ok, hR⟩ := h.app 1 (T := tbl) (e := 56) (news := icells [markI, markI]) (k := 2) (B := some ⟨nb, 0, none⟩) rfl rfl (.inr ⟨_, rfl, hBn⟩) (icells_one _) rfl (by show 2 * (0 + q.ins.length + 2) * 80 ≤ 2 ^ 48; omega) rfl
        refine ⟨_, _, ok, fun A2 c2 m6 hr2 => ?_⟩
        replace h := (hR _ _ _ hr2).drop 0
        clear ok hR hr2 hBn
        (conv => whnf)
        refine ⟨by omega, by omega, by have := (h.asn 0 rfl).2.1; show ((q.ins.length : Nat) : Int) ≤ ((c2 : Nat) : Int); omega, ?_⟩
        (conv => whnf)
        rw [slice_lo0]
        have e2 : 0 + q.ins.length + 2 = q.ins.length + 2 := by omega
        rw [e2] at h
        exact ⟨A2, c2, rfl, by rw [icells_app]; exact h⟩
    · (conv => whnf)
      intro nb m5 hb he
      replace h := h.new' (l := icells [markI, markI]) hb (he.trans rfl)
      have hBn : m5.holds ⟨nb, 0, none⟩ (icells [markI, markI]) := (h.blk 0 rfl).holds fun k v hk => by rw [Nat.zero_add]; exact hk
      clear hb he
      (conv => whnf)
      obtain ⟨ok, hR⟩ := h.app 1 (T := tbl) (e := 56) (news := icells [markI, markI]) (k := 2) (B := some ⟨nb, 0, none⟩) rfl rfl (.inr ⟨_, rfl, hBn⟩) (icells_one _) rfl (by show 2 * (0 + q.ins.length + 2) * 80 ≤ 2 ^ 48; omega) rfl
      refine ⟨_, _, ok, fun A2 c2 m6 hr2 => ?_⟩
      replace h := (hR _ _ _ hr2).drop 0
      clear ok hR hr2 hBn
      (conv => whnf)
      refine ⟨by omega, by omega, by have := (h.asn 0 rfl).2.1; show ((q.ins.length : Nat) : Int) ≤ ((c2 : Nat) : Int); omega, ?_⟩
      (conv => whnf)
      rw [slice_lo0]
      have e2 : 0 + q.ins.length + 2 = q.ins.length + 2 := by omega
      rw [e2] at h
      exact ⟨A2, c2, rfl, by rw [icells_app]; exact h⟩
end Go.Proofs.YtfjbgmeimipibaaGreatDoor
/- Code: CodeSames. -/
namespace Go.Proofs.YtfjbgmeimipibaaGreatDoor
open Go Go.Mv
set_option maxHeartbeats 4000000
set_option maxRecDepth 10000
set_option linter.unusedVariables false
set_option linter.unusedSimpArgs false
theorem same_comm {q r : Prg} : sameF q r = sameF r q := by
  unfold sameF
  congr 1
  exact propext ⟨fun h => ⟨h.1.symm, h.2.1.symm, h.2.2.1.symm, h.2.2.2.symm⟩, fun h => ⟨h.1.symm, h.2.1.symm, h.2.2.1.symm, h.2.2.2.symm⟩⟩
theorem same_self {q : Prg} : sameF q q = true := decide_eq_true ⟨rfl, rfl, rfl, rfl⟩
theorem same_lent {A : Option Addr} {n : Nat} {q : Prg} : sameF q (Prg.mk A n q.ins q.groups q.counters q.fold) = true := decide_eq_true ⟨rfl, rfl, rfl, rfl⟩
theorem lent_rd {m : Mem} {A : Option Addr} {I J : List Ins} (h : Mv.Rd m A (icells (I ++ J))) : Mv.Rd m A (icells I) := by
  have := h.take (I.length * 10)
  rw [icells_app, List.take_left' (icells_len I)] at this
  exact this
attribute [local irreducible] sameF FCalls IntKind.wrap bits Mem.set Mem.setCell Mem.setCells YCalls RunP NextP RunU
theorem codeSames_c {m : Mem} (hg : Gl m) {p q : Prg} (hp : p.at m) (hq : q.at m) (h0p : p.ins.length * 160 + 320 ≤ 2 ^ 48) (h0q : q.ins.length * 160 + 320 ≤ 2 ^ 48) : FCalls Tryz.prog 5 [p.val, q.val] m fun v m' => v = .bool true ∧ m.le m' := by
  refine fcalls_of_vc (T := tbl) (B := bodies) (pr := [99999, 2, 3]) (DR := dr5) (args := [.v p.val, .v q.val]) tbl_ok bodies_ok mixed Tryz.func5 rfl (by decide +kernel) (by simp [Tryz.f5]) rfl ?_
  (conv => whnf)
  refine FCalls.mono (known_c hg) ?_
  rintro v m1 ⟨rfl, hm⟩
  have hp1 := hp.more hm
  have hq1 := hq.more hm
  clear hp hq
  (conv => whnf)
  have h1 := rsame_c hp1 hq1 (by omega)
  have h2 := same_c hp1 hq1 (by omega)
  have h3 := same_c hq1 hp1 (by omega)
  have h4 := same_c hp1 hp1 (by omega)
  rw [same_self] at h4
  rw [same_comm] at h3
  obtain ⟨b, hb⟩ : ∃ b, b = sameF p q := ⟨_, rfl⟩
  rw [← hb] at h1 h2 h3
  clear hb
  refine FCalls.mono h1 ?_
  rintro v m2 ⟨rfl, rfl⟩
  clear h1
  cases b
  all_goals
    (conv => whnf)
    refine FCalls.mono h2 ?_
    rintro v m3 ⟨rfl, rfl⟩
    (conv => whnf)
    refine FCalls.mono h3 ?_
    rintro v m4 ⟨rfl, rfl⟩
    (conv => whnf)
    refine FCalls.mono h4 ?_
    rintro v m5 ⟨rfl, rfl⟩
    (conv => whnf)
    refine ⟨?_, ?_, trivial⟩
    · (conv => whnf)
      refine FCalls.mono (lent_c hq1 h0q) ?_
      rintro v m6 ⟨A, n, rfl, h⟩
      have hq6 : (Prg.mk A n q.ins q.groups q.counters q.fold).at m6 := lent_rd (h.rd 0 rfl)
      have h5 := same_c (hq1.more (h.kept 1 rfl)) hq6 (by omega)
      rw [show sameF q (Prg.mk A n q.ins q.groups q.counters q.fold) = true from same_lent] at h5
      (conv => whnf)
      refine FCalls.mono h5 ?_
      rintro v m7 ⟨rfl, rfl⟩
      (conv => whnf)
      exact ⟨rfl, Mem.le_trans hm (h.kept 1 rfl)⟩
    · (conv => whnf)
      refine FCalls.mono (lent_c hq1 h0q) ?_
      rintro v m6 ⟨A, n, rfl, h⟩
      have hq6 : (Prg.mk A n q.ins q.groups q.counters q.fold).at m6 := lent_rd (h.rd 0 rfl)
      have h5 := same_c (hq1.more (h.kept 1 rfl)) hq6 (by omega)
      rw [show sameF q (Prg.mk A n q.ins q.groups q.counters q.fold) = true from same_lent] at h5
      (conv => whnf)
      refine FCalls.mono h5 ?_
      rintro v m7 ⟨rfl, rfl⟩
      (conv => whnf)
      exact ⟨rfl, Mem.le_trans hm (h.kept 1 rfl)⟩
end Go.Proofs.YtfjbgmeimipibaaGreatDoor
/- Code: what the listed variables give. -/
namespace Go.Proofs.YtfjbgmeimipibaaGreatDoor
open Go Go.Mv
set_option linter.unusedVariables false
set_option maxRecDepth 10000
abbrev laidL : List (String × DataW Unit) := Rows.codeSamesRow.laid
theorem gP : Tryz.prog.globalNamed "internal/strconv.uint64pow10" = some 1 := by kernel_rfl
theorem gE : Tryz.prog.globalNamed "strconv.ErrSyntax" = some 2 := by kernel_rfl
theorem door_met (os : Os) (args : Array Value) : laidMetH Tryz.prog laidL ((World.laidAll Tryz.prog os laidL).forCall (fun _ _ => 0) ⟨#[], args, []⟩).memory := by
  rw [MakeChecks.laidMetH_plain _ _ _ (by kernel_rfl)]
  exact laidMet_laidAll _ (by kernel_rfl) (by kernel_rfl)
theorem witness_zip {H : Type} {enc : TypeId × Value → H} {C : Checked} {os : Os} {f : FuncId} {fn : Func} {s : OpenSpec} {conds : List PathCond} {apart : Bool} {laid : List (String × DataW Unit)} (w0 : World) (args : Array Value) (hos : w0.os = os)
    (hv : (w0.forCall (fun _ _ => 0) ⟨#[], args, []⟩).variablesZipB C.prog = true)
    (hr : ((w0.forCall (fun _ _ => 0) ⟨#[], args, []⟩).heap.toList.drop C.prog.globals.size).take ((begin C.prog (fun _ _ => 0) default).world.heap.size - C.prog.globals.size) =
      (begin C.prog (fun _ _ => 0) default).world.heap.toList.drop C.prog.globals.size)
    (hok : Input.okWideB C.prog (w0.forCall (fun _ _ => 0) ⟨#[], args, []⟩) f ⟨#[], args, []⟩ = true)
    (hrow : s.preRow enc C.prog fn conds apart laid (w0.forCall (fun _ _ => 0) ⟨#[], args, []⟩).memory args) :
    ∃ (w : World) (tape : Tape) (i : Input), w.os = os ∧ (w.forCall tape i).Shaped C.prog ∧ i.vars = [] ∧ Input.okWide C.prog (w.forCall tape i) .any w.heap.size f i ∧
      s.preRow enc C.prog fn conds apart laid (w.forCall tape i).memory i.args ∧ ({} : Assume).holds C.prog (lone (Frame.enter C.prog f i.args .normal) [] (w.forCall tape i)) :=
  ⟨w0, fun _ _ => 0, ⟨#[], args, []⟩, hos, World.shaped_of_ZipB hv hr, (Input.okWide_of_okWideB (base := 0) hok).1, (Input.okWide_of_okWideB hok).2, hrow, by
    simp only [Assume.holds]
    exact ⟨by simp, by simp, by simp, by simp, by simp⟩⟩
theorem int_of_shape {P : Program} {w : World} {g : Nat} {t : TypeId} {k : IntKind} {zero : Array Value} (h : w.ShapedOpen P) (hg : g < P.globals.size)
    (h0 : ((begin P (fun _ _ => 0) default).world.heap[g]?).bind Obj.row? = some (zero, t)) (hz : zero.size = 1)
    (hb : P.buildable t = true) (hc : P.cellTypes P.depth t = some [t]) (hu : P.underlying t = some (.int k)) : ∃ x, w.cell? ⟨g, 0, none⟩ = some (.int k x) := by
  obtain ⟨cs, hh, hs, hr⟩ := h.1 g zero t hg h0
  obtain ⟨ts, hts, _, hall⟩ := hr hb
  rw [hc] at hts
  cases hts
  have h1 : 0 < cs.size := by omega
  obtain ⟨u, hu', hok⟩ := hall 0 cs[0] (by simp [h1])
  have : u = t := by simpa using hu'.symm
  subst this
  have hcell : w.cell? ⟨g, 0, none⟩ = some cs[0] := by simp [World.cell?, hh, h1]
  rw [hcell]
  unfold Cell.ok at hok
  rw [hu] at hok
  cases hv : cs[0] <;> rw [hv] at hok <;> first | (simp at hok; done) | skip
  have := hok.1
  subst this
  exact ⟨_, rfl⟩
theorem dP : (Rows.laid_internal_strconv_uint64pow10 : DataW Unit) = Lib.tabData .u64 Lib.pow10Tab := by kernel_rfl
theorem yP : (Tryz.prog.globals[1]?).map (·.type) = some 149 := by kernel_rfl
theorem yE : (Tryz.prog.globals[2]?).map (·.type) = some 48 := by kernel_rfl
theorem c149 : Tryz.prog.cellsOf 149 = 20 := by kernel_rfl
theorem c5' : Tryz.prog.cellsOf 52 = 1 := by kernel_rfl
theorem of_laid {W : World} (h0 : laidMetH Tryz.prog laidL W) (hO : W.ShapedOpen Tryz.prog) : Gl (whole W) := by
  rw [MakeChecks.laidMetH_plain _ _ _ (by kernel_rfl)] at h0
  have hP : Lib.VarReads Tryz.prog W "internal/strconv.uint64pow10" Rows.laid_internal_strconv_uint64pow10 := Lib.laidMet.reads h0 (by simp [laidL, Rows.codeSamesRow])
  have hE : Lib.VarReads Tryz.prog W "strconv.ErrSyntax" Rows.laid_strconv_ErrSyntax := Lib.laidMet.reads h0 (by simp [laidL, Rows.codeSamesRow])
  refine ⟨?_, ?_, ?_⟩
  · obtain ⟨x, hx⟩ := int_of_shape (g := 0) (t := 3) (zero := #[.int .i64 0]) (k := .i64) hO (of_decide_eq_true (by kernel_rfl)) (by kernel_rfl) rfl (by kernel_rfl) (by kernel_rfl) Tryz.underlying3
    exact ⟨x, by rw [whole_cell]; exact hx⟩
  · obtain ⟨g, t, cs, fuel, p, hg, hty, hvar, hd⟩ := hP
    obtain rfl := Option.some.inj (gP.symm.trans hg)
    obtain rfl := Option.some.inj (yP.symm.trans hty)
    rw [dP] at hd
    have hcs := Lib.cells_of_tab Tryz.underlying149 Tryz.underlying52 c5' c149 hd
    obtain ⟨cs', hh, _, _⟩ := hO.1 1 (Array.replicate 20 (.int .u64 0)) 149 (of_decide_eq_true (by kernel_rfl)) (by kernel_rfl)
    have e : cs' = cs := by
      simp only [World.var?, hg, Option.bind_some, hh, Option.some.injEq] at hvar
      exact hvar
    subst e
    refine ⟨149, (0, 0), ?_⟩
    show W.heap[1]? = _
    rw [hh]
    congr 2
    apply Array.ext'
    rw [hcs]
  · obtain ⟨g, t, cs, fuel, p, hg, hty, hvar, hd⟩ := hE
    obtain rfl := Option.some.inj (gE.symm.trans hg)
    obtain rfl := Option.some.inj (yE.symm.trans hty)
    obtain ⟨_, u, v, hcs, _, _⟩ := iface_of_trod Tryz.underlying48 hd
    refine ⟨.iface u v, ?_, .inr ⟨_, _, rfl⟩⟩
    rw [whole_cell, World.var?_cell hg hvar 0, ← Array.getElem?_toList, hcs]
    rfl
end Go.Proofs.YtfjbgmeimipibaaGreatDoor
/- Code: programs as they come in. -/
namespace Go.Proofs.YtfjbgmeimipibaaGreatDoor
open Go Go.Mv
set_option maxHeartbeats 2000000
set_option maxRecDepth 10000
set_option linter.unusedVariables false
abbrev InsT := Int × (Int × (Int × (Int × (Int × (Int × (List Int × Unit))))))
def insF (y : InsT) : List Value := [.int .i64 y.1] ++ ([.int .i64 y.2.1] ++ ([.int .i64 y.2.2.1] ++ ([.int .i64 y.2.2.2.1] ++ ([.int .i64 y.2.2.2.2.1] ++ ([.int .i64 y.2.2.2.2.2.1] ++ (y.2.2.2.2.2.2.1.flatMap (fun n : Int => [Value.int .u64 n]) ++ []))))))
def toIns (y : InsT) : Ins := ⟨y.1, y.2.1, y.2.2.1, y.2.2.2.1, y.2.2.2.2.1, y.2.2.2.2.2.1, y.2.2.2.2.2.2.1.getD 0 0, y.2.2.2.2.2.2.1.getD 1 0, y.2.2.2.2.2.2.1.getD 2 0, y.2.2.2.2.2.2.1.getD 3 0⟩
theorem insF_eq {y : InsT} (h : y.2.2.2.2.2.2.1.length = 4) : insF y = (toIns y).cells := by
  obtain ⟨a, b, c, d, e, f, l, u⟩ := y
  match l, h with
  | [p, q, r, s], _ => rfl
theorem insF_flat : ∀ {l : List InsT}, (∀ y, y ∈ l → y.2.2.2.2.2.2.1.length = 4) → l.flatMap insF = icells (l.map toIns)
  | [], _ => rfl
  | y :: l, h => by
    rw [List.flatMap_cons, insF_eq (h y (by simp)), insF_flat fun z hz => h z (by simp [hz])]
    rfl
abbrev PrgT := (Option Addr × Nat × Nat × List InsT) × (Int × (Int × (Bool × Unit)))
def prgF (z : PrgT) : List Value := [.slice z.1.1 z.1.2.1 z.1.2.2.1] ++ ([.int .i64 z.2.1] ++ ([.int .i64 z.2.2.1] ++ ([.bool z.2.2.2.1] ++ [])))
def toPrg (z : PrgT) : Prg := ⟨z.1.1, z.1.2.2.1, z.1.2.2.2.map toIns, z.2.1, z.2.2.1, z.2.2.2.1⟩
theorem prgF_val {z : PrgT} (h : z.1.2.2.2.length = z.1.2.1) : Value.agg (prgF z).toArray = (toPrg z).val := by
  unfold toPrg Prg.val Prg.cells prgF
  dsimp only
  rw [List.length_map, h]
  rfl
theorem prgF_at {z : PrgT} {m : Mem} (h : Rd m z.1.1 (z.1.2.2.2.flatMap insF)) (hl : ∀ y, y ∈ z.1.2.2.2 → y.2.2.2.2.2.2.1.length = 4) : (toPrg z).at m := by
  rw [insF_flat hl] at h
  exact h
theorem b56 : Tryz.prog.bytesOf 56 = 80 := by kernel_rfl
theorem prg_short {z : PrgT} (h : z.1.2.2.2.length = z.1.2.1) (hb : z.1.2.1 * Tryz.prog.bytesOf 56 ≤ reachBytes) : (toPrg z).ins.length * 160 + 320 ≤ 2 ^ 48 := by
  rw [b56] at hb
  unfold reachBytes at hb
  unfold toPrg
  dsimp only
  rw [List.length_map, h]
  omega
end Go.Proofs.YtfjbgmeimipibaaGreatDoor
