/- Texts that the claim leans on, joined: DfX, DfY, DfZ, DfKp, DfIn. -/
import Derived.Test.YtkkcdfnlmhmheaaQr4
/- Dfa: DfaFresh. -/
namespace Go.Proofs.Ytkkcdfnlmhmheaa
open Go Go.Mv
set_option maxHeartbeats 4000000
set_option maxRecDepth 10000
set_option linter.unusedVariables false
set_option linter.unusedSimpArgs false
attribute [local irreducible] FCalls IntKind.wrap bits Mem.set Mem.setCell Mem.setCells YCalls RunP NextP RunU
theorem dfaFresh_c {m : Mem} {q : Prg} {room : Int} {A : Option Addr} {c : Nat} {zs : List Cl} (hq : q.at m) (h1 : In64 room) (hA : Rd m A (zs.flatMap Cl.cells)) (hz : ∀ z, z ∈ zs → z.line.size ≤ 1048576) (hn : zs.length ≤ 1048576) :
    FCalls Try.prog 4 [q.val, .int .i64 room, .slice A zs.length c] m fun v m' => v = .bool true ∧ m' = m := by
  refine FCalls.less ?_
  have hp1 := pickI_range (c := room) (n := 6) (by omega)
  have hw1 : IntKind.i64.wrap (2 + pickI room 6) = 2 + pickI room 6 := wrap_id (by omega) (by omega)
  have hrr : refusedF q 100000 = refusedF q (2 + pickI room 6) := refused_room (by omega) (by omega)
  refine fcalls_of_vc (T := tbl) (B := bodies) (pr := [99999, 3]) (DR := dr4) (args := [.v q.val, .v (.int .i64 room), .v (.slice A zs.length c)]) tbl_ok bodies_ok mixed Try.func4 rfl (by decide +kernel) (by simp [Try.f4]) rfl ?_
  (conv => whnf)
  refine FCalls.mono known_c ?_
  rintro v m' ⟨rfl, rfl⟩
  (conv => whnf)
  refine FCalls.mono (pick_c h1.1 h1.2 (by omega)) ?_
  rintro v mB ⟨rfl, rfl⟩
  (conv => whnf)
  rcases Classical.em (refusedF q (2 + pickI room 6) = 0) with hr | hr
  rotate_left
  · refine FCalls.mono (new_bad (q := q) hq (by rw [hw1]; exact hr)) ?_
    rintro v m' ⟨rfl, rfl⟩
    rw [hw1]
    obtain ⟨rf, hrf⟩ : ∃ rf, rf = refusedF q (2 + pickI room 6) := ⟨_, rfl⟩
    rw [← hrf] at hr ⊢
    (conv => whnf)
    refine brk_true (by simpa using hr) ?_
    (conv => whnf)
    exact ⟨_, Mem.le_refl _, rfl, rfl⟩
  refine FCalls.mono (new_d (q := q) (Sep.init _) hq (by rw [hw1]; exact hr)) ?_
  rintro v m2 ⟨da, rfl, hS⟩
  (conv => whnf)
  refine loop_keep [2, 3, 8] (Nat × Mem) (fun z => [(10, .v (.int .i64 ((z.1 : Nat) : Int)))]) (fun _ => [.cells q.cells]) (fun z => z.2) (fun z => z.1 ≤ zs.length ∧ Sep [dm (auOf q) da, kp mB] z.2) (fun z => zs.length - z.1) (0, m2) ⟨rfl, trivial⟩ rfl rfl ⟨by omega, hS⟩ ?_
  clear hS
  (conv => whnf)
  refine ⟨rfl, ?_⟩
  rintro ⟨i, M⟩ ⟨hi, hS⟩
  dsimp only at hi hS
  have fin : ∃ m'', (∀ b o, m'' b = some o → M b = some o) ∧ Value.bool true = .bool true ∧ m'' = mB := ⟨_, hS.kept 1 rfl, rfl, rfl⟩
  (conv => whnf)
  refine brk_intro (fun c1 => ?_) (fun c1 => ?_)
  rotate_left
  · (conv => whnf)
    exact fin
  have c1 : ((i : Nat) : Int) < ((zs.length : Nat) : Int) := of_decide_eq_true (beqT c1)
  (conv => whnf)
  refine brk_intro (fun c2 => ?_) (fun c2 => ?_)
  rotate_left
  · (conv => whnf)
    exact fin
  clear fin c2
  have step1 : IntKind.i64.wrap ((i : Int) + 1) = ((i + 1 : Nat) : Int) := wrap_id (by omega) (by omega)
  obtain ⟨z, hzi⟩ : ∃ z, zs[i]? = some z := ⟨_, List.getElem?_eq_getElem (by omega)⟩
  have hzl := hz z (List.mem_of_getElem? hzi)
  obtain ⟨p, hp, hcp⟩ := cl_at (hA.more (hS.kept 1 rfl)) hzi
  (conv => whnf)
  refine ⟨p, hp, by omega, by omega, ?_⟩
  (conv => whnf)
  refine ⟨_, hcp 0 _ rfl, ?_⟩
  (conv => whnf)
  refine ⟨_, hcp 1 _ rfl, ?_⟩
  (conv => whnf)
  refine ⟨_, hcp 2 _ rfl, ?_⟩
  (conv => whnf)
  refine ⟨_, hcp 3 _ rfl, ?_⟩
  clear hcp hp
  (conv => whnf)
  intro b15 m3 hb he
  replace hS := hS.new' (l := [.int .i64 0, .string ⟨#[]⟩, .int .i64 0, .bool false]) hb he
  clear hb he
  (conv => whnf)
  refine ⟨hS.rooms 0 (i := 0) rfl (by decide), fun m4 he => ?_⟩
  replace hS : Sep [pt b15 z.cells, dm (auOf q) da, kp mB] m4 := he ▸ hS.putAll 0 (i := 0) z.cells rfl
  clear he
  (conv => whnf)
  refine FCalls.mono (new_d (q := q) hS (hq.more (hS.kept 2 rfl)) (by rw [hrr]; exact hr)) ?_
  rintro v m5 ⟨db, rfl, hS⟩
  replace hS : Sep [pt b15 z.cells, dm (auOf q) da, dm (auOf q) db, kp mB] m5 := (hS.move 2 rfl).move 2 rfl
  (conv => whnf)
  refine ⟨_, hS.cell 0 (i := 1) rfl rfl, ?_⟩
  (conv => whnf)
  refine ⟨_, hS.cell 0 (i := 2) rfl rfl, ?_⟩
  (conv => whnf)
  refine FCalls.mono (hS.call 1 rfl fun m1 h1 => ask_l h1 (by omega)) ?_
  rintro v m5 ⟨m6, ⟨rfl, k1⟩, k2⟩
  replace hS : Sep [pt b15 z.cells, dm (auOf q) da, dm (auOf q) db, kp mB] m5 := (k2.one k1).move 1 rfl
  clear k1 k2
  (conv => whnf)
  refine ⟨_, hS.cell 0 (i := 1) rfl rfl, ?_⟩
  (conv => whnf)
  refine ⟨_, hS.cell 0 (i := 2) rfl rfl, ?_⟩
  (conv => whnf)
  refine FCalls.mono (hS.call 2 rfl fun m1 h1 => ask_l h1 (by omega)) ?_
  rintro v m5 ⟨m6, ⟨rfl, k1⟩, k2⟩
  replace hS : Sep [pt b15 z.cells, dm (auOf q) da, dm (auOf q) db, kp mB] m5 := (k2.one k1).move 2 rfl |>.move 2 rfl
  clear k1 k2
  (conv => whnf)
  refine ⟨_, hS.cell 0 (i := 1) rfl rfl, ?_⟩
  (conv => whnf)
  refine ⟨_, hS.cell 0 (i := 2) rfl rfl, ?_⟩
  (conv => whnf)
  refine FCalls.mono (hS.call 1 rfl fun m1 h1 => ask_e h1 (by omega)) ?_
  rintro v m5 ⟨m6, ⟨B1, e1, rfl, k1⟩, k2⟩
  replace hS : Sep [sl B1 (ansE (auOf q) z.line z.at').length e1 1 (nv (ansE (auOf q) z.line z.at')), dm (auOf q) da, pt b15 z.cells, dm (auOf q) db, kp mB] m5 := k2.sep k1
  clear k1 k2
  (conv => whnf)
  refine ⟨_, hS.cell 2 (i := 1) rfl rfl, ?_⟩
  (conv => whnf)
  refine ⟨_, hS.cell 2 (i := 2) rfl rfl, ?_⟩
  (conv => whnf)
  refine FCalls.mono (hS.call 3 rfl fun m1 h1 => ask_e h1 (by omega)) ?_
  rintro v m7 ⟨m6, ⟨B2, e2, rfl, k1⟩, k2⟩
  replace hS : Sep [sl B2 (ansE (auOf q) z.line z.at').length e2 1 (nv (ansE (auOf q) z.line z.at')), dm (auOf q) db, sl B1 (ansE (auOf q) z.line z.at').length e1 1 (nv (ansE (auOf q) z.line z.at')), dm (auOf q) da, pt b15 z.cells, kp mB] m7 := k2.sep k1
  clear k1 k2
  have hR := rooms_law (A := auOf q) (line := z.line) (at0 := z.at')
  have hll := hR.len
  (conv => whnf)
  refine FCalls.mono (places_c (hS.rd 2 rfl) (hS.rd 0 rfl) (by omega)) ?_
  rintro v m8 ⟨rfl, rfl⟩
  rw [decide_eq_true rfl]
  (conv => whnf)
  refine brk_true (by simp) ?_
  (conv => whnf)
  refine brk_true (by simp) ?_
  (conv => whnf)
  refine brk_true (by simp) ?_
  (conv => whnf)
  refine brk_true (by simp) ?_
  (conv => whnf)
  exact ⟨(i + 1, m8), le_eq ⟨by show some (AV.v (.int .i64 (IntKind.i64.wrap ((i : Int) + 1)))) = _; rw [step1], rfl, rfl, rfl, trivial⟩ rfl rfl rfl, ⟨by simp only; omega, ((((hS.drop 0).drop 0).drop 0).drop 1)⟩, by simp only; omega⟩
end Go.Proofs.Ytkkcdfnlmhmheaa
/- Dfa: DfaAhead. -/
namespace Go.Proofs.Ytkkcdfnlmhmheaa
open Go Go.Mv
set_option maxHeartbeats 4000000
set_option maxRecDepth 10000
set_option linter.unusedVariables false
set_option linter.unusedSimpArgs false
theorem no_begin {q : Prg} (h : ∀ (j : Nat) i, q.ins[j]? = some i → i.op ≠ 4) (f f' l : Bool) (k : Nat) : (auOf q).sc f l k = (auOf q).sc f' l k := by
  unfold auOf
  simp only
  cases hi : q.ins[k]? with
  | none => rfl
  | some i =>
    simp only
    rw [if_neg (h k i hi), if_neg (h k i hi)]
theorem bytes_app {a b : ByteArray} : bytesOf (a ++ b) a.size = bytesOf b 0 := by
  unfold bytesOf
  have h : (a ++ b).data.toList = a.data.toList ++ b.data.toList := by simp [ByteArray.data_append]
  rw [h, List.drop_append_of_le_length (by show a.size ≤ a.size; omega)]
  rw [List.drop_eq_nil_of_le (by show a.size ≤ a.size; omega)]
  rfl
theorem size_app {a b : ByteArray} : (a ++ b).size = a.size + b.size := ByteArray.size_append
theorem lst_ahead {q : Prg} (h : ∀ (j : Nat) i, q.ins[j]? = some i → i.op ≠ 4) {aw : Bool} {a b : ByteArray} : lst (auOf q) aw (a ++ b) a.size = (lst (auOf q) aw b 0).map (· + a.size) := by
  unfold lst
  rw [bytes_app, ← plays_off, Nat.zero_add, sta_first (f := ((a.size : Nat) : Int) == 0) (f' := ((0 : Nat) : Int) == 0) fun l k => no_begin h _ _ l k]
structure Aheads (a1 a2 : Ans) (L1 L2 : List Nat) (k : Nat) (n : Nat) : Prop where
  ok : a1.ok = a2.ok
  num : a1.ok = true → a2.n = a1.n + ((k : Nat) : Int)
  list : L2 = L1.map (· + k)
  len : L1.length ≤ n + 1
  small : 0 ≤ a1.n ∧ a1.n ≤ ((n : Nat) : Int)
  small' : ∀ x, x ∈ L1 → x ≤ n
theorem ahead_law {q : Prg} (h : ∀ (j : Nat) i, q.ins[j]? = some i → i.op ≠ 4) {a b : ByteArray} :
    Aheads (ansL (auOf q) b 0) (ansL (auOf q) (a ++ b) ((a.size : Nat) : Int)) (ansE (auOf q) b 0) (ansE (auOf q) (a ++ b) ((a.size : Nat) : Int)) a.size b.size := by
  have hs := size_app (a := a) (b := b)
  have e1 : ansL (auOf q) b 0 = ⟨lastI (lst (auOf q) false b 0), !(lst (auOf q) false b 0).isEmpty, 0⟩ := by unfold ansL; rw [if_neg (by omega)]; rfl
  have e2 : ansL (auOf q) (a ++ b) ((a.size : Nat) : Int) = ⟨lastI ((lst (auOf q) false b 0).map (· + a.size)), !((lst (auOf q) false b 0).map (· + a.size)).isEmpty, 0⟩ := by unfold ansL; rw [if_neg (by omega), Int.toNat_natCast, lst_ahead h]
  have e3 : ansE (auOf q) b 0 = lst (auOf q) true b 0 := by unfold ansE; rw [if_neg (by omega)]; rfl
  have e4 : ansE (auOf q) (a ++ b) ((a.size : Nat) : Int) = (lst (auOf q) true b 0).map (· + a.size) := by unfold ansE; rw [if_neg (by omega), Int.toNat_natCast, lst_ahead h]
  rw [e1, e2, e3, e4]
  have hb : ∀ aw x, x ∈ lst (auOf q) aw b 0 → x ≤ b.size := fun aw x hx => by
    have := (plays_ge x hx).2
    rw [bytes_len] at this
    omega
  refine ⟨by cases lst (auOf q) false b 0 <;> rfl, fun ho => ?_, rfl, lst_len (by omega), ?_, hb true⟩
  · have ho : (!(lst (auOf q) false b 0).isEmpty) = true := ho
    obtain ⟨x, h1, h2⟩ := lastI_mem (by simpa using ho)
    show lastI ((lst (auOf q) false b 0).map (· + a.size)) = lastI (lst (auOf q) false b 0) + _
    unfold lastI at h2 ⊢
    rw [List.getLast?_map]
    cases hl : (lst (auOf q) false b 0).getLast? with
    | none => rw [List.getLast?_eq_none_iff] at hl; rw [hl] at h1; cases h1
    | some y => simp
  · show 0 ≤ lastI _ ∧ lastI _ ≤ _
    unfold lastI
    cases hl : (lst (auOf q) false b 0).getLast? with
    | none => simp
    | some y =>
      have := hb false y (List.mem_of_getLast? hl)
      simp
      omega
attribute [local irreducible] FCalls IntKind.wrap bits Mem.set Mem.setCell Mem.setCells YCalls RunP NextP RunU
theorem dfaAhead_c {m : Mem} {q : Prg} {room : Int} {a b : ByteArray} (hq : q.at m) (h1 : In64 room) (ha : a.size ≤ 1048576) (hb : b.size ≤ 1048576) (hqn : q.ins.length ≤ 1048576) :
    FCalls Try.prog 5 [q.val, .int .i64 room, .string a, .string b] m fun v m' => v = .bool true ∧ m' = m := by
  refine FCalls.less ?_
  have hp1 := pickI_range (c := room) (n := 50) (by omega)
  have hw1 : IntKind.i64.wrap (2 + pickI room 50) = 2 + pickI room 50 := wrap_id (by omega) (by omega)
  refine fcalls_of_vc (T := tbl) (B := bodies) (pr := [99999, 4]) (DR := dr5) (args := [.v q.val, .v (.int .i64 room), .v (.string a), .v (.string b)]) tbl_ok bodies_ok mixed Try.func5 rfl (by decide +kernel) (by simp [Try.f5]) rfl ?_
  (conv => whnf)
  refine FCalls.mono known_c ?_
  rintro v m' ⟨rfl, rfl⟩
  (conv => whnf)
  refine ⟨?_, ?_⟩
  all_goals
    try refine ⟨?_, True.intro⟩
    (conv => whnf)
    refine FCalls.mono (pick_c h1.1 h1.2 (by omega)) ?_
    rintro v mB ⟨rfl, rfl⟩
    (conv => whnf)
    rcases Classical.em (refusedF q (2 + pickI room 50) = 0) with hr | hr
    rotate_left
    · refine FCalls.mono (new_bad (q := q) hq (by rw [hw1]; exact hr)) ?_
      rintro v mC ⟨rfl, rfl⟩
      rw [hw1]
      obtain ⟨rf, hrf⟩ : ∃ rf, rf = refusedF q (2 + pickI room 50) := ⟨_, rfl⟩
      rw [← hrf] at hr ⊢
      have hqM := hq
      (conv => whnf)
      refine loop_keep [4, 9, 10, 11] Nat (fun z => [(12, .v (.int .i64 ((z : Nat) : Int)))]) (fun _ => [.cells q.cells]) (fun z => mC) (fun z => z ≤ q.ins.length ∧ ∀ (j : Nat) i, j < z → q.ins[j]? = some i → i.op ≠ 4) (fun z => q.ins.length - z) 0 ⟨rfl, trivial⟩ rfl rfl ⟨by omega, fun j i h => by omega⟩ ?_
      (conv => whnf)
      refine ⟨rfl, ?_⟩
      rintro k ⟨hk, hno⟩
      (conv => whnf)
      refine brk_intro (fun c1 => ?_) (fun c1 => ?_)
      · have c1 : ((k : Nat) : Int) < ((q.ins.length : Nat) : Int) := of_decide_eq_true c1
        have step1 : IntKind.i64.wrap ((k : Int) + 1) = ((k + 1 : Nat) : Int) := wrap_id (by omega) (by omega)
        obtain ⟨i, hi⟩ : ∃ i, q.ins[k]? = some i := ⟨_, List.getElem?_eq_getElem (by omega)⟩
        obtain ⟨pi, hpi, hci⟩ := ins_at hqM hi
        (conv => whnf)
        refine ⟨pi, hpi, by omega, by omega, ?_⟩
        (conv => whnf)
        refine ⟨_, hci 0 _ rfl, ?_⟩
        (conv => whnf)
        refine brk_intro (fun c2 => ?_) (fun c2 => ?_)
        · (conv => whnf)
          exact ⟨_, Mem.le_refl _, rfl, rfl⟩
        · have c2 : i.op ≠ 4 := by simpa using c2
          (conv => whnf)
          refine ⟨k + 1, le_eq ⟨by show some (AV.v (.int .i64 (IntKind.i64.wrap ((k : Int) + 1)))) = _; rw [step1], rfl, rfl, rfl, rfl, trivial⟩ rfl rfl rfl, ⟨by omega, fun j i' hj hi' => ?_⟩, by omega⟩
          rcases Nat.lt_or_ge j k with h | h
          · exact hno j i' h hi'
          · have : j = k := by omega
            rw [this, hi] at hi'
            cases hi'
            exact c2
      have c1 : ¬ ((k : Nat) : Int) < ((q.ins.length : Nat) : Int) := of_decide_eq_false c1
      replace hno : ∀ (j : Nat) i, q.ins[j]? = some i → i.op ≠ 4 := fun j i hi => hno j i (by have := (List.getElem?_eq_some_iff.1 hi).1; omega) hi
      (conv => whnf)
      refine brk_true (by simpa using hr) ?_
      (conv => whnf)
      exact ⟨_, Mem.le_refl _, rfl, rfl⟩
    refine FCalls.mono (new_d (q := q) (Sep.init _) hq (by rw [hw1]; exact hr)) ?_
    rintro v m2 ⟨da, rfl, hS⟩
    have hqM := hq.more (hS.kept 1 rfl)
    (conv => whnf)
    refine loop_keep [2, 3, 4, 9, 10, 11] Nat (fun z => [(12, .v (.int .i64 ((z : Nat) : Int)))]) (fun _ => [.cells q.cells]) (fun z => m2) (fun z => z ≤ q.ins.length ∧ ∀ (j : Nat) i, j < z → q.ins[j]? = some i → i.op ≠ 4) (fun z => q.ins.length - z) 0 ⟨rfl, trivial⟩ rfl rfl ⟨by omega, fun j i h => by omega⟩ ?_
    (conv => whnf)
    refine ⟨rfl, ?_⟩
    rintro k ⟨hk, hno⟩
    (conv => whnf)
    refine brk_intro (fun c1 => ?_) (fun c1 => ?_)
    · have c1 : ((k : Nat) : Int) < ((q.ins.length : Nat) : Int) := of_decide_eq_true c1
      have step1 : IntKind.i64.wrap ((k : Int) + 1) = ((k + 1 : Nat) : Int) := wrap_id (by omega) (by omega)
      obtain ⟨i, hi⟩ : ∃ i, q.ins[k]? = some i := ⟨_, List.getElem?_eq_getElem (by omega)⟩
      obtain ⟨pi, hpi, hci⟩ := ins_at hqM hi
      (conv => whnf)
      refine ⟨pi, hpi, by omega, by omega, ?_⟩
      (conv => whnf)
      refine ⟨_, hci 0 _ rfl, ?_⟩
      (conv => whnf)
      refine brk_intro (fun c2 => ?_) (fun c2 => ?_)
      · (conv => whnf)
        exact ⟨_, hS.kept 1 rfl, rfl, rfl⟩
      · have c2 : i.op ≠ 4 := by simpa using c2
        (conv => whnf)
        refine ⟨k + 1, le_eq ⟨by show some (AV.v (.int .i64 (IntKind.i64.wrap ((k : Int) + 1)))) = _; rw [step1], rfl, rfl, rfl, rfl, rfl, rfl, trivial⟩ rfl rfl rfl, ⟨by omega, fun j i' hj hi' => ?_⟩, by omega⟩
        rcases Nat.lt_or_ge j k with h | h
        · exact hno j i' h hi'
        · have : j = k := by omega
          rw [this, hi] at hi'
          cases hi'
          exact c2
    have c1 : ¬ ((k : Nat) : Int) < ((q.ins.length : Nat) : Int) := of_decide_eq_false c1
    replace hno : ∀ (j : Nat) i, q.ins[j]? = some i → i.op ≠ 4 := fun j i hi => hno j i (by have := (List.getElem?_eq_some_iff.1 hi).1; omega) hi
    (conv => whnf)
    have hR := ahead_law hno (a := a) (b := b)
    have hsz := size_app (a := a) (b := b)
    refine FCalls.mono (hS.call 0 rfl fun m1 h1 => ask_l (line := b) (at0 := 0) h1 (by omega)) ?_
    rintro v m3 ⟨m6, ⟨rfl, k1⟩, k2⟩
    replace hS := k2.one k1
    clear k1 k2
    (conv => whnf)
    refine ⟨by show ((a.size + b.size : Nat) : Int) ≤ 9223372036854775807; omega, ?_⟩
    (conv => whnf)
    refine FCalls.mono (hS.call 0 rfl fun m1 h1 => ask_l (line := a ++ b) (at0 := ((a.size : Nat) : Int)) h1 (by omega)) ?_
    rintro v m4 ⟨m6, ⟨rfl, k1⟩, k2⟩
    replace hS := k2.one k1
    clear k1 k2
    (conv => whnf)
    refine FCalls.mono (hS.call 0 rfl fun m1 h1 => ask_e (line := b) (at0 := 0) h1 (by omega)) ?_
    rintro v m5 ⟨m6, ⟨B1, e1, rfl, k1⟩, k2⟩
    replace hS := k2.sep k1
    clear k1 k2
    (conv => whnf)
    refine ⟨by show ((a.size + b.size : Nat) : Int) ≤ 9223372036854775807; omega, ?_⟩
    (conv => whnf)
    refine FCalls.mono (hS.call 1 rfl fun m1 h1 => ask_e (line := a ++ b) (at0 := ((a.size : Nat) : Int)) h1 (by omega)) ?_
    rintro v m7 ⟨m6, ⟨B2, e2, rfl, k1⟩, k2⟩
    replace hS := k2.sep k1
    clear k1 k2
    obtain ⟨a1, ha1⟩ : ∃ y, y = ansL (auOf q) b 0 := ⟨_, rfl⟩
    obtain ⟨a2, ha2⟩ : ∃ y, y = ansL (auOf q) (a ++ b) ((a.size : Nat) : Int) := ⟨_, rfl⟩
    obtain ⟨L1, hL1⟩ : ∃ y, y = ansE (auOf q) b 0 := ⟨_, rfl⟩
    obtain ⟨L2, hL2⟩ : ∃ y, y = ansE (auOf q) (a ++ b) ((a.size : Nat) : Int) := ⟨_, rfl⟩
    rw [← ha1, ← ha2, ← hL1, ← hL2] at hR
    rw [← hL1, ← hL2] at hS
    replace hS : Sep [sl B2 L2.length e2 1 (nv L2), dm (auOf q) da, sl B1 L1.length e1 1 (nv L1), kp mB] m7 := hS
    rw [← ha1, ← ha2, ← hL1, ← hL2]
    clear ha1 ha2 hL1 hL2
    have hlen2 : L2.length = L1.length := by rw [hR.list, List.length_map]
    have hok := hR.ok
    have hsm := hR.small
    have hl1 := hR.len
    (conv => whnf)
    refine brk_true (by rw [hok]; simp) ?_
    (conv => whnf)
    rcases Bool.eq_false_or_eq_true a1.ok with ho | ho
    case' inl =>
      have hnum := hR.num ho
      have hw2 : IntKind.i64.wrap (a1.n + ((a.size : Nat) : Int)) = a1.n + ((a.size : Nat) : Int) := wrap_id (by omega) (by omega)
      refine brk_true (by rw [ho]; rfl) ?_
      (conv => whnf)
      refine brk_true (by rw [hw2, hnum]; simp) ?_
      (conv => whnf)
    case' inr =>
      refine brk_false (by rw [ho]; rfl) ?_
      (conv => whnf)
      try refine brk_false ho ?_
      try (conv => whnf)
    all_goals
      refine brk_false (by rw [hlen2]; simp) ?_
      (conv => whnf)
      refine loop_keep [13, 20, 22] Nat (fun z => [(24, .v (.int .i64 ((z : Nat) : Int)))]) (fun _ => [.cells q.cells]) (fun z => m7) (fun z => z ≤ L1.length) (fun z => L1.length - z) 0 ⟨rfl, trivial⟩ rfl rfl (by omega) ?_
      (conv => whnf)
      refine ⟨rfl, ?_⟩
      rintro k hk
      (conv => whnf)
      refine brk_intro (fun c1 => ?_) (fun c1 => ?_)
      · have c3 : ((k : Nat) : Int) < ((L1.length : Nat) : Int) := of_decide_eq_true c1
        have step1 : IntKind.i64.wrap ((k : Int) + 1) = ((k + 1 : Nat) : Int) := wrap_id (by omega) (by omega)
        obtain ⟨x, hx⟩ : ∃ x, L1[k]? = some x := ⟨_, List.getElem?_eq_getElem (by omega)⟩
        have hxs := hR.small' x (List.mem_of_getElem? hx)
        have hx2 : L2[k]? = some (x + a.size) := by rw [hR.list, List.getElem?_map, hx]; rfl
        obtain ⟨p1, hp1', hc1⟩ := rdm (hS.rd 2 rfl) hx
        obtain ⟨p2, hp2', hc2⟩ := rdm (hS.rd 0 rfl) hx2
        have hw3 : IntKind.i64.wrap (((x : Nat) : Int) + ((a.size : Nat) : Int)) = ((x + a.size : Nat) : Int) := by rw [wrap_id (by omega) (by omega)]; omega
        (conv => whnf)
        refine ⟨p2, hp2', by omega, by show ((k : Nat) : Int) < ((L2.length : Nat) : Int); omega, ?_⟩
        (conv => whnf)
        refine ⟨_, by show m7.cell (p2.add (((k : Nat) : Int).toNat * 1)) = _; rw [Int.toNat_natCast, Nat.mul_one]; exact hc2, ?_⟩
        (conv => whnf)
        refine ⟨p1, hp1', by omega, c3, ?_⟩
        (conv => whnf)
        refine ⟨_, by show m7.cell (p1.add (((k : Nat) : Int).toNat * 1)) = _; rw [Int.toNat_natCast, Nat.mul_one]; exact hc1, ?_⟩
        (conv => whnf)
        refine brk_false (by rw [hw3]; simp) ?_
        (conv => whnf)
        exact ⟨k + 1, le_eq ⟨by show some (AV.v (.int .i64 (IntKind.i64.wrap ((k : Int) + 1)))) = _; rw [step1], rfl, rfl, rfl, trivial⟩ rfl rfl rfl, by omega, by omega⟩
      · (conv => whnf)
        exact ⟨_, hS.kept 3 rfl, rfl, rfl⟩
end Go.Proofs.Ytkkcdfnlmhmheaa
/- Dfa: an automaton with its steps told; DfaKept. -/
namespace Go.Proofs.Ytkkcdfnlmhmheaa
open Go Go.Mv
set_option maxHeartbeats 4000000
set_option maxRecDepth 10000
set_option linter.unusedVariables false
set_option linter.unusedSimpArgs false
attribute [local irreducible] FCalls IntKind.wrap bits Mem.set Mem.setCell Mem.setCells YCalls RunP NextP RunU
/-- An automaton at d of q's instructions: its steps, how often all was given up, how many states, what is known. -/
def dk (q : Prg) (d S F : Nat) (P : Df → Prop) : Asn := fun m => ∃ K x, Sep (Df.parts K d x []) m ∧ x.q.at K ∧ GoodP x.q ∧ Inv K x ∧ x.q.ins = q.ins ∧ x.steps = S ∧ x.flushes = F ∧ P x
theorem au_ins {p q : Prg} (h : p.ins = q.ins) : auOf p = auOf q := by
  show auOf ⟨none, 0, p.ins, 0, 0, false⟩ = auOf ⟨none, 0, q.ins, 0, 0, false⟩
  rw [h]
theorem dk_more {q : Prg} {d S F : Nat} {P : Df → Prop} {m m' : Mem} (h : dk q d S F P m) (hm : m.le m') : dk q d S F P m' := by
  obtain ⟨K, x, h1, h2⟩ := h
  exact ⟨K, x, h1.more hm, h2⟩
theorem dk_at {q : Prg} {d S F : Nat} {P : Df → Prop} {L : List Asn} {m : Mem} (h : Sep L m) (j : Nat) (hj : L[j]? = some (dk q d S F P)) : dk q d S F P m := by
  obtain ⟨m1, h1, h2⟩ := h.get j hj
  exact dk_more h2 h1
theorem dk_weak {q : Prg} {d S F : Nat} {P Q : Df → Prop} {m : Mem} (h : dk q d S F P m) (hPQ : ∀ x, P x → Q x) : dk q d S F Q m := by
  obtain ⟨K, x, h1, h2, h3, h4, h5, h6, h7, h8⟩ := h
  exact ⟨K, x, h1, h2, h3, h4, h5, h6, h7, hPQ x h8⟩
theorem steps_c {m : Mem} {q : Prg} {d S F : Nat} {P : Df → Prop} (h : dk q d S F P m) : FCalls Try.prog 16 [.pointer (some ⟨d, 0, none⟩)] m fun v m' => v = w64 S ∧ m' = m := by
  obtain ⟨K, x, h1, _, _, _, _, rfl, _⟩ := h
  refine fcalls_of_vc (T := tbl) (B := bodies) (pr := []) (DR := dr16) (args := [.v (.pointer (some ⟨d, 0, none⟩))]) tbl_ok bodies_ok mixed Try.func16 rfl (by decide +kernel) (by simp [Try.f16]) rfl ?_
  (conv => whnf)
  refine ⟨_, Sep.cell (L := Df.parts K d x []) h1 0 (i := 10) rfl rfl, ?_⟩
  (conv => whnf)
  exact ⟨rfl, rfl⟩
theorem flushes_c {m : Mem} {q : Prg} {d S F : Nat} {P : Df → Prop} (h : dk q d S F P m) : FCalls Try.prog 17 [.pointer (some ⟨d, 0, none⟩)] m fun v m' => v = w64 F ∧ m' = m := by
  obtain ⟨K, x, h1, _, _, _, _, _, rfl, _⟩ := h
  refine fcalls_of_vc (T := tbl) (B := bodies) (pr := []) (DR := dr17) (args := [.v (.pointer (some ⟨d, 0, none⟩))]) tbl_ok bodies_ok mixed Try.func17 rfl (by decide +kernel) (by simp [Try.f17]) rfl ?_
  (conv => whnf)
  refine ⟨_, Sep.cell (L := Df.parts K d x []) h1 0 (i := 11) rfl rfl, ?_⟩
  (conv => whnf)
  exact ⟨rfl, rfl⟩
theorem states_c {m : Mem} {q : Prg} {d S F : Nat} {P : Df → Prop} (h : dk q d S F P m) : FCalls Try.prog 19 [.pointer (some ⟨d, 0, none⟩)] m fun v m' => (∃ n : Nat, v = .int .i64 ((n : Nat) : Int) ∧ ∃ x : Df, P x ∧ ((n : Nat) : Int) ≤ x.room ∧ n = x.sts.length) ∧ m' = m := by
  obtain ⟨K, x, h1, _, _, hv, _, _, _, hP⟩ := h
  refine fcalls_of_vc (T := tbl) (B := bodies) (pr := []) (DR := dr19) (args := [.v (.pointer (some ⟨d, 0, none⟩))]) tbl_ok bodies_ok mixed Try.func19 rfl (by decide +kernel) (by simp [Try.f19]) rfl ?_
  (conv => whnf)
  refine ⟨_, _, _, Sep.cell (L := Df.parts K d x []) h1 0 (i := 5) rfl rfl, ?_⟩
  (conv => whnf)
  exact ⟨⟨x.sts.length, rfl, x, hP, hv.len, rfl⟩, rfl⟩
theorem new_k {m : Mem} {R : List Asn} {q : Prg} {room : Int} (hS : Sep R m) (hq : q.at m) (hr : refusedF q room = 0) : FCalls Try.prog 10 [q.val, .int .i64 room] m fun v m' => ∃ d, v = .tuple #[.pointer (some ⟨d, 0, none⟩), .int .i64 0] ∧ Sep (dk q d 0 0 (fun x => x.room = room ∧ x.sts = []) :: R) m' :=
  (new_ok hS hq hr).mono fun v m' ⟨d, K, x, h1, h2, h3, h4, h5, h6⟩ => by
    refine ⟨d, h1, ?_⟩
    obtain ⟨m1, m2, k1, k2, k3, k4, k5⟩ := Sep.group (L := Df.parts K d x []) (R := R) h2
    exact ⟨m1, m2, k1, k2, k3, ⟨K, x, k4, h3, h4, h5, h6.ins, h6.steps, h6.flushes, h6.room, h6.sts⟩, k5⟩
/-- What a call does to the counts. -/
structure Ran (n S F S' F' len : Nat) (kn : Prop) : Prop where
  s0 : S ≤ S'
  s1 : S' ≤ S + 2 * n + len * (3 * n + 1)
  f0 : F ≤ F'
  f1 : F' ≤ F + 2 * (len + 1)
  hit : kn → F' = F ∧ S' ≤ S + len
theorem Ran.all {n S F S' F' len : Nat} {kn : Prop} (h : Ran n S F S' F' len kn) (hn : 0 < n) : S' ≤ S + 8 * n * (len + 1) := by
  have h1 := h.s1
  have h2 : len * (3 * n + 1) ≤ len * (8 * n) := Nat.mul_le_mul_left _ (by omega)
  have h3 : 8 * n * (len + 1) = len * (8 * n) + 8 * n := by rw [Nat.mul_add, Nat.mul_one, Nat.mul_comm]
  omega
theorem run_l {m : Mem} {q : Prg} {d S F at0 : Nat} {P : Df → Prop} {line : ByteArray} (h : dk q d S F P m) (hat : at0 ≤ line.size) (hls : line.size < 1099511627776) :
    FCalls Try.prog 12 [.pointer (some ⟨d, 0, none⟩), .string line, .int .i64 ((at0 : Nat) : Int)] m fun v m' => ∃ S' F', v = .tuple #[.int .i64 (lastI (lst (auOf q) false line at0)), .bool (!(lst (auOf q) false line at0).isEmpty), .int .i64 0] ∧ dk q d S' F' (fun x => (∃ x0, P x0 ∧ x.room = x0.room) ∧ (F' = F → Known false (((at0 : Nat) : Int) == 0) false x (bytesOf line at0))) m' ∧ Ran q.ins.length S F S' F' (line.size - at0) (∀ x, P x → Known false (((at0 : Nat) : Int) == 0) false x (bytesOf line at0)) := by
  obtain ⟨K, x, h1, hq, hg, hv, hi, rfl, rfl, hP⟩ := h
  refine (l_ok h1 hq hg hv hat hls).mono ?_
  rintro v m' ⟨K', x', T, rfl, hK, h2, hv', hPl⟩
  have hT : T = lst (auOf x.q) false line at0 := hPl.told
  rw [au_ins hi] at hT
  subst hT
  refine ⟨x'.steps, x'.flushes, rfl, ⟨K', x', h2, hPl.q ▸ hq.more hK, hPl.q ▸ hg, hv', by rw [hPl.q]; exact hi, rfl, rfl, ⟨x, hP, hPl.room⟩, fun he => (hPl.kept he).2⟩, ?_⟩
  have hl : (bytesOf line at0).length = line.size - at0 := bytes_len
  refine ⟨hPl.st0, ?_, hPl.fl, ?_, fun hk => ?_⟩
  · have := hPl.st1
    rw [hl, hi] at this
    exact this
  · have := hPl.fl1
    rw [hl] at this
    exact this
  · have := hPl.hit (hk x hP)
    rw [hl] at this
    exact this
theorem run_a {m : Mem} {q : Prg} {d S F at0 : Nat} {P : Df → Prop} {line : ByteArray} (h : dk q d S F P m) (hat : at0 ≤ line.size) (hls : line.size < 1099511627776) :
    FCalls Try.prog 13 [.pointer (some ⟨d, 0, none⟩), .string line, .int .i64 ((at0 : Nat) : Int)] m fun v m' => ∃ S' F', v = .tuple #[.int .i64 (lastI ((lst (auOf q) true line at0).take 1)), .bool (!((lst (auOf q) true line at0).take 1).isEmpty), .int .i64 0] ∧ dk q d S' F' (fun x => (∃ x0, P x0 ∧ x.room = x0.room) ∧ (F' = F → Known true (((at0 : Nat) : Int) == 0) true x (bytesOf line at0))) m' ∧ Ran q.ins.length S F S' F' (line.size - at0) (∀ x, P x → Known true (((at0 : Nat) : Int) == 0) true x (bytesOf line at0)) := by
  obtain ⟨K, x, h1, hq, hg, hv, hi, rfl, rfl, hP⟩ := h
  refine (a_ok h1 hq hg hv hat hls).mono ?_
  rintro v m' ⟨K', x', T, rfl, hK, h2, hv', hPl⟩
  have hT : T = (lst (auOf x.q) true line at0).take 1 := hPl.told
  rw [au_ins hi] at hT
  subst hT
  refine ⟨x'.steps, x'.flushes, rfl, ⟨K', x', h2, hPl.q ▸ hq.more hK, hPl.q ▸ hg, hv', by rw [hPl.q]; exact hi, rfl, rfl, ⟨x, hP, hPl.room⟩, fun he => (hPl.kept he).2⟩, ?_⟩
  have hl : (bytesOf line at0).length = line.size - at0 := bytes_len
  refine ⟨hPl.st0, ?_, hPl.fl, ?_, fun hk => ?_⟩
  · have := hPl.st1
    rw [hl, hi] at this
    exact this
  · have := hPl.fl1
    rw [hl] at this
    exact this
  · have := hPl.hit (hk x hP)
    rw [hl] at this
    exact this
theorem run_e {m : Mem} {q : Prg} {d S F at0 : Nat} {P : Df → Prop} {line : ByteArray} (h : dk q d S F P m) (hat : at0 ≤ line.size) (hls : line.size < 1099511627776) :
    FCalls Try.prog 14 [.pointer (some ⟨d, 0, none⟩), .string line, .int .i64 ((at0 : Nat) : Int)] m fun v m' => ∃ S' F' B c, v = .tuple #[.slice B (lst (auOf q) true line at0).length c, .int .i64 0] ∧ Sep [sl B (lst (auOf q) true line at0).length c 1 (nv (lst (auOf q) true line at0)), dk q d S' F' (fun x => (∃ x0, P x0 ∧ x.room = x0.room) ∧ (F' = F → Known false (((at0 : Nat) : Int) == 0) true x (bytesOf line at0)))] m' ∧ Ran q.ins.length S F S' F' (line.size - at0) (∀ x, P x → Known false (((at0 : Nat) : Int) == 0) true x (bytesOf line at0)) := by
  obtain ⟨K, x, h1, hq, hg, hv, hi, rfl, rfl, hP⟩ := h
  refine (e_ok h1 hq hg hv hat hls).mono ?_
  rintro v m' ⟨K', x', T, ⟨B, c, rfl, h2⟩, hK, hv', hPl⟩
  have hT : T = lst (auOf x.q) true line at0 := hPl.told
  rw [au_ins hi] at hT
  subst hT
  obtain ⟨m1, m2, k1, k2, k3, k4, k5⟩ := h2
  refine ⟨x'.steps, x'.flushes, B, c, rfl, ⟨m1, m2, k1, k2, k3, k4, m2, Mem.empty, fun _ => .inr rfl, Mem.le_refl _, fun _ _ h => (by cases h), ⟨K', x', k5, hPl.q ▸ hq.more hK, hPl.q ▸ hg, hv', by rw [hPl.q]; exact hi, rfl, rfl, ⟨x, hP, hPl.room⟩, fun he => (hPl.kept he).2⟩, trivial⟩, ?_⟩
  have hl : (bytesOf line at0).length = line.size - at0 := bytes_len
  refine ⟨hPl.st0, ?_, hPl.fl, ?_, fun hk => ?_⟩
  · have := hPl.st1
    rw [hl, hi] at this
    exact this
  · have := hPl.fl1
    rw [hl] at this
    exact this
  · have := hPl.hit (hk x hP)
    rw [hl] at this
    exact this
end Go.Proofs.Ytkkcdfnlmhmheaa
/- Dfa: DfaKept. -/
namespace Go.Proofs.Ytkkcdfnlmhmheaa
open Go Go.Mv
set_option maxHeartbeats 4000000
set_option maxRecDepth 10000
set_option linter.unusedVariables false
set_option linter.unusedSimpArgs false
theorem wrapI {n : Nat} (h : n < 9223372036854775808) : IntKind.i64.wrap ((n : Nat) : Int) = ((n : Nat) : Int) := wrap_id (by omega) (by omega)
attribute [local irreducible] FCalls IntKind.wrap bits Mem.set Mem.setCell Mem.setCells YCalls RunP NextP RunU
theorem w64_eq {n : Nat} (h : n < 9223372036854775808) : w64 n = .int .i64 ((n : Nat) : Int) := by unfold w64; rw [wrapI h]
/-- What is kept by kind. -/
def KnK (k : Int) (x : Df) (l : List Nat) : Prop := if k = 0 then Known false true false x l else if k = 1 then Known true true true x l else Known false true true x l
theorem knk0 {x : Df} {l : List Nat} : KnK 0 x l ↔ Known false (((0 : Nat) : Int) == 0) false x l := by
  unfold KnK
  rw [if_pos rfl]
  exact Iff.rfl
theorem knk1 {x : Df} {l : List Nat} : KnK 1 x l ↔ Known true (((0 : Nat) : Int) == 0) true x l := by
  unfold KnK
  rw [if_neg (by decide), if_pos rfl]
  exact Iff.rfl
theorem knk2 {x : Df} {l : List Nat} : KnK 2 x l ↔ Known false (((0 : Nat) : Int) == 0) true x l := by
  unfold KnK
  rw [if_neg (by decide), if_neg (by decide)]
  exact Iff.rfl
theorem dfaKept_c {m : Mem} {q : Prg} {room kind times : Int} {line : ByteArray} (hq : q.at m) (h1 : In64 room) (h2 : In64 kind) (h3 : In64 times) (hln : line.size ≤ 1048576) :
    FCalls Try.prog 6 [q.val, .int .i64 room, .string line, .int .i64 kind, .int .i64 times] m fun v m' => v = .bool true ∧ m' = m := by
  refine FCalls.less ?_
  have hp1 := pickI_range (c := room) (n := 99999) (by omega)
  have hp2 := pickI_range (c := kind) (n := 3) (by omega)
  have hp3 := pickI_range (c := times) (n := 13) (by omega)
  have hw1 : IntKind.i64.wrap (2 + pickI room 99999) = 2 + pickI room 99999 := wrap_id (by omega) (by omega)
  refine fcalls_of_vc (T := tbl) (B := bodies) (pr := [99999, 5]) (DR := (100016, 0) :: dr6) (args := [.v q.val, .v (.int .i64 room), .v (.string line), .v (.int .i64 kind), .v (.int .i64 times)]) tbl_ok bodies_ok mixed Try.func6 rfl (by decide +kernel) (by simp [Try.f6]) rfl ?_
  (conv => whnf)
  refine FCalls.mono known_c ?_
  rintro v m' ⟨rfl, rfl⟩
  (conv => whnf)
  refine ⟨?_, ?_⟩
  all_goals
    try refine ⟨?_, True.intro⟩
    (conv => whnf)
    refine FCalls.mono (pick_c h1.1 h1.2 (by omega)) ?_
    rintro v mB ⟨rfl, rfl⟩
    (conv => whnf)
    rcases Classical.em (refusedF q (2 + pickI room 99999) = 0) with hr | hr
    rotate_left
    · refine FCalls.mono (new_bad (q := q) hq (by rw [hw1]; exact hr)) ?_
      rintro v mC ⟨rfl, rfl⟩
      rw [hw1]
      obtain ⟨rf, hrf⟩ : ∃ rf, rf = refusedF q (2 + pickI room 99999) := ⟨_, rfl⟩
      rw [← hrf] at hr ⊢
      (conv => whnf)
      refine brk_true (by simpa using hr) ?_
      (conv => whnf)
      exact ⟨_, Mem.le_refl _, rfl, rfl⟩
    obtain ⟨hg, _, _, _⟩ := refused_good hr
    have hn0 := hg.n0
    have hn1 := hg.n1
    refine FCalls.mono (new_k (q := q) (Sep.init _) hq (by rw [hw1]; exact hr)) ?_
    rintro v m2 ⟨da, rfl, hS⟩
    (conv => whnf)
    intro b14 m3 hb he
    replace hS := hS.new' (l := [.int .i64 0, .string ⟨#[]⟩, .int .i64 0, .bool false]) hb he
    clear hb he
    (conv => whnf)
    refine ⟨hS.rooms 0 (i := 0) rfl (by decide), fun m4 he => ?_⟩
    replace hS := he ▸ hS.putAll 0 (i := 0) [.int .i64 kind, .string line, .int .i64 0, .bool false] rfl
    clear he
    replace hS : Sep [pt b14 [.int .i64 kind, .string line, .int .i64 0, .bool false], dk q da 0 0 (fun x => (-1 : Int) = -1 ∨ KnK (pickI kind 3) x (bytesOf line 0)), kp mB] m4 := Sep.turn hS 1 rfl fun m1 _ h => dk_weak h fun x _ => .inl rfl
    obtain ⟨W, hW⟩ : ∃ W, W = 8 * q.ins.length * (line.size + 1) := ⟨_, rfl⟩
    have hWb : W ≤ 8 * 40000 * 1048577 := by
      rw [hW]
      exact Nat.mul_le_mul (Nat.mul_le_mul_left _ hn1) (by omega)
    (conv => whnf)
    refine loop_keep [2, 4, 5, 12, 14] (Nat × Int × Nat × Nat × Mem) (fun z => [(16, .v (.int .i64 ((z.1 : Nat) : Int))), (15, .v (.int .i64 z.2.1))]) (fun _ => [.cells q.cells]) (fun z => z.2.2.2.2)
      (fun z => z.1 ≤ 13 ∧ Sep [pt b14 [.int .i64 kind, .string line, .int .i64 0, .bool false], dk q da z.2.2.1 z.2.2.2.1 (fun x => z.2.1 = -1 ∨ KnK (pickI kind 3) x (bytesOf line 0)), kp mB] z.2.2.2.2 ∧ z.2.2.1 ≤ z.1 * W ∧ z.2.2.2.1 ≤ z.1 * (2 * (line.size + 1)) ∧ (z.2.1 = -1 ∨ z.2.1 = ((z.2.2.2.1 : Nat) : Int)))
      (fun z => 13 - z.1) (0, -1, 0, 0, m4) ⟨rfl, rfl, trivial⟩ rfl rfl ⟨by omega, hS, Nat.zero_le _, Nat.zero_le _, .inl rfl⟩ ?_
    clear hS
    (conv => whnf)
    refine ⟨rfl, ?_⟩
    rintro ⟨i, qt, S, F, M⟩ ⟨hi, hS, hSb, hFb, hqt⟩
    dsimp only at hi hS hSb hFb hqt
    have hSw : S ≤ 13 * W := Nat.le_trans hSb (Nat.mul_le_mul_right _ hi)
    have hFw : F ≤ 13 * (2 * (line.size + 1)) := Nat.le_trans hFb (Nat.mul_le_mul_right _ hi)
    (conv => whnf)
    refine FCalls.mono (pick_c h3.1 h3.2 (by omega)) ?_
    rintro v mD ⟨rfl, hD⟩
    subst hD
    (conv => whnf)
    refine brk_intro (fun c1 => ?_) (fun c1 => ?_)
    rotate_left
    · (conv => whnf)
      exact ⟨_, hS.kept 2 rfl, rfl, rfl⟩
    have c1 : ((i : Nat) : Int) < pickI times 13 := of_decide_eq_true c1
    have step1 : IntKind.i64.wrap ((i : Int) + 1) = ((i + 1 : Nat) : Int) := wrap_id (by omega) (by omega)
    (conv => whnf)
    refine FCalls.mono (steps_c (dk_at hS 1 rfl)) ?_
    rintro v mE ⟨rfl, hE⟩
    subst hE
    rw [w64_eq (by omega)]
    (conv => whnf)
    refine FCalls.mono (flushes_c (dk_at hS 1 rfl)) ?_
    rintro v mE ⟨rfl, hE⟩
    subst hE
    rw [w64_eq (by omega)]
    (conv => whnf)
    refine join_keep [2, 4, 5, 12, 14, 15, 16, 17, 18] (Mem × Nat × Nat) (fun _ => []) (fun z => z.1) (fun z => Sep [pt b14 [.int .i64 kind, .string line, .int .i64 0, .bool false], dk q da z.2.1 z.2.2 (fun x => z.2.2 = F → KnK (pickI kind 3) x (bytesOf line 0)), kp mB] z.1 ∧ Ran q.ins.length S F z.2.1 z.2.2 line.size (qt = ((F : Nat) : Int))) ?_
    (conv => whnf)
    refine ⟨?_, ?_⟩
    · (conv => whnf)
      refine ⟨_, hS.cell 0 (i := 0) rfl rfl, ?_⟩
      (conv => whnf)
      refine FCalls.mono (pick_c h2.1 h2.2 (by omega)) ?_
      rintro v mE ⟨rfl, hE⟩
      subst hE
      have hkn : qt = ((F : Nat) : Int) → ∀ x, (qt = -1 ∨ KnK (pickI kind 3) x (bytesOf line 0)) → KnK (pickI kind 3) x (bytesOf line 0) := fun h x hx => hx.resolve_left (by omega)
      rcases (show pickI kind 3 = 0 ∨ pickI kind 3 = 1 ∨ pickI kind 3 = 2 by omega) with hk | hk | hk
      all_goals rw [hk] at hS hkn ⊢
      · (conv => whnf)
        refine FCalls.mono (hS.call 1 rfl fun m1 h1 => run_l (at0 := 0) h1 (Nat.zero_le _) (by omega)) ?_
        rintro v m5 ⟨m6, ⟨S', F', rfl, k1, hR⟩, k2⟩
        have h4 := (k2.one k1).move 1 rfl
        (conv => whnf)
        exact ⟨(m5, S', F'), le_eq ⟨rfl, rfl, rfl, rfl, rfl, rfl, rfl, rfl, rfl, trivial⟩ rfl rfl rfl, Sep.turn h4 1 rfl fun m1 _ h => dk_weak h fun x hx he => knk0.2 (hx.2 he), hR.s0, hR.s1, hR.f0, hR.f1, fun h => hR.hit fun x hx => knk0.1 (hkn h x hx)⟩
      · (conv => whnf)
        refine FCalls.mono (hS.call 1 rfl fun m1 h1 => run_a (at0 := 0) h1 (Nat.zero_le _) (by omega)) ?_
        rintro v m5 ⟨m6, ⟨S', F', rfl, k1, hR⟩, k2⟩
        have h4 := (k2.one k1).move 1 rfl
        (conv => whnf)
        exact ⟨(m5, S', F'), le_eq ⟨rfl, rfl, rfl, rfl, rfl, rfl, rfl, rfl, rfl, trivial⟩ rfl rfl rfl, Sep.turn h4 1 rfl fun m1 _ h => dk_weak h fun x hx he => knk1.2 (hx.2 he), hR.s0, hR.s1, hR.f0, hR.f1, fun h => hR.hit fun x hx => knk1.1 (hkn h x hx)⟩
      · (conv => whnf)
        refine FCalls.mono (hS.call 1 rfl fun m1 h1 => run_e (at0 := 0) h1 (Nat.zero_le _) (by omega)) ?_
        rintro v m5 ⟨m6, ⟨S', F', B, c, rfl, k1, hR⟩, k2⟩
        have h4 := ((k2.sep k1).drop 0).move 1 rfl
        (conv => whnf)
        exact ⟨(m5, S', F'), le_eq ⟨rfl, rfl, rfl, rfl, rfl, rfl, rfl, rfl, rfl, trivial⟩ rfl rfl rfl, Sep.turn h4 1 rfl fun m1 _ h => dk_weak h fun x hx he => knk2.2 (hx.2 he), hR.s0, hR.s1, hR.f0, hR.f1, fun h => hR.hit fun x hx => knk2.1 (hkn h x hx)⟩
    · clear hS
      rintro ⟨M2, S', F'⟩ ⟨hS, hR⟩
      dsimp only at hS hR
      have hall := hR.all hn0
      rw [← hW] at hall
      have hs0 := hR.s0
      have hf0 := hR.f0
      have hf1 := hR.f1
      have hnn : IntKind.i64.wrap (((S' : Nat) : Int) - ((S : Nat) : Int)) = ((S' - S : Nat) : Int) := by rw [wrap_id (by omega) (by omega)]; omega
      have hm1 : IntKind.i64.wrap (8 * ((q.ins.length : Nat) : Int)) = ((8 * q.ins.length : Nat) : Int) := by rw [wrap_id (by omega) (by omega)]; omega
      have hm2 : IntKind.i64.wrap (((line.size : Nat) : Int) + 1) = ((line.size + 1 : Nat) : Int) := by rw [wrap_id (by omega) (by omega)]; omega
      have hm3 : IntKind.i64.wrap (((8 * q.ins.length : Nat) : Int) * ((line.size + 1 : Nat) : Int)) = ((W : Nat) : Int) := by rw [← Int.natCast_mul, ← hW, wrap_id (by omega) (by omega)]
      have hm4 : IntKind.i64.wrap (4 * ((line.size + 1 : Nat) : Int)) = ((4 * (line.size + 1) : Nat) : Int) := by rw [wrap_id (by omega) (by omega)]; omega
      have hS2 : S' ≤ (i + 1) * W := by rw [Nat.add_mul, Nat.one_mul]; omega
      have hF2 : F' ≤ (i + 1) * (2 * (line.size + 1)) := by rw [Nat.add_mul, Nat.one_mul]; omega
      (conv => whnf)
      refine FCalls.mono (steps_c (dk_at hS 1 rfl)) ?_
      rintro v mE ⟨rfl, hE⟩
      subst hE
      rw [w64_eq (by omega)]
      (conv => whnf)
      refine brk_true (by rw [hnn, decide_eq_false (by omega)]; rfl) ?_
      (conv => whnf)
      refine brk_true (by rw [hnn, hm1, hm2, hm3, decide_eq_false (by omega)]; rfl) ?_
      (conv => whnf)
      rcases Decidable.em (qt = ((F : Nat) : Int)) with hq1 | hq1
      case' inl =>
        obtain ⟨g1, g2⟩ := hR.hit hq1
        refine brk_true (by rw [hq1]; simp) ?_
        (conv => whnf)
        refine FCalls.mono (flushes_c (dk_at hS 1 rfl)) ?_
        rintro v mE ⟨rfl, hE⟩
        subst hE
        rw [w64_eq (by omega)]
        (conv => whnf)
        refine brk_true (by rw [g1]; simp) ?_
        (conv => whnf)
        refine brk_false (by rw [hnn, hm2, hm4, decide_eq_false (by omega)]; rfl) ?_
        (conv => whnf)
      case' inr =>
        refine brk_false (by simp [hq1]) ?_
        (conv => whnf)
      all_goals
        refine FCalls.mono (flushes_c (dk_at hS 1 rfl)) ?_
        rintro v mE ⟨rfl, hE⟩
        subst hE
        rw [w64_eq (by omega)]
        (conv => whnf)
        refine brk_intro (fun c5 => ?_) (fun c5 => ?_)
        · (conv => whnf)
          exact ⟨(i + 1, -1, S', F', _), le_eq ⟨by show some (AV.v (.int .i64 (IntKind.i64.wrap ((i : Int) + 1)))) = _; rw [step1], rfl, rfl, rfl, rfl, rfl, rfl, trivial⟩ rfl rfl rfl, ⟨by simp only; omega, Sep.turn hS 1 rfl fun m1 _ h => dk_weak h fun x _ => .inl rfl, hS2, hF2, .inl rfl⟩, by simp only; omega⟩
        · have c6 : F' = F := by
            have h9 : (((F' : Nat) : Int) != ((F : Nat) : Int)) = false := c5
            have : ((F' : Nat) : Int) = ((F : Nat) : Int) := by simpa using h9
            omega
          (conv => whnf)
          exact ⟨(i + 1, ((F : Nat) : Int), S', F', _), le_eq ⟨by show some (AV.v (.int .i64 (IntKind.i64.wrap ((i : Int) + 1)))) = _; rw [step1], rfl, rfl, rfl, rfl, rfl, rfl, trivial⟩ rfl rfl rfl, ⟨by simp only; omega, Sep.turn hS 1 rfl fun m1 _ h => dk_weak h fun x hx => .inr (hx c6), hS2, hF2, .inr (by rw [c6])⟩, by simp only; omega⟩
end Go.Proofs.Ytkkcdfnlmhmheaa
/- Dfa: programs and calls as they come in. -/
namespace Go.Proofs.Ytkkcdfnlmhmheaa
open Go Go.Mv
set_option maxHeartbeats 2000000
set_option maxRecDepth 10000
set_option linter.unusedVariables false
abbrev InsT := Int × (Int × (Int × (Int × (Int × (Int × (List Int × Unit))))))
def insF (y : InsT) : List Value := [.int .i64 y.1] ++ ([.int .i64 y.2.1] ++ ([.int .i64 y.2.2.1] ++ ([.int .i64 y.2.2.2.1] ++ ([.int .i64 y.2.2.2.2.1] ++ ([.int .i64 y.2.2.2.2.2.1] ++ (y.2.2.2.2.2.2.1.flatMap (fun n : Int => [Value.int .u64 n]) ++ []))))))
def toIns (y : InsT) : Ins := ⟨y.1, y.2.1, y.2.2.1, y.2.2.2.1, y.2.2.2.2.1, y.2.2.2.2.2.1, y.2.2.2.2.2.2.1.getD 0 0, y.2.2.2.2.2.2.1.getD 1 0, y.2.2.2.2.2.2.1.getD 2 0, y.2.2.2.2.2.2.1.getD 3 0⟩
theorem insF_eq {y : InsT} (h : y.2.2.2.2.2.2.1.length = 4) : insF y = (toIns y).cells := by
  obtain ⟨a, b, c, d, e, f, l, u⟩ := y
  match l, h with
  | [p, q, r, s], _ => rfl
theorem insF_flat : ∀ {l : List InsT}, (∀ y, y ∈ l → y.2.2.2.2.2.2.1.length = 4) → l.flatMap insF = icells (l.map toIns)
  | [], _ => rfl
  | y :: l, h => by
    rw [List.flatMap_cons, insF_eq (h y (by simp)), insF_flat fun z hz => h z (by simp [hz])]
    rfl
abbrev PrgT := (Option Addr × Nat × Nat × List InsT) × (Int × (Int × (Bool × Unit)))
def prgF (z : PrgT) : List Value := [.slice z.1.1 z.1.2.1 z.1.2.2.1] ++ ([.int .i64 z.2.1] ++ ([.int .i64 z.2.2.1] ++ ([.bool z.2.2.2.1] ++ [])))
def toPrg (z : PrgT) : Prg := ⟨z.1.1, z.1.2.2.1, z.1.2.2.2.map toIns, z.2.1, z.2.2.1, z.2.2.2.1⟩
theorem prgF_val {z : PrgT} (h : z.1.2.2.2.length = z.1.2.1) : Value.agg (prgF z).toArray = (toPrg z).val := by
  unfold toPrg Prg.val Prg.cells prgF
  dsimp only
  rw [List.length_map, h]
  rfl
theorem prgF_at {z : PrgT} {m : Mem} (h : Rd m z.1.1 (z.1.2.2.2.flatMap insF)) (hl : ∀ y, y ∈ z.1.2.2.2 → y.2.2.2.2.2.2.1.length = 4) : (toPrg z).at m := by
  rw [insF_flat hl] at h
  exact h
abbrev ClT := Int × (ByteArray × (Int × (Bool × Unit)))
def clF (y : ClT) : List Value := [.int .i64 y.1] ++ ([.string y.2.1] ++ ([.int .i64 y.2.2.1] ++ ([.bool y.2.2.2.1] ++ [])))
def toCl (y : ClT) : Cl := ⟨y.1, y.2.1, y.2.2.1, y.2.2.2.1⟩
theorem clF_flat (l : List ClT) : l.flatMap clF = (l.map toCl).flatMap Cl.cells := by
  induction l with
  | nil => rfl
  | cons y l ih => rw [List.flatMap_cons, ih]; rfl
theorem in64 {a : Int} (h : (Lit.int .i64 a).wf = true) : In64 a := by
  unfold Lit.wf at h
  simp [IntKind.min, IntKind.max, IntKind.signed, IntKind.bits] at h
  unfold In64
  omega
end Go.Proofs.Ytkkcdfnlmhmheaa
