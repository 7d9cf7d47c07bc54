/- MarksFollow. -/
import Derived.Test.YtlahdleaidhclaaMkCopies
namespace Go.Proofs.Ytlahdleaidhclaa
open Go Go.Mv
set_option maxHeartbeats 2000000
set_option maxRecDepth 10000
set_option linter.unusedVariables false
set_option linter.unusedSimpArgs false
attribute [local irreducible] FCalls IntKind.wrap bits Mem.set Mem.setCell Mem.setCells YCalls
theorem up_perm (zs : List Int) : (up zs).Perm zs := List.mergeSort_perm _ _
theorem up_lt {l : List Nat} (h : l.Nodup) {i : Nat} {x y : Int} (hx : (up (cast l))[i]? = some x) (hy : (up (cast l))[i + 1]? = some y) : x < y := by
  have hs : (up (cast l)).Pairwise fun a b => decide (a ≤ b) = true := List.pairwise_mergeSort (fun a b c h1 h2 => by simp at *; omega) (fun a b => by simp; omega) _
  have hn : (up (cast l)).Nodup := (up_perm _).nodup_iff.2 (show (l.map fun x => ((x : Nat) : Int)).Nodup from List.pairwise_map.2 (h.imp fun h e => h (by omega)))
  obtain ⟨h1, h2⟩ := List.getElem?_eq_some_iff.1 hx
  obtain ⟨h3, h4⟩ := List.getElem?_eq_some_iff.1 hy
  have k1 := List.pairwise_iff_getElem.1 hs i (i + 1) h1 h3 (by omega)
  have k2 := List.pairwise_iff_getElem.1 hn i (i + 1) h1 h3 (by omega)
  rw [h2, h4] at k1 k2
  have : x ≤ y := by simpa using k1
  omega
theorem up_mem {l : List Nat} {i : Nat} {x : Int} (hx : (up (cast l))[i]? = some x) : ∃ n, n ∈ l ∧ x = ((n : Nat) : Int) := by
  have := (up_perm _).mem_iff.1 (List.mem_of_getElem? hx)
  obtain ⟨n, h1, h2⟩ := List.mem_map.1 this
  exact ⟨n, h1, h2.symm⟩
theorem marksFollow_c {m : Mem} {A : Option Addr} {zs : List Int} {c : Nat} {room : Int} (ho0 : -9223372036854775808 ≤ room) (ho1 : room ≤ 9223372036854775807) (hA : Ints m A zs) (hzc : zs.length ≤ c) :
    FCalls Try.prog 5 [.int .i64 room, .slice A zs.length c] m fun v m' => v = .bool true ∧ m' = m := by
  refine FCalls.less ?_
  refine fcalls_of_vc (T := tbl) (B := bodies) (pr := [99999]) (DR := (100006, 0) :: dr5) (args := [.v (.int .i64 room), .v (.slice A zs.length c)]) tbl_ok bodies_ok mixed Try.func5 rfl (by decide +kernel) (by simp [Try.f5]) rfl ?_
  (conv => whnf)
  intro b4 m1 hb he
  have h := (Sep.init m).new' hb he
  clear hb he
  (conv => whnf)
  refine FCalls.mono known_c ?_
  rintro v m2 ⟨rfl, rfl⟩
  (conv => whnf)
  refine FCalls.mono (pick_c ho0 ho1 (by omega)) ?_
  rintro v m' ⟨rfl, rfl⟩
  obtain ⟨hp0, hp1⟩ := pickI_in (c := room) (n := 100001) (by omega)
  generalize pickI room 100001 = R at *
  (conv => whnf)
  refine FCalls.mono new_s ?_
  rintro v m1 ⟨h1, _⟩
  obtain ⟨p, rfl, h2⟩ := h1 ⟨hp0, by omega⟩
  clear h1
  replace h := h.on (N := [_]) h2
  clear h2
  (conv => whnf)
  intro b6 m2 hb he
  replace h := h.new' hb he
  clear hb he
  (conv => whnf)
  refine ⟨h.room 0 (i := 0) rfl rfl, fun m3 he => ?_⟩
  replace h : Sep [pt b6 [.pointer (some ⟨p, 0, none⟩)], mk p R.toNat [], pt b4 [.bool false], kp m] m3 := h.put' 0 he rfl
  clear he
  (conv => whnf)
  refine ⟨_, h.cell 0 (i := 0) rfl rfl, ?_⟩
  (conv => whnf)
  refine join_keep [4, 5, 6] (Option Addr × List Int × Nat) (fun s => [(1, .v (.slice s.1 s.2.1.length s.2.2))]) (fun _ => m3) (fun s => s.2.1.length ≤ 300 ∧ Ints m s.1 s.2.1) ?_
  (conv => whnf)
  refine ⟨?_, ?_⟩
  · (conv => whnf)
    refine brk_intro (fun c1 => ?_) (fun c1 => ?_)
    · have c1 : (300 : Int) < (zs.length : Nat) := by simpa using c1
      (conv => whnf)
      refine ⟨by omega, by omega, by omega, ?_⟩
      (conv => whnf)
      refine ⟨(A, zs.take 300, c), le_eq ⟨?_, rfl, rfl, rfl, trivial⟩ rfl rfl rfl, by simp; omega, ?_⟩
      · show some (AV.v (.slice (if c = Int.toNat 0 then A else Option.map (fun p => p.add (Int.toNat 0 * (tbl.at 3).size)) A) (300 - 0) (c - 0))) = some (AV.v (.slice A (zs.take 300).length c))
        rw [slice_lo0, List.length_take, Nat.min_eq_left (by omega), Nat.sub_zero, Nat.sub_zero]
      · rcases hA with rfl | ⟨b, i, h1, h2⟩
        · exact .inl rfl
        · refine .inr ⟨b, i, h1, fun k x hx => h2 k x ?_⟩
          rw [List.getElem?_take] at hx
          split at hx
          · exact hx
          · cases hx
    · have c1 : ¬ (300 : Int) < (zs.length : Nat) := by simpa using c1
      (conv => whnf)
      exact ⟨(A, zs, c), le_eq ⟨rfl, rfl, rfl, rfl, trivial⟩ rfl rfl rfl, by simp only; omega, hA⟩
  rintro ⟨A', ys, d⟩ ⟨hlen, hB⟩
  simp only at hlen hB
  (conv => whnf)
  refine loop_keep [1, 4, 5, 6] (Nat × Mem) (fun s => [(8, .v (.int .i64 ((s.1 : Nat) : Int)))]) (fun _ => []) (fun s => s.2) (fun s => s.1 ≤ 2 ∧ Sep [pt b6 [.pointer (some ⟨p, 0, none⟩)], mk p R.toNat [], pt b4 [.bool false], kp m] s.2)
    (fun s => 2 - s.1) (0, m3) ⟨rfl, trivial⟩ rfl rfl ⟨by simp, h⟩ ?_
  clear h
  (conv => whnf)
  refine ⟨rfl, ?_⟩
  rintro ⟨t, M⟩ ⟨hJ1, h⟩
  simp only at hJ1 h
  (conv => whnf)
  refine brk_intro (fun c1 => ?_) (fun c1 => ?_)
  case' refine_2 =>
    (conv => whnf)
    refine ⟨h.room 2 (i := 0) rfl rfl, fun m4 he => ?_⟩
    replace h := h.put' 2 he rfl
    (conv => whnf)
    refine ⟨_, h.cell 2 (i := 0) rfl rfl, ?_⟩
    (conv => whnf)
    exact ⟨m, h.kept 3 rfl, rfl, rfl⟩
  have c1 : (t : Int) < 2 := by simpa using c1
  (conv => whnf)
  refine loop_keep [1, 4, 5, 6, 8] (Nat × Mem) (fun s => [(10, .v (.int .i64 ((s.1 : Nat) : Int))), (9, .v (.int .i64 (((ys.take s.1).foldl (putL R.toNat) []).length : Nat)))]) (fun _ => []) (fun s => s.2)
    (fun s => s.1 ≤ ys.length ∧ Sep [pt b6 [.pointer (some ⟨p, 0, none⟩)], mk p R.toNat ((ys.take s.1).foldl (putL R.toNat) []), pt b4 [.bool false], kp m] s.2)
    (fun s => ys.length - s.1) (0, M) ⟨rfl, rfl, trivial⟩ rfl rfl ⟨by simp, h⟩ ?_
  clear h
  (conv => whnf)
  refine ⟨rfl, ?_⟩
  rintro ⟨i, M1⟩ ⟨hJ2, h⟩
  simp only at hJ2 h
  (conv => whnf)
  refine brk_intro (fun c2 => ?_) (fun c2 => ?_)
  · have c2 : (i : Int) < (ys.length : Nat) := by simpa using c2
    obtain ⟨x, hx⟩ : ∃ x, ys[i]? = some x := ⟨_, List.getElem?_eq_getElem (by omega)⟩
    have hL : (ys.take (i + 1)).foldl (putL R.toNat) [] = putL R.toNat ((ys.take i).foldl (putL R.toNat) []) x := fill_succ hx
    have hfl := fill_len (room := R.toNat) (ys.take i) []
    simp only [List.length_nil, List.length_take] at hfl
    generalize hLi : (ys.take i).foldl (putL R.toNat) [] = L at *
    have hin := mk_small (mk_at h 1 rfl)
    obtain ⟨q, hq, hcx⟩ := hB.at hx
    (conv => whnf)
    refine ⟨_, h.cell 0 (i := 0) rfl rfl, ?_⟩
    (conv => whnf)
    refine FCalls.mono (len_s (mk_at h 1 rfl)) ?_
    rintro v m5 ⟨rfl, rfl⟩
    (conv => whnf)
    refine ⟨_, h.cell 0 (i := 0) rfl rfl, ?_⟩
    (conv => whnf)
    refine ⟨_, hq, by omega, by omega, ?_⟩
    (conv => whnf)
    refine ⟨x, by rw [ixI]; exact Mem.le_cell (h.kept 3 rfl) hcx, ?_⟩
    (conv => whnf)
    refine FCalls.mono (h.call 1 rfl fun m1 h1 => put_s h1 x) ?_
    rintro v m6 ⟨m7, ⟨rfl, h1⟩, h2⟩
    replace h : Sep [mk p R.toNat (putL R.toNat L x), pt b6 [.pointer (some ⟨p, 0, none⟩)], pt b4 [.bool false], kp m] m6 := h2.one h1
    clear h1 h2
    (conv => whnf)
    refine ⟨_, h.cell 1 (i := 0) rfl rfl, ?_⟩
    (conv => whnf)
    refine ⟨_, hq, by omega, by omega, ?_⟩
    (conv => whnf)
    refine ⟨x, by rw [ixI]; exact Mem.le_cell (h.kept 3 rfl) hcx, ?_⟩
    (conv => whnf)
    refine ⟨_, has_s (mk_at h 0 rfl) x, ?_⟩
    (conv => whnf)
    have hne : ∀ {a b : Int}, a ≠ b → (a == b) = false := fun h => beq_eq_false_iff_ne.2 h
    rcases Decidable.em (0 ≤ x ∧ x < (R.toNat : Nat) ∧ x.toNat ∉ L) with c3 | c3
    case' inl =>
      have hL2 : putL R.toNat L x = L ++ [x.toNat] := by unfold putL; rw [if_pos c3]
      rw [decide_eq_true c3]
      have e3 : decide (0 ≤ x ∧ x.toNat ∈ putL R.toNat L x) = true := decide_eq_true ⟨c3.1, by rw [hL2]; simp⟩
      rw [e3]
      rw [hL2] at h
      (conv => whnf)
      refine ⟨_, h.cell 1 (i := 0) rfl rfl, ?_⟩
      (conv => whnf)
      refine ⟨_, len_s (mk_at h 0 rfl), ?_⟩
      (conv => whnf)
      rw [List.length_append, wrap_id (x := ((L.length : Nat) : Int) + 1) (by omega) (by omega)]
      have e4 : ((((L.length + [x.toNat].length : Nat)) : Int) == ((L.length : Nat) : Int) + 1) = true := by simp
      rw [e4]
      (conv => whnf)
      refine ⟨_, hq, by omega, by omega, ?_⟩
      (conv => whnf)
      refine ⟨x, by rw [ixI]; exact Mem.le_cell (h.kept 3 rfl) hcx, ?_⟩
      (conv => whnf)
      rw [decide_eq_true (show x ≥ 0 from c3.1)]
      (conv => whnf)
      refine ⟨_, hq, by omega, by omega, ?_⟩
      (conv => whnf)
      refine ⟨x, by rw [ixI]; exact Mem.le_cell (h.kept 3 rfl) hcx, ?_⟩
      (conv => whnf)
      refine ⟨_, h.cell 1 (i := 0) rfl rfl, ?_⟩
      (conv => whnf)
      refine ⟨_, room_s (mk_at h 0 rfl), ?_⟩
      (conv => whnf)
      rw [decide_eq_true c3.2.1]
      (conv => whnf)
      refine ⟨(i + 1, m6), le_eq ⟨by show some (AV.v (.int .i64 (IntKind.i64.wrap ((i : Int) + 1)))) = _; rw [wrap_id (by omega) (by omega)]; rfl, by show _ = some (AV.v (.int .i64 ((((ys.take (i + 1)).foldl (putL R.toNat) []).length : Nat) : Int))); rw [hL, hL2, List.length_append]; rfl, rfl, rfl, rfl, rfl, rfl, trivial⟩ rfl rfl rfl, ⟨by simp only; omega, ?_⟩, by simp only; omega⟩
      simp only
      rw [hL, hL2]
      exact h.move 1 rfl
    case' inr =>
      have hL2 : putL R.toNat L x = L := by unfold putL; rw [if_neg c3]
      rw [decide_eq_false c3]
      have e4 : (((L.length : Nat) : Int) == ((L.length : Nat) : Int) + 1) = false := hne (by omega)
      rw [hL2]
      rw [hL2] at h
      (conv => whnf)
      refine ⟨_, h.cell 1 (i := 0) rfl rfl, ?_⟩
      (conv => whnf)
      refine ⟨_, len_s (mk_at h 0 rfl), ?_⟩
      (conv => whnf)
      rw [wrap_id (x := ((L.length : Nat) : Int) + 1) (by omega) (by omega), e4]
      (conv => whnf)
      refine ⟨_, hq, by omega, by omega, ?_⟩
      (conv => whnf)
      refine ⟨x, by rw [ixI]; exact Mem.le_cell (h.kept 3 rfl) hcx, ?_⟩
      (conv => whnf)
      rcases Decidable.em (0 ≤ x) with c4 | c4
      case' inl =>
        rw [decide_eq_true (show x ≥ 0 from c4)]
        (conv => whnf)
        refine ⟨_, hq, by omega, by omega, ?_⟩
        (conv => whnf)
        refine ⟨x, by rw [ixI]; exact Mem.le_cell (h.kept 3 rfl) hcx, ?_⟩
        (conv => whnf)
        refine ⟨_, h.cell 1 (i := 0) rfl rfl, ?_⟩
        (conv => whnf)
        refine ⟨_, room_s (mk_at h 0 rfl), ?_⟩
        (conv => whnf)
        have e5 : decide (0 ≤ x ∧ x.toNat ∈ L) = decide (x < (R.toNat : Nat)) := by
          by_cases c5 : x < (R.toNat : Nat)
          · rw [decide_eq_true c5, decide_eq_true ⟨c4, Classical.byContradiction fun hn => c3 ⟨c4, c5, hn⟩⟩]
          · rw [decide_eq_false c5, decide_eq_false fun hn => c5 (by have := hin.2.2 _ hn.2; omega)]
        rw [e5]
        refine brk_false (by simp) ?_
        (conv => whnf)
      case' inr =>
        rw [decide_eq_false (show ¬ x ≥ 0 from c4), decide_eq_false (show ¬ (0 ≤ x ∧ x.toNat ∈ L) from fun h => c4 h.1)]
        (conv => whnf)
      all_goals
        refine ⟨(i + 1, m6), le_eq ⟨by show some (AV.v (.int .i64 (IntKind.i64.wrap ((i : Int) + 1)))) = _; rw [wrap_id (by omega) (by omega)]; rfl, by show _ = some (AV.v (.int .i64 ((((ys.take (i + 1)).foldl (putL R.toNat) []).length : Nat) : Int))); rw [hL, hL2]; rfl, rfl, rfl, rfl, rfl, rfl, trivial⟩ rfl rfl rfl, ⟨by simp only; omega, ?_⟩, by simp only; omega⟩
        simp only
        rw [hL, hL2]
        exact h.move 1 rfl
  · have c2 : ¬ (i : Int) < (ys.length : Nat) := by simpa using c2
    have hi : i = ys.length := by omega
    subst hi
    rw [List.take_length] at *
    generalize ys.foldl (putL R.toNat) [] = L at *
    have hnd := mk_nodup (mk_at h 1 rfl)
    have hin := mk_small (mk_at h 1 rfl)
    (conv => whnf)
    intro b14 m5 hb he
    replace h := h.new' hb he
    clear hb he
    (conv => whnf)
    refine ⟨h.room 0 (i := 0) rfl rfl, fun m6 he => ?_⟩
    replace h : Sep [pt b14 [.int .i64 ((0 : Nat) : Int)], pt b6 [.pointer (some ⟨p, 0, none⟩)], mk p R.toNat L, pt b4 [.bool false], kp m] m6 := h.put' 0 he rfl
    clear he
    (conv => whnf)
    refine ⟨_, h.cell 1 (i := 0) rfl rfl, ?_⟩
    (conv => whnf)
    refine FCalls.mono all_s fun v m7 ⟨bA, hv, h2⟩ => ?_
    subst hv
    replace h := h.on (N := [_]) h2
    clear h2
    (conv => whnf)
    refine range_all (h.cell 0 (i := 0) rfl rfl) (mk_at h 3 rfl) rfl (fun j M => Sep [pt b14 [.int .i64 ((j : Nat) : Int)], pt b6 [.pointer (some ⟨p, 0, none⟩)], mk p R.toNat L, pt b4 [.bool false], kp m] M) (h.drop 0) (fun j x M hx h => ?_) (fun M h => ?_)
    · have hjl := (List.getElem?_eq_some_iff.1 hx).1
      (conv => whnf)
      refine ⟨_, h.cell 1 (i := 0) rfl rfl, ?_⟩
      (conv => whnf)
      refine ⟨_, h.cell 0 (i := 0) rfl rfl, ?_⟩
      (conv => whnf)
      refine FCalls.mono (at_s (mk_at h 2 rfl) _) ?_
      rintro v m' ⟨rfl, hv⟩
      rw [if_pos (by omega), show ((j : Nat) : Int).toNat = j by omega, hx] at hv
      subst hv
      (conv => whnf)
      refine brk_false (by simp) ?_
      (conv => whnf)
      refine ⟨_, h.cell 0 (i := 0) rfl rfl, ?_⟩
      (conv => whnf)
      rw [wrap_id (x := (j : Int) + 1) (by omega) (by omega)]
      refine ⟨h.room 0 (i := 0) rfl rfl, fun m6 he => ?_⟩
      replace h := h.put' 0 he rfl
      (conv => whnf)
      exact h
    · (conv => whnf)
      refine ⟨_, h.cell 1 (i := 0) rfl rfl, ?_⟩
      (conv => whnf)
      refine FCalls.mono (rising_s (mk_at h 2 rfl)) ?_
      rintro v m8 ⟨A1, d1, rfl, h2⟩
      replace h : Sep [sl A1 L.length d1 1 (ints (up (cast L))), pt b14 [.int .i64 ((L.length : Nat) : Int)], pt b6 [.pointer (some ⟨p, 0, none⟩)], mk p R.toNat L, pt b4 [.bool false], kp m] m8 := h.on (N := [_]) h2
      clear h2
      have hU := (ints_of_sl (h.asn 0 rfl))
      have hul := up_cast_len (l := L)
      (conv => whnf)
      refine ⟨_, h.cell 1 (i := 0) rfl rfl, ?_⟩
      (conv => whnf)
      have hself : ∀ (a : Int), (a != a) = false := fun a => by simp
      rw [hself]
      (conv => whnf)
      refine ⟨_, h.cell 2 (i := 0) rfl rfl, ?_⟩
      (conv => whnf)
      refine FCalls.mono (len_s (mk_at h 3 rfl)) ?_
      rintro v m9 ⟨rfl, rfl⟩
      (conv => whnf)
      rw [hself]
      (conv => whnf)
      rw [hself]
      (conv => whnf)
      refine loop_keep [1, 4, 5, 6, 8, 18] Nat (fun i => [(19, .v (.int .i64 ((i : Nat) : Int)))]) (fun _ => []) (fun _ => m9) (fun i => i ≤ L.length) (fun i => L.length - i) 0 ⟨rfl, trivial⟩ rfl rfl (by simp) ?_
      (conv => whnf)
      refine ⟨rfl, ?_⟩
      rintro i hJ3
      (conv => whnf)
      refine brk_intro (fun c2 => ?_) (fun c2 => ?_)
      · have c2 : (i : Int) < (L.length : Nat) := by simpa using c2
        obtain ⟨x, hx⟩ : ∃ x, (up (cast L))[i]? = some x := ⟨_, List.getElem?_eq_getElem (by omega)⟩
        obtain ⟨n, hn, rfl⟩ := up_mem hx
        obtain ⟨q, hq, hcx⟩ := hU.at hx
        have step1 : IntKind.i64.wrap ((i : Int) + 1) = ((i + 1 : Nat) : Int) := wrap_id (by omega) (by omega)
        (conv => whnf)
        refine ⟨_, h.cell 2 (i := 0) rfl rfl, ?_⟩
        (conv => whnf)
        refine ⟨_, hq, by omega, by omega, ?_⟩
        (conv => whnf)
        refine ⟨_, by rw [ixI]; exact hcx, ?_⟩
        (conv => whnf)
        refine ⟨_, has_s (mk_at h 3 rfl) _, ?_⟩
        rw [decide_eq_true ⟨by omega, by rw [show ((n : Nat) : Int).toNat = n by omega]; exact hn⟩]
        (conv => whnf)
        rcases Decidable.em (i = 0) with c3 | c3
        case' inl =>
          subst c3
          rw [decide_eq_false (show ¬ (((0 : Nat) : Int) > 0) by omega)]
          (conv => whnf)
        case' inr =>
          rw [decide_eq_true (show ((i : Nat) : Int) > 0 by omega)]
          obtain ⟨y, hy⟩ : ∃ y, (up (cast L))[i - 1]? = some y := ⟨_, List.getElem?_eq_getElem (by omega)⟩
          obtain ⟨q2, hq2, hcy⟩ := hU.at hy
          have hlt := up_lt hnd hy (by rw [show i - 1 + 1 = i by omega]; exact hx)
          (conv => whnf)
          refine ⟨_, hq, by omega, by omega, ?_⟩
          (conv => whnf)
          refine ⟨_, by rw [ixI]; exact hcx, ?_⟩
          (conv => whnf)
          rw [wrap_id (x := (i : Int) - 1) (by omega) (by omega), show (i : Int) - 1 = ((i - 1 : Nat) : Int) by omega]
          refine ⟨_, hq2, by omega, by omega, ?_⟩
          (conv => whnf)
          refine ⟨_, by rw [ixI]; exact hcy, ?_⟩
          (conv => whnf)
          rw [decide_eq_false (show ¬ ((n : Nat) : Int) ≤ y by omega)]
          (conv => whnf)
        all_goals
          exact ⟨_, le_eq ⟨by show some (AV.v (.int .i64 (IntKind.i64.wrap (_ + 1)))) = _; rw [step1], rfl, rfl, rfl, rfl, rfl, rfl, trivial⟩ rfl rfl rfl, by omega, by omega⟩
      · (conv => whnf)
        refine ⟨_, h.cell 2 (i := 0) rfl rfl, ?_⟩
        (conv => whnf)
        refine FCalls.mono (h.call 3 rfl fun m1 h1 => clear_s h1) ?_
        rintro v m10 ⟨m8, ⟨rfl, h1⟩, h2⟩
        replace h := h2.one h1
        clear h1 h2
        replace h : Sep [mk p R.toNat [], pt b6 [.pointer (some ⟨p, 0, none⟩)], pt b4 [.bool false], kp m] m10 := (h.drop 1).drop 1
        (conv => whnf)
        refine ⟨_, h.cell 1 (i := 0) rfl rfl, ?_⟩
        (conv => whnf)
        refine FCalls.mono (len_s (mk_at h 0 rfl)) ?_
        rintro v m11 ⟨rfl, rfl⟩
        (conv => whnf)
        refine ⟨_, h.cell 1 (i := 0) rfl rfl, ?_⟩
        (conv => whnf)
        refine FCalls.mono (rising_s (mk_at h 0 rfl)) ?_
        rintro v m12 ⟨A2, d2, rfl, h2⟩
        replace h := h.on (N := [_]) h2
        replace h := (h.drop 0).move 1 rfl
        clear h2
        (conv => whnf)
        have step1 : IntKind.i64.wrap ((t : Int) + 1) = ((t + 1 : Nat) : Int) := wrap_id (by omega) (by omega)
        exact ⟨(t + 1, m12), le_eq ⟨by show some (AV.v (.int .i64 (IntKind.i64.wrap (_ + 1)))) = _; rw [step1], rfl, rfl, rfl, rfl, trivial⟩ rfl rfl rfl, ⟨by simp only; omega, h⟩, by simp only; omega⟩
end Go.Proofs.Ytlahdleaidhclaa
