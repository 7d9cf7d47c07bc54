/- MarksSame. -/
import Derived.Test.YtlahdleaidhclaaMkS
namespace Go.Proofs.Ytlahdleaidhclaa
open Go Go.Mv
set_option maxHeartbeats 2000000
set_option maxRecDepth 10000
set_option linter.unusedVariables false
set_option linter.unusedSimpArgs false
attribute [local irreducible] FCalls IntKind.wrap bits Mem.set Mem.setCell Mem.setCells YCalls
theorem marksSame_c {m : Mem} {A B : Option Addr} {zs ys : List Int} {c d : Nat} {one two : Int} (ho0 : -9223372036854775808 ≤ one) (ho1 : one ≤ 9223372036854775807) (ht0 : -9223372036854775808 ≤ two) (ht1 : two ≤ 9223372036854775807) (hA : Ints m A zs) (hB : Ints m B ys) :
    FCalls Try.prog 7 [.int .i64 one, .int .i64 two, .slice A zs.length c, .slice B ys.length d] m fun v m' => v = .bool true ∧ m' = m := by
  refine FCalls.less ?_
  refine fcalls_of_vc (T := tbl) (B := bodies) (pr := [99999]) (DR := dr7) (args := [.v (.int .i64 one), .v (.int .i64 two), .v (.slice A zs.length c), .v (.slice B ys.length d)]) tbl_ok bodies_ok mixed Try.func7 rfl (by decide +kernel) (by simp [Try.f7]) rfl ?_
  (conv => whnf)
  refine FCalls.mono known_c fun v m' ⟨hv, hm⟩ => ?_
  subst hv hm
  (conv => whnf)
  refine FCalls.mono (pick_c ho0 ho1 (by omega)) fun v m' ⟨hv, hm⟩ => ?_
  subst hv hm
  obtain ⟨hp0, hp1⟩ := pickI_in (c := one) (n := 100001) (by omega)
  generalize pickI one 100001 = R at *
  (conv => whnf)
  refine FCalls.mono (filled_s hA hp0 (by omega)) fun v m1 ⟨p, hv, h⟩ => ?_
  subst hv
  generalize hN : fillL R.toNat (zs.take 300) = l at *
  (conv => whnf)
  refine FCalls.mono (pick_c ht0 ht1 (by omega)) fun v m'' ⟨hv, hm⟩ => ?_
  subst hv hm
  obtain ⟨hq0, hq1⟩ := pickI_in (c := two) (n := 100001) (by omega)
  generalize pickI two 100001 = R2 at *
  (conv => whnf)
  refine FCalls.mono (filled_s (hB.more (h.kept 1 rfl)) hq0 (by omega)) fun v m2 ⟨q, hv, h2⟩ => ?_
  subst hv
  generalize hN2 : fillL R2.toNat (ys.take 300) = r at *
  replace h : Sep [mk q R2.toNat r, mk p R.toNat l, kp m'] m2 := h.on (N := [_]) h2
  clear h2
  (conv => whnf)
  intro b11 m3 hb he
  replace h : Sep [pt b11 [.pointer none], mk q R2.toNat r, mk p R.toNat l, kp m'] m3 := h.new' hb he
  clear hb he
  (conv => whnf)
  refine ⟨h.room 0 (i := 0) rfl rfl, fun m4 he => ?_⟩
  replace h : Sep [pt b11 [.pointer (some ⟨q, 0, none⟩)], mk q R2.toNat r, mk p R.toNat l, kp m'] m4 := h.put' 0 he rfl
  clear he
  (conv => whnf)
  refine ⟨_, h.cell 0 (i := 0) rfl rfl, ?_⟩
  (conv => whnf)
  intro b12 m5 hb he
  replace h : Sep [pt b12 [.bool false], pt b11 [.pointer (some ⟨q, 0, none⟩)], mk q R2.toNat r, mk p R.toNat l, kp m'] m5 := h.new' hb he
  clear hb he
  (conv => whnf)
  refine ⟨h.room 0 (i := 0) rfl rfl, fun m6 he => ?_⟩
  replace h : Sep [pt b12 [.bool true], pt b11 [.pointer (some ⟨q, 0, none⟩)], mk q R2.toNat r, mk p R.toNat l, kp m'] m6 := h.put' 0 he rfl
  clear he
  (conv => whnf)
  refine FCalls.mono all_s fun v m7 ⟨bA, hv, h2⟩ => ?_
  subst hv
  replace h := h.on (N := [_]) h2
  clear h2
  (conv => whnf)
  refine range_all (h.cell 0 (i := 0) rfl rfl) (mk_at h 4 rfl) rfl (fun j M => Sep [pt b12 [.bool (subB (l.take j) r)], pt b11 [.pointer (some ⟨q, 0, none⟩)], mk q R2.toNat r, mk p R.toNat l, kp m'] M) (h.drop 0) (fun j x M hx h => ?_) (fun M h => ?_)
  · (conv => whnf)
    refine ⟨_, h.cell 1 (i := 0) rfl rfl, ?_⟩
    (conv => whnf)
    refine FCalls.mono (has_s (mk_at h 2 rfl) x) fun v m' ⟨hv, hm⟩ => ?_
    subst hv hm
    (conv => whnf)
    refine ⟨_, h.cell 0 (i := 0) rfl rfl, ?_⟩
    (conv => whnf)
    have e1 := subB_take (r := r) hx
    rw [show decide (0 ≤ (x : Int) ∧ ((x : Nat) : Int).toNat ∈ r) = decide (x ∈ r) from by simp]
    refine brk_intro (fun c1 => ?_) (fun c1 => ?_)
    · have c1 : subB (l.take j) r = true := by simpa using c1
      rw [c1] at h e1
      (conv => whnf)
      refine ⟨h.room 0 (i := 0) rfl rfl, fun m2 he => ?_⟩
      replace h := h.put' 0 he rfl
      (conv => whnf)
      rw [e1]
      exact h
    · have c1 : subB (l.take j) r = false := by simpa using c1
      rw [c1] at h e1
      (conv => whnf)
      refine ⟨h.room 0 (i := 0) rfl rfl, fun m2 he => ?_⟩
      replace h := h.put' 0 he rfl
      (conv => whnf)
      rw [e1]
      exact h
  · rw [List.take_length] at h
    have hnl := mk_nodup (mk_at h 3 rfl)
    have hnr := mk_nodup (mk_at h 2 rfl)
    (conv => whnf)
    refine ⟨_, h.cell 0 (i := 0) rfl rfl, ?_⟩
    (conv => whnf)
    refine brk_intro (fun c1 => ?_) (fun c1 => ?_)
    case' refine_1 =>
      have c1 : subB l r = true := by simpa using c1
      (conv => whnf)
      refine ⟨_, len_s (mk_at h 3 rfl), ?_⟩
      (conv => whnf)
      refine ⟨_, h.cell 1 (i := 0) rfl rfl, ?_⟩
      (conv => whnf)
      refine ⟨_, len_s (mk_at h 2 rfl), ?_⟩
      (conv => whnf)
      refine ⟨h.room 0 (i := 0) rfl rfl, fun m2 he => ?_⟩
      replace h := h.put' 0 he rfl
      have e1 : (((l.length : Nat) : Int) == ((r.length : Nat) : Int)) = (subB l r && (l.length == r.length)) := by
        rw [c1, Bool.true_and]
        by_cases he : l.length = r.length
        · rw [he]; simp
        · rw [beq_eq_false_iff_ne.2 (by omega), beq_eq_false_iff_ne.2 he]
      replace h : Sep [pt b12 [.bool (((l.length : Nat) : Int) == ((r.length : Nat) : Int))], pt b11 [.pointer (some ⟨q, 0, none⟩)], mk q R2.toNat r, mk p R.toNat l, kp m'] m2 := h
      rw [e1] at h
    case' refine_2 =>
      have c1 : subB l r = false := by simpa using c1
      (conv => whnf)
      refine ⟨h.room 0 (i := 0) rfl rfl, fun m2 he => ?_⟩
      replace h := h.put' 0 he rfl
      have e1 : false = (subB l r && (l.length == r.length)) := by rw [c1, Bool.false_and]
      replace h : Sep [pt b12 [.bool false], pt b11 [.pointer (some ⟨q, 0, none⟩)], mk q R2.toNat r, mk p R.toNat l, kp m'] m2 := h
      rw [e1] at h
    all_goals
      clear e1 c1 he
      have hpq := subB_comm hnl hnr
      generalize hI : (subB l r && (l.length == r.length)) = is at *
      (conv => whnf)
      refine ⟨_, h.cell 1 (i := 0) rfl rfl, ?_⟩
      (conv => whnf)
      refine ⟨?_, ?_, trivial⟩
      case' refine_1 =>
        (conv => whnf)
        refine FCalls.mono (same_s (mk_at h 3 rfl) (mk_at h 2 rfl)) fun v m3 ⟨hv, hm⟩ => ?_
        rw [hI] at hv
        subst hv hm
        (conv => whnf)
        refine ⟨_, h.cell 0 (i := 0) rfl rfl, ?_⟩
        (conv => whnf)
      case' refine_2 =>
        (conv => whnf)
        refine ⟨_, h.cell 0 (i := 0) rfl rfl, ?_⟩
        (conv => whnf)
        refine FCalls.mono (same_s (mk_at h 3 rfl) (mk_at h 2 rfl)) fun v m3 ⟨hv, hm⟩ => ?_
        rw [hI] at hv
        subst hv hm
        (conv => whnf)
      all_goals
        refine brk_true (by simp) ?_
        (conv => whnf)
        refine ⟨_, h.cell 1 (i := 0) rfl rfl, ?_⟩
        (conv => whnf)
        refine ⟨?_, ?_, trivial⟩
        case' refine_1 =>
          (conv => whnf)
          refine FCalls.mono (same_s (mk_at h 2 rfl) (mk_at h 3 rfl)) fun v m4 ⟨hv, hm⟩ => ?_
          rw [← hpq] at hv
          subst hv hm
          (conv => whnf)
          refine ⟨_, h.cell 0 (i := 0) rfl rfl, ?_⟩
          (conv => whnf)
        case' refine_2 =>
          (conv => whnf)
          refine ⟨_, h.cell 0 (i := 0) rfl rfl, ?_⟩
          (conv => whnf)
          refine FCalls.mono (same_s (mk_at h 2 rfl) (mk_at h 3 rfl)) fun v m4 ⟨hv, hm⟩ => ?_
          rw [← hpq] at hv
          subst hv hm
          (conv => whnf)
        all_goals
          refine brk_true (by simp) ?_
          (conv => whnf)
          refine FCalls.mono (copy_s (mk_at h 3 rfl)) fun v m4 ⟨q2, hv, h2⟩ => ?_
          subst hv
          replace h := h.on (N := [_]) h2
          clear h2
          (conv => whnf)
          refine FCalls.mono (same_s (mk_at h 4 rfl) (mk_at h 0 rfl)) fun v m4 ⟨hv, hm⟩ => ?_
          subst hv hm
          (conv => whnf)
          refine ⟨m', h.kept 5 rfl, ?_, rfl⟩
          rw [subB_refl, beq_self_eq_true]
          rfl
end Go.Proofs.Ytlahdleaidhclaa
