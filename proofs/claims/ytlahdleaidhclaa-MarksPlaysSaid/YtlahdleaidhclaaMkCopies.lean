/- MarksCopies. -/
import Derived.Test.YtlahdleaidhclaaMkS
namespace Go.Proofs.Ytlahdleaidhclaa
open Go Go.Mv
set_option maxHeartbeats 2000000
set_option maxRecDepth 10000
set_option linter.unusedVariables false
set_option linter.unusedSimpArgs false
attribute [local irreducible] FCalls IntKind.wrap bits Mem.set Mem.setCell Mem.setCells YCalls
theorem ints_of_sl {m : Mem} {A : Option Addr} {n c : Nat} {xs : List Int} (h : sl A n c 1 (ints xs) m) : Ints m A xs := by
  obtain ⟨h1, h2, h3⟩ := h
  rcases h3 with ⟨rfl, rfl⟩ | ⟨b, o, l, e, rfl, k2, k3, k4⟩
  · refine .inl (List.length_eq_zero_iff.1 ?_)
    rw [ints_len] at h1
    omega
  · exact .inr ⟨b, o, rfl, fun k x hk => Blk.cell ⟨e, k2⟩ (k4 k _ (ints_get hk))⟩
theorem same_v {m : Mem} {A B : Option Addr} {xs ys : List Int} {n k c d : Nat} (hA : Ints m A xs) (hB : Ints m B ys) (hn : xs.length = n) (hk : ys.length = k) (hs : n < 2 ^ 62) : FCalls Try.prog 22 [.slice A n c, .slice B k d] m fun v m' => v = .bool (decide (xs = ys)) ∧ m' = m := by
  subst hn hk
  exact same_c hA hB hs
theorem up_cast_len {l : List Nat} : (up (cast l)).length = l.length := by simp [up_len, cast]
theorem marksCopies_c {m : Mem} {A B : Option Addr} {zs ys : List Int} {c d : Nat} {room : Int} (ho0 : -9223372036854775808 ≤ room) (ho1 : room ≤ 9223372036854775807) (hA : Ints m A zs) (hB : Ints m B ys) (hy : ∀ y, y ∈ ys → -9223372036854775808 ≤ y ∧ y ≤ 9223372036854775807) :
    FCalls Try.prog 6 [.int .i64 room, .slice A zs.length c, .slice B ys.length d] m fun v m' => v = .bool true ∧ m' = m := by
  refine FCalls.less ?_
  refine fcalls_of_vc (T := tbl) (B := bodies) (pr := [99999]) (DR := dr6) (args := [.v (.int .i64 room), .v (.slice A zs.length c), .v (.slice B ys.length d)]) tbl_ok bodies_ok mixed Try.func6 rfl (by decide +kernel) (by simp [Try.f6]) rfl ?_
  (conv => whnf)
  refine FCalls.mono known_c ?_
  rintro v m' ⟨rfl, rfl⟩
  (conv => whnf)
  refine FCalls.mono (pick_c ho0 ho1 (by omega)) ?_
  rintro v m' ⟨rfl, rfl⟩
  obtain ⟨hp0, hp1⟩ := pickI_in (c := room) (n := 100001) (by omega)
  generalize pickI room 100001 = R at *
  (conv => whnf)
  refine FCalls.mono (filled_s hA hp0 (by omega)) ?_
  rintro v m1 ⟨p, rfl, h⟩
  generalize hN : fillL R.toNat (zs.take 300) = l at *
  (conv => whnf)
  refine FCalls.mono (rising_s (mk_at h 0 rfl)) ?_
  rintro v m2 ⟨A1, c1, rfl, h2⟩
  replace h := h.on (N := [_]) h2
  clear h2
  (conv => whnf)
  refine FCalls.mono (copy_s (mk_at h 1 rfl)) ?_
  rintro v m3 ⟨q, rfl, h2⟩
  replace h : Sep [mk q R.toNat l, sl A1 l.length c1 1 (ints (up (cast l))), mk p R.toNat l, kp m'] m3 := h.on (N := [_]) h2
  clear h2
  (conv => whnf)
  refine FCalls.mono (room_s (mk_at h 0 rfl)) ?_
  rintro v m4 ⟨rfl, rfl⟩
  (conv => whnf)
  refine brk_false (by simp; omega) ?_
  (conv => whnf)
  refine loop_keep [2, 8, 9, 10] (Nat × List Nat × Mem) (fun s => [(11, .v (.int .i64 ((s.1 : Nat) : Int)))]) (fun _ => []) (fun s => s.2.2) (fun s => s.1 ≤ ys.length ∧ s.1 ≤ 300 ∧ Sep [mk q R.toNat s.2.1, sl A1 l.length c1 1 (ints (up (cast l))), mk p R.toNat l, kp m'] s.2.2)
    (fun s => ys.length - s.1) (0, l, m4) ⟨rfl, trivial⟩ rfl rfl ⟨by simp, by simp, h⟩ ?_
  clear h
  (conv => whnf)
  refine ⟨rfl, ?_⟩
  rintro ⟨i, lq, M⟩ ⟨hJ1, hJ2, h⟩
  simp only at hJ1 hJ2 h
  have hB' := hB.more (h.kept 3 rfl)
  rcases Decidable.em (i < ys.length) with c2 | c2
  case' inl =>
    have e1 : decide ((i : Int) < (ys.length : Nat)) = true := decide_eq_true (by omega)
    rcases Decidable.em (i < 300) with c3 | c3
    case inl =>
      have e2 : decide ((i : Int) < 300) = true := decide_eq_true (by omega)
      obtain ⟨x, hx⟩ : ∃ x, ys[i]? = some x := ⟨_, List.getElem?_eq_getElem c2⟩
      obtain ⟨q', hq', hcx⟩ := hB'.at hx
      (conv => whnf)
      refine brk_true (by rw [e1]; rfl) ?_
      (conv => whnf)
      refine brk_true (by rw [e2]; rfl) ?_
      (conv => whnf)
      refine ⟨_, hq', by omega, by omega, ?_⟩
      (conv => whnf)
      refine ⟨x, by rw [ixI]; exact hcx, ?_⟩
      (conv => whnf)
      refine FCalls.mono (h.call 0 rfl fun m1 h1 => put_s h1 x) ?_
      rintro v m5 ⟨m6, ⟨rfl, h1⟩, h2⟩
      replace h := h2.one h1
      (conv => whnf)
      exact ⟨(i + 1, _, m5), le_eq ⟨by show some (AV.v (.int .i64 (IntKind.i64.wrap ((i : Int) + 1)))) = _; rw [wrap_id (by omega) (by omega)]; rfl, rfl, rfl, rfl, rfl, trivial⟩ rfl rfl rfl, ⟨by simp only; omega, by simp only; omega, h⟩, by simp only; omega⟩
    case' inr =>
      have e2 : decide ((i : Int) < 300) = false := decide_eq_false (by omega)
      (conv => whnf)
      refine brk_true (by rw [e1]; rfl) ?_
      (conv => whnf)
      refine brk_false (by rw [e2]; rfl) ?_
      (conv => whnf)
  case' inr =>
    have e1 : decide ((i : Int) < (ys.length : Nat)) = false := decide_eq_false (by omega)
    (conv => whnf)
    refine brk_false (by rw [e1]; rfl) ?_
    (conv => whnf)
  all_goals
    clear hB' e1
    refine FCalls.mono (rising_s (mk_at h 0 rfl)) ?_
    rintro v m2 ⟨A2, c4, rfl, h2⟩
    replace h : Sep [sl A2 lq.length c4 1 (ints (up (cast lq))), mk q R.toNat lq, sl A1 l.length c1 1 (ints (up (cast l))), mk p R.toNat l, kp m'] m2 := h.on (N := [_]) h2
    clear h2
    (conv => whnf)
    refine FCalls.mono (rising_s (mk_at h 3 rfl)) ?_
    rintro v m5 ⟨A3, c5, rfl, h2⟩
    replace h := h.on (N := [_]) h2
    clear h2
    have hsm := mk_small (mk_at h 4 rfl)
    have hsq := mk_small (mk_at h 2 rfl)
    (conv => whnf)
    refine FCalls.mono (same_v (ints_of_sl (h.asn 0 rfl)) (ints_of_sl (h.asn 3 rfl)) up_cast_len up_cast_len (by omega)) ?_
    rintro v m6 ⟨rfl, rfl⟩
    rw [decide_eq_true rfl]
    (conv => whnf)
    refine FCalls.mono (h.call 4 rfl fun m1 h1 => clear_s h1) ?_
    rintro v m7 ⟨m8, ⟨rfl, h1⟩, h2⟩
    replace h := h2.one h1
    clear h1 h2
    replace h : Sep [mk p R.toNat [], sl A2 lq.length c4 1 (ints (up (cast lq))), mk q R.toNat lq, kp m'] m7 := (h.drop 1).drop 3
    (conv => whnf)
    refine loop_keep [2, 8, 10, 12, 13] (Nat × List Nat × Mem) (fun s => [(14, .v (.int .i64 ((s.1 : Nat) : Int)))]) (fun _ => []) (fun s => s.2.2) (fun s => s.1 ≤ ys.length ∧ s.1 ≤ 300 ∧ Sep [mk p R.toNat s.2.1, sl A2 lq.length c4 1 (ints (up (cast lq))), mk q R.toNat lq, kp m'] s.2.2)
      (fun s => ys.length - s.1) (0, [], m7) ⟨rfl, trivial⟩ rfl rfl ⟨by simp, by simp, h⟩ ?_
    clear h hJ1 hJ2 c2
    (conv => whnf)
    refine ⟨rfl, ?_⟩
    rintro ⟨i, lp, M⟩ ⟨hJ1, hJ2, h⟩
    simp only at hJ1 hJ2 h
    have hB' := hB.more (h.kept 3 rfl)
    rcases Decidable.em (i < ys.length) with c2 | c2
    case' inl =>
      have e1 : decide ((i : Int) < (ys.length : Nat)) = true := decide_eq_true (by omega)
      rcases Decidable.em (i < 300) with c3 | c3
      case inl =>
        have e2 : decide ((i : Int) < 300) = true := decide_eq_true (by omega)
        obtain ⟨x, hx⟩ : ∃ x, ys[i]? = some x := ⟨_, List.getElem?_eq_getElem c2⟩
        obtain ⟨q', hq', hcx⟩ := hB'.at hx
        (conv => whnf)
        refine brk_true (by rw [e1]; rfl) ?_
        (conv => whnf)
        refine brk_true (by rw [e2]; rfl) ?_
        (conv => whnf)
        refine ⟨_, hq', by omega, by omega, ?_⟩
        (conv => whnf)
        refine ⟨x, by rw [ixI]; exact hcx, ?_⟩
        (conv => whnf)
        refine ⟨by omega, ?_⟩
        (conv => whnf)
        refine FCalls.mono (h.call 0 rfl fun m1 h1 => put_s h1 _) ?_
        rintro v m5 ⟨m6, ⟨rfl, h1⟩, h2⟩
        replace h := h2.one h1
        (conv => whnf)
        exact ⟨(i + 1, _, m5), le_eq ⟨by show some (AV.v (.int .i64 (IntKind.i64.wrap ((i : Int) + 1)))) = _; rw [wrap_id (by omega) (by omega)]; rfl, rfl, rfl, rfl, rfl, rfl, trivial⟩ rfl rfl rfl, ⟨by simp only; omega, by simp only; omega, h⟩, by simp only; omega⟩
      case' inr =>
        have e2 : decide ((i : Int) < 300) = false := decide_eq_false (by omega)
        (conv => whnf)
        refine brk_true (by rw [e1]; rfl) ?_
        (conv => whnf)
        refine brk_false (by rw [e2]; rfl) ?_
        (conv => whnf)
    case' inr =>
      have e1 : decide ((i : Int) < (ys.length : Nat)) = false := decide_eq_false (by omega)
      (conv => whnf)
      refine brk_false (by rw [e1]; rfl) ?_
      (conv => whnf)
    all_goals
      refine FCalls.mono (rising_s (mk_at h 2 rfl)) ?_
      rintro v m9 ⟨A3, c6, rfl, h2⟩
      replace h := h.on (N := [_]) h2
      clear h2
      (conv => whnf)
      refine FCalls.mono (same_v (ints_of_sl (h.asn 0 rfl)) (ints_of_sl (h.asn 2 rfl)) up_cast_len up_cast_len (by omega)) ?_
      rintro v m10 ⟨rfl, rfl⟩
      rw [decide_eq_true rfl]
      (conv => whnf)
      refine FCalls.mono (len_s (mk_at h 3 rfl)) ?_
      rintro v m11 ⟨rfl, rfl⟩
      (conv => whnf)
      refine ⟨m', h.kept 4 rfl, ?_, rfl⟩
      rw [beq_self_eq_true]
      rfl
end Go.Proofs.Ytlahdleaidhclaa
