/- Marks: over. -/
import Derived.Test.YtlahdleaidhclaaMkDo
namespace Go.Proofs.Ytlahdleaidhclaa
open Go Go.Mv
set_option maxHeartbeats 4000000
set_option maxRecDepth 10000
set_option linter.unusedVariables false
set_option linter.unusedSimpArgs false
attribute [local irreducible] FCalls IntKind.wrap bits Mem.set Mem.setCell Mem.setCells YCalls
def stepL (a b c d e f g : Int) : List Value := [.int .i64 a, .int .i64 b, .int .i64 c, .int .i64 d, .int .i64 e, .int .i64 f, .int .i64 g]
def allF (b : Nat) : Value := .func (.func 26) #[] #[.pointer (some ⟨b, 0, none⟩)]
theorem cast_one (l : List Nat) : oneCells (ints (cast l)) = true := by
  induction l with
  | nil => rfl
  | cons x r ih => exact ih
theorem over_gen {w N p r b room : Nat} {l : List Nat} {cs : List Value} {k : Nat} {kind on nn leave turn inn mm : Int} {m : Mem}
    (hN : N + 2 ≤ 1000) (hc : cs.length = 6) (hk : k < 2) (hp : cs[k]? = some (.pointer (some ⟨p, 0, none⟩))) (hr : cs[2 + k]? = some (.pointer (some ⟨r, 0, none⟩)))
    (ht : -9223372036854775808 ≤ turn ∧ turn ≤ 9223372036854775807) (hlv : -9223372036854775808 ≤ leave ∧ leave ≤ 9223372036854775807)
    (inner : inn = 5 → ∀ (m : Mem) (l : List Nat) (N : Nat) (b : Nat), N + 2 ≤ 1000 → Sep [wo w cs N, mk p room l, rf r room l, pt b [.pointer (some ⟨p, 0, none⟩)]] m → FCalls Try.prog 29 [.pointer (some ⟨w, 0, none⟩), .int .i64 ((k : Nat) : Int), allF b, .agg (stepL 0 0 0 leave 0 0 0).toArray] m fun v m' => v = .bool true ∧ ∃ l' N', N' ≤ N + 2 ∧ Sep [wo w cs N', mk p room l', rf r room l', pt b [.pointer (some ⟨p, 0, none⟩)]] m')
    (h : Sep [wo w cs N, mk p room l, rf r room l, pt b [.pointer (some ⟨p, 0, none⟩)]] m) :
    FCalls Try.prog 29 [.pointer (some ⟨w, 0, none⟩), .int .i64 ((k : Nat) : Int), allF b, .agg (stepL kind on nn leave turn inn mm).toArray] m fun v m' => v = .bool true ∧ ∃ l' N', N' ≤ N + 2 ∧ Sep [wo w cs N', mk p room l', rf r room l', pt b [.pointer (some ⟨p, 0, none⟩)]] m' := by
  have hcr : ∀ {L : List Asn} {M : Mem} {N : Nat} (j : Nat), Sep L M → L[j]? = some (wo w cs N) → M.cell (((⟨w, 0, none⟩ : Addr).add 2).add (k * 1)) = some (.pointer (some ⟨r, 0, none⟩)) := fun j h hj => by
    obtain ⟨m1, h1, h2⟩ := h.get j hj
    rw [add_mk, add_mk, Nat.zero_add, Nat.mul_one]
    exact Mem.le_cell h1 (wo_cell h2 hr)
  have hcp : ∀ {L : List Asn} {M : Mem} {N : Nat} (j : Nat), Sep L M → L[j]? = some (wo w cs N) → M.cell (((⟨w, 0, none⟩ : Addr).add 0).add (k * 1)) = some (.pointer (some ⟨p, 0, none⟩)) := fun j h hj => by
    obtain ⟨m1, h1, h2⟩ := h.get j hj
    rw [add_mk, add_mk, Nat.zero_add, Nat.mul_one]
    exact Mem.le_cell h1 (wo_cell h2 hp)
  obtain ⟨hroom, hlen, hlt⟩ := mk_small (mk_at h 1 rfl)
  refine fcalls_of_vc (T := tbl) (B := bodies) (pr := [99999]) (DR := (100010, 0) :: dr29) (args := [.v (.pointer (some ⟨w, 0, none⟩)), .v (.int .i64 ((k : Nat) : Int)), .v (allF b), .v (.agg (stepL kind on nn leave turn inn mm).toArray)]) tbl_ok bodies_ok mixed Try.func29 rfl (by decide +kernel) (by simp [Try.f29]) rfl ?_
  (conv => whnf)
  intro b4 m1 hb he
  replace h := h.new' (l := [.pointer (some ⟨w, 0, none⟩)]) hb (he.trans rfl)
  clear hb he
  (conv => whnf)
  intro b5 m2 hb he
  replace h := h.new' (l := [.int .i64 ((k : Nat) : Int)]) hb (he.trans rfl)
  clear hb he
  (conv => whnf)
  intro b7 m3 hb he
  replace h := h.new' (l := stepL kind on nn leave turn inn mm) hb (he.trans rfl)
  clear hb he
  (conv => whnf)
  intro b8 m4 hb he
  replace h := h.new' (l := [.bool false]) hb (he.trans rfl)
  clear hb he
  replace h : Sep [pt b8 [.bool false], pt b7 (stepL kind on nn leave turn inn mm), pt b5 [.int .i64 ((k : Nat) : Int)], pt b4 [.pointer (some ⟨w, 0, none⟩)], wo w cs N, mk p room l, rf r room l, pt b [.pointer (some ⟨p, 0, none⟩)]] m4 := h
  (conv => whnf)
  refine ⟨_, h.cell 3 (i := 0) rfl rfl, ?_⟩
  (conv => whnf)
  refine ⟨_, h.cell 2 (i := 0) rfl rfl, ?_⟩
  (conv => whnf)
  refine ⟨Int.natCast_nonneg _, by omega, ?_⟩
  (conv => whnf)
  refine ⟨_, hcr 4 h rfl, ?_⟩
  obtain ⟨A, cA, hrf⟩ := rf_at h 6 rfl
  have hRd := hrf.rd 1 rfl
  have hc1 := hrf.cell 0 (i := 1) rfl rfl
  clear hrf
  have hlenc : (ints (cast l)).length = l.length * (tbl.at 3).size := by rw [ints_len, cast_len]; rfl
  (conv => whnf)
  refine ⟨_, _, _, hc1, ?_⟩
  (conv => whnf)
  refine ⟨?ga, ?gb, trivial⟩
  case' gb =>
    (conv => whnf)
    intro b9 m6 hb he
    replace h := h.new' (l := [.slice none 0 0]) hb (he.trans rfl)
    replace hRd := hRd.more (Mem.le_trans (Mem.le_set hb) (by rw [← he]; exact Mem.le_refl _))
    clear hb he hc1
  all_goals
    (conv => whnf)
    obtain ⟨ok, hR⟩ := (Sep.free (A := sl none 0 0 1 []) h sl_nil).app 0 (T := tbl) (e := 3) (news := ints (cast l)) (k := l.length) (B := A) rfl hlenc ((hRd.holds hlenc).imp (fun hh => by rw [hh]) id) (cast_one l) rfl (by show 2 * (0 + _) * 8 ≤ 2 ^ 48; omega) rfl
    refine ⟨_, _, ok, fun W c9 m5 hr1 => ?_⟩
    replace h := hR _ _ _ hr1
    clear ok hR hr1 hRd
    rw [Nat.zero_add]
    rw [Nat.zero_add] at h
  case' ga =>
    (conv => whnf)
    intro b9 m6 hb he
    replace h := h.new' (l := [.slice none 0 0]) hb (he.trans rfl)
    clear hb he
    replace h := h.move 1 rfl
  all_goals
    (conv => whnf)
    refine ⟨h.room 1 (i := 0) rfl rfl, fun m7 he => ?_⟩
    replace h := h.put' 1 he rfl
    clear he
    (conv => whnf)
    intro b10 m8 hb he
    replace h := h.new' (l := [.int .i64 0]) hb (he.trans rfl)
    clear hb he
    (conv => whnf)
    refine ⟨h.room 0 (i := 0) rfl rfl, fun m9 he => ?_⟩
    replace h : Sep [pt b10 [.int .i64 0], sl W l.length c9 1 (ints (cast l)), pt b9 [.slice W l.length c9], pt b8 [.bool false], pt b7 (stepL kind on nn leave turn inn mm), pt b5 [.int .i64 ((k : Nat) : Int)], pt b4 [.pointer (some ⟨w, 0, none⟩)], wo w cs N, mk p room l, rf r room l, pt b [.pointer (some ⟨p, 0, none⟩)]] m9 := h.put' 0 he rfl
    clear he
    (conv => whnf)
    refine range_all (p := p) (room := room) (l := l) (h.cell 10 (i := 0) rfl rfl) (mk_at h 8 rfl) rfl
      (fun i M => ∃ l' N', N' ≤ N + (if pickI turn 4 < i then 2 else 0) ∧ Sep [pt b10 [.int .i64 ((i : Nat) : Int)], sl W l.length c9 1 (ints (cast l)), pt b9 [.slice W l.length c9], pt b8 [.bool false], pt b7 (stepL kind on nn leave turn inn mm), pt b5 [.int .i64 ((k : Nat) : Int)], pt b4 [.pointer (some ⟨w, 0, none⟩)], wo w cs N', mk p room l', rf r room l', pt b [.pointer (some ⟨p, 0, none⟩)]] M) ⟨l, N, Nat.le_add_right _ _, h⟩ ?_ ?_
    · clear h
      rintro i x M hx ⟨l1, N1, hN1, h⟩
      have hi := (List.getElem?_eq_some_iff.1 hx).1
      obtain ⟨q, hq, hcq⟩ := (h.rd 1 rfl).at (ints_get (cast_get hx))
      have hcq : M.cell (q.add (i * 1)) = some (.int .i64 ((x : Nat) : Int)) := by rw [Nat.mul_one]; exact hcq
      have step1 : IntKind.i64.wrap ((i : Int) + 1) = ((i + 1 : Nat) : Int) := wrap_id (by omega) (by omega)
      (conv => whnf)
      refine ⟨_, h.cell 0 (i := 0) rfl rfl, ?_⟩
      (conv => whnf)
      refine ⟨_, _, _, h.cell 2 (i := 0) rfl rfl, ?_⟩
      (conv => whnf)
      refine brk_true (by simp; omega) ?_
      (conv => whnf)
      refine ⟨_, _, _, h.cell 2 (i := 0) rfl rfl, ?_⟩
      (conv => whnf)
      refine ⟨_, h.cell 0 (i := 0) rfl rfl, ?_⟩
      (conv => whnf)
      refine ⟨_, hq, by omega, by omega, ?_⟩
      (conv => whnf)
      refine ⟨_, hcq, ?_⟩
      (conv => whnf)
      refine brk_false (by simp) ?_
      clear hcq hq
      (conv => whnf)
      refine join_keep [7, 8, 10] (List Nat × Nat × Mem) (fun _ => []) (fun s => s.2.2) (fun s => s.2.1 ≤ N + (if pickI turn 4 < ((i + 1 : Nat) : Int) then 2 else 0) ∧ Sep [pt b10 [.int .i64 ((i : Nat) : Int)], sl W l.length c9 1 (ints (cast l)), pt b9 [.slice W l.length c9], pt b8 [.bool false], pt b7 (stepL kind on nn leave turn inn mm), pt b5 [.int .i64 ((k : Nat) : Int)], pt b4 [.pointer (some ⟨w, 0, none⟩)], wo w cs s.2.1, mk p room s.1, rf r room s.1, pt b [.pointer (some ⟨p, 0, none⟩)]] s.2.2) ?_
      have hN1' : N1 ≤ N + (if pickI turn 4 < ((i + 1 : Nat) : Int) then 2 else 0) := by
        refine Nat.le_trans hN1 (Nat.add_le_add_left ?_ _)
        split
        · rw [if_pos (by omega)]
          exact Nat.le_refl _
        · exact Nat.zero_le _
      (conv => whnf)
      refine ⟨?_, ?_⟩
      · (conv => whnf)
        refine ⟨_, h.cell 4 (i := 5) rfl rfl, ?_⟩
        (conv => whnf)
        refine brk_intro (fun c1 => ?_) (fun c1 => ?_)
        · (conv => whnf)
          refine ⟨_, h.cell 0 (i := 0) rfl rfl, ?_⟩
          (conv => whnf)
          refine ⟨_, h.cell 4 (i := 4) rfl rfl, ?_⟩
          (conv => whnf)
          refine ⟨_, pick_c (n := 4) ht.1 ht.2 (by omega), ?_⟩
          (conv => whnf)
          refine brk_intro (fun c2 => ?_) (fun c2 => ?_)
          · have c2 : (i : Int) = pickI turn 4 := by simpa using c2
            rw [if_neg (by omega), Nat.add_zero] at hN1
            rw [if_pos (by omega)] at hN1'
            (conv => whnf)
            refine ⟨_, h.cell 4 (i := 5) rfl rfl, ?_⟩
            (conv => whnf)
            refine brk_intro (fun c3 => ?_) (fun c3 => ?_)
            · have c3 : inn = 5 := by simpa using c3
              have k4 := h.cell 6 (i := 0) rfl rfl
              have k5 := h.cell 5 (i := 0) rfl rfl
              have k7 := h.cell 4 (i := 3) rfl rfl
              (conv => whnf)
              refine ⟨_, k4, ?_⟩
              (conv => whnf)
              refine ⟨_, k5, ?_⟩
              (conv => whnf)
              refine ⟨Int.natCast_nonneg _, by omega, ?_⟩
              (conv => whnf)
              refine ⟨_, hcp 7 h rfl, ?_⟩
              (conv => whnf)
              repeat' (first
                | (refine ⟨_, k4, ?_⟩; (conv => whnf))
                | (refine ⟨_, k5, ?_⟩; (conv => whnf))
                | (refine ⟨_, k7, ?_⟩; (conv => whnf))
                | (refine FCalls.mono all_s ?_; rintro v m9 ⟨b2, rfl, hS⟩; replace k4 := Mem.le_cell (hS.kept 1 rfl) k4; replace k5 := Mem.le_cell (hS.kept 1 rfl) k5; replace k7 := Mem.le_cell (hS.kept 1 rfl) k7; replace h := h.on (N := [_]) hS; clear hS; (conv => whnf))
                | exact True.intro
                | (apply And.intro <;> (conv => whnf)))
              all_goals
                have h9 := ((h.move 10 rfl).move 10 rfl).move 10 rfl
                refine FCalls.mono (h9.calln 4 fun m1 h1 => inner c3 m1 l1 N1 b2 (by omega) h1) ?_
                rintro v m11 ⟨m12, ⟨rfl, l2, N2, hN2, h1⟩, hB⟩
                replace h := (hB.sep h1).drop 3
                clear hB h1 h9
                have h9 := (h.back (j := 9) (by exact (by decide : 9 ≤ 10))).back (j := 9) (by exact (by decide : 9 ≤ 10))
                replace h := h9.back (j := 9) (by exact (by decide : 9 ≤ 10))
                (conv => whnf)
                refine ⟨(l2, N2, m11), le_eq ⟨rfl, rfl, rfl, trivial⟩ rfl rfl rfl, ?_, h⟩
                simp only
                rw [if_pos (by omega)]
                omega
            · (conv => whnf)
              refine ⟨_, h.cell 6 (i := 0) rfl rfl, ?_⟩
              (conv => whnf)
              refine ⟨_, h.cell 5 (i := 0) rfl rfl, ?_⟩
              (conv => whnf)
              refine ⟨_, h.cell 4 (i := 5) rfl rfl, ?_⟩
              (conv => whnf)
              refine ⟨_, h.cell 4 (i := 6) rfl rfl, ?_⟩
              (conv => whnf)
              have h9 := ((h.move 9 rfl).move 9 rfl).move 9 rfl
              refine FCalls.mono (h9.calln 3 fun m1 h1 => does_c h1 hc (by omega) hk hp hr) ?_
              rintro v m11 ⟨m12, ⟨rfl, l2, N2, hN2, h1⟩, hB⟩
              replace h := hB.sep h1
              clear hB h1 h9
              have h9 := (h.back (j := 9) (by exact (by decide : 9 ≤ 10))).back (j := 9) (by exact (by decide : 9 ≤ 10))
              replace h := h9.back (j := 9) (by exact (by decide : 9 ≤ 10))
              (conv => whnf)
              refine ⟨(l2, N2, m11), le_eq ⟨rfl, rfl, rfl, trivial⟩ rfl rfl rfl, ?_, h⟩
              simp only
              rw [if_pos (by omega)]
              omega
          · (conv => whnf)
            exact ⟨(l1, N1, _), le_eq ⟨rfl, rfl, rfl, trivial⟩ rfl rfl rfl, hN1', h⟩
        · (conv => whnf)
          exact ⟨(l1, N1, _), le_eq ⟨rfl, rfl, rfl, trivial⟩ rfl rfl rfl, hN1', h⟩
      · clear h hN1 hN1'
        rintro ⟨l2, N2, M2⟩ ⟨hN2, h⟩
        simp only at hN2 h
        (conv => whnf)
        refine ⟨_, h.cell 0 (i := 0) rfl rfl, ?_⟩
        (conv => whnf)
        refine ⟨h.room 0 (i := 0) rfl rfl, fun m13 he => ?_⟩
        rw [step1] at he
        replace h := h.put' 0 he rfl
        (conv => whnf)
        refine ⟨_, h.cell 0 (i := 0) rfl rfl, ?_⟩
        (conv => whnf)
        refine ⟨_, h.cell 4 (i := 3) rfl rfl, ?_⟩
        (conv => whnf)
        refine ⟨_, pick_c (n := 9) hlv.1 hlv.2 (by omega), ?_⟩
        (conv => whnf)
        refine brk_intro (fun c2 => ?_) (fun c2 => ?_)
        · (conv => whnf)
          refine ⟨h.room 3 (i := 0) rfl rfl, fun m10 he => ?_⟩
          replace h := h.put' 3 he rfl
          (conv => whnf)
          refine ⟨_, h.cell 3 (i := 0) rfl rfl, ?_⟩
          (conv => whnf)
          refine ⟨by first | rfl | (simp; rfl), l2, N2, Nat.le_trans hN2 (by split <;> omega), ?_⟩
          exact ((((((h.drop 0).drop 0).drop 0).drop 0).drop 0).drop 0).drop 0
        · (conv => whnf)
          exact ⟨l2, N2, hN2, h⟩
    · rintro M ⟨l1, N1, hN1, h⟩
      (conv => whnf)
      refine ⟨_, h.cell 0 (i := 0) rfl rfl, ?_⟩
      (conv => whnf)
      refine ⟨_, _, _, h.cell 2 (i := 0) rfl rfl, ?_⟩
      (conv => whnf)
      refine ⟨h.room 3 (i := 0) rfl rfl, fun m10 he => ?_⟩
      replace h := h.put' 3 he rfl
      (conv => whnf)
      refine ⟨_, h.cell 3 (i := 0) rfl rfl, ?_⟩
      (conv => whnf)
      refine ⟨by simp; rfl, l1, N1, Nat.le_trans hN1 (by split <;> omega), ?_⟩
      exact ((((((h.drop 0).drop 0).drop 0).drop 0).drop 0).drop 0).drop 0
end Go.Proofs.Ytlahdleaidhclaa
