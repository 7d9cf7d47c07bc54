/- Marks: step. -/
import Derived.Test.YtlahdleaidhclaaMkOv
namespace Go.Proofs.Ytlahdleaidhclaa
open Go Go.Mv
set_option maxHeartbeats 4000000
set_option maxRecDepth 10000
set_option linter.unusedVariables false
set_option linter.unusedSimpArgs false
attribute [local irreducible] FCalls IntKind.wrap bits Mem.set Mem.setCell Mem.setCells YCalls
theorem over_c {w N p r b room : Nat} {l : List Nat} {cs : List Value} {k : Nat} {kind on nn leave turn inn mm : Int} {m : Mem}
    (hN : N + 2 ≤ 1000) (hc : cs.length = 6) (hk : k < 2) (hp : cs[k]? = some (.pointer (some ⟨p, 0, none⟩))) (hr : cs[2 + k]? = some (.pointer (some ⟨r, 0, none⟩)))
    (ht : -9223372036854775808 ≤ turn ∧ turn ≤ 9223372036854775807) (hlv : -9223372036854775808 ≤ leave ∧ leave ≤ 9223372036854775807)
    (h : Sep [wo w cs N, mk p room l, rf r room l, pt b [.pointer (some ⟨p, 0, none⟩)]] m) :
    FCalls Try.prog 29 [.pointer (some ⟨w, 0, none⟩), .int .i64 ((k : Nat) : Int), allF b, .agg (stepL kind on nn leave turn inn mm).toArray] m fun v m' => v = .bool true ∧ ∃ l' N', N' ≤ N + 2 ∧ Sep [wo w cs N', mk p room l', rf r room l', pt b [.pointer (some ⟨p, 0, none⟩)]] m' :=
  over_gen hN hc hk hp hr ht hlv (fun _ m l N b hN h => over_gen hN hc hk hp hr ⟨by decide, by decide⟩ hlv (fun h0 => absurd h0 (by decide)) h) h
/-- One set, and the document's. -/
structure Sd where
  p : Nat
  r : Nat
  b : Nat
  room : Nat
  l : List Nat
def ptr (p : Nat) : Value := .pointer (some ⟨p, 0, none⟩)
structure Hdr (k : Nat) (cs : List Value) (s t : Sd) : Prop where
  len : cs.length = 6
  p1 : cs[k]? = some (.pointer (some ⟨s.p, 0, none⟩))
  p2 : cs[1 - k]? = some (.pointer (some ⟨t.p, 0, none⟩))
  r1 : cs[2 + k]? = some (.pointer (some ⟨s.r, 0, none⟩))
  r2 : cs[2 + (1 - k)]? = some (.pointer (some ⟨t.r, 0, none⟩))
  b1 : cs[4 + k]? = some (allF s.b)
  b2 : cs[4 + (1 - k)]? = some (allF t.b)
theorem Hdr.flip {cs : List Value} {s t : Sd} {k : Nat} (hk : k < 2) (h : Hdr k cs s t) : Hdr (1 - k) cs t s := by
  have e : 1 - (1 - k) = k := by omega
  exact ⟨h.len, h.p2, by rw [e]; exact h.p1, h.r2, by rw [e]; exact h.r1, h.b2, by rw [e]; exact h.b1⟩
theorem Hdr.copy {cs : List Value} {s t : Sd} {k p r b room : Nat} {l : List Nat} (hk : k < 2) (h : Hdr k cs s t) :
    Hdr k (((cs.set (1 - k) (.pointer (some ⟨p, 0, none⟩))).set (2 + (1 - k)) (.pointer (some ⟨r, 0, none⟩))).set (4 + (1 - k)) (allF b)) s ⟨p, r, b, room, l⟩ := by
  obtain ⟨h1, h2, h3, h4, h5, h6, h7⟩ := h
  have hk2 : k = 0 ∨ k = 1 := by omega
  match cs, h1 with
  | [a, b, c, d, e, f], _ =>
    rcases hk2 with rfl | rfl
    · exact ⟨rfl, h2, rfl, h4, rfl, h6, rfl⟩
    · exact ⟨rfl, h2, rfl, h4, rfl, h6, rfl⟩
theorem wo_put {m m2 : Mem} {w N j : Nat} {cs : List Value} {R : List Asn} {v : Value} (h : Sep (wo w cs N :: R) m) (hj : j < cs.length) (he : m2 = m.setCell ⟨w, j, none⟩ v) : Sep (wo w (cs.set j v) N :: R) m2 := by
  rw [he, ← setCells_one]
  refine h.puts 0 rfl (fun m1 _ hA => ?_) fun m1 _ hA => ?_
  · obtain ⟨O, cO, os, h1, h2, h3⟩ := hA
    obtain ⟨e, h4⟩ := h3.blk 0 rfl
    rw [h4]
    simp
  · obtain ⟨O, cO, os, h1, h2, h3⟩ := hA
    rw [setCells_one]
    refine ⟨O, cO, os, h1, h2, ?_⟩
    have h4 := h3.put (i := j) 0 v rfl
    rw [List.set_append_left _ _ hj] at h4
    exact h4
theorem wo_room {m : Mem} {w N j : Nat} {cs : List Value} {R : List Asn} (h : Sep (wo w cs N :: R) m) (hj : j < cs.length) : (∃ u, m.cell ⟨w, j, none⟩ = some u) ∧ m.fz ⟨w, j, none⟩ = false := by
  obtain ⟨m1, m2, k1, k2, k3, ⟨O, cO, os, h1, h2, h3⟩, k5⟩ := h
  have h4 := (h3.more k2).room 0 (i := j) (v := cs[j]) rfl (by rw [List.getElem?_append_left hj]; simp)
  exact h4
theorem step_gen {w N k : Nat} {s t : Sd} {cs : List Value} {kind on nn leave turn inn mm : Int} {m : Mem} (hk : k < 2) (hon : pickI on 2 = k)
    (hN : N + 2 ≤ 1000) (hH : Hdr k cs s t) (ho : -9223372036854775808 ≤ on ∧ on ≤ 9223372036854775807)
    (ht : -9223372036854775808 ≤ turn ∧ turn ≤ 9223372036854775807) (hlv : -9223372036854775808 ≤ leave ∧ leave ≤ 9223372036854775807)
    (h : Sep [wo w cs N, mk s.p s.room s.l, rf s.r s.room s.l, pt s.b [.pointer (some ⟨s.p, 0, none⟩)], mk t.p t.room t.l, rf t.r t.room t.l, pt t.b [.pointer (some ⟨t.p, 0, none⟩)]] m) :
    FCalls Try.prog 24 [.pointer (some ⟨w, 0, none⟩), .agg (stepL kind on nn leave turn inn mm).toArray] m fun v m' => v = .bool true ∧ ∃ cs' s' t' N', N' ≤ N + 2 ∧ Hdr k cs' s' t' ∧
      Sep [wo w cs' N', mk s'.p s'.room s'.l, rf s'.r s'.room s'.l, pt s'.b [.pointer (some ⟨s'.p, 0, none⟩)], mk t'.p t'.room t'.l, rf t'.r t'.room t'.l, pt t'.b [.pointer (some ⟨t'.p, 0, none⟩)]] m' := by
  have cel : ∀ {L : List Asn} {M : Mem} {N : Nat} {cs : List Value} {v : Value} (a n j : Nat), Sep L M → L[j]? = some (wo w cs N) → cs[a + n]? = some v → M.cell (((⟨w, 0, none⟩ : Addr).add a).add (n * 1)) = some v := fun a n j h hj hv => by
    obtain ⟨m1, h1, h2⟩ := h.get j hj
    rw [add_mk, add_mk, Nat.zero_add, Nat.mul_one]
    exact Mem.le_cell h1 (wo_cell h2 hv)
  have p1 : cs[0 + k]? = some (.pointer (some ⟨s.p, 0, none⟩)) := by rw [Nat.zero_add]; exact hH.p1
  have p2 : cs[0 + (1 - k)]? = some (.pointer (some ⟨t.p, 0, none⟩)) := by rw [Nat.zero_add]; exact hH.p2
  obtain ⟨hroom, hlen, hlt⟩ := mk_small (mk_at h 1 rfl)
  obtain ⟨hroom2, hlen2, hlt2⟩ := mk_small (mk_at h 4 rfl)
  have hk1 : IntKind.i64.wrap (1 - (k : Int)) = ((1 - k : Nat) : Int) := by rw [wrap_id (by omega) (by omega)]; omega
  refine fcalls_of_vc (T := tbl) (B := bodies) (pr := [99999]) (DR := dr24) (args := [.v (.pointer (some ⟨w, 0, none⟩)), .v (.agg (stepL kind on nn leave turn inn mm).toArray)]) tbl_ok bodies_ok mixed Try.func24 rfl (by decide +kernel) (by simp [Try.f24]) rfl ?_
  (conv => whnf)
  intro b3 m2 hb he
  replace h : Sep [pt b3 (stepL kind on nn leave turn inn mm), wo w cs N, mk s.p s.room s.l, rf s.r s.room s.l, pt s.b [.pointer (some ⟨s.p, 0, none⟩)], mk t.p t.room t.l, rf t.r t.room t.l, pt t.b [.pointer (some ⟨t.p, 0, none⟩)]] m2 := h.new' (l := stepL kind on nn leave turn inn mm) hb (he.trans rfl)
  clear hb he
  (conv => whnf)
  refine ⟨_, h.cell 0 (i := 1) rfl rfl, ?_⟩
  (conv => whnf)
  refine FCalls.mono (pick_c (n := 2) ho.1 ho.2 (by omega)) ?_
  rintro v m' ⟨rfl, rfl⟩
  rw [hon]
  (conv => whnf)
  refine ⟨_, h.cell 0 (i := 0) rfl rfl, ?_⟩
  (conv => whnf)
  refine brk_intro (fun c1 => ?_) (fun c1 => ?_)
  · -- All
    (conv => whnf)
    refine ⟨Int.natCast_nonneg _, by omega, ?_⟩
    (conv => whnf)
    refine ⟨_, cel 0 k 1 h rfl p1, ?_⟩
    (conv => whnf)
    refine ⟨?ga, ?gb, trivial⟩
    case' gb =>
      (conv => whnf)
      refine ⟨_, h.cell 0 (i := 0) rfl rfl, ?_⟩
      (conv => whnf)
      refine ⟨_, h.cell 0 (i := 1) rfl rfl, ?_⟩
      (conv => whnf)
      refine ⟨_, h.cell 0 (i := 2) rfl rfl, ?_⟩
      (conv => whnf)
      refine ⟨_, h.cell 0 (i := 3) rfl rfl, ?_⟩
      (conv => whnf)
      refine ⟨_, h.cell 0 (i := 4) rfl rfl, ?_⟩
      (conv => whnf)
      refine ⟨_, h.cell 0 (i := 5) rfl rfl, ?_⟩
      (conv => whnf)
      refine ⟨_, h.cell 0 (i := 6) rfl rfl, ?_⟩
    all_goals
      (conv => whnf)
      refine FCalls.mono all_s ?_
      rintro v m9 ⟨b9, rfl, hS⟩
      replace h := h.on (N := [_]) hS
      clear hS
    case' ga =>
      (conv => whnf)
      refine ⟨_, h.cell 1 (i := 0) rfl rfl, ?_⟩
      (conv => whnf)
      refine ⟨_, h.cell 1 (i := 1) rfl rfl, ?_⟩
      (conv => whnf)
      refine ⟨_, h.cell 1 (i := 2) rfl rfl, ?_⟩
      (conv => whnf)
      refine ⟨_, h.cell 1 (i := 3) rfl rfl, ?_⟩
      (conv => whnf)
      refine ⟨_, h.cell 1 (i := 4) rfl rfl, ?_⟩
      (conv => whnf)
      refine ⟨_, h.cell 1 (i := 5) rfl rfl, ?_⟩
      (conv => whnf)
      refine ⟨_, h.cell 1 (i := 6) rfl rfl, ?_⟩
    all_goals
      (conv => whnf)
      have h9 := ((h.move 4 rfl).move 4 rfl).move 4 rfl
      refine FCalls.mono (h9.calln 4 fun m1 h1 => over_c hN hH.len hk hH.p1 hH.r1 ht hlv h1) ?_
      rintro v m10 ⟨m11, ⟨rfl, l2, N2, hN2, h1⟩, hB⟩
      replace h := hB.sep h1
      clear hB h1 h9
      (conv => whnf)
      exact ⟨rfl, cs, ⟨s.p, s.r, s.b, s.room, l2⟩, t, N2, hN2, ⟨hH.len, hH.p1, hH.p2, hH.r1, hH.r2, hH.b1, hH.b2⟩, (h.drop 3).drop 3⟩
  · (conv => whnf)
    refine brk_intro (fun c2 => ?_) (fun c2 => ?_)
    · -- Old
      clear c1 c2
      (conv => whnf)
      refine ⟨Int.natCast_nonneg _, by omega, ?_⟩
      (conv => whnf)
      refine ⟨_, cel 4 k 1 h rfl hH.b1, ?_⟩
      (conv => whnf)
      refine ⟨_, h.cell 0 (i := 0) rfl rfl, ?_⟩
      (conv => whnf)
      refine ⟨_, h.cell 0 (i := 1) rfl rfl, ?_⟩
      (conv => whnf)
      refine ⟨_, h.cell 0 (i := 2) rfl rfl, ?_⟩
      (conv => whnf)
      refine ⟨_, h.cell 0 (i := 3) rfl rfl, ?_⟩
      (conv => whnf)
      refine ⟨_, h.cell 0 (i := 4) rfl rfl, ?_⟩
      (conv => whnf)
      refine ⟨_, h.cell 0 (i := 5) rfl rfl, ?_⟩
      (conv => whnf)
      refine ⟨_, h.cell 0 (i := 6) rfl rfl, ?_⟩
      (conv => whnf)
      replace h := h.drop 0
      refine FCalls.mono (h.calln 4 fun m1 h1 => over_c hN hH.len hk hH.p1 hH.r1 ht hlv h1) ?_
      rintro v m10 ⟨m11, ⟨rfl, l2, N2, hN2, h1⟩, hB⟩
      replace h := hB.sep h1
      clear hB h1
      (conv => whnf)
      exact ⟨rfl, cs, ⟨s.p, s.r, s.b, s.room, l2⟩, t, N2, hN2, ⟨hH.len, hH.p1, hH.p2, hH.r1, hH.r2, hH.b1, hH.b2⟩, h⟩
    · clear c1 c2
      (conv => whnf)
      refine brk_intro (fun c1 => ?_) (fun c1 => ?_)
      · -- Same
        clear c1
        (conv => whnf)
        refine ⟨Int.natCast_nonneg _, by omega, ?_⟩
        (conv => whnf)
        refine ⟨_, cel 2 k 1 h rfl hH.r1, ?_⟩
        (conv => whnf)
        rw [hk1]
        refine ⟨Int.natCast_nonneg _, by omega, ?_⟩
        (conv => whnf)
        refine ⟨_, cel 2 (1 - k) 1 h rfl hH.r2, ?_⟩
        (conv => whnf)
        refine ⟨_, rsame_c (rf_at h 3 rfl) (rf_at h 6 rfl) (by omega) (by omega), ?_⟩
        (conv => whnf)
        refine ⟨Int.natCast_nonneg _, by omega, ?_⟩
        (conv => whnf)
        refine ⟨_, cel 0 k 1 h rfl p1, ?_⟩
        (conv => whnf)
        rw [hk1]
        refine ⟨Int.natCast_nonneg _, by omega, ?_⟩
        (conv => whnf)
        refine ⟨_, cel 0 (1 - k) 1 h rfl p2, ?_⟩
        (conv => whnf)
        refine ⟨_, same_s (mk_at h 2 rfl) (mk_at h 5 rfl), ?_⟩
        (conv => whnf)
        refine brk_true (by simp) ?_
        (conv => whnf)
        refine ⟨Int.natCast_nonneg _, by omega, ?_⟩
        (conv => whnf)
        refine ⟨_, cel 0 k 1 h rfl p1, ?_⟩
        (conv => whnf)
        refine ⟨Int.natCast_nonneg _, by omega, ?_⟩
        (conv => whnf)
        refine ⟨_, cel 0 k 1 h rfl p1, ?_⟩
        (conv => whnf)
        refine ⟨_, same_s (mk_at h 2 rfl) (mk_at h 2 rfl), ?_⟩
        (conv => whnf)
        exact ⟨by rw [subB_refl]; simp; rfl, cs, s, t, N, by omega, hH, h.drop 0⟩
      · clear c1
        (conv => whnf)
        refine brk_intro (fun c1 => ?_) (fun c1 => ?_)
        · -- Copy
          clear c1
          (conv => whnf)
          refine ⟨Int.natCast_nonneg _, by omega, ?_⟩
          (conv => whnf)
          refine ⟨_, cel 0 k 1 h rfl p1, ?_⟩
          (conv => whnf)
          refine FCalls.mono (copy_s (mk_at h 2 rfl)) ?_
          rintro v m9 ⟨q, rfl, hS⟩
          replace h := h.on (N := [_]) hS
          clear hS
          (conv => whnf)
          rw [hk1]
          refine ⟨Int.natCast_nonneg _, by omega, ?_⟩
          (conv => whnf)
          have hl6 := hH.len
          have ad : ∀ a n : Nat, ((⟨w, 0, none⟩ : Addr).add a).add (n * 1) = ⟨w, a + n, none⟩ := fun a n => by rw [add_mk, add_mk, Nat.zero_add, Nat.mul_one]
          replace h : Sep [wo w cs N, mk q s.room s.l, pt b3 (stepL kind on nn leave turn inn mm), mk s.p s.room s.l, rf s.r s.room s.l, pt s.b [.pointer (some ⟨s.p, 0, none⟩)], mk t.p t.room t.l, rf t.r t.room t.l, pt t.b [.pointer (some ⟨t.p, 0, none⟩)]] m9 := h.move 2 rfl
          have g1 : (∃ u, m9.cell (((⟨w, 0, none⟩ : Addr).add 0).add ((1 - k) * 1)) = some u) ∧ m9.fz (((⟨w, 0, none⟩ : Addr).add 0).add ((1 - k) * 1)) = false := by
            rw [ad]
            exact wo_room h (by omega)
          refine ⟨g1, fun m10 he => ?_⟩
          replace he : m10 = m9.setCell (((⟨w, 0, none⟩ : Addr).add 0).add ((1 - k) * 1)) (.pointer (some ⟨q, 0, none⟩)) := he
          rw [ad, Nat.zero_add] at he
          replace h := wo_put h (by omega) he
          clear he g1
          have e2 : (cs.set (1 - k) (.pointer (some ⟨q, 0, none⟩)))[2 + k]? = some (.pointer (some ⟨s.r, 0, none⟩)) := by
            rw [List.getElem?_set_ne (by omega)]
            exact hH.r1
          (conv => whnf)
          refine ⟨Int.natCast_nonneg _, by omega, ?_⟩
          (conv => whnf)
          refine ⟨_, cel 2 k 0 h rfl e2, ?_⟩
          (conv => whnf)
          refine FCalls.mono (rcopy_c (rf_at h 4 rfl) (by omega)) ?_
          rintro v m11 ⟨q2, rfl, hS⟩
          replace h := h.on (N := [_]) hS
          clear hS
          replace h : Sep [wo w (cs.set (1 - k) (.pointer (some ⟨q, 0, none⟩))) N, rf q2 s.room s.l, mk q s.room s.l, pt b3 (stepL kind on nn leave turn inn mm), mk s.p s.room s.l, rf s.r s.room s.l, pt s.b [.pointer (some ⟨s.p, 0, none⟩)], mk t.p t.room t.l, rf t.r t.room t.l, pt t.b [.pointer (some ⟨t.p, 0, none⟩)]] m11 := h.move 1 rfl
          (conv => whnf)
          rw [hk1]
          refine ⟨Int.natCast_nonneg _, by omega, ?_⟩
          (conv => whnf)
          have g1 : (∃ u, m11.cell (((⟨w, 0, none⟩ : Addr).add 2).add ((1 - k) * 1)) = some u) ∧ m11.fz (((⟨w, 0, none⟩ : Addr).add 2).add ((1 - k) * 1)) = false := by
            rw [ad]
            exact wo_room h (by rw [List.length_set]; omega)
          refine ⟨g1, fun m12 he => ?_⟩
          replace he : m12 = m11.setCell (((⟨w, 0, none⟩ : Addr).add 2).add ((1 - k) * 1)) (.pointer (some ⟨q2, 0, none⟩)) := he
          rw [ad] at he
          replace h := wo_put h (by rw [List.length_set]; omega) he
          clear he g1
          (conv => whnf)
          refine FCalls.mono all_s ?_
          rintro v m13 ⟨b9, rfl, hS⟩
          replace h := h.on (N := [_]) hS
          clear hS
          replace h : Sep [wo w ((cs.set (1 - k) (.pointer (some ⟨q, 0, none⟩))).set (2 + (1 - k)) (.pointer (some ⟨q2, 0, none⟩))) N, pt b9 [.pointer (some ⟨q, 0, none⟩)], rf q2 s.room s.l, mk q s.room s.l, pt b3 (stepL kind on nn leave turn inn mm), mk s.p s.room s.l, rf s.r s.room s.l, pt s.b [.pointer (some ⟨s.p, 0, none⟩)], mk t.p t.room t.l, rf t.r t.room t.l, pt t.b [.pointer (some ⟨t.p, 0, none⟩)]] m13 := h.move 1 rfl
          (conv => whnf)
          rw [hk1]
          refine ⟨Int.natCast_nonneg _, by omega, ?_⟩
          (conv => whnf)
          have g1 : (∃ u, m13.cell (((⟨w, 0, none⟩ : Addr).add 4).add ((1 - k) * 1)) = some u) ∧ m13.fz (((⟨w, 0, none⟩ : Addr).add 4).add ((1 - k) * 1)) = false := by
            rw [ad]
            exact wo_room h (by rw [List.length_set, List.length_set]; omega)
          refine ⟨g1, fun m14 he => ?_⟩
          replace he : m14 = m13.setCell (((⟨w, 0, none⟩ : Addr).add 4).add ((1 - k) * 1)) (allF b9) := he
          rw [ad] at he
          replace h := wo_put h (by rw [List.length_set, List.length_set]; omega) he
          clear he g1
          have hH2 : Hdr k _ s ⟨q, q2, b9, s.room, s.l⟩ := hH.copy (p := q) (r := q2) (b := b9) (room := s.room) (l := s.l) hk
          obtain ⟨A, cA, hrf⟩ := rf_at h 6 rfl
          have d0 := hrf.cell 0 (i := 0) rfl rfl
          have d1 := hrf.cell 0 (i := 1) rfl rfl
          (conv => whnf)
          refine ⟨_, room_s (mk_at h 3 rfl), ?_⟩
          (conv => whnf)
          refine ⟨Int.natCast_nonneg _, by omega, ?_⟩
          (conv => whnf)
          refine ⟨_, cel 2 k 0 h rfl hH2.r1, ?_⟩
          (conv => whnf)
          refine ⟨_, d0, ?_⟩
          (conv => whnf)
          refine brk_true (by simp) ?_
          (conv => whnf)
          refine ⟨_, len_s (mk_at h 3 rfl), ?_⟩
          (conv => whnf)
          refine ⟨Int.natCast_nonneg _, by omega, ?_⟩
          (conv => whnf)
          refine ⟨_, cel 2 k 0 h rfl hH2.r1, ?_⟩
          (conv => whnf)
          refine ⟨_, _, _, d1, ?_⟩
          (conv => whnf)
          refine ⟨by first | rfl | (simp; rfl), _, s, ⟨q, q2, b9, s.room, s.l⟩, N, by omega, hH2, ?_⟩
          have h9 := (((h.drop 10).drop 9).drop 8).drop 4
          have h8 := ((h9.move 1 rfl).move 2 rfl).move 3 rfl
          exact (((h8.move 6 rfl).move 6 rfl).move 6 rfl).move 6 rfl
        · (conv => whnf)
          refine ⟨_, h.cell 0 (i := 0) rfl rfl, ?_⟩
          (conv => whnf)
          refine ⟨_, h.cell 0 (i := 2) rfl rfl, ?_⟩
          (conv => whnf)
          replace h := h.drop 0
          refine FCalls.mono (h.calln 3 fun m1 h1 => does_c h1 hH.len hN hk hH.p1 hH.r1) ?_
          rintro v m10 ⟨m11, ⟨rfl, l2, N2, hN2, h1⟩, hB⟩
          replace h := hB.sep h1
          clear hB h1
          (conv => whnf)
          exact ⟨rfl, cs, ⟨s.p, s.r, s.b, s.room, l2⟩, t, N2, hN2, ⟨hH.len, hH.p1, hH.p2, hH.r1, hH.r2, hH.b1, hH.b2⟩, h⟩
end Go.Proofs.Ytlahdleaidhclaa
