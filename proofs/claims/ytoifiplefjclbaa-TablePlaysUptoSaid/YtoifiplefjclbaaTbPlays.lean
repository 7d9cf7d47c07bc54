/- TablePlays. -/
import Derived.Test.YtoifiplefjclbaaTbSt
namespace Go.Proofs.Ytoifiplefjclbaa
open Go Go.Mv
set_option maxHeartbeats 4000000
set_option maxRecDepth 10000
set_option linter.unusedVariables false
set_option linter.unusedSimpArgs false
attribute [local irreducible] FCalls IntKind.wrap bits Mem.set Mem.setCell Mem.setCells YCalls RunP NextP
/-- One table, the document's, its iterator's box. -/
structure Sd where
  p : Nat
  r : Nat
  b : Nat
structure Hdr (cs : List Value) (s t : Sd) : Prop where
  len : cs.length = 6
  p1 : cs[0]? = some (.pointer (some ⟨s.p, 0, none⟩))
  p2 : cs[1]? = some (.pointer (some ⟨t.p, 0, none⟩))
  r1 : cs[2]? = some (.pointer (some ⟨s.r, 0, none⟩))
  r2 : cs[3]? = some (.pointer (some ⟨t.r, 0, none⟩))
  b1 : cs[4]? = some (allF s.b)
  b2 : cs[5]? = some (allF t.b)
abbrev bx (b p : Nat) : Asn := pt b [.pointer (some ⟨p, 0, none⟩)]
def wld (w N : Nat) : Asn := fun m => ∃ cs s t, Hdr cs s t ∧ Sep [wo w cs N, tw Mem.empty s.p s.r, bx s.b s.p, tw Mem.empty t.p t.r, bx t.b t.p] m
theorem wo_put {m m2 : Mem} {w N j : Nat} {cs : List Value} {R : List Asn} {v : Value} (h : Sep (wo w cs N :: R) m) (hj : j < cs.length) (he : m2 = m.setCell ⟨w, j, none⟩ v) : Sep (wo w (cs.set j v) N :: R) m2 := by
  rw [he, ← setCells_one]
  refine h.puts 0 rfl (fun m1 _ hA => ?_) fun m1 _ hA => ?_
  · obtain ⟨O, cO, os, h1, h2, h3⟩ := hA
    obtain ⟨e, h4⟩ := h3.blk 0 rfl
    rw [h4]
    simp
  · obtain ⟨O, cO, os, h1, h2, h3⟩ := hA
    rw [setCells_one]
    refine ⟨O, cO, os, h1, h2, ?_⟩
    have h4 := h3.put (i := j) 0 v rfl
    rw [List.set_append_left _ _ hj] at h4
    exact h4
theorem wo_room {m : Mem} {w N j : Nat} {cs : List Value} {R : List Asn} (h : Sep (wo w cs N :: R) m) (hj : j < cs.length) : (∃ u, m.cell ⟨w, j, none⟩ = some u) ∧ m.fz ⟨w, j, none⟩ = false := by
  obtain ⟨m1, m2, k1, k2, k3, ⟨O, cO, os, h1, h2, h3⟩, k5⟩ := h
  have h4 := (h3.more k2).room 0 (i := j) (v := cs[j]) rfl (by rw [List.getElem?_append_left hj]; simp)
  exact h4
structure StpOk (m0 : Mem) (s : Stp) : Prop where
  on : In64 s.on
  turn : In64 s.turn
  leave : In64 s.leave
  A : Ints m0 s.A s.k
  k : s.k.length < 2 ^ 40
  A2 : Ints m0 s.A2 s.k2
  k2 : s.k2.length < 2 ^ 40
theorem StpOk.up {m m' : Mem} {s : Stp} (h : StpOk m s) (hm : m.le m') : StpOk m' s := ⟨h.on, h.turn, h.leave, h.A.up hm, h.k, h.A2.up hm, h.k2⟩
theorem step_c {m m0 : Mem} {w N : Nat} {s : Stp} (hN : N < 2 ^ 38) (hs : StpOk m0 s) (h : Sep [wld w N, kp m0] m) :
    FCalls Try.prog 23 [.pointer (some ⟨w, 0, none⟩), .agg s.cells.toArray] m fun v m' => v = .bool true ∧ ∃ N', N' ≤ N + 2000000 ∧ Sep [wld w N', kp m0] m' := by
  obtain ⟨h1, h2, h3, h4, h5, h6, h7⟩ := hs
  obtain ⟨m1, m2, k1, k2, k3, ⟨cs, a, b, hH, g⟩, k5⟩ := h
  have h : Sep [wo w cs N, tw Mem.empty a.p a.r, bx a.b a.p, tw Mem.empty b.p b.r, bx b.b b.p, kp m0] m := Sep.split (L := [_, _, _, _, _]) ⟨m1, m2, k1, k2, k3, g, k5⟩
  have fin : ∀ {M N}, Sep [wo w cs N, tw Mem.empty a.p a.r, bx a.b a.p, tw Mem.empty b.p b.r, bx b.b b.p, kp m0] M → Sep [wld w N, kp m0] M := fun {M N} h => (Sep.group (L := [_, _, _, _, _]) h).turn 0 rfl fun m1 _ g => ⟨cs, a, b, hH, g⟩
  have hp := pkI_lt (k := s.on) (n := 2) (by omega)
  by_cases hk : pkI s.on 2 = 0
  · have h9 : Sep [wo w cs N, tw Mem.empty a.p a.r, kp m0, bx a.b a.p, tw Mem.empty b.p b.r, bx b.b b.p] m := (h.move 5 rfl).back (j := 2) (by exact (by decide : 2 ≤ 5))
    refine (step_gen (k := 0) hN hH.len (by omega) hk hH.p1 hH.r1 hH.b1 h1 h2 h3 h4 h5 h6 h7 h9).mono ?_
    rintro v m' ⟨e1, N', e2, g⟩
    exact ⟨e1, N', e2, fin ((g.move 2 rfl).back (j := 5) (by exact (by decide : 5 ≤ 5)))⟩
  · have h9 : Sep [wo w cs N, tw Mem.empty b.p b.r, kp m0, bx b.b b.p, tw Mem.empty a.p a.r, bx a.b a.p] m := (((h.move 4 rfl).move 5 rfl).move 5 rfl).move 3 rfl
    refine (step_gen (k := 1) hN hH.len (by omega) (by omega) hH.p2 hH.r2 hH.b2 h1 h2 h3 h4 h5 h6 h7 h9).mono ?_
    rintro v m' ⟨e1, N', e2, g⟩
    have g1 := (g.move 2 rfl).back (j := 5) (by exact (by decide : 5 ≤ 5))
    exact ⟨e1, N', e2, fin (((g1.move 4 rfl).move 4 rfl).move 2 rfl)⟩
theorem wld_kept {w N : Nat} {m : Mem} {R : List Asn} (h : Sep (wld w N :: R) m) (hN : N < 2 ^ 40) : FCalls Try.prog 24 [.pointer (some ⟨w, 0, none⟩)] m fun v m' => v = .bool true ∧ m' = m := by
  obtain ⟨m1, h1, cs, s, t, hH, h⟩ := h.get 0 rfl
  obtain ⟨m2, h2, h3⟩ := h.get 0 rfl
  exact kept_c (wo_more h3 (Mem.le_trans h2 h1)) hH.len hN
/-- The tables that are made. -/
def Made (m : Mem) (k : Nat) (cs : List Value) (R : List Asn) : Prop :=
  (k = 0 → R = [kp m]) ∧
  (k = 1 → ∃ s : Sd, R = [bx s.b s.p, tw Mem.empty s.p s.r, kp m] ∧ cs[0]? = some (.pointer (some ⟨s.p, 0, none⟩)) ∧ cs[2]? = some (.pointer (some ⟨s.r, 0, none⟩)) ∧ cs[4]? = some (allF s.b)) ∧
  (k = 2 → ∃ s t : Sd, Hdr cs s t ∧ R = [bx t.b t.p, tw Mem.empty t.p t.r, bx s.b s.p, tw Mem.empty s.p s.r, kp m])
theorem made_next {m : Mem} {k : Nat} {cs : List Value} {R : List Asn} (h : Made m k cs R) (hk : k < 2) (hc : cs.length = 6) (p r b : Nat) :
    Made m (k + 1) (((cs.set k (.pointer (some ⟨p, 0, none⟩))).set (2 + k) (.pointer (some ⟨r, 0, none⟩))).set (4 + k) (allF b)) (bx b p :: tw Mem.empty p r :: R) := by
  obtain ⟨h0, h1, _⟩ := h
  match cs, hc with
  | [a, b1, c, d, e, f], _ =>
    have hk2 : k = 0 ∨ k = 1 := by omega
    rcases hk2 with rfl | rfl
    · refine ⟨fun h => by omega, fun _ => ?_, fun h => by omega⟩
      rw [h0 rfl]
      exact ⟨⟨p, r, b⟩, rfl, rfl, rfl, rfl⟩
    · refine ⟨fun h => by omega, fun h => by omega, fun _ => ?_⟩
      obtain ⟨s, hR, g1, g2, g3⟩ := h1 rfl
      rw [hR]
      exact ⟨s, ⟨p, r, b⟩, ⟨rfl, g1, rfl, g2, rfl, g3, rfl⟩, rfl⟩
theorem stp_len (s : Stp) : s.cells.length = 8 := rfl
/-- A new table and the document's. -/
theorem tw_new {m : Mem} {p r : Nat} {wd n : Int} {R : List Asn} (h : Sep (pt r [.int .i64 wd, .int .i64 n, .slice none 0 0, .int .i64 0] :: tb Mem.empty p ⟨wd, n, fun _ => none, 0, 0⟩ :: R) m) (hn : 0 ≤ n) : Sep (tw Mem.empty p r :: R) m := by
  have h1 := Sep.free (A := sl none 0 0 2 []) h sl_nil
  have h2 : Sep (pt r [.int .i64 wd, .int .i64 n, .slice none 0 0, .int .i64 0] :: sl none 0 0 2 [] :: tb Mem.empty p ⟨wd, n, fun _ => none, 0, 0⟩ :: R) m := h1.move 1 rfl
  have h3 : Sep (rt Mem.empty r wd n 0 [] :: tb Mem.empty p ⟨wd, n, fun _ => none, 0, 0⟩ :: R) m := (Sep.group (L := [_, _]) h2).turn 0 rfl fun m1 _ g => ⟨⟨none, 0, g⟩, fun e he => by cases he⟩
  have h4 : Sep (kp Mem.empty :: rt Mem.empty r wd n 0 [] :: tb Mem.empty p ⟨wd, n, fun _ => none, 0, 0⟩ :: R) m := Sep.free h3 (Mem.le_refl _)
  refine tw_shut (a := ⟨wd, n, fun _ => none, 0, 0⟩) (h4.move 2 rfl) (Mem.le_refl _) ⟨⟨List.Pairwise.nil, fun k v => ⟨fun h => (by cases h), fun h => by cases h⟩⟩, rfl, Nat.le_refl _, by simpa using hn, by simp⟩
theorem tablePlays_c {m : Mem} {A : Option Addr} {zs : List Stp} {c : Nat} {one two most more : Int} (h1 : In64 one) (h2 : In64 two) (h3 : In64 most) (h4 : In64 more) (hA : Rd m A (zs.flatMap Stp.cells)) (hz : ∀ z, z ∈ zs → StpOk m z) :
    FCalls Try.prog 9 [.int .i64 one, .int .i64 two, .int .i64 most, .int .i64 more, .slice A zs.length c] m fun v m' => v = .bool true ∧ m.le m' := by
  refine fcalls_of_vc (T := tbl) (B := bodies) (pr := [99999]) (DR := (100009, 0) :: dr9) (args := [.v (.int .i64 one), .v (.int .i64 two), .v (.int .i64 most), .v (.int .i64 more), .v (.slice A zs.length c)]) tbl_ok bodies_ok mixed Try.func9 rfl (by decide +kernel) (by simp [Try.f9]) rfl ?_
  (conv => whnf)
  refine FCalls.mono known_k ?_
  rintro v m' ⟨rfl, hle⟩
  replace hA := hA.more hle
  (conv => whnf)
  intro w m2 hb he
  have h := (Sep.init m').new' (l := [.pointer none, .pointer none, .pointer none, .pointer none, .nilFunc, .nilFunc] ++ [.slice none 0 0]) hb (he.trans rfl)
  clear hb he
  (conv => whnf)
  replace h := (h.turn 0 (B := wo w [.pointer none, .pointer none, .pointer none, .pointer none, .nilFunc, .nilFunc] 0) rfl fun m1 _ hA => by
    have e1 : Sep [pt w ([.pointer none, .pointer none, .pointer none, .pointer none, .nilFunc, .nilFunc] ++ [.slice none 0 0])] m1 := ⟨m1, Mem.empty, fun _ => .inr rfl, Mem.le_refl _, fun _ _ h => (by cases h), hA, trivial⟩
    exact ⟨none, 0, [], rfl, by simp, (Sep.free (A := sl none 0 0 1 []) (Sep.free (A := Sep []) e1 trivial) sl_nil).move 2 rfl⟩)
  replace h : Sep (wo w [.pointer none, .pointer none, .pointer none, .pointer none, .nilFunc, .nilFunc] 0 :: [kp m']) m2 := h
  have ad : ∀ a n : Nat, ((⟨w, 0, none⟩ : Addr).add a).add (n * 1) = ⟨w, a + n, none⟩ := fun a n => by rw [add_mk, add_mk, Nat.zero_add, Nat.mul_one]
  (conv => whnf)
  refine loop_keep [0, 1, 2, 3, 4, 11, 12] (Nat × Mem) (fun s => [(13, .v (.int .i64 ((s.1 : Nat) : Int)))]) (fun _ => []) (fun s => s.2) (fun s => s.1 ≤ 2 ∧ ∃ cs R, cs.length = 6 ∧ Made m' s.1 cs R ∧ Sep (wo w cs 0 :: R) s.2) (fun s => 2 - s.1)
    (0, m2) ⟨rfl, trivial⟩ rfl rfl ⟨by simp, _, _, rfl, ⟨fun _ => rfl, fun h => absurd (show (0 : Nat) = 1 from h) (by decide), fun h => absurd (show (0 : Nat) = 2 from h) (by decide)⟩, h⟩ ?_
  clear h
  (conv => whnf)
  refine ⟨rfl, ?_⟩
  rintro ⟨k, M⟩ ⟨hk, cs, R, hc, hM, h⟩
  simp only at hk hM h
  (conv => whnf)
  refine brk_intro (fun c1 => ?_) (fun c1 => ?_)
  · have c1 : (k : Int) < 2 := by simpa using c1
    have step1 : IntKind.i64.wrap ((k : Int) + 1) = ((k + 1 : Nat) : Int) := wrap_id (by omega) (by omega)
    have pl1 := pkI_lt (k := one) (n := 129) (by omega)
    have pl2 := pkI_lt (k := two) (n := 129) (by omega)
    have pl3 := pkI_lt (k := most) (n := 1000001) (by omega)
    have pl4 := pkI_lt (k := more) (n := 1000001) (by omega)
    (conv => whnf)
    refine FCalls.mono (pickx_c (n := 129) h1 (by omega)) ?_
    rintro v m3 ⟨rfl, rfl⟩
    (conv => whnf)
    refine FCalls.mono (pickx_c (n := 1000001) h3 (by omega)) ?_
    rintro v m3 ⟨rfl, rfl⟩
    (conv => whnf)
    refine join_keep [0, 1, 2, 3, 4, 11, 12, 13] (Int × Int) (fun s => [(14, .v (.int .i64 s.1)), (15, .v (.int .i64 s.2))]) (fun _ => m3) (fun s => 0 ≤ s.1 ∧ s.1 ≤ 128 ∧ 0 ≤ s.2 ∧ s.2 ≤ 1000000) ?_
    (conv => whnf)
    refine ⟨?_, ?_⟩
    · (conv => whnf)
      refine brk_intro (fun c2 => ?_) (fun c2 => ?_)
      · (conv => whnf)
        refine FCalls.mono (pickx_c (n := 129) h2 (by omega)) ?_
        rintro v m4 ⟨rfl, rfl⟩
        (conv => whnf)
        refine FCalls.mono (pickx_c (n := 1000001) h4 (by omega)) ?_
        rintro v m4 ⟨rfl, rfl⟩
        (conv => whnf)
        exact ⟨(pkI two 129, pkI more 1000001), le_eq ⟨rfl, rfl, rfl, rfl, rfl, rfl, rfl, rfl, rfl, rfl, trivial⟩ rfl rfl rfl, by simp only; omega⟩
      · (conv => whnf)
        exact ⟨(pkI one 129, pkI most 1000001), le_eq ⟨rfl, rfl, rfl, rfl, rfl, rfl, rfl, rfl, rfl, rfl, trivial⟩ rfl rfl rfl, by simp only; omega⟩
    · rintro ⟨wd, n⟩ ⟨q1, q2, q3, q4⟩
      simp only at q1 q2 q3 q4
      (conv => whnf)
      refine FCalls.mono (new_t (K := Mem.empty) h (fun b o hb => by cases hb) q1 q2 q3 q4) ?_
      rintro v m5 ⟨p, rfl, g⟩
      replace h : Sep (wo w cs 0 :: tb Mem.empty p ⟨wd, n, fun _ => none, 0, 0⟩ :: R) m5 := g.move 1 rfl
      clear g
      (conv => whnf)
      refine ⟨Int.natCast_nonneg _, by omega, ?_⟩
      (conv => whnf)
      have g1 : (∃ u, m5.cell (((⟨w, 0, none⟩ : Addr).add 0).add (k * 1)) = some u) ∧ m5.fz (((⟨w, 0, none⟩ : Addr).add 0).add (k * 1)) = false := by
        rw [ad]
        exact wo_room h (by omega)
      refine ⟨g1, fun m10 he => ?_⟩
      replace he : m10 = m5.setCell (((⟨w, 0, none⟩ : Addr).add 0).add (k * 1)) (.pointer (some ⟨p, 0, none⟩)) := he
      rw [ad, Nat.zero_add] at he
      replace h := wo_put h (by omega) he
      clear he g1
      (conv => whnf)
      intro r m11 hb he
      replace h := h.new' (l := [.int .i64 wd, .int .i64 n, .slice none 0 0, .int .i64 0]) hb (he.trans rfl)
      clear hb he
      have g : Sep (pt r [.int .i64 wd, .int .i64 n, .slice none 0 0, .int .i64 0] :: tb Mem.empty p ⟨wd, n, fun _ => none, 0, 0⟩ :: wo w (cs.set k (.pointer (some ⟨p, 0, none⟩))) 0 :: R) m11 := (h.move 2 rfl).move 1 rfl
      replace h : Sep (wo w (cs.set k (.pointer (some ⟨p, 0, none⟩))) 0 :: tw Mem.empty p r :: R) m11 := (tw_new g q3).move 1 rfl
      clear g
      (conv => whnf)
      refine ⟨Int.natCast_nonneg _, by omega, ?_⟩
      (conv => whnf)
      have g1 : (∃ u, m11.cell (((⟨w, 0, none⟩ : Addr).add 2).add (k * 1)) = some u) ∧ m11.fz (((⟨w, 0, none⟩ : Addr).add 2).add (k * 1)) = false := by
        rw [ad]
        exact wo_room h (by rw [List.length_set]; omega)
      refine ⟨g1, fun m12 he => ?_⟩
      replace he : m12 = m11.setCell (((⟨w, 0, none⟩ : Addr).add 2).add (k * 1)) (.pointer (some ⟨r, 0, none⟩)) := he
      rw [ad] at he
      replace h := wo_put h (by rw [List.length_set]; omega) he
      clear he g1
      (conv => whnf)
      refine FCalls.mono all_c ?_
      rintro v m13 ⟨b9, rfl, hS⟩
      replace h := h.on (N := [_]) hS
      clear hS
      replace h : Sep (wo w ((cs.set k (.pointer (some ⟨p, 0, none⟩))).set (2 + k) (.pointer (some ⟨r, 0, none⟩))) 0 :: bx b9 p :: tw Mem.empty p r :: R) m13 := h.move 1 rfl
      (conv => whnf)
      refine ⟨Int.natCast_nonneg _, by omega, ?_⟩
      (conv => whnf)
      have g1 : (∃ u, m13.cell (((⟨w, 0, none⟩ : Addr).add 4).add (k * 1)) = some u) ∧ m13.fz (((⟨w, 0, none⟩ : Addr).add 4).add (k * 1)) = false := by
        rw [ad]
        exact wo_room h (by rw [List.length_set, List.length_set]; omega)
      refine ⟨g1, fun m14 he => ?_⟩
      replace he : m14 = m13.setCell (((⟨w, 0, none⟩ : Addr).add 4).add (k * 1)) (allF b9) := he
      rw [ad] at he
      replace h := wo_put h (by rw [List.length_set, List.length_set]; omega) he
      clear he g1
      (conv => whnf)
      refine ⟨(k + 1, m14), le_eq ⟨by show some (AV.v (.int .i64 (IntKind.i64.wrap ((k : Int) + 1)))) = _; rw [step1], rfl, rfl, rfl, rfl, rfl, rfl, rfl, trivial⟩ rfl rfl rfl, ⟨by simp only; omega, _, _, ?_, made_next hM (by omega) hc p r b9, h⟩, by simp only; omega⟩
      simp only [List.length_set]
      exact hc
  · have c1 : ¬ (k : Int) < 2 := by simpa using c1
    obtain ⟨s, t, hH, rfl⟩ := hM.2.2 (by omega)
    clear hM
    replace h : Sep [wld w 0, kp m'] M := by
      have h9 := ((h.move 1 rfl).move 2 rfl).move 3 rfl
      have h8 : Sep [wo w cs 0, tw Mem.empty s.p s.r, bx s.b s.p, tw Mem.empty t.p t.r, bx t.b t.p, kp m'] M := (h9.move 4 rfl).move 4 rfl
      exact (Sep.group (L := [_, _, _, _, _]) h8).turn 0 rfl fun m1 _ hm => ⟨cs, s, t, hH, hm⟩
    (conv => whnf)
    refine loop_keep [4, 11, 12] (Nat × Nat × Mem) (fun s => [(18, .v (.int .i64 ((s.1 : Nat) : Int)))]) (fun _ => []) (fun s => s.2.2) (fun s => s.1 ≤ zs.length ∧ s.1 ≤ 300 ∧ s.2.1 ≤ 2000000 * s.1 ∧ Sep [wld w s.2.1, kp m'] s.2.2) (fun s => zs.length - s.1)
      (0, 0, M) ⟨rfl, trivial⟩ rfl rfl ⟨Nat.zero_le _, by simp, by simp, h⟩ ?_
    clear h
    (conv => whnf)
    refine ⟨rfl, ?_⟩
    rintro ⟨i, N, M⟩ ⟨hi, hi2, hN, h⟩
    simp only at hi hi2 hN h
    have hfin : m'.le M := h.kept 1 rfl
    (conv => whnf)
    refine brk_intro (fun c2 => ?_) (fun c2 => ?_)
    · have c2 : (i : Int) < (zs.length : Nat) := by simpa using c2
      (conv => whnf)
      refine brk_intro (fun c3 => ?_) (fun c3 => ?_)
      · have c3 : (i : Int) < 300 := by simpa using c3
        have step1 : IntKind.i64.wrap ((i : Int) + 1) = ((i + 1 : Nat) : Int) := wrap_id (by omega) (by omega)
        obtain ⟨z, hx⟩ : ∃ z, zs[i]? = some z := ⟨_, List.getElem?_eq_getElem (by omega)⟩
        have hzz := hz z (List.mem_of_getElem? hx)
        have hRd := hA.more hfin
        obtain ⟨q0, hq0, hc0⟩ := hRd.atf (k := i * 8) (off := 0) ((flat_get stp_len hx (o := 0) (by decide)).trans rfl)
        obtain ⟨q1, hq1, hc1⟩ := hRd.atf (k := i * 8) (off := 1) ((flat_get stp_len hx (o := 1) (by decide)).trans rfl)
        obtain ⟨q2, hq2, hc2⟩ := hRd.atf (k := i * 8) (off := 2) ((flat_get stp_len hx (o := 2) (by decide)).trans rfl)
        obtain ⟨q3, hq3, hc3⟩ := hRd.atf (k := i * 8) (off := 3) ((flat_get stp_len hx (o := 3) (by decide)).trans rfl)
        obtain ⟨q4, hq4, hc4⟩ := hRd.atf (k := i * 8) (off := 4) ((flat_get stp_len hx (o := 4) (by decide)).trans rfl)
        obtain ⟨q5, hq5, hc5⟩ := hRd.atf (k := i * 8) (off := 5) ((flat_get stp_len hx (o := 5) (by decide)).trans rfl)
        obtain ⟨q6, hq6, hc6⟩ := hRd.atf (k := i * 8) (off := 6) ((flat_get stp_len hx (o := 6) (by decide)).trans rfl)
        obtain ⟨q7, hq7, hc7⟩ := hRd.atf (k := i * 8) (off := 7) ((flat_get stp_len hx (o := 7) (by decide)).trans rfl)
        rw [hq0] at hq1
        cases hq1
        rw [hq0] at hq2
        cases hq2
        rw [hq0] at hq3
        cases hq3
        rw [hq0] at hq4
        cases hq4
        rw [hq0] at hq5
        cases hq5
        rw [hq0] at hq6
        cases hq6
        rw [hq0] at hq7
        cases hq7
        (conv => whnf)
        refine ⟨_, hq0, by omega, c2, ?_⟩
        (conv => whnf)
        refine ⟨_, hc0, ?_⟩
        (conv => whnf)
        refine ⟨_, hc1, ?_⟩
        (conv => whnf)
        refine ⟨_, hc2, ?_⟩
        (conv => whnf)
        refine ⟨_, hc3, ?_⟩
        (conv => whnf)
        refine ⟨_, _, _, hc4, ?_⟩
        (conv => whnf)
        refine ⟨_, hc5, ?_⟩
        (conv => whnf)
        refine ⟨_, hc6, ?_⟩
        (conv => whnf)
        refine ⟨_, _, _, hc7, ?_⟩
        (conv => whnf)
        refine FCalls.mono (step_c (s := z) (by omega) (hzz.up hle) h) ?_
        rintro v m5 ⟨rfl, N2, hN2, h⟩
        (conv => whnf)
        refine FCalls.mono (wld_kept h (by omega)) ?_
        rintro v m7 ⟨rfl, rfl⟩
        (conv => whnf)
        exact ⟨(i + 1, N2, m7), le_eq ⟨by show some (AV.v (.int .i64 (IntKind.i64.wrap ((i : Int) + 1)))) = _; rw [step1], rfl, rfl, rfl, trivial⟩ rfl rfl rfl, ⟨by simp only; omega, by simp only; omega, by simp only; omega, h⟩, by simp only; omega⟩
      · (conv => whnf)
        exact ⟨rfl, Mem.le_trans hle hfin⟩
    · (conv => whnf)
      exact ⟨rfl, Mem.le_trans hle hfin⟩
theorem rd_ints {m : Mem} {A : Option Addr} {zs : List Int} (h : Rd m A (zs.flatMap fun n : Int => [Value.int .i64 n])) : Ints m A zs := by
  have e : (zs.flatMap fun n : Int => [Value.int .i64 n]) = ints zs := by
    clear h
    induction zs with
    | nil => rfl
    | cons z r ih => rw [List.flatMap_cons, ih]; rfl
  rw [e] at h
  cases zs with
  | nil => exact .inl rfl
  | cons z r =>
    rcases h with h | ⟨⟨b, i, sp⟩, rfl, h⟩
    · cases h
    · cases sp with
      | some q =>
        have h0 := h 0 _ rfl
        unfold Mem.cell at h0
        split at h0
        · rw [if_pos (show (Addr.add ⟨b, i, some q⟩ 0).spot.isSome = true from rfl)] at h0
          cases h0
        · cases h0
      | none =>
        refine .inr ⟨b, i, rfl, fun k x hk => ?_⟩
        have := h k _ (ints_get hk)
        rw [add_mk] at this
        exact this
abbrev KeyT := Option Addr × Nat × Nat × List Int
abbrev StpT := Int × Int × Int × Int × KeyT × Int × Int × KeyT × Unit
def tpStp (y : StpT) : Stp := ⟨y.1, y.2.1, y.2.2.1, y.2.2.2.1, y.2.2.2.2.1.1, y.2.2.2.2.1.2.2.2, y.2.2.2.2.1.2.2.1, y.2.2.2.2.2.1, y.2.2.2.2.2.2.1, y.2.2.2.2.2.2.2.1.1, y.2.2.2.2.2.2.2.1.2.2.2, y.2.2.2.2.2.2.2.1.2.2.1⟩
def tpF (y : StpT) : List Value := [.int .i64 y.1, .int .i64 y.2.1, .int .i64 y.2.2.1, .int .i64 y.2.2.2.1, .slice y.2.2.2.2.1.1 y.2.2.2.2.1.2.1 y.2.2.2.2.1.2.2.1, .int .i64 y.2.2.2.2.2.1, .int .i64 y.2.2.2.2.2.2.1, .slice y.2.2.2.2.2.2.2.1.1 y.2.2.2.2.2.2.2.1.2.1 y.2.2.2.2.2.2.2.1.2.2.1]
theorem tp_flat : ∀ l : List StpT, (∀ y, y ∈ l → y.2.2.2.2.1.2.2.2.length = y.2.2.2.2.1.2.1 ∧ y.2.2.2.2.2.2.2.1.2.2.2.length = y.2.2.2.2.2.2.2.1.2.1) → (l.map tpStp).flatMap Stp.cells = l.flatMap tpF
  | [], _ => rfl
  | y :: r, h => by
    obtain ⟨h1, h2⟩ := h y (by simp)
    rw [List.map_cons, List.flatMap_cons, List.flatMap_cons, tp_flat r fun z hz => h z (by simp [hz])]
    congr 1
    unfold Stp.cells tpF tpStp
    simp only
    rw [h1, h2]
end Go.Proofs.Ytoifiplefjclbaa
