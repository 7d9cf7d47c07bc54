/- MarksPlays. -/
import Derived.Test.YtlahdleaidhclaaMkSt
namespace Go.Proofs.Ytlahdleaidhclaa
open Go Go.Mv
set_option maxHeartbeats 4000000
set_option maxRecDepth 10000
set_option linter.unusedVariables false
set_option linter.unusedSimpArgs false
attribute [local irreducible] FCalls IntKind.wrap bits Mem.set Mem.setCell Mem.setCells YCalls
/-- A world at w, with N lists that came out. -/
def wld (w N : Nat) : Asn := fun m => ∃ cs s t, Hdr 0 cs s t ∧ Sep [wo w cs N, mk s.p s.room s.l, rf s.r s.room s.l, pt s.b [.pointer (some ⟨s.p, 0, none⟩)], mk t.p t.room t.l, rf t.r t.room t.l, pt t.b [.pointer (some ⟨t.p, 0, none⟩)]] m
theorem step_c {w N : Nat} {kind on nn leave turn inn mm : Int} {m : Mem} (h : wld w N m)
    (hN : N + 2 ≤ 1000) (ho : -9223372036854775808 ≤ on ∧ on ≤ 9223372036854775807)
    (ht : -9223372036854775808 ≤ turn ∧ turn ≤ 9223372036854775807) (hlv : -9223372036854775808 ≤ leave ∧ leave ≤ 9223372036854775807) :
    FCalls Try.prog 24 [.pointer (some ⟨w, 0, none⟩), .agg (stepL kind on nn leave turn inn mm).toArray] m fun v m' => v = .bool true ∧ ∃ N', N' ≤ N + 2 ∧ wld w N' m' := by
  obtain ⟨cs, s, t, hH, h⟩ := h
  have hp := pickI_in (c := on) (n := 2) (by omega)
  by_cases hk : pickI on 2 = 0
  · refine (step_gen (k := 0) (by omega) hk hN hH ho ht hlv h).mono ?_
    rintro v m' ⟨h1, cs', s', t', N', h2, h3, h4⟩
    exact ⟨h1, N', h2, cs', s', t', h3, h4⟩
  · have h9 := ((h.move 6 rfl).move 6 rfl).move 6 rfl
    refine (step_gen (k := 1) (by omega) (by omega) hN (hH.flip (by omega)) ho ht hlv (h9.move 3 rfl)).mono ?_
    rintro v m' ⟨h1, cs', s', t', N', h2, h3, h4⟩
    have h8 := ((h4.move 6 rfl).move 6 rfl).move 6 rfl
    exact ⟨h1, N', h2, cs', t', s', h3.flip (by omega), h8.move 3 rfl⟩
theorem wld_kept {w N : Nat} {m : Mem} (h : wld w N m) (hN : N ≤ 1000) : FCalls Try.prog 25 [.pointer (some ⟨w, 0, none⟩)] m fun v m' => v = .bool true ∧ m' = m := by
  obtain ⟨cs, s, t, hH, h⟩ := h
  obtain ⟨m1, h1, h2⟩ := h.get 0 rfl
  exact kept_c (wo_more h2 h1) hH.len hN
abbrev StepT := Int × Int × Int × Int × Int × Int × Int × Unit
def stp (y : StepT) : List Value := stepL y.1 y.2.1 y.2.2.1 y.2.2.2.1 y.2.2.2.2.1 y.2.2.2.2.2.1 y.2.2.2.2.2.2.1
theorem stp_len (y : StepT) : (stp y).length = 7 := rfl
def In64 (x : Int) : Prop := -9223372036854775808 ≤ x ∧ x ≤ 9223372036854775807
/-- The sets that are made. -/
def Made (m : Mem) (k : Nat) (cs : List Value) (R : List Asn) : Prop :=
  (k = 0 → R = [kp m]) ∧
  (k = 1 → ∃ s : Sd, R = [pt s.b [.pointer (some ⟨s.p, 0, none⟩)], rf s.r s.room s.l, mk s.p s.room s.l, kp m] ∧ cs[0]? = some (.pointer (some ⟨s.p, 0, none⟩)) ∧ cs[2]? = some (.pointer (some ⟨s.r, 0, none⟩)) ∧ cs[4]? = some (allF s.b)) ∧
  (k = 2 → ∃ s t : Sd, Hdr 0 cs s t ∧ R = [pt t.b [.pointer (some ⟨t.p, 0, none⟩)], rf t.r t.room t.l, mk t.p t.room t.l, pt s.b [.pointer (some ⟨s.p, 0, none⟩)], rf s.r s.room s.l, mk s.p s.room s.l, kp m])
theorem made_next {m : Mem} {k : Nat} {cs : List Value} {R : List Asn} (h : Made m k cs R) (hk : k < 2) (hc : cs.length = 6) (p r b room : Nat) :
    Made m (k + 1) (((cs.set k (.pointer (some ⟨p, 0, none⟩))).set (2 + k) (.pointer (some ⟨r, 0, none⟩))).set (4 + k) (allF b)) (pt b [.pointer (some ⟨p, 0, none⟩)] :: rf r room [] :: mk p room [] :: R) := by
  obtain ⟨h0, h1, _⟩ := h
  match cs, hc with
  | [a, b1, c, d, e, f], _ =>
    have hk2 : k = 0 ∨ k = 1 := by omega
    rcases hk2 with rfl | rfl
    · refine ⟨fun h => by omega, fun _ => ?_, fun h => by omega⟩
      rw [h0 rfl]
      exact ⟨⟨p, r, b, room, []⟩, rfl, rfl, rfl, rfl⟩
    · refine ⟨fun h => by omega, fun h => by omega, fun _ => ?_⟩
      obtain ⟨s, hR, g1, g2, g3⟩ := h1 rfl
      rw [hR]
      exact ⟨s, ⟨p, r, b, room, []⟩, ⟨rfl, g1, rfl, g2, rfl, g3, rfl⟩, rfl⟩
theorem marksPlays_c {m : Mem} {A : Option Addr} {zs : List StepT} {c : Nat} {one two : Int} (ho : In64 one) (ht : In64 two) (hA : Rd m A (zs.flatMap stp)) (hz : ∀ z, z ∈ zs → In64 z.2.1 ∧ In64 z.2.2.2.1 ∧ In64 z.2.2.2.2.1) :
    FCalls Try.prog 8 [.int .i64 one, .int .i64 two, .slice A zs.length c] m fun v m' => v = .bool true ∧ m.le m' := by
  refine fcalls_of_vc (T := tbl) (B := bodies) (pr := [99999]) (DR := dr8) (args := [.v (.int .i64 one), .v (.int .i64 two), .v (.slice A zs.length c)]) tbl_ok bodies_ok mixed Try.func8 rfl (by decide +kernel) (by simp [Try.f8]) rfl ?_
  (conv => whnf)
  refine FCalls.mono known_c ?_
  rintro v m' ⟨rfl, rfl⟩
  (conv => whnf)
  intro w m2 hb he
  have h := (Sep.init m').new' (l := [.pointer none, .pointer none, .pointer none, .pointer none, .nilFunc, .nilFunc] ++ [.slice none 0 0]) hb (he.trans rfl)
  clear hb he
  (conv => whnf)
  refine FCalls.mono (pick_c (n := 100001) ho.1 ho.2 (by omega)) ?_
  rintro v m'' ⟨rfl, rfl⟩
  (conv => whnf)
  refine FCalls.mono (pick_c (n := 100001) ht.1 ht.2 (by omega)) ?_
  rintro v m'' ⟨rfl, rfl⟩
  have hr1 := pickI_in (c := one) (n := 100001) (by omega)
  have hr2 := pickI_in (c := two) (n := 100001) (by omega)
  generalize pickI one 100001 = r1 at *
  generalize pickI two 100001 = r2 at *
  obtain ⟨r1, rfl⟩ : ∃ k : Nat, r1 = k := ⟨r1.toNat, by omega⟩
  obtain ⟨r2, rfl⟩ : ∃ k : Nat, r2 = k := ⟨r2.toNat, by omega⟩
  (conv => whnf)
  intro nb m3 hb he
  replace h := h.new' (l := ints [((r1 : Nat) : Int), ((r2 : Nat) : Int)]) hb (he.trans rfl)
  clear hb he
  have hrooms : ∀ (i : Nat) x, ([((r1 : Nat) : Int), ((r2 : Nat) : Int)] : List Int)[i]? = some x → ∃ y : Nat, x = y ∧ y ≤ 100000 := by
    intro i x hx
    have := List.mem_of_getElem? hx
    simp at this
    rcases this with rfl | rfl
    · exact ⟨r1, rfl, by omega⟩
    · exact ⟨r2, rfl, by omega⟩
  generalize hrs : ([((r1 : Nat) : Int), ((r2 : Nat) : Int)] : List Int) = rooms at *
  have hrl : rooms.length = 2 := by rw [← hrs]; rfl
  replace h := (h.turn 1 (B := wo w [.pointer none, .pointer none, .pointer none, .pointer none, .nilFunc, .nilFunc] 0) rfl fun m1 _ hA => by
    have e1 : Sep [pt w ([.pointer none, .pointer none, .pointer none, .pointer none, .nilFunc, .nilFunc] ++ [.slice none 0 0])] m1 := ⟨m1, Mem.empty, fun _ => .inr rfl, Mem.le_refl _, fun _ _ h => (by cases h), hA, trivial⟩
    exact ⟨none, 0, [], rfl, by simp, (Sep.free (A := sl none 0 0 1 []) (Sep.free (A := Sep []) e1 trivial) sl_nil).move 2 rfl⟩).move 1 rfl
  replace h : Sep (wo w [.pointer none, .pointer none, .pointer none, .pointer none, .nilFunc, .nilFunc] 0 :: pt nb (ints rooms) :: [kp m']) m3 := h
  have ad : ∀ a n : Nat, ((⟨w, 0, none⟩ : Addr).add a).add (n * 1) = ⟨w, a + n, none⟩ := fun a n => by rw [add_mk, add_mk, Nat.zero_add, Nat.mul_one]
  (conv => whnf)
  refine loop_keep [2, 7, 8, 9] (Nat × Mem) (fun s => [(10, .v (.int .i64 ((s.1 : Nat) : Int)))]) (fun _ => []) (fun s => s.2) (fun s => s.1 ≤ 2 ∧ ∃ cs R, cs.length = 6 ∧ Made m' s.1 cs R ∧ Sep (wo w cs 0 :: pt nb (ints rooms) :: R) s.2) (fun s => 2 - s.1)
    (0, m3) ⟨rfl, trivial⟩ rfl rfl ⟨by simp, _, _, rfl, ⟨fun _ => rfl, fun h => absurd (show (0 : Nat) = 1 from h) (by decide), fun h => absurd (show (0 : Nat) = 2 from h) (by decide)⟩, h⟩ ?_
  clear h
  (conv => whnf)
  refine ⟨rfl, ?_⟩
  rintro ⟨k, M⟩ ⟨hk, cs, R, hc, hM, h⟩
  simp only at hk hM h
  (conv => whnf)
  refine brk_intro (fun c1 => ?_) (fun c1 => ?_)
  · have c1 : (k : Int) < 2 := by simpa using c1
    have step1 : IntKind.i64.wrap ((k : Int) + 1) = ((k + 1 : Nat) : Int) := wrap_id (by omega) (by omega)
    obtain ⟨x, hx⟩ : ∃ x, rooms[k]? = some x := ⟨_, List.getElem?_eq_getElem (by omega)⟩
    obtain ⟨y, rfl, hy⟩ := hrooms k x hx
    have hcx := h.cell 1 (i := k) rfl (ints_get hx)
    have hcx : M.cell (Addr.add ⟨nb, 0, none⟩ (k * 1)) = some (.int .i64 ((y : Nat) : Int)) := by rw [Nat.mul_one, add_mk, Nat.zero_add]; exact hcx
    (conv => whnf)
    refine ⟨_, rfl, by omega, by omega, ?_⟩
    (conv => whnf)
    refine ⟨_, hcx, ?_⟩
    (conv => whnf)
    refine FCalls.mono new_s ?_
    rintro v m5 ⟨g1, _⟩
    obtain ⟨p, rfl, hS⟩ := g1 ⟨by omega, by omega⟩
    replace h := h.on (N := [_]) hS
    clear g1 hS
    replace h : Sep (wo w cs 0 :: mk p y [] :: pt nb (ints rooms) :: R) m5 := h.move 1 rfl
    (conv => whnf)
    refine ⟨Int.natCast_nonneg _, by omega, ?_⟩
    (conv => whnf)
    have g1 : (∃ u, m5.cell (((⟨w, 0, none⟩ : Addr).add 0).add (k * 1)) = some u) ∧ m5.fz (((⟨w, 0, none⟩ : Addr).add 0).add (k * 1)) = false := by
      rw [ad]
      exact wo_room h (by omega)
    refine ⟨g1, fun m10 he => ?_⟩
    replace he : m10 = m5.setCell (((⟨w, 0, none⟩ : Addr).add 0).add (k * 1)) (.pointer (some ⟨p, 0, none⟩)) := he
    rw [ad, Nat.zero_add] at he
    replace h := wo_put h (by omega) he
    clear he g1
    have hcx := h.cell 2 (i := k) rfl (ints_get hx)
    have hcx : m10.cell (Addr.add ⟨nb, 0, none⟩ (k * 1)) = some (.int .i64 ((y : Nat) : Int)) := by rw [Nat.mul_one, add_mk, Nat.zero_add]; exact hcx
    (conv => whnf)
    refine ⟨_, rfl, by omega, by omega, ?_⟩
    (conv => whnf)
    refine ⟨_, hcx, ?_⟩
    (conv => whnf)
    intro r m11 hb he
    replace h := h.new' (l := [.int .i64 ((y : Nat) : Int), .slice none 0 0]) hb (he.trans rfl)
    clear hb he hcx
    replace h : Sep (wo w (cs.set k (.pointer (some ⟨p, 0, none⟩))) 0 :: rf r y [] :: mk p y [] :: pt nb (ints rooms) :: R) m11 := (rf_nil h).move 1 rfl
    (conv => whnf)
    refine ⟨Int.natCast_nonneg _, by omega, ?_⟩
    (conv => whnf)
    have g1 : (∃ u, m11.cell (((⟨w, 0, none⟩ : Addr).add 2).add (k * 1)) = some u) ∧ m11.fz (((⟨w, 0, none⟩ : Addr).add 2).add (k * 1)) = false := by
      rw [ad]
      exact wo_room h (by rw [List.length_set]; omega)
    refine ⟨g1, fun m12 he => ?_⟩
    replace he : m12 = m11.setCell (((⟨w, 0, none⟩ : Addr).add 2).add (k * 1)) (.pointer (some ⟨r, 0, none⟩)) := he
    rw [ad] at he
    replace h := wo_put h (by rw [List.length_set]; omega) he
    clear he g1
    (conv => whnf)
    refine FCalls.mono all_s ?_
    rintro v m13 ⟨b9, rfl, hS⟩
    replace h := h.on (N := [_]) hS
    clear hS
    replace h : Sep (wo w ((cs.set k (.pointer (some ⟨p, 0, none⟩))).set (2 + k) (.pointer (some ⟨r, 0, none⟩))) 0 :: pt b9 [.pointer (some ⟨p, 0, none⟩)] :: rf r y [] :: mk p y [] :: pt nb (ints rooms) :: R) m13 := h.move 1 rfl
    (conv => whnf)
    refine ⟨Int.natCast_nonneg _, by omega, ?_⟩
    (conv => whnf)
    have g1 : (∃ u, m13.cell (((⟨w, 0, none⟩ : Addr).add 4).add (k * 1)) = some u) ∧ m13.fz (((⟨w, 0, none⟩ : Addr).add 4).add (k * 1)) = false := by
      rw [ad]
      exact wo_room h (by rw [List.length_set, List.length_set]; omega)
    refine ⟨g1, fun m14 he => ?_⟩
    replace he : m14 = m13.setCell (((⟨w, 0, none⟩ : Addr).add 4).add (k * 1)) (allF b9) := he
    rw [ad] at he
    replace h := wo_put h (by rw [List.length_set, List.length_set]; omega) he
    clear he g1
    (conv => whnf)
    refine ⟨(k + 1, m14), le_eq ⟨by show some (AV.v (.int .i64 (IntKind.i64.wrap ((k : Int) + 1)))) = _; rw [step1], rfl, rfl, rfl, rfl, trivial⟩ rfl rfl rfl, ⟨by simp only; omega, _, _, ?_, made_next hM (by omega) hc p r b9 y, (h.move 4 rfl).move 1 rfl⟩, by simp only; omega⟩
    simp only [List.length_set]
    exact hc
  · have c1 : ¬ (k : Int) < 2 := by simpa using c1
    obtain ⟨s, t, hH, rfl⟩ := hM.2.2 (by omega)
    clear hM
    replace h : Sep [wld w 0, kp m'] M := by
      have h9 := (((h.drop 1).move 1 rfl).move 2 rfl).move 3 rfl
      have h8 := (((h9.move 4 rfl).move 5 rfl).move 6 rfl).move 6 rfl
      exact (Sep.group (L := [_, _, _, _, _, _, _]) h8).turn 0 rfl fun m1 _ hm => ⟨cs, s, t, hH, hm⟩
    (conv => whnf)
    refine loop_keep [2, 7, 8] (Nat × Nat × Mem) (fun s => [(13, .v (.int .i64 ((s.1 : Nat) : Int)))]) (fun _ => []) (fun s => s.2.2) (fun s => s.1 ≤ zs.length ∧ s.1 ≤ 200 ∧ s.2.1 ≤ 2 * s.1 ∧ Sep [wld w s.2.1, kp m'] s.2.2) (fun s => zs.length - s.1)
      (0, 0, M) ⟨rfl, trivial⟩ rfl rfl ⟨Nat.zero_le _, by simp, by simp, h⟩ ?_
    clear h
    (conv => whnf)
    refine ⟨rfl, ?_⟩
    rintro ⟨i, N, M⟩ ⟨hi, hi2, hN, h⟩
    simp only at hi hi2 hN h
    have hfin : m'.le M := h.kept 1 rfl
    (conv => whnf)
    refine brk_intro (fun c2 => ?_) (fun c2 => ?_)
    · have c2 : (i : Int) < (zs.length : Nat) := by simpa using c2
      (conv => whnf)
      refine brk_intro (fun c3 => ?_) (fun c3 => ?_)
      · have c3 : (i : Int) < 200 := by simpa using c3
        have step1 : IntKind.i64.wrap ((i : Int) + 1) = ((i + 1 : Nat) : Int) := wrap_id (by omega) (by omega)
        obtain ⟨z, hx⟩ : ∃ z, zs[i]? = some z := ⟨_, List.getElem?_eq_getElem (by omega)⟩
        obtain ⟨hz1, hz2, hz3⟩ := hz z (List.mem_of_getElem? hx)
        have hRd := hA.more hfin
        obtain ⟨q0, hq0, hc0⟩ := hRd.atf (k := i * 7) (off := 0) ((flat_get stp_len hx (o := 0) (by decide)).trans rfl)
        obtain ⟨q1, hq1, hc1⟩ := hRd.atf (k := i * 7) (off := 1) ((flat_get stp_len hx (o := 1) (by decide)).trans rfl)
        obtain ⟨q2, hq2, hc2⟩ := hRd.atf (k := i * 7) (off := 2) ((flat_get stp_len hx (o := 2) (by decide)).trans rfl)
        obtain ⟨q3, hq3, hc3⟩ := hRd.atf (k := i * 7) (off := 3) ((flat_get stp_len hx (o := 3) (by decide)).trans rfl)
        obtain ⟨q4, hq4, hc4⟩ := hRd.atf (k := i * 7) (off := 4) ((flat_get stp_len hx (o := 4) (by decide)).trans rfl)
        obtain ⟨q5, hq5, hc5⟩ := hRd.atf (k := i * 7) (off := 5) ((flat_get stp_len hx (o := 5) (by decide)).trans rfl)
        obtain ⟨q6, hq6, hc6⟩ := hRd.atf (k := i * 7) (off := 6) ((flat_get stp_len hx (o := 6) (by decide)).trans rfl)
        rw [hq0] at hq1
        cases hq1
        rw [hq0] at hq2
        cases hq2
        rw [hq0] at hq3
        cases hq3
        rw [hq0] at hq4
        cases hq4
        rw [hq0] at hq5
        cases hq5
        rw [hq0] at hq6
        cases hq6
        (conv => whnf)
        refine ⟨_, hq0, by omega, c2, ?_⟩
        (conv => whnf)
        refine ⟨_, hc0, ?_⟩
        (conv => whnf)
        refine ⟨_, hc1, ?_⟩
        (conv => whnf)
        refine ⟨_, hc2, ?_⟩
        (conv => whnf)
        refine ⟨_, hc3, ?_⟩
        (conv => whnf)
        refine ⟨_, hc4, ?_⟩
        (conv => whnf)
        refine ⟨_, hc5, ?_⟩
        (conv => whnf)
        refine ⟨_, hc6, ?_⟩
        (conv => whnf)
        refine FCalls.mono (h.call 0 rfl fun m1 h1 => step_c (kind := z.1) (on := z.2.1) (nn := z.2.2.1) (leave := z.2.2.2.1) (turn := z.2.2.2.2.1) (inn := z.2.2.2.2.2.1) (mm := z.2.2.2.2.2.2.1) h1 (by omega) hz1 hz3 hz2) ?_
        rintro v m5 ⟨m6, ⟨rfl, N2, hN2, h1⟩, hB⟩
        have hwk : wld w N2 m5 := by
          obtain ⟨_, _, hle, _⟩ := hB
          obtain ⟨cs, s, t, g1, g2⟩ := h1
          exact ⟨cs, s, t, g1, g2.more hle⟩
        replace h := hB.one h1
        clear hB h1
        (conv => whnf)
        refine FCalls.mono (wld_kept hwk (by omega)) ?_
        rintro v m7 ⟨rfl, rfl⟩
        (conv => whnf)
        exact ⟨(i + 1, N2, m7), le_eq ⟨by show some (AV.v (.int .i64 (IntKind.i64.wrap ((i : Int) + 1)))) = _; rw [step1], rfl, rfl, rfl, trivial⟩ rfl rfl rfl, ⟨by simp only; omega, by simp only; omega, by simp only; omega, h⟩, by simp only; omega⟩
      · (conv => whnf)
        exact ⟨rfl, hfin⟩
    · (conv => whnf)
      exact ⟨rfl, hfin⟩
end Go.Proofs.Ytlahdleaidhclaa
