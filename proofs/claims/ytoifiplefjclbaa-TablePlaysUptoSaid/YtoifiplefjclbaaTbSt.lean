/- Table: step. -/
import Derived.Test.YtoifiplefjclbaaTbOv
namespace Go.Proofs.Ytoifiplefjclbaa
open Go Go.Mv
set_option maxHeartbeats 4000000
set_option maxRecDepth 10000
set_option linter.unusedVariables false
set_option linter.unusedSimpArgs false
attribute [local irreducible] FCalls IntKind.wrap bits Mem.set Mem.setCell Mem.setCells YCalls RunP NextP
def In64 (x : Int) : Prop := -9223372036854775808 ≤ x ∧ x ≤ 9223372036854775807
theorem over_0 {m m0 Ks : Mem} {w N X p r b : Nat} {it : Asn} {cs : List Value} {k : Nat} {leave : Int} (hX : X ≤ 2 ^ 38 + 1000001) (hN : N < X) (hc : cs.length = 6) (hk : k < 2) (hp : cs[k]? = some (.pointer (some ⟨p, 0, none⟩))) (hr : cs[2 + k]? = some (.pointer (some ⟨r, 0, none⟩)))
    (hlv : In64 leave)
    (hit : ∀ m1 m, it m1 → m1.le m → m.cell ⟨b, 0, none⟩ = some (.pointer (some ⟨p, 0, none⟩)))
    (h : Sep [wo w cs N, tw Ks p r, kp m0, it] m) :
    FCalls Try.prog 36 [.pointer (some ⟨w, 0, none⟩), .int .i64 ((k : Nat) : Int), allF b, .agg (Stp.cells ⟨0, 0, 0, leave, none, [], 0, 0, 0, none, [], 0⟩).toArray] m fun v m' => v = .bool true ∧ ∃ N', N' ≤ N + 1000000 ∧ Sep [wo w cs N', tw Ks p r, kp m0, it] m' := by
  obtain ⟨s, hs⟩ : ∃ s : Stp, s = ⟨0, 0, 0, leave, none, [], 0, 0, 0, none, [], 0⟩ := ⟨_, rfl⟩
  have h1 : s.turn = 0 := by rw [hs]
  have h2 : s.leave = leave := by rw [hs]
  have h3 : s.k2 = [] := by rw [hs]
  have h4 : s.inn = 0 := by rw [hs]
  rw [← hs]
  refine FCalls.mono (over_gen (s := s) hX hN hc hk hp hr (by omega) (by rw [h2]; exact hlv) (.inl h3) (by rw [h3]; simp) hit (fun h0 => by omega) h) ?_
  rintro v m' ⟨g1, N', g2, g3⟩
  rw [if_neg (by omega)] at g2
  exact ⟨g1, N', by omega, g3⟩
theorem over_c {m m0 Ks : Mem} {w N p r b : Nat} {it : Asn} {cs : List Value} {k : Nat} {s : Stp} (hN : N < 2 ^ 38) (hc : cs.length = 6) (hk : k < 2) (hp : cs[k]? = some (.pointer (some ⟨p, 0, none⟩))) (hr : cs[2 + k]? = some (.pointer (some ⟨r, 0, none⟩)))
    (ht : In64 s.turn) (hlv : In64 s.leave)
    (hA2 : Ints m0 s.A2 s.k2) (hk2 : s.k2.length < 2 ^ 40)
    (hit : ∀ m1 m, it m1 → m1.le m → m.cell ⟨b, 0, none⟩ = some (.pointer (some ⟨p, 0, none⟩)))
    (h : Sep [wo w cs N, tw Ks p r, kp m0, it] m) :
    FCalls Try.prog 36 [.pointer (some ⟨w, 0, none⟩), .int .i64 ((k : Nat) : Int), allF b, .agg s.cells.toArray] m fun v m' => v = .bool true ∧ ∃ N', N' ≤ N + 2000000 ∧ Sep [wo w cs N', tw Ks p r, kp m0, it] m' := by
  obtain ⟨X, hX⟩ : ∃ X : Nat, X = 2 ^ 38 := ⟨_, rfl⟩
  rw [← hX] at hN
  have hX1 : X + 1000001 ≤ 2 ^ 38 + 1000001 := Nat.add_le_add_right (Nat.le_of_eq hX) _
  have hX2 : X ≤ 2 ^ 38 + 1000001 := Nat.le_trans (Nat.le_of_eq hX) (Nat.le_add_right _ _)
  refine FCalls.mono (over_gen (X := X) hX2 hN hc hk hp hr ht hlv hA2 hk2 hit (fun _ m K N b it hN hit h => over_0 (X := X + 1000001) hX1 hN hc hk hp hr hlv hit h) h) ?_
  rintro v m' ⟨h1, N', h2, h3⟩
  have h4 : N' ≤ N + 2000000 := by
    clear h3 hX1 hX2
    obtain ⟨D, hD⟩ : ∃ D, D = (if s.inn = 5 then 1000000 else 0) := ⟨_, rfl⟩
    rw [← hD] at h2
    have hD1 : D ≤ 1000000 := by rw [hD]; split <;> omega
    omega
  exact ⟨h1, N', h4, h3⟩
theorem step_gen {m m0 Ks : Mem} {w N p r b : Nat} {cs : List Value} {R : List Asn} {k : Nat} {s : Stp} (hN : N < 2 ^ 38) (hc : cs.length = 6) (hk : k < 2) (hon : pkI s.on 2 = k)
    (hp : cs[k]? = some (.pointer (some ⟨p, 0, none⟩))) (hr : cs[2 + k]? = some (.pointer (some ⟨r, 0, none⟩))) (hb : cs[4 + k]? = some (allF b))
    (ho : In64 s.on) (ht : In64 s.turn) (hlv : In64 s.leave) (hA : Ints m0 s.A s.k) (hk1 : s.k.length < 2 ^ 40) (hA2 : Ints m0 s.A2 s.k2) (hk2 : s.k2.length < 2 ^ 40)
    (h : Sep (wo w cs N :: tw Ks p r :: kp m0 :: pt b [.pointer (some ⟨p, 0, none⟩)] :: R) m) :
    FCalls Try.prog 23 [.pointer (some ⟨w, 0, none⟩), .agg s.cells.toArray] m fun v m' => v = .bool true ∧ ∃ N', N' ≤ N + 2000000 ∧ Sep (wo w cs N' :: tw Ks p r :: kp m0 :: pt b [.pointer (some ⟨p, 0, none⟩)] :: R) m' := by
  have cel : ∀ {L : List Asn} {M : Mem} {N : Nat} {v : Value} (a n j : Nat), Sep L M → L[j]? = some (wo w cs N) → cs[a + n]? = some v → M.cell (((⟨w, 0, none⟩ : Addr).add a).add (n * 1)) = some v := fun a n j h hj hv => by
    obtain ⟨m1, h1, h2⟩ := h.get j hj
    rw [add_mk, add_mk, Nat.zero_add, Nat.mul_one]
    exact Mem.le_cell h1 (wo_cell h2 hv)
  have p1 : cs[0 + k]? = some (.pointer (some ⟨p, 0, none⟩)) := by rw [Nat.zero_add]; exact hp
  have hitb : ∀ {b : Nat}, ∀ m1 m, pt b [.pointer (some ⟨p, 0, none⟩)] m1 → m1.le m → m.cell ⟨b, 0, none⟩ = some (.pointer (some ⟨p, 0, none⟩)) := fun {b} m1 m h h1 => by
    have h : Sep [pt b [.pointer (some ⟨p, 0, none⟩)]] m1 := ⟨m1, Mem.empty, fun _ => .inr rfl, Mem.le_refl _, fun _ _ hh => (by cases hh), h, trivial⟩
    exact Mem.le_cell h1 (h.cell 0 (i := 0) rfl rfl)
  refine fcalls_of_vc (T := tbl) (B := bodies) (pr := [99999]) (DR := dr23) (args := [.v (.pointer (some ⟨w, 0, none⟩)), .v (.agg s.cells.toArray)]) tbl_ok bodies_ok mixed Try.func23 rfl (by decide +kernel) (by simp [Try.f23]) rfl ?_
  (conv => whnf)
  intro b3 m2 hb3 he
  replace h : Sep (pt b3 s.cells :: wo w cs N :: tw Ks p r :: kp m0 :: pt b [.pointer (some ⟨p, 0, none⟩)] :: R) m2 := h.new' (l := s.cells) hb3 (he.trans rfl)
  clear hb3 he
  (conv => whnf)
  refine ⟨_, h.cell 0 (i := 1) rfl rfl, ?_⟩
  (conv => whnf)
  refine FCalls.mono (pickx_c (n := 2) ho (by omega)) ?_
  rintro v m' ⟨rfl, rfl⟩
  rw [hon]
  (conv => whnf)
  refine ⟨_, h.cell 0 (i := 0) rfl rfl, ?_⟩
  (conv => whnf)
  refine brk_intro (fun c1 => ?_) (fun c1 => ?_)
  · -- All
    (conv => whnf)
    refine ⟨Int.natCast_nonneg _, by omega, ?_⟩
    (conv => whnf)
    refine ⟨_, cel 0 k 1 h rfl p1, ?_⟩
    (conv => whnf)
    refine ⟨?ga, ?gb, trivial⟩
    case' gb =>
      (conv => whnf)
      refine ⟨_, h.cell 0 (i := 0) rfl rfl, ?_⟩
      (conv => whnf)
      refine ⟨_, h.cell 0 (i := 1) rfl rfl, ?_⟩
      (conv => whnf)
      refine ⟨_, h.cell 0 (i := 2) rfl rfl, ?_⟩
      (conv => whnf)
      refine ⟨_, h.cell 0 (i := 3) rfl rfl, ?_⟩
      (conv => whnf)
      refine ⟨_, _, _, h.cell 0 (i := 4) rfl rfl, ?_⟩
      (conv => whnf)
      refine ⟨_, h.cell 0 (i := 5) rfl rfl, ?_⟩
      (conv => whnf)
      refine ⟨_, h.cell 0 (i := 6) rfl rfl, ?_⟩
      (conv => whnf)
      refine ⟨_, _, _, h.cell 0 (i := 7) rfl rfl, ?_⟩
    all_goals
      (conv => whnf)
      refine FCalls.mono all_c ?_
      rintro v m9 ⟨b9, rfl, hS⟩
      replace h := h.on (N := [_]) hS
      clear hS
    case' ga =>
      (conv => whnf)
      refine ⟨_, h.cell 1 (i := 0) rfl rfl, ?_⟩
      (conv => whnf)
      refine ⟨_, h.cell 1 (i := 1) rfl rfl, ?_⟩
      (conv => whnf)
      refine ⟨_, h.cell 1 (i := 2) rfl rfl, ?_⟩
      (conv => whnf)
      refine ⟨_, h.cell 1 (i := 3) rfl rfl, ?_⟩
      (conv => whnf)
      refine ⟨_, _, _, h.cell 1 (i := 4) rfl rfl, ?_⟩
      (conv => whnf)
      refine ⟨_, h.cell 1 (i := 5) rfl rfl, ?_⟩
      (conv => whnf)
      refine ⟨_, h.cell 1 (i := 6) rfl rfl, ?_⟩
      (conv => whnf)
      refine ⟨_, _, _, h.cell 1 (i := 7) rfl rfl, ?_⟩
    all_goals
      (conv => whnf)
      have h9 : Sep (wo w cs N :: tw Ks p r :: kp m0 :: pt b9 [.pointer (some ⟨p, 0, none⟩)] :: pt b [.pointer (some ⟨p, 0, none⟩)] :: R) m9 := (h.drop 1).back (j := 3) (by simp)
      refine FCalls.mono (h9.calln 4 fun m1 h1 => over_c (s := s) hN hc hk hp hr ht hlv hA2 hk2 hitb h1) ?_
      rintro v m10 ⟨m11, ⟨rfl, N2, hN2, h1⟩, hB⟩
      replace h := hB.sep h1
      clear hB h1 h9
      (conv => whnf)
      exact ⟨rfl, N2, hN2, h.drop 3⟩
  · (conv => whnf)
    refine brk_intro (fun c2 => ?_) (fun c2 => ?_)
    · -- Old
      clear c1 c2
      (conv => whnf)
      refine ⟨Int.natCast_nonneg _, by omega, ?_⟩
      (conv => whnf)
      refine ⟨_, cel 4 k 1 h rfl hb, ?_⟩
      (conv => whnf)
      refine ⟨_, h.cell 0 (i := 0) rfl rfl, ?_⟩
      (conv => whnf)
      refine ⟨_, h.cell 0 (i := 1) rfl rfl, ?_⟩
      (conv => whnf)
      refine ⟨_, h.cell 0 (i := 2) rfl rfl, ?_⟩
      (conv => whnf)
      refine ⟨_, h.cell 0 (i := 3) rfl rfl, ?_⟩
      (conv => whnf)
      refine ⟨_, _, _, h.cell 0 (i := 4) rfl rfl, ?_⟩
      (conv => whnf)
      refine ⟨_, h.cell 0 (i := 5) rfl rfl, ?_⟩
      (conv => whnf)
      refine ⟨_, h.cell 0 (i := 6) rfl rfl, ?_⟩
      (conv => whnf)
      refine ⟨_, _, _, h.cell 0 (i := 7) rfl rfl, ?_⟩
      (conv => whnf)
      replace h := h.drop 0
      refine FCalls.mono (h.calln 4 fun m1 h1 => over_c (s := s) hN hc hk hp hr ht hlv hA2 hk2 hitb h1) ?_
      rintro v m10 ⟨m11, ⟨rfl, N2, hN2, h1⟩, hB⟩
      replace h := hB.sep h1
      clear hB h1
      (conv => whnf)
      exact ⟨rfl, N2, hN2, h⟩
    · clear c1 c2
      (conv => whnf)
      refine ⟨_, h.cell 0 (i := 0) rfl rfl, ?_⟩
      (conv => whnf)
      refine ⟨_, _, _, h.cell 0 (i := 4) rfl rfl, ?_⟩
      (conv => whnf)
      refine ⟨_, h.cell 0 (i := 2) rfl rfl, ?_⟩
      (conv => whnf)
      replace h := h.drop 0
      refine FCalls.mono (h.calln 3 fun m1 h1 => does_c h1 hc hk hp hr hA hk1) ?_
      rintro v m10 ⟨m11, ⟨rfl, h1⟩, hB⟩
      replace h := hB.sep h1
      clear hB h1
      (conv => whnf)
      exact ⟨rfl, N, by omega, h⟩
end Go.Proofs.Ytoifiplefjclbaa
