/- Chars: Rows, of the chapter's own examples. -/
import Derived.Test.YtlnekbdcbkndbaaDoorChT
namespace Go.Proofs.YtlnekbdcbkndbaaDoor
open Go Go.Mv
set_option maxHeartbeats 2000000
set_option maxRecDepth 10000
set_option linter.unusedVariables false
set_option linter.unusedSimpArgs false
attribute [local irreducible] FCalls IntKind.wrap bits Mem.set Mem.setCell Mem.setCells YCalls RunP NextP
theorem e128 : Utf8.encode 128 = ⟨#[194, 128]⟩ := by decide +kernel
theorem e2047 : Utf8.encode 2047 = ⟨#[223, 191]⟩ := by decide +kernel
theorem rowsbad_c {m : Mem} : FCalls Tryd.prog 28 [.int .i64 3, .int .i64 2] m fun v m' => v = .tuple #[.slice none 0 0, .int .i64 1] ∧ m' = m := by
  refine fcalls_of_vc (T := tbl) (B := bodies) (pr := [99999]) (DR := dr28) (args := [.v (.int .i64 3), .v (.int .i64 2)]) tbl_ok bodies_ok mixed Tryd.func28 rfl (by decide +kernel) (by simp [Tryd.f28]) rfl ?_
  (conv => whnf)
  exact ⟨rfl, rfl⟩
theorem lasts_c {m : Mem} : FCalls Tryd.prog 43 [] m fun v m' => v = .agg #[.int .i64 127, .int .i64 2047, .int .i64 65535, .int .i64 1114111] ∧ m.le m' := by
  refine fcalls_of_vc (T := tbl) (B := bodies) (pr := [99999]) (DR := dr43) (args := []) tbl_ok bodies_ok mixed Tryd.func43 rfl (by decide +kernel) (by simp [Tryd.f43]) rfl ?_
  (conv => whnf)
  intro b m2 hb he
  have h := (Sep.init m).new' (l := intCells .i64 [0, 0, 0, 0]) hb (he.trans rfl)
  clear hb he
  (conv => whnf)
  refine ⟨by decide, ?_⟩
  (conv => whnf)
  refine ⟨by decide, ?_⟩
  (conv => whnf)
  refine ⟨by decide, ?_⟩
  (conv => whnf)
  refine ⟨by decide, ?_⟩
  (conv => whnf)
  refine ⟨rfl, h.rooms 0 (i := 0) (n := 4) rfl (Nat.le_refl 4), fun m3 he => ?_⟩
  have h3 := h.putAll 0 (i := 0) (intCells .i64 [127, 2047, 65535, 1114111]) rfl
  replace h3 : Sep [pt b (intCells .i64 [127, 2047, 65535, 1114111]), kp m] m3 := by rw [he]; exact h3
  clear he h
  (conv => whnf)
  refine ⟨[127, 2047, 65535, 1114111], rfl, fun i hi => ?_, ?_⟩
  · rw [add_mk, Nat.zero_add]
    refine h3.cell 0 (b := b) rfl ?_
    match i, hi with
    | 0, _ => rfl
    | 1, _ => rfl
    | 2, _ => rfl
    | 3, _ => rfl
  (conv => whnf)
  exact ⟨rfl, h3.kept 1 rfl⟩
theorem encoded_c {m : Mem} {n : Int} (hn : IntKind.i32.wrap n = n) : FCalls Tryd.prog 51 [.int .i64 n] m fun v m' => v = .string (Utf8.encode n) ∧ m' = m := by
  refine fcalls_of_vc (T := tbl) (B := bodies) (pr := [99999]) (DR := dr51) (args := [.v (.int .i64 n)]) tbl_ok bodies_ok mixed Tryd.func51 rfl (by decide +kernel) (by simp [Tryd.f51]) rfl ?_
  (conv => whnf)
  rw [hn]
  refine conv_str (by rfl) Tryd.underlying9 ?_
  (conv => whnf)
  exact ⟨rfl, rfl⟩
theorem split_c {m : Mem} {a b : Int} (ha : a = 128) (hb : b = 2047) : FCalls Tryd.prog 44 [.slice none 0 0, .int .i64 a, .int .i64 b, .int .i64 1] m fun v m' => ∃ A c, v = .slice A 1 c ∧ m.le m' := by
  refine fcalls_of_vc (T := tbl) (B := bodies) (pr := [99999]) (DR := dr44) (args := [.v (.slice none 0 0), .v (.int .i64 a), .v (.int .i64 b), .v (.int .i64 1)]) tbl_ok bodies_ok mixed Tryd.func44 rfl (by decide +kernel) (by simp [Tryd.f44]) rfl ?_
  (conv => whnf)
  refine loop_keep [0, 1, 2, 3] Nat (fun i => [(9, .v (.int .i64 ((i : Nat) : Int)))]) (fun _ => []) (fun _ => m) (fun i => i = 1 ∨ i = 2) (fun i => 2 - i) 1 ⟨rfl, trivial⟩ rfl rfl (.inl rfl) ?_
  (conv => whnf)
  refine ⟨rfl, ?_⟩
  intro i hi
  (conv => whnf)
  refine brk_intro (fun c0 => ?_) (fun c0 => ?_)
  · have hi1 : i = 1 := by have := of_decide_eq_true c0; omega
    have hsh : IntKind.i64.wrap (6 * ((i : Nat) : Int)) = 6 := by rw [hi1]; exact wrap_id (by decide) (by decide)
    (conv => whnf)
    refine ⟨by rw [hsh]; decide, ?_⟩
    generalize IntKind.i64.wrap (6 * ((i : Nat) : Int)) = sh at hsh ⊢
    (conv => whnf)
    refine brk_false (by subst hsh ha hb; decide +kernel) ?_
    (conv => whnf)
    refine brk_false (by subst hsh ha hb; decide +kernel) ?_
    (conv => whnf)
    refine brk_false (by subst hsh ha hb; decide +kernel) ?_
    (conv => whnf)
    exact ⟨2, le_eq ⟨congrArg (fun z => some (AV.v (.int .i64 z))) (by rw [hi1]; exact wrap_id (by decide) (by decide)), rfl, rfl, rfl, rfl, trivial⟩ rfl rfl rfl, .inr rfl, by omega⟩
  refine FCalls.mono (encoded_c (wraps_i32 _ (by omega) (by omega))) ?_
  rintro v M1 ⟨rfl, rfl⟩
  rw [ha, e128]
  (conv => whnf)
  refine FCalls.mono (encoded_c (wraps_i32 _ (by omega) (by omega))) ?_
  rintro v M1 ⟨rfl, rfl⟩
  rw [hb, e2047]
  (conv => whnf)
  clear hi c0
  refine loop_keep [0, 11, 12, 75] (Nat × List Value × Option Addr × Nat × Mem) (fun t => [(76, .v (.int .i64 ((t.1 : Nat) : Int))), (13, .v (.slice t.2.2.1 t.1 t.2.2.2.1))]) (fun _ => []) (fun t => t.2.2.2.2) (fun t => t.1 ≤ 2 ∧ Sep [sl t.2.2.1 t.1 t.2.2.2.1 2 t.2.1, kp M1] t.2.2.2.2) (fun t => 2 - t.1) (0, [], none, 0, M1) ⟨rfl, rfl, trivial⟩ rfl rfl ⟨Nat.zero_le _, Sep.free (A := sl none 0 0 2 []) (Sep.init M1) sl_nil⟩ ?_
  (conv => whnf)
  refine ⟨rfl, ?_⟩
  rintro ⟨j, vs, A, c, M⟩ ⟨hj, h⟩
  simp only at hj h
  (conv => whnf)
  refine brk_intro (fun c0 => ?_) (fun c0 => ?_)
  · have c0 : j < 2 := by have : ((j : Nat) : Int) < ((2 : Nat) : Int) := of_decide_eq_true c0; omega
    have hb1 : ∃ u : Nat, bt ⟨#[194, 128]⟩ ((j : Nat) : Int) = (u : Int) ∧ u < 256 := ⟨_, bt_get _ j, UInt8.toNat_lt _⟩
    have hb2 : ∃ u : Nat, bt ⟨#[223, 191]⟩ ((j : Nat) : Int) = (u : Int) ∧ u < 256 := ⟨_, bt_get _ j, UInt8.toNat_lt _⟩
    obtain ⟨u1, hb1, l1⟩ := hb1
    obtain ⟨u2, hb2, l2⟩ := hb2
    (conv => whnf)
    refine ⟨by omega, by show ((j : Nat) : Int) < ((2 : Nat) : Int); omega, ?_⟩
    (conv => whnf)
    refine ⟨by omega, by show ((j : Nat) : Int) < ((2 : Nat) : Int); omega, ?_⟩
    (conv => whnf)
    intro nb m5 hb he
    obtain ⟨x, y, he⟩ : ∃ x y : Int, m5 = M.set nb (.cells [.int .i64 x, .int .i64 y].toArray 85 (0, 0)) := ⟨_, _, he.trans rfl⟩
    replace h := h.new' hb he
    have hBn : m5.holds ⟨nb, 0, none⟩ [.int .i64 x, .int .i64 y] := (h.blk 0 rfl).holds fun k v hk => by rw [Nat.zero_add]; exact hk
    clear hb he
    (conv => whnf)
    obtain ⟨ok, hR⟩ := h.app 1 (T := tbl) (e := 85) (news := [.int .i64 x, .int .i64 y]) (k := 1) (B := some ⟨nb, 0, none⟩) rfl rfl (.inr ⟨_, rfl, hBn⟩) rfl rfl (by show 2 * (j + 1) * 16 ≤ 2 ^ 48; omega) rfl
    refine ⟨_, _, ok, fun A2 c5 m6 hr2 => ?_⟩
    replace h : Sep [sl A2 (j + 1) c5 2 (vs ++ [Value.int .i64 x, Value.int .i64 y]), kp M1] m6 := (hR _ _ _ hr2).drop 0
    (conv => whnf)
    have e2 : IntKind.i64.wrap (((j : Nat) : Int) + 1) = ((j + 1 : Nat) : Int) := by rw [wrap_id (by omega) (by omega)]; omega
    rw [e2]
    exact ⟨(j + 1, vs ++ [Value.int .i64 x, Value.int .i64 y], A2, c5, m6), le_eq ⟨rfl, rfl, rfl, rfl, rfl, rfl, trivial⟩ rfl rfl rfl, ⟨by simp only; omega, h⟩, by simp only; omega⟩
  · have c0 : j = 2 := by have : ¬ ((j : Nat) : Int) < ((2 : Nat) : Int) := of_decide_eq_false c0; omega
    subst c0
    (conv => whnf)
    intro nb m5 hb he
    replace h := h.new' (l := [.slice A 2 c]) hb (he.trans rfl)
    have hBn : m5.holds ⟨nb, 0, none⟩ [.slice A 2 c] := (h.blk 0 rfl).holds fun k v hk => by rw [Nat.zero_add]; exact hk
    clear hb he
    (conv => whnf)
    replace h := Sep.free (A := sl none 0 0 1 []) h sl_nil
    obtain ⟨ok, hR⟩ := h.app 0 (T := tbl) (e := 83) (news := [.slice A 2 c]) (k := 1) (B := some ⟨nb, 0, none⟩) rfl rfl (.inr ⟨_, rfl, hBn⟩) rfl rfl (by decide) rfl
    refine ⟨_, _, ok, fun A2 c5 m6 hr2 => ?_⟩
    replace h := hR _ _ _ hr2
    (conv => whnf)
    exact ⟨_, _, rfl, h.kept 3 rfl⟩
theorem rows_c {m : Mem} {a b : Int} (ha : a = 128) (hb : b = 2047) : FCalls Tryd.prog 28 [.int .i64 a, .int .i64 b] m fun v m' => ∃ A c, v = .tuple #[.slice A 1 c, .int .i64 0] ∧ m.le m' := by
  refine fcalls_of_vc (T := tbl) (B := bodies) (pr := [99999]) (DR := dr28) (args := [.v (.int .i64 a), .v (.int .i64 b)]) tbl_ok bodies_ok mixed Tryd.func28 rfl (by decide +kernel) (by simp [Tryd.f28]) rfl ?_
  (conv => whnf)
  refine brk_true (by simp; omega) ?_
  (conv => whnf)
  refine brk_true (by simp; omega) ?_
  (conv => whnf)
  refine brk_false (by simp; omega) ?_
  (conv => whnf)
  have m1 : (if (55295 : Int) < b then 55295 else b) = b := if_neg (by omega)
  have m2 : (if (57344 : Int) > a then (57344 : Int) else a) = 57344 := if_pos (by omega)
  rw [m1]
  refine ⟨by decide, ?_⟩
  (conv => whnf)
  refine ⟨by show 1 < 2; decide, ?_⟩
  (conv => whnf)
  rw [m2]
  refine ⟨by show 0 < 2; decide, ?_⟩
  (conv => whnf)
  refine ⟨by show 1 < 2; decide, ?_⟩
  (conv => whnf)
  refine loop_keep [0, 1, 32] (Nat × Nat × Option Addr × Nat × Mem) (fun t => [(33, .v (.int .i64 ((t.1 : Nat) : Int))), (6, .v (.slice t.2.2.1 t.2.1 t.2.2.2.1))]) (fun _ => []) (fun t => t.2.2.2.2) (fun t => t.1 ≤ 2 ∧ (t.1 = 0 → t.2.1 = 0 ∧ t.2.2.1 = none ∧ t.2.2.2.1 = 0) ∧ (0 < t.1 → t.2.1 = 1) ∧ m.le t.2.2.2.2) (fun t => 2 - t.1) (0, 0, none, 0, m) ⟨rfl, rfl, trivial⟩ rfl rfl ⟨Nat.zero_le _, fun _ => ⟨rfl, rfl, rfl⟩, fun h => absurd h (Nat.lt_irrefl 0), Mem.le_refl _⟩ ?_
  (conv => whnf)
  refine ⟨rfl, ?_⟩
  rintro ⟨p, n, A, c, M⟩ ⟨hp, hp0, hp1, hM⟩
  simp only at hp hp0 hp1 hM
  (conv => whnf)
  refine brk_intro (fun c0 => ?_) (fun c0 => ?_)
  · have c0 : p < 2 := by have : ((p : Nat) : Int) < 2 := of_decide_eq_true c0; omega
    have hpp : p = 0 ∨ p = 1 := by omega
    rcases hpp with rfl | rfl
    · obtain ⟨rfl, rfl, rfl⟩ := hp0 rfl
      (conv => whnf)
      refine ⟨by simp, by simp, ?_⟩
      (conv => whnf)
      intro nb m5 hb he
      have h := (Sep.init M).new' (l := intCells .i64 [0, 0]) hb (he.trans rfl)
      clear hb he
      (conv => whnf)
      refine ⟨h.rooms 0 (i := 0) (n := 2) rfl (Nat.le_refl 2), fun m6 he => ?_⟩
      have h2 := h.putAll 0 (i := 0) (intCells .i64 [a, b]) rfl
      replace h2 : Sep [pt nb (intCells .i64 [a, b]), kp M] m6 := by rw [he]; exact h2
      clear he h
      (conv => whnf)
      refine ⟨by decide, by decide, ?_⟩
      (conv => whnf)
      refine ⟨_, h2.cell 0 (b := nb) (i := 0) rfl rfl, ?_⟩
      (conv => whnf)
      refine FCalls.mono lasts_c ?_
      rintro v m7 ⟨rfl, hm7⟩
      replace h2 := h2.more hm7
      (conv => whnf)
      refine ⟨[127, 2047, 65535, 1114111], rfl, rfl, ?_⟩
      (conv => whnf)
      refine loop_keep [0, 1, 8, 32, 33, 38] (Nat × Int × Nat × Option Addr × Nat × Mem) (fun t => [(39, .v (.int .i64 ((t.1 : Nat) : Int))), (9, .v (.int .i64 t.2.1)), (6, .v (.slice t.2.2.2.1 t.2.2.1 t.2.2.2.2.1))]) (fun _ => []) (fun t => t.2.2.2.2.2)
        (fun t => (t.1 ≤ 1 ∧ t.2.1 = a ∧ t.2.2.1 = 0 ∧ t.2.2.2.1 = none ∧ t.2.2.2.2.1 = 0 ∨ 2 ≤ t.1 ∧ t.1 ≤ 4 ∧ t.2.1 = b + 1 ∧ t.2.2.1 = 1) ∧ Sep [pt nb (intCells .i64 [a, b]), kp M] t.2.2.2.2.2) (fun t => 4 - t.1) (0, a, 0, none, 0, m7) ⟨rfl, rfl, rfl, trivial⟩ rfl rfl ⟨.inl ⟨Nat.zero_le _, rfl, rfl, rfl, rfl⟩, h2⟩ ?_
      clear h2 hm7
      (conv => whnf)
      refine ⟨rfl, ?_⟩
      rintro ⟨k, f, n, A, c, M7⟩ ⟨hk, h⟩
      simp only at hk h
      (conv => whnf)
      refine brk_intro (fun d0 => ?_) (fun d0 => ?_)
      · have d0 : k < 4 := by have : ((k : Nat) : Int) < 4 := of_decide_eq_true d0; omega
        have hkk : k = 0 ∨ k = 1 ∨ k = 2 ∨ k = 3 := by omega
        rcases hkk with rfl | rfl | rfl | rfl
        · (conv => whnf)
          refine ⟨by simp, by simp, by simp, ?_⟩
          (conv => whnf)
          refine ⟨by decide, by decide, ?_⟩
          (conv => whnf)
          refine ⟨_, h.cell 0 (b := nb) (i := 1) rfl rfl, ?_⟩
          (conv => whnf)
          refine brk_false (by show decide (f ≤ if (127 : Int) < b then (127 : Int) else b) = false; rw [if_pos (by omega)]; simp; omega) ?_
          (conv => whnf)
          obtain ⟨_, rfl, rfl, rfl, rfl⟩ : (0 ≤ 1) ∧ f = a ∧ n = 0 ∧ A = none ∧ c = 0 := by rcases hk with hk | hk; exact hk; omega
          have e2 : IntKind.i64.wrap (((0 : Nat) : Int) + 1) = ((1 : Nat) : Int) := wrap_id (by decide) (by decide)
          rw [e2]
          exact ⟨(1, f, 0, none, 0, M7), le_eq ⟨rfl, rfl, rfl, rfl, rfl, rfl, rfl, rfl, rfl, trivial⟩ rfl rfl rfl, ⟨.inl ⟨Nat.le_refl _, rfl, rfl, rfl, rfl⟩, h⟩, by show 4 - 1 < 4 - 0; decide⟩
        · (conv => whnf)
          refine ⟨by simp, by simp, by simp, ?_⟩
          (conv => whnf)
          refine ⟨by decide, by decide, ?_⟩
          (conv => whnf)
          refine ⟨_, h.cell 0 (b := nb) (i := 1) rfl rfl, ?_⟩
          (conv => whnf)
          obtain ⟨_, rfl, rfl, rfl, rfl⟩ : (1 ≤ 1) ∧ f = a ∧ n = 0 ∧ A = none ∧ c = 0 := by rcases hk with hk | hk; exact hk; omega
          refine brk_true (by show decide (f ≤ if (2047 : Int) < b then (2047 : Int) else b) = true; rw [if_neg (by omega)]; simp; omega) ?_
          (conv => whnf)
          refine FCalls.mono (split_c ha (by show (if (2047 : Int) < b then (2047 : Int) else b) = 2047; rw [if_neg (by omega)]; exact hb)) ?_
          rintro v M8 ⟨A2, c2, rfl, hm8⟩
          replace h := h.more hm8
          (conv => whnf)
          have e2 : IntKind.i64.wrap (((1 : Nat) : Int) + 1) = ((2 : Nat) : Int) := wrap_id (by decide) (by decide)
          rw [e2]
          exact ⟨(2, b + 1, 1, A2, c2, M8), le_eq ⟨rfl, congrArg (fun z => some (AV.v (.int .i64 z))) (by show IntKind.i64.wrap ((if (2047 : Int) < b then (2047 : Int) else b) + 1) = b + 1; rw [if_neg (by omega)]; exact wrap_id (by omega) (by omega)), rfl, rfl, rfl, rfl, rfl, rfl, rfl, trivial⟩ rfl rfl rfl, ⟨.inr ⟨Nat.le_refl _, by simp, rfl, rfl⟩, h⟩, by show 4 - 2 < 4 - 1; decide⟩
        · (conv => whnf)
          refine ⟨by simp, by simp, by simp, ?_⟩
          (conv => whnf)
          refine ⟨by decide, by decide, ?_⟩
          (conv => whnf)
          refine ⟨_, h.cell 0 (b := nb) (i := 1) rfl rfl, ?_⟩
          (conv => whnf)
          obtain ⟨hf, rfl⟩ : f = b + 1 ∧ n = 1 := by omega
          refine brk_false (by show decide (f ≤ if (65535 : Int) < b then (65535 : Int) else b) = false; rw [if_neg (by omega)]; simp; try omega) ?_
          (conv => whnf)
          have e2 : IntKind.i64.wrap (((2 : Nat) : Int) + 1) = ((3 : Nat) : Int) := wrap_id (by decide) (by decide)
          rw [e2]
          exact ⟨(3, f, 1, A, c, M7), le_eq ⟨rfl, rfl, rfl, rfl, rfl, rfl, rfl, rfl, rfl, trivial⟩ rfl rfl rfl, ⟨.inr ⟨by simp, by simp, hf, rfl⟩, h⟩, by show 4 - 3 < 4 - 2; decide⟩
        · (conv => whnf)
          refine ⟨by simp, by simp, by simp, ?_⟩
          (conv => whnf)
          refine ⟨by decide, by decide, ?_⟩
          (conv => whnf)
          refine ⟨_, h.cell 0 (b := nb) (i := 1) rfl rfl, ?_⟩
          (conv => whnf)
          obtain ⟨hf, rfl⟩ : f = b + 1 ∧ n = 1 := by omega
          refine brk_false (by show decide (f ≤ if (1114111 : Int) < b then (1114111 : Int) else b) = false; rw [if_neg (by omega)]; simp; try omega) ?_
          (conv => whnf)
          have e2 : IntKind.i64.wrap (((3 : Nat) : Int) + 1) = ((4 : Nat) : Int) := wrap_id (by decide) (by decide)
          rw [e2]
          exact ⟨(4, f, 1, A, c, M7), le_eq ⟨rfl, rfl, rfl, rfl, rfl, rfl, rfl, rfl, rfl, trivial⟩ rfl rfl rfl, ⟨.inr ⟨by simp, by simp, hf, rfl⟩, h⟩, by show 4 - 4 < 4 - 3; decide⟩
      · have d0 : ¬ k < 4 := by have : ¬ ((k : Nat) : Int) < 4 := of_decide_eq_false d0; omega
        obtain ⟨hf, rfl⟩ : f = b + 1 ∧ n = 1 := by omega
        (conv => whnf)
        have e2 : IntKind.i64.wrap (((0 : Nat) : Int) + 1) = ((1 : Nat) : Int) := wrap_id (by decide) (by decide)
        rw [e2]
        exact ⟨(1, 1, A, c, M7), le_eq ⟨rfl, rfl, rfl, rfl, rfl, trivial⟩ rfl rfl rfl, ⟨by simp, fun h => by simp at h, fun _ => rfl, Mem.le_trans hM (h.kept 1 rfl)⟩, by show 2 - 1 < 2 - 0; decide⟩
    · obtain rfl := hp1 (by decide)
      (conv => whnf)
      refine ⟨by simp, by simp, ?_⟩
      (conv => whnf)
      intro nb m5 hb he
      have h := (Sep.init M).new' (l := intCells .i64 [0, 0]) hb (he.trans rfl)
      clear hb he
      (conv => whnf)
      refine ⟨h.rooms 0 (i := 0) (n := 2) rfl (Nat.le_refl 2), fun m6 he => ?_⟩
      have h2 := h.putAll 0 (i := 0) (intCells .i64 [57344, b]) rfl
      replace h2 : Sep [pt nb (intCells .i64 [57344, b]), kp M] m6 := by rw [he]; exact h2
      clear he h
      (conv => whnf)
      refine ⟨by decide, by decide, ?_⟩
      (conv => whnf)
      refine ⟨_, h2.cell 0 (b := nb) (i := 0) rfl rfl, ?_⟩
      (conv => whnf)
      refine FCalls.mono lasts_c ?_
      rintro v m7 ⟨rfl, hm7⟩
      replace h2 := h2.more hm7
      (conv => whnf)
      refine ⟨[127, 2047, 65535, 1114111], rfl, rfl, ?_⟩
      (conv => whnf)
      refine loop_keep [0, 1, 6, 8, 9, 32, 33, 38] (Nat × Mem) (fun t => [(39, .v (.int .i64 ((t.1 : Nat) : Int)))]) (fun _ => []) (fun t => t.2)
        (fun t => t.1 ≤ 4 ∧ Sep [pt nb (intCells .i64 [57344, b]), kp M] t.2) (fun t => 4 - t.1) (0, m7) ⟨rfl, trivial⟩ rfl rfl ⟨Nat.zero_le _, h2⟩ ?_
      clear h2 hm7
      (conv => whnf)
      refine ⟨rfl, ?_⟩
      rintro ⟨k, M7⟩ ⟨hk, h⟩
      simp only at hk h
      (conv => whnf)
      refine brk_intro (fun d0 => ?_) (fun d0 => ?_)
      · have d0 : k < 4 := by have : ((k : Nat) : Int) < 4 := of_decide_eq_true d0; omega
        have hkk : k = 0 ∨ k = 1 ∨ k = 2 ∨ k = 3 := by omega
        rcases hkk with rfl | rfl | rfl | rfl
        · (conv => whnf)
          refine ⟨by simp, by simp, by simp, ?_⟩
          (conv => whnf)
          refine ⟨by decide, by decide, ?_⟩
          (conv => whnf)
          refine ⟨_, h.cell 0 (b := nb) (i := 1) rfl rfl, ?_⟩
          (conv => whnf)
          refine brk_false (by show decide ((57344 : Int) ≤ if (127 : Int) < b then (127 : Int) else b) = false; rw [if_pos (by omega)]; simp; try omega) ?_
          (conv => whnf)
          have e2 : IntKind.i64.wrap (((0 : Nat) : Int) + 1) = ((1 : Nat) : Int) := wrap_id (by decide) (by decide)
          rw [e2]
          exact ⟨(1, M7), le_eq ⟨rfl, rfl, rfl, rfl, rfl, rfl, rfl, rfl, rfl, trivial⟩ rfl rfl rfl, ⟨by show 1 ≤ 4; decide, h⟩, by show 4 - 1 < 4 - 0; decide⟩
        · (conv => whnf)
          refine ⟨by simp, by simp, by simp, ?_⟩
          (conv => whnf)
          refine ⟨by decide, by decide, ?_⟩
          (conv => whnf)
          refine ⟨_, h.cell 0 (b := nb) (i := 1) rfl rfl, ?_⟩
          (conv => whnf)
          refine brk_false (by show decide ((57344 : Int) ≤ if (2047 : Int) < b then (2047 : Int) else b) = false; rw [if_neg (by omega)]; simp; try omega) ?_
          (conv => whnf)
          have e2 : IntKind.i64.wrap (((1 : Nat) : Int) + 1) = ((2 : Nat) : Int) := wrap_id (by decide) (by decide)
          rw [e2]
          exact ⟨(2, M7), le_eq ⟨rfl, rfl, rfl, rfl, rfl, rfl, rfl, rfl, rfl, trivial⟩ rfl rfl rfl, ⟨by show 2 ≤ 4; decide, h⟩, by show 4 - 2 < 4 - 1; decide⟩
        · (conv => whnf)
          refine ⟨by simp, by simp, by simp, ?_⟩
          (conv => whnf)
          refine ⟨by decide, by decide, ?_⟩
          (conv => whnf)
          refine ⟨_, h.cell 0 (b := nb) (i := 1) rfl rfl, ?_⟩
          (conv => whnf)
          refine brk_false (by show decide ((57344 : Int) ≤ if (65535 : Int) < b then (65535 : Int) else b) = false; rw [if_neg (by omega)]; simp; try omega) ?_
          (conv => whnf)
          have e2 : IntKind.i64.wrap (((2 : Nat) : Int) + 1) = ((3 : Nat) : Int) := wrap_id (by decide) (by decide)
          rw [e2]
          exact ⟨(3, M7), le_eq ⟨rfl, rfl, rfl, rfl, rfl, rfl, rfl, rfl, rfl, trivial⟩ rfl rfl rfl, ⟨by show 3 ≤ 4; decide, h⟩, by show 4 - 3 < 4 - 2; decide⟩
        · (conv => whnf)
          refine ⟨by simp, by simp, by simp, ?_⟩
          (conv => whnf)
          refine ⟨by decide, by decide, ?_⟩
          (conv => whnf)
          refine ⟨_, h.cell 0 (b := nb) (i := 1) rfl rfl, ?_⟩
          (conv => whnf)
          refine brk_false (by show decide ((57344 : Int) ≤ if (1114111 : Int) < b then (1114111 : Int) else b) = false; rw [if_neg (by omega)]; simp; try omega) ?_
          (conv => whnf)
          have e2 : IntKind.i64.wrap (((3 : Nat) : Int) + 1) = ((4 : Nat) : Int) := wrap_id (by decide) (by decide)
          rw [e2]
          exact ⟨(4, M7), le_eq ⟨rfl, rfl, rfl, rfl, rfl, rfl, rfl, rfl, rfl, trivial⟩ rfl rfl rfl, ⟨by show 4 ≤ 4; decide, h⟩, by show 4 - 4 < 4 - 3; decide⟩
      · (conv => whnf)
        have e2 : IntKind.i64.wrap (((1 : Nat) : Int) + 1) = ((2 : Nat) : Int) := wrap_id (by decide) (by decide)
        rw [e2]
        exact ⟨(2, 1, A, c, M7), le_eq ⟨rfl, rfl, rfl, rfl, rfl, trivial⟩ rfl rfl rfl, ⟨by simp, fun h => by simp at h, fun _ => rfl, Mem.le_trans hM (h.kept 1 rfl)⟩, by show 2 - 2 < 2 - 1; decide⟩
  · have c0 : ¬ p < 2 := by have : ¬ ((p : Nat) : Int) < 2 := of_decide_eq_false c0; omega
    obtain rfl := hp1 (by omega)
    (conv => whnf)
    exact ⟨A, c, rfl, hM⟩
end Go.Proofs.YtlnekbdcbkndbaaDoor
