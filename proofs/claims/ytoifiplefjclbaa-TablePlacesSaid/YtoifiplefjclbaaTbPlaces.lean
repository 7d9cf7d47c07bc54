/- TablePlaces. -/
import Derived.Test.YtoifiplefjclbaaTbK
namespace Go.Proofs.Ytoifiplefjclbaa
open Go Go.Mv
set_option maxHeartbeats 2000000
set_option maxRecDepth 10000
set_option linter.unusedVariables false
set_option linter.unusedSimpArgs false
attribute [local irreducible] FCalls IntKind.wrap bits Mem.set Mem.setCell Mem.setCells
theorem putA_len {a a' : Abs} {ks : List Int} {v code : Int} {top : Nat} (h : putA a ks v code a') (hl : a.len ≤ 16 + 8 * max top a.n) : a'.len ≤ 16 + 8 * max top a'.n ∧ a'.n ≤ a.n + 1 ∧ a'.w = a.w ∧ a'.most = a.most := by
  obtain ⟨h1, h2, h3⟩ := h
  split at h3
  · obtain ⟨_, rfl⟩ := h3
    exact ⟨hl, by omega, rfl, rfl⟩
  · split at h3
    · obtain ⟨_, _, e1, e2⟩ := h3
      rw [e1, e2]
      exact ⟨hl, by omega, h1, h2⟩
    · split at h3
      · obtain ⟨_, rfl⟩ := h3
        exact ⟨hl, by omega, rfl, rfl⟩
      · obtain ⟨_, _, e1, e2⟩ := h3
        rw [e1]
        refine ⟨?_, by omega, h1, h2⟩
        rcases e2 with e2 | ⟨e3, e2⟩
        · omega
        · omega
theorem int_max (a b : Nat) : (if (a : Int) > (b : Int) then (a : Int) else (b : Int)) = ((max b a : Nat) : Int) := by
  split <;> omega
theorem places_c {m : Mem} {A : Option Addr} {xs : List Int} {c : Nat} {at' : Int} (hA : Ints m A xs) :
    FCalls Try.prog 6 [.slice A xs.length c, .int .i64 at'] m fun v m' => v = .bool true ∧ Keep [] m m' := by
  refine fcalls_of_vc (T := tbl) (B := bodies) (pr := []) (DR := (100010, 0) :: (100013, 0) :: dr6) (args := [.v (.slice A xs.length c), .v (.int .i64 at')]) tbl_ok bodies_ok mixed Try.func6 rfl (by decide +kernel) (by simp [Try.f6]) rfl ?_
  (conv => whnf)
  refine FCalls.mono known_c ?_
  rintro v m1 ⟨rfl, hk1⟩
  (conv => whnf)
  refine FCalls.mono (new_m (by omega) (by omega) (by omega) (by omega)) ?_
  rintro v m3 ⟨p, rfl, hT3⟩
  (conv => whnf)
  refine loop_keep [0, 1, 6] (Int × Int × Mem × Mem × Abs) (fun s => [(9, .v (.int .i64 s.1)), (8, .v (.int .i64 s.2.1))]) (fun _ => []) (fun s => s.2.2.2.1)
    (fun s => ∃ i top : Nat, s.1 = i ∧ s.2.1 = top ∧ i ≤ 800 ∧ Keep [] m s.2.2.1 ∧ TM s.2.2.1 s.2.2.2.1 p s.2.2.2.2 ∧ s.2.2.2.2.w = 1 ∧ s.2.2.2.2.n ≤ top ∧ top ≤ i ∧ s.2.2.2.2.len ≤ 16 + 8 * top) (fun s => 800 - s.1.toNat) (0, 0, m1, m3, _) ⟨rfl, rfl, trivial⟩ rfl rfl ⟨0, 0, rfl, rfl, by omega, hk1, hT3, rfl, Nat.zero_le _, by omega, by simp⟩ ?_
  (conv => whnf)
  refine ⟨rfl, fun s hJ => ?_⟩
  obtain ⟨z, y, m0, M, a⟩ := s
  obtain ⟨i, top, rfl, rfl, hi, hk0, hT, ew, hn, hti, hl⟩ := hJ
  dsimp only at hk0 hT ew hn hl
  (conv => whnf)
  refine brk_intro (fun h => ?_) (fun h => ?_)
  · have hix : (i : Int) < xs.length := by simpa using h
    (conv => whnf)
    refine brk_intro (fun h1 => ?_) (fun h1 => ?_)
    · have hi8 : i < 800 := by
        have : (i : Int) < 800 := by simpa using h1
        omega
      have hAM : Ints M A xs := (hA.keep hk0 (by simp)).keep hT.keep (by simp)
      obtain ⟨pA, hpA, hx⟩ := hAM.at (i := i) (by omega) hix
      (conv => whnf)
      refine join_keep [0, 1, 6, 8, 9] (Mem × Mem × Abs) (fun _ => []) (fun s => s.2.1) (fun s => Keep [] m s.1 ∧ TM s.1 s.2.1 p s.2.2 ∧ s.2.2.w = 1 ∧ s.2.2.n ≤ i + 1 ∧ s.2.2.len ≤ 16 + 8 * max top s.2.2.n) ?_
      (conv => whnf)
      refine ⟨?_, fun s hs => ?_⟩
      · (conv => whnf)
        refine ⟨pA, hpA, by dsimp only; omega, hix, ?_⟩
        (conv => whnf)
        refine ⟨_, hx, ?_⟩
        (conv => whnf)
        refine ⟨by omega, ?_⟩
        (conv => whnf)
        refine brk_intro (fun h2 => ?_) (fun h2 => ?_)
        · (conv => whnf)
          refine ⟨pA, hpA, by dsimp only; omega, hix, ?_⟩
          (conv => whnf)
          refine ⟨_, hx, ?_⟩
          (conv => whnf)
          refine ⟨by omega, ?_⟩
          (conv => whnf)
          intro b hb
          generalize hkey : IntKind.i64.wrap ((xs.getD (i : Int).toNat 0).tdiv 3) = key
          obtain ⟨hT', hf⟩ := hT.build (o := .cells (intCells .i64 [key]).toArray 3 (0, 0)) hb
          have hkk := hk0.trans (Keep.set (o := .cells (intCells .i64 [key]).toArray 3 (0, 0)) hf)
          (conv => whnf)
          refine FCalls.mono (drop_m (ks := [key]) (c := 1) hT' Ints.built) ?_
          rintro v m5 ⟨rfl, hT5, _⟩
          (conv => whnf)
          refine ⟨(_, _, _), le_of ⟨rfl, rfl, rfl, rfl, rfl, trivial⟩ rfl, hkk, hT5, ew, ?_, ?_⟩
          · dsimp only
            omega
          · dsimp only
            omega
        · (conv => whnf)
          refine ⟨pA, hpA, by dsimp only; omega, hix, ?_⟩
          (conv => whnf)
          refine ⟨_, hx, ?_⟩
          (conv => whnf)
          refine ⟨by omega, ?_⟩
          (conv => whnf)
          intro b hb
          generalize hkey : IntKind.i64.wrap ((xs.getD (i : Int).toNat 0).tdiv 3) = key
          obtain ⟨hT', hf⟩ := hT.build (o := .cells (intCells .i64 [key]).toArray 3 (0, 0)) hb
          have hkk := hk0.trans (Keep.set (o := .cells (intCells .i64 [key]).toArray 3 (0, 0)) hf)
          (conv => whnf)
          refine FCalls.mono (put_m (ks := [key]) (c := 1) _ hT' Ints.built) ?_
          rintro v m5 ⟨code, a5, rfl, hT5, hput⟩
          obtain ⟨q1, q2, q3, q4⟩ := putA_len (top := top) hput (by omega)
          (conv => whnf)
          refine ⟨(_, _, _), le_of ⟨rfl, rfl, rfl, rfl, rfl, trivial⟩ rfl, hkk, hT5, q3.trans ew, ?_, ?_⟩
          · dsimp only
            omega
          · dsimp only
            exact q1
      · obtain ⟨m4, M4, a4⟩ := s
        obtain ⟨hk4, hT4, ew4, hn4, hl4⟩ := hs
        dsimp only at hk4 hT4 ew4 hn4 hl4
        (conv => whnf)
        refine join_keep [0, 1, 6, 9] (Int × Mem × Abs) (fun s => [(8, .v (.int .i64 s.1))]) (fun s => s.2.1) (fun s => ∃ top' : Nat, s.1 = top' ∧ TM m4 s.2.1 p s.2.2 ∧ s.2.2.w = 1 ∧ s.2.2.n ≤ i + 1 ∧ top' ≤ i ∧ s.2.2.len ≤ 16 + 8 * max top' s.2.2.n) ?_
        (conv => whnf)
        refine ⟨?_, fun s hs => ?_⟩
        · (conv => whnf)
          refine brk_intro (fun h2 => ?_) (fun h2 => ?_)
          · (conv => whnf)
            refine FCalls.mono (clear_m hT4) ?_
            rintro v m5 ⟨rfl, hT5⟩
            (conv => whnf)
            refine ⟨(_, _, _), le_of ⟨rfl, rfl, rfl, rfl, rfl, trivial⟩ rfl, 0, rfl, hT5, ew4, Nat.zero_le _, Nat.zero_le _, ?_⟩
            dsimp only
            split <;> omega
          · (conv => whnf)
            exact ⟨(_, _, _), le_of ⟨rfl, rfl, rfl, rfl, rfl, trivial⟩ rfl, top, rfl, hT4, ew4, hn4, hti, hl4⟩
        · obtain ⟨y5, M5, a5⟩ := s
          obtain ⟨top5, rfl, hT5, ew5, hn5, ht5, hl5⟩ := hs
          dsimp only at hT5 ew5 hn5 hl5
          (conv => whnf)
          refine FCalls.mono (len_m hT5) ?_
          rintro v m6 ⟨rfl, rfl⟩
          (conv => whnf)
          refine FCalls.mono (slots_m hT5) ?_
          rintro v m7 ⟨rfl, rfl⟩
          obtain ⟨hpow, hhalf, hmost, hmost1⟩ := hT5.len
          (conv => whnf)
          refine loop_keep [0, 1, 6, 8, 9, 10] Int (fun z => [(11, .v (.int .i64 z))]) (fun _ => []) (fun _ => _) (fun z => (z = 0 ∧ a5.len = 0) ∨ (∃ j : Nat, j < 40 ∧ z = ((2 ^ j : Nat) : Int) ∧ a5.len ≠ 0)) (fun z => z.toNat) _ ⟨rfl, trivial⟩ rfl rfl ?_ ?_
          · rcases hpow with h5 | ⟨k, hk, h5⟩
            · exact .inl ⟨by rw [h5]; rfl, h5⟩
            · exact .inr ⟨k, hk, by rw [h5], by rw [h5]; exact Nat.ne_of_gt (Nat.two_pow_pos k)⟩
          clear hpow
          (conv => whnf)
          refine ⟨rfl, fun z hz => ?_⟩
          (conv => whnf)
          refine brk_intro (fun h3 => ?_) (fun h3 => ?_)
          · have h3 : z > 1 := by simpa using h3
            obtain ⟨j, hj, rfl, hne⟩ : ∃ j : Nat, j < 40 ∧ z = ((2 ^ j : Nat) : Int) ∧ a5.len ≠ 0 := by
              rcases hz with hz | hz
              · omega
              · exact hz
            obtain ⟨j, rfl⟩ : ∃ j', j = j' + 1 := by
              cases j with
              | zero => simp at h3
              | succ j => exact ⟨j, rfl⟩
            have hp : (2 ^ (j + 1) : Nat) = 2 * 2 ^ j := by rw [Nat.pow_succ]; omega
            have hpb : 2 ^ j < 2 ^ 40 := Nat.pow_lt_pow_right (by omega) (by omega)
            have hp0 : 0 < 2 ^ j := Nat.two_pow_pos j
            have hrem : (((2 ^ (j + 1) : Nat) : Int).tmod 2 == 0) = true := by
              rw [hp]
              simp
            have hquo : IntKind.i64.wrap (((2 ^ (j + 1) : Nat) : Int).tdiv 2) = ((2 ^ j : Nat) : Int) := by
              rw [hp, Int.natCast_mul, Int.tdiv_eq_ediv_of_nonneg (by omega)]
              have : ((2 : Nat) : Int) * ((2 ^ j : Nat) : Int) / 2 = ((2 ^ j : Nat) : Int) := by omega
              rw [this]
              exact wrap_id (by omega) (by omega)
            (conv => whnf)
            refine ⟨by omega, ?_⟩
            (conv => whnf)
            refine brk_true hrem ?_
            (conv => whnf)
            refine ⟨by omega, ?_⟩
            (conv => whnf)
            refine ⟨_, le_of ⟨rfl, rfl, rfl, rfl, rfl, rfl, rfl, trivial⟩ rfl, .inr ⟨j, by omega, hquo, hne⟩, ?_⟩
            rw [hquo, hp]
            omega
          · have h3 : ¬ z > 1 := by simpa using h3
            have hz1 : a5.len = 0 ∨ z = 1 := by
              rcases hz with hz | ⟨j, hj, rfl, hne⟩
              · exact .inl hz.2
              · have hp0 : 0 < 2 ^ j := Nat.two_pow_pos j
                right
                omega
            have hw1 : IntKind.i64.wrap (2 * (a5.n : Int)) = 2 * (a5.n : Int) := wrap_id (by omega) (by omega)
            have hw2 : IntKind.i64.wrap ((i : Int) + 1) = (i : Int) + 1 := wrap_id (by omega) (by omega)
            have htop : (if (a5.n : Int) > (top5 : Int) then (a5.n : Int) else (top5 : Int)) = ((max top5 a5.n : Nat) : Int) := int_max _ _
            clear hz
            have hw3 : IntKind.i64.wrap (8 * ((max top5 a5.n : Nat) : Int)) = 8 * ((max top5 a5.n : Nat) : Int) := wrap_id (by omega) (by omega)
            have hw4 : IntKind.i64.wrap (16 + 8 * ((max top5 a5.n : Nat) : Int)) = 16 + 8 * ((max top5 a5.n : Nat) : Int) := wrap_id (by omega) (by omega)
            have hcond : ((a5.len : Int) != 0 && z != 1) = false := by
              rcases hz1 with hz1 | hz1
              · simp [hz1]
              · simp [hz1]
            (conv => whnf)
            refine brk_intro (fun h4 => ?a1) (fun h4 => ?a2)
            case' a1 =>
              have h4 : a5.len ≠ 0 := by simpa using h4
              have h5 : z = 1 := hz1.resolve_left h4
              subst h5
              (conv => whnf)
            case' a2 =>
              (conv => whnf)
            all_goals
              refine FCalls.mono (len_m hT5) ?_
              rintro v m8 ⟨rfl, rfl⟩
              (conv => whnf)
              refine brk_true (by rw [hw1]; simp; omega) ?_
              (conv => whnf)
              refine brk_false (by rw [htop, hw3, hw4]; simp; omega) ?_
              (conv => whnf)
              refine ⟨(_, _, m4, _, a5), le_of ⟨rfl, rfl, rfl, rfl, rfl, trivial⟩ rfl, ⟨i + 1, max top5 a5.n, hw2, htop, by omega, hk4, hT5, ew5, by dsimp only; omega, by omega, by dsimp only; omega⟩, ?_⟩
              dsimp only
              rw [hw2]
              omega
    · (conv => whnf)
      exact ⟨rfl, hk0.trans hT.keep⟩
  · (conv => whnf)
    exact ⟨rfl, hk0.trans hT.keep⟩
end Go.Proofs.Ytoifiplefjclbaa
