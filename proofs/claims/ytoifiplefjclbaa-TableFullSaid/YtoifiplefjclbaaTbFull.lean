/- TableFull. -/
import Derived.Test.YtoifiplefjclbaaTbJ
namespace Go.Proofs.Ytoifiplefjclbaa
open Go Go.Mv
set_option maxHeartbeats 2000000
set_option maxRecDepth 10000
set_option linter.unusedVariables false
set_option linter.unusedSimpArgs false
attribute [local irreducible] FCalls IntKind.wrap bits Mem.set Mem.setCell Mem.setCells
def fullF (i : Nat) : List Int → Option Int
  | [z] => if 0 ≤ z ∧ z < i then some (-z) else none
  | _ => none
theorem fullF_succ (i : Nat) : updF (fullF i) [(i : Int)] (some (-(i : Int))) = fullF (i + 1) := by
  funext k
  unfold updF
  by_cases hk : k = [(i : Int)]
  · rw [if_pos hk, hk]
    simp [fullF]
    omega
  · rw [if_neg hk]
    match k with
    | [] => rfl
    | [z] =>
      have hz : z ≠ i := by rintro rfl; exact hk rfl
      simp only [fullF]
      by_cases h : 0 ≤ z ∧ z < i
      · rw [if_pos h, if_pos (by omega)]
      · rw [if_neg h, if_neg (by omega)]
    | _ :: _ :: _ => rfl
theorem full_c {m : Mem} {most drop : Int} (h0 : -9223372036854775808 ≤ most) (h1 : most ≤ 9223372036854775807) (h2 : -9223372036854775808 ≤ drop) (h3 : drop ≤ 9223372036854775807) :
    FCalls Try.prog 4 [.int .i64 most, .int .i64 drop] m fun v m' => v = .bool true ∧ Keep [] m m' := by
  refine fcalls_of_vc (T := tbl) (B := bodies) (pr := []) (DR := dr4) (args := [.v (.int .i64 most), .v (.int .i64 drop)]) tbl_ok bodies_ok mixed Try.func4 rfl (by decide +kernel) (by simp [Try.f4]) rfl ?_
  (conv => whnf)
  refine FCalls.mono known_c ?_
  rintro v m1 ⟨rfl, hk1⟩
  (conv => whnf)
  refine FCalls.mono (pick_c h0 h1 (by omega)) ?_
  rintro v m2 ⟨⟨r, rfl, hr0, hr1⟩, rfl⟩
  obtain ⟨n, rfl⟩ := Int.eq_ofNat_of_zero_le hr0
  (conv => whnf)
  refine FCalls.mono (new_m (by omega) (by omega) hr0 (by omega)) ?_
  rintro v m3 ⟨p, rfl, hT3⟩
  (conv => whnf)
  refine loop_keep [0, 1, 6] (Int × Mem × Mem × Abs) (fun s => [(8, .v (.int .i64 s.1))]) (fun _ => []) (fun s => s.2.2.1)
    (fun s => ∃ i : Nat, s.1 = i ∧ i ≤ n ∧ Keep [] m s.2.1 ∧ TM s.2.1 s.2.2.1 p s.2.2.2 ∧ s.2.2.2.w = 1 ∧ s.2.2.2.most = n ∧ s.2.2.2.n = i ∧ s.2.2.2.f = fullF i) (fun s => n - s.1.toNat) (0, m2, m3, _) ⟨rfl, trivial⟩ rfl rfl ⟨0, rfl, by omega, hk1, hT3, rfl, rfl, rfl, ?_⟩ ?_
  · funext k
    match k with
    | [] => rfl
    | [z] => simp only [fullF]; rw [if_neg (by omega)]
    | _ :: _ :: _ => rfl
  (conv => whnf)
  refine ⟨rfl, fun s hJ => ?_⟩
  obtain ⟨z, m0, M, a⟩ := s
  obtain ⟨i, rfl, hi, hk0, hT, ew, em, en, ef⟩ := hJ
  dsimp only at hk0 hT ew em en ef
  (conv => whnf)
  refine brk_intro (fun h => ?_) (fun h => ?_)
  · have hin : i < n := by simpa using h
    (conv => whnf)
    intro b hb
    obtain ⟨hT', hf⟩ := hT.build (o := .cells (intCells .i64 [(i : Int)]).toArray 3 (0, 0)) hb
    have hw1 : IntKind.i64.wrap (0 - (i : Int)) = -(i : Int) := by rw [wrap_id (by omega) (by omega)]; omega
    have hw2 : IntKind.i64.wrap ((i : Int) + 1) = (i : Int) + 1 := wrap_id (by omega) (by omega)
    have hc := put_m (ks := [(i : Int)]) (c := 1) (-(i : Int)) hT' Ints.built
    rw [← hw1] at hc
    (conv => whnf)
    refine FCalls.mono hc ?_
    rintro v M1 ⟨code, a1, rfl, hT1, u1, u2, u3⟩
    rw [hw1] at u3
    have hno : fullF i [(i : Int)] = none := by simp [fullF]
    rw [ew, em, en, ef, hno] at u3
    simp at u3
    rw [if_neg (by omega)] at u3
    obtain ⟨rfl, u3, u4, _⟩ := u3
    have hl := len_m hT1
    rw [u4] at hl
    (conv => whnf)
    refine FCalls.mono hl ?_
    rintro v M2 ⟨rfl, rfl⟩
    (conv => whnf)
    refine brk_false (by dsimp only; rw [hw2]; simp) ?_
    (conv => whnf)
    refine ⟨(_, _, _, a1), le_of ⟨rfl, rfl, rfl, rfl, trivial⟩ rfl, ⟨i + 1, ?_, by omega, ?_, hT1, u1.trans ew, u2.trans em, u4, ?_⟩, ?_⟩
    · dsimp only
      rw [hw2]
      omega
    · exact hk0.trans (Keep.set hf)
    · rw [u3]
      exact fullF_succ i
    · dsimp only
      rw [hw2]
      omega
  · have hin : i = n := by
      have : ¬ i < n := by simpa using h
      omega
    subst hin
    have hno : fullF i [(i : Int)] = none := by simp [fullF]
    (conv => whnf)
    intro b1 hb1
    obtain ⟨hT1, hf1⟩ := hT.build (o := .cells (intCells .i64 [(i : Int)]).toArray 3 (0, 0)) hb1
    have hk1' := hk0.trans (Keep.set (o := .cells (intCells .i64 [(i : Int)]).toArray 3 (0, 0)) hf1)
    (conv => whnf)
    refine FCalls.mono (put_m (ks := [(i : Int)]) (c := 1) 1 hT1 Ints.built) ?_
    rintro v M1 ⟨code, a1, rfl, hT1', u1, u2, u3⟩
    rw [ew, em, en, ef, hno] at u3
    simp at u3
    obtain ⟨rfl, rfl⟩ := u3
    have hl := len_m hT1'
    rw [en] at hl
    (conv => whnf)
    refine FCalls.mono hl ?_
    rintro v M2 ⟨rfl, rfl⟩
    (conv => whnf)
    refine brk_false (by simp) ?_
    (conv => whnf)
    refine brk_intro (fun h4 => ?_) (fun h4 => ?_)
    · (conv => whnf)
      exact ⟨rfl, hk1'.trans hT1'.keep⟩
    have hi0 : 0 < i := by
      have : ¬ (i : Int) = 0 := by simpa using h4
      omega
    (conv => whnf)
    refine FCalls.mono (pick_c h2 h3 (by omega)) ?_
    rintro v M3 ⟨⟨k, rfl, hk0', hk1''⟩, rfl⟩
    have hfk : fullF i [k] = some (-k) := by simp only [fullF]; rw [if_pos ⟨hk0', hk1''⟩]
    have hki : k ≠ i := by omega
    (conv => whnf)
    intro b2 hb2
    obtain ⟨hT2, hf2⟩ := hT1'.build (o := .cells (intCells .i64 [k]).toArray 3 (0, 0)) hb2
    have hk2 := hk1'.trans (Keep.set (o := .cells (intCells .i64 [k]).toArray 3 (0, 0)) hf2)
    (conv => whnf)
    refine FCalls.mono (put_m (ks := [k]) (c := 1) 5 hT2 Ints.built) ?_
    rintro v M4 ⟨code, a2, rfl, hT2', v1, v2, v3⟩
    rw [ew, em, en, ef, hfk] at v3
    simp at v3
    obtain ⟨rfl, v3, v4, v5⟩ := v3
    rw [ew] at v1
    rw [em] at v2
    have g1 : a2.f [k] = some 5 := by rw [v3]; simp [updF]
    (conv => whnf)
    intro b3 hb3
    obtain ⟨hT3, hf3⟩ := hT2'.build (o := .cells (intCells .i64 [k]).toArray 3 (0, 0)) hb3
    have hk3 := hk2.trans (Keep.set (o := .cells (intCells .i64 [k]).toArray 3 (0, 0)) hf3)
    have hg1 := get_m (ks := [k]) (c := 1) hT3 Ints.built
    rw [g1] at hg1
    (conv => whnf)
    refine FCalls.mono hg1 ?_
    rintro v M5 ⟨rfl, rfl⟩
    (conv => whnf)
    intro b4 hb4
    obtain ⟨hT4, hf4⟩ := hT3.build (o := .cells (intCells .i64 [k]).toArray 3 (0, 0)) hb4
    have hk4 := hk3.trans (Keep.set (o := .cells (intCells .i64 [k]).toArray 3 (0, 0)) hf4)
    have hd1 := drop_m (ks := [k]) (c := 1) hT4 Ints.built
    rw [g1] at hd1
    (conv => whnf)
    refine FCalls.mono hd1 ?_
    rintro v M6 ⟨rfl, hT5, _⟩
    (conv => whnf)
    intro b5 hb5
    obtain ⟨hT6, hf5⟩ := hT5.build (o := .cells (intCells .i64 [(i : Int)]).toArray 3 (0, 0)) hb5
    have hk5 := hk4.trans (Keep.set (o := .cells (intCells .i64 [(i : Int)]).toArray 3 (0, 0)) hf5)
    (conv => whnf)
    refine FCalls.mono (put_m (ks := [(i : Int)]) (c := 1) 6 hT6 Ints.built) ?_
    rintro v M7 ⟨code, a3, rfl, hT6', w1, w2, w3⟩
    have g2 : updF a2.f [k] none [(i : Int)] = none := by
      rw [v3]
      unfold updF
      rw [if_neg (by simp; omega), if_neg (by simp; omega)]
      exact hno
    dsimp only at w1 w2 w3
    simp [v1, v2, v4, g2] at w3
    rw [if_neg (by omega)] at w3
    obtain ⟨rfl, w3, w4, w5⟩ := w3
    (conv => whnf)
    intro b6 hb6
    obtain ⟨hT7, hf6⟩ := hT6'.build (o := .cells (intCells .i64 [k]).toArray 3 (0, 0)) hb6
    have hk6 := hk5.trans (Keep.set (o := .cells (intCells .i64 [k]).toArray 3 (0, 0)) hf6)
    (conv => whnf)
    refine FCalls.mono (put_m (ks := [k]) (c := 1) 7 hT7 Ints.built) ?_
    rintro v M8 ⟨code, a4, rfl, hT7', x1, x2, x3⟩
    have g3 : a3.f [k] = none := by
      rw [w3]
      unfold updF
      rw [if_neg (by simp; omega), if_pos rfl]
    simp [w1, v1, w2, v2, w4, g3] at x3
    rw [if_pos (by omega)] at x3
    obtain ⟨rfl, rfl⟩ := x3
    (conv => whnf)
    intro b7 hb7
    obtain ⟨hT8, hf7⟩ := hT7'.build (o := .cells (intCells .i64 [(i : Int)]).toArray 3 (0, 0)) hb7
    have hk7 := hk6.trans (Keep.set (o := .cells (intCells .i64 [(i : Int)]).toArray 3 (0, 0)) hf7)
    have g4 : a4.f [(i : Int)] = some 6 := by rw [w3]; simp [updF]
    have hg2 := get_m (ks := [(i : Int)]) (c := 1) hT8 Ints.built
    rw [g4] at hg2
    (conv => whnf)
    refine FCalls.mono hg2 ?_
    rintro v M9 ⟨rfl, rfl⟩
    have hl2 := len_m hT8
    have w4' : ((a4.n : Nat) : Int) = i := by rw [w4]; omega
    rw [w4'] at hl2
    (conv => whnf)
    refine FCalls.mono hl2 ?_
    rintro v M10 ⟨rfl, rfl⟩
    (conv => whnf)
    refine ⟨?_, hk7.trans hT8.keep⟩
    simp [single]
end Go.Proofs.Ytoifiplefjclbaa
