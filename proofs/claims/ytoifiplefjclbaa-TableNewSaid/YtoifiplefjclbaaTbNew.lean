/- TableNew. -/
import Derived.Test.YtoifiplefjclbaaTbK
import Derived.Laws.Append
namespace Go.Proofs.Ytoifiplefjclbaa
open Go Go.Mv
set_option maxHeartbeats 2000000
set_option maxRecDepth 10000
set_option linter.unusedVariables false
set_option linter.unusedSimpArgs false
theorem setCells_nil (m : Mem) (p : Addr) (i : Nat) : m.setCells p i [] = m := rfl
attribute [local irreducible] FCalls IntKind.wrap bits Mem.set Mem.setCell Mem.setCells
def ent (X : Value) (v : Int) : List Value := [X, .int .i64 v]
/-- The document's table, empty. -/
theorem refAt_c {m : Mem} {r : Nat} {w most : Int} {A : Option Addr} {ks : List Int} {c : Nat} (hr : Blk m r [.int .i64 w, .int .i64 most, .slice none 0 0, .int .i64 0]) :
    FCalls Try.prog 30 [.pointer (some ⟨r, 0, none⟩), .slice A ks.length c] m fun v m' => v = .tuple #[.int .i64 0, .bool false] ∧ m' = m := by
  refine fcalls_of_vc (T := tbl) (B := bodies) (pr := []) (DR := dr30) (args := [.v (.pointer (some ⟨r, 0, none⟩)), .v (.slice A ks.length c)]) tbl_ok bodies_ok mixed Try.func30 rfl (by decide +kernel) (by simp [Try.f30]) rfl ?_
  (conv => whnf)
  refine ⟨_, hr.cell (i := 0) rfl, ?_⟩
  (conv => whnf)
  refine brk_intro (fun h => ?_) (fun h => ?_)
  · (conv => whnf)
    exact ⟨rfl, rfl⟩
  · (conv => whnf)
    refine loop_keep [0] Unit (fun _ => [(6, .v (.int .i64 0))]) (fun _ => []) (fun _ => m) (fun _ => True) (fun _ => 0) () ⟨rfl, trivial⟩ rfl rfl trivial ?_
    (conv => whnf)
    refine ⟨rfl, fun s hJ => ?_⟩
    (conv => whnf)
    refine ⟨_, _, _, hr.cell (i := 2) rfl, ?_⟩
    (conv => whnf)
    refine ⟨_, _, _, hr.cell (i := 2) rfl, ?_⟩
    (conv => whnf)
    exact ⟨rfl, rfl⟩
theorem refPut_c {m : Mem} {r : Nat} {w most val : Int} {A : Option Addr} {ks : List Int} {c : Nat} (hr : Blk m r [.int .i64 w, .int .i64 most, .slice none 0 0, .int .i64 0]) (hw : (ks.length : Int) = w) (hI : Ints m A ks) (hks : ks.length < 2 ^ 20) :
    FCalls Try.prog 18 [.pointer (some ⟨r, 0, none⟩), .slice A ks.length c, .int .i64 val] m fun v m' => Keep [r] m m' ∧
      ((most ≤ 0 ∧ v = .int .i64 10 ∧ Blk m' r [.int .i64 w, .int .i64 most, .slice none 0 0, .int .i64 0]) ∨
       (0 < most ∧ v = .int .i64 0 ∧ ∃ B cap, Blk m' r [.int .i64 w, .int .i64 most, .slice B 1 cap, .int .i64 1])) := by
  refine fcalls_of_vc (T := tbl) (B := bodies) (pr := []) (DR := dr18) (args := [.v (.pointer (some ⟨r, 0, none⟩)), .v (.slice A ks.length c), .v (.int .i64 val)]) tbl_ok bodies_ok mixed Try.func18 rfl (by decide +kernel) (by simp [Try.f18]) rfl ?_
  (conv => whnf)
  refine ⟨_, hr.cell (i := 0) rfl, ?_⟩
  (conv => whnf)
  refine brk_false (by simp [hw]) ?_
  (conv => whnf)
  refine FCalls.mono (refAt_c hr) ?_
  rintro v m' ⟨rfl, rfl⟩
  (conv => whnf)
  refine ⟨_, _, _, hr.cell (i := 2) rfl, ?_⟩
  (conv => whnf)
  refine ⟨_, hr.cell (i := 1) rfl, ?_⟩
  (conv => whnf)
  refine brk_intro (fun h => ?_) (fun h => ?_)
  · have h : most ≤ 0 := by simpa using h
    (conv => whnf)
    exact ⟨Keep.refl, .inl ⟨h, rfl, hr⟩⟩
  have h : 0 < most := by simpa using h
  (conv => whnf)
  refine ⟨_, _, _, hr.cell (i := 2) rfl, ?_⟩
  (conv => whnf)
  refine ⟨by omega, by omega, by omega, ?_⟩
  (conv => whnf)
  refine ⟨[], rfl, .inl rfl, fun _ => .inr ⟨rfl, ?_⟩, fun hc => absurd hc (by simp)⟩
  (conv => whnf)
  rw [show (tbl.at 3).size = 1 from rfl, Nat.mul_one]
  refine ⟨intCells .i64 ks, ints_length _ _, ?_, fun h1 => .inr ⟨rfl, ?b1⟩, fun h1 => ?b2⟩
  · rcases hI.holds with h1 | ⟨q, h1, h2⟩
    · exact .inl (by rw [h1]; rfl)
    · exact .inr ⟨q, h1, h2⟩
  · (conv => whnf)
    intro b2 hb2
    have hr2 := hr.set (o := .cells (ent (.slice none (0 + ks.length) 0) val).toArray 73 (0, 0)) hb2
    have hB2 : Blk ((m').set b2 (.cells (ent (.slice none (0 + ks.length) 0) val).toArray 73 (0, 0))) b2 (ent (.slice none (0 + ks.length) 0) val) := Blk.new
    have hkeep2 := (Keep.refl (bad := [r]) (m := m')).trans (Keep.set (bad := [r]) (o := .cells (ent (.slice none (0 + ks.length) 0) val).toArray 73 (0, 0)) hb2)
    (conv => whnf)
    refine ⟨(ent (.slice none (0 + ks.length) 0) val), rfl, .inr ⟨_, rfl, hB2.holds (i := 0) (fun k v hk => by simpa using hk)⟩, fun hc => absurd hc (by simp), fun hc => ?_⟩
    (conv => whnf)
    refine ⟨growslice_fits (by simp) (by rw [show (tbl.at 73).bytes = 32 from rfl]; simp), [], rfl, .inl ⟨rfl, rfl⟩, fun cap3 b3 hcap3 hb3 => ?_⟩
    have hr3 := hr2.set (o := .cells ([] ++ (ent (.slice none (0 + ks.length) 0) val) ++ (zerosOf tbl 73 (cap3 - (0 + 1))).list).toArray 73 (0, 0)) hb3
    have hkeep3 := hkeep2.trans (Keep.set (bad := [r]) (o := .cells ([] ++ (ent (.slice none (0 + ks.length) 0) val) ++ (zerosOf tbl 73 (cap3 - (0 + 1))).list).toArray 73 (0, 0)) hb3)
    (conv => whnf)
    refine ⟨_, _, _, hr3.cell (i := 2) rfl, ?_⟩
    (conv => whnf)
    refine ⟨by omega, by simp, by simp, ?_⟩
    (conv => whnf)
    refine ⟨[], rfl, .inl rfl, fun hc2 => .inl ⟨_, rfl, fun i hi => absurd hi (by simp), rfl, ?_⟩, fun hc2 => absurd hc2 (by simp; omega)⟩
    (conv => whnf)
    rw [setCells_nil]
    refine ⟨⟨⟨_, hr3.cell (i := 2) rfl⟩, hr3.fz⟩, ?_⟩
    have hr4 := hr3.put (i := 2) (.slice (some ⟨b3, 0, none⟩) 1 cap3)
    (conv => whnf)
    refine ⟨_, hr4.cell (i := 3) rfl, ?_⟩
    (conv => whnf)
    refine ⟨_, _, _, hr4.cell (i := 2) rfl, ?_⟩
    (conv => whnf)
    refine ⟨⟨⟨_, hr4.cell (i := 3) rfl⟩, hr4.fz⟩, ?_⟩
    (conv => whnf)
    exact ⟨hkeep3.trans ((Keep.cell (by simp)).trans (Keep.cell (by simp))), .inr ⟨h, rfl, _, _, hr4.put (i := 3) _⟩⟩
  · (conv => whnf)
    refine ⟨growslice_fits (by omega) (by rw [show (tbl.at 3).bytes = 8 from rfl]; omega), [], rfl, .inl ⟨by omega, rfl⟩, fun cap b hcap hb => ?_⟩
    have hr1 := hr.set (o := .cells ([] ++ intCells .i64 ks ++ (zerosOf tbl 3 (cap - (0 + ks.length))).list).toArray 3 (0, 0)) hb
    have hkeep : Keep [r] m' (m'.set b (.cells ([] ++ intCells .i64 ks ++ (zerosOf tbl 3 (cap - (0 + ks.length))).list).toArray 3 (0, 0))) := Keep.set hb
    (conv => whnf)
    intro b2 hb2
    have hr2 := hr1.set (o := .cells (ent (.slice (some ⟨b, 0, none⟩) (0 + ks.length) cap) val).toArray 73 (0, 0)) hb2
    have hB2 : Blk ((m'.set b (.cells ([] ++ intCells .i64 ks ++ (zerosOf tbl 3 (cap - (0 + ks.length))).list).toArray 3 (0, 0))).set b2 (.cells (ent (.slice (some ⟨b, 0, none⟩) (0 + ks.length) cap) val).toArray 73 (0, 0))) b2 (ent (.slice (some ⟨b, 0, none⟩) (0 + ks.length) cap) val) := Blk.new
    have hkeep2 := hkeep.trans (Keep.set (bad := [r]) (o := .cells (ent (.slice (some ⟨b, 0, none⟩) (0 + ks.length) cap) val).toArray 73 (0, 0)) hb2)
    (conv => whnf)
    refine ⟨(ent (.slice (some ⟨b, 0, none⟩) (0 + ks.length) cap) val), rfl, .inr ⟨_, rfl, hB2.holds (i := 0) (fun k v hk => by simpa using hk)⟩, fun hc => absurd hc (by simp), fun hc => ?_⟩
    (conv => whnf)
    refine ⟨growslice_fits (by simp) (by rw [show (tbl.at 73).bytes = 32 from rfl]; simp), [], rfl, .inl ⟨rfl, rfl⟩, fun cap3 b3 hcap3 hb3 => ?_⟩
    have hr3 := hr2.set (o := .cells ([] ++ (ent (.slice (some ⟨b, 0, none⟩) (0 + ks.length) cap) val) ++ (zerosOf tbl 73 (cap3 - (0 + 1))).list).toArray 73 (0, 0)) hb3
    have hkeep3 := hkeep2.trans (Keep.set (bad := [r]) (o := .cells ([] ++ (ent (.slice (some ⟨b, 0, none⟩) (0 + ks.length) cap) val) ++ (zerosOf tbl 73 (cap3 - (0 + 1))).list).toArray 73 (0, 0)) hb3)
    (conv => whnf)
    refine ⟨_, _, _, hr3.cell (i := 2) rfl, ?_⟩
    (conv => whnf)
    refine ⟨by omega, by simp, by simp, ?_⟩
    (conv => whnf)
    refine ⟨[], rfl, .inl rfl, fun hc2 => .inl ⟨_, rfl, fun i hi => absurd hi (by simp), rfl, ?_⟩, fun hc2 => absurd hc2 (by simp; omega)⟩
    (conv => whnf)
    rw [setCells_nil]
    refine ⟨⟨⟨_, hr3.cell (i := 2) rfl⟩, hr3.fz⟩, ?_⟩
    have hr4 := hr3.put (i := 2) (.slice (some ⟨b3, 0, none⟩) 1 cap3)
    (conv => whnf)
    refine ⟨_, hr4.cell (i := 3) rfl, ?_⟩
    (conv => whnf)
    refine ⟨_, _, _, hr4.cell (i := 2) rfl, ?_⟩
    (conv => whnf)
    refine ⟨⟨⟨_, hr4.cell (i := 3) rfl⟩, hr4.fz⟩, ?_⟩
    (conv => whnf)
    exact ⟨hkeep3.trans ((Keep.cell (by simp)).trans (Keep.cell (by simp))), .inr ⟨h, rfl, _, _, hr4.put (i := 3) _⟩⟩
theorem refSlots_c {m : Mem} {r n cap N : Nat} {w most : Int} {top : Nat} {B : Option Addr} (hr : Blk m r [.int .i64 w, .int .i64 most, .slice B n cap, .int .i64 top]) (hn : n < 2 ^ 40) (ht : top < 2 ^ 40)
    (h : (N = 0 ∧ n = 0) ∨ (∃ k, k < 40 ∧ N = 2 ^ k ∧ 2 * n ≤ N ∧ N ≤ 16 + 8 * top)) :
    FCalls Try.prog 19 [.pointer (some ⟨r, 0, none⟩), .int .i64 N] m fun v m' => v = .bool true ∧ m' = m := by
  refine fcalls_of_vc (T := tbl) (B := bodies) (pr := []) (DR := dr19) (args := [.v (.pointer (some ⟨r, 0, none⟩)), .v (.int .i64 N)]) tbl_ok bodies_ok mixed Try.func19 rfl (by decide +kernel) (by simp [Try.f19]) rfl ?_
  (conv => whnf)
  refine brk_intro (fun h1 => ?_) (fun h1 => ?_)
  · have h1 : N = 0 := by
      have : (N : Int) = 0 := by simpa using h1
      omega
    have h2 : n = 0 := by
      rcases h with h | ⟨k, hk, h3, _⟩
      · exact h.2
      · rw [h1] at h3
        exact absurd h3.symm (Nat.ne_of_gt (Nat.two_pow_pos k))
    (conv => whnf)
    refine ⟨_, _, _, hr.cell (i := 2) rfl, ?_⟩
    (conv => whnf)
    refine ⟨?_, rfl⟩
    simp [single, h2]
  · have h1 : N ≠ 0 := by
      have : ¬ (N : Int) = 0 := by simpa using h1
      omega
    obtain ⟨k, hk, hN, hl, hu⟩ : ∃ k, k < 40 ∧ N = 2 ^ k ∧ 2 * n ≤ N ∧ N ≤ 16 + 8 * top := by
      rcases h with h | h
      · exact absurd h.1 h1
      · exact h
    clear h
    (conv => whnf)
    refine loop_keep [0, 1] Int (fun z => [(5, .v (.int .i64 z))]) (fun _ => []) (fun _ => m) (fun z => ∃ j : Nat, j < 40 ∧ z = ((2 ^ j : Nat) : Int)) (fun z => z.toNat) _ ⟨rfl, trivial⟩ rfl rfl ⟨k, hk, by rw [hN]⟩ ?_
    (conv => whnf)
    refine ⟨rfl, fun z hz => ?_⟩
    obtain ⟨j, hj, rfl⟩ := hz
    (conv => whnf)
    refine brk_intro (fun h3 => ?_) (fun h3 => ?_)
    · have h3 : ((2 ^ j : Nat) : Int) > 1 := by simpa using h3
      obtain ⟨j, rfl⟩ : ∃ j', j = j' + 1 := by
        cases j with
        | zero => simp at h3
        | succ j => exact ⟨j, rfl⟩
      have hp : (2 ^ (j + 1) : Nat) = 2 * 2 ^ j := by rw [Nat.pow_succ]; omega
      have hpb : 2 ^ j < 2 ^ 40 := Nat.pow_lt_pow_right (by omega) (by omega)
      have hp0 : 0 < 2 ^ j := Nat.two_pow_pos j
      have hrem : (((2 ^ (j + 1) : Nat) : Int).tmod 2 == 0) = true := by
        rw [hp]
        simp
      have hquo : IntKind.i64.wrap (((2 ^ (j + 1) : Nat) : Int).tdiv 2) = ((2 ^ j : Nat) : Int) := by
        rw [hp, Int.natCast_mul, Int.tdiv_eq_ediv_of_nonneg (by omega)]
        have : ((2 : Nat) : Int) * ((2 ^ j : Nat) : Int) / 2 = ((2 ^ j : Nat) : Int) := by omega
        rw [this]
        exact wrap_id (by omega) (by omega)
      (conv => whnf)
      refine ⟨by omega, ?_⟩
      (conv => whnf)
      refine brk_true hrem ?_
      (conv => whnf)
      refine ⟨by omega, ?_⟩
      (conv => whnf)
      refine ⟨_, le_of ⟨rfl, rfl, rfl, trivial⟩ rfl, ⟨j, by omega, hquo⟩, ?_⟩
      rw [hquo, hp]
      omega
    · have h3 : ¬ ((2 ^ j : Nat) : Int) > 1 := by simpa using h3
      have hz1 : ((2 ^ j : Nat) : Int) = 1 := by
        have hp0 : 0 < 2 ^ j := Nat.two_pow_pos j
        omega
      have hw1 : IntKind.i64.wrap (2 * (n : Int)) = 2 * (n : Int) := wrap_id (by omega) (by omega)
      have hw3 : IntKind.i64.wrap (8 * (top : Int)) = 8 * (top : Int) := wrap_id (by omega) (by omega)
      have hw4 : IntKind.i64.wrap (16 + 8 * (top : Int)) = 16 + 8 * (top : Int) := wrap_id (by omega) (by omega)
      generalize ((2 ^ j : Nat) : Int) = z at *
      subst hz1
      (conv => whnf)
      refine ⟨_, _, _, hr.cell (i := 2) rfl, ?_⟩
      (conv => whnf)
      refine brk_true (by rw [hw1]; simp; omega) ?_
      (conv => whnf)
      refine ⟨_, hr.cell (i := 3) rfl, ?_⟩
      (conv => whnf)
      rw [hw1, hw3, hw4]
      refine ⟨?_, rfl⟩
      simp [single]
      omega
theorem new_bad {m : Mem} {w most : Int} (h : w < 0 ∨ w > 128 ∨ most < 0 ∨ most > 1000000) :
    FCalls Try.prog 12 [.int .i64 w, .int .i64 most] m fun v m' => v = .tuple #[.pointer none, .int .i64 1] ∧ m' = m := by
  refine fcalls_of_vc (T := tbl) (B := bodies) (pr := []) (DR := dr12) (args := [.v (.int .i64 w), .v (.int .i64 most)]) tbl_ok bodies_ok mixed Try.func12 rfl (by decide +kernel) (by simp [Try.f12]) rfl ?_
  (conv => whnf)
  refine brk_intro (fun h1 => ?_) (fun h1 => ?_)
  · (conv => whnf)
    refine brk_intro (fun h2 => ?_) (fun h2 => ?_)
    · (conv => whnf)
      refine brk_intro (fun h3 => ?_) (fun h3 => ?_)
      · (conv => whnf)
        refine brk_true (by simp at h1 h2 h3 ⊢; omega) ?_
        (conv => whnf)
        exact ⟨rfl, rfl⟩
      · (conv => whnf)
        exact ⟨rfl, rfl⟩
    · (conv => whnf)
      exact ⟨rfl, rfl⟩
  · (conv => whnf)
    exact ⟨rfl, rfl⟩
theorem slots_h {m : Mem} {p n c : Nat} {a b d : Value} {A : Option Addr} (h : Blk m p [a, b, .slice A n c, d]) : FCalls Try.prog 20 [.pointer (some ⟨p, 0, none⟩)] m fun v m' => v = .int .i64 n ∧ m' = m := by
  refine fcalls_of_vc (T := tbl) (B := bodies) (pr := []) (DR := dr20) (args := [.v (.pointer (some ⟨p, 0, none⟩))]) tbl_ok bodies_ok mixed Try.func20 rfl (by decide +kernel) (by simp [Try.f20]) rfl ?_
  (conv => whnf)
  refine ⟨_, _, _, h.cell (i := 2) rfl, ?_⟩
  (conv => whnf)
  exact ⟨rfl, rfl⟩
theorem newLaw_c {m : Mem} {w most : Int} (h0 : -9223372036854775808 ≤ w) (h1 : w ≤ 9223372036854775807) (h2 : -9223372036854775808 ≤ most) (h3 : most ≤ 9223372036854775807) :
    FCalls Try.prog 5 [.int .i64 w, .int .i64 most] m fun v m' => v = .bool true ∧ Keep [] m m' := by
  refine fcalls_of_vc (T := tbl) (B := bodies) (pr := []) (DR := dr5) (args := [.v (.int .i64 w), .v (.int .i64 most)]) tbl_ok bodies_ok mixed Try.func5 rfl (by decide +kernel) (by simp [Try.f5]) rfl ?_
  (conv => whnf)
  refine FCalls.mono known_c ?_
  rintro v m1 ⟨rfl, hk1⟩
  (conv => whnf)
  by_cases hv : w < 0 ∨ w > 128 ∨ most < 0 ∨ most > 1000000
  · refine FCalls.mono (new_bad hv) ?_
    rintro v m2 ⟨rfl, rfl⟩
    (conv => whnf)
    refine brk_intro (fun h1 => ?_) (fun h1 => ?_)
    · (conv => whnf)
      refine brk_intro (fun h2 => ?_) (fun h2 => ?_)
      · (conv => whnf)
        refine brk_intro (fun h3 => ?_) (fun h3 => ?_)
        · (conv => whnf)
          refine brk_true (by simp at h1 h2 h3 ⊢; omega) ?_
          (conv => whnf)
          exact ⟨rfl, hk1⟩
        · (conv => whnf)
          exact ⟨rfl, hk1⟩
      · (conv => whnf)
        exact ⟨rfl, hk1⟩
    · (conv => whnf)
      exact ⟨rfl, hk1⟩
  · obtain ⟨n, rfl⟩ := Int.eq_ofNat_of_zero_le (show 0 ≤ w by omega)
    refine FCalls.mono (new_m (by omega) (by omega) (by omega) (by omega)) ?_
    rintro v m2 ⟨p, rfl, hT2⟩
    (conv => whnf)
    refine brk_true (by simp; omega) ?_
    (conv => whnf)
    refine brk_true (by simp; omega) ?_
    (conv => whnf)
    refine brk_false (by simp; omega) ?_
    have hl0 := len_m hT2
    (conv => whnf)
    refine FCalls.mono hl0 ?_
    rintro v m3 ⟨rfl, rfl⟩
    (conv => whnf)
    intro r hr0
    obtain ⟨hTr, hfr⟩ := hT2.build (o := .cells [.int .i64 n, .int .i64 most, .slice none 0 0, .int .i64 0].toArray 40 (0, 0)) hr0
    have hR : Blk (m1.set r (.cells [.int .i64 n, .int .i64 most, .slice none 0 0, .int .i64 0].toArray 40 (0, 0))) r [.int .i64 n, .int .i64 most, .slice none 0 0, .int .i64 0] := Blk.new
    have hkr : Keep [] m (m1.set r (.cells [.int .i64 n, .int .i64 most, .slice none 0 0, .int .i64 0].toArray 40 (0, 0))) := hk1.trans (Keep.set hfr)
    have hmr : m r = none := by
      cases hc : m r with
      | none => rfl
      | some o => rw [hk1 r o hc (by simp)] at hfr; cases hfr
    have hw1 : IntKind.i64.wrap ((n : Int) + 1) = ((n + 1 : Nat) : Int) := by rw [wrap_id (by omega) (by omega)]; rfl
    (conv => whnf)
    refine ⟨by omega, by omega, by omega, by rw [show ((tbl.at 3).bytes : Int) = 8 from rfl]; omega, ?_⟩
    intro b1 hb1
    obtain ⟨hT1, hf1⟩ := hTr.build (o := .cells (intCells .i64 (List.replicate (n) 0)).toArray 3 (0, 0)) hb1
    have hk1' := hkr.trans (Keep.set (bad := []) (o := .cells (intCells .i64 (List.replicate (n) 0)).toArray 3 (0, 0)) hf1)
    have hg1 := get_m (c := n) hT1 Ints.built
    simp only [List.length_replicate, Option.getD_none, Option.isSome_none] at hg1
    (conv => whnf)
    refine FCalls.mono hg1 ?_
    rintro v m4 ⟨rfl, rfl⟩
    (conv => whnf)
    rw [hw1]
    refine ⟨by omega, by omega, by omega, by rw [show ((tbl.at 3).bytes : Int) = 8 from rfl]; omega, ?_⟩
    intro b2 hb2
    obtain ⟨hT2, hf2⟩ := hT1.build (o := .cells (intCells .i64 (List.replicate (n + 1) 0)).toArray 3 (0, 0)) hb2
    have hk2 := hk1'.trans (Keep.set (bad := []) (o := .cells (intCells .i64 (List.replicate (n + 1) 0)).toArray 3 (0, 0)) hf2)
    have hp1 := put_m (c := n + 1) 1 hT2 Ints.built
    simp only [List.length_replicate] at hp1
    (conv => whnf)
    refine FCalls.mono hp1 ?_
    rintro v m5 ⟨code1, a5, rfl, hT5, e1, e2, e3⟩
    simp only [List.length_replicate] at e3
    rw [if_pos (by omega)] at e3
    obtain ⟨rfl, rfl⟩ := e3
    (conv => whnf)
    refine ⟨by omega, by omega, by omega, by rw [show ((tbl.at 3).bytes : Int) = 8 from rfl]; omega, ?_⟩
    intro b3 hb3
    obtain ⟨hT3, hf3⟩ := hT5.build (o := .cells (intCells .i64 (List.replicate (n) 0)).toArray 3 (0, 0)) hb3
    have hk3 := hk2.trans (Keep.set (bad := []) (o := .cells (intCells .i64 (List.replicate (n) 0)).toArray 3 (0, 0)) hf3)
    have hp2 := put_m (c := n) 1 hT3 Ints.built
    simp only [List.length_replicate] at hp2
    (conv => whnf)
    refine FCalls.mono hp2 ?_
    rintro v m6 ⟨code2, a6, rfl, hT6, u1, u2, u3⟩
    simp at u3
    have hlen6 := hT6.len
    (conv => whnf)
    refine ⟨by omega, by omega, by omega, by rw [show ((tbl.at 3).bytes : Int) = 8 from rfl]; omega, ?_⟩
    intro b4 hb4
    obtain ⟨hT4, hf4⟩ := hT6.build (o := .cells (intCells .i64 (List.replicate (n) 0)).toArray 3 (0, 0)) hb4
    have hk4 := hk3.trans (Keep.set (bad := []) (o := .cells (intCells .i64 (List.replicate (n) 0)).toArray 3 (0, 0)) hf4)
    have hR6 : Blk (m6.set b4 (.cells (intCells .i64 (List.replicate n 0)).toArray 3 (0, 0))) r [.int .i64 n, .int .i64 most, .slice none 0 0, .int .i64 0] := by
      have hrr : Keep [] (m1.set r (.cells [.int .i64 n, .int .i64 most, .slice none 0 0, .int .i64 0].toArray 40 (0, 0))) (m6.set b4 (.cells (intCells .i64 (List.replicate n 0)).toArray 3 (0, 0))) :=
        (((Keep.set hf1).trans (Keep.set hf2)).trans (Keep.set hf3)).trans ((Keep.set hf4).trans hT4.keep)
      exact hrr.blk hR (by simp)
    have hq := refPut_c (val := 1) (c := n) (ks := List.replicate n 0) (A := some ⟨b4, 0, none⟩) hR6 (by simp) Ints.built (by simp; omega)
    simp only [List.length_replicate] at hq
    (conv => whnf)
    refine FCalls.mono hq ?_
    rintro v m7 ⟨hk7, hor⟩
    obtain ⟨t, ht⟩ := hT4
    have hpr : p ≠ r := by
      have h1 := hTr.choose_spec.fp
      rintro rfl
      simp [Mem.set] at h1
    have hP7 := hk7.blk ht.tab.head (by simpa using hpr)
    have hfin := (hk4.trans ht.keep).bads hk7 (by simpa using hmr)
    have hel := ht.el
    rcases hor with ⟨hm, rfl, hR7⟩ | ⟨hm, rfl, B, cap, hR7⟩
    · rw [if_pos hm] at u3
      obtain ⟨rfl, rfl⟩ := u3
      dsimp only at hel
      have hs := slots_h hP7
      rw [hel] at hs
      (conv => whnf)
      refine FCalls.mono hs ?_
      rintro v m8 ⟨rfl, rfl⟩
      (conv => whnf)
      refine FCalls.mono (refSlots_c (n := 0) (cap := 0) (top := 0) (N := 0) (B := none) hR7 (by omega) (by omega) (.inl ⟨rfl, rfl⟩)) ?_
      rintro v m9 ⟨rfl, rfl⟩
      (conv => whnf)
      exact ⟨rfl, hfin⟩
    · rw [if_neg (by omega)] at u3
      obtain ⟨rfl, u3, u4, u5⟩ := u3
      have h8 : a6.len = 8 := by
        have := hlen6.2.1
        rcases u5 with u5 | u5
        · dsimp only at u5; omega
        · have := u5.2; simpa using this
      have hs := slots_h hP7
      rw [hel, h8] at hs
      (conv => whnf)
      refine FCalls.mono hs ?_
      rintro v m8 ⟨rfl, rfl⟩
      (conv => whnf)
      refine FCalls.mono (refSlots_c (n := 1) (cap := cap) (top := 1) (N := 8) (B := B) hR7 (by omega) (by omega) (.inr ⟨3, by omega, rfl, by omega, by omega⟩)) ?_
      rintro v m9 ⟨rfl, rfl⟩
      (conv => whnf)
      exact ⟨rfl, hfin⟩
end Go.Proofs.Ytoifiplefjclbaa
