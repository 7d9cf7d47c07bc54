/- The laws' own small functions: pick, Compare, same, known. -/
import Derived.Test.YtoifiplefjclbaaTbG
namespace Go.Proofs.Ytoifiplefjclbaa
open Go Go.Mv
set_option maxHeartbeats 1000000
set_option linter.unusedVariables false
set_option linter.unusedSimpArgs false
attribute [local irreducible] FCalls IntKind.wrap bits Mem.set Mem.setCell Mem.setCells
theorem pick_c {m : Mem} {c n : Int} (h0 : -9223372036854775808 ≤ c) (h1 : c ≤ 9223372036854775807) (hn : 0 < n) : FCalls Try.prog 11 [.int .i64 c, .int .i64 n] m fun v m' => (∃ r, v = .int .i64 r ∧ 0 ≤ r ∧ r < n) ∧ m' = m := by
  have hr : ∀ x : Int, 0 ≤ x → 0 ≤ x.tmod n ∧ x.tmod n < n := fun x hx => ⟨Int.tmod_nonneg _ hx, Int.tmod_lt_of_pos _ hn⟩
  refine fcalls_of_vc (T := tbl) (B := bodies) (pr := []) (DR := dr11) (args := [.v (.int .i64 c), .v (.int .i64 n)]) tbl_ok bodies_ok mixed Try.func11 rfl (by decide +kernel) (by simp [Try.f11]) rfl ?_
  (conv => whnf)
  refine brk_intro (fun h => ?_) (fun h => ?_)
  · have h : c < 0 := by simpa using h
    (conv => whnf)
    refine ⟨by omega, ?_⟩
    (conv => whnf)
    refine ⟨⟨_, rfl, hr _ ?_⟩, rfl⟩
    rw [wrap_id (x := c + 1) (by omega) (by omega), wrap_id (by omega) (by omega)]
    omega
  · have h : ¬ c < 0 := by simpa using h
    (conv => whnf)
    refine ⟨by omega, ?_⟩
    (conv => whnf)
    exact ⟨⟨_, rfl, hr _ (by omega)⟩, rfl⟩
def cmpL : List Int → List Int → Int
  | a :: r, b :: s => if a < b then -1 else if a > b then 1 else cmpL r s
  | _, _ => 0
theorem cmpL_eq : ∀ {a b : List Int}, a.length = b.length → (cmpL a b = 0 ↔ a = b)
  | [], [], _ => by simp [cmpL]
  | [], _ :: _, h => by simp at h
  | _ :: _, [], h => by simp at h
  | a :: r, b :: s, h => by
    have ih := cmpL_eq (a := r) (b := s) (by simpa using h)
    simp only [cmpL]
    split
    · simp; omega
    · split
      · simp; omega
      · have : a = b := by omega
        rw [ih, this]
        simp
theorem drop_getD {xs : List Int} {i : Nat} (h : i < xs.length) : xs.drop i = xs.getD i 0 :: xs.drop (i + 1) := by
  rw [List.drop_eq_getElem_cons h]
  simp [List.getD, h]
theorem compare_c {m : Mem} {A B : Option Addr} {xs ys : List Int} {c d : Nat} (hA : Ints m A xs) (hB : Ints m B ys) (hl : xs.length = ys.length) (hn : xs.length < 2 ^ 62) :
    FCalls Try.prog 29 [.slice A xs.length c, .slice B ys.length d] m fun v m' => v = .int .i64 (cmpL xs ys) ∧ m' = m := by
  refine fcalls_of_vc (T := tbl) (B := bodies) (pr := []) (DR := dr29) (args := [.v (.slice A xs.length c), .v (.slice B ys.length d)]) tbl_ok bodies_ok mixed Try.func29 rfl (by decide +kernel) (by simp [Try.f29]) rfl ?_
  (conv => whnf)
  refine loop_keep [0, 1] Int (fun i => [(5, .v (.int .i64 i))]) (fun _ => []) (fun _ => m) (fun i => 0 ≤ i ∧ i ≤ xs.length ∧ cmpL (xs.drop i.toNat) (ys.drop i.toNat) = cmpL xs ys) (fun i => xs.length - i.toNat) 0 ⟨rfl, trivial⟩ rfl rfl ⟨by omega, by omega, by simp⟩ ?_
  (conv => whnf)
  refine ⟨rfl, fun i hJ => ?_⟩
  obtain ⟨hJ1, hJ2, hJ3⟩ := hJ
  (conv => whnf)
  refine brk_intro (fun h1 => ?_) (fun h1 => ?_)
  · have h1 : i < xs.length := by simpa using h1
    obtain ⟨p, hp, hx⟩ := hA.at hJ1 h1
    obtain ⟨q, hq, hy⟩ := hB.at hJ1 (by omega)
    have hi1 : IntKind.i64.wrap (i + 1) = i + 1 := wrap_id (by omega) (by omega)
    rw [drop_getD (xs := xs) (by omega), drop_getD (xs := ys) (by omega), cmpL] at hJ3
    (conv => whnf)
    refine ⟨p, hp, hJ1, h1, ?_⟩
    (conv => whnf)
    refine ⟨_, hx, ?_⟩
    (conv => whnf)
    refine ⟨q, hq, hJ1, by omega, ?_⟩
    (conv => whnf)
    refine ⟨_, hy, ?_⟩
    (conv => whnf)
    refine brk_intro (fun h2 => ?_) (fun h2 => ?_)
    · have h2 : xs.getD i.toNat 0 < ys.getD i.toNat 0 := by simpa using h2
      rw [if_pos h2] at hJ3
      (conv => whnf)
      exact ⟨by rw [← hJ3]; rfl, rfl⟩
    · have h2 : ¬ xs.getD i.toNat 0 < ys.getD i.toNat 0 := by simpa using h2
      rw [if_neg h2] at hJ3
      (conv => whnf)
      refine ⟨p, hp, hJ1, h1, ?_⟩
      (conv => whnf)
      refine ⟨_, hx, ?_⟩
      (conv => whnf)
      refine ⟨q, hq, hJ1, by omega, ?_⟩
      (conv => whnf)
      refine ⟨_, hy, ?_⟩
      (conv => whnf)
      refine brk_intro (fun h3 => ?_) (fun h3 => ?_)
      · have h3 : xs.getD i.toNat 0 > ys.getD i.toNat 0 := by simpa using h3
        rw [if_pos h3] at hJ3
        (conv => whnf)
        exact ⟨by rw [← hJ3]; rfl, rfl⟩
      · have h3 : ¬ xs.getD i.toNat 0 > ys.getD i.toNat 0 := by simpa using h3
        rw [if_neg h3] at hJ3
        (conv => whnf)
        refine ⟨_, le_of ⟨rfl, rfl, rfl, trivial⟩ rfl, ?_⟩
        have hi2 : (i + 1).toNat = i.toNat + 1 := by omega
        rw [hi1, hi2]
        exact ⟨⟨by omega, by omega, hJ3⟩, by omega⟩
  · have h1 : ¬ i < xs.length := by simpa using h1
    (conv => whnf)
    have h2 : xs.drop i.toNat = [] := List.drop_eq_nil_of_le (by omega)
    rw [h2] at hJ3
    exact ⟨by rw [← hJ3]; rfl, rfl⟩
theorem same_c {m : Mem} {A B : Option Addr} {xs ys : List Int} {c d : Nat} (hA : Ints m A xs) (hB : Ints m B ys) (hn : ys.length < 2 ^ 62) :
    FCalls Try.prog 17 [.slice A xs.length c, .slice B ys.length d] m fun v m' => v = .bool (decide (xs = ys)) ∧ m' = m := by
  refine fcalls_of_vc (T := tbl) (B := bodies) (pr := []) (DR := dr17) (args := [.v (.slice A xs.length c), .v (.slice B ys.length d)]) tbl_ok bodies_ok mixed Try.func17 rfl (by decide +kernel) (by simp [Try.f17]) rfl ?_
  (conv => whnf)
  refine brk_intro (fun h => ?_) (fun h => ?_)
  · have hl : xs.length = ys.length := by
      have : (xs.length : Int) = ys.length := by simpa using h
      omega
    (conv => whnf)
    refine FCalls.mono (compare_c hA hB hl (by omega)) ?_
    rintro v m' ⟨rfl, rfl⟩
    (conv => whnf)
    refine ⟨?_, rfl⟩
    have : (decide (xs = ys)) = (cmpL xs ys == 0) := by
      have h0 := cmpL_eq hl
      by_cases he : xs = ys
      · rw [decide_eq_true he, h0.2 he]
        rfl
      · rw [decide_eq_false he]
        cases hd : cmpL xs ys == 0 with
        | false => rfl
        | true => exact absurd (h0.1 (by simpa using hd)) he
    simp [single, this, hl]
  · have hl : ¬ (xs.length : Int) = ys.length := by simpa using h
    (conv => whnf)
    refine ⟨?_, rfl⟩
    have : xs ≠ ys := by rintro rfl; exact hl rfl
    simp [single, this, hl]
end Go.Proofs.Ytoifiplefjclbaa
