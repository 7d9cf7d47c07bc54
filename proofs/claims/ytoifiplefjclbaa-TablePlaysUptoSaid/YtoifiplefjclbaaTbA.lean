/- Rows of numbers in memory; slices.Equal, hash of the table. -/
import Derived.Test.YtoifiplefjclbaaMvTab
import Derived.Test.YtoifiplefjclbaaMvUse
namespace Go.Proofs.Ytoifiplefjclbaa
open Go Go.Mv
set_option maxHeartbeats 400000
set_option linter.unusedVariables false
set_option linter.unusedSimpArgs false
attribute [local irreducible] FCalls IntKind.wrap bits Mem.set Mem.setCell Mem.setCells
def Ints (m : Mem) (A : Option Addr) (xs : List Int) : Prop := xs = [] ∨ ∃ b i, A = some ⟨b, i, none⟩ ∧ ∀ k x, xs[k]? = some x → m.cell ⟨b, i + k, none⟩ = some (.int .i64 x)
theorem Ints.at {m : Mem} {A : Option Addr} {xs : List Int} {i : Int} (h : Ints m A xs) (h0 : 0 ≤ i) (h1 : i < xs.length) : ∃ p, A = some p ∧ m.cell (p.add (i.toNat * 1)) = some (.int .i64 (xs.getD i.toNat 0)) := by
  rcases h with rfl | ⟨b, j, rfl, h⟩
  · simp at h1; omega
  · refine ⟨_, rfl, ?_⟩
    rw [add_mk, Nat.mul_one]
    refine h _ _ ?_
    have : i.toNat < xs.length := by omega
    simp [List.getD, this]
theorem list_eq_of_getD {xs ys : List Int} (hl : xs.length = ys.length) (h : ∀ k, k < xs.length → xs.getD k 0 = ys.getD k 0) : xs = ys := by
  apply List.ext_getElem hl
  intro k h1 h2
  have := h k h1
  simpa [List.getD, h1, h2] using this
theorem equal_c {m : Mem} {A B : Option Addr} {xs ys : List Int} {c d : Nat} (hA : Ints m A xs) (hB : Ints m B ys) (hn : xs.length < 2 ^ 62) : FCalls Try.prog 38 [.slice A xs.length c, .slice B ys.length d] m fun v m' => v = .bool (decide (xs = ys)) ∧ m' = m := by
  refine fcalls_of_vc (T := tbl) (B := bodies) (pr := []) (DR := dr38) (args := [.v (.slice A xs.length c), .v (.slice B ys.length d)]) tbl_ok bodies_ok mixed Try.func38 rfl (by decide +kernel) (by simp [Try.f38]) rfl ?_
  (conv => whnf)
  refine brk_intro (fun h => ?_) (fun h => ?_)
  · (conv => whnf)
    refine ⟨?_, rfl⟩
    have : xs ≠ ys := by rintro rfl; simp at h
    simp [single, this]
  · have hlen : xs.length = ys.length := by
      have : (xs.length : Int) = ys.length := by simpa using h
      omega
    (conv => whnf)
    refine loop_keep [0, 1, 12] Int (fun i => [(13, .v (.int .i64 i))]) (fun _ => []) (fun _ => m) (fun i => 0 ≤ i ∧ i ≤ xs.length ∧ ∀ k, k < i.toNat → xs.getD k 0 = ys.getD k 0) (fun i => xs.length - i.toNat) 0 ⟨rfl, trivial⟩ rfl rfl ⟨by omega, by omega, by simp⟩ ?_
    (conv => whnf)
    refine ⟨rfl, fun i hJ => ?_⟩
    obtain ⟨hJ1, hJ2, hJ3⟩ := hJ
    (conv => whnf)
    refine brk_intro (fun h1 => ?_) (fun h1 => ?_)
    · have h1 : i < xs.length := by simpa using h1
      obtain ⟨p, hp, hx⟩ := hA.at hJ1 h1
      obtain ⟨q, hq, hy⟩ := hB.at hJ1 (by omega)
      (conv => whnf)
      refine ⟨p, hp, hJ1, h1, ?_⟩
      (conv => whnf)
      refine ⟨_, hx, ?_⟩
      (conv => whnf)
      refine ⟨q, hq, hJ1, by omega, ?_⟩
      (conv => whnf)
      refine ⟨_, hy, ?_⟩
      (conv => whnf)
      refine brk_intro (fun h2 => ?_) (fun h2 => ?_)
      · (conv => whnf)
        refine ⟨?_, rfl⟩
        have : xs ≠ ys := by rintro rfl; simp at h2
        simp [single, this]
      · (conv => whnf)
        have hw : IntKind.i64.wrap (i + 1) = i + 1 := wrap_id (by omega) (by omega)
        refine ⟨_, le_of ⟨rfl, rfl, rfl, rfl, trivial⟩ rfl, ?_⟩
        rw [hw]
        refine ⟨⟨by omega, by omega, fun k hk => ?_⟩, by omega⟩
        by_cases hki : k = i.toNat
        · subst hki
          simpa using h2
        · exact hJ3 k (by omega)
    · have h1 : ¬ i < xs.length := by simpa using h1
      (conv => whnf)
      refine ⟨?_, rfl⟩
      have : xs = ys := list_eq_of_getD hlen fun k hk => hJ3 k (by omega)
      simp [single, this]
end Go.Proofs.Ytoifiplefjclbaa
