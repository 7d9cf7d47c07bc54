/- The table: places, the mix of a key, where a key stands. -/
import Derived.Test.YtoifiplefjclbaaTbA
namespace Go.Proofs.Ytoifiplefjclbaa
open Go Go.Mv
set_option maxHeartbeats 400000
set_option linter.unusedVariables false
set_option linter.unusedSimpArgs false
attribute [local irreducible] FCalls IntKind.wrap bits Mem.set Mem.setCell Mem.setCells
def hstep (h n : Int) : Int :=
  let a := IntKind.u64.wrap (bits .xor .u64 h (IntKind.u64.wrap n) * 18397679294719823053)
  bits .xor .u64 a (a.fdiv (2 ^ (min 32 64)))
def hashOf (xs : List Int) : Int := xs.foldl hstep 11400714819323198485
theorem take_succ_getD {xs : List Int} {i : Nat} (h : i < xs.length) : xs.take (i + 1) = xs.take i ++ [xs.getD i 0] := by
  rw [List.take_add_one]
  simp [List.getD, h]
theorem hash_c {m : Mem} {A : Option Addr} {xs : List Int} {c : Nat} (hA : Ints m A xs) (hn : xs.length < 2 ^ 62) : FCalls Try.prog 25 [.slice A xs.length c] m fun v m' => v = .int .u64 (hashOf xs) ∧ m' = m := by
  refine fcalls_of_vc (T := tbl) (B := bodies) (pr := []) (DR := dr25) (args := [.v (.slice A xs.length c)]) tbl_ok bodies_ok mixed Try.func25 rfl (by decide +kernel) (by simp [Try.f25]) rfl ?_
  (conv => whnf)
  refine loop_keep [6, 7] (Int × Int) (fun s => [(8, .v (.int .i64 s.1)), (3, .v (.int .u64 s.2))]) (fun _ => []) (fun _ => m) (fun s => 0 ≤ s.1 ∧ s.1 ≤ xs.length ∧ s.2 = hashOf (xs.take s.1.toNat)) (fun s => xs.length - s.1.toNat) (0, 11400714819323198485) ⟨rfl, rfl, trivial⟩ rfl rfl ⟨by simp, by simp, rfl⟩ ?_
  (conv => whnf)
  refine ⟨rfl, fun s hJ => ?_⟩
  obtain ⟨i, h⟩ := s
  obtain ⟨hJ1, hJ2, hJ3⟩ := hJ
  dsimp only at hJ1 hJ2 hJ3
  (conv => whnf)
  refine brk_intro (fun h1 => ?_) (fun h1 => ?_)
  · have h1 : i < xs.length := by simpa using h1
    obtain ⟨p, hp, hx⟩ := hA.at hJ1 h1
    (conv => whnf)
    refine ⟨p, hp, hJ1, h1, ?_⟩
    (conv => whnf)
    refine ⟨_, hx, ?_⟩
    (conv => whnf)
    refine ⟨by decide, ?_⟩
    (conv => whnf)
    have hw : IntKind.i64.wrap (i + 1) = i + 1 := wrap_id (by omega) (by omega)
    refine ⟨(_, _), le_of ⟨rfl, rfl, rfl, rfl, trivial⟩ rfl, ?_⟩
    dsimp only
    rw [hw]
    refine ⟨⟨by omega, by omega, ?_⟩, by omega⟩
    have : (i + 1).toNat = i.toNat + 1 := by omega
    have hi : i.toNat < xs.length := by omega
    rw [this, take_succ_getD hi, hashOf, List.foldl_append]
    rw [hJ3]
    rfl
  · have h1 : ¬ i < xs.length := by simpa using h1
    (conv => whnf)
    refine ⟨?_, rfl⟩
    have : xs.take i.toNat = xs := List.take_of_length_le (by omega)
    rw [this] at hJ3
    rw [hJ3]
    rfl
end Go.Proofs.Ytoifiplefjclbaa
