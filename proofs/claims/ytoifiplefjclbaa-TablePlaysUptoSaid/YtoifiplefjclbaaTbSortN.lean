/- Table: SortFunc at nil. -/
import Derived.Test.YtoifiplefjclbaaTbO
namespace Go.Proofs.Ytoifiplefjclbaa
open Go Go.Mv
set_option maxHeartbeats 1000000
set_option maxRecDepth 10000
set_option linter.unusedVariables false
set_option linter.unusedSimpArgs false
attribute [local irreducible] FCalls bits Mem.set Mem.setCell Mem.setCells YCalls
section
variable {m : Mem} {F : Value}
theorem ins_nil : FCalls Try.prog 48 [.slice none 0 0, .int .i64 0, .int .i64 0, F] m fun v m' => v = .tuple #[] ∧ m' = m := by
  refine fcalls_of_vc (T := tbl) (B := bodies) (pr := []) (DR := dr48) (args := [.v (.slice none 0 0), .v (.int .i64 0), .v (.int .i64 0), .v F]) tbl_ok bodies_ok mixed Try.func48 rfl (by decide +kernel) (by simp [Try.f48]) rfl ?_
  (conv => whnf)
  refine loop_keep [0, 1, 2] Unit (fun s => [(8, .v (.int .i64 1))]) (fun _ => []) (fun s => m) (fun _ => True) (fun _ => 0) () ⟨rfl, trivial⟩ rfl rfl trivial ?_
  (conv => whnf)
  refine ⟨rfl, fun s _ => ?_⟩
  (conv => whnf)
  exact ⟨rfl, rfl⟩
theorem pdq_nil {k : Int} : FCalls Try.prog 39 [.slice none 0 0, .int .i64 0, .int .i64 0, .int .i64 k, F] m fun v m' => v = .tuple #[] ∧ m' = m := by
  refine fcalls_of_vc (T := tbl) (B := bodies) (pr := []) (DR := dr39) (args := [.v (.slice none 0 0), .v (.int .i64 0), .v (.int .i64 0), .v (.int .i64 k), .v F]) tbl_ok bodies_ok mixed Try.func39 rfl (by decide +kernel) (by simp [Try.f39]) rfl ?_
  (conv => whnf)
  refine loop_keep [0, 1, 2, 3, 4, 10, 11] Unit (fun s => []) (fun _ => []) (fun s => m) (fun _ => True) (fun _ => 0) () trivial rfl rfl trivial ?_
  (conv => whnf)
  refine ⟨rfl, fun s _ => ?_⟩
  (conv => whnf)
  refine FCalls.mono ins_nil fun v m' ⟨h1, h2⟩ => ?_
  subst h1 h2
  (conv => whnf)
  exact ⟨rfl, rfl⟩
theorem len64_0 : FCalls Try.prog 57 [.int .u64 0] m fun v m' => v = .int .i64 0 ∧ m' = m := by
  refine fcalls_of_vc (T := tbl) (B := bodies) (pr := []) (DR := dr57) (args := [.v (.int .u64 0)]) tbl_ok bodies_ok mixed Try.func57 rfl (by decide +kernel) (by simp [Try.f57]) rfl ?_
  (conv => whnf)
  refine ⟨of_decide_eq_true rfl, of_decide_eq_true rfl, ?_⟩
  (conv => whnf)
  exact ⟨rfl, rfl⟩
theorem len_0 : FCalls Try.prog 40 [.int .u64 0] m fun v m' => v = .int .i64 0 ∧ m' = m := by
  refine fcalls_of_vc (T := tbl) (B := bodies) (pr := []) (DR := dr40) (args := [.v (.int .u64 0)]) tbl_ok bodies_ok mixed Try.func40 rfl (by decide +kernel) (by simp [Try.f40]) rfl ?_
  (conv => whnf)
  refine FCalls.mono len64_0 fun v m' ⟨h1, h2⟩ => ?_
  subst h1 h2
  (conv => whnf)
  exact ⟨rfl, rfl⟩
theorem sort_nil : FCalls Try.prog 32 [.slice none 0 0, F] m fun v m' => v = .tuple #[] ∧ m' = m := by
  refine fcalls_of_vc (T := tbl) (B := bodies) (pr := []) (DR := dr32) (args := [.v (.slice none 0 0), .v F]) tbl_ok bodies_ok mixed Try.func32 rfl (by decide +kernel) (by simp [Try.f32]) rfl ?_
  (conv => whnf)
  refine FCalls.mono len_0 fun v m' ⟨h1, h2⟩ => ?_
  subst h1 h2
  (conv => whnf)
  refine FCalls.mono pdq_nil fun v m' ⟨h1, h2⟩ => ?_
  subst h1 h2
  (conv => whnf)
  exact ⟨rfl, rfl⟩
end
end Go.Proofs.Ytoifiplefjclbaa
