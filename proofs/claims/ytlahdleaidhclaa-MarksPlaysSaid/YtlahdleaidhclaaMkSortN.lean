/- Marks: slices.Sort at nil. -/
import Derived.Test.YtlahdleaidhclaaMkD
namespace Go.Proofs.Ytlahdleaidhclaa
open Go Go.Mv
set_option maxHeartbeats 1000000
set_option maxRecDepth 10000
set_option linter.unusedVariables false
set_option linter.unusedSimpArgs false
attribute [local irreducible] FCalls bits Mem.set Mem.setCell Mem.setCells YCalls
theorem ins_nil {m : Mem} : FCalls Try.prog 39 [.slice none 0 0, .int .i64 0, .int .i64 0] m fun v m' => v = .tuple #[] ∧ m' = m := by
  refine fcalls_of_vc (T := tbl) (B := bodies) (pr := []) (DR := dr39) (args := [.v (.slice none 0 0), .v (.int .i64 0), .v (.int .i64 0)]) tbl_ok bodies_ok mixed Try.func39 rfl (by decide +kernel) (by simp [Try.f39]) rfl ?_
  (conv => whnf)
  refine loop_keep [0, 1, 2] Unit (fun s => [(6, .v (.int .i64 1))]) (fun _ => []) (fun s => m) (fun _ => True) (fun _ => 0) () ⟨rfl, trivial⟩ rfl rfl trivial ?_
  (conv => whnf)
  refine ⟨rfl, fun s _ => ?_⟩
  (conv => whnf)
  exact ⟨rfl, rfl⟩
theorem pdq_nil {m : Mem} {k : Int} : FCalls Try.prog 33 [.slice none 0 0, .int .i64 0, .int .i64 0, .int .i64 k] m fun v m' => v = .tuple #[] ∧ m' = m := by
  refine fcalls_of_vc (T := tbl) (B := bodies) (pr := []) (DR := dr33) (args := [.v (.slice none 0 0), .v (.int .i64 0), .v (.int .i64 0), .v (.int .i64 k)]) tbl_ok bodies_ok mixed Try.func33 rfl (by decide +kernel) (by simp [Try.f33]) rfl ?_
  (conv => whnf)
  refine loop_keep [0, 1, 2, 3, 8, 9] Unit (fun s => []) (fun _ => []) (fun s => m) (fun _ => True) (fun _ => 0) () trivial rfl rfl trivial ?_
  (conv => whnf)
  refine ⟨rfl, fun s _ => ?_⟩
  (conv => whnf)
  refine FCalls.mono ins_nil fun v m' ⟨h1, h2⟩ => ?_
  subst h1 h2
  (conv => whnf)
  exact ⟨rfl, rfl⟩
theorem len64_0 {m : Mem} : FCalls Try.prog 49 [.int .u64 0] m fun v m' => v = .int .i64 0 ∧ m' = m := by
  refine fcalls_of_vc (T := tbl) (B := bodies) (pr := []) (DR := dr49) (args := [.v (.int .u64 0)]) tbl_ok bodies_ok mixed Try.func49 rfl (by decide +kernel) (by simp [Try.f49]) rfl ?_
  (conv => whnf)
  refine ⟨of_decide_eq_true rfl, of_decide_eq_true rfl, ?_⟩
  (conv => whnf)
  exact ⟨rfl, rfl⟩
theorem len_0 {m : Mem} : FCalls Try.prog 34 [.int .u64 0] m fun v m' => v = .int .i64 0 ∧ m' = m := by
  refine fcalls_of_vc (T := tbl) (B := bodies) (pr := []) (DR := dr34) (args := [.v (.int .u64 0)]) tbl_ok bodies_ok mixed Try.func34 rfl (by decide +kernel) (by simp [Try.f34]) rfl ?_
  (conv => whnf)
  refine FCalls.mono len64_0 fun v m' ⟨h1, h2⟩ => ?_
  subst h1 h2
  (conv => whnf)
  exact ⟨rfl, rfl⟩
theorem sort_nil {m : Mem} : FCalls Try.prog 28 [.slice none 0 0] m fun v m' => v = .tuple #[] ∧ m' = m := by
  refine fcalls_of_vc (T := tbl) (B := bodies) (pr := []) (DR := dr28) (args := [.v (.slice none 0 0)]) tbl_ok bodies_ok mixed Try.func28 rfl (by decide +kernel) (by simp [Try.f28]) rfl ?_
  (conv => whnf)
  refine FCalls.mono len_0 fun v m' ⟨h1, h2⟩ => ?_
  subst h1 h2
  (conv => whnf)
  refine FCalls.mono pdq_nil fun v m' ⟨h1, h2⟩ => ?_
  subst h1 h2
  (conv => whnf)
  exact ⟨rfl, rfl⟩
end Go.Proofs.Ytlahdleaidhclaa
