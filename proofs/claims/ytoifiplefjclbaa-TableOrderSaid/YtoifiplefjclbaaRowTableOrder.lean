/- TableOrder: the given statement. -/
import Derived.Test.YtoifiplefjclbaaRows
import Derived.WalkKit
import Derived.ProofKit
import Derived.OpenShut
import Derived.ShutString
import Derived.ChangeOld
import Derived.Below
import Derived.Test.YtoifiplefjclbaaMvRow
import Derived.Test.YtoifiplefjclbaaMvOpen
import Derived.Test.YtoifiplefjclbaaTbOrder
namespace Go.Proofs.Ytoifiplefjclbaa.tableOrder
open Go.ChangeShapes Go.WideShapes Go.ChangeAt Go.RowKit
open Go.ChangeMaps (open_string shut_string)
open Go.Mv (IsRow IsArr open_arr calls_below whole)
set_option linter.unusedVariables false
theorem own : ownKnob Try.prog.godebug = none := by kernel_rfl
theorem laidOut : laidOutB Try.prog = true := by kernel_rfl
theorem walk (a0 : Option Addr) (n0 c0 : Nat) (z0 : List (List (Int))) (w : World) (w0 : Mv.IsSl w (fun xs : List (Int) => xs.flatMap (fun n : Int => [Value.int .i64 n])) (fun xs : List (Int) => xs.length = 3 ∧ ∀ x, x ∈ xs → (fun n : Int => (Lit.int .i64 n).wf = true) x) a0 n0 c0 z0) :
    Calls Try.prog 8 #[.slice a0 n0 c0] w fun e w' => e = .returned (.bool true) ∧ Below w.heap.size w w' := by
  obtain ⟨h1, h2, h3, h4, h5⟩ := w0
  obtain ⟨ys, hy⟩ : ∃ ys : List T3, z0 = ys.map key3 := by
    clear h4 h1
    induction z0 with
    | nil => exact ⟨[], rfl⟩
    | cons x r ih =>
      obtain ⟨ys, hy⟩ := ih fun y hy => h5 y (List.mem_cons_of_mem _ hy)
      obtain ⟨hx, _⟩ := h5 x List.mem_cons_self
      match x, hx with
      | [a, b, c], _ => exact ⟨(a, b, c) :: ys, by rw [hy]; rfl⟩
  have hyl : ys.length = n0 := by rw [← h1, hy, List.length_map]
  have hR : Mv.Rd (whole w) a0 (ys.flatMap enc3) := by
    rw [hy, List.flatMap_map] at h4
    exact h4
  have h := tableOrder_c (m := whole w) (c := c0) hR (by omega)
  rw [hyl] at h
  exact calls_below (h.mono fun v m' ⟨h1, h2⟩ => ⟨h1, fun b o hb => by rw [h2]; exact hb⟩)
set_option maxRecDepth 100000 in
theorem lifted (os : Os) (started : os.Started) (H : Type) (enc : TypeId × Value → H) :
    ReturnsInHanded {} Try.checked os 8 .any (Rows.tableOrderSpec.pre6 enc Try.prog Try.f8 Rows.tableOrderRow.domain false) (Rows.tableOrderSpec.post enc Try.prog Try.f8 false true false false) := by
  refine returnsInHanded_of_change (C := Try.checked) own started (by kernel_rfl) Try.func8
    (ChangeSpec.witness6 (enc := enc) (C := Try.checked) false ⟨#[], #[.slice none 0 0], []⟩ 8 (by kernel_rfl) (by kernel_rfl) (by kernel_rfl) (by kernel_rfl)) ?_
  intro W base args ds gs before hval0 hW hcnd _
  have hval : ∀ (j : Nat) t v, Try.f8.params[j]? = some t → args[j]? = some v → Value.okWide Try.prog W .any base t v := hval0
  have hW' := hW
  obtain ⟨p, q, hA0, hV, rfl, hfz, hnd⟩ := hW
  have hA : DataW.TrodAll enc Try.prog W 0 (fun _ => true) true Try.f8.params.toList args.toList ds p := hA0
  rw [Try.params8] at hA hval
  obtain ⟨v0, vs0, d0, ds0, p0, q0, hargs, rfl, rfl, h0, r0⟩ := trodAll_cons hA
  obtain ⟨rfl, rfl, rfl⟩ := trodAll_nil r0
  obtain rfl : args = #[v0] := by cases args; simp_all
  obtain ⟨rfl, rfl⟩ := trodVars_none hV
  obtain ⟨a0, n0, c0, rfl⟩ := okWide_slice Try.underlying47 (hval 0 47 v0 rfl rfl)
  have k0 := h0
  have lt0 : ∀ x ∈ p0, x.block < W.heap.size := by obtain ⟨m, hm⟩ := k0; exact DataW.trod_lt m _ _ _ hm
  obtain ⟨fuel0, hf0⟩ := h0
  obtain ⟨⟨a0', n0', c0', z0⟩, hcs0, w0⟩ := ((Mv.opens_slice Try.underlying47 (Mv.opens_array Try.underlying48 (by kernel_rfl) (Mv.opens_int Try.underlying3)) (fun x hx => by rw [Mv.flat_len (sz := 1) (fun _ => rfl), hx.1]; kernel_rfl)) : Mv.Opens Try.prog W 47 _ _) hf0
  simp [Value.cells] at hcs0
  obtain ⟨rfl, rfl, rfl⟩ := hcs0
  clear hA0 hval0
  refine (walk a0 n0 c0 z0 W w0).mono fun e W' ⟨he, bel⟩ => ?_
  subst he
  exact ⟨_, rfl, _, _, _, [], _, [], hW', trodAll_mk1 (shut_bool Try.underlying4 _), (trodAll_cons_mk (Below.trod laidOut (by kernel_rfl) (of_decide_eq_true (by kernel_rfl)) k0 bel lt0) trodAll_mk0), rfl, bel.frame _, fun h => by cases h⟩
theorem over : Rows.tableOrderRow.holds Try.pinned (OpenSpec.ofChange Rows.tableOrderSpec) :=
  OpenClaim.holds_of_wide 8 Try.f8 rfl rfl rfl rfl rfl rfl rfl ⟨rfl, rfl, rfl, rfl, rfl⟩ rfl rfl rfl rfl rfl (by kernel_rfl) Try.func8 (by kernel_rfl)
    (of_decide_eq_true (by kernel_rfl)) (by unfold Func.isWrapper; first | (rw [if_pos (by decide +kernel)]; kernel_rfl) | (rw [if_neg (by decide +kernel)]; exact ⟨rfl, rfl⟩))
    (fun os started H enc _ => lifted os started H enc)
theorem proved : Rows.TableOrderSaid := over
end Go.Proofs.Ytoifiplefjclbaa.tableOrder
