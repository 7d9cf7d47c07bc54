/- MarksPlays: the given statement. -/
import Derived.Test.YtlahdleaidhclaaRows
import Derived.WalkKit
import Derived.ProofKit
import Derived.OpenShut
import Derived.ShutString
import Derived.ChangeOld
import Derived.Below
import Derived.Test.YtlahdleaidhclaaMvRow
import Derived.Test.YtlahdleaidhclaaMvOpen
import Derived.Test.YtlahdleaidhclaaMkPlays
namespace Go.Proofs.Ytlahdleaidhclaa.marksPlays
open Go.ChangeShapes Go.WideShapes Go.ChangeAt Go.RowKit
open Go.ChangeMaps (open_string shut_string)
open Go.Mv (IsRow IsArr open_arr calls_below whole)
set_option linter.unusedVariables false
theorem own : ownKnob Try.prog.godebug = none := by kernel_rfl
theorem laidOut : laidOutB Try.prog = true := by kernel_rfl
theorem walk (a0 : Int) (a1 : Int) (a2 : Option Addr) (n2 c2 : Nat) (z2 : List ((Int) × ((Int) × ((Int) × ((Int) × ((Int) × ((Int) × ((Int) × (Unit))))))))) (w : World) (w0 : (Lit.int .i64 a0).wf = true) (w1 : (Lit.int .i64 a1).wf = true) (w2 : Mv.IsSl w (fun y : (Int) × ((Int) × ((Int) × ((Int) × ((Int) × ((Int) × ((Int) × (Unit))))))) => (fun n : Int => [Value.int .i64 n]) y.1 ++ (fun y : (Int) × ((Int) × ((Int) × ((Int) × ((Int) × ((Int) × (Unit)))))) => (fun n : Int => [Value.int .i64 n]) y.1 ++ (fun y : (Int) × ((Int) × ((Int) × ((Int) × ((Int) × (Unit))))) => (fun n : Int => [Value.int .i64 n]) y.1 ++ (fun y : (Int) × ((Int) × ((Int) × ((Int) × (Unit)))) => (fun n : Int => [Value.int .i64 n]) y.1 ++ (fun y : (Int) × ((Int) × ((Int) × (Unit))) => (fun n : Int => [Value.int .i64 n]) y.1 ++ (fun y : (Int) × ((Int) × (Unit)) => (fun n : Int => [Value.int .i64 n]) y.1 ++ (fun y : (Int) × (Unit) => (fun n : Int => [Value.int .i64 n]) y.1 ++ (fun _ : Unit => []) y.2) y.2) y.2) y.2) y.2) y.2) y.2) (fun y : (Int) × ((Int) × ((Int) × ((Int) × ((Int) × ((Int) × ((Int) × (Unit))))))) => (fun n : Int => (Lit.int .i64 n).wf = true) y.1 ∧ (fun y : (Int) × ((Int) × ((Int) × ((Int) × ((Int) × ((Int) × (Unit)))))) => (fun n : Int => (Lit.int .i64 n).wf = true) y.1 ∧ (fun y : (Int) × ((Int) × ((Int) × ((Int) × ((Int) × (Unit))))) => (fun n : Int => (Lit.int .i64 n).wf = true) y.1 ∧ (fun y : (Int) × ((Int) × ((Int) × ((Int) × (Unit)))) => (fun n : Int => (Lit.int .i64 n).wf = true) y.1 ∧ (fun y : (Int) × ((Int) × ((Int) × (Unit))) => (fun n : Int => (Lit.int .i64 n).wf = true) y.1 ∧ (fun y : (Int) × ((Int) × (Unit)) => (fun n : Int => (Lit.int .i64 n).wf = true) y.1 ∧ (fun y : (Int) × (Unit) => (fun n : Int => (Lit.int .i64 n).wf = true) y.1 ∧ (fun _ : Unit => True) y.2) y.2) y.2) y.2) y.2) y.2) y.2) a2 n2 c2 z2) :
    Calls Try.prog 8 #[.int .i64 a0, .int .i64 a1, .slice a2 n2 c2] w fun e w' => e = .returned (.bool true) ∧ Below w.heap.size w w' := by
  obtain ⟨h1, h2, h3, h4, h5⟩ := w2
  have i64 : ∀ a, (Lit.int .i64 a).wf = true → In64 a := fun a h => by
    unfold Lit.wf at h
    simp [IntKind.min, IntKind.max, IntKind.signed, IntKind.bits] at h
    unfold In64
    omega
  have hR : Mv.Rd (whole w) a2 (z2.flatMap stp) := h4
  have h := marksPlays_c (m := whole w) (c := c2) (i64 a0 w0) (i64 a1 w1) hR (fun z hz => by
    have h6 := h5 z hz
    exact ⟨i64 _ h6.2.1, i64 _ h6.2.2.2.1, i64 _ h6.2.2.2.2.1⟩)
  rw [h1] at h
  exact calls_below (h.mono fun v m' ⟨h1, h2⟩ => ⟨h1, h2⟩)
set_option maxRecDepth 100000 in
theorem lifted (os : Os) (started : os.Started) (H : Type) (enc : TypeId × Value → H) :
    ReturnsInHanded {} Try.checked os 8 .any (Rows.marksPlaysSpec.pre6 enc Try.prog Try.f8 Rows.marksPlaysRow.domain false) (Rows.marksPlaysSpec.post enc Try.prog Try.f8 false true false false) := by
  refine returnsInHanded_of_change (C := Try.checked) own started (by kernel_rfl) Try.func8
    (ChangeSpec.witness6 (enc := enc) (C := Try.checked) false ⟨#[], #[.int .i64 0, .int .i64 0, .slice none 0 0], []⟩ 8 (by kernel_rfl) (by kernel_rfl) (by kernel_rfl) (by kernel_rfl)) ?_
  intro W base args ds gs before hval0 hW hcnd _
  have hval : ∀ (j : Nat) t v, Try.f8.params[j]? = some t → args[j]? = some v → Value.okWide Try.prog W .any base t v := hval0
  have hW' := hW
  obtain ⟨p, q, hA0, hV, rfl, hfz, hnd⟩ := hW
  have hA : DataW.TrodAll enc Try.prog W 0 (fun _ => true) true Try.f8.params.toList args.toList ds p := hA0
  rw [Try.params8] at hA hval
  obtain ⟨v0, vs0, d0, ds0, p0, q0, hargs, rfl, rfl, h0, r0⟩ := trodAll_cons hA
  obtain ⟨v1, vs1, d1, ds1, p1, q1, rfl, rfl, rfl, h1, r1⟩ := trodAll_cons r0
  obtain ⟨v2, vs2, d2, ds2, p2, q2, rfl, rfl, rfl, h2, r2⟩ := trodAll_cons r1
  obtain ⟨rfl, rfl, rfl⟩ := trodAll_nil r2
  obtain rfl : args = #[v0, v1, v2] := by cases args; simp_all
  obtain ⟨rfl, rfl⟩ := trodVars_none hV
  obtain ⟨a0, rfl, rfl, rfl, w0⟩ := open_int Try.underlying3 (hval 0 3 v0 rfl rfl) h0
  obtain ⟨a1, rfl, rfl, rfl, w1⟩ := open_int Try.underlying3 (hval 1 3 v1 rfl rfl) h1
  obtain ⟨a2, n2, c2, rfl⟩ := okWide_slice Try.underlying44 (hval 2 44 v2 rfl rfl)
  have k2 := h2
  have lt2 : ∀ x ∈ p2, x.block < W.heap.size := by obtain ⟨m, hm⟩ := k2; exact DataW.trod_lt m _ _ _ hm
  obtain ⟨fuel2, hf2⟩ := h2
  obtain ⟨⟨a2', n2', c2', z2⟩, hcs2, w2⟩ := ((Mv.opens_slice Try.underlying44 (Mv.opens_struct Try.underlying57 (by kernel_rfl) (show Mv.OpensF _ _ [_, _, _, _, _, _, _] 0 _ _ from (Mv.opens_cons (by kernel_rfl) (Mv.opens_int Try.underlying3) (Mv.opens_cons (by kernel_rfl) (Mv.opens_int Try.underlying3) (Mv.opens_cons (by kernel_rfl) (Mv.opens_int Try.underlying3) (Mv.opens_cons (by kernel_rfl) (Mv.opens_int Try.underlying3) (Mv.opens_cons (by kernel_rfl) (Mv.opens_int Try.underlying3) (Mv.opens_cons (by kernel_rfl) (Mv.opens_int Try.underlying3) (Mv.opens_cons (by kernel_rfl) (Mv.opens_int Try.underlying3) Mv.opens_nil))))))))) (fun _ _ => (show _ = _ by rfl).trans (by kernel_rfl))) : Mv.Opens Try.prog W 44 _ _) hf2
  simp [Value.cells] at hcs2
  obtain ⟨rfl, rfl, rfl⟩ := hcs2
  clear hA0 hval0
  refine (walk a0 a1 a2 n2 c2 z2 W w0 w1 w2).mono fun e W' ⟨he, bel⟩ => ?_
  subst he
  exact ⟨_, rfl, _, _, _, [], _, [], hW', trodAll_mk1 (shut_bool Try.underlying4 _), (trodAll_cons_mk (shut_int Try.underlying3 w0) (trodAll_cons_mk (shut_int Try.underlying3 w1) (trodAll_cons_mk (Below.trod laidOut (by kernel_rfl) (of_decide_eq_true (by kernel_rfl)) k2 bel lt2) trodAll_mk0))), rfl, bel.frame _, fun h => by cases h⟩
theorem over : Rows.marksPlaysRow.holds Try.pinned (OpenSpec.ofChange Rows.marksPlaysSpec) :=
  OpenClaim.holds_of_wide 8 Try.f8 rfl rfl rfl rfl rfl rfl rfl ⟨rfl, rfl, rfl, rfl, rfl⟩ rfl rfl rfl rfl rfl (by kernel_rfl) Try.func8 (by kernel_rfl)
    (of_decide_eq_true (by kernel_rfl)) (by unfold Func.isWrapper; first | (rw [if_pos (by decide +kernel)]; kernel_rfl) | (rw [if_neg (by decide +kernel)]; exact ⟨rfl, rfl⟩))
    (fun os started H enc _ => lifted os started H enc)
theorem proved : Rows.MarksPlaysSaid := over
end Go.Proofs.Ytlahdleaidhclaa.marksPlays
