/- DfaNew: the given statement. -/
import Derived.Test.YtkkcdfnlmhmheaaRows
import Derived.WalkKit
import Derived.ProofKit
import Derived.OpenShut
import Derived.ShutString
import Derived.ChangeOld
import Derived.Below
import Derived.Test.YtkkcdfnlmhmheaaQn5
namespace Go.Proofs.Ytkkcdfnlmhmheaa.dfaNew
open Go.ChangeShapes Go.WideShapes Go.ChangeAt Go.RowKit
open Go.ChangeMaps (open_string shut_string)
open Go.Mv (IsRow IsArr open_arr calls_below whole)
set_option linter.unusedVariables false
set_option maxHeartbeats 4000000
theorem own : ownKnob Try.prog.godebug = none := by kernel_rfl
theorem laidOut : laidOutB Try.prog = true := by kernel_rfl
theorem walk (z0 : (Option Addr × Nat × Nat × List ((Int) × ((Int) × ((Int) × ((Int) × ((Int) × ((Int) × ((List (Int)) × (Unit))))))))) × ((Int) × ((Int) × ((Bool) × (Unit))))) (a1 : Int) (w : World) (w0 : (fun y : (Option Addr × Nat × Nat × List ((Int) × ((Int) × ((Int) × ((Int) × ((Int) × ((Int) × ((List (Int)) × (Unit))))))))) × ((Int) × ((Int) × ((Bool) × (Unit)))) => (fun s : Option Addr × Nat × Nat × List ((Int) × ((Int) × ((Int) × ((Int) × ((Int) × ((Int) × ((List (Int)) × (Unit)))))))) => Mv.IsSl w (fun y : (Int) × ((Int) × ((Int) × ((Int) × ((Int) × ((Int) × ((List (Int)) × (Unit))))))) => (fun n : Int => [Value.int .i64 n]) y.1 ++ (fun y : (Int) × ((Int) × ((Int) × ((Int) × ((Int) × ((List (Int)) × (Unit)))))) => (fun n : Int => [Value.int .i64 n]) y.1 ++ (fun y : (Int) × ((Int) × ((Int) × ((Int) × ((List (Int)) × (Unit))))) => (fun n : Int => [Value.int .i64 n]) y.1 ++ (fun y : (Int) × ((Int) × ((Int) × ((List (Int)) × (Unit)))) => (fun n : Int => [Value.int .i64 n]) y.1 ++ (fun y : (Int) × ((Int) × ((List (Int)) × (Unit))) => (fun n : Int => [Value.int .i64 n]) y.1 ++ (fun y : (Int) × ((List (Int)) × (Unit)) => (fun n : Int => [Value.int .i64 n]) y.1 ++ (fun y : (List (Int)) × (Unit) => (fun xs : List (Int) => xs.flatMap (fun n : Int => [Value.int .u64 n])) y.1 ++ (fun _ : Unit => []) y.2) y.2) y.2) y.2) y.2) y.2) y.2) (fun y : (Int) × ((Int) × ((Int) × ((Int) × ((Int) × ((Int) × ((List (Int)) × (Unit))))))) => (fun n : Int => (Lit.int .i64 n).wf = true) y.1 ∧ (fun y : (Int) × ((Int) × ((Int) × ((Int) × ((Int) × ((List (Int)) × (Unit)))))) => (fun n : Int => (Lit.int .i64 n).wf = true) y.1 ∧ (fun y : (Int) × ((Int) × ((Int) × ((Int) × ((List (Int)) × (Unit))))) => (fun n : Int => (Lit.int .i64 n).wf = true) y.1 ∧ (fun y : (Int) × ((Int) × ((Int) × ((List (Int)) × (Unit)))) => (fun n : Int => (Lit.int .i64 n).wf = true) y.1 ∧ (fun y : (Int) × ((Int) × ((List (Int)) × (Unit))) => (fun n : Int => (Lit.int .i64 n).wf = true) y.1 ∧ (fun y : (Int) × ((List (Int)) × (Unit)) => (fun n : Int => (Lit.int .i64 n).wf = true) y.1 ∧ (fun y : (List (Int)) × (Unit) => (fun xs : List (Int) => xs.length = 4 ∧ ∀ x, x ∈ xs → (fun n : Int => (Lit.int .u64 n).wf = true) x) y.1 ∧ (fun _ : Unit => True) y.2) y.2) y.2) y.2) y.2) y.2) y.2) s.1 s.2.1 s.2.2.1 s.2.2.2) y.1 ∧ (fun y : (Int) × ((Int) × ((Bool) × (Unit))) => (fun n : Int => (Lit.int .i64 n).wf = true) y.1 ∧ (fun y : (Int) × ((Bool) × (Unit)) => (fun n : Int => (Lit.int .i64 n).wf = true) y.1 ∧ (fun y : (Bool) × (Unit) => (fun _ : Bool => True) y.1 ∧ (fun _ : Unit => True) y.2) y.2) y.2) y.2) z0) (w1 : (Lit.int .i64 a1).wf = true) :
    Calls Try.prog 7 #[.agg ((fun y : (Option Addr × Nat × Nat × List ((Int) × ((Int) × ((Int) × ((Int) × ((Int) × ((Int) × ((List (Int)) × (Unit))))))))) × ((Int) × ((Int) × ((Bool) × (Unit)))) => (fun s : Option Addr × Nat × Nat × List ((Int) × ((Int) × ((Int) × ((Int) × ((Int) × ((Int) × ((List (Int)) × (Unit)))))))) => [Value.slice s.1 s.2.1 s.2.2.1]) y.1 ++ (fun y : (Int) × ((Int) × ((Bool) × (Unit))) => (fun n : Int => [Value.int .i64 n]) y.1 ++ (fun y : (Int) × ((Bool) × (Unit)) => (fun n : Int => [Value.int .i64 n]) y.1 ++ (fun y : (Bool) × (Unit) => (fun b : Bool => [Value.bool b]) y.1 ++ (fun _ : Unit => []) y.2) y.2) y.2) y.2) z0).toArray, .int .i64 a1] w fun e w' => e = .returned (.bool true) ∧ Below w.heap.size w w' := by
  obtain ⟨⟨g1, g2, g3, g4, g5⟩, _⟩ := w0
  have e : Value.agg (prgF z0).toArray = (toPrg z0).val := prgF_val g1
  have hq : (toPrg z0).at (whole w) := prgF_at g4 fun y hy => (g5 y hy).2.2.2.2.2.2.1.1
  have h := dfaNew_c (m := whole w) (room := a1) hq
  rw [← e] at h
  exact calls_below (h.mono fun v m' ⟨h1, h2⟩ => ⟨h1, fun b o hb => h2 ▸ hb⟩)
set_option maxRecDepth 100000 in
theorem lifted (os : Os) (started : os.Started) (H : Type) (enc : TypeId × Value → H) :
    ReturnsInHanded {} Try.checked os 7 .any (Rows.dfaNewSpec.pre6 enc Try.prog Try.f7 Rows.dfaNewRow.domain false) (Rows.dfaNewSpec.post enc Try.prog Try.f7 false true false false) := by
  refine returnsInHanded_of_change (C := Try.checked) own started (by kernel_rfl) Try.func7
    (ChangeSpec.witness6 (enc := enc) (C := Try.checked) false ⟨#[], #[.agg #[.slice none 0 0, .int .i64 0, .int .i64 0, .bool false], .int .i64 0], []⟩ 8 (by kernel_rfl) (by kernel_rfl) (by kernel_rfl) (by kernel_rfl)) ?_
  intro W base args ds gs before hval0 hW hcnd _
  have hval : ∀ (j : Nat) t v, Try.f7.params[j]? = some t → args[j]? = some v → Value.okWide Try.prog W .any base t v := hval0
  have hW' := hW
  obtain ⟨p, q, hA0, hV, rfl, hfz, hnd⟩ := hW
  have hA : DataW.TrodAll enc Try.prog W 0 (fun _ => true) true Try.f7.params.toList args.toList ds p := hA0
  rw [Try.params7] at hA hval
  obtain ⟨v0, vs0, d0, ds0, p0, q0, hargs, rfl, rfl, h0, r0⟩ := trodAll_cons hA
  obtain ⟨v1, vs1, d1, ds1, p1, q1, rfl, rfl, rfl, h1, r1⟩ := trodAll_cons r0
  obtain ⟨rfl, rfl, rfl⟩ := trodAll_nil r1
  obtain rfl : args = #[v0, v1] := by cases args; simp_all
  obtain ⟨rfl, rfl⟩ := trodVars_none hV
  obtain ⟨c0, rfl, _⟩ := okWide_struct Try.underlying24 (hval 0 24 v0 rfl rfl)
  have k0 := h0
  have lt0 : ∀ x ∈ p0, x.block < W.heap.size := by obtain ⟨m, hm⟩ := k0; exact DataW.trod_lt m _ _ _ hm
  obtain ⟨fuel0, hf0⟩ := h0
  obtain ⟨z0, hcs0, w0⟩ := ((Mv.opens_struct Try.underlying24 (by kernel_rfl) (show Mv.OpensF _ _ [_, _, _, _] 0 _ _ from (Mv.opens_cons (by kernel_rfl) (Mv.opens_slice Try.underlying22 (Mv.opens_struct Try.underlying46 (by kernel_rfl) (show Mv.OpensF _ _ [_, _, _, _, _, _, _] 0 _ _ from (Mv.opens_cons (by kernel_rfl) (Mv.opens_int Try.underlying3) (Mv.opens_cons (by kernel_rfl) (Mv.opens_int Try.underlying3) (Mv.opens_cons (by kernel_rfl) (Mv.opens_int Try.underlying3) (Mv.opens_cons (by kernel_rfl) (Mv.opens_int Try.underlying3) (Mv.opens_cons (by kernel_rfl) (Mv.opens_int Try.underlying3) (Mv.opens_cons (by kernel_rfl) (Mv.opens_int Try.underlying3) (Mv.opens_cons (by kernel_rfl) (Mv.opens_array Try.underlying44 (by kernel_rfl) (Mv.opens_int Try.underlying42)) Mv.opens_nil))))))))) (fun x hx => Eq.trans (b := 10) (by have h0 := (hx.2.2.2.2.2.2.1).1; simp only [List.length_append, List.length_cons, List.length_nil]; rw [Mv.flat_len (sz := 1) (fun _ => rfl), h0]) (by kernel_rfl))) (Mv.opens_cons (by kernel_rfl) (Mv.opens_int Try.underlying3) (Mv.opens_cons (by kernel_rfl) (Mv.opens_int Try.underlying3) (Mv.opens_cons (by kernel_rfl) (Mv.opens_bool Try.underlying4) Mv.opens_nil)))))) : Mv.Opens Try.prog W 24 _ _) hf0
  obtain rfl : c0 = ((fun y : (Option Addr × Nat × Nat × List ((Int) × ((Int) × ((Int) × ((Int) × ((Int) × ((Int) × ((List (Int)) × (Unit))))))))) × ((Int) × ((Int) × ((Bool) × (Unit)))) => (fun s : Option Addr × Nat × Nat × List ((Int) × ((Int) × ((Int) × ((Int) × ((Int) × ((Int) × ((List (Int)) × (Unit)))))))) => [Value.slice s.1 s.2.1 s.2.2.1]) y.1 ++ (fun y : (Int) × ((Int) × ((Bool) × (Unit))) => (fun n : Int => [Value.int .i64 n]) y.1 ++ (fun y : (Int) × ((Bool) × (Unit)) => (fun n : Int => [Value.int .i64 n]) y.1 ++ (fun y : (Bool) × (Unit) => (fun b : Bool => [Value.bool b]) y.1 ++ (fun _ : Unit => []) y.2) y.2) y.2) y.2) z0).toArray := by
    have hcc : c0.toList = (fun y : (Option Addr × Nat × Nat × List ((Int) × ((Int) × ((Int) × ((Int) × ((Int) × ((Int) × ((List (Int)) × (Unit))))))))) × ((Int) × ((Int) × ((Bool) × (Unit)))) => (fun s : Option Addr × Nat × Nat × List ((Int) × ((Int) × ((Int) × ((Int) × ((Int) × ((Int) × ((List (Int)) × (Unit)))))))) => [Value.slice s.1 s.2.1 s.2.2.1]) y.1 ++ (fun y : (Int) × ((Int) × ((Bool) × (Unit))) => (fun n : Int => [Value.int .i64 n]) y.1 ++ (fun y : (Int) × ((Bool) × (Unit)) => (fun n : Int => [Value.int .i64 n]) y.1 ++ (fun y : (Bool) × (Unit) => (fun b : Bool => [Value.bool b]) y.1 ++ (fun _ : Unit => []) y.2) y.2) y.2) y.2) z0 := hcs0
    rw [← hcc]
  obtain ⟨a1, rfl, rfl, rfl, w1⟩ := open_int Try.underlying3 (hval 1 3 v1 rfl rfl) h1
  clear hA0 hval0
  refine (walk z0 a1 W w0 w1).mono fun e W' ⟨he, bel⟩ => ?_
  subst he
  exact ⟨_, rfl, _, _, _, [], _, [], hW', trodAll_mk1 (shut_bool Try.underlying4 _), (trodAll_cons_mk (Below.trod laidOut (by kernel_rfl) (of_decide_eq_true (by kernel_rfl)) k0 bel lt0) (trodAll_cons_mk (shut_int Try.underlying3 w1) trodAll_mk0)), rfl, bel.frame _, fun h => by cases h⟩
theorem over : Rows.dfaNewRow.holds Try.pinned (OpenSpec.ofChange Rows.dfaNewSpec) :=
  OpenClaim.holds_of_wide 7 Try.f7 rfl rfl rfl rfl rfl rfl rfl ⟨rfl, rfl, rfl, rfl, rfl⟩ rfl rfl rfl rfl rfl (by kernel_rfl) Try.func7 (by kernel_rfl)
    (of_decide_eq_true (by kernel_rfl)) (by unfold Func.isWrapper; first | (rw [if_pos (by decide +kernel)]; kernel_rfl) | (rw [if_neg (by decide +kernel)]; exact ⟨rfl, rfl⟩))
    (fun os started H enc _ => lifted os started H enc)
theorem proved : Rows.DfaNewSaid := over
end Go.Proofs.Ytkkcdfnlmhmheaa.dfaNew
