/- DfaKept: the given statement. -/
import Derived.Test.YtkkcdfnlmhmheaaRows
import Derived.WalkKit
import Derived.ProofKit
import Derived.OpenShut
import Derived.ShutString
import Derived.ChangeOld
import Derived.Below
import Derived.JoinedCond
import Derived.Test.YtkkcdfnlmhmheaaQr5
namespace Go.Proofs.Ytkkcdfnlmhmheaa.dfaKept
open Go.ChangeShapes Go.WideShapes Go.ChangeAt Go.RowKit
open Go.ChangeMaps (open_string shut_string)
open Go.Mv (IsRow IsArr open_arr calls_below whole)
set_option linter.unusedVariables false
theorem own : ownKnob Try.prog.godebug = none := by kernel_rfl
theorem laidOut : laidOutB Try.prog = true := by kernel_rfl
theorem walk (z0 : (Option Addr × Nat × Nat × List ((Int) × ((Int) × ((Int) × ((Int) × ((Int) × ((Int) × ((List (Int)) × (Unit))))))))) × ((Int) × ((Int) × ((Bool) × (Unit))))) (a1 : Int) (a2 : ByteArray) (a3 : Int) (a4 : Int) (w : World) (w0 : (fun y : (Option Addr × Nat × Nat × List ((Int) × ((Int) × ((Int) × ((Int) × ((Int) × ((Int) × ((List (Int)) × (Unit))))))))) × ((Int) × ((Int) × ((Bool) × (Unit)))) => (fun s : Option Addr × Nat × Nat × List ((Int) × ((Int) × ((Int) × ((Int) × ((Int) × ((Int) × ((List (Int)) × (Unit)))))))) => Mv.IsSl w (fun y : (Int) × ((Int) × ((Int) × ((Int) × ((Int) × ((Int) × ((List (Int)) × (Unit))))))) => (fun n : Int => [Value.int .i64 n]) y.1 ++ (fun y : (Int) × ((Int) × ((Int) × ((Int) × ((Int) × ((List (Int)) × (Unit)))))) => (fun n : Int => [Value.int .i64 n]) y.1 ++ (fun y : (Int) × ((Int) × ((Int) × ((Int) × ((List (Int)) × (Unit))))) => (fun n : Int => [Value.int .i64 n]) y.1 ++ (fun y : (Int) × ((Int) × ((Int) × ((List (Int)) × (Unit)))) => (fun n : Int => [Value.int .i64 n]) y.1 ++ (fun y : (Int) × ((Int) × ((List (Int)) × (Unit))) => (fun n : Int => [Value.int .i64 n]) y.1 ++ (fun y : (Int) × ((List (Int)) × (Unit)) => (fun n : Int => [Value.int .i64 n]) y.1 ++ (fun y : (List (Int)) × (Unit) => (fun xs : List (Int) => xs.flatMap (fun n : Int => [Value.int .u64 n])) y.1 ++ (fun _ : Unit => []) y.2) y.2) y.2) y.2) y.2) y.2) y.2) (fun y : (Int) × ((Int) × ((Int) × ((Int) × ((Int) × ((Int) × ((List (Int)) × (Unit))))))) => (fun n : Int => (Lit.int .i64 n).wf = true) y.1 ∧ (fun y : (Int) × ((Int) × ((Int) × ((Int) × ((Int) × ((List (Int)) × (Unit)))))) => (fun n : Int => (Lit.int .i64 n).wf = true) y.1 ∧ (fun y : (Int) × ((Int) × ((Int) × ((Int) × ((List (Int)) × (Unit))))) => (fun n : Int => (Lit.int .i64 n).wf = true) y.1 ∧ (fun y : (Int) × ((Int) × ((Int) × ((List (Int)) × (Unit)))) => (fun n : Int => (Lit.int .i64 n).wf = true) y.1 ∧ (fun y : (Int) × ((Int) × ((List (Int)) × (Unit))) => (fun n : Int => (Lit.int .i64 n).wf = true) y.1 ∧ (fun y : (Int) × ((List (Int)) × (Unit)) => (fun n : Int => (Lit.int .i64 n).wf = true) y.1 ∧ (fun y : (List (Int)) × (Unit) => (fun xs : List (Int) => xs.length = 4 ∧ ∀ x, x ∈ xs → (fun n : Int => (Lit.int .u64 n).wf = true) x) y.1 ∧ (fun _ : Unit => True) y.2) y.2) y.2) y.2) y.2) y.2) y.2) s.1 s.2.1 s.2.2.1 s.2.2.2 ∧ s.2.1 ≤ 1048576) y.1 ∧ (fun y : (Int) × ((Int) × ((Bool) × (Unit))) => (fun n : Int => (Lit.int .i64 n).wf = true) y.1 ∧ (fun y : (Int) × ((Bool) × (Unit)) => (fun n : Int => (Lit.int .i64 n).wf = true) y.1 ∧ (fun y : (Bool) × (Unit) => (fun _ : Bool => True) y.1 ∧ (fun _ : Unit => True) y.2) y.2) y.2) y.2) z0) (w1 : (Lit.int .i64 a1).wf = true) (w2 : a2.size ≤ maxLen) (s2 : a2.size ≤ 1048576) (w3 : (Lit.int .i64 a3).wf = true) (w4 : (Lit.int .i64 a4).wf = true) :
    Calls Try.prog 6 #[.agg ((fun y : (Option Addr × Nat × Nat × List ((Int) × ((Int) × ((Int) × ((Int) × ((Int) × ((Int) × ((List (Int)) × (Unit))))))))) × ((Int) × ((Int) × ((Bool) × (Unit)))) => (fun s : Option Addr × Nat × Nat × List ((Int) × ((Int) × ((Int) × ((Int) × ((Int) × ((Int) × ((List (Int)) × (Unit)))))))) => [Value.slice s.1 s.2.1 s.2.2.1]) y.1 ++ (fun y : (Int) × ((Int) × ((Bool) × (Unit))) => (fun n : Int => [Value.int .i64 n]) y.1 ++ (fun y : (Int) × ((Bool) × (Unit)) => (fun n : Int => [Value.int .i64 n]) y.1 ++ (fun y : (Bool) × (Unit) => (fun b : Bool => [Value.bool b]) y.1 ++ (fun _ : Unit => []) y.2) y.2) y.2) y.2) z0).toArray, .int .i64 a1, .string a2, .int .i64 a3, .int .i64 a4] w fun e w' => e = .returned (.bool true) ∧ Below w.heap.size w w' := by
  obtain ⟨⟨⟨g1, g2, g3, g4, g5⟩, g6⟩, _⟩ := w0
  have e : Value.agg (prgF z0).toArray = (toPrg z0).val := prgF_val g1
  have hq : (toPrg z0).at (whole w) := prgF_at g4 fun y hy => (g5 y hy).2.2.2.2.2.2.1.1
  have h := dfaKept_c (m := whole w) hq (in64 w1) (in64 w3) (in64 w4) s2
  rw [← e] at h
  exact calls_below (h.mono fun v m' ⟨h1, h2⟩ => ⟨h1, fun b o hb => h2 ▸ hb⟩)
theorem bulk_pos {H : Type} (d : DataW H) : 1 ≤ Rows.uptoBulk d := by
  cases d with
  | lit l => cases l <;> (unfold Rows.uptoBulk; omega)
  | _ => unfold Rows.uptoBulk; omega
theorem bulk_len {H : Type} : ∀ l : List (DataW H), l.length ≤ Rows.uptoBulkAll l
  | [] => Nat.zero_le _
  | d :: r => by
    have h1 := bulk_pos d
    have h2 := bulk_len r
    unfold Rows.uptoBulkAll
    rw [List.length_cons]
    omega
theorem bulk_sl {H : Type} (es sp : List (DataW H)) : es.length ≤ Rows.uptoBulk (.slice es sp) := by
  have := bulk_len es
  unfold Rows.uptoBulk
  omega
theorem bulk_str {H : Type} (b : List UInt8) : b.length ≤ Rows.uptoBulk (.lit (.string b) : DataW H) := by
  unfold Rows.uptoBulk
  omega
theorem bulk_in {H : Type} {d : DataW H} : ∀ {l : List (DataW H)}, d ∈ l → Rows.uptoBulk d ≤ Rows.uptoBulkAll l
  | [], h => by cases h
  | x :: r, h => by
    unfold Rows.uptoBulkAll
    rcases List.mem_cons.1 h with rfl | h
    · omega
    · have := bulk_in h
      omega
theorem bulk_slv {H : Type} (es sp : List (DataW H)) : Rows.uptoBulkAll es ≤ Rows.uptoBulk (.slice es sp) := by
  rw [Rows.uptoBulk]
  omega
theorem bulk_agg {H : Type} (es : List (DataW H)) : Rows.uptoBulkAll es ≤ Rows.uptoBulk (.agg es) := by
  rw [Rows.uptoBulk]
  omega
def FF (H : Type) (d : DataW H) : Prop := Rows.uptoBulk d ≤ 1048576
theorem fits : Mv.FitsOk FF 1048576 :=
  ⟨fun {H es sp} h => ⟨Nat.le_trans (bulk_sl es sp) h, fun d hd => Nat.le_trans (bulk_in hd) (Nat.le_trans (bulk_slv es sp) h)⟩, fun {H ps} h d hd => Nat.le_trans (bulk_in hd) (Nat.le_trans (bulk_agg ps) h), fun {H b} h => Nat.le_trans (bulk_str b) h⟩
set_option maxRecDepth 100000 in
theorem lifted (os : Os) (started : os.Started) (H : Type) (enc : TypeId × Value → H) (F : Stop.Interp) :
    ReturnsInHanded {} Try.checked os 6 .any ((Rows.OpenSpec.upto Rows.dfaKeptSpec).pre6 enc Try.prog Try.f6 Rows.dfaKeptUptoRow.domain false) (((Rows.OpenSpec.upto Rows.dfaKeptSpec).at F).post enc Try.prog Try.f6 false true false false) := by
  refine returnsInHanded_of_cond (C := Try.checked) (s := Rows.OpenSpec.upto Rows.dfaKeptSpec) (k := Rows.uptoSmall) rfl own started (by kernel_rfl) Try.func6
    (OpenSpec.witness (enc := enc) (C := Try.checked) (s := Rows.OpenSpec.upto Rows.dfaKeptSpec) (k := Rows.uptoSmall) rfl false ⟨#[], #[.agg #[.slice none 0 0, .int .i64 0, .int .i64 0, .bool false], .int .i64 0, .string ⟨#[]⟩, .int .i64 0, .int .i64 0], []⟩ 8 (by kernel_rfl) (by kernel_rfl) (by kernel_rfl)
      (x := ([.agg [.nil, .lit (.int .i64 0), .lit (.int .i64 0), .lit (.bool false)], .lit (.int .i64 0), .lit (.string []), .lit (.int .i64 0), .lit (.int .i64 0)], [], [])) (by kernel_rfl) rfl (by kernel_rfl)) ?_
  intro W base args ds gs before hval0 hW _ hk0 _
  have hk : Rows.uptoBulkAll (ds ++ gs) ≤ 1048576 := of_decide_eq_true hk0
  have hval : ∀ (j : Nat) t v, Try.f6.params[j]? = some t → args[j]? = some v → Value.okWide Try.prog W .any base t v := hval0
  have hW' := hW
  obtain ⟨p, q, hA0, hV, rfl, hfz, hnd⟩ := hW
  have hA : DataW.TrodAll enc Try.prog W 0 (fun _ => true) true Try.f6.params.toList args.toList ds p := hA0
  rw [Try.params6] at hA hval
  obtain ⟨v0, vs0, d0, ds0, p0, q0, hargs, rfl, rfl, h0, r0⟩ := trodAll_cons hA
  obtain ⟨v1, vs1, d1, ds1, p1, q1, rfl, rfl, rfl, h1, r1⟩ := trodAll_cons r0
  obtain ⟨v2, vs2, d2, ds2, p2, q2, rfl, rfl, rfl, h2, r2⟩ := trodAll_cons r1
  obtain ⟨v3, vs3, d3, ds3, p3, q3, rfl, rfl, rfl, h3, r3⟩ := trodAll_cons r2
  obtain ⟨v4, vs4, d4, ds4, p4, q4, rfl, rfl, rfl, h4, r4⟩ := trodAll_cons r3
  obtain ⟨rfl, rfl, rfl⟩ := trodAll_nil r4
  obtain rfl : args = #[v0, v1, v2, v3, v4] := by cases args; simp_all
  obtain ⟨rfl, rfl⟩ := trodVars_none hV
  obtain ⟨c0, rfl, _⟩ := okWide_struct Try.underlying24 (hval 0 24 v0 rfl rfl)
  have k0 := h0
  have lt0 : ∀ x ∈ p0, x.block < W.heap.size := by obtain ⟨m, hm⟩ := k0; exact DataW.trod_lt m _ _ _ hm
  obtain ⟨fuel0, hf0⟩ := h0
  obtain ⟨z0, hcs0, w0⟩ := ((Mv.opensB_struct fits Try.underlying24 (by kernel_rfl) (show Mv.OpensFB _ _ [_, _, _, _] 0 _ _ FF from (Mv.opensB_cons (by kernel_rfl) (Mv.opensB_slice fits Try.underlying22 (Mv.opensB_struct fits Try.underlying46 (by kernel_rfl) (show Mv.OpensFB _ _ [_, _, _, _, _, _, _] 0 _ _ FF from (Mv.opensB_cons (by kernel_rfl) (Mv.Opens.b (Mv.opens_int Try.underlying3)) (Mv.opensB_cons (by kernel_rfl) (Mv.Opens.b (Mv.opens_int Try.underlying3)) (Mv.opensB_cons (by kernel_rfl) (Mv.Opens.b (Mv.opens_int Try.underlying3)) (Mv.opensB_cons (by kernel_rfl) (Mv.Opens.b (Mv.opens_int Try.underlying3)) (Mv.opensB_cons (by kernel_rfl) (Mv.Opens.b (Mv.opens_int Try.underlying3)) (Mv.opensB_cons (by kernel_rfl) (Mv.Opens.b (Mv.opens_int Try.underlying3)) (Mv.opensB_cons (by kernel_rfl) (Mv.opensB_array fits Try.underlying44 (by kernel_rfl) (Mv.Opens.b (Mv.opens_int Try.underlying42))) Mv.opensB_nil))))))))) (fun x hx => Eq.trans (b := 10) (by have h0 := (hx.2.2.2.2.2.2.1).1; simp only [List.length_append, List.length_cons, List.length_nil]; rw [Mv.flat_len (sz := 1) (fun _ => rfl), h0]) (by kernel_rfl))) (Mv.opensB_cons (by kernel_rfl) (Mv.Opens.b (Mv.opens_int Try.underlying3)) (Mv.opensB_cons (by kernel_rfl) (Mv.Opens.b (Mv.opens_int Try.underlying3)) (Mv.opensB_cons (by kernel_rfl) (Mv.Opens.b (Mv.opens_bool Try.underlying4)) Mv.opensB_nil)))))) : Mv.OpensB Try.prog W 24 _ _ FF) hf0 (Nat.le_trans (bulk_in (by simp)) hk)
  obtain rfl : c0 = ((fun y : (Option Addr × Nat × Nat × List ((Int) × ((Int) × ((Int) × ((Int) × ((Int) × ((Int) × ((List (Int)) × (Unit))))))))) × ((Int) × ((Int) × ((Bool) × (Unit)))) => (fun s : Option Addr × Nat × Nat × List ((Int) × ((Int) × ((Int) × ((Int) × ((Int) × ((Int) × ((List (Int)) × (Unit)))))))) => [Value.slice s.1 s.2.1 s.2.2.1]) y.1 ++ (fun y : (Int) × ((Int) × ((Bool) × (Unit))) => (fun n : Int => [Value.int .i64 n]) y.1 ++ (fun y : (Int) × ((Bool) × (Unit)) => (fun n : Int => [Value.int .i64 n]) y.1 ++ (fun y : (Bool) × (Unit) => (fun b : Bool => [Value.bool b]) y.1 ++ (fun _ : Unit => []) y.2) y.2) y.2) y.2) z0).toArray := by
    have hcc : c0.toList = (fun y : (Option Addr × Nat × Nat × List ((Int) × ((Int) × ((Int) × ((Int) × ((Int) × ((Int) × ((List (Int)) × (Unit))))))))) × ((Int) × ((Int) × ((Bool) × (Unit)))) => (fun s : Option Addr × Nat × Nat × List ((Int) × ((Int) × ((Int) × ((Int) × ((Int) × ((Int) × ((List (Int)) × (Unit)))))))) => [Value.slice s.1 s.2.1 s.2.2.1]) y.1 ++ (fun y : (Int) × ((Int) × ((Bool) × (Unit))) => (fun n : Int => [Value.int .i64 n]) y.1 ++ (fun y : (Int) × ((Bool) × (Unit)) => (fun n : Int => [Value.int .i64 n]) y.1 ++ (fun y : (Bool) × (Unit) => (fun b : Bool => [Value.bool b]) y.1 ++ (fun _ : Unit => []) y.2) y.2) y.2) y.2) z0 := hcs0
    rw [← hcc]
  obtain ⟨a1, rfl, rfl, rfl, w1⟩ := open_int Try.underlying3 (hval 1 3 v1 rfl rfl) h1
  have k2 := h2
  have lt2 : ∀ x ∈ p2, x.block < W.heap.size := by obtain ⟨m, hm⟩ := k2; exact DataW.trod_lt m _ _ _ hm
  obtain ⟨a2, rfl, rfl, rfl, w2⟩ := open_string Try.underlying9 (hval 2 9 v2 rfl rfl) h2
  have s2 : a2.size ≤ 1048576 := Nat.le_trans (Nat.le_trans (bulk_str a2.data.toList) (bulk_in (by simp))) hk
  obtain ⟨a3, rfl, rfl, rfl, w3⟩ := open_int Try.underlying3 (hval 3 3 v3 rfl rfl) h3
  obtain ⟨a4, rfl, rfl, rfl, w4⟩ := open_int Try.underlying3 (hval 4 3 v4 rfl rfl) h4
  clear hA0 hval0
  refine (walk z0 a1 a2 a3 a4 W w0 w1 w2 s2 w3 w4).mono fun e W' ⟨he, bel⟩ => ?_
  subst he
  exact ⟨_, rfl, _, _, _, [], _, [], hW', trodAll_mk1 (shut_bool Try.underlying4 _), (trodAll_cons_mk (Below.trod laidOut (by kernel_rfl) (of_decide_eq_true (by kernel_rfl)) k0 bel lt0) (trodAll_cons_mk (shut_int Try.underlying3 w1) (trodAll_cons_mk (Below.trod laidOut (by kernel_rfl) (of_decide_eq_true (by kernel_rfl)) k2 bel lt2) (trodAll_cons_mk (shut_int Try.underlying3 w3) (trodAll_cons_mk (shut_int Try.underlying3 w4) trodAll_mk0))))), rfl, bel.frame _, fun h => by cases h⟩
theorem over : Rows.dfaKeptUptoRow.holds Try.pinned (Rows.OpenSpec.upto Rows.dfaKeptSpec) :=
  OpenClaim.holds_of_cond 6 Try.f6 rfl rfl rfl rfl rfl rfl rfl ⟨rfl, rfl, rfl, rfl, rfl⟩ rfl rfl rfl rfl rfl (by kernel_rfl) Try.func6 (by kernel_rfl)
    (of_decide_eq_true (by kernel_rfl)) (by unfold Func.isWrapper; first | (rw [if_pos (by decide +kernel)]; kernel_rfl) | (rw [if_neg (by decide +kernel)]; exact ⟨rfl, rfl⟩))
    (fun os started H enc _ F => lifted os started H enc F)
theorem proved : Rows.DfaKeptUptoSaid := over
end Go.Proofs.Ytkkcdfnlmhmheaa.dfaKept
