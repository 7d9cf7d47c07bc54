/- DfaPlays: the given statement. -/
import Derived.Test.YtkkcdfnlmhmheaaRows
import Derived.WalkKit
import Derived.ProofKit
import Derived.OpenShut
import Derived.ShutString
import Derived.ChangeOld
import Derived.Below
import Derived.JoinedCond
import Derived.Test.YtkkcdfnlmhmheaaQp6
namespace Go.Proofs.Ytkkcdfnlmhmheaa.dfaPlays
open Go.ChangeShapes Go.WideShapes Go.ChangeAt Go.RowKit
open Go.ChangeMaps (open_string shut_string)
open Go.Mv (IsRow IsArr open_arr calls_below whole)
set_option linter.unusedVariables false
set_option maxHeartbeats 4000000
theorem own : ownKnob Try.prog.godebug = none := by kernel_rfl
theorem laidOut : laidOutB Try.prog = true := by kernel_rfl
theorem walk (z0 : (Option Addr × Nat × Nat × List ((Int) × ((Int) × ((Int) × ((Int) × ((Int) × ((Int) × ((List (Int)) × (Unit))))))))) × ((Int) × ((Int) × ((Bool) × (Unit))))) (a1 : Int) (a2 : Option Addr) (n2 c2 : Nat) (z2 : List ((Int) × ((ByteArray) × ((Int) × ((Bool) × (Unit)))))) (w : World) (w0 : (fun y : (Option Addr × Nat × Nat × List ((Int) × ((Int) × ((Int) × ((Int) × ((Int) × ((Int) × ((List (Int)) × (Unit))))))))) × ((Int) × ((Int) × ((Bool) × (Unit)))) => (fun s : Option Addr × Nat × Nat × List ((Int) × ((Int) × ((Int) × ((Int) × ((Int) × ((Int) × ((List (Int)) × (Unit)))))))) => Mv.IsSl w (fun y : (Int) × ((Int) × ((Int) × ((Int) × ((Int) × ((Int) × ((List (Int)) × (Unit))))))) => (fun n : Int => [Value.int .i64 n]) y.1 ++ (fun y : (Int) × ((Int) × ((Int) × ((Int) × ((Int) × ((List (Int)) × (Unit)))))) => (fun n : Int => [Value.int .i64 n]) y.1 ++ (fun y : (Int) × ((Int) × ((Int) × ((Int) × ((List (Int)) × (Unit))))) => (fun n : Int => [Value.int .i64 n]) y.1 ++ (fun y : (Int) × ((Int) × ((Int) × ((List (Int)) × (Unit)))) => (fun n : Int => [Value.int .i64 n]) y.1 ++ (fun y : (Int) × ((Int) × ((List (Int)) × (Unit))) => (fun n : Int => [Value.int .i64 n]) y.1 ++ (fun y : (Int) × ((List (Int)) × (Unit)) => (fun n : Int => [Value.int .i64 n]) y.1 ++ (fun y : (List (Int)) × (Unit) => (fun xs : List (Int) => xs.flatMap (fun n : Int => [Value.int .u64 n])) y.1 ++ (fun _ : Unit => []) y.2) y.2) y.2) y.2) y.2) y.2) y.2) (fun y : (Int) × ((Int) × ((Int) × ((Int) × ((Int) × ((Int) × ((List (Int)) × (Unit))))))) => (fun n : Int => (Lit.int .i64 n).wf = true) y.1 ∧ (fun y : (Int) × ((Int) × ((Int) × ((Int) × ((Int) × ((List (Int)) × (Unit)))))) => (fun n : Int => (Lit.int .i64 n).wf = true) y.1 ∧ (fun y : (Int) × ((Int) × ((Int) × ((Int) × ((List (Int)) × (Unit))))) => (fun n : Int => (Lit.int .i64 n).wf = true) y.1 ∧ (fun y : (Int) × ((Int) × ((Int) × ((List (Int)) × (Unit)))) => (fun n : Int => (Lit.int .i64 n).wf = true) y.1 ∧ (fun y : (Int) × ((Int) × ((List (Int)) × (Unit))) => (fun n : Int => (Lit.int .i64 n).wf = true) y.1 ∧ (fun y : (Int) × ((List (Int)) × (Unit)) => (fun n : Int => (Lit.int .i64 n).wf = true) y.1 ∧ (fun y : (List (Int)) × (Unit) => (fun xs : List (Int) => xs.length = 4 ∧ ∀ x, x ∈ xs → (fun n : Int => (Lit.int .u64 n).wf = true) x) y.1 ∧ (fun _ : Unit => True) y.2) y.2) y.2) y.2) y.2) y.2) y.2) s.1 s.2.1 s.2.2.1 s.2.2.2 ∧ s.2.1 ≤ 1048576) y.1 ∧ (fun y : (Int) × ((Int) × ((Bool) × (Unit))) => (fun n : Int => (Lit.int .i64 n).wf = true) y.1 ∧ (fun y : (Int) × ((Bool) × (Unit)) => (fun n : Int => (Lit.int .i64 n).wf = true) y.1 ∧ (fun y : (Bool) × (Unit) => (fun _ : Bool => True) y.1 ∧ (fun _ : Unit => True) y.2) y.2) y.2) y.2) z0) (w1 : (Lit.int .i64 a1).wf = true) (w2 : Mv.IsSl w (fun y : (Int) × ((ByteArray) × ((Int) × ((Bool) × (Unit)))) => (fun n : Int => [Value.int .i64 n]) y.1 ++ (fun y : (ByteArray) × ((Int) × ((Bool) × (Unit))) => (fun s : ByteArray => [Value.string s]) y.1 ++ (fun y : (Int) × ((Bool) × (Unit)) => (fun n : Int => [Value.int .i64 n]) y.1 ++ (fun y : (Bool) × (Unit) => (fun b : Bool => [Value.bool b]) y.1 ++ (fun _ : Unit => []) y.2) y.2) y.2) y.2) (fun y : (Int) × ((ByteArray) × ((Int) × ((Bool) × (Unit)))) => (fun n : Int => (Lit.int .i64 n).wf = true) y.1 ∧ (fun y : (ByteArray) × ((Int) × ((Bool) × (Unit))) => (fun s : ByteArray => s.size ≤ 1048576) y.1 ∧ (fun y : (Int) × ((Bool) × (Unit)) => (fun n : Int => (Lit.int .i64 n).wf = true) y.1 ∧ (fun y : (Bool) × (Unit) => (fun _ : Bool => True) y.1 ∧ (fun _ : Unit => True) y.2) y.2) y.2) y.2) a2 n2 c2 z2) (s2 : n2 ≤ 1048576) :
    Calls Try.prog 8 #[.agg ((fun y : (Option Addr × Nat × Nat × List ((Int) × ((Int) × ((Int) × ((Int) × ((Int) × ((Int) × ((List (Int)) × (Unit))))))))) × ((Int) × ((Int) × ((Bool) × (Unit)))) => (fun s : Option Addr × Nat × Nat × List ((Int) × ((Int) × ((Int) × ((Int) × ((Int) × ((Int) × ((List (Int)) × (Unit)))))))) => [Value.slice s.1 s.2.1 s.2.2.1]) y.1 ++ (fun y : (Int) × ((Int) × ((Bool) × (Unit))) => (fun n : Int => [Value.int .i64 n]) y.1 ++ (fun y : (Int) × ((Bool) × (Unit)) => (fun n : Int => [Value.int .i64 n]) y.1 ++ (fun y : (Bool) × (Unit) => (fun b : Bool => [Value.bool b]) y.1 ++ (fun _ : Unit => []) y.2) y.2) y.2) y.2) z0).toArray, .int .i64 a1, .slice a2 n2 c2] w fun e w' => e = .returned (.bool true) ∧ Below w.heap.size w w' := by
  obtain ⟨⟨⟨g1, g2, g3, g4, g5⟩, g6⟩, _⟩ := w0
  obtain ⟨h1, h2, h3, h4, h5⟩ := w2
  have e : Value.agg (prgF z0).toArray = (toPrg z0).val := prgF_val g1
  have hq : (toPrg z0).at (whole w) := prgF_at g4 fun y hy => (g5 y hy).2.2.2.2.2.2.1.1
  have hU : ∀ i, i ∈ (toPrg z0).ins → ∀ j, 0 ≤ [i.s0, i.s1, i.s2, i.s3].getD j 0 := fun i hi j => by
    obtain ⟨y, hy, rfl⟩ := List.mem_map.1 hi
    exact u_ok (g5 y hy).2.2.2.2.2.2.1.1 (g5 y hy).2.2.2.2.2.2.1.2 j
  have h4 : Mv.Rd (whole w) a2 (z2.flatMap clF) := h4
  rw [clF_flat] at h4
  have h := dfaPlays_c (m := whole w) (c := c2) hq hU (in64 w1) h4 (fun z hz => by
    obtain ⟨y, hy, rfl⟩ := List.mem_map.1 hz
    exact ⟨(h5 y hy).2.1, in64 (h5 y hy).1, in64 (h5 y hy).2.2.1⟩) (by rw [List.length_map, h1]; exact s2)
  rw [List.length_map, h1, ← e] at h
  exact calls_below (h.mono fun v m' ⟨h1, h2⟩ => ⟨h1, fun b o hb => h2 ▸ hb⟩)
theorem bulk_pos {H : Type} (d : DataW H) : 1 ≤ Rows.uptoBulk d := by
  cases d with
  | lit l => cases l <;> (unfold Rows.uptoBulk; omega)
  | _ => unfold Rows.uptoBulk; omega
theorem bulk_len {H : Type} : ∀ l : List (DataW H), l.length ≤ Rows.uptoBulkAll l
  | [] => Nat.zero_le _
  | d :: r => by
    have h1 := bulk_pos d
    have h2 := bulk_len r
    unfold Rows.uptoBulkAll
    rw [List.length_cons]
    omega
theorem bulk_sl {H : Type} (es sp : List (DataW H)) : es.length ≤ Rows.uptoBulk (.slice es sp) := by
  have := bulk_len es
  unfold Rows.uptoBulk
  omega
theorem bulk_str {H : Type} (b : List UInt8) : b.length ≤ Rows.uptoBulk (.lit (.string b) : DataW H) := by
  unfold Rows.uptoBulk
  omega
theorem bulk_in {H : Type} {d : DataW H} : ∀ {l : List (DataW H)}, d ∈ l → Rows.uptoBulk d ≤ Rows.uptoBulkAll l
  | [], h => by cases h
  | x :: r, h => by
    unfold Rows.uptoBulkAll
    rcases List.mem_cons.1 h with rfl | h
    · omega
    · have := bulk_in h
      omega
theorem bulk_slv {H : Type} (es sp : List (DataW H)) : Rows.uptoBulkAll es ≤ Rows.uptoBulk (.slice es sp) := by
  rw [Rows.uptoBulk]
  omega
theorem bulk_agg {H : Type} (es : List (DataW H)) : Rows.uptoBulkAll es ≤ Rows.uptoBulk (.agg es) := by
  rw [Rows.uptoBulk]
  omega
def FF (H : Type) (d : DataW H) : Prop := Rows.uptoBulk d ≤ 1048576
theorem fits : Mv.FitsOk FF 1048576 :=
  ⟨fun {H es sp} h => ⟨Nat.le_trans (bulk_sl es sp) h, fun d hd => Nat.le_trans (bulk_in hd) (Nat.le_trans (bulk_slv es sp) h)⟩, fun {H ps} h d hd => Nat.le_trans (bulk_in hd) (Nat.le_trans (bulk_agg ps) h), fun {H b} h => Nat.le_trans (bulk_str b) h⟩
set_option maxRecDepth 100000 in
theorem lifted (os : Os) (started : os.Started) (H : Type) (enc : TypeId × Value → H) (F : Stop.Interp) :
    ReturnsInHanded {} Try.checked os 8 .any ((Rows.OpenSpec.upto Rows.dfaPlaysSpec).pre6 enc Try.prog Try.f8 Rows.dfaPlaysUptoRow.domain false) (((Rows.OpenSpec.upto Rows.dfaPlaysSpec).at F).post enc Try.prog Try.f8 false true false false) := by
  refine returnsInHanded_of_cond (C := Try.checked) (s := Rows.OpenSpec.upto Rows.dfaPlaysSpec) (k := Rows.uptoSmall) rfl own started (by kernel_rfl) Try.func8
    (OpenSpec.witness (enc := enc) (C := Try.checked) (s := Rows.OpenSpec.upto Rows.dfaPlaysSpec) (k := Rows.uptoSmall) rfl false ⟨#[], #[.agg #[.slice none 0 0, .int .i64 0, .int .i64 0, .bool false], .int .i64 0, .slice none 0 0], []⟩ 8 (by kernel_rfl) (by kernel_rfl) (by kernel_rfl)
      (x := ([.agg [.nil, .lit (.int .i64 0), .lit (.int .i64 0), .lit (.bool false)], .lit (.int .i64 0), .nil], [], [])) (by kernel_rfl) rfl (by kernel_rfl)) ?_
  intro W base args ds gs before hval0 hW _ hk0 _
  have hk : Rows.uptoBulkAll (ds ++ gs) ≤ 1048576 := of_decide_eq_true hk0
  have hval : ∀ (j : Nat) t v, Try.f8.params[j]? = some t → args[j]? = some v → Value.okWide Try.prog W .any base t v := hval0
  have hW' := hW
  obtain ⟨p, q, hA0, hV, rfl, hfz, hnd⟩ := hW
  have hA : DataW.TrodAll enc Try.prog W 0 (fun _ => true) true Try.f8.params.toList args.toList ds p := hA0
  rw [Try.params8] at hA hval
  obtain ⟨v0, vs0, d0, ds0, p0, q0, hargs, rfl, rfl, h0, r0⟩ := trodAll_cons hA
  obtain ⟨v1, vs1, d1, ds1, p1, q1, rfl, rfl, rfl, h1, r1⟩ := trodAll_cons r0
  obtain ⟨v2, vs2, d2, ds2, p2, q2, rfl, rfl, rfl, h2, r2⟩ := trodAll_cons r1
  obtain ⟨rfl, rfl, rfl⟩ := trodAll_nil r2
  obtain rfl : args = #[v0, v1, v2] := by cases args; simp_all
  obtain ⟨rfl, rfl⟩ := trodVars_none hV
  obtain ⟨c0, rfl, _⟩ := okWide_struct Try.underlying24 (hval 0 24 v0 rfl rfl)
  have k0 := h0
  have lt0 : ∀ x ∈ p0, x.block < W.heap.size := by obtain ⟨m, hm⟩ := k0; exact DataW.trod_lt m _ _ _ hm
  obtain ⟨fuel0, hf0⟩ := h0
  obtain ⟨z0, hcs0, w0⟩ := ((Mv.opensB_struct fits Try.underlying24 (by kernel_rfl) (show Mv.OpensFB _ _ [_, _, _, _] 0 _ _ FF from (Mv.opensB_cons (by kernel_rfl) (Mv.opensB_slice fits Try.underlying22 (Mv.opensB_struct fits Try.underlying46 (by kernel_rfl) (show Mv.OpensFB _ _ [_, _, _, _, _, _, _] 0 _ _ FF from (Mv.opensB_cons (by kernel_rfl) (Mv.Opens.b (Mv.opens_int Try.underlying3)) (Mv.opensB_cons (by kernel_rfl) (Mv.Opens.b (Mv.opens_int Try.underlying3)) (Mv.opensB_cons (by kernel_rfl) (Mv.Opens.b (Mv.opens_int Try.underlying3)) (Mv.opensB_cons (by kernel_rfl) (Mv.Opens.b (Mv.opens_int Try.underlying3)) (Mv.opensB_cons (by kernel_rfl) (Mv.Opens.b (Mv.opens_int Try.underlying3)) (Mv.opensB_cons (by kernel_rfl) (Mv.Opens.b (Mv.opens_int Try.underlying3)) (Mv.opensB_cons (by kernel_rfl) (Mv.opensB_array fits Try.underlying44 (by kernel_rfl) (Mv.Opens.b (Mv.opens_int Try.underlying42))) Mv.opensB_nil))))))))) (fun x hx => Eq.trans (b := 10) (by have h0 := (hx.2.2.2.2.2.2.1).1; simp only [List.length_append, List.length_cons, List.length_nil]; rw [Mv.flat_len (sz := 1) (fun _ => rfl), h0]) (by kernel_rfl))) (Mv.opensB_cons (by kernel_rfl) (Mv.Opens.b (Mv.opens_int Try.underlying3)) (Mv.opensB_cons (by kernel_rfl) (Mv.Opens.b (Mv.opens_int Try.underlying3)) (Mv.opensB_cons (by kernel_rfl) (Mv.Opens.b (Mv.opens_bool Try.underlying4)) Mv.opensB_nil)))))) : Mv.OpensB Try.prog W 24 _ _ FF) hf0 (Nat.le_trans (bulk_in (by simp)) hk)
  obtain rfl : c0 = ((fun y : (Option Addr × Nat × Nat × List ((Int) × ((Int) × ((Int) × ((Int) × ((Int) × ((Int) × ((List (Int)) × (Unit))))))))) × ((Int) × ((Int) × ((Bool) × (Unit)))) => (fun s : Option Addr × Nat × Nat × List ((Int) × ((Int) × ((Int) × ((Int) × ((Int) × ((Int) × ((List (Int)) × (Unit)))))))) => [Value.slice s.1 s.2.1 s.2.2.1]) y.1 ++ (fun y : (Int) × ((Int) × ((Bool) × (Unit))) => (fun n : Int => [Value.int .i64 n]) y.1 ++ (fun y : (Int) × ((Bool) × (Unit)) => (fun n : Int => [Value.int .i64 n]) y.1 ++ (fun y : (Bool) × (Unit) => (fun b : Bool => [Value.bool b]) y.1 ++ (fun _ : Unit => []) y.2) y.2) y.2) y.2) z0).toArray := by
    have hcc : c0.toList = (fun y : (Option Addr × Nat × Nat × List ((Int) × ((Int) × ((Int) × ((Int) × ((Int) × ((Int) × ((List (Int)) × (Unit))))))))) × ((Int) × ((Int) × ((Bool) × (Unit)))) => (fun s : Option Addr × Nat × Nat × List ((Int) × ((Int) × ((Int) × ((Int) × ((Int) × ((Int) × ((List (Int)) × (Unit)))))))) => [Value.slice s.1 s.2.1 s.2.2.1]) y.1 ++ (fun y : (Int) × ((Int) × ((Bool) × (Unit))) => (fun n : Int => [Value.int .i64 n]) y.1 ++ (fun y : (Int) × ((Bool) × (Unit)) => (fun n : Int => [Value.int .i64 n]) y.1 ++ (fun y : (Bool) × (Unit) => (fun b : Bool => [Value.bool b]) y.1 ++ (fun _ : Unit => []) y.2) y.2) y.2) y.2) z0 := hcs0
    rw [← hcc]
  obtain ⟨a1, rfl, rfl, rfl, w1⟩ := open_int Try.underlying3 (hval 1 3 v1 rfl rfl) h1
  obtain ⟨a2, n2, c2, rfl⟩ := okWide_slice Try.underlying25 (hval 2 25 v2 rfl rfl)
  have k2 := h2
  have lt2 : ∀ x ∈ p2, x.block < W.heap.size := by obtain ⟨m, hm⟩ := k2; exact DataW.trod_lt m _ _ _ hm
  obtain ⟨fuel2, hf2⟩ := h2
  have s2 : n2 ≤ 1048576 := by
    rcases DataW.trod_slice Try.underlying25 hf2 with ⟨hcs, _⟩ | ⟨x, len, cap, elems, rest, m, _, hcs, hx, _, _, _, hlen, _⟩
    · simp [Value.cells] at hcs
      obtain ⟨rfl, rfl, rfl⟩ := hcs
      omega
    · simp [Value.cells] at hcs
      obtain ⟨rfl, rfl, rfl⟩ := hcs
      simp only [Prod.mk.injEq] at hx
      have h1 := bulk_sl (elems.map (·.1)) (rest.map (·.1))
      rw [← hx.1, List.length_map, hlen] at h1
      exact Nat.le_trans (Nat.le_trans h1 (bulk_in (by simp))) hk
  obtain ⟨⟨a2', n2', c2', z2⟩, hcs2, w2, _⟩ := ((Mv.opensB_slice fits Try.underlying25 (Mv.opensB_struct fits Try.underlying33 (by kernel_rfl) (show Mv.OpensFB _ _ [_, _, _, _] 0 _ _ FF from (Mv.opensB_cons (by kernel_rfl) (Mv.Opens.b (Mv.opens_int Try.underlying3)) (Mv.opensB_cons (by kernel_rfl) (Mv.opensB_string fits Try.underlying9) (Mv.opensB_cons (by kernel_rfl) (Mv.Opens.b (Mv.opens_int Try.underlying3)) (Mv.opensB_cons (by kernel_rfl) (Mv.Opens.b (Mv.opens_bool Try.underlying4)) Mv.opensB_nil)))))) (fun _ _ => (show _ = _ by rfl).trans (by kernel_rfl))) : Mv.OpensB Try.prog W 25 _ _ FF) hf2 (Nat.le_trans (bulk_in (by simp)) hk)
  simp [Value.cells] at hcs2
  obtain ⟨rfl, rfl, rfl⟩ := hcs2
  clear hA0 hval0
  refine (walk z0 a1 a2 n2 c2 z2 W w0 w1 w2 s2).mono fun e W' ⟨he, bel⟩ => ?_
  subst he
  exact ⟨_, rfl, _, _, _, [], _, [], hW', trodAll_mk1 (shut_bool Try.underlying4 _), (trodAll_cons_mk (Below.trod laidOut (by kernel_rfl) (of_decide_eq_true (by kernel_rfl)) k0 bel lt0) (trodAll_cons_mk (shut_int Try.underlying3 w1) (trodAll_cons_mk (Below.trod laidOut (by kernel_rfl) (of_decide_eq_true (by kernel_rfl)) k2 bel lt2) trodAll_mk0))), rfl, bel.frame _, fun h => by cases h⟩
theorem over : Rows.dfaPlaysUptoRow.holds Try.pinned (Rows.OpenSpec.upto Rows.dfaPlaysSpec) :=
  OpenClaim.holds_of_cond 8 Try.f8 rfl rfl rfl rfl rfl rfl rfl ⟨rfl, rfl, rfl, rfl, rfl⟩ rfl rfl rfl rfl rfl (by kernel_rfl) Try.func8 (by kernel_rfl)
    (of_decide_eq_true (by kernel_rfl)) (by unfold Func.isWrapper; first | (rw [if_pos (by decide +kernel)]; kernel_rfl) | (rw [if_neg (by decide +kernel)]; exact ⟨rfl, rfl⟩))
    (fun os started H enc _ F => lifted os started H enc F)
theorem proved : Rows.DfaPlaysUptoSaid := over
end Go.Proofs.Ytkkcdfnlmhmheaa.dfaPlays
