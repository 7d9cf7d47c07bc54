/- TablePlays: the given statement. -/
import Derived.Test.YtoifiplefjclbaaRows
import Derived.WalkKit
import Derived.ProofKit
import Derived.OpenShut
import Derived.ShutString
import Derived.ChangeOld
import Derived.Below
import Derived.Test.YtoifiplefjclbaaMvRow
import Derived.Test.YtoifiplefjclbaaMvOpen
import Derived.Test.YtoifiplefjclbaaMvOpenB
import Derived.JoinedCond
import Derived.Test.YtoifiplefjclbaaTbPlays
namespace Go.Proofs.Ytoifiplefjclbaa.tablePlays
open Go.ChangeShapes Go.WideShapes Go.ChangeAt Go.RowKit
open Go.ChangeMaps (open_string shut_string)
open Go.Mv (IsRow IsArr open_arr calls_below whole)
set_option linter.unusedVariables false
theorem own : ownKnob Try.prog.godebug = none := by kernel_rfl
theorem laidOut : laidOutB Try.prog = true := by kernel_rfl
theorem walk (a0 : Int) (a1 : Int) (a2 : Int) (a3 : Int) (a4 : Option Addr) (n4 c4 : Nat) (z4 : List ((Int) × ((Int) × ((Int) × ((Int) × ((Option Addr × Nat × Nat × List (Int)) × ((Int) × ((Int) × ((Option Addr × Nat × Nat × List (Int)) × (Unit)))))))))) (w : World) (w0 : (Lit.int .i64 a0).wf = true) (w1 : (Lit.int .i64 a1).wf = true) (w2 : (Lit.int .i64 a2).wf = true) (w3 : (Lit.int .i64 a3).wf = true) (w4 : Mv.IsSl w (fun y : (Int) × ((Int) × ((Int) × ((Int) × ((Option Addr × Nat × Nat × List (Int)) × ((Int) × ((Int) × ((Option Addr × Nat × Nat × List (Int)) × (Unit)))))))) => (fun n : Int => [Value.int .i64 n]) y.1 ++ (fun y : (Int) × ((Int) × ((Int) × ((Option Addr × Nat × Nat × List (Int)) × ((Int) × ((Int) × ((Option Addr × Nat × Nat × List (Int)) × (Unit))))))) => (fun n : Int => [Value.int .i64 n]) y.1 ++ (fun y : (Int) × ((Int) × ((Option Addr × Nat × Nat × List (Int)) × ((Int) × ((Int) × ((Option Addr × Nat × Nat × List (Int)) × (Unit)))))) => (fun n : Int => [Value.int .i64 n]) y.1 ++ (fun y : (Int) × ((Option Addr × Nat × Nat × List (Int)) × ((Int) × ((Int) × ((Option Addr × Nat × Nat × List (Int)) × (Unit))))) => (fun n : Int => [Value.int .i64 n]) y.1 ++ (fun y : (Option Addr × Nat × Nat × List (Int)) × ((Int) × ((Int) × ((Option Addr × Nat × Nat × List (Int)) × (Unit)))) => (fun s : Option Addr × Nat × Nat × List (Int) => [Value.slice s.1 s.2.1 s.2.2.1]) y.1 ++ (fun y : (Int) × ((Int) × ((Option Addr × Nat × Nat × List (Int)) × (Unit))) => (fun n : Int => [Value.int .i64 n]) y.1 ++ (fun y : (Int) × ((Option Addr × Nat × Nat × List (Int)) × (Unit)) => (fun n : Int => [Value.int .i64 n]) y.1 ++ (fun y : (Option Addr × Nat × Nat × List (Int)) × (Unit) => (fun s : Option Addr × Nat × Nat × List (Int) => [Value.slice s.1 s.2.1 s.2.2.1]) y.1 ++ (fun _ : Unit => []) y.2) y.2) y.2) y.2) y.2) y.2) y.2) y.2) (fun y : (Int) × ((Int) × ((Int) × ((Int) × ((Option Addr × Nat × Nat × List (Int)) × ((Int) × ((Int) × ((Option Addr × Nat × Nat × List (Int)) × (Unit)))))))) => (fun n : Int => (Lit.int .i64 n).wf = true) y.1 ∧ (fun y : (Int) × ((Int) × ((Int) × ((Option Addr × Nat × Nat × List (Int)) × ((Int) × ((Int) × ((Option Addr × Nat × Nat × List (Int)) × (Unit))))))) => (fun n : Int => (Lit.int .i64 n).wf = true) y.1 ∧ (fun y : (Int) × ((Int) × ((Option Addr × Nat × Nat × List (Int)) × ((Int) × ((Int) × ((Option Addr × Nat × Nat × List (Int)) × (Unit)))))) => (fun n : Int => (Lit.int .i64 n).wf = true) y.1 ∧ (fun y : (Int) × ((Option Addr × Nat × Nat × List (Int)) × ((Int) × ((Int) × ((Option Addr × Nat × Nat × List (Int)) × (Unit))))) => (fun n : Int => (Lit.int .i64 n).wf = true) y.1 ∧ (fun y : (Option Addr × Nat × Nat × List (Int)) × ((Int) × ((Int) × ((Option Addr × Nat × Nat × List (Int)) × (Unit)))) => (fun s : Option Addr × Nat × Nat × List (Int) => Mv.IsSl w (fun n : Int => [Value.int .i64 n]) (fun n : Int => (Lit.int .i64 n).wf = true) s.1 s.2.1 s.2.2.1 s.2.2.2 ∧ s.2.1 ≤ 1048576) y.1 ∧ (fun y : (Int) × ((Int) × ((Option Addr × Nat × Nat × List (Int)) × (Unit))) => (fun n : Int => (Lit.int .i64 n).wf = true) y.1 ∧ (fun y : (Int) × ((Option Addr × Nat × Nat × List (Int)) × (Unit)) => (fun n : Int => (Lit.int .i64 n).wf = true) y.1 ∧ (fun y : (Option Addr × Nat × Nat × List (Int)) × (Unit) => (fun s : Option Addr × Nat × Nat × List (Int) => Mv.IsSl w (fun n : Int => [Value.int .i64 n]) (fun n : Int => (Lit.int .i64 n).wf = true) s.1 s.2.1 s.2.2.1 s.2.2.2 ∧ s.2.1 ≤ 1048576) y.1 ∧ (fun _ : Unit => True) y.2) y.2) y.2) y.2) y.2) y.2) y.2) y.2) a4 n4 c4 z4) (s4 : n4 ≤ 1048576) :
    Calls Try.prog 9 #[.int .i64 a0, .int .i64 a1, .int .i64 a2, .int .i64 a3, .slice a4 n4 c4] w fun e w' => e = .returned (.bool true) ∧ Below w.heap.size w w' := by
  obtain ⟨h1, h2, h3, h4, h5⟩ := w4
  have i64 : ∀ a, (Lit.int .i64 a).wf = true → In64 a := fun a h => by
    unfold Lit.wf at h
    simp [IntKind.min, IntKind.max, IntKind.signed, IntKind.bits] at h
    unfold In64
    omega
  have h4 : Mv.Rd (whole w) a4 (z4.flatMap tpF) := h4
  rw [← tp_flat z4 fun y hy => ⟨(h5 y hy).2.2.2.2.1.1.1, (h5 y hy).2.2.2.2.2.2.2.1.1.1⟩] at h4
  have h := tablePlays_c (m := whole w) (c := c4) (i64 a0 w0) (i64 a1 w1) (i64 a2 w2) (i64 a3 w3) h4 (fun z hz => by
    obtain ⟨y, hy, rfl⟩ := List.mem_map.1 hz
    have h6 := h5 y hy
    have k1 := h6.2.2.2.2.1
    have k2 := h6.2.2.2.2.2.2.2.1
    exact ⟨i64 _ h6.2.1, i64 _ h6.2.2.2.2.2.1, i64 _ h6.2.2.2.1, rd_ints k1.1.2.2.2.1, Nat.lt_of_le_of_lt (Nat.le_trans (Nat.le_of_eq k1.1.1) k1.2) (by decide), rd_ints k2.1.2.2.2.1, Nat.lt_of_le_of_lt (Nat.le_trans (Nat.le_of_eq k2.1.1) k2.2) (by decide)⟩)
  rw [List.length_map, h1] at h
  exact calls_below (h.mono fun v m' ⟨h1, h2⟩ => ⟨h1, h2⟩)
theorem bulk_pos {H : Type} (d : DataW H) : 1 ≤ Rows.uptoBulk d := by
  cases d with
  | lit l => cases l <;> (unfold Rows.uptoBulk; omega)
  | _ => unfold Rows.uptoBulk; omega
theorem bulk_len {H : Type} : ∀ l : List (DataW H), l.length ≤ Rows.uptoBulkAll l
  | [] => Nat.zero_le _
  | d :: r => by
    have h1 := bulk_pos d
    have h2 := bulk_len r
    unfold Rows.uptoBulkAll
    rw [List.length_cons]
    omega
theorem bulk_sl {H : Type} (es sp : List (DataW H)) : es.length ≤ Rows.uptoBulk (.slice es sp) := by
  have := bulk_len es
  unfold Rows.uptoBulk
  omega
theorem bulk_str {H : Type} (b : List UInt8) : b.length ≤ Rows.uptoBulk (.lit (.string b) : DataW H) := by
  unfold Rows.uptoBulk
  omega
theorem bulk_in {H : Type} {d : DataW H} : ∀ {l : List (DataW H)}, d ∈ l → Rows.uptoBulk d ≤ Rows.uptoBulkAll l
  | [], h => by cases h
  | x :: r, h => by
    unfold Rows.uptoBulkAll
    rcases List.mem_cons.1 h with rfl | h
    · omega
    · have := bulk_in h
      omega
theorem bulk_slv {H : Type} (es sp : List (DataW H)) : Rows.uptoBulkAll es ≤ Rows.uptoBulk (.slice es sp) := by
  rw [Rows.uptoBulk]
  omega
theorem bulk_agg {H : Type} (es : List (DataW H)) : Rows.uptoBulkAll es ≤ Rows.uptoBulk (.agg es) := by
  rw [Rows.uptoBulk]
  omega
def FF (H : Type) (d : DataW H) : Prop := Rows.uptoBulk d ≤ 1048576
theorem fits : Mv.FitsOk FF 1048576 :=
  ⟨fun {H es sp} h => ⟨Nat.le_trans (bulk_sl es sp) h, fun d hd => Nat.le_trans (bulk_in hd) (Nat.le_trans (bulk_slv es sp) h)⟩, fun {H ps} h d hd => Nat.le_trans (bulk_in hd) (Nat.le_trans (bulk_agg ps) h), fun {H b} h => Nat.le_trans (bulk_str b) h⟩
set_option maxRecDepth 100000 in
theorem lifted (os : Os) (started : os.Started) (H : Type) (enc : TypeId × Value → H) (F : Stop.Interp) :
    ReturnsInHanded {} Try.checked os 9 .any ((Rows.OpenSpec.upto Rows.tablePlaysSpec).pre6 enc Try.prog Try.f9 Rows.tablePlaysUptoRow.domain false) (((Rows.OpenSpec.upto Rows.tablePlaysSpec).at F).post enc Try.prog Try.f9 false true false false) := by
  refine returnsInHanded_of_cond (C := Try.checked) (s := Rows.OpenSpec.upto Rows.tablePlaysSpec) (k := Rows.uptoSmall) rfl own started (by kernel_rfl) Try.func9
    (OpenSpec.witness (enc := enc) (C := Try.checked) (s := Rows.OpenSpec.upto Rows.tablePlaysSpec) (k := Rows.uptoSmall) rfl false ⟨#[], #[.int .i64 0, .int .i64 0, .int .i64 0, .int .i64 0, .slice none 0 0], []⟩ 8 (by kernel_rfl) (by kernel_rfl) (by kernel_rfl)
      (x := ([.lit (.int .i64 0), .lit (.int .i64 0), .lit (.int .i64 0), .lit (.int .i64 0), .nil], [], [])) (by kernel_rfl) rfl (by kernel_rfl)) ?_
  intro W base args ds gs before hval0 hW _ hk0 _
  have hk : Rows.uptoBulkAll (ds ++ gs) ≤ 1048576 := of_decide_eq_true hk0
  have hval : ∀ (j : Nat) t v, Try.f9.params[j]? = some t → args[j]? = some v → Value.okWide Try.prog W .any base t v := hval0
  have hW' := hW
  obtain ⟨p, q, hA0, hV, rfl, hfz, hnd⟩ := hW
  have hA : DataW.TrodAll enc Try.prog W 0 (fun _ => true) true Try.f9.params.toList args.toList ds p := hA0
  rw [Try.params9] at hA hval
  obtain ⟨v0, vs0, d0, ds0, p0, q0, hargs, rfl, rfl, h0, r0⟩ := trodAll_cons hA
  obtain ⟨v1, vs1, d1, ds1, p1, q1, rfl, rfl, rfl, h1, r1⟩ := trodAll_cons r0
  obtain ⟨v2, vs2, d2, ds2, p2, q2, rfl, rfl, rfl, h2, r2⟩ := trodAll_cons r1
  obtain ⟨v3, vs3, d3, ds3, p3, q3, rfl, rfl, rfl, h3, r3⟩ := trodAll_cons r2
  obtain ⟨v4, vs4, d4, ds4, p4, q4, rfl, rfl, rfl, h4, r4⟩ := trodAll_cons r3
  obtain ⟨rfl, rfl, rfl⟩ := trodAll_nil r4
  obtain rfl : args = #[v0, v1, v2, v3, v4] := by cases args; simp_all
  obtain ⟨rfl, rfl⟩ := trodVars_none hV
  obtain ⟨a0, rfl, rfl, rfl, w0⟩ := open_int Try.underlying3 (hval 0 3 v0 rfl rfl) h0
  obtain ⟨a1, rfl, rfl, rfl, w1⟩ := open_int Try.underlying3 (hval 1 3 v1 rfl rfl) h1
  obtain ⟨a2, rfl, rfl, rfl, w2⟩ := open_int Try.underlying3 (hval 2 3 v2 rfl rfl) h2
  obtain ⟨a3, rfl, rfl, rfl, w3⟩ := open_int Try.underlying3 (hval 3 3 v3 rfl rfl) h3
  obtain ⟨a4, n4, c4, rfl⟩ := okWide_slice Try.underlying50 (hval 4 50 v4 rfl rfl)
  have k4 := h4
  have lt4 : ∀ x ∈ p4, x.block < W.heap.size := by obtain ⟨m, hm⟩ := k4; exact DataW.trod_lt m _ _ _ hm
  obtain ⟨fuel4, hf4⟩ := h4
  have s4 : n4 ≤ 1048576 := by
    rcases DataW.trod_slice Try.underlying50 hf4 with ⟨hcs, _⟩ | ⟨x, len, cap, elems, rest, m, _, hcs, hx, _, _, _, hlen, _⟩
    · simp [Value.cells] at hcs
      obtain ⟨rfl, rfl, rfl⟩ := hcs
      omega
    · simp [Value.cells] at hcs
      obtain ⟨rfl, rfl, rfl⟩ := hcs
      simp only [Prod.mk.injEq] at hx
      have h1 := bulk_sl (elems.map (·.1)) (rest.map (·.1))
      rw [← hx.1, List.length_map, hlen] at h1
      exact Nat.le_trans (Nat.le_trans h1 (bulk_in (by simp))) hk
  obtain ⟨⟨a4', n4', c4', z4⟩, hcs4, w4, _⟩ := ((Mv.opensB_slice fits Try.underlying50 (Mv.opensB_struct fits Try.underlying60 (by kernel_rfl) (show Mv.OpensFB _ _ [_, _, _, _, _, _, _, _] 0 _ _ FF from (Mv.opensB_cons (by kernel_rfl) (Mv.Opens.b (Mv.opens_int Try.underlying3)) (Mv.opensB_cons (by kernel_rfl) (Mv.Opens.b (Mv.opens_int Try.underlying3)) (Mv.opensB_cons (by kernel_rfl) (Mv.Opens.b (Mv.opens_int Try.underlying3)) (Mv.opensB_cons (by kernel_rfl) (Mv.Opens.b (Mv.opens_int Try.underlying3)) (Mv.opensB_cons (by kernel_rfl) (Mv.opensB_slice fits Try.underlying22 (Mv.Opens.b (Mv.opens_int Try.underlying3)) (fun _ _ => (show _ = _ by rfl).trans (by kernel_rfl))) (Mv.opensB_cons (by kernel_rfl) (Mv.Opens.b (Mv.opens_int Try.underlying3)) (Mv.opensB_cons (by kernel_rfl) (Mv.Opens.b (Mv.opens_int Try.underlying3)) (Mv.opensB_cons (by kernel_rfl) (Mv.opensB_slice fits Try.underlying22 (Mv.Opens.b (Mv.opens_int Try.underlying3)) (fun _ _ => (show _ = _ by rfl).trans (by kernel_rfl))) Mv.opensB_nil)))))))))) (fun _ _ => (show _ = _ by rfl).trans (by kernel_rfl))) : Mv.OpensB Try.prog W 50 _ _ FF) hf4 (Nat.le_trans (bulk_in (by simp)) hk)
  simp [Value.cells] at hcs4
  obtain ⟨rfl, rfl, rfl⟩ := hcs4
  clear hA0 hval0
  refine (walk a0 a1 a2 a3 a4 n4 c4 z4 W w0 w1 w2 w3 w4 s4).mono fun e W' ⟨he, bel⟩ => ?_
  subst he
  exact ⟨_, rfl, _, _, _, [], _, [], hW', trodAll_mk1 (shut_bool Try.underlying4 _), (trodAll_cons_mk (shut_int Try.underlying3 w0) (trodAll_cons_mk (shut_int Try.underlying3 w1) (trodAll_cons_mk (shut_int Try.underlying3 w2) (trodAll_cons_mk (shut_int Try.underlying3 w3) (trodAll_cons_mk (Below.trod laidOut (by kernel_rfl) (of_decide_eq_true (by kernel_rfl)) k4 bel lt4) trodAll_mk0))))), rfl, bel.frame _, fun h => by cases h⟩
theorem over : Rows.tablePlaysUptoRow.holds Try.pinned (Rows.OpenSpec.upto Rows.tablePlaysSpec) :=
  OpenClaim.holds_of_cond 9 Try.f9 rfl rfl rfl rfl rfl rfl rfl ⟨rfl, rfl, rfl, rfl, rfl⟩ rfl rfl rfl rfl rfl (by kernel_rfl) Try.func9 (by kernel_rfl)
    (of_decide_eq_true (by kernel_rfl)) (by unfold Func.isWrapper; first | (rw [if_pos (by decide +kernel)]; kernel_rfl) | (rw [if_neg (by decide +kernel)]; exact ⟨rfl, rfl⟩))
    (fun os started H enc _ F => lifted os started H enc F)
theorem proved : Rows.TablePlaysUptoSaid := over
end Go.Proofs.Ytoifiplefjclbaa.tablePlays
