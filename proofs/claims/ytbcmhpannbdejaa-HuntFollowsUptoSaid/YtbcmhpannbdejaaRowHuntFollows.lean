/- HuntFollows: the given statement. -/
import Derived.Test.YtbcmhpannbdejaaRows
import Derived.WalkKit
import Derived.ProofKit
import Derived.OpenShut
import Derived.ShutString
import Derived.ChangeOld
import Derived.Below
import Derived.Test.YtbcmhpannbdejaaMvRow
import Derived.Test.YtbcmhpannbdejaaMvOpen
import Derived.JoinedCond
import Derived.Test.YtbcmhpannbdejaaHuFollows
namespace Go.Proofs.Ytbcmhpannbdejaa.huntFollows
open Go.ChangeShapes Go.WideShapes Go.ChangeAt Go.RowKit
open Go.ChangeMaps (open_string shut_string)
open Go.Mv (IsRow IsArr open_arr calls_below whole)
set_option linter.unusedVariables false
theorem own : ownKnob Try.prog.godebug = none := by kernel_rfl
theorem laidOut : laidOutB Try.prog = true := by kernel_rfl
theorem walk (a0 : Option Addr) (n0 c0 : Nat) (z0 : List (ByteArray)) (a1 : ByteArray) (a2 : Int) (w : World) (w0 : Mv.IsSl w (fun s : ByteArray => [Value.string s]) (fun s : ByteArray => s.size ≤ maxLen) a0 n0 c0 z0) (s0 : n0 ≤ 1048576) (w1 : a1.size ≤ maxLen) (s1 : a1.size ≤ 1048576) (w2 : (Lit.int .i64 a2).wf = true) :
    Calls Try.prog 3 #[.slice a0 n0 c0, .string a1, .int .i64 a2] w fun e w' => e = .returned (.bool true) ∧ Below w.heap.size w w' := by
  obtain ⟨h1, h2, h3, h4, h5⟩ := w0
  have hR : Mv.Rd (whole w) a0 (svs z0) := by
    have e : svs z0 = z0.flatMap fun s : ByteArray => [Value.string s] := by
      clear h1 h4 h5
      induction z0 with
      | nil => rfl
      | cons x r ih => rw [List.flatMap_cons, ← ih]; rfl
    rw [e]
    exact h4
  have h6 : -9223372036854775808 ≤ a2 ∧ a2 ≤ 9223372036854775807 := by
    unfold Lit.wf at w2
    simp [IntKind.min, IntKind.max, IntKind.signed, IntKind.bits] at w2
    omega
  have h := huntFollows_c (m := whole w) (c := c0) (y := a1) (fr := a2) hR (by omega) (by omega) h6.1 h6.2
  rw [h1] at h
  exact calls_below (h.mono fun v m' ⟨h1, h2⟩ => ⟨h1, h2⟩)
theorem bulk_pos {H : Type} (d : DataW H) : 1 ≤ Rows.uptoBulk d := by
  cases d with
  | lit l => cases l <;> (unfold Rows.uptoBulk; omega)
  | _ => unfold Rows.uptoBulk; omega
theorem bulk_len {H : Type} : ∀ l : List (DataW H), l.length ≤ Rows.uptoBulkAll l
  | [] => Nat.zero_le _
  | d :: r => by
    have h1 := bulk_pos d
    have h2 := bulk_len r
    unfold Rows.uptoBulkAll
    rw [List.length_cons]
    omega
theorem bulk_sl {H : Type} (es sp : List (DataW H)) : es.length ≤ Rows.uptoBulk (.slice es sp) := by
  have := bulk_len es
  unfold Rows.uptoBulk
  omega
theorem bulk_str {H : Type} (b : List UInt8) : b.length ≤ Rows.uptoBulk (.lit (.string b) : DataW H) := by
  unfold Rows.uptoBulk
  omega
theorem bulk_in {H : Type} {d : DataW H} : ∀ {l : List (DataW H)}, d ∈ l → Rows.uptoBulk d ≤ Rows.uptoBulkAll l
  | [], h => by cases h
  | x :: r, h => by
    unfold Rows.uptoBulkAll
    rcases List.mem_cons.1 h with rfl | h
    · omega
    · have := bulk_in h
      omega
set_option maxRecDepth 100000 in
theorem lifted (os : Os) (started : os.Started) (H : Type) (enc : TypeId × Value → H) (F : Stop.Interp) :
    ReturnsInHanded {} Try.checked os 3 .any ((Rows.OpenSpec.upto Rows.huntFollowsSpec).pre6 enc Try.prog Try.f3 Rows.huntFollowsUptoRow.domain false) (((Rows.OpenSpec.upto Rows.huntFollowsSpec).at F).post enc Try.prog Try.f3 false true false false) := by
  refine returnsInHanded_of_cond (C := Try.checked) (s := Rows.OpenSpec.upto Rows.huntFollowsSpec) (k := Rows.uptoSmall) rfl own started (by kernel_rfl) Try.func3
    (OpenSpec.witness (enc := enc) (C := Try.checked) (s := Rows.OpenSpec.upto Rows.huntFollowsSpec) (k := Rows.uptoSmall) rfl false ⟨#[], #[.slice none 0 0, .string ⟨#[]⟩, .int .i64 0], []⟩ 8 (by kernel_rfl) (by kernel_rfl) (by kernel_rfl)
      (x := ([.nil, .lit (.string []), .lit (.int .i64 0)], [], [])) (by kernel_rfl) rfl (by kernel_rfl)) ?_
  intro W base args ds gs before hval0 hW _ hk0 _
  have hk : Rows.uptoBulkAll (ds ++ gs) ≤ 1048576 := of_decide_eq_true hk0
  have hval : ∀ (j : Nat) t v, Try.f3.params[j]? = some t → args[j]? = some v → Value.okWide Try.prog W .any base t v := hval0
  have hW' := hW
  obtain ⟨p, q, hA0, hV, rfl, hfz, hnd⟩ := hW
  have hA : DataW.TrodAll enc Try.prog W 0 (fun _ => true) true Try.f3.params.toList args.toList ds p := hA0
  rw [Try.params3] at hA hval
  obtain ⟨v0, vs0, d0, ds0, p0, q0, hargs, rfl, rfl, h0, r0⟩ := trodAll_cons hA
  obtain ⟨v1, vs1, d1, ds1, p1, q1, rfl, rfl, rfl, h1, r1⟩ := trodAll_cons r0
  obtain ⟨v2, vs2, d2, ds2, p2, q2, rfl, rfl, rfl, h2, r2⟩ := trodAll_cons r1
  obtain ⟨rfl, rfl, rfl⟩ := trodAll_nil r2
  obtain rfl : args = #[v0, v1, v2] := by cases args; simp_all
  obtain ⟨rfl, rfl⟩ := trodVars_none hV
  obtain ⟨a0, n0, c0, rfl⟩ := okWide_slice Try.underlying22 (hval 0 22 v0 rfl rfl)
  have k0 := h0
  have lt0 : ∀ x ∈ p0, x.block < W.heap.size := by obtain ⟨m, hm⟩ := k0; exact DataW.trod_lt m _ _ _ hm
  obtain ⟨fuel0, hf0⟩ := h0
  have s0 : n0 ≤ 1048576 := by
    rcases DataW.trod_slice Try.underlying22 hf0 with ⟨hcs, _⟩ | ⟨x, len, cap, elems, rest, m, _, hcs, hx, _, _, _, hlen, _⟩
    · simp [Value.cells] at hcs
      obtain ⟨rfl, rfl, rfl⟩ := hcs
      omega
    · simp [Value.cells] at hcs
      obtain ⟨rfl, rfl, rfl⟩ := hcs
      simp only [Prod.mk.injEq] at hx
      have h1 := bulk_sl (elems.map (·.1)) (rest.map (·.1))
      rw [← hx.1, List.length_map, hlen] at h1
      exact Nat.le_trans (Nat.le_trans h1 (bulk_in (by simp))) hk
  obtain ⟨⟨a0', n0', c0', z0⟩, hcs0, w0⟩ := ((Mv.opens_slice Try.underlying22 (Mv.opens_string Try.underlying9) (fun _ _ => (show _ = _ by rfl).trans (by kernel_rfl))) : Mv.Opens Try.prog W 22 _ _) hf0
  simp [Value.cells] at hcs0
  obtain ⟨rfl, rfl, rfl⟩ := hcs0
  have k1 := h1
  have lt1 : ∀ x ∈ p1, x.block < W.heap.size := by obtain ⟨m, hm⟩ := k1; exact DataW.trod_lt m _ _ _ hm
  obtain ⟨a1, rfl, rfl, rfl, w1⟩ := open_string Try.underlying9 (hval 1 9 v1 rfl rfl) h1
  have s1 : a1.size ≤ 1048576 := Nat.le_trans (Nat.le_trans (bulk_str a1.data.toList) (bulk_in (by simp))) hk
  obtain ⟨a2, rfl, rfl, rfl, w2⟩ := open_int Try.underlying3 (hval 2 3 v2 rfl rfl) h2
  clear hA0 hval0
  refine (walk a0 n0 c0 z0 a1 a2 W w0 s0 w1 s1 w2).mono fun e W' ⟨he, bel⟩ => ?_
  subst he
  exact ⟨_, rfl, _, _, _, [], _, [], hW', trodAll_mk1 (shut_bool Try.underlying4 _), (trodAll_cons_mk (Below.trod laidOut (by kernel_rfl) (of_decide_eq_true (by kernel_rfl)) k0 bel lt0) (trodAll_cons_mk (Below.trod laidOut (by kernel_rfl) (of_decide_eq_true (by kernel_rfl)) k1 bel lt1) (trodAll_cons_mk (shut_int Try.underlying3 w2) trodAll_mk0))), rfl, bel.frame _, fun h => by cases h⟩
theorem over : Rows.huntFollowsUptoRow.holds Try.pinned (Rows.OpenSpec.upto Rows.huntFollowsSpec) :=
  OpenClaim.holds_of_cond 3 Try.f3 rfl rfl rfl rfl rfl rfl rfl ⟨rfl, rfl, rfl, rfl, rfl⟩ rfl rfl rfl rfl rfl (by kernel_rfl) Try.func3 (by kernel_rfl)
    (of_decide_eq_true (by kernel_rfl)) (by unfold Func.isWrapper; first | (rw [if_pos (by decide +kernel)]; kernel_rfl) | (rw [if_neg (by decide +kernel)]; exact ⟨rfl, rfl⟩))
    (fun os started H enc _ F => lifted os started H enc F)
theorem proved : Rows.HuntFollowsUptoSaid := over
end Go.Proofs.Ytbcmhpannbdejaa.huntFollows
