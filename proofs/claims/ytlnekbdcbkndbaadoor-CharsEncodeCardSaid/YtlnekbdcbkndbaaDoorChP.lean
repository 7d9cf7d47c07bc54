/- Chars: sixteenths read. -/
import Derived.Test.YtlnekbdcbkndbaaDoorChO
import Derived.Lib.Bytealg
import Derived.Laws.StandIn
namespace Go.Proofs.YtlnekbdcbkndbaaDoor
open Go Go.Mv
set_option maxHeartbeats 2000000
set_option maxRecDepth 10000
set_option linter.unusedVariables false
set_option linter.unusedSimpArgs false
def digI (x : UInt8) : Int := match dig x with | some d => ((d : Nat) : Int) | none => -1
theorem index_fin : ∀ x : Fin 256, Lib.indexByte digs.data.toList (UInt8.ofNat x.val) = digI (UInt8.ofNat x.val) := by decide +kernel
theorem index_digs (x : UInt8) : Lib.indexByte digs.data.toList x = digI x := by
  have := index_fin ⟨x.toNat, x.toNat_lt⟩
  simpa using this
attribute [local irreducible] FCalls IntKind.wrap bits Mem.set Mem.setCell Mem.setCells YCalls RunP NextP
theorem ib_c {m : Mem} {x : UInt8} : FCalls Tryd.prog 52 [.string digs, .int .u8 ((x.toNat : Nat) : Int)] m fun v m' => v = .int .i64 (digI x) ∧ m' = m := by
  refine fcalls_of_vc (T := tbl) (B := bodies) (pr := [99999]) (DR := dr52) (args := [.v (.string digs), .v (.int .u8 ((x.toNat : Nat) : Int))]) tbl_ok bodies_ok mixed Tryd.func52 rfl (by decide +kernel) (by simp [Tryd.f52]) rfl ?_
  (conv => whnf)
  refine NextP.pure (v := .int .i64 (digI x)) (fun w hw => ?_) ?_
  · have h := run_callFunc_indexByte (P := Tryd.prog) (f := 58) (fn := Tryd.f58) Tryd.func58 (by kernel_rfl) (by kernel_rfl) (by kernel_rfl) (by kernel_rfl) #[.string digs, .int .u8 ((x.toNat : Nat) : Int)] w
    refine h.trans ?_
    rw [Lib.run_indexByteString]
    have e : (((x.toNat : Nat) : Int)).toNat.toUInt8 = x := by simp
    rw [e, index_digs]
    rfl
  (conv => whnf)
  exact ⟨rfl, rfl⟩
theorem sib_c {m : Mem} {x : UInt8} : FCalls Tryd.prog 47 [.string digs, .int .u8 ((x.toNat : Nat) : Int)] m fun v m' => v = .int .i64 (digI x) ∧ m' = m := by
  refine fcalls_of_vc (T := tbl) (B := bodies) (pr := [99999]) (DR := dr47) (args := [.v (.string digs), .v (.int .u8 ((x.toNat : Nat) : Int))]) tbl_ok bodies_ok mixed Tryd.func47 rfl (by decide +kernel) (by simp [Tryd.f47]) rfl ?_
  (conv => whnf)
  refine FCalls.mono ib_c ?_
  rintro v m' ⟨rfl, rfl⟩
  (conv => whnf)
  exact ⟨rfl, rfl⟩
theorem digI_some {x : UInt8} {d : Nat} (h : dig x = some d) : digI x = ((d : Nat) : Int) := by unfold digI; rw [h]
theorem digI_none {x : UInt8} (h : dig x = none) : digI x = -1 := by unfold digI; rw [h]
theorem digs_get : ∀ k : Fin 16, bt digs ((k.val : Nat) : Int) = (((hexD k.val).toNat : Nat) : Int) := by decide
theorem digit_c {m : Mem} {x : UInt8} : FCalls Tryd.prog 48 [.int .u8 ((x.toNat : Nat) : Int)] m fun v m' => v = .int .i64 (digI x) ∧ m' = m := by
  refine fcalls_of_vc (T := tbl) (B := bodies) (pr := [99999]) (DR := dr48) (args := [.v (.int .u8 ((x.toNat : Nat) : Int))]) tbl_ok bodies_ok mixed Tryd.func48 rfl (by decide +kernel) (by simp [Tryd.f48]) rfl ?_
  (conv => whnf)
  refine loop_keep [0] Nat (fun k => [(3, .v (.int .i64 ((k : Nat) : Int)))]) (fun _ => []) (fun _ => m) (fun k => k ≤ 16 ∧ ∀ j, j < k → hexD j ≠ x) (fun k => 16 - k) 0 ⟨rfl, trivial⟩ rfl rfl ⟨Nat.zero_le _, fun j h => by omega⟩ ?_
  (conv => whnf)
  refine ⟨rfl, ?_⟩
  rintro k ⟨hk, hj⟩
  (conv => whnf)
  refine brk_intro (fun c1 => ?_) (fun c1 => ?_)
  · have c1 : k < 16 := by have : ((k : Nat) : Int) < 16 := of_decide_eq_true c1; omega
    (conv => whnf)
    refine ⟨by omega, by show _ < ((16 : Nat) : Int); omega, ?_⟩
    (conv => whnf)
    have hb : bt ⟨#[48, 49, 50, 51, 52, 53, 54, 55, 56, 57, 97, 98, 99, 100, 101, 102]⟩ ((k : Nat) : Int) = (((hexD k).toNat : Nat) : Int) := digs_get ⟨k, c1⟩
    rw [hb]
    refine brk_intro (fun c2 => ?_) (fun c2 => ?_)
    · have c2 : hexD k = x := by
        have : (((hexD k).toNat : Nat) : Int) = ((x.toNat : Nat) : Int) := by simpa using c2
        exact UInt8.toNat_inj.1 (by omega)
      (conv => whnf)
      exact ⟨by rw [← c2, digI_some (dig_hex c1)]; rfl, rfl⟩
    · have c2 : hexD k ≠ x := by
        rintro rfl
        simp at c2
      (conv => whnf)
      have e2 : IntKind.i64.wrap (((k : Nat) : Int) + 1) = ((k + 1 : Nat) : Int) := by rw [wrap_id (by omega) (by omega)]; omega
      rw [e2]
      exact ⟨k + 1, le_eq ⟨rfl, rfl, trivial⟩ rfl rfl rfl, ⟨c1, fun j h => by
        by_cases hjk : j = k
        · subst hjk; exact c2
        · exact hj j (by omega)⟩, by omega⟩
  · have c1 : k = 16 := by have : ¬ ((k : Nat) : Int) < 16 := of_decide_eq_false c1; omega
    subst c1
    have hn : dig x = none := by
      cases h : dig x with
      | none => rfl
      | some d => exact absurd (dig_lt h).2 (hj d (dig_lt h).1)
    (conv => whnf)
    exact ⟨by rw [digI_none hn]; rfl, rfl⟩
end Go.Proofs.YtlnekbdcbkndbaaDoor
