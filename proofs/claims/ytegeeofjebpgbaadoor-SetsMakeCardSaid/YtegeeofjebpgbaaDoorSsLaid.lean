/- Sets: what the listed variable gives. -/
import Derived.Test.YtegeeofjebpgbaaDoorRows
import Derived.Test.YtegeeofjebpgbaaDoorTie
import Derived.WalkKit
import Derived.ProofKit
import Derived.OpenShut
import Derived.ShutString
import Derived.ChangeOld
import Derived.Below
import Derived.LaidMore
import Derived.Stop.Joined
import Derived.SevenTiedAt
import Derived.Test.YtegeeofjebpgbaaDoorMvRow
import Derived.Test.YtegeeofjebpgbaaDoorSsH
namespace Go.Proofs.YtegeeofjebpgbaaDoor
open Go Go.Mv
set_option linter.unusedVariables false
theorem gTab : Tryd.prog.globalNamed "math/bits.deBruijn64tab" = some 0 := by kernel_rfl
theorem tTab : (Tryd.prog.globals[0]?).map (·.type) = some 69 := by kernel_rfl
def laidL {H : Type} : List (String × DataW H) := [("math/bits.deBruijn64tab", Rows.laid_math_bits_deBruijn64tab)]
theorem door_met (os : Os) (args : Array Value) : laidMetH Tryd.prog laidL ((World.doorLaid Tryd.prog 400 os).forCall (fun _ _ => 0) ⟨#[], args, []⟩).memory :=
  laidMetH_of_parts3 (fuel := 8) (laidMet_of_run' 8 (by kernel_rfl) (by kernel_rfl)) (by kernel_rfl) (by kernel_rfl)
theorem of_laid {W : World} (h : laidMetH Tryd.prog laidL W) : Tz (whole W) := by
  rw [MakeChecks.laidMetH_plain _ _ _ (by kernel_rfl)] at h
  obtain ⟨ps, ⟨g0, t0, cs0, f0, p0, q0, hg0, ht0, hv0, hd0, _, _⟩, _, _⟩ := h
  obtain rfl := Option.some.inj (gTab.symm.trans hg0)
  obtain rfl := Option.some.inj (tTab.symm.trans ht0)
  obtain ⟨xs, m, rfl, hx, hlen, hn, hel⟩ := DataW.trod_array Tryd.underlying69 hd0
  have c5 : Tryd.prog.cellsOf 5 = 1 := by kernel_rfl
  have hpart : ∀ i, i < 64 → (xs.map (·.1))[i]? = some (.lit (.int .u8 ((Lib.deBruijn64tab.getD i 0 : Nat) : Int))) := by
    have h2 : xs.map (·.1) = Lib.deBruijn64tab.map fun (k : Nat) => DataW.lit (Lit.int .u8 (k : Int)) := by
      simp only [Prod.mk.injEq] at hx
      have h3 := hx.1
      unfold Rows.laid_math_bits_deBruijn64tab at h3
      injection h3 with h4
      rw [← h4]
      rfl
    intro i hi
    rw [h2, List.getElem?_map]
    have : i < Lib.deBruijn64tab.length := hi
    rw [List.getElem?_eq_getElem this]
    simp [List.getD, this]
  intro i hi
  rw [whole_cell]
  have h0 := hel i hi
  rw [c5, Nat.mul_one] at h0
  have hxi : i < xs.length := by omega
  rw [List.getElem?_eq_getElem hxi] at h0
  obtain ⟨a, ea, e2, _⟩ := DataW.trod_int Tryd.underlying5 h0
  have h1 := hpart i hi
  rw [List.getElem?_map, List.getElem?_eq_getElem hxi] at h1
  simp only [Option.map_some, Option.some.injEq] at h1
  rw [e2] at h1
  simp only [DataW.lit.injEq, Lit.int.injEq, true_and] at h1
  have h3 : cs0.toList[i]? = some (.int .u8 a) := by
    have h4 : ((cs0.toList.drop i).take 1)[0]? = some (.int .u8 a) := by
      rw [show ((cs0.toList.drop i).take 1) = [.int .u8 a] from ea]
      rfl
    rw [List.getElem?_take, if_pos (by omega), List.getElem?_drop, Nat.add_zero] at h4
    exact h4
  have := World.var?_cell hg0 hv0 i
  rw [← Array.getElem?_toList, h3, h1] at this
  exact this
/-- Four words that came in. -/
theorem of_arr {v : Value} {xs : List Int} (h : IsArr .u64 4 v xs) : ∃ G, WOk G ∧ v = wv G ∧ xs = W G := by
  obtain ⟨h1, h2, h3⟩ := h
  refine ⟨fun k => (xs.getD k 0).toNat, ?_, ?_⟩
  · intro k hk
    have := bounds_u64 (h3 (xs.getD k 0) (by simp [List.getD, h1, hk]))
    show (xs.getD k 0).toNat < _
    omega
  · have : xs = W fun k => (xs.getD k 0).toNat := by
      apply List.ext_getElem
      · simp [h1]
      · intro k k1 k2
        have := bounds_u64 (h3 xs[k] (List.getElem_mem k1))
        simp [List.getD, k1]
        omega
    exact ⟨by rw [h2]; unfold wv; rw [← this], this⟩
end Go.Proofs.YtegeeofjebpgbaaDoor
