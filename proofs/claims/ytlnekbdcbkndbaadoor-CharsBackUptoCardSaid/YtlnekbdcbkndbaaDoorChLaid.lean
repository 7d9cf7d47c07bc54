/- Chars: what the listed variables give. -/
import Derived.Test.YtlnekbdcbkndbaaDoorRows
import Derived.Test.YtlnekbdcbkndbaaDoorTie
import Derived.Test.YtlnekbdcbkndbaaDoorCards
import Derived.WalkKit
import Derived.ProofKit
import Derived.OpenShut
import Derived.Below
import Derived.LaidMore
import Derived.SevenTiedAt
import Derived.Lib.LaidU8
import Derived.Deep.DeepHandedRow
import Derived.Lay
import Derived.Lib.TrailingZeros
import Derived.Test.YtlnekbdcbkndbaaDoorMvRow
import Derived.Test.YtlnekbdcbkndbaaDoorChX
namespace Go.Proofs.YtlnekbdcbkndbaaDoor
open Go Go.Mv
set_option linter.unusedVariables false
set_option maxRecDepth 10000
abbrev laidL : List (String × DataW Unit) := Rows.charsShownRow.laid
theorem gF : Tryd.prog.globalNamed "unicode/utf8.first" = some 0 := by kernel_rfl
theorem gA : Tryd.prog.globalNamed "unicode/utf8.acceptRanges" = some 1 := by kernel_rfl
theorem gD : Tryd.prog.globalNamed "math/bits.deBruijn64tab" = some 5 := by kernel_rfl
theorem yF : (Tryd.prog.globals[0]?).map (·.type) = some 87 := by kernel_rfl
theorem yA : (Tryd.prog.globals[1]?).map (·.type) = some 90 := by kernel_rfl
theorem yD : (Tryd.prog.globals[5]?).map (·.type) = some 106 := by kernel_rfl
theorem door_met (os : Os) (args : Array Value) : laidMetH Tryd.prog laidL ((World.laidAll Tryd.prog os laidL).forCall (fun _ _ => 0) ⟨#[], args, []⟩).memory := by
  rw [MakeChecks.laidMetH_plain _ _ _ (by kernel_rfl)]
  exact laidMet_laidAll _ (by kernel_rfl) (by kernel_rfl)
theorem witness_zip {H : Type} {enc : TypeId × Value → H} {C : Checked} {os : Os} {f : FuncId} {fn : Func} {s : OpenSpec} {conds : List PathCond} {apart : Bool} {laid : List (String × DataW Unit)} (w0 : World) (args : Array Value) (hos : w0.os = os)
    (hv : (w0.forCall (fun _ _ => 0) ⟨#[], args, []⟩).variablesZipB C.prog = true)
    (hr : ((w0.forCall (fun _ _ => 0) ⟨#[], args, []⟩).heap.toList.drop C.prog.globals.size).take ((begin C.prog (fun _ _ => 0) default).world.heap.size - C.prog.globals.size) =
      (begin C.prog (fun _ _ => 0) default).world.heap.toList.drop C.prog.globals.size)
    (hok : Input.okWideB C.prog (w0.forCall (fun _ _ => 0) ⟨#[], args, []⟩) f ⟨#[], args, []⟩ = true)
    (hrow : s.preRow enc C.prog fn conds apart laid (w0.forCall (fun _ _ => 0) ⟨#[], args, []⟩).memory args) :
    ∃ (w : World) (tape : Tape) (i : Input), w.os = os ∧ (w.forCall tape i).Shaped C.prog ∧ i.vars = [] ∧ Input.okWide C.prog (w.forCall tape i) .any w.heap.size f i ∧
      s.preRow enc C.prog fn conds apart laid (w.forCall tape i).memory i.args ∧ ({} : Assume).holds C.prog (lone (Frame.enter C.prog f i.args .normal) [] (w.forCall tape i)) :=
  ⟨w0, fun _ _ => 0, ⟨#[], args, []⟩, hos, World.shaped_of_ZipB hv hr, (Input.okWide_of_okWideB (base := 0) hok).1, (Input.okWide_of_okWideB hok).2, hrow, by
    simp only [Assume.holds]
    exact ⟨by simp, by simp, by simp, by simp, by simp⟩⟩
theorem c87 : Tryd.prog.cellsOf 87 = 256 := by kernel_rfl
theorem c106 : Tryd.prog.cellsOf 106 = 64 := by kernel_rfl
theorem c5' : Tryd.prog.cellsOf 5 = 1 := by kernel_rfl
theorem c89 : Tryd.prog.cellsOf 89 = 2 := by kernel_rfl
theorem dF : Rows.laid_unicode_utf8_first = Lib.firstData := by
  show (DataW.agg _ : DataW Unit) = DataW.agg _
  congr 1
theorem dA : Rows.laid_unicode_utf8_acceptRanges = Lib.acceptData := by kernel_rfl
theorem dD : (Rows.laid_math_bits_deBruijn64tab : DataW Unit) = Lib.tabData .u8 (Lib.deBruijn64tab.map fun (k : Nat) => (k : Int)) := by kernel_rfl
theorem of_laid {W : World} (h0 : laidMetH Tryd.prog laidL W) : G (whole W) := by
  rw [MakeChecks.laidMetH_plain _ _ _ (by kernel_rfl)] at h0
  have hF : Lib.VarReads Tryd.prog W "unicode/utf8.first" Rows.laid_unicode_utf8_first := Lib.laidMet.reads h0 (by simp [laidL, Rows.charsShownRow])
  have hA : Lib.VarReads Tryd.prog W "unicode/utf8.acceptRanges" Rows.laid_unicode_utf8_acceptRanges := Lib.laidMet.reads h0 (by simp [laidL, Rows.charsShownRow])
  have hD : Lib.VarReads Tryd.prog W "math/bits.deBruijn64tab" Rows.laid_math_bits_deBruijn64tab := Lib.laidMet.reads h0 (by simp [laidL, Rows.charsShownRow])
  refine ⟨⟨fun i hi => ?_, fun i hi => ?_⟩, ?_⟩
  · obtain ⟨g, t, cs, fuel, p, hg, hty, hvar, hd⟩ := hF
    obtain rfl := Option.some.inj (gF.symm.trans hg)
    obtain rfl := Option.some.inj (yF.symm.trans hty)
    rw [dF] at hd
    have hcs := Lib.cells_of_tab Tryd.underlying87 Tryd.underlying5 c5' c87 hd
    rw [whole_cell, World.var?_cell hg hvar i, ← Array.getElem?_toList, hcs]
    simp [Lib.firstTab, hi]
  · obtain ⟨g, t, cs, fuel, p, hg, hty, hvar, hd⟩ := hA
    obtain rfl := Option.some.inj (gA.symm.trans hg)
    obtain rfl := Option.some.inj (yA.symm.trans hty)
    rw [dA] at hd
    obtain ⟨fuel', d, q, hdi, he⟩ := Lib.array_elem Tryd.underlying90 hd i hi
    simp only [List.getElem?_map, List.getElem?_range hi, Option.map_some, Option.some.injEq] at hdi
    subst hdi
    rw [c89] at he
    have hcs := Lib.ints_of_struct Tryd.underlying89 (fun j f hj => by
      match j, hj with
      | 0, hj => simp at hj; subst hj; exact ⟨Tryd.underlying5, rfl, c5'⟩
      | 1, hj => simp at hj; subst hj; exact ⟨Tryd.underlying5, rfl, c5'⟩
      | j + 2, hj => simp at hj) (by rw [c89]; rfl) he
    have e0 := congrArg (·[0]?) hcs
    have e1 := congrArg (·[1]?) hcs
    simp only [List.getElem?_take, List.getElem?_drop] at e0 e1
    constructor
    · rw [whole_cell, World.var?_cell hg hvar (i * 2), ← Array.getElem?_toList]
      simpa using e0
    · rw [whole_cell, World.var?_cell hg hvar (i * 2 + 1), ← Array.getElem?_toList]
      simpa using e1
  · obtain ⟨g, t, cs, fuel, p, hg, hty, hvar, hd⟩ := hD
    obtain rfl := Option.some.inj (gD.symm.trans hg)
    obtain rfl := Option.some.inj (yD.symm.trans hty)
    rw [dD] at hd
    have hcs := Lib.cells_of_tab Tryd.underlying106 Tryd.underlying5 c5' c106 hd
    unfold Z4
    rw [whole_cell, World.var?_cell hg hvar 15, ← Array.getElem?_toList, hcs]
    rfl
end Go.Proofs.YtlnekbdcbkndbaaDoor
