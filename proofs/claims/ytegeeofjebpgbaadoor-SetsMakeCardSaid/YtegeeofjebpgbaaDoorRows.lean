/-
  NARROWER THAN 'FOR EVERY INPUT', by the rows' own cells (each row's printed sentence says how): SetsWalk: laid · SetsAll: laid · SetsMix: laid · SetsEach: laid · SetsBytes: laid · SetsMake: laid · SetsBack: laid.
  DERIVED. THE GIVEN ROWS OF THIS SEAT. 7 by the template 'for every input the law returns true; each argument reads behind the call as it read before'; 0 by the template 'total and deterministic' (their statements: YtegeeofjebpgbaaDoorTotals.lean).
  GIVEN WITH THE SEED: the statements are not yours to turn. If you find one false, say at which input.
  Laid BY PROGRAM, IN A SANDBOX (cutbox-rows.mjs): the forced cells as the released guide's own fill.sh prints them over the translation 40c1f381bb57e1d6… (all of the seat's roots in one cut). By AI agents, Wed Nov 11 2026. No macro, syntax, notation, axiom, sorry.
-/
import Derived.Test.YtegeeofjebpgbaaDoorChecked
import GoSem.Claim
import GoSem.ClaimJoined
import GoSem.ClaimMapViews
import Derived.JoinedTies
import Derived.KernelRfl
namespace Go.Proofs.YtegeeofjebpgbaaDoor
/- THE CELL 'sum', in the pinned program and in every row, IS THE sha256 OF THE DUMP (.gsa) THAT YtegeeofjebpgbaaDoorProg.lean LOADS. Nothing in Lean hashes anything: it is a label: what it is worth is what the hold of that sum in a sandbox is worth. -/
noncomputable def Tryd.pinned : Pinned := { name := "ytegeeofjebpgbaadoor", sum := "40c1f381bb57e1d6253333c69b5f2e0dc3a72eda982ec93d0c4aca66d9127b0c", checked := Tryd.checked }
namespace Rows
def none {H : Type} : Left H := { results := [], args := [] }

/- WHAT THE LISTED PACKAGE-LEVEL VARIABLES READ AS WHEN THE CALL BEGINS. Each datum BY PROGRAM (the guide's laid-datum.mjs) off the statement by which the dump's own 'gosem.cut.vars' lays the variable. In a bare row this is a premise. The card (YtegeeofjebpgbaaDoorCards.lean) ties it to the program's text. -/
def laid_math_bits_deBruijn64tab {H : Type} : DataW H := .agg [.lit (.int .u8 0), .lit (.int .u8 1), .lit (.int .u8 56), .lit (.int .u8 2), .lit (.int .u8 57), .lit (.int .u8 49), .lit (.int .u8 28), .lit (.int .u8 3), .lit (.int .u8 61), .lit (.int .u8 58), .lit (.int .u8 42), .lit (.int .u8 50), .lit (.int .u8 38), .lit (.int .u8 29), .lit (.int .u8 17), .lit (.int .u8 4), .lit (.int .u8 62), .lit (.int .u8 47), .lit (.int .u8 59), .lit (.int .u8 36), .lit (.int .u8 45), .lit (.int .u8 43), .lit (.int .u8 51), .lit (.int .u8 22), .lit (.int .u8 53), .lit (.int .u8 39), .lit (.int .u8 33), .lit (.int .u8 30), .lit (.int .u8 24), .lit (.int .u8 18), .lit (.int .u8 12), .lit (.int .u8 5), .lit (.int .u8 63), .lit (.int .u8 55), .lit (.int .u8 48), .lit (.int .u8 27), .lit (.int .u8 60), .lit (.int .u8 41), .lit (.int .u8 37), .lit (.int .u8 16), .lit (.int .u8 46), .lit (.int .u8 35), .lit (.int .u8 44), .lit (.int .u8 21), .lit (.int .u8 52), .lit (.int .u8 32), .lit (.int .u8 23), .lit (.int .u8 11), .lit (.int .u8 54), .lit (.int .u8 26), .lit (.int .u8 40), .lit (.int .u8 15), .lit (.int .u8 34), .lit (.int .u8 20), .lit (.int .u8 31), .lit (.int .u8 10), .lit (.int .u8 25), .lit (.int .u8 14), .lit (.int .u8 19), .lit (.int .u8 9), .lit (.int .u8 13), .lit (.int .u8 8), .lit (.int .u8 7), .lit (.int .u8 6)]

/-- 'dredgelaw01.SetsWalk': WHATEVER THE INPUT: true; the input reads as it did. -/
def setsWalkSpec : ChangeSpec := { name := "setsWalk", fn := fun _ => fun
  | [d] => { results := [.lit (.bool true)], args := [d] }
  | _ => none }
def setsWalkRow : OpenClaim := { program := "ytegeeofjebpgbaadoor", sum := "40c1f381bb57e1d6253333c69b5f2e0dc3a72eda982ec93d0c4aca66d9127b0c", func := "dredge/dredgelaw01.SetsWalk", spec := "setsWalk", unfollowed := true, recurses := true, named := ["math/bits.deBruijn64tab"], apart := false, laid := [("math/bits.deBruijn64tab", laid_math_bits_deBruijn64tab)] }
def SetsWalkSaid : Prop := setsWalkRow.holds Tryd.pinned (OpenSpec.ofChange setsWalkSpec)

/-- ITS FALSE NEIGHBOUR: 'it returns false'. Refute it at one input. -/
def setsWalkWrong : ChangeSpec := { name := "setsWalk", fn := fun _ => fun
  | [d] => { results := [.lit (.bool false)], args := [d] }
  | _ => none }
def SetsWalkWrongFalsely : Prop := setsWalkRow.holds Tryd.pinned (OpenSpec.ofChange setsWalkWrong)

/-- 'dredgelaw01.SetsAll': WHATEVER THE INPUT: true; the input reads as it did. -/
def setsAllSpec : ChangeSpec := { name := "setsAll", fn := fun _ => fun
  | [d1, d2] => { results := [.lit (.bool true)], args := [d1, d2] }
  | _ => none }
def setsAllRow : OpenClaim := { program := "ytegeeofjebpgbaadoor", sum := "40c1f381bb57e1d6253333c69b5f2e0dc3a72eda982ec93d0c4aca66d9127b0c", func := "dredge/dredgelaw01.SetsAll", spec := "setsAll", unfollowed := true, recurses := true, named := ["math/bits.deBruijn64tab"], apart := false, laid := [("math/bits.deBruijn64tab", laid_math_bits_deBruijn64tab)] }
def SetsAllSaid : Prop := setsAllRow.holds Tryd.pinned (OpenSpec.ofChange setsAllSpec)

/-- ITS FALSE NEIGHBOUR: 'it returns false'. Refute it at one input. -/
def setsAllWrong : ChangeSpec := { name := "setsAll", fn := fun _ => fun
  | [d1, d2] => { results := [.lit (.bool false)], args := [d1, d2] }
  | _ => none }
def SetsAllWrongFalsely : Prop := setsAllRow.holds Tryd.pinned (OpenSpec.ofChange setsAllWrong)

/-- 'dredgelaw01.SetsMix': WHATEVER THE INPUT: true; the input reads as it did. -/
def setsMixSpec : ChangeSpec := { name := "setsMix", fn := fun _ => fun
  | [d1, d2] => { results := [.lit (.bool true)], args := [d1, d2] }
  | _ => none }
def setsMixRow : OpenClaim := { program := "ytegeeofjebpgbaadoor", sum := "40c1f381bb57e1d6253333c69b5f2e0dc3a72eda982ec93d0c4aca66d9127b0c", func := "dredge/dredgelaw01.SetsMix", spec := "setsMix", unfollowed := true, recurses := true, named := ["math/bits.deBruijn64tab"], apart := false, laid := [("math/bits.deBruijn64tab", laid_math_bits_deBruijn64tab)] }
def SetsMixSaid : Prop := setsMixRow.holds Tryd.pinned (OpenSpec.ofChange setsMixSpec)

/-- ITS FALSE NEIGHBOUR: 'it returns false'. Refute it at one input. -/
def setsMixWrong : ChangeSpec := { name := "setsMix", fn := fun _ => fun
  | [d1, d2] => { results := [.lit (.bool false)], args := [d1, d2] }
  | _ => none }
def SetsMixWrongFalsely : Prop := setsMixRow.holds Tryd.pinned (OpenSpec.ofChange setsMixWrong)

/-- 'dredgelaw01.SetsEach': WHATEVER THE INPUT: true; the input reads as it did. -/
def setsEachSpec : ChangeSpec := { name := "setsEach", fn := fun _ => fun
  | [d1, d2, d3] => { results := [.lit (.bool true)], args := [d1, d2, d3] }
  | _ => none }
def setsEachRow : OpenClaim := { program := "ytegeeofjebpgbaadoor", sum := "40c1f381bb57e1d6253333c69b5f2e0dc3a72eda982ec93d0c4aca66d9127b0c", func := "dredge/dredgelaw01.SetsEach", spec := "setsEach", unfollowed := true, recurses := true, named := ["math/bits.deBruijn64tab"], apart := false, laid := [("math/bits.deBruijn64tab", laid_math_bits_deBruijn64tab)] }
def SetsEachSaid : Prop := setsEachRow.holds Tryd.pinned (OpenSpec.ofChange setsEachSpec)

/-- ITS FALSE NEIGHBOUR: 'it returns false'. Refute it at one input. -/
def setsEachWrong : ChangeSpec := { name := "setsEach", fn := fun _ => fun
  | [d1, d2, d3] => { results := [.lit (.bool false)], args := [d1, d2, d3] }
  | _ => none }
def SetsEachWrongFalsely : Prop := setsEachRow.holds Tryd.pinned (OpenSpec.ofChange setsEachWrong)

/-- 'dredgelaw01.SetsBytes': WHATEVER THE INPUT: true; the input reads as it did. -/
def setsBytesSpec : ChangeSpec := { name := "setsBytes", fn := fun _ => fun
  | [d1, d2] => { results := [.lit (.bool true)], args := [d1, d2] }
  | _ => none }
def setsBytesRow : OpenClaim := { program := "ytegeeofjebpgbaadoor", sum := "40c1f381bb57e1d6253333c69b5f2e0dc3a72eda982ec93d0c4aca66d9127b0c", func := "dredge/dredgelaw01.SetsBytes", spec := "setsBytes", unfollowed := true, recurses := true, named := ["math/bits.deBruijn64tab"], apart := false, laid := [("math/bits.deBruijn64tab", laid_math_bits_deBruijn64tab)] }
def SetsBytesSaid : Prop := setsBytesRow.holds Tryd.pinned (OpenSpec.ofChange setsBytesSpec)

/-- ITS FALSE NEIGHBOUR: 'it returns false'. Refute it at one input. -/
def setsBytesWrong : ChangeSpec := { name := "setsBytes", fn := fun _ => fun
  | [d1, d2] => { results := [.lit (.bool false)], args := [d1, d2] }
  | _ => none }
def SetsBytesWrongFalsely : Prop := setsBytesRow.holds Tryd.pinned (OpenSpec.ofChange setsBytesWrong)

/-- 'dredgelaw01.SetsMake': WHATEVER THE INPUT: true; the input reads as it did. -/
def setsMakeSpec : ChangeSpec := { name := "setsMake", fn := fun _ => fun
  | [d1, d2, d3, d4] => { results := [.lit (.bool true)], args := [d1, d2, d3, d4] }
  | _ => none }
def setsMakeRow : OpenClaim := { program := "ytegeeofjebpgbaadoor", sum := "40c1f381bb57e1d6253333c69b5f2e0dc3a72eda982ec93d0c4aca66d9127b0c", func := "dredge/dredgelaw01.SetsMake", spec := "setsMake", unfollowed := true, recurses := true, named := ["math/bits.deBruijn64tab"], apart := false, laid := [("math/bits.deBruijn64tab", laid_math_bits_deBruijn64tab)] }
def SetsMakeSaid : Prop := setsMakeRow.holds Tryd.pinned (OpenSpec.ofChange setsMakeSpec)

/-- ITS FALSE NEIGHBOUR: 'it returns false'. Refute it at one input. -/
def setsMakeWrong : ChangeSpec := { name := "setsMake", fn := fun _ => fun
  | [d1, d2, d3, d4] => { results := [.lit (.bool false)], args := [d1, d2, d3, d4] }
  | _ => none }
def SetsMakeWrongFalsely : Prop := setsMakeRow.holds Tryd.pinned (OpenSpec.ofChange setsMakeWrong)

/-- 'dredgelaw01.SetsBack': WHATEVER THE INPUT: true; the input reads as it did. -/
def setsBackSpec : ChangeSpec := { name := "setsBack", fn := fun _ => fun
  | [d1, d2] => { results := [.lit (.bool true)], args := [d1, d2] }
  | _ => none }
def setsBackRow : OpenClaim := { program := "ytegeeofjebpgbaadoor", sum := "40c1f381bb57e1d6253333c69b5f2e0dc3a72eda982ec93d0c4aca66d9127b0c", func := "dredge/dredgelaw01.SetsBack", spec := "setsBack", unfollowed := true, recurses := true, named := ["math/bits.deBruijn64tab"], apart := false, laid := [("math/bits.deBruijn64tab", laid_math_bits_deBruijn64tab)] }
def SetsBackSaid : Prop := setsBackRow.holds Tryd.pinned (OpenSpec.ofChange setsBackSpec)

/-- ITS FALSE NEIGHBOUR: 'it returns false'. Refute it at one input. -/
def setsBackWrong : ChangeSpec := { name := "setsBack", fn := fun _ => fun
  | [d1, d2] => { results := [.lit (.bool false)], args := [d1, d2] }
  | _ => none }
def SetsBackWrongFalsely : Prop := setsBackRow.holds Tryd.pinned (OpenSpec.ofChange setsBackWrong)

/- THE SECOND FORM. 'bulk': how many values and letters a reading holds, each counted each time it is reached (what is shared counts as often as it is met; a slice's spare places count too). A statement '..UptoSaid' is the law's where the arguments, and the package variables that the reading takes, are together of bulk at most 1048576: NARROWER than '..Said'. Prove '..Said' where nothing that the law and all that it calls make is longer than what came in: it says more and counts as full. Else prove '..UptoSaid'. A law counts once. -/
mutual
def uptoBulk {H : Type} : DataW H → Nat
  | .lit (.string bytes) => bytes.length + 1
  | .lit _ => 1
  | .nil => 1
  | .ptr d => uptoBulk d + 1
  | .slice elems spare => uptoBulkAll elems + uptoBulkAll spare + 1
  | .agg parts => uptoBulkAll parts + 1
  | .iface _ d => uptoBulk d + 1
  | .map entries => uptoBulkEntries entries + 1
  | .held _ => 1
def uptoBulkAll {H : Type} : List (DataW H) → Nat
  | [] => 0
  | d :: r => uptoBulk d + uptoBulkAll r
def uptoBulkEntries {H : Type} : List (Lit × DataW H) → Nat
  | [] => 0
  | x :: r => uptoBulkEntry x + uptoBulkEntries r
def uptoBulkEntry {H : Type} : Lit × DataW H → Nat
  | (.string bytes, d) => bytes.length + uptoBulk d + 1
  | (_, d) => uptoBulk d + 1
 end
def uptoSmall : (H : Type) → List (DataW H) → Bool := fun _ ds => decide (uptoBulkAll ds ≤ 1048576)
def OpenSpec.upto (s : _root_.Go.ChangeSpec) : _root_.Go.OpenSpec := { _root_.Go.OpenSpec.ofChange s with cond := some uptoSmall }

/-- 'dredgelaw01.SetsWalk', WHERE WHAT IT READS IS OF BULK AT MOST 1048576: true; the input reads as it did. -/
def setsWalkUptoRow : OpenClaim := { program := "ytegeeofjebpgbaadoor", sum := "40c1f381bb57e1d6253333c69b5f2e0dc3a72eda982ec93d0c4aca66d9127b0c", func := "dredge/dredgelaw01.SetsWalk", spec := "setsWalk", unfollowed := true, recurses := true, named := ["math/bits.deBruijn64tab"], apart := false, laid := [("math/bits.deBruijn64tab", laid_math_bits_deBruijn64tab)], narrowed := true }
def SetsWalkUptoSaid : Prop := setsWalkUptoRow.holds Tryd.pinned (OpenSpec.upto setsWalkSpec)

/-- 'dredgelaw01.SetsAll', WHERE WHAT IT READS IS OF BULK AT MOST 1048576: true; the input reads as it did. -/
def setsAllUptoRow : OpenClaim := { program := "ytegeeofjebpgbaadoor", sum := "40c1f381bb57e1d6253333c69b5f2e0dc3a72eda982ec93d0c4aca66d9127b0c", func := "dredge/dredgelaw01.SetsAll", spec := "setsAll", unfollowed := true, recurses := true, named := ["math/bits.deBruijn64tab"], apart := false, laid := [("math/bits.deBruijn64tab", laid_math_bits_deBruijn64tab)], narrowed := true }
def SetsAllUptoSaid : Prop := setsAllUptoRow.holds Tryd.pinned (OpenSpec.upto setsAllSpec)

/-- 'dredgelaw01.SetsMix', WHERE WHAT IT READS IS OF BULK AT MOST 1048576: true; the input reads as it did. -/
def setsMixUptoRow : OpenClaim := { program := "ytegeeofjebpgbaadoor", sum := "40c1f381bb57e1d6253333c69b5f2e0dc3a72eda982ec93d0c4aca66d9127b0c", func := "dredge/dredgelaw01.SetsMix", spec := "setsMix", unfollowed := true, recurses := true, named := ["math/bits.deBruijn64tab"], apart := false, laid := [("math/bits.deBruijn64tab", laid_math_bits_deBruijn64tab)], narrowed := true }
def SetsMixUptoSaid : Prop := setsMixUptoRow.holds Tryd.pinned (OpenSpec.upto setsMixSpec)

/-- 'dredgelaw01.SetsEach', WHERE WHAT IT READS IS OF BULK AT MOST 1048576: true; the input reads as it did. -/
def setsEachUptoRow : OpenClaim := { program := "ytegeeofjebpgbaadoor", sum := "40c1f381bb57e1d6253333c69b5f2e0dc3a72eda982ec93d0c4aca66d9127b0c", func := "dredge/dredgelaw01.SetsEach", spec := "setsEach", unfollowed := true, recurses := true, named := ["math/bits.deBruijn64tab"], apart := false, laid := [("math/bits.deBruijn64tab", laid_math_bits_deBruijn64tab)], narrowed := true }
def SetsEachUptoSaid : Prop := setsEachUptoRow.holds Tryd.pinned (OpenSpec.upto setsEachSpec)

/-- 'dredgelaw01.SetsBytes', WHERE WHAT IT READS IS OF BULK AT MOST 1048576: true; the input reads as it did. -/
def setsBytesUptoRow : OpenClaim := { program := "ytegeeofjebpgbaadoor", sum := "40c1f381bb57e1d6253333c69b5f2e0dc3a72eda982ec93d0c4aca66d9127b0c", func := "dredge/dredgelaw01.SetsBytes", spec := "setsBytes", unfollowed := true, recurses := true, named := ["math/bits.deBruijn64tab"], apart := false, laid := [("math/bits.deBruijn64tab", laid_math_bits_deBruijn64tab)], narrowed := true }
def SetsBytesUptoSaid : Prop := setsBytesUptoRow.holds Tryd.pinned (OpenSpec.upto setsBytesSpec)

/-- 'dredgelaw01.SetsMake', WHERE WHAT IT READS IS OF BULK AT MOST 1048576: true; the input reads as it did. -/
def setsMakeUptoRow : OpenClaim := { program := "ytegeeofjebpgbaadoor", sum := "40c1f381bb57e1d6253333c69b5f2e0dc3a72eda982ec93d0c4aca66d9127b0c", func := "dredge/dredgelaw01.SetsMake", spec := "setsMake", unfollowed := true, recurses := true, named := ["math/bits.deBruijn64tab"], apart := false, laid := [("math/bits.deBruijn64tab", laid_math_bits_deBruijn64tab)], narrowed := true }
def SetsMakeUptoSaid : Prop := setsMakeUptoRow.holds Tryd.pinned (OpenSpec.upto setsMakeSpec)

/-- 'dredgelaw01.SetsBack', WHERE WHAT IT READS IS OF BULK AT MOST 1048576: true; the input reads as it did. -/
def setsBackUptoRow : OpenClaim := { program := "ytegeeofjebpgbaadoor", sum := "40c1f381bb57e1d6253333c69b5f2e0dc3a72eda982ec93d0c4aca66d9127b0c", func := "dredge/dredgelaw01.SetsBack", spec := "setsBack", unfollowed := true, recurses := true, named := ["math/bits.deBruijn64tab"], apart := false, laid := [("math/bits.deBruijn64tab", laid_math_bits_deBruijn64tab)], narrowed := true }
def SetsBackUptoSaid : Prop := setsBackUptoRow.holds Tryd.pinned (OpenSpec.upto setsBackSpec)

end Rows
end Go.Proofs.YtegeeofjebpgbaaDoor
