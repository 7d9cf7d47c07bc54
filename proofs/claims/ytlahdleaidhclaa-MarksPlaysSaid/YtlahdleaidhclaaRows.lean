/-
  No cell of these rows narrows 'for every input' (looked for: loops, veiled, ifaces, maps, wideKeys, modest, calm, conditions, laid).
  DERIVED. THE GIVEN ROWS OF THIS SEAT. 6 by the template 'for every input the law returns true; each argument reads behind the call as it read before'; 0 by the template 'total and deterministic' (their statements: YtlahdleaidhclaaTotals.lean).
  GIVEN WITH THE SEED: the statements are not yours to turn. If you find one false, say at which input.
  Laid BY PROGRAM, IN A SANDBOX (cutbox-rows.mjs): the forced cells as the released guide's own fill.sh prints them over the translation a923bdab89d6c48e… (all of the seat's roots in one cut). By AI agents, Wed Nov 11 2026. No macro, syntax, notation, axiom, sorry.
-/
import Derived.Test.YtlahdleaidhclaaChecked
import GoSem.Claim
import GoSem.ClaimJoined
import GoSem.ClaimMapViews
import Derived.JoinedTies
import Derived.KernelRfl
namespace Go.Proofs.Ytlahdleaidhclaa
/- THE CELL 'sum', in the pinned program and in every row, IS THE sha256 OF THE DUMP (.gsa) THAT YtlahdleaidhclaaProg.lean LOADS. Nothing in Lean hashes anything: it is a label: what it is worth is what the hold of that sum in a sandbox is worth. -/
noncomputable def Try.pinned : Pinned := { name := "ytlahdleaidhclaa", sum := "a923bdab89d6c48ed629d93e97cfc3ec35a94448ef69c7117465ff5018aa293a", checked := Try.checked }
namespace Rows
def none {H : Type} : Left H := { results := [], args := [] }

/-- 'dredgelaw02.MarksNew': WHATEVER THE INPUT: true; the input reads as it did. -/
def marksNewSpec : ChangeSpec := { name := "marksNew", fn := fun _ => fun
  | [d] => { results := [.lit (.bool true)], args := [d] }
  | _ => none }
def marksNewRow : OpenClaim := { program := "ytlahdleaidhclaa", sum := "a923bdab89d6c48ed629d93e97cfc3ec35a94448ef69c7117465ff5018aa293a", func := "dredge/dredgelaw02.MarksNew", spec := "marksNew", unfollowed := true, recurses := true, apart := false }
def MarksNewSaid : Prop := marksNewRow.holds Try.pinned (OpenSpec.ofChange marksNewSpec)

/-- ITS FALSE NEIGHBOUR: 'it returns false'. Refute it at one input. -/
def marksNewWrong : ChangeSpec := { name := "marksNew", fn := fun _ => fun
  | [d] => { results := [.lit (.bool false)], args := [d] }
  | _ => none }
def MarksNewWrongFalsely : Prop := marksNewRow.holds Try.pinned (OpenSpec.ofChange marksNewWrong)

/-- 'dredgelaw02.MarksOrder': WHATEVER THE INPUT: true; the input reads as it did. -/
def marksOrderSpec : ChangeSpec := { name := "marksOrder", fn := fun _ => fun
  | [d1, d2] => { results := [.lit (.bool true)], args := [d1, d2] }
  | _ => none }
def marksOrderRow : OpenClaim := { program := "ytlahdleaidhclaa", sum := "a923bdab89d6c48ed629d93e97cfc3ec35a94448ef69c7117465ff5018aa293a", func := "dredge/dredgelaw02.MarksOrder", spec := "marksOrder", unfollowed := true, recurses := true, apart := false }
def MarksOrderSaid : Prop := marksOrderRow.holds Try.pinned (OpenSpec.ofChange marksOrderSpec)

/-- ITS FALSE NEIGHBOUR: 'it returns false'. Refute it at one input. -/
def marksOrderWrong : ChangeSpec := { name := "marksOrder", fn := fun _ => fun
  | [d1, d2] => { results := [.lit (.bool false)], args := [d1, d2] }
  | _ => none }
def MarksOrderWrongFalsely : Prop := marksOrderRow.holds Try.pinned (OpenSpec.ofChange marksOrderWrong)

/-- 'dredgelaw02.MarksFollow': WHATEVER THE INPUT: true; the input reads as it did. -/
def marksFollowSpec : ChangeSpec := { name := "marksFollow", fn := fun _ => fun
  | [d1, d2] => { results := [.lit (.bool true)], args := [d1, d2] }
  | _ => none }
def marksFollowRow : OpenClaim := { program := "ytlahdleaidhclaa", sum := "a923bdab89d6c48ed629d93e97cfc3ec35a94448ef69c7117465ff5018aa293a", func := "dredge/dredgelaw02.MarksFollow", spec := "marksFollow", unfollowed := true, recurses := true, apart := false }
def MarksFollowSaid : Prop := marksFollowRow.holds Try.pinned (OpenSpec.ofChange marksFollowSpec)

/-- ITS FALSE NEIGHBOUR: 'it returns false'. Refute it at one input. -/
def marksFollowWrong : ChangeSpec := { name := "marksFollow", fn := fun _ => fun
  | [d1, d2] => { results := [.lit (.bool false)], args := [d1, d2] }
  | _ => none }
def MarksFollowWrongFalsely : Prop := marksFollowRow.holds Try.pinned (OpenSpec.ofChange marksFollowWrong)

/-- 'dredgelaw02.MarksCopies': WHATEVER THE INPUT: true; the input reads as it did. -/
def marksCopiesSpec : ChangeSpec := { name := "marksCopies", fn := fun _ => fun
  | [d1, d2, d3] => { results := [.lit (.bool true)], args := [d1, d2, d3] }
  | _ => none }
def marksCopiesRow : OpenClaim := { program := "ytlahdleaidhclaa", sum := "a923bdab89d6c48ed629d93e97cfc3ec35a94448ef69c7117465ff5018aa293a", func := "dredge/dredgelaw02.MarksCopies", spec := "marksCopies", unfollowed := true, recurses := true, apart := false }
def MarksCopiesSaid : Prop := marksCopiesRow.holds Try.pinned (OpenSpec.ofChange marksCopiesSpec)

/-- ITS FALSE NEIGHBOUR: 'it returns false'. Refute it at one input. -/
def marksCopiesWrong : ChangeSpec := { name := "marksCopies", fn := fun _ => fun
  | [d1, d2, d3] => { results := [.lit (.bool false)], args := [d1, d2, d3] }
  | _ => none }
def MarksCopiesWrongFalsely : Prop := marksCopiesRow.holds Try.pinned (OpenSpec.ofChange marksCopiesWrong)

/-- 'dredgelaw02.MarksSame': WHATEVER THE INPUT: true; the input reads as it did. -/
def marksSameSpec : ChangeSpec := { name := "marksSame", fn := fun _ => fun
  | [d1, d2, d3, d4] => { results := [.lit (.bool true)], args := [d1, d2, d3, d4] }
  | _ => none }
def marksSameRow : OpenClaim := { program := "ytlahdleaidhclaa", sum := "a923bdab89d6c48ed629d93e97cfc3ec35a94448ef69c7117465ff5018aa293a", func := "dredge/dredgelaw02.MarksSame", spec := "marksSame", unfollowed := true, recurses := true, apart := false }
def MarksSameSaid : Prop := marksSameRow.holds Try.pinned (OpenSpec.ofChange marksSameSpec)

/-- ITS FALSE NEIGHBOUR: 'it returns false'. Refute it at one input. -/
def marksSameWrong : ChangeSpec := { name := "marksSame", fn := fun _ => fun
  | [d1, d2, d3, d4] => { results := [.lit (.bool false)], args := [d1, d2, d3, d4] }
  | _ => none }
def MarksSameWrongFalsely : Prop := marksSameRow.holds Try.pinned (OpenSpec.ofChange marksSameWrong)

/-- 'dredgelaw02.MarksPlays': WHATEVER THE INPUT: true; the input reads as it did. -/
def marksPlaysSpec : ChangeSpec := { name := "marksPlays", fn := fun _ => fun
  | [d1, d2, d3] => { results := [.lit (.bool true)], args := [d1, d2, d3] }
  | _ => none }
def marksPlaysRow : OpenClaim := { program := "ytlahdleaidhclaa", sum := "a923bdab89d6c48ed629d93e97cfc3ec35a94448ef69c7117465ff5018aa293a", func := "dredge/dredgelaw02.MarksPlays", spec := "marksPlays", unfollowed := true, recurses := true, apart := false }
def MarksPlaysSaid : Prop := marksPlaysRow.holds Try.pinned (OpenSpec.ofChange marksPlaysSpec)

/-- ITS FALSE NEIGHBOUR: 'it returns false'. Refute it at one input. -/
def marksPlaysWrong : ChangeSpec := { name := "marksPlays", fn := fun _ => fun
  | [d1, d2, d3] => { results := [.lit (.bool false)], args := [d1, d2, d3] }
  | _ => none }
def MarksPlaysWrongFalsely : Prop := marksPlaysRow.holds Try.pinned (OpenSpec.ofChange marksPlaysWrong)

/- THE SECOND FORM. 'bulk': how many values and letters a reading holds, each counted each time it is reached (what is shared counts as often as it is met; a slice's spare places count too). A statement '..UptoSaid' is the law's where the arguments, and the package variables that the reading takes, are together of bulk at most 1048576: NARROWER than '..Said'. Prove '..Said' where nothing that the law and all that it calls make is longer than what came in: it says more and counts as full. Else prove '..UptoSaid'. A law counts once. -/
mutual
def uptoBulk {H : Type} : DataW H → Nat
  | .lit (.string bytes) => bytes.length + 1
  | .lit _ => 1
  | .nil => 1
  | .ptr d => uptoBulk d + 1
  | .slice elems spare => uptoBulkAll elems + uptoBulkAll spare + 1
  | .agg parts => uptoBulkAll parts + 1
  | .iface _ d => uptoBulk d + 1
  | .map entries => uptoBulkEntries entries + 1
  | .held _ => 1
def uptoBulkAll {H : Type} : List (DataW H) → Nat
  | [] => 0
  | d :: r => uptoBulk d + uptoBulkAll r
def uptoBulkEntries {H : Type} : List (Lit × DataW H) → Nat
  | [] => 0
  | x :: r => uptoBulkEntry x + uptoBulkEntries r
def uptoBulkEntry {H : Type} : Lit × DataW H → Nat
  | (.string bytes, d) => bytes.length + uptoBulk d + 1
  | (_, d) => uptoBulk d + 1
 end
def uptoSmall : (H : Type) → List (DataW H) → Bool := fun _ ds => decide (uptoBulkAll ds ≤ 1048576)
def OpenSpec.upto (s : _root_.Go.ChangeSpec) : _root_.Go.OpenSpec := { _root_.Go.OpenSpec.ofChange s with cond := some uptoSmall }

/-- 'dredgelaw02.MarksNew', WHERE WHAT IT READS IS OF BULK AT MOST 1048576: true; the input reads as it did. -/
def marksNewUptoRow : OpenClaim := { program := "ytlahdleaidhclaa", sum := "a923bdab89d6c48ed629d93e97cfc3ec35a94448ef69c7117465ff5018aa293a", func := "dredge/dredgelaw02.MarksNew", spec := "marksNew", unfollowed := true, recurses := true, apart := false, narrowed := true }
def MarksNewUptoSaid : Prop := marksNewUptoRow.holds Try.pinned (OpenSpec.upto marksNewSpec)

/-- 'dredgelaw02.MarksOrder', WHERE WHAT IT READS IS OF BULK AT MOST 1048576: true; the input reads as it did. -/
def marksOrderUptoRow : OpenClaim := { program := "ytlahdleaidhclaa", sum := "a923bdab89d6c48ed629d93e97cfc3ec35a94448ef69c7117465ff5018aa293a", func := "dredge/dredgelaw02.MarksOrder", spec := "marksOrder", unfollowed := true, recurses := true, apart := false, narrowed := true }
def MarksOrderUptoSaid : Prop := marksOrderUptoRow.holds Try.pinned (OpenSpec.upto marksOrderSpec)

/-- 'dredgelaw02.MarksFollow', WHERE WHAT IT READS IS OF BULK AT MOST 1048576: true; the input reads as it did. -/
def marksFollowUptoRow : OpenClaim := { program := "ytlahdleaidhclaa", sum := "a923bdab89d6c48ed629d93e97cfc3ec35a94448ef69c7117465ff5018aa293a", func := "dredge/dredgelaw02.MarksFollow", spec := "marksFollow", unfollowed := true, recurses := true, apart := false, narrowed := true }
def MarksFollowUptoSaid : Prop := marksFollowUptoRow.holds Try.pinned (OpenSpec.upto marksFollowSpec)

/-- 'dredgelaw02.MarksCopies', WHERE WHAT IT READS IS OF BULK AT MOST 1048576: true; the input reads as it did. -/
def marksCopiesUptoRow : OpenClaim := { program := "ytlahdleaidhclaa", sum := "a923bdab89d6c48ed629d93e97cfc3ec35a94448ef69c7117465ff5018aa293a", func := "dredge/dredgelaw02.MarksCopies", spec := "marksCopies", unfollowed := true, recurses := true, apart := false, narrowed := true }
def MarksCopiesUptoSaid : Prop := marksCopiesUptoRow.holds Try.pinned (OpenSpec.upto marksCopiesSpec)

/-- 'dredgelaw02.MarksSame', WHERE WHAT IT READS IS OF BULK AT MOST 1048576: true; the input reads as it did. -/
def marksSameUptoRow : OpenClaim := { program := "ytlahdleaidhclaa", sum := "a923bdab89d6c48ed629d93e97cfc3ec35a94448ef69c7117465ff5018aa293a", func := "dredge/dredgelaw02.MarksSame", spec := "marksSame", unfollowed := true, recurses := true, apart := false, narrowed := true }
def MarksSameUptoSaid : Prop := marksSameUptoRow.holds Try.pinned (OpenSpec.upto marksSameSpec)

/-- 'dredgelaw02.MarksPlays', WHERE WHAT IT READS IS OF BULK AT MOST 1048576: true; the input reads as it did. -/
def marksPlaysUptoRow : OpenClaim := { program := "ytlahdleaidhclaa", sum := "a923bdab89d6c48ed629d93e97cfc3ec35a94448ef69c7117465ff5018aa293a", func := "dredge/dredgelaw02.MarksPlays", spec := "marksPlays", unfollowed := true, recurses := true, apart := false, narrowed := true }
def MarksPlaysUptoSaid : Prop := marksPlaysUptoRow.holds Try.pinned (OpenSpec.upto marksPlaysSpec)

end Rows
end Go.Proofs.Ytlahdleaidhclaa
