/-
  No cell of these rows narrows 'for every input' (looked for: loops, veiled, ifaces, maps, wideKeys, modest, calm, conditions, laid).
  DERIVED. THE GIVEN ROWS OF THIS SEAT. 6 by the template 'for every input the law returns true; each argument reads behind the call as it read before'; 0 by the template 'total and deterministic' (their statements: YtkkcdfnlmhmheaaTotals.lean).
  GIVEN WITH THE SEED: the statements are not yours to turn. If you find one false, say at which input.
  Laid BY PROGRAM, IN A SANDBOX (cutbox-rows.mjs): the forced cells as the released guide's own fill.sh prints them over the translation 6bfe7953f133b968… (all of the seat's roots in one cut). By AI agents, Wed Nov 11 2026. No macro, syntax, notation, axiom, sorry.
-/
import Derived.Test.YtkkcdfnlmhmheaaChecked
import GoSem.Claim
import GoSem.ClaimJoined
import GoSem.ClaimMapViews
import Derived.JoinedTies
import Derived.KernelRfl
namespace Go.Proofs.Ytkkcdfnlmhmheaa
/- THE CELL 'sum', in the pinned program and in every row, IS THE sha256 OF THE DUMP (.gsa) THAT YtkkcdfnlmhmheaaProg.lean LOADS. Nothing in Lean hashes anything: it is a label: what it is worth is what the hold of that sum in a sandbox is worth. -/
noncomputable def Try.pinned : Pinned := { name := "ytkkcdfnlmhmheaa", sum := "6bfe7953f133b968982a9fbf0f0e2ec0e4a7aad8a76815d5b953d90220f244fc", checked := Try.checked }
namespace Rows
def none {H : Type} : Left H := { results := [], args := [] }

/-- 'dredgelaw17.DfaRooms': WHATEVER THE INPUT: true; the input reads as it did. -/
def dfaRoomsSpec : ChangeSpec := { name := "dfaRooms", fn := fun _ => fun
  | [d1, d2, d3, d4] => { results := [.lit (.bool true)], args := [d1, d2, d3, d4] }
  | _ => none }
def dfaRoomsRow : OpenClaim := { program := "ytkkcdfnlmhmheaa", sum := "6bfe7953f133b968982a9fbf0f0e2ec0e4a7aad8a76815d5b953d90220f244fc", func := "dredge/dredgelaw17.DfaRooms", spec := "dfaRooms", unfollowed := true, recurses := true, apart := false }
def DfaRoomsSaid : Prop := dfaRoomsRow.holds Try.pinned (OpenSpec.ofChange dfaRoomsSpec)

/-- ITS FALSE NEIGHBOUR: 'it returns false'. Refute it at one input. -/
def dfaRoomsWrong : ChangeSpec := { name := "dfaRooms", fn := fun _ => fun
  | [d1, d2, d3, d4] => { results := [.lit (.bool false)], args := [d1, d2, d3, d4] }
  | _ => none }
def DfaRoomsWrongFalsely : Prop := dfaRoomsRow.holds Try.pinned (OpenSpec.ofChange dfaRoomsWrong)

/-- 'dredgelaw17.DfaFresh': WHATEVER THE INPUT: true; the input reads as it did. -/
def dfaFreshSpec : ChangeSpec := { name := "dfaFresh", fn := fun _ => fun
  | [d1, d2, d3] => { results := [.lit (.bool true)], args := [d1, d2, d3] }
  | _ => none }
def dfaFreshRow : OpenClaim := { program := "ytkkcdfnlmhmheaa", sum := "6bfe7953f133b968982a9fbf0f0e2ec0e4a7aad8a76815d5b953d90220f244fc", func := "dredge/dredgelaw17.DfaFresh", spec := "dfaFresh", unfollowed := true, recurses := true, apart := false }
def DfaFreshSaid : Prop := dfaFreshRow.holds Try.pinned (OpenSpec.ofChange dfaFreshSpec)

/-- ITS FALSE NEIGHBOUR: 'it returns false'. Refute it at one input. -/
def dfaFreshWrong : ChangeSpec := { name := "dfaFresh", fn := fun _ => fun
  | [d1, d2, d3] => { results := [.lit (.bool false)], args := [d1, d2, d3] }
  | _ => none }
def DfaFreshWrongFalsely : Prop := dfaFreshRow.holds Try.pinned (OpenSpec.ofChange dfaFreshWrong)

/-- 'dredgelaw17.DfaAhead': WHATEVER THE INPUT: true; the input reads as it did. -/
def dfaAheadSpec : ChangeSpec := { name := "dfaAhead", fn := fun _ => fun
  | [d1, d2, d3, d4] => { results := [.lit (.bool true)], args := [d1, d2, d3, d4] }
  | _ => none }
def dfaAheadRow : OpenClaim := { program := "ytkkcdfnlmhmheaa", sum := "6bfe7953f133b968982a9fbf0f0e2ec0e4a7aad8a76815d5b953d90220f244fc", func := "dredge/dredgelaw17.DfaAhead", spec := "dfaAhead", unfollowed := true, recurses := true, apart := false }
def DfaAheadSaid : Prop := dfaAheadRow.holds Try.pinned (OpenSpec.ofChange dfaAheadSpec)

/-- ITS FALSE NEIGHBOUR: 'it returns false'. Refute it at one input. -/
def dfaAheadWrong : ChangeSpec := { name := "dfaAhead", fn := fun _ => fun
  | [d1, d2, d3, d4] => { results := [.lit (.bool false)], args := [d1, d2, d3, d4] }
  | _ => none }
def DfaAheadWrongFalsely : Prop := dfaAheadRow.holds Try.pinned (OpenSpec.ofChange dfaAheadWrong)

/-- 'dredgelaw17.DfaKept': WHATEVER THE INPUT: true; the input reads as it did. -/
def dfaKeptSpec : ChangeSpec := { name := "dfaKept", fn := fun _ => fun
  | [d1, d2, d3, d4, d5] => { results := [.lit (.bool true)], args := [d1, d2, d3, d4, d5] }
  | _ => none }
def dfaKeptRow : OpenClaim := { program := "ytkkcdfnlmhmheaa", sum := "6bfe7953f133b968982a9fbf0f0e2ec0e4a7aad8a76815d5b953d90220f244fc", func := "dredge/dredgelaw17.DfaKept", spec := "dfaKept", unfollowed := true, recurses := true, apart := false }
def DfaKeptSaid : Prop := dfaKeptRow.holds Try.pinned (OpenSpec.ofChange dfaKeptSpec)

/-- ITS FALSE NEIGHBOUR: 'it returns false'. Refute it at one input. -/
def dfaKeptWrong : ChangeSpec := { name := "dfaKept", fn := fun _ => fun
  | [d1, d2, d3, d4, d5] => { results := [.lit (.bool false)], args := [d1, d2, d3, d4, d5] }
  | _ => none }
def DfaKeptWrongFalsely : Prop := dfaKeptRow.holds Try.pinned (OpenSpec.ofChange dfaKeptWrong)

/-- 'dredgelaw17.DfaNew': WHATEVER THE INPUT: true; the input reads as it did. -/
def dfaNewSpec : ChangeSpec := { name := "dfaNew", fn := fun _ => fun
  | [d1, d2] => { results := [.lit (.bool true)], args := [d1, d2] }
  | _ => none }
def dfaNewRow : OpenClaim := { program := "ytkkcdfnlmhmheaa", sum := "6bfe7953f133b968982a9fbf0f0e2ec0e4a7aad8a76815d5b953d90220f244fc", func := "dredge/dredgelaw17.DfaNew", spec := "dfaNew", unfollowed := true, recurses := true, apart := false }
def DfaNewSaid : Prop := dfaNewRow.holds Try.pinned (OpenSpec.ofChange dfaNewSpec)

/-- ITS FALSE NEIGHBOUR: 'it returns false'. Refute it at one input. -/
def dfaNewWrong : ChangeSpec := { name := "dfaNew", fn := fun _ => fun
  | [d1, d2] => { results := [.lit (.bool false)], args := [d1, d2] }
  | _ => none }
def DfaNewWrongFalsely : Prop := dfaNewRow.holds Try.pinned (OpenSpec.ofChange dfaNewWrong)

/-- 'dredgelaw17.DfaPlays': WHATEVER THE INPUT: true; the input reads as it did. -/
def dfaPlaysSpec : ChangeSpec := { name := "dfaPlays", fn := fun _ => fun
  | [d1, d2, d3] => { results := [.lit (.bool true)], args := [d1, d2, d3] }
  | _ => none }
def dfaPlaysRow : OpenClaim := { program := "ytkkcdfnlmhmheaa", sum := "6bfe7953f133b968982a9fbf0f0e2ec0e4a7aad8a76815d5b953d90220f244fc", func := "dredge/dredgelaw17.DfaPlays", spec := "dfaPlays", unfollowed := true, recurses := true, apart := false }
def DfaPlaysSaid : Prop := dfaPlaysRow.holds Try.pinned (OpenSpec.ofChange dfaPlaysSpec)

/-- ITS FALSE NEIGHBOUR: 'it returns false'. Refute it at one input. -/
def dfaPlaysWrong : ChangeSpec := { name := "dfaPlays", fn := fun _ => fun
  | [d1, d2, d3] => { results := [.lit (.bool false)], args := [d1, d2, d3] }
  | _ => none }
def DfaPlaysWrongFalsely : Prop := dfaPlaysRow.holds Try.pinned (OpenSpec.ofChange dfaPlaysWrong)

/- THE SECOND FORM. 'bulk': how many values and letters a reading holds, each counted each time it is reached (what is shared counts as often as it is met; a slice's spare places count too). A statement '..UptoSaid' is the law's where the arguments, and the package variables that the reading takes, are together of bulk at most 1048576: NARROWER than '..Said'. Prove '..Said' where nothing that the law and all that it calls make is longer than what came in: it says more and counts as full. Else prove '..UptoSaid'. A law counts once. -/
mutual
def uptoBulk {H : Type} : DataW H → Nat
  | .lit (.string bytes) => bytes.length + 1
  | .lit _ => 1
  | .nil => 1
  | .ptr d => uptoBulk d + 1
  | .slice elems spare => uptoBulkAll elems + uptoBulkAll spare + 1
  | .agg parts => uptoBulkAll parts + 1
  | .iface _ d => uptoBulk d + 1
  | .map entries => uptoBulkEntries entries + 1
  | .held _ => 1
def uptoBulkAll {H : Type} : List (DataW H) → Nat
  | [] => 0
  | d :: r => uptoBulk d + uptoBulkAll r
def uptoBulkEntries {H : Type} : List (Lit × DataW H) → Nat
  | [] => 0
  | x :: r => uptoBulkEntry x + uptoBulkEntries r
def uptoBulkEntry {H : Type} : Lit × DataW H → Nat
  | (.string bytes, d) => bytes.length + uptoBulk d + 1
  | (_, d) => uptoBulk d + 1
 end
def uptoSmall : (H : Type) → List (DataW H) → Bool := fun _ ds => decide (uptoBulkAll ds ≤ 1048576)
def OpenSpec.upto (s : _root_.Go.ChangeSpec) : _root_.Go.OpenSpec := { _root_.Go.OpenSpec.ofChange s with cond := some uptoSmall }

/-- 'dredgelaw17.DfaRooms', WHERE WHAT IT READS IS OF BULK AT MOST 1048576: true; the input reads as it did. -/
def dfaRoomsUptoRow : OpenClaim := { program := "ytkkcdfnlmhmheaa", sum := "6bfe7953f133b968982a9fbf0f0e2ec0e4a7aad8a76815d5b953d90220f244fc", func := "dredge/dredgelaw17.DfaRooms", spec := "dfaRooms", unfollowed := true, recurses := true, apart := false, narrowed := true }
def DfaRoomsUptoSaid : Prop := dfaRoomsUptoRow.holds Try.pinned (OpenSpec.upto dfaRoomsSpec)

/-- 'dredgelaw17.DfaFresh', WHERE WHAT IT READS IS OF BULK AT MOST 1048576: true; the input reads as it did. -/
def dfaFreshUptoRow : OpenClaim := { program := "ytkkcdfnlmhmheaa", sum := "6bfe7953f133b968982a9fbf0f0e2ec0e4a7aad8a76815d5b953d90220f244fc", func := "dredge/dredgelaw17.DfaFresh", spec := "dfaFresh", unfollowed := true, recurses := true, apart := false, narrowed := true }
def DfaFreshUptoSaid : Prop := dfaFreshUptoRow.holds Try.pinned (OpenSpec.upto dfaFreshSpec)

/-- 'dredgelaw17.DfaAhead', WHERE WHAT IT READS IS OF BULK AT MOST 1048576: true; the input reads as it did. -/
def dfaAheadUptoRow : OpenClaim := { program := "ytkkcdfnlmhmheaa", sum := "6bfe7953f133b968982a9fbf0f0e2ec0e4a7aad8a76815d5b953d90220f244fc", func := "dredge/dredgelaw17.DfaAhead", spec := "dfaAhead", unfollowed := true, recurses := true, apart := false, narrowed := true }
def DfaAheadUptoSaid : Prop := dfaAheadUptoRow.holds Try.pinned (OpenSpec.upto dfaAheadSpec)

/-- 'dredgelaw17.DfaKept', WHERE WHAT IT READS IS OF BULK AT MOST 1048576: true; the input reads as it did. -/
def dfaKeptUptoRow : OpenClaim := { program := "ytkkcdfnlmhmheaa", sum := "6bfe7953f133b968982a9fbf0f0e2ec0e4a7aad8a76815d5b953d90220f244fc", func := "dredge/dredgelaw17.DfaKept", spec := "dfaKept", unfollowed := true, recurses := true, apart := false, narrowed := true }
def DfaKeptUptoSaid : Prop := dfaKeptUptoRow.holds Try.pinned (OpenSpec.upto dfaKeptSpec)

/-- 'dredgelaw17.DfaNew', WHERE WHAT IT READS IS OF BULK AT MOST 1048576: true; the input reads as it did. -/
def dfaNewUptoRow : OpenClaim := { program := "ytkkcdfnlmhmheaa", sum := "6bfe7953f133b968982a9fbf0f0e2ec0e4a7aad8a76815d5b953d90220f244fc", func := "dredge/dredgelaw17.DfaNew", spec := "dfaNew", unfollowed := true, recurses := true, apart := false, narrowed := true }
def DfaNewUptoSaid : Prop := dfaNewUptoRow.holds Try.pinned (OpenSpec.upto dfaNewSpec)

/-- 'dredgelaw17.DfaPlays', WHERE WHAT IT READS IS OF BULK AT MOST 1048576: true; the input reads as it did. -/
def dfaPlaysUptoRow : OpenClaim := { program := "ytkkcdfnlmhmheaa", sum := "6bfe7953f133b968982a9fbf0f0e2ec0e4a7aad8a76815d5b953d90220f244fc", func := "dredge/dredgelaw17.DfaPlays", spec := "dfaPlays", unfollowed := true, recurses := true, apart := false, narrowed := true }
def DfaPlaysUptoSaid : Prop := dfaPlaysUptoRow.holds Try.pinned (OpenSpec.upto dfaPlaysSpec)

end Rows
end Go.Proofs.Ytkkcdfnlmhmheaa
