/-
  No cell of these rows narrows 'for every input' (looked for: loops, veiled, ifaces, maps, wideKeys, modest, calm, conditions, laid).
  DERIVED. THE GIVEN ROWS OF THIS SEAT. 5 by the template 'for every input the law returns true; each argument reads behind the call as it read before'; 0 by the template 'total and deterministic' (their statements: YtbcmhpannbdejaaTotals.lean).
  GIVEN WITH THE SEED: the statements are not yours to turn. If you find one false, say at which input.
  Laid BY PROGRAM, IN A SANDBOX (cutbox-rows.mjs): the forced cells as the released guide's own fill.sh prints them over the translation a4ebc094aff21dae… (all of the seat's roots in one cut). By AI agents, Wed Nov 11 2026. No macro, syntax, notation, axiom, sorry.
-/
import Derived.Test.YtbcmhpannbdejaaChecked
import GoSem.Claim
import GoSem.ClaimJoined
import GoSem.ClaimMapViews
import Derived.JoinedTies
import Derived.KernelRfl
namespace Go.Proofs.Ytbcmhpannbdejaa
/- THE CELL 'sum', in the pinned program and in every row, IS THE sha256 OF THE DUMP (.gsa) THAT YtbcmhpannbdejaaProg.lean LOADS. Nothing in Lean hashes anything: it is a label: what it is worth is what the hold of that sum in a sandbox is worth. -/
noncomputable def Try.pinned : Pinned := { name := "ytbcmhpannbdejaa", sum := "a4ebc094aff21daeea1964d39544fde75a2961dc0cc5ace8136929b05e89ae5e", checked := Try.checked }
namespace Rows
def none {H : Type} : Left H := { results := [], args := [] }

/-- 'dredgelaw19.HuntFollows': WHATEVER THE INPUT: true; the input reads as it did. -/
def huntFollowsSpec : ChangeSpec := { name := "huntFollows", fn := fun _ => fun
  | [d1, d2, d3] => { results := [.lit (.bool true)], args := [d1, d2, d3] }
  | _ => none }
def huntFollowsRow : OpenClaim := { program := "ytbcmhpannbdejaa", sum := "a4ebc094aff21daeea1964d39544fde75a2961dc0cc5ace8136929b05e89ae5e", func := "dredge/dredgelaw19.HuntFollows", spec := "huntFollows", unfollowed := true, recurses := true, apart := false }
def HuntFollowsSaid : Prop := huntFollowsRow.holds Try.pinned (OpenSpec.ofChange huntFollowsSpec)

/-- ITS FALSE NEIGHBOUR: 'it returns false'. Refute it at one input. -/
def huntFollowsWrong : ChangeSpec := { name := "huntFollows", fn := fun _ => fun
  | [d1, d2, d3] => { results := [.lit (.bool false)], args := [d1, d2, d3] }
  | _ => none }
def HuntFollowsWrongFalsely : Prop := huntFollowsRow.holds Try.pinned (OpenSpec.ofChange huntFollowsWrong)

/-- 'dredgelaw19.HuntFolds': WHATEVER THE INPUT: true; the input reads as it did. -/
def huntFoldsSpec : ChangeSpec := { name := "huntFolds", fn := fun _ => fun
  | [d1, d2] => { results := [.lit (.bool true)], args := [d1, d2] }
  | _ => none }
def huntFoldsRow : OpenClaim := { program := "ytbcmhpannbdejaa", sum := "a4ebc094aff21daeea1964d39544fde75a2961dc0cc5ace8136929b05e89ae5e", func := "dredge/dredgelaw19.HuntFolds", spec := "huntFolds", unfollowed := true, recurses := true, apart := false }
def HuntFoldsSaid : Prop := huntFoldsRow.holds Try.pinned (OpenSpec.ofChange huntFoldsSpec)

/-- ITS FALSE NEIGHBOUR: 'it returns false'. Refute it at one input. -/
def huntFoldsWrong : ChangeSpec := { name := "huntFolds", fn := fun _ => fun
  | [d1, d2] => { results := [.lit (.bool false)], args := [d1, d2] }
  | _ => none }
def HuntFoldsWrongFalsely : Prop := huntFoldsRow.holds Try.pinned (OpenSpec.ofChange huntFoldsWrong)

/-- 'dredgelaw19.HuntMore': WHATEVER THE INPUT: true; the input reads as it did. -/
def huntMoreSpec : ChangeSpec := { name := "huntMore", fn := fun _ => fun
  | [d1, d2, d3, d4] => { results := [.lit (.bool true)], args := [d1, d2, d3, d4] }
  | _ => none }
def huntMoreRow : OpenClaim := { program := "ytbcmhpannbdejaa", sum := "a4ebc094aff21daeea1964d39544fde75a2961dc0cc5ace8136929b05e89ae5e", func := "dredge/dredgelaw19.HuntMore", spec := "huntMore", unfollowed := true, recurses := true, apart := false }
def HuntMoreSaid : Prop := huntMoreRow.holds Try.pinned (OpenSpec.ofChange huntMoreSpec)

/-- ITS FALSE NEIGHBOUR: 'it returns false'. Refute it at one input. -/
def huntMoreWrong : ChangeSpec := { name := "huntMore", fn := fun _ => fun
  | [d1, d2, d3, d4] => { results := [.lit (.bool false)], args := [d1, d2, d3, d4] }
  | _ => none }
def HuntMoreWrongFalsely : Prop := huntMoreRow.holds Try.pinned (OpenSpec.ofChange huntMoreWrong)

/-- 'dredgelaw19.HuntEvery': WHATEVER THE INPUT: true; the input reads as it did. -/
def huntEverySpec : ChangeSpec := { name := "huntEvery", fn := fun _ => fun
  | [d1, d2, d3] => { results := [.lit (.bool true)], args := [d1, d2, d3] }
  | _ => none }
def huntEveryRow : OpenClaim := { program := "ytbcmhpannbdejaa", sum := "a4ebc094aff21daeea1964d39544fde75a2961dc0cc5ace8136929b05e89ae5e", func := "dredge/dredgelaw19.HuntEvery", spec := "huntEvery", unfollowed := true, recurses := true, apart := false }
def HuntEverySaid : Prop := huntEveryRow.holds Try.pinned (OpenSpec.ofChange huntEverySpec)

/-- ITS FALSE NEIGHBOUR: 'it returns false'. Refute it at one input. -/
def huntEveryWrong : ChangeSpec := { name := "huntEvery", fn := fun _ => fun
  | [d1, d2, d3] => { results := [.lit (.bool false)], args := [d1, d2, d3] }
  | _ => none }
def HuntEveryWrongFalsely : Prop := huntEveryRow.holds Try.pinned (OpenSpec.ofChange huntEveryWrong)

/-- 'dredgelaw19.HuntJoined': WHATEVER THE INPUT: true; the input reads as it did. -/
def huntJoinedSpec : ChangeSpec := { name := "huntJoined", fn := fun _ => fun
  | [d1, d2, d3, d4] => { results := [.lit (.bool true)], args := [d1, d2, d3, d4] }
  | _ => none }
def huntJoinedRow : OpenClaim := { program := "ytbcmhpannbdejaa", sum := "a4ebc094aff21daeea1964d39544fde75a2961dc0cc5ace8136929b05e89ae5e", func := "dredge/dredgelaw19.HuntJoined", spec := "huntJoined", unfollowed := true, recurses := true, apart := false }
def HuntJoinedSaid : Prop := huntJoinedRow.holds Try.pinned (OpenSpec.ofChange huntJoinedSpec)

/-- ITS FALSE NEIGHBOUR: 'it returns false'. Refute it at one input. -/
def huntJoinedWrong : ChangeSpec := { name := "huntJoined", fn := fun _ => fun
  | [d1, d2, d3, d4] => { results := [.lit (.bool false)], args := [d1, d2, d3, d4] }
  | _ => none }
def HuntJoinedWrongFalsely : Prop := huntJoinedRow.holds Try.pinned (OpenSpec.ofChange huntJoinedWrong)

/- THE SECOND FORM. 'bulk': how many values and letters a reading holds, each counted each time it is reached (what is shared counts as often as it is met; a slice's spare places count too). A statement '..UptoSaid' is the law's where the arguments, and the package variables that the reading takes, are together of bulk at most 1048576: NARROWER than '..Said'. Prove '..Said' where nothing that the law and all that it calls make is longer than what came in: it says more and counts as full. Else prove '..UptoSaid'. A law counts once. -/
mutual
def uptoBulk {H : Type} : DataW H → Nat
  | .lit (.string bytes) => bytes.length + 1
  | .lit _ => 1
  | .nil => 1
  | .ptr d => uptoBulk d + 1
  | .slice elems spare => uptoBulkAll elems + uptoBulkAll spare + 1
  | .agg parts => uptoBulkAll parts + 1
  | .iface _ d => uptoBulk d + 1
  | .map entries => uptoBulkEntries entries + 1
  | .held _ => 1
def uptoBulkAll {H : Type} : List (DataW H) → Nat
  | [] => 0
  | d :: r => uptoBulk d + uptoBulkAll r
def uptoBulkEntries {H : Type} : List (Lit × DataW H) → Nat
  | [] => 0
  | x :: r => uptoBulkEntry x + uptoBulkEntries r
def uptoBulkEntry {H : Type} : Lit × DataW H → Nat
  | (.string bytes, d) => bytes.length + uptoBulk d + 1
  | (_, d) => uptoBulk d + 1
 end
def uptoSmall : (H : Type) → List (DataW H) → Bool := fun _ ds => decide (uptoBulkAll ds ≤ 1048576)
def OpenSpec.upto (s : _root_.Go.ChangeSpec) : _root_.Go.OpenSpec := { _root_.Go.OpenSpec.ofChange s with cond := some uptoSmall }

/-- 'dredgelaw19.HuntFollows', WHERE WHAT IT READS IS OF BULK AT MOST 1048576: true; the input reads as it did. -/
def huntFollowsUptoRow : OpenClaim := { program := "ytbcmhpannbdejaa", sum := "a4ebc094aff21daeea1964d39544fde75a2961dc0cc5ace8136929b05e89ae5e", func := "dredge/dredgelaw19.HuntFollows", spec := "huntFollows", unfollowed := true, recurses := true, apart := false, narrowed := true }
def HuntFollowsUptoSaid : Prop := huntFollowsUptoRow.holds Try.pinned (OpenSpec.upto huntFollowsSpec)

/-- 'dredgelaw19.HuntFolds', WHERE WHAT IT READS IS OF BULK AT MOST 1048576: true; the input reads as it did. -/
def huntFoldsUptoRow : OpenClaim := { program := "ytbcmhpannbdejaa", sum := "a4ebc094aff21daeea1964d39544fde75a2961dc0cc5ace8136929b05e89ae5e", func := "dredge/dredgelaw19.HuntFolds", spec := "huntFolds", unfollowed := true, recurses := true, apart := false, narrowed := true }
def HuntFoldsUptoSaid : Prop := huntFoldsUptoRow.holds Try.pinned (OpenSpec.upto huntFoldsSpec)

/-- 'dredgelaw19.HuntMore', WHERE WHAT IT READS IS OF BULK AT MOST 1048576: true; the input reads as it did. -/
def huntMoreUptoRow : OpenClaim := { program := "ytbcmhpannbdejaa", sum := "a4ebc094aff21daeea1964d39544fde75a2961dc0cc5ace8136929b05e89ae5e", func := "dredge/dredgelaw19.HuntMore", spec := "huntMore", unfollowed := true, recurses := true, apart := false, narrowed := true }
def HuntMoreUptoSaid : Prop := huntMoreUptoRow.holds Try.pinned (OpenSpec.upto huntMoreSpec)

/-- 'dredgelaw19.HuntEvery', WHERE WHAT IT READS IS OF BULK AT MOST 1048576: true; the input reads as it did. -/
def huntEveryUptoRow : OpenClaim := { program := "ytbcmhpannbdejaa", sum := "a4ebc094aff21daeea1964d39544fde75a2961dc0cc5ace8136929b05e89ae5e", func := "dredge/dredgelaw19.HuntEvery", spec := "huntEvery", unfollowed := true, recurses := true, apart := false, narrowed := true }
def HuntEveryUptoSaid : Prop := huntEveryUptoRow.holds Try.pinned (OpenSpec.upto huntEverySpec)

/-- 'dredgelaw19.HuntJoined', WHERE WHAT IT READS IS OF BULK AT MOST 1048576: true; the input reads as it did. -/
def huntJoinedUptoRow : OpenClaim := { program := "ytbcmhpannbdejaa", sum := "a4ebc094aff21daeea1964d39544fde75a2961dc0cc5ace8136929b05e89ae5e", func := "dredge/dredgelaw19.HuntJoined", spec := "huntJoined", unfollowed := true, recurses := true, apart := false, narrowed := true }
def HuntJoinedUptoSaid : Prop := huntJoinedUptoRow.holds Try.pinned (OpenSpec.upto huntJoinedSpec)

end Rows
end Go.Proofs.Ytbcmhpannbdejaa
