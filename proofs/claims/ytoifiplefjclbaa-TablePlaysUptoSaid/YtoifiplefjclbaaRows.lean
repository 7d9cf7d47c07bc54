/-
  No cell of these rows narrows 'for every input' (looked for: loops, veiled, ifaces, maps, wideKeys, modest, calm, conditions, laid).
  DERIVED. THE GIVEN ROWS OF THIS SEAT. 7 by the template 'for every input the law returns true; each argument reads behind the call as it read before'; 0 by the template 'total and deterministic' (their statements: YtoifiplefjclbaaTotals.lean).
  GIVEN WITH THE SEED: the statements are not yours to turn. If you find one false, say at which input.
  Laid BY PROGRAM, IN A SANDBOX (cutbox-rows.mjs): the forced cells as the released guide's own fill.sh prints them over the translation f27b391175aa7794… (all of the seat's roots in one cut). By AI agents, Wed Nov 11 2026. No macro, syntax, notation, axiom, sorry.
-/
import Derived.Test.YtoifiplefjclbaaChecked
import GoSem.Claim
import GoSem.ClaimJoined
import GoSem.ClaimMapViews
import Derived.JoinedTies
import Derived.KernelRfl
namespace Go.Proofs.Ytoifiplefjclbaa
/- THE CELL 'sum', in the pinned program and in every row, IS THE sha256 OF THE DUMP (.gsa) THAT YtoifiplefjclbaaProg.lean LOADS. Nothing in Lean hashes anything: it is a label: what it is worth is what the hold of that sum in a sandbox is worth. -/
noncomputable def Try.pinned : Pinned := { name := "ytoifiplefjclbaa", sum := "f27b391175aa7794266fe18856054c0e707b6ebbc557c1e920f83bd85cdcef2b", checked := Try.checked }
namespace Rows
def none {H : Type} : Left H := { results := [], args := [] }

/-- 'dredgelaw03.TableWide': WHATEVER THE INPUT: true; the input reads as it did. -/
def tableWideSpec : ChangeSpec := { name := "tableWide", fn := fun _ => fun
  | [d1, d2, d3] => { results := [.lit (.bool true)], args := [d1, d2, d3] }
  | _ => none }
def tableWideRow : OpenClaim := { program := "ytoifiplefjclbaa", sum := "f27b391175aa7794266fe18856054c0e707b6ebbc557c1e920f83bd85cdcef2b", func := "dredge/dredgelaw03.TableWide", spec := "tableWide", apart := false }
def TableWideSaid : Prop := tableWideRow.holds Try.pinned (OpenSpec.ofChange tableWideSpec)

/-- ITS FALSE NEIGHBOUR: 'it returns false'. Refute it at one input. -/
def tableWideWrong : ChangeSpec := { name := "tableWide", fn := fun _ => fun
  | [d1, d2, d3] => { results := [.lit (.bool false)], args := [d1, d2, d3] }
  | _ => none }
def TableWideWrongFalsely : Prop := tableWideRow.holds Try.pinned (OpenSpec.ofChange tableWideWrong)

/-- 'dredgelaw03.TableFull': WHATEVER THE INPUT: true; the input reads as it did. -/
def tableFullSpec : ChangeSpec := { name := "tableFull", fn := fun _ => fun
  | [d1, d2] => { results := [.lit (.bool true)], args := [d1, d2] }
  | _ => none }
def tableFullRow : OpenClaim := { program := "ytoifiplefjclbaa", sum := "f27b391175aa7794266fe18856054c0e707b6ebbc557c1e920f83bd85cdcef2b", func := "dredge/dredgelaw03.TableFull", spec := "tableFull", apart := false }
def TableFullSaid : Prop := tableFullRow.holds Try.pinned (OpenSpec.ofChange tableFullSpec)

/-- ITS FALSE NEIGHBOUR: 'it returns false'. Refute it at one input. -/
def tableFullWrong : ChangeSpec := { name := "tableFull", fn := fun _ => fun
  | [d1, d2] => { results := [.lit (.bool false)], args := [d1, d2] }
  | _ => none }
def TableFullWrongFalsely : Prop := tableFullRow.holds Try.pinned (OpenSpec.ofChange tableFullWrong)

/-- 'dredgelaw03.TableNew': WHATEVER THE INPUT: true; the input reads as it did. -/
def tableNewSpec : ChangeSpec := { name := "tableNew", fn := fun _ => fun
  | [d1, d2] => { results := [.lit (.bool true)], args := [d1, d2] }
  | _ => none }
def tableNewRow : OpenClaim := { program := "ytoifiplefjclbaa", sum := "f27b391175aa7794266fe18856054c0e707b6ebbc557c1e920f83bd85cdcef2b", func := "dredge/dredgelaw03.TableNew", spec := "tableNew", apart := false }
def TableNewSaid : Prop := tableNewRow.holds Try.pinned (OpenSpec.ofChange tableNewSpec)

/-- ITS FALSE NEIGHBOUR: 'it returns false'. Refute it at one input. -/
def tableNewWrong : ChangeSpec := { name := "tableNew", fn := fun _ => fun
  | [d1, d2] => { results := [.lit (.bool false)], args := [d1, d2] }
  | _ => none }
def TableNewWrongFalsely : Prop := tableNewRow.holds Try.pinned (OpenSpec.ofChange tableNewWrong)

/-- 'dredgelaw03.TablePlaces': WHATEVER THE INPUT: true; the input reads as it did. -/
def tablePlacesSpec : ChangeSpec := { name := "tablePlaces", fn := fun _ => fun
  | [d1, d2] => { results := [.lit (.bool true)], args := [d1, d2] }
  | _ => none }
def tablePlacesRow : OpenClaim := { program := "ytoifiplefjclbaa", sum := "f27b391175aa7794266fe18856054c0e707b6ebbc557c1e920f83bd85cdcef2b", func := "dredge/dredgelaw03.TablePlaces", spec := "tablePlaces", apart := false }
def TablePlacesSaid : Prop := tablePlacesRow.holds Try.pinned (OpenSpec.ofChange tablePlacesSpec)

/-- ITS FALSE NEIGHBOUR: 'it returns false'. Refute it at one input. -/
def tablePlacesWrong : ChangeSpec := { name := "tablePlaces", fn := fun _ => fun
  | [d1, d2] => { results := [.lit (.bool false)], args := [d1, d2] }
  | _ => none }
def TablePlacesWrongFalsely : Prop := tablePlacesRow.holds Try.pinned (OpenSpec.ofChange tablePlacesWrong)

/-- 'dredgelaw03.TableFollows': WHATEVER THE INPUT: true; the input reads as it did. -/
def tableFollowsSpec : ChangeSpec := { name := "tableFollows", fn := fun _ => fun
  | [d1, d2] => { results := [.lit (.bool true)], args := [d1, d2] }
  | _ => none }
def tableFollowsRow : OpenClaim := { program := "ytoifiplefjclbaa", sum := "f27b391175aa7794266fe18856054c0e707b6ebbc557c1e920f83bd85cdcef2b", func := "dredge/dredgelaw03.TableFollows", spec := "tableFollows", unfollowed := true, recurses := true, apart := false }
def TableFollowsSaid : Prop := tableFollowsRow.holds Try.pinned (OpenSpec.ofChange tableFollowsSpec)

/-- ITS FALSE NEIGHBOUR: 'it returns false'. Refute it at one input. -/
def tableFollowsWrong : ChangeSpec := { name := "tableFollows", fn := fun _ => fun
  | [d1, d2] => { results := [.lit (.bool false)], args := [d1, d2] }
  | _ => none }
def TableFollowsWrongFalsely : Prop := tableFollowsRow.holds Try.pinned (OpenSpec.ofChange tableFollowsWrong)

/-- 'dredgelaw03.TableOrder': WHATEVER THE INPUT: true; the input reads as it did. -/
def tableOrderSpec : ChangeSpec := { name := "tableOrder", fn := fun _ => fun
  | [d] => { results := [.lit (.bool true)], args := [d] }
  | _ => none }
def tableOrderRow : OpenClaim := { program := "ytoifiplefjclbaa", sum := "f27b391175aa7794266fe18856054c0e707b6ebbc557c1e920f83bd85cdcef2b", func := "dredge/dredgelaw03.TableOrder", spec := "tableOrder", unfollowed := true, recurses := true, apart := false }
def TableOrderSaid : Prop := tableOrderRow.holds Try.pinned (OpenSpec.ofChange tableOrderSpec)

/-- ITS FALSE NEIGHBOUR: 'it returns false'. Refute it at one input. -/
def tableOrderWrong : ChangeSpec := { name := "tableOrder", fn := fun _ => fun
  | [d] => { results := [.lit (.bool false)], args := [d] }
  | _ => none }
def TableOrderWrongFalsely : Prop := tableOrderRow.holds Try.pinned (OpenSpec.ofChange tableOrderWrong)

/-- 'dredgelaw03.TablePlays': WHATEVER THE INPUT: true; the input reads as it did. -/
def tablePlaysSpec : ChangeSpec := { name := "tablePlays", fn := fun _ => fun
  | [d1, d2, d3, d4, d5] => { results := [.lit (.bool true)], args := [d1, d2, d3, d4, d5] }
  | _ => none }
def tablePlaysRow : OpenClaim := { program := "ytoifiplefjclbaa", sum := "f27b391175aa7794266fe18856054c0e707b6ebbc557c1e920f83bd85cdcef2b", func := "dredge/dredgelaw03.TablePlays", spec := "tablePlays", unfollowed := true, recurses := true, apart := false }
def TablePlaysSaid : Prop := tablePlaysRow.holds Try.pinned (OpenSpec.ofChange tablePlaysSpec)

/-- ITS FALSE NEIGHBOUR: 'it returns false'. Refute it at one input. -/
def tablePlaysWrong : ChangeSpec := { name := "tablePlays", fn := fun _ => fun
  | [d1, d2, d3, d4, d5] => { results := [.lit (.bool false)], args := [d1, d2, d3, d4, d5] }
  | _ => none }
def TablePlaysWrongFalsely : Prop := tablePlaysRow.holds Try.pinned (OpenSpec.ofChange tablePlaysWrong)

/- THE SECOND FORM. 'bulk': how many values and letters a reading holds, each counted each time it is reached (what is shared counts as often as it is met; a slice's spare places count too). A statement '..UptoSaid' is the law's where the arguments, and the package variables that the reading takes, are together of bulk at most 1048576: NARROWER than '..Said'. Prove '..Said' where nothing that the law and all that it calls make is longer than what came in: it says more and counts as full. Else prove '..UptoSaid'. A law counts once. -/
mutual
def uptoBulk {H : Type} : DataW H → Nat
  | .lit (.string bytes) => bytes.length + 1
  | .lit _ => 1
  | .nil => 1
  | .ptr d => uptoBulk d + 1
  | .slice elems spare => uptoBulkAll elems + uptoBulkAll spare + 1
  | .agg parts => uptoBulkAll parts + 1
  | .iface _ d => uptoBulk d + 1
  | .map entries => uptoBulkEntries entries + 1
  | .held _ => 1
def uptoBulkAll {H : Type} : List (DataW H) → Nat
  | [] => 0
  | d :: r => uptoBulk d + uptoBulkAll r
def uptoBulkEntries {H : Type} : List (Lit × DataW H) → Nat
  | [] => 0
  | x :: r => uptoBulkEntry x + uptoBulkEntries r
def uptoBulkEntry {H : Type} : Lit × DataW H → Nat
  | (.string bytes, d) => bytes.length + uptoBulk d + 1
  | (_, d) => uptoBulk d + 1
 end
def uptoSmall : (H : Type) → List (DataW H) → Bool := fun _ ds => decide (uptoBulkAll ds ≤ 1048576)
def OpenSpec.upto (s : _root_.Go.ChangeSpec) : _root_.Go.OpenSpec := { _root_.Go.OpenSpec.ofChange s with cond := some uptoSmall }

/-- 'dredgelaw03.TableWide', WHERE WHAT IT READS IS OF BULK AT MOST 1048576: true; the input reads as it did. -/
def tableWideUptoRow : OpenClaim := { program := "ytoifiplefjclbaa", sum := "f27b391175aa7794266fe18856054c0e707b6ebbc557c1e920f83bd85cdcef2b", func := "dredge/dredgelaw03.TableWide", spec := "tableWide", apart := false, narrowed := true }
def TableWideUptoSaid : Prop := tableWideUptoRow.holds Try.pinned (OpenSpec.upto tableWideSpec)

/-- 'dredgelaw03.TableFull', WHERE WHAT IT READS IS OF BULK AT MOST 1048576: true; the input reads as it did. -/
def tableFullUptoRow : OpenClaim := { program := "ytoifiplefjclbaa", sum := "f27b391175aa7794266fe18856054c0e707b6ebbc557c1e920f83bd85cdcef2b", func := "dredge/dredgelaw03.TableFull", spec := "tableFull", apart := false, narrowed := true }
def TableFullUptoSaid : Prop := tableFullUptoRow.holds Try.pinned (OpenSpec.upto tableFullSpec)

/-- 'dredgelaw03.TableNew', WHERE WHAT IT READS IS OF BULK AT MOST 1048576: true; the input reads as it did. -/
def tableNewUptoRow : OpenClaim := { program := "ytoifiplefjclbaa", sum := "f27b391175aa7794266fe18856054c0e707b6ebbc557c1e920f83bd85cdcef2b", func := "dredge/dredgelaw03.TableNew", spec := "tableNew", apart := false, narrowed := true }
def TableNewUptoSaid : Prop := tableNewUptoRow.holds Try.pinned (OpenSpec.upto tableNewSpec)

/-- 'dredgelaw03.TablePlaces', WHERE WHAT IT READS IS OF BULK AT MOST 1048576: true; the input reads as it did. -/
def tablePlacesUptoRow : OpenClaim := { program := "ytoifiplefjclbaa", sum := "f27b391175aa7794266fe18856054c0e707b6ebbc557c1e920f83bd85cdcef2b", func := "dredge/dredgelaw03.TablePlaces", spec := "tablePlaces", apart := false, narrowed := true }
def TablePlacesUptoSaid : Prop := tablePlacesUptoRow.holds Try.pinned (OpenSpec.upto tablePlacesSpec)

/-- 'dredgelaw03.TableFollows', WHERE WHAT IT READS IS OF BULK AT MOST 1048576: true; the input reads as it did. -/
def tableFollowsUptoRow : OpenClaim := { program := "ytoifiplefjclbaa", sum := "f27b391175aa7794266fe18856054c0e707b6ebbc557c1e920f83bd85cdcef2b", func := "dredge/dredgelaw03.TableFollows", spec := "tableFollows", unfollowed := true, recurses := true, apart := false, narrowed := true }
def TableFollowsUptoSaid : Prop := tableFollowsUptoRow.holds Try.pinned (OpenSpec.upto tableFollowsSpec)

/-- 'dredgelaw03.TableOrder', WHERE WHAT IT READS IS OF BULK AT MOST 1048576: true; the input reads as it did. -/
def tableOrderUptoRow : OpenClaim := { program := "ytoifiplefjclbaa", sum := "f27b391175aa7794266fe18856054c0e707b6ebbc557c1e920f83bd85cdcef2b", func := "dredge/dredgelaw03.TableOrder", spec := "tableOrder", unfollowed := true, recurses := true, apart := false, narrowed := true }
def TableOrderUptoSaid : Prop := tableOrderUptoRow.holds Try.pinned (OpenSpec.upto tableOrderSpec)

/-- 'dredgelaw03.TablePlays', WHERE WHAT IT READS IS OF BULK AT MOST 1048576: true; the input reads as it did. -/
def tablePlaysUptoRow : OpenClaim := { program := "ytoifiplefjclbaa", sum := "f27b391175aa7794266fe18856054c0e707b6ebbc557c1e920f83bd85cdcef2b", func := "dredge/dredgelaw03.TablePlays", spec := "tablePlays", unfollowed := true, recurses := true, apart := false, narrowed := true }
def TablePlaysUptoSaid : Prop := tablePlaysUptoRow.holds Try.pinned (OpenSpec.upto tablePlaysSpec)

end Rows
end Go.Proofs.Ytoifiplefjclbaa
