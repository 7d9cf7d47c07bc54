/-
  DERIVED. GIVEN WITH THE SEED: THE CARDS: each row of YtfjbgmeimipibaaGreatDoorRows.lean that lists a variable, with what it lists TIED to the program's text (the seventh form; the later family's looks); each row that meets fmt, with fmt's text TOLD by the authors' own Lean function (tested against real Go, not proved from fmt's source: count such statements apart). THE CARD IS WHAT COUNTS. Prove the row's statement (the work); the ties are given (YtfjbgmeimipibaaGreatDoorTie.lean); close each card by the builder's one call (the guide's Derived/Test/ToyasCard.lean, 'card_holds'). Laid BY PROGRAM, IN A SANDBOX (cutbox-door.mjs). By AI agents, Wed Nov 11 2026. No macro, syntax, notation, axiom, sorry.
-/
import Derived.Test.YtfjbgmeimipibaaGreatDoorRows
import GoSem.ClaimSeven
namespace Go.Proofs.YtfjbgmeimipibaaGreatDoor
namespace Rows

/-- THE TIED CARD OF 'dredgelaw14.CodeRights'. -/
def codeRightsCard : Claim7 := { stood := { row := codeRightsRow, standIns := [], harness := (true, "59f4770858fa06805b608d8ad410f436227757fc055975df4b267f81069af1f8"), looks := true }, kinds := [], alts := [], laidByText := true, laidKinds := [.data, .data, .data, .data, .sentinel, .sentinel, .pinned], laidTests := true, laidLooks := .later }
def CodeRightsCardSaid : Prop := Claim7.holds Tryz.pinned (.plain (OpenSpec.ofChange codeRightsSpec)) codeRightsCard

/-- THE TIED CARD OF 'dredgelaw14.CodeReads'. -/
def codeReadsCard : Claim7 := { stood := { row := codeReadsRow, standIns := [], harness := (true, "59f4770858fa06805b608d8ad410f436227757fc055975df4b267f81069af1f8"), looks := true }, kinds := [], alts := [], laidByText := true, laidKinds := [.data, .data, .data, .data, .sentinel, .sentinel, .pinned], laidTests := true, laidLooks := .later }
def CodeReadsCardSaid : Prop := Claim7.holds Tryz.pinned (.plain (OpenSpec.ofChange codeReadsSpec)) codeReadsCard

/-- THE TIED CARD OF 'dredgelaw14.CodeSames'. -/
def codeSamesCard : Claim7 := { stood := { row := codeSamesRow, standIns := [], harness := (true, "59f4770858fa06805b608d8ad410f436227757fc055975df4b267f81069af1f8"), looks := true }, kinds := [], alts := [], laidByText := true, laidKinds := [.data, .data, .data, .data, .sentinel, .sentinel, .pinned], laidTests := true, laidLooks := .later }
def CodeSamesCardSaid : Prop := Claim7.holds Tryz.pinned (.plain (OpenSpec.ofChange codeSamesSpec)) codeSamesCard

/-- THE TIED CARD OF 'dredgelaw14.CodeBack'. -/
def codeBackCard : Claim7 := { stood := { row := codeBackRow, standIns := [], harness := (true, "59f4770858fa06805b608d8ad410f436227757fc055975df4b267f81069af1f8"), looks := true }, kinds := [], alts := [], laidByText := true, laidKinds := [.data, .data, .data, .data, .sentinel, .sentinel, .pinned], laidTests := true, laidLooks := .later }
def CodeBackCardSaid : Prop := Claim7.holds Tryz.pinned (.plain (OpenSpec.ofChange codeBackSpec)) codeBackCard

/-- THE TIED CARD OF 'dredgelaw14.CodeAgain'. -/
def codeAgainCard : Claim7 := { stood := { row := codeAgainRow, standIns := [], harness := (true, "59f4770858fa06805b608d8ad410f436227757fc055975df4b267f81069af1f8"), looks := true }, kinds := [], alts := [], laidByText := true, laidKinds := [.data, .data, .data, .data, .sentinel, .sentinel, .pinned], laidTests := true, laidLooks := .later }
def CodeAgainCardSaid : Prop := Claim7.holds Tryz.pinned (.plain (OpenSpec.ofChange codeAgainSpec)) codeAgainCard

/-- THE TIED CARD OF 'dredgelaw14.CodeIdle'. -/
def codeIdleCard : Claim7 := { stood := { row := codeIdleRow, standIns := [], harness := (true, "59f4770858fa06805b608d8ad410f436227757fc055975df4b267f81069af1f8"), looks := true }, kinds := [], alts := [], laidByText := true, laidKinds := [.data, .data, .data, .data, .sentinel, .sentinel, .pinned], laidTests := true, laidLooks := .later }
def CodeIdleCardSaid : Prop := Claim7.holds Tryz.pinned (.plain (OpenSpec.ofChange codeIdleSpec)) codeIdleCard

/-- THE TIED CARD OF 'dredgelaw14.CodeUnreached'. -/
def codeUnreachedCard : Claim7 := { stood := { row := codeUnreachedRow, standIns := [], harness := (true, "59f4770858fa06805b608d8ad410f436227757fc055975df4b267f81069af1f8"), looks := true }, kinds := [], alts := [], laidByText := true, laidKinds := [.data, .data, .data, .data, .sentinel, .sentinel, .pinned], laidTests := true, laidLooks := .later }
def CodeUnreachedCardSaid : Prop := Claim7.holds Tryz.pinned (.plain (OpenSpec.ofChange codeUnreachedSpec)) codeUnreachedCard

/-- THE TIED CARD OF 'dredgelaw14.CodeLines'. -/
def codeLinesCard : Claim7 := { stood := { row := codeLinesRow, standIns := [], harness := (true, "59f4770858fa06805b608d8ad410f436227757fc055975df4b267f81069af1f8"), looks := true }, kinds := [], alts := [], laidByText := true, laidKinds := [.data, .data, .data, .data, .sentinel, .sentinel, .pinned], laidTests := true, laidLooks := .later }
def CodeLinesCardSaid : Prop := Claim7.holds Tryz.pinned (.plain (OpenSpec.ofChange codeLinesSpec)) codeLinesCard

/-- THE TIED CARD OF 'dredgelaw14.CodeFree'. -/
def codeFreeCard : Claim7 := { stood := { row := codeFreeRow, standIns := [], harness := (true, "59f4770858fa06805b608d8ad410f436227757fc055975df4b267f81069af1f8"), looks := true }, kinds := [], alts := [], laidByText := true, laidKinds := [.data, .data, .data, .data, .sentinel, .sentinel, .pinned], laidTests := true, laidLooks := .later }
def CodeFreeCardSaid : Prop := Claim7.holds Tryz.pinned (.plain (OpenSpec.ofChange codeFreeSpec)) codeFreeCard

/-- THE SECOND FORM's CARD OF 'dredgelaw14.CodeRights'. -/
def codeRightsUptoCard : Claim7 := { stood := { row := codeRightsUptoRow, standIns := [], harness := (true, "59f4770858fa06805b608d8ad410f436227757fc055975df4b267f81069af1f8"), looks := true }, kinds := [], alts := [], laidByText := true, laidKinds := [.data, .data, .data, .data, .sentinel, .sentinel, .pinned], laidTests := true, laidLooks := .later }
def CodeRightsUptoCardSaid : Prop := Claim7.holds Tryz.pinned (.plain (OpenSpec.upto codeRightsSpec)) codeRightsUptoCard

/-- THE SECOND FORM's CARD OF 'dredgelaw14.CodeReads'. -/
def codeReadsUptoCard : Claim7 := { stood := { row := codeReadsUptoRow, standIns := [], harness := (true, "59f4770858fa06805b608d8ad410f436227757fc055975df4b267f81069af1f8"), looks := true }, kinds := [], alts := [], laidByText := true, laidKinds := [.data, .data, .data, .data, .sentinel, .sentinel, .pinned], laidTests := true, laidLooks := .later }
def CodeReadsUptoCardSaid : Prop := Claim7.holds Tryz.pinned (.plain (OpenSpec.upto codeReadsSpec)) codeReadsUptoCard

/-- THE SECOND FORM's CARD OF 'dredgelaw14.CodeSames'. -/
def codeSamesUptoCard : Claim7 := { stood := { row := codeSamesUptoRow, standIns := [], harness := (true, "59f4770858fa06805b608d8ad410f436227757fc055975df4b267f81069af1f8"), looks := true }, kinds := [], alts := [], laidByText := true, laidKinds := [.data, .data, .data, .data, .sentinel, .sentinel, .pinned], laidTests := true, laidLooks := .later }
def CodeSamesUptoCardSaid : Prop := Claim7.holds Tryz.pinned (.plain (OpenSpec.upto codeSamesSpec)) codeSamesUptoCard

/-- THE SECOND FORM's CARD OF 'dredgelaw14.CodeBack'. -/
def codeBackUptoCard : Claim7 := { stood := { row := codeBackUptoRow, standIns := [], harness := (true, "59f4770858fa06805b608d8ad410f436227757fc055975df4b267f81069af1f8"), looks := true }, kinds := [], alts := [], laidByText := true, laidKinds := [.data, .data, .data, .data, .sentinel, .sentinel, .pinned], laidTests := true, laidLooks := .later }
def CodeBackUptoCardSaid : Prop := Claim7.holds Tryz.pinned (.plain (OpenSpec.upto codeBackSpec)) codeBackUptoCard

/-- THE SECOND FORM's CARD OF 'dredgelaw14.CodeAgain'. -/
def codeAgainUptoCard : Claim7 := { stood := { row := codeAgainUptoRow, standIns := [], harness := (true, "59f4770858fa06805b608d8ad410f436227757fc055975df4b267f81069af1f8"), looks := true }, kinds := [], alts := [], laidByText := true, laidKinds := [.data, .data, .data, .data, .sentinel, .sentinel, .pinned], laidTests := true, laidLooks := .later }
def CodeAgainUptoCardSaid : Prop := Claim7.holds Tryz.pinned (.plain (OpenSpec.upto codeAgainSpec)) codeAgainUptoCard

/-- THE SECOND FORM's CARD OF 'dredgelaw14.CodeIdle'. -/
def codeIdleUptoCard : Claim7 := { stood := { row := codeIdleUptoRow, standIns := [], harness := (true, "59f4770858fa06805b608d8ad410f436227757fc055975df4b267f81069af1f8"), looks := true }, kinds := [], alts := [], laidByText := true, laidKinds := [.data, .data, .data, .data, .sentinel, .sentinel, .pinned], laidTests := true, laidLooks := .later }
def CodeIdleUptoCardSaid : Prop := Claim7.holds Tryz.pinned (.plain (OpenSpec.upto codeIdleSpec)) codeIdleUptoCard

/-- THE SECOND FORM's CARD OF 'dredgelaw14.CodeUnreached'. -/
def codeUnreachedUptoCard : Claim7 := { stood := { row := codeUnreachedUptoRow, standIns := [], harness := (true, "59f4770858fa06805b608d8ad410f436227757fc055975df4b267f81069af1f8"), looks := true }, kinds := [], alts := [], laidByText := true, laidKinds := [.data, .data, .data, .data, .sentinel, .sentinel, .pinned], laidTests := true, laidLooks := .later }
def CodeUnreachedUptoCardSaid : Prop := Claim7.holds Tryz.pinned (.plain (OpenSpec.upto codeUnreachedSpec)) codeUnreachedUptoCard

/-- THE SECOND FORM's CARD OF 'dredgelaw14.CodeLines'. -/
def codeLinesUptoCard : Claim7 := { stood := { row := codeLinesUptoRow, standIns := [], harness := (true, "59f4770858fa06805b608d8ad410f436227757fc055975df4b267f81069af1f8"), looks := true }, kinds := [], alts := [], laidByText := true, laidKinds := [.data, .data, .data, .data, .sentinel, .sentinel, .pinned], laidTests := true, laidLooks := .later }
def CodeLinesUptoCardSaid : Prop := Claim7.holds Tryz.pinned (.plain (OpenSpec.upto codeLinesSpec)) codeLinesUptoCard

/-- THE SECOND FORM's CARD OF 'dredgelaw14.CodeFree'. -/
def codeFreeUptoCard : Claim7 := { stood := { row := codeFreeUptoRow, standIns := [], harness := (true, "59f4770858fa06805b608d8ad410f436227757fc055975df4b267f81069af1f8"), looks := true }, kinds := [], alts := [], laidByText := true, laidKinds := [.data, .data, .data, .data, .sentinel, .sentinel, .pinned], laidTests := true, laidLooks := .later }
def CodeFreeUptoCardSaid : Prop := Claim7.holds Tryz.pinned (.plain (OpenSpec.upto codeFreeSpec)) codeFreeUptoCard
end Rows
end Go.Proofs.YtfjbgmeimipibaaGreatDoor
