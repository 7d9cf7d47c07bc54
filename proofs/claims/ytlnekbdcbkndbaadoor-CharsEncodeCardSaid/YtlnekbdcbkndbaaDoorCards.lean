/-
  DERIVED. GIVEN WITH THE SEED: THE CARDS: each row of YtlnekbdcbkndbaaDoorRows.lean that lists a variable, with what it lists TIED to the program's text (the seventh form; the later family's looks); each row that meets fmt, with fmt's text TOLD by the authors' own Lean function (tested against real Go, not proved from fmt's source: count such statements apart). THE CARD IS WHAT COUNTS. Prove the row's statement (the work); the ties are given (YtlnekbdcbkndbaaDoorTie.lean); close each card by the builder's one call (the guide's Derived/Test/ToyasCard.lean, 'card_holds'). Laid BY PROGRAM, IN A SANDBOX (cutbox-door.mjs). By AI agents, Wed Nov 11 2026. No macro, syntax, notation, axiom, sorry.
-/
import Derived.Test.YtlnekbdcbkndbaaDoorRows
import GoSem.ClaimSeven
namespace Go.Proofs.YtlnekbdcbkndbaaDoor
namespace Rows

/-- THE TIED CARD OF 'dredgelaw05.CharsEncode'. -/
def charsEncodeCard : Claim7 := { stood := { row := charsEncodeRow, standIns := [], harness := (true, "077dc54d62d4514b22e812f9f221cec04f95d4d05dff05e718eb069dfc433bce"), looks := false }, kinds := [], alts := [], laidByText := true, laidKinds := [.data, .data, .data, .data, .pinned], laidTests := true, laidLooks := .later }
def CharsEncodeCardSaid : Prop := Claim7.holds Tryd.pinned (.plain (OpenSpec.ofChange charsEncodeSpec)) charsEncodeCard

/-- THE TIED CARD OF 'dredgelaw05.CharsShown'. -/
def charsShownCard : Claim7 := { stood := { row := charsShownRow, standIns := [], harness := (true, "077dc54d62d4514b22e812f9f221cec04f95d4d05dff05e718eb069dfc433bce"), looks := false }, kinds := [], alts := [], laidByText := true, laidKinds := [.data, .data, .data, .data, .pinned], laidTests := true, laidLooks := .later }
def CharsShownCardSaid : Prop := Claim7.holds Tryd.pinned (.plain (OpenSpec.ofChange charsShownSpec)) charsShownCard

/-- THE TIED CARD OF 'dredgelaw05.CharsWalk'. -/
def charsWalkCard : Claim7 := { stood := { row := charsWalkRow, standIns := [], harness := (true, "077dc54d62d4514b22e812f9f221cec04f95d4d05dff05e718eb069dfc433bce"), looks := false }, kinds := [], alts := [], laidByText := true, laidKinds := [.data, .data, .data, .data, .pinned], laidTests := true, laidLooks := .later }
def CharsWalkCardSaid : Prop := Claim7.holds Tryd.pinned (.plain (OpenSpec.ofChange charsWalkSpec)) charsWalkCard

/-- THE TIED CARD OF 'dredgelaw05.CharsUnits'. -/
def charsUnitsCard : Claim7 := { stood := { row := charsUnitsRow, standIns := [], harness := (true, "077dc54d62d4514b22e812f9f221cec04f95d4d05dff05e718eb069dfc433bce"), looks := false }, kinds := [], alts := [], laidByText := true, laidKinds := [.data, .data, .data, .data, .pinned], laidTests := true, laidLooks := .later }
def CharsUnitsCardSaid : Prop := Claim7.holds Tryd.pinned (.plain (OpenSpec.ofChange charsUnitsSpec)) charsUnitsCard

/-- THE TIED CARD OF 'dredgelaw05.CharsBack'. -/
def charsBackCard : Claim7 := { stood := { row := charsBackRow, standIns := [], harness := (true, "077dc54d62d4514b22e812f9f221cec04f95d4d05dff05e718eb069dfc433bce"), looks := false }, kinds := [], alts := [], laidByText := true, laidKinds := [.data, .data, .data, .data, .pinned], laidTests := true, laidLooks := .later }
def CharsBackCardSaid : Prop := Claim7.holds Tryd.pinned (.plain (OpenSpec.ofChange charsBackSpec)) charsBackCard

/-- THE TIED CARD OF 'dredgelaw05.CharsDecode'. -/
def charsDecodeCard : Claim7 := { stood := { row := charsDecodeRow, standIns := [], harness := (true, "077dc54d62d4514b22e812f9f221cec04f95d4d05dff05e718eb069dfc433bce"), looks := false }, kinds := [], alts := [], laidByText := true, laidKinds := [.data, .data, .data, .data, .pinned], laidTests := true, laidLooks := .later }
def CharsDecodeCardSaid : Prop := Claim7.holds Tryd.pinned (.plain (OpenSpec.ofChange charsDecodeSpec)) charsDecodeCard

/-- THE SECOND FORM's CARD OF 'dredgelaw05.CharsEncode'. -/
def charsEncodeUptoCard : Claim7 := { stood := { row := charsEncodeUptoRow, standIns := [], harness := (true, "077dc54d62d4514b22e812f9f221cec04f95d4d05dff05e718eb069dfc433bce"), looks := false }, kinds := [], alts := [], laidByText := true, laidKinds := [.data, .data, .data, .data, .pinned], laidTests := true, laidLooks := .later }
def CharsEncodeUptoCardSaid : Prop := Claim7.holds Tryd.pinned (.plain (OpenSpec.upto charsEncodeSpec)) charsEncodeUptoCard

/-- THE SECOND FORM's CARD OF 'dredgelaw05.CharsShown'. -/
def charsShownUptoCard : Claim7 := { stood := { row := charsShownUptoRow, standIns := [], harness := (true, "077dc54d62d4514b22e812f9f221cec04f95d4d05dff05e718eb069dfc433bce"), looks := false }, kinds := [], alts := [], laidByText := true, laidKinds := [.data, .data, .data, .data, .pinned], laidTests := true, laidLooks := .later }
def CharsShownUptoCardSaid : Prop := Claim7.holds Tryd.pinned (.plain (OpenSpec.upto charsShownSpec)) charsShownUptoCard

/-- THE SECOND FORM's CARD OF 'dredgelaw05.CharsWalk'. -/
def charsWalkUptoCard : Claim7 := { stood := { row := charsWalkUptoRow, standIns := [], harness := (true, "077dc54d62d4514b22e812f9f221cec04f95d4d05dff05e718eb069dfc433bce"), looks := false }, kinds := [], alts := [], laidByText := true, laidKinds := [.data, .data, .data, .data, .pinned], laidTests := true, laidLooks := .later }
def CharsWalkUptoCardSaid : Prop := Claim7.holds Tryd.pinned (.plain (OpenSpec.upto charsWalkSpec)) charsWalkUptoCard

/-- THE SECOND FORM's CARD OF 'dredgelaw05.CharsUnits'. -/
def charsUnitsUptoCard : Claim7 := { stood := { row := charsUnitsUptoRow, standIns := [], harness := (true, "077dc54d62d4514b22e812f9f221cec04f95d4d05dff05e718eb069dfc433bce"), looks := false }, kinds := [], alts := [], laidByText := true, laidKinds := [.data, .data, .data, .data, .pinned], laidTests := true, laidLooks := .later }
def CharsUnitsUptoCardSaid : Prop := Claim7.holds Tryd.pinned (.plain (OpenSpec.upto charsUnitsSpec)) charsUnitsUptoCard

/-- THE SECOND FORM's CARD OF 'dredgelaw05.CharsBack'. -/
def charsBackUptoCard : Claim7 := { stood := { row := charsBackUptoRow, standIns := [], harness := (true, "077dc54d62d4514b22e812f9f221cec04f95d4d05dff05e718eb069dfc433bce"), looks := false }, kinds := [], alts := [], laidByText := true, laidKinds := [.data, .data, .data, .data, .pinned], laidTests := true, laidLooks := .later }
def CharsBackUptoCardSaid : Prop := Claim7.holds Tryd.pinned (.plain (OpenSpec.upto charsBackSpec)) charsBackUptoCard

/-- THE SECOND FORM's CARD OF 'dredgelaw05.CharsDecode'. -/
def charsDecodeUptoCard : Claim7 := { stood := { row := charsDecodeUptoRow, standIns := [], harness := (true, "077dc54d62d4514b22e812f9f221cec04f95d4d05dff05e718eb069dfc433bce"), looks := false }, kinds := [], alts := [], laidByText := true, laidKinds := [.data, .data, .data, .data, .pinned], laidTests := true, laidLooks := .later }
def CharsDecodeUptoCardSaid : Prop := Claim7.holds Tryd.pinned (.plain (OpenSpec.upto charsDecodeSpec)) charsDecodeUptoCard
end Rows
end Go.Proofs.YtlnekbdcbkndbaaDoor
