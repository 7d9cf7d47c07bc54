/-
  DERIVED. GIVEN WITH THE SEED: THE CARDS: each row of YtegeeofjebpgbaaDoorRows.lean that lists a variable, with what it lists TIED to the program's text (the seventh form; the later family's looks); each row that meets fmt, with fmt's text TOLD by the authors' own Lean function (tested against real Go, not proved from fmt's source: count such statements apart). THE CARD IS WHAT COUNTS. Prove the row's statement (the work); the ties are given (YtegeeofjebpgbaaDoorTie.lean); close each card by the builder's one call (the guide's Derived/Test/ToyasCard.lean, 'card_holds'). Laid BY PROGRAM, IN A SANDBOX (cutbox-door.mjs). By AI agents, Wed Nov 11 2026. No macro, syntax, notation, axiom, sorry.
-/
import Derived.Test.YtegeeofjebpgbaaDoorRows
import GoSem.ClaimSeven
namespace Go.Proofs.YtegeeofjebpgbaaDoor
namespace Rows

/-- THE TIED CARD OF 'dredgelaw01.SetsWalk'. -/
def setsWalkCard : Claim7 := { stood := { row := setsWalkRow, standIns := [], harness := (true, "5daeb8d1f1e925f7a49038ae9d30845a887f008fac69d74fb05e06d67b5b5f97"), looks := false }, kinds := [], alts := [], laidByText := true, laidKinds := [.data], laidTests := true, laidLooks := .later }
def SetsWalkCardSaid : Prop := Claim7.holds Tryd.pinned (.plain (OpenSpec.ofChange setsWalkSpec)) setsWalkCard

/-- THE TIED CARD OF 'dredgelaw01.SetsAll'. -/
def setsAllCard : Claim7 := { stood := { row := setsAllRow, standIns := [], harness := (true, "5daeb8d1f1e925f7a49038ae9d30845a887f008fac69d74fb05e06d67b5b5f97"), looks := false }, kinds := [], alts := [], laidByText := true, laidKinds := [.data], laidTests := true, laidLooks := .later }
def SetsAllCardSaid : Prop := Claim7.holds Tryd.pinned (.plain (OpenSpec.ofChange setsAllSpec)) setsAllCard

/-- THE TIED CARD OF 'dredgelaw01.SetsMix'. -/
def setsMixCard : Claim7 := { stood := { row := setsMixRow, standIns := [], harness := (true, "5daeb8d1f1e925f7a49038ae9d30845a887f008fac69d74fb05e06d67b5b5f97"), looks := false }, kinds := [], alts := [], laidByText := true, laidKinds := [.data], laidTests := true, laidLooks := .later }
def SetsMixCardSaid : Prop := Claim7.holds Tryd.pinned (.plain (OpenSpec.ofChange setsMixSpec)) setsMixCard

/-- THE TIED CARD OF 'dredgelaw01.SetsEach'. -/
def setsEachCard : Claim7 := { stood := { row := setsEachRow, standIns := [], harness := (true, "5daeb8d1f1e925f7a49038ae9d30845a887f008fac69d74fb05e06d67b5b5f97"), looks := false }, kinds := [], alts := [], laidByText := true, laidKinds := [.data], laidTests := true, laidLooks := .later }
def SetsEachCardSaid : Prop := Claim7.holds Tryd.pinned (.plain (OpenSpec.ofChange setsEachSpec)) setsEachCard

/-- THE TIED CARD OF 'dredgelaw01.SetsBytes'. -/
def setsBytesCard : Claim7 := { stood := { row := setsBytesRow, standIns := [], harness := (true, "5daeb8d1f1e925f7a49038ae9d30845a887f008fac69d74fb05e06d67b5b5f97"), looks := false }, kinds := [], alts := [], laidByText := true, laidKinds := [.data], laidTests := true, laidLooks := .later }
def SetsBytesCardSaid : Prop := Claim7.holds Tryd.pinned (.plain (OpenSpec.ofChange setsBytesSpec)) setsBytesCard

/-- THE TIED CARD OF 'dredgelaw01.SetsMake'. -/
def setsMakeCard : Claim7 := { stood := { row := setsMakeRow, standIns := [], harness := (true, "5daeb8d1f1e925f7a49038ae9d30845a887f008fac69d74fb05e06d67b5b5f97"), looks := false }, kinds := [], alts := [], laidByText := true, laidKinds := [.data], laidTests := true, laidLooks := .later }
def SetsMakeCardSaid : Prop := Claim7.holds Tryd.pinned (.plain (OpenSpec.ofChange setsMakeSpec)) setsMakeCard

/-- THE TIED CARD OF 'dredgelaw01.SetsBack'. -/
def setsBackCard : Claim7 := { stood := { row := setsBackRow, standIns := [], harness := (true, "5daeb8d1f1e925f7a49038ae9d30845a887f008fac69d74fb05e06d67b5b5f97"), looks := false }, kinds := [], alts := [], laidByText := true, laidKinds := [.data], laidTests := true, laidLooks := .later }
def SetsBackCardSaid : Prop := Claim7.holds Tryd.pinned (.plain (OpenSpec.ofChange setsBackSpec)) setsBackCard

/-- THE SECOND FORM's CARD OF 'dredgelaw01.SetsWalk'. -/
def setsWalkUptoCard : Claim7 := { stood := { row := setsWalkUptoRow, standIns := [], harness := (true, "5daeb8d1f1e925f7a49038ae9d30845a887f008fac69d74fb05e06d67b5b5f97"), looks := false }, kinds := [], alts := [], laidByText := true, laidKinds := [.data], laidTests := true, laidLooks := .later }
def SetsWalkUptoCardSaid : Prop := Claim7.holds Tryd.pinned (.plain (OpenSpec.upto setsWalkSpec)) setsWalkUptoCard

/-- THE SECOND FORM's CARD OF 'dredgelaw01.SetsAll'. -/
def setsAllUptoCard : Claim7 := { stood := { row := setsAllUptoRow, standIns := [], harness := (true, "5daeb8d1f1e925f7a49038ae9d30845a887f008fac69d74fb05e06d67b5b5f97"), looks := false }, kinds := [], alts := [], laidByText := true, laidKinds := [.data], laidTests := true, laidLooks := .later }
def SetsAllUptoCardSaid : Prop := Claim7.holds Tryd.pinned (.plain (OpenSpec.upto setsAllSpec)) setsAllUptoCard

/-- THE SECOND FORM's CARD OF 'dredgelaw01.SetsMix'. -/
def setsMixUptoCard : Claim7 := { stood := { row := setsMixUptoRow, standIns := [], harness := (true, "5daeb8d1f1e925f7a49038ae9d30845a887f008fac69d74fb05e06d67b5b5f97"), looks := false }, kinds := [], alts := [], laidByText := true, laidKinds := [.data], laidTests := true, laidLooks := .later }
def SetsMixUptoCardSaid : Prop := Claim7.holds Tryd.pinned (.plain (OpenSpec.upto setsMixSpec)) setsMixUptoCard

/-- THE SECOND FORM's CARD OF 'dredgelaw01.SetsEach'. -/
def setsEachUptoCard : Claim7 := { stood := { row := setsEachUptoRow, standIns := [], harness := (true, "5daeb8d1f1e925f7a49038ae9d30845a887f008fac69d74fb05e06d67b5b5f97"), looks := false }, kinds := [], alts := [], laidByText := true, laidKinds := [.data], laidTests := true, laidLooks := .later }
def SetsEachUptoCardSaid : Prop := Claim7.holds Tryd.pinned (.plain (OpenSpec.upto setsEachSpec)) setsEachUptoCard

/-- THE SECOND FORM's CARD OF 'dredgelaw01.SetsBytes'. -/
def setsBytesUptoCard : Claim7 := { stood := { row := setsBytesUptoRow, standIns := [], harness := (true, "5daeb8d1f1e925f7a49038ae9d30845a887f008fac69d74fb05e06d67b5b5f97"), looks := false }, kinds := [], alts := [], laidByText := true, laidKinds := [.data], laidTests := true, laidLooks := .later }
def SetsBytesUptoCardSaid : Prop := Claim7.holds Tryd.pinned (.plain (OpenSpec.upto setsBytesSpec)) setsBytesUptoCard

/-- THE SECOND FORM's CARD OF 'dredgelaw01.SetsMake'. -/
def setsMakeUptoCard : Claim7 := { stood := { row := setsMakeUptoRow, standIns := [], harness := (true, "5daeb8d1f1e925f7a49038ae9d30845a887f008fac69d74fb05e06d67b5b5f97"), looks := false }, kinds := [], alts := [], laidByText := true, laidKinds := [.data], laidTests := true, laidLooks := .later }
def SetsMakeUptoCardSaid : Prop := Claim7.holds Tryd.pinned (.plain (OpenSpec.upto setsMakeSpec)) setsMakeUptoCard

/-- THE SECOND FORM's CARD OF 'dredgelaw01.SetsBack'. -/
def setsBackUptoCard : Claim7 := { stood := { row := setsBackUptoRow, standIns := [], harness := (true, "5daeb8d1f1e925f7a49038ae9d30845a887f008fac69d74fb05e06d67b5b5f97"), looks := false }, kinds := [], alts := [], laidByText := true, laidKinds := [.data], laidTests := true, laidLooks := .later }
def SetsBackUptoCardSaid : Prop := Claim7.holds Tryd.pinned (.plain (OpenSpec.upto setsBackSpec)) setsBackUptoCard
end Rows
end Go.Proofs.YtegeeofjebpgbaaDoor
