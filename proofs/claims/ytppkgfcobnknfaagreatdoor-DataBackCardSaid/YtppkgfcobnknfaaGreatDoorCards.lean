/-
  DERIVED. GIVEN WITH THE SEED: THE CARDS: each row of YtppkgfcobnknfaaGreatDoorRows.lean that lists a variable, with what it lists TIED to the program's text (the seventh form; the later family's looks); each row that meets fmt, with fmt's text TOLD by the authors' own Lean function (tested against real Go, not proved from fmt's source: count such statements apart). THE CARD IS WHAT COUNTS. Prove the row's statement (the work); the ties are given (YtppkgfcobnknfaaGreatDoorTie.lean); close each card by the builder's one call (the guide's Derived/Test/ToyasCard.lean, 'card_holds'). Laid BY PROGRAM, IN A SANDBOX (cutbox-door.mjs). By AI agents, Wed Nov 11 2026. No macro, syntax, notation, axiom, sorry.
-/
import Derived.Test.YtppkgfcobnknfaaGreatDoorRows
import GoSem.ClaimSeven
namespace Go.Proofs.YtppkgfcobnknfaaGreatDoor
namespace Rows

/-- THE TIED CARD OF 'stockpotlaw10.DataBack'. -/
def dataBackCard : Claim7 := { stood := { row := dataBackRow, standIns := [], harness := (true, "d45d2016e0006df486b2d04f171ffcb2cbad6887a75c8c8ec6595b2b4c0eac9f"), looks := false }, kinds := [], alts := [], laidByText := true, laidKinds := [.data], laidTests := true, laidLooks := .later }
def DataBackCardSaid : Prop := Claim7.holds Tryz.pinned (.plain (OpenSpec.ofChange dataBackSpec)) dataBackCard

/-- THE TIED CARD OF 'stockpotlaw10.DataShares'. -/
def dataSharesCard : Claim7 := { stood := { row := dataSharesRow, standIns := [], harness := (true, "d45d2016e0006df486b2d04f171ffcb2cbad6887a75c8c8ec6595b2b4c0eac9f"), looks := false }, kinds := [], alts := [], laidByText := true, laidKinds := [.data], laidTests := true, laidLooks := .later }
def DataSharesCardSaid : Prop := Claim7.holds Tryz.pinned (.plain (OpenSpec.ofChange dataSharesSpec)) dataSharesCard

/-- THE SECOND FORM's CARD OF 'stockpotlaw10.DataBack'. -/
def dataBackUptoCard : Claim7 := { stood := { row := dataBackUptoRow, standIns := [], harness := (true, "d45d2016e0006df486b2d04f171ffcb2cbad6887a75c8c8ec6595b2b4c0eac9f"), looks := false }, kinds := [], alts := [], laidByText := true, laidKinds := [.data], laidTests := true, laidLooks := .later }
def DataBackUptoCardSaid : Prop := Claim7.holds Tryz.pinned (.plain (OpenSpec.upto dataBackSpec)) dataBackUptoCard

/-- THE SECOND FORM's CARD OF 'stockpotlaw10.DataShares'. -/
def dataSharesUptoCard : Claim7 := { stood := { row := dataSharesUptoRow, standIns := [], harness := (true, "d45d2016e0006df486b2d04f171ffcb2cbad6887a75c8c8ec6595b2b4c0eac9f"), looks := false }, kinds := [], alts := [], laidByText := true, laidKinds := [.data], laidTests := true, laidLooks := .later }
def DataSharesUptoCardSaid : Prop := Claim7.holds Tryz.pinned (.plain (OpenSpec.upto dataSharesSpec)) dataSharesUptoCard
end Rows
end Go.Proofs.YtppkgfcobnknfaaGreatDoor
