/-
  DERIVED. GIVEN WITH THE SEED: THE CARDS: each row of YtppkgfcobnknfaaDoorRows.lean that lists a variable, with what it lists TIED to the program's text (the seventh form; the later family's looks); each row that meets fmt, with fmt's text TOLD by the authors' own Lean function (tested against real Go, not proved from fmt's source: count such statements apart). THE CARD IS WHAT COUNTS. Prove the row's statement (the work); the ties are given (YtppkgfcobnknfaaDoorTie.lean); close each card by the builder's one call (the guide's Derived/Test/ToyasCard.lean, 'card_holds'). Laid BY PROGRAM, IN A SANDBOX (cutbox-door.mjs). By AI agents, Wed Nov 11 2026. No macro, syntax, notation, axiom, sorry.
-/
import Derived.Test.YtppkgfcobnknfaaDoorRows
import GoSem.ClaimSeven
namespace Go.Proofs.YtppkgfcobnknfaaDoor
namespace Rows

/-- THE TIED CARD OF 'stockpotlaw10.DataPairs'. -/
def dataPairsCard : Claim7 := { stood := { row := dataPairsRow, standIns := [], harness := (true, "08d75b8fdd3a52647aeb2a5a0112d1b043e0e378a053b023ebe5270ea9d0a542"), looks := false }, kinds := [], alts := [], laidByText := true, laidKinds := [.data], laidTests := true, laidLooks := .later }
def DataPairsCardSaid : Prop := Claim7.holds Tryd.pinned (.plain (OpenSpec.ofChange dataPairsSpec)) dataPairsCard

/-- THE TIED CARD OF 'stockpotlaw10.DataFits'. -/
def dataFitsCard : Claim7 := { stood := { row := dataFitsRow, standIns := [], harness := (true, "08d75b8fdd3a52647aeb2a5a0112d1b043e0e378a053b023ebe5270ea9d0a542"), looks := false }, kinds := [], alts := [], laidByText := true, laidKinds := [.data], laidTests := true, laidLooks := .later }
def DataFitsCardSaid : Prop := Claim7.holds Tryd.pinned (.plain (OpenSpec.ofChange dataFitsSpec)) dataFitsCard

/-- THE SECOND FORM's CARD OF 'stockpotlaw10.DataPairs'. -/
def dataPairsUptoCard : Claim7 := { stood := { row := dataPairsUptoRow, standIns := [], harness := (true, "08d75b8fdd3a52647aeb2a5a0112d1b043e0e378a053b023ebe5270ea9d0a542"), looks := false }, kinds := [], alts := [], laidByText := true, laidKinds := [.data], laidTests := true, laidLooks := .later }
def DataPairsUptoCardSaid : Prop := Claim7.holds Tryd.pinned (.plain (OpenSpec.upto dataPairsSpec)) dataPairsUptoCard

/-- THE SECOND FORM's CARD OF 'stockpotlaw10.DataFits'. -/
def dataFitsUptoCard : Claim7 := { stood := { row := dataFitsUptoRow, standIns := [], harness := (true, "08d75b8fdd3a52647aeb2a5a0112d1b043e0e378a053b023ebe5270ea9d0a542"), looks := false }, kinds := [], alts := [], laidByText := true, laidKinds := [.data], laidTests := true, laidLooks := .later }
def DataFitsUptoCardSaid : Prop := Claim7.holds Tryd.pinned (.plain (OpenSpec.upto dataFitsSpec)) dataFitsUptoCard
end Rows
end Go.Proofs.YtppkgfcobnknfaaDoor
