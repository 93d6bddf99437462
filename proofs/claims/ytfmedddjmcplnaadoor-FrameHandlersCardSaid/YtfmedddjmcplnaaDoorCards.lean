/-
  DERIVED. GIVEN WITH THE SEED: THE CARDS: each row of YtfmedddjmcplnaaDoorRows.lean that lists a variable, with what it lists TIED to the program's text (the seventh form; the later family's looks); each row that meets fmt, with fmt's text TOLD by the authors' own Lean function (tested against real Go, not proved from fmt's source: count such statements apart). THE CARD IS WHAT COUNTS. Prove the row's statement (the work); the ties are given (YtfmedddjmcplnaaDoorTie.lean); close each card by the builder's one call (the guide's Derived/Test/ToyasCard.lean, 'card_holds'). Laid BY PROGRAM, IN A SANDBOX (cutbox-door.mjs). By AI agents, Wed Nov 11 2026. No macro, syntax, notation, axiom, sorry.
-/
import Derived.Test.YtfmedddjmcplnaaDoorRows
import GoSem.ClaimSeven
namespace Go.Proofs.YtfmedddjmcplnaaDoor
namespace Rows

/-- THE TIED CARD OF 'stockpotlaw11.FrameHandlers'. -/
def frameHandlersCard : Claim7 := { stood := { row := frameHandlersRow, standIns := [], harness := (true, "4b545f5c077ac15faad217722dc3c72ada50a28bd15b2371bfcc1e3a7dfd5129"), looks := false }, kinds := [], alts := [], laidByText := true, laidKinds := [.data, .data], laidTests := true, laidLooks := .later }
def FrameHandlersCardSaid : Prop := Claim7.holds Tryd.pinned (.plain (OpenSpec.ofChange frameHandlersSpec)) frameHandlersCard

/-- THE TIED CARD OF 'stockpotlaw09.ArithLaws'. -/
def arithLawsCard : Claim7 := { stood := { row := arithLawsRow, standIns := [], harness := (true, "4b545f5c077ac15faad217722dc3c72ada50a28bd15b2371bfcc1e3a7dfd5129"), looks := false }, kinds := [], alts := [], laidByText := true, laidKinds := [.data, .data, .data, .data], laidTests := true, laidLooks := .later }
def ArithLawsCardSaid : Prop := Claim7.holds Tryd.pinned (.plain (OpenSpec.ofChange arithLawsSpec)) arithLawsCard

/-- THE TIED CARD OF 'stockpotlaw09.ArithTexts'. -/
def arithTextsCard : Claim7 := { stood := { row := arithTextsRow, standIns := [], harness := (true, "4b545f5c077ac15faad217722dc3c72ada50a28bd15b2371bfcc1e3a7dfd5129"), looks := false }, kinds := [], alts := [], laidByText := true, laidKinds := [.data, .data, .data, .data], laidTests := true, laidLooks := .later }
def ArithTextsCardSaid : Prop := Claim7.holds Tryd.pinned (.plain (OpenSpec.ofChange arithTextsSpec)) arithTextsCard

/-- THE TIED CARD OF 'stockpotlaw09.ArithWraps'. -/
def arithWrapsCard : Claim7 := { stood := { row := arithWrapsRow, standIns := [], harness := (true, "4b545f5c077ac15faad217722dc3c72ada50a28bd15b2371bfcc1e3a7dfd5129"), looks := false }, kinds := [], alts := [], laidByText := true, laidKinds := [.data, .data, .data, .data], laidTests := true, laidLooks := .later }
def ArithWrapsCardSaid : Prop := Claim7.holds Tryd.pinned (.plain (OpenSpec.ofChange arithWrapsSpec)) arithWrapsCard

/-- THE TIED CARD OF 'stockpotlaw09.ArithOrder'. -/
def arithOrderCard : Claim7 := { stood := { row := arithOrderRow, standIns := [], harness := (true, "4b545f5c077ac15faad217722dc3c72ada50a28bd15b2371bfcc1e3a7dfd5129"), looks := false }, kinds := [], alts := [], laidByText := true, laidKinds := [.data, .data, .data, .data], laidTests := true, laidLooks := .later }
def ArithOrderCardSaid : Prop := Claim7.holds Tryd.pinned (.plain (OpenSpec.ofChange arithOrderSpec)) arithOrderCard

/-- THE SECOND FORM's CARD OF 'stockpotlaw11.FrameHandlers'. -/
def frameHandlersUptoCard : Claim7 := { stood := { row := frameHandlersUptoRow, standIns := [], harness := (true, "4b545f5c077ac15faad217722dc3c72ada50a28bd15b2371bfcc1e3a7dfd5129"), looks := false }, kinds := [], alts := [], laidByText := true, laidKinds := [.data, .data], laidTests := true, laidLooks := .later }
def FrameHandlersUptoCardSaid : Prop := Claim7.holds Tryd.pinned (.plain (OpenSpec.upto frameHandlersSpec)) frameHandlersUptoCard

/-- THE SECOND FORM's CARD OF 'stockpotlaw09.ArithLaws'. -/
def arithLawsUptoCard : Claim7 := { stood := { row := arithLawsUptoRow, standIns := [], harness := (true, "4b545f5c077ac15faad217722dc3c72ada50a28bd15b2371bfcc1e3a7dfd5129"), looks := false }, kinds := [], alts := [], laidByText := true, laidKinds := [.data, .data, .data, .data], laidTests := true, laidLooks := .later }
def ArithLawsUptoCardSaid : Prop := Claim7.holds Tryd.pinned (.plain (OpenSpec.upto arithLawsSpec)) arithLawsUptoCard

/-- THE SECOND FORM's CARD OF 'stockpotlaw09.ArithTexts'. -/
def arithTextsUptoCard : Claim7 := { stood := { row := arithTextsUptoRow, standIns := [], harness := (true, "4b545f5c077ac15faad217722dc3c72ada50a28bd15b2371bfcc1e3a7dfd5129"), looks := false }, kinds := [], alts := [], laidByText := true, laidKinds := [.data, .data, .data, .data], laidTests := true, laidLooks := .later }
def ArithTextsUptoCardSaid : Prop := Claim7.holds Tryd.pinned (.plain (OpenSpec.upto arithTextsSpec)) arithTextsUptoCard

/-- THE SECOND FORM's CARD OF 'stockpotlaw09.ArithWraps'. -/
def arithWrapsUptoCard : Claim7 := { stood := { row := arithWrapsUptoRow, standIns := [], harness := (true, "4b545f5c077ac15faad217722dc3c72ada50a28bd15b2371bfcc1e3a7dfd5129"), looks := false }, kinds := [], alts := [], laidByText := true, laidKinds := [.data, .data, .data, .data], laidTests := true, laidLooks := .later }
def ArithWrapsUptoCardSaid : Prop := Claim7.holds Tryd.pinned (.plain (OpenSpec.upto arithWrapsSpec)) arithWrapsUptoCard

/-- THE SECOND FORM's CARD OF 'stockpotlaw09.ArithOrder'. -/
def arithOrderUptoCard : Claim7 := { stood := { row := arithOrderUptoRow, standIns := [], harness := (true, "4b545f5c077ac15faad217722dc3c72ada50a28bd15b2371bfcc1e3a7dfd5129"), looks := false }, kinds := [], alts := [], laidByText := true, laidKinds := [.data, .data, .data, .data], laidTests := true, laidLooks := .later }
def ArithOrderUptoCardSaid : Prop := Claim7.holds Tryd.pinned (.plain (OpenSpec.upto arithOrderSpec)) arithOrderUptoCard
end Rows
end Go.Proofs.YtfmedddjmcplnaaDoor
