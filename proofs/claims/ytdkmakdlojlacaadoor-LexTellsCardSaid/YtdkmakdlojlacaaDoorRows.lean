/-
  NARROWER THAN 'FOR EVERY INPUT', by the rows' own cells (each row's printed sentence says how): LexTells: laid · LexBack: laid · LexRows: laid · LexWords: laid · LexQuotes: laid · LexCuts: laid.
  DERIVED. THE GIVEN ROWS OF THIS SEAT. 6 by the template 'for every input the law returns true; each argument reads behind the call as it read before'; 0 by the template 'total and deterministic' (their statements: YtdkmakdlojlacaaDoorTotals.lean).
  GIVEN WITH THE SEED: the statements are not yours to turn. If you find one false, say at which input.
  Laid BY PROGRAM, IN A SANDBOX (cutbox-rows.mjs): the forced cells as the released guide's own fill.sh prints them over the translation 73188be2b11937fb… (all of the seat's roots in one cut). By AI agents, Wed Nov 11 2026. No macro, syntax, notation, axiom, sorry.
-/
import Derived.Test.YtdkmakdlojlacaaDoorChecked
import GoSem.Claim
import GoSem.ClaimJoined
import GoSem.ClaimMapViews
import Derived.JoinedTies
import Derived.KernelRfl
namespace Go.Proofs.YtdkmakdlojlacaaDoor
/- THE CELL 'sum', in the pinned program and in every row, IS THE sha256 OF THE DUMP (.gsa) THAT YtdkmakdlojlacaaDoorProg.lean LOADS. Nothing in Lean hashes anything: it is a label: what it is worth is what the hold of that sum in a sandbox is worth. -/
noncomputable def Tryd.pinned : Pinned := { name := "ytdkmakdlojlacaadoor", sum := "73188be2b11937fbb3b7c6c31dc43750e8e2eb7720e316cec7c47c5981e02004", checked := Tryd.checked }
namespace Rows
def none {H : Type} : Left H := { results := [], args := [] }

/- WHAT THE LISTED PACKAGE-LEVEL VARIABLES READ AS WHEN THE CALL BEGINS. Each datum BY PROGRAM (the guide's laid-datum.mjs) off the statement by which the dump's own 'gosem.cut.vars' lays the variable. In a bare row this is a premise. The card (YtdkmakdlojlacaaDoorCards.lean) ties it to the program's text. -/
def laid_stockpot_lex_words {H : Type} : DataW H := .agg [.lit (.string [108, 101, 116]), .lit (.string [114, 101, 99]), .lit (.string [105, 110]), .lit (.string [102, 117, 110]), .lit (.string [105, 102]), .lit (.string [116, 104, 101, 110]), .lit (.string [101, 108, 115, 101]), .lit (.string [109, 97, 116, 99, 104]), .lit (.string [119, 105, 116, 104]), .lit (.string [101, 110, 100]), .lit (.string [116, 114, 121]), .lit (.string [114, 97, 105, 115, 101]), .lit (.string [116, 121, 112, 101]), .lit (.string [111, 102]), .lit (.string [116, 114, 117, 101]), .lit (.string [102, 97, 108, 115, 101]), .lit (.string [114, 101, 102]), .lit (.string [101, 109, 105, 116]), .lit (.string [108, 111, 103]), .lit (.string [115, 101, 110, 100]), .lit (.string [114, 101, 99, 118]), .lit (.string [115, 105, 122, 101]), .lit (.string [98, 121, 116, 101]), .lit (.string [116, 101, 120, 116]), .lit (.string [115, 97, 109, 101]), .lit (.string [97, 114, 114, 97, 121]), .lit (.string [103, 101, 116]), .lit (.string [112, 117, 116]), .lit (.string [108, 101, 110]), .lit (.string [105, 110, 116]), .lit (.string [98, 111, 111, 108]), .lit (.string [117, 110, 105, 116]), .lit (.string [115, 116, 114, 105, 110, 103]), .lit (.string [108, 105, 115, 116])]
def laid_stockpot_lex_signs {H : Type} : DataW H := .agg [.lit (.string [58, 61]), .lit (.string [58, 58]), .lit (.string [45, 62]), .lit (.string [40]), .lit (.string [41]), .lit (.string [91]), .lit (.string [93]), .lit (.string [44]), .lit (.string [59]), .lit (.string [124]), .lit (.string [33]), .lit (.string [61]), .lit (.string [43]), .lit (.string [42]), .lit (.string [47]), .lit (.string [37]), .lit (.string [94]), .lit (.string [60]), .lit (.string [45])]

/-- 'stockpotlaw14.LexTells': WHATEVER THE INPUT: true; the input reads as it did. -/
def lexTellsSpec : ChangeSpec := { name := "lexTells", fn := fun _ => fun
  | [d1, d2] => { results := [.lit (.bool true)], args := [d1, d2] }
  | _ => none }
def lexTellsRow : OpenClaim := { program := "ytdkmakdlojlacaadoor", sum := "73188be2b11937fbb3b7c6c31dc43750e8e2eb7720e316cec7c47c5981e02004", func := "stockpot/stockpotlaw14.LexTells", spec := "lexTells", inPlace := ["internal/bytealg.IndexByteString", "internal/bytealg.IndexString"], unfollowed := true, recurses := true, named := ["stockpot/lex.words", "internal/bytealg.MaxLen", "stockpot/lex.signs"], apart := false, laid := [("stockpot/lex.words", laid_stockpot_lex_words), ("stockpot/lex.signs", laid_stockpot_lex_signs)] }
def LexTellsSaid : Prop := lexTellsRow.holds Tryd.pinned (OpenSpec.ofChange lexTellsSpec)

/-- ITS FALSE NEIGHBOUR: 'it returns false'. Refute it at one input. -/
def lexTellsWrong : ChangeSpec := { name := "lexTells", fn := fun _ => fun
  | [d1, d2] => { results := [.lit (.bool false)], args := [d1, d2] }
  | _ => none }
def LexTellsWrongFalsely : Prop := lexTellsRow.holds Tryd.pinned (OpenSpec.ofChange lexTellsWrong)

/-- 'stockpotlaw14.LexBack': WHATEVER THE INPUT: true; the input reads as it did. -/
def lexBackSpec : ChangeSpec := { name := "lexBack", fn := fun _ => fun
  | [d1, d2] => { results := [.lit (.bool true)], args := [d1, d2] }
  | _ => none }
def lexBackRow : OpenClaim := { program := "ytdkmakdlojlacaadoor", sum := "73188be2b11937fbb3b7c6c31dc43750e8e2eb7720e316cec7c47c5981e02004", func := "stockpot/stockpotlaw14.LexBack", spec := "lexBack", inPlace := ["internal/bytealg.IndexByteString", "internal/bytealg.IndexString"], unfollowed := true, recurses := true, named := ["stockpot/lex.words", "internal/bytealg.MaxLen", "stockpot/lex.signs"], apart := false, laid := [("stockpot/lex.words", laid_stockpot_lex_words), ("stockpot/lex.signs", laid_stockpot_lex_signs)] }
def LexBackSaid : Prop := lexBackRow.holds Tryd.pinned (OpenSpec.ofChange lexBackSpec)

/-- ITS FALSE NEIGHBOUR: 'it returns false'. Refute it at one input. -/
def lexBackWrong : ChangeSpec := { name := "lexBack", fn := fun _ => fun
  | [d1, d2] => { results := [.lit (.bool false)], args := [d1, d2] }
  | _ => none }
def LexBackWrongFalsely : Prop := lexBackRow.holds Tryd.pinned (OpenSpec.ofChange lexBackWrong)

/-- 'stockpotlaw14.LexRows': WHATEVER THE INPUT: true; the input reads as it did. -/
def lexRowsSpec : ChangeSpec := { name := "lexRows", fn := fun _ => fun
  | [d1, d2] => { results := [.lit (.bool true)], args := [d1, d2] }
  | _ => none }
def lexRowsRow : OpenClaim := { program := "ytdkmakdlojlacaadoor", sum := "73188be2b11937fbb3b7c6c31dc43750e8e2eb7720e316cec7c47c5981e02004", func := "stockpot/stockpotlaw14.LexRows", spec := "lexRows", inPlace := ["internal/bytealg.IndexByteString", "internal/bytealg.IndexString"], unfollowed := true, recurses := true, named := ["stockpot/lex.words", "internal/bytealg.MaxLen", "stockpot/lex.signs"], apart := false, laid := [("stockpot/lex.words", laid_stockpot_lex_words), ("stockpot/lex.signs", laid_stockpot_lex_signs)] }
def LexRowsSaid : Prop := lexRowsRow.holds Tryd.pinned (OpenSpec.ofChange lexRowsSpec)

/-- ITS FALSE NEIGHBOUR: 'it returns false'. Refute it at one input. -/
def lexRowsWrong : ChangeSpec := { name := "lexRows", fn := fun _ => fun
  | [d1, d2] => { results := [.lit (.bool false)], args := [d1, d2] }
  | _ => none }
def LexRowsWrongFalsely : Prop := lexRowsRow.holds Tryd.pinned (OpenSpec.ofChange lexRowsWrong)

/-- 'stockpotlaw14.LexWords': WHATEVER THE INPUT: true; the input reads as it did. -/
def lexWordsSpec : ChangeSpec := { name := "lexWords", fn := fun _ => fun
  | [d] => { results := [.lit (.bool true)], args := [d] }
  | _ => none }
def lexWordsRow : OpenClaim := { program := "ytdkmakdlojlacaadoor", sum := "73188be2b11937fbb3b7c6c31dc43750e8e2eb7720e316cec7c47c5981e02004", func := "stockpot/stockpotlaw14.LexWords", spec := "lexWords", inPlace := ["internal/bytealg.IndexByteString", "internal/bytealg.IndexString"], unfollowed := true, recurses := true, named := ["stockpot/lex.words", "internal/bytealg.MaxLen", "stockpot/lex.signs"], apart := false, laid := [("stockpot/lex.words", laid_stockpot_lex_words), ("stockpot/lex.signs", laid_stockpot_lex_signs)] }
def LexWordsSaid : Prop := lexWordsRow.holds Tryd.pinned (OpenSpec.ofChange lexWordsSpec)

/-- ITS FALSE NEIGHBOUR: 'it returns false'. Refute it at one input. -/
def lexWordsWrong : ChangeSpec := { name := "lexWords", fn := fun _ => fun
  | [d] => { results := [.lit (.bool false)], args := [d] }
  | _ => none }
def LexWordsWrongFalsely : Prop := lexWordsRow.holds Tryd.pinned (OpenSpec.ofChange lexWordsWrong)

/-- 'stockpotlaw14.LexQuotes': WHATEVER THE INPUT: true; the input reads as it did. -/
def lexQuotesSpec : ChangeSpec := { name := "lexQuotes", fn := fun _ => fun
  | [d] => { results := [.lit (.bool true)], args := [d] }
  | _ => none }
def lexQuotesRow : OpenClaim := { program := "ytdkmakdlojlacaadoor", sum := "73188be2b11937fbb3b7c6c31dc43750e8e2eb7720e316cec7c47c5981e02004", func := "stockpot/stockpotlaw14.LexQuotes", spec := "lexQuotes", inPlace := ["internal/bytealg.IndexByteString", "internal/bytealg.IndexString"], unfollowed := true, recurses := true, named := ["stockpot/lex.words", "internal/bytealg.MaxLen", "stockpot/lex.signs"], apart := false, laid := [("stockpot/lex.words", laid_stockpot_lex_words), ("stockpot/lex.signs", laid_stockpot_lex_signs)] }
def LexQuotesSaid : Prop := lexQuotesRow.holds Tryd.pinned (OpenSpec.ofChange lexQuotesSpec)

/-- ITS FALSE NEIGHBOUR: 'it returns false'. Refute it at one input. -/
def lexQuotesWrong : ChangeSpec := { name := "lexQuotes", fn := fun _ => fun
  | [d] => { results := [.lit (.bool false)], args := [d] }
  | _ => none }
def LexQuotesWrongFalsely : Prop := lexQuotesRow.holds Tryd.pinned (OpenSpec.ofChange lexQuotesWrong)

/-- 'stockpotlaw14.LexCuts': WHATEVER THE INPUT: true; the input reads as it did. -/
def lexCutsSpec : ChangeSpec := { name := "lexCuts", fn := fun _ => fun
  | [d1, d2] => { results := [.lit (.bool true)], args := [d1, d2] }
  | _ => none }
def lexCutsRow : OpenClaim := { program := "ytdkmakdlojlacaadoor", sum := "73188be2b11937fbb3b7c6c31dc43750e8e2eb7720e316cec7c47c5981e02004", func := "stockpot/stockpotlaw14.LexCuts", spec := "lexCuts", inPlace := ["internal/bytealg.IndexByteString", "internal/bytealg.IndexString"], unfollowed := true, recurses := true, named := ["stockpot/lex.words", "internal/bytealg.MaxLen", "stockpot/lex.signs"], apart := false, laid := [("stockpot/lex.words", laid_stockpot_lex_words), ("stockpot/lex.signs", laid_stockpot_lex_signs)] }
def LexCutsSaid : Prop := lexCutsRow.holds Tryd.pinned (OpenSpec.ofChange lexCutsSpec)

/-- ITS FALSE NEIGHBOUR: 'it returns false'. Refute it at one input. -/
def lexCutsWrong : ChangeSpec := { name := "lexCuts", fn := fun _ => fun
  | [d1, d2] => { results := [.lit (.bool false)], args := [d1, d2] }
  | _ => none }
def LexCutsWrongFalsely : Prop := lexCutsRow.holds Tryd.pinned (OpenSpec.ofChange lexCutsWrong)

/- THE SECOND FORM. 'bulk': how many values and letters a reading holds, each counted each time it is reached (what is shared counts as often as it is met; a slice's spare places count too). A statement '..UptoSaid' is the law's where the arguments, and the package variables that the reading takes, are together of bulk at most 1048576: NARROWER than '..Said'. Prove '..Said' where nothing that the law and all that it calls make is longer than what came in: it says more and counts as full. Else prove '..UptoSaid'. A law counts once. -/
mutual
def uptoBulk {H : Type} : DataW H → Nat
  | .lit (.string bytes) => bytes.length + 1
  | .lit _ => 1
  | .nil => 1
  | .ptr d => uptoBulk d + 1
  | .slice elems spare => uptoBulkAll elems + uptoBulkAll spare + 1
  | .agg parts => uptoBulkAll parts + 1
  | .iface _ d => uptoBulk d + 1
  | .map entries => uptoBulkEntries entries + 1
  | .held _ => 1
def uptoBulkAll {H : Type} : List (DataW H) → Nat
  | [] => 0
  | d :: r => uptoBulk d + uptoBulkAll r
def uptoBulkEntries {H : Type} : List (Lit × DataW H) → Nat
  | [] => 0
  | x :: r => uptoBulkEntry x + uptoBulkEntries r
def uptoBulkEntry {H : Type} : Lit × DataW H → Nat
  | (.string bytes, d) => bytes.length + uptoBulk d + 1
  | (_, d) => uptoBulk d + 1
 end
def uptoSmall : (H : Type) → List (DataW H) → Bool := fun _ ds => decide (uptoBulkAll ds ≤ 1048576)
def OpenSpec.upto (s : _root_.Go.ChangeSpec) : _root_.Go.OpenSpec := { _root_.Go.OpenSpec.ofChange s with cond := some uptoSmall }

/-- 'stockpotlaw14.LexTells', WHERE WHAT IT READS IS OF BULK AT MOST 1048576: true; the input reads as it did. -/
def lexTellsUptoRow : OpenClaim := { program := "ytdkmakdlojlacaadoor", sum := "73188be2b11937fbb3b7c6c31dc43750e8e2eb7720e316cec7c47c5981e02004", func := "stockpot/stockpotlaw14.LexTells", spec := "lexTells", inPlace := ["internal/bytealg.IndexByteString", "internal/bytealg.IndexString"], unfollowed := true, recurses := true, named := ["stockpot/lex.words", "internal/bytealg.MaxLen", "stockpot/lex.signs"], apart := false, laid := [("stockpot/lex.words", laid_stockpot_lex_words), ("stockpot/lex.signs", laid_stockpot_lex_signs)], narrowed := true }
def LexTellsUptoSaid : Prop := lexTellsUptoRow.holds Tryd.pinned (OpenSpec.upto lexTellsSpec)

/-- 'stockpotlaw14.LexBack', WHERE WHAT IT READS IS OF BULK AT MOST 1048576: true; the input reads as it did. -/
def lexBackUptoRow : OpenClaim := { program := "ytdkmakdlojlacaadoor", sum := "73188be2b11937fbb3b7c6c31dc43750e8e2eb7720e316cec7c47c5981e02004", func := "stockpot/stockpotlaw14.LexBack", spec := "lexBack", inPlace := ["internal/bytealg.IndexByteString", "internal/bytealg.IndexString"], unfollowed := true, recurses := true, named := ["stockpot/lex.words", "internal/bytealg.MaxLen", "stockpot/lex.signs"], apart := false, laid := [("stockpot/lex.words", laid_stockpot_lex_words), ("stockpot/lex.signs", laid_stockpot_lex_signs)], narrowed := true }
def LexBackUptoSaid : Prop := lexBackUptoRow.holds Tryd.pinned (OpenSpec.upto lexBackSpec)

/-- 'stockpotlaw14.LexRows', WHERE WHAT IT READS IS OF BULK AT MOST 1048576: true; the input reads as it did. -/
def lexRowsUptoRow : OpenClaim := { program := "ytdkmakdlojlacaadoor", sum := "73188be2b11937fbb3b7c6c31dc43750e8e2eb7720e316cec7c47c5981e02004", func := "stockpot/stockpotlaw14.LexRows", spec := "lexRows", inPlace := ["internal/bytealg.IndexByteString", "internal/bytealg.IndexString"], unfollowed := true, recurses := true, named := ["stockpot/lex.words", "internal/bytealg.MaxLen", "stockpot/lex.signs"], apart := false, laid := [("stockpot/lex.words", laid_stockpot_lex_words), ("stockpot/lex.signs", laid_stockpot_lex_signs)], narrowed := true }
def LexRowsUptoSaid : Prop := lexRowsUptoRow.holds Tryd.pinned (OpenSpec.upto lexRowsSpec)

/-- 'stockpotlaw14.LexWords', WHERE WHAT IT READS IS OF BULK AT MOST 1048576: true; the input reads as it did. -/
def lexWordsUptoRow : OpenClaim := { program := "ytdkmakdlojlacaadoor", sum := "73188be2b11937fbb3b7c6c31dc43750e8e2eb7720e316cec7c47c5981e02004", func := "stockpot/stockpotlaw14.LexWords", spec := "lexWords", inPlace := ["internal/bytealg.IndexByteString", "internal/bytealg.IndexString"], unfollowed := true, recurses := true, named := ["stockpot/lex.words", "internal/bytealg.MaxLen", "stockpot/lex.signs"], apart := false, laid := [("stockpot/lex.words", laid_stockpot_lex_words), ("stockpot/lex.signs", laid_stockpot_lex_signs)], narrowed := true }
def LexWordsUptoSaid : Prop := lexWordsUptoRow.holds Tryd.pinned (OpenSpec.upto lexWordsSpec)

/-- 'stockpotlaw14.LexQuotes', WHERE WHAT IT READS IS OF BULK AT MOST 1048576: true; the input reads as it did. -/
def lexQuotesUptoRow : OpenClaim := { program := "ytdkmakdlojlacaadoor", sum := "73188be2b11937fbb3b7c6c31dc43750e8e2eb7720e316cec7c47c5981e02004", func := "stockpot/stockpotlaw14.LexQuotes", spec := "lexQuotes", inPlace := ["internal/bytealg.IndexByteString", "internal/bytealg.IndexString"], unfollowed := true, recurses := true, named := ["stockpot/lex.words", "internal/bytealg.MaxLen", "stockpot/lex.signs"], apart := false, laid := [("stockpot/lex.words", laid_stockpot_lex_words), ("stockpot/lex.signs", laid_stockpot_lex_signs)], narrowed := true }
def LexQuotesUptoSaid : Prop := lexQuotesUptoRow.holds Tryd.pinned (OpenSpec.upto lexQuotesSpec)

/-- 'stockpotlaw14.LexCuts', WHERE WHAT IT READS IS OF BULK AT MOST 1048576: true; the input reads as it did. -/
def lexCutsUptoRow : OpenClaim := { program := "ytdkmakdlojlacaadoor", sum := "73188be2b11937fbb3b7c6c31dc43750e8e2eb7720e316cec7c47c5981e02004", func := "stockpot/stockpotlaw14.LexCuts", spec := "lexCuts", inPlace := ["internal/bytealg.IndexByteString", "internal/bytealg.IndexString"], unfollowed := true, recurses := true, named := ["stockpot/lex.words", "internal/bytealg.MaxLen", "stockpot/lex.signs"], apart := false, laid := [("stockpot/lex.words", laid_stockpot_lex_words), ("stockpot/lex.signs", laid_stockpot_lex_signs)], narrowed := true }
def LexCutsUptoSaid : Prop := lexCutsUptoRow.holds Tryd.pinned (OpenSpec.upto lexCutsSpec)

end Rows
end Go.Proofs.YtdkmakdlojlacaaDoor
