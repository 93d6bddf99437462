/-
  NARROWER THAN 'FOR EVERY INPUT', by the rows' own cells (each row's printed sentence says how): FrameHandlers: laid · ArithLaws: laid · ArithTexts: laid · ArithWraps: laid · ArithOrder: laid.
  DERIVED. THE GIVEN ROWS OF THIS SEAT. 5 by the template 'for every input the law returns true; each argument reads behind the call as it read before'; 0 by the template 'total and deterministic' (their statements: YtfmedddjmcplnaaDoorTotals.lean).
  GIVEN WITH THE SEED: the statements are not yours to turn. If you find one false, say at which input.
  Laid BY PROGRAM, IN A SANDBOX (cutbox-rows.mjs): the forced cells as the released guide's own fill.sh prints them over the translation 6d8a897a0fdf0d35… (all of the seat's roots in one cut). By AI agents, Wed Nov 11 2026. No macro, syntax, notation, axiom, sorry.
-/
import Derived.Test.YtfmedddjmcplnaaDoorChecked
import GoSem.Claim
import GoSem.ClaimJoined
import GoSem.ClaimMapViews
import Derived.JoinedTies
import Derived.KernelRfl
namespace Go.Proofs.YtfmedddjmcplnaaDoor
/- THE CELL 'sum', in the pinned program and in every row, IS THE sha256 OF THE DUMP (.gsa) THAT YtfmedddjmcplnaaDoorProg.lean LOADS. Nothing in Lean hashes anything: it is a label: what it is worth is what the hold of that sum in a sandbox is worth. -/
noncomputable def Tryd.pinned : Pinned := { name := "ytfmedddjmcplnaadoor", sum := "6d8a897a0fdf0d3527fd32815e896b10ca4885eaa7e6b3a8e83c41e8f9ebb520", checked := Tryd.checked }
namespace Rows
def none {H : Type} : Left H := { results := [], args := [] }

/- WHAT THE LISTED PACKAGE-LEVEL VARIABLES READ AS WHEN THE CALL BEGINS. Each datum BY PROGRAM (the guide's laid-datum.mjs) off the statement by which the dump's own 'gosem.cut.vars' lays the variable. In a bare row this is a premise. The card (YtfmedddjmcplnaaDoorCards.lean) ties it to the program's text. -/
def laid_stockpot_op_rows {H : Type} : DataW H := .agg [.agg [.lit (.string [105, 110, 116]), .agg [.lit (.int .i64 (-4611686018427387904)), .lit (.int .i64 4611686018427387903)], .agg [.lit (.int .i64 0), .lit (.int .i64 0)], .lit (.int .i64 0), .lit (.int .i64 1)], .agg [.lit (.string [115, 116, 114]), .agg [.lit (.int .i64 0), .lit (.int .i64 39)], .agg [.lit (.int .i64 0), .lit (.int .i64 0)], .lit (.int .i64 0), .lit (.int .i64 1)], .agg [.lit (.string [108, 111, 99, 97, 108]), .agg [.lit (.int .i64 0), .lit (.int .i64 59)], .agg [.lit (.int .i64 0), .lit (.int .i64 0)], .lit (.int .i64 0), .lit (.int .i64 1)], .agg [.lit (.string [115, 101, 116]), .agg [.lit (.int .i64 0), .lit (.int .i64 59)], .agg [.lit (.int .i64 0), .lit (.int .i64 0)], .lit (.int .i64 1), .lit (.int .i64 0)], .agg [.lit (.string [101, 110, 118]), .agg [.lit (.int .i64 0), .lit (.int .i64 29)], .agg [.lit (.int .i64 0), .lit (.int .i64 0)], .lit (.int .i64 0), .lit (.int .i64 1)], .agg [.lit (.string [115, 101, 108, 102]), .agg [.lit (.int .i64 0), .lit (.int .i64 0)], .agg [.lit (.int .i64 0), .lit (.int .i64 0)], .lit (.int .i64 0), .lit (.int .i64 1)], .agg [.lit (.string [99, 108, 111, 115, 101]), .agg [.lit (.int .i64 1), .lit (.int .i64 59)], .agg [.lit (.int .i64 0), .lit (.int .i64 30)], .lit (.int .i64 0), .lit (.int .i64 1)], .agg [.lit (.string [99, 97, 108, 108]), .agg [.lit (.int .i64 0), .lit (.int .i64 0)], .agg [.lit (.int .i64 0), .lit (.int .i64 0)], .lit (.int .i64 2), .lit (.int .i64 1)], .agg [.lit (.string [116, 97, 105, 108]), .agg [.lit (.int .i64 0), .lit (.int .i64 0)], .agg [.lit (.int .i64 0), .lit (.int .i64 0)], .lit (.int .i64 2), .lit (.int .i64 0)], .agg [.lit (.string [114, 101, 116]), .agg [.lit (.int .i64 0), .lit (.int .i64 0)], .agg [.lit (.int .i64 0), .lit (.int .i64 0)], .lit (.int .i64 1), .lit (.int .i64 0)], .agg [.lit (.string [106, 117, 109, 112]), .agg [.lit (.int .i64 0), .lit (.int .i64 599)], .agg [.lit (.int .i64 0), .lit (.int .i64 0)], .lit (.int .i64 0), .lit (.int .i64 0)], .agg [.lit (.string [106, 117, 109, 112, 122]), .agg [.lit (.int .i64 0), .lit (.int .i64 599)], .agg [.lit (.int .i64 0), .lit (.int .i64 0)], .lit (.int .i64 1), .lit (.int .i64 0)], .agg [.lit (.string [97, 100, 100]), .agg [.lit (.int .i64 0), .lit (.int .i64 0)], .agg [.lit (.int .i64 0), .lit (.int .i64 0)], .lit (.int .i64 2), .lit (.int .i64 1)], .agg [.lit (.string [115, 117, 98]), .agg [.lit (.int .i64 0), .lit (.int .i64 0)], .agg [.lit (.int .i64 0), .lit (.int .i64 0)], .lit (.int .i64 2), .lit (.int .i64 1)], .agg [.lit (.string [109, 117, 108]), .agg [.lit (.int .i64 0), .lit (.int .i64 0)], .agg [.lit (.int .i64 0), .lit (.int .i64 0)], .lit (.int .i64 2), .lit (.int .i64 1)], .agg [.lit (.string [100, 105, 118]), .agg [.lit (.int .i64 0), .lit (.int .i64 0)], .agg [.lit (.int .i64 0), .lit (.int .i64 0)], .lit (.int .i64 2), .lit (.int .i64 1)], .agg [.lit (.string [109, 111, 100]), .agg [.lit (.int .i64 0), .lit (.int .i64 0)], .agg [.lit (.int .i64 0), .lit (.int .i64 0)], .lit (.int .i64 2), .lit (.int .i64 1)], .agg [.lit (.string [101, 113]), .agg [.lit (.int .i64 0), .lit (.int .i64 0)], .agg [.lit (.int .i64 0), .lit (.int .i64 0)], .lit (.int .i64 2), .lit (.int .i64 1)], .agg [.lit (.string [108, 101, 115, 115]), .agg [.lit (.int .i64 0), .lit (.int .i64 0)], .agg [.lit (.int .i64 0), .lit (.int .i64 0)], .lit (.int .i64 2), .lit (.int .i64 1)], .agg [.lit (.string [98, 108, 111, 99, 107]), .agg [.lit (.int .i64 0), .lit (.int .i64 255)], .agg [.lit (.int .i64 1), .lit (.int .i64 8)], .lit (.int .i64 0), .lit (.int .i64 1)], .agg [.lit (.string [102, 105, 101, 108, 100]), .agg [.lit (.int .i64 0), .lit (.int .i64 7)], .agg [.lit (.int .i64 0), .lit (.int .i64 0)], .lit (.int .i64 1), .lit (.int .i64 1)], .agg [.lit (.string [105, 115, 105, 110, 116]), .agg [.lit (.int .i64 (-4611686018427387904)), .lit (.int .i64 4611686018427387903)], .agg [.lit (.int .i64 0), .lit (.int .i64 0)], .lit (.int .i64 1), .lit (.int .i64 1)], .agg [.lit (.string [105, 115, 116, 97, 103]), .agg [.lit (.int .i64 0), .lit (.int .i64 255)], .agg [.lit (.int .i64 0), .lit (.int .i64 0)], .lit (.int .i64 1), .lit (.int .i64 1)], .agg [.lit (.string [115, 116, 111, 114, 101]), .agg [.lit (.int .i64 0), .lit (.int .i64 0)], .agg [.lit (.int .i64 0), .lit (.int .i64 0)], .lit (.int .i64 2), .lit (.int .i64 1)], .agg [.lit (.string [97, 114, 114, 97, 121]), .agg [.lit (.int .i64 0), .lit (.int .i64 0)], .agg [.lit (.int .i64 0), .lit (.int .i64 0)], .lit (.int .i64 2), .lit (.int .i64 1)], .agg [.lit (.string [103, 101, 116]), .agg [.lit (.int .i64 0), .lit (.int .i64 0)], .agg [.lit (.int .i64 0), .lit (.int .i64 0)], .lit (.int .i64 2), .lit (.int .i64 1)], .agg [.lit (.string [112, 117, 116]), .agg [.lit (.int .i64 0), .lit (.int .i64 0)], .agg [.lit (.int .i64 0), .lit (.int .i64 0)], .lit (.int .i64 3), .lit (.int .i64 1)], .agg [.lit (.string [108, 101, 110]), .agg [.lit (.int .i64 0), .lit (.int .i64 0)], .agg [.lit (.int .i64 0), .lit (.int .i64 0)], .lit (.int .i64 1), .lit (.int .i64 1)], .agg [.lit (.string [99, 97, 116]), .agg [.lit (.int .i64 0), .lit (.int .i64 0)], .agg [.lit (.int .i64 0), .lit (.int .i64 0)], .lit (.int .i64 2), .lit (.int .i64 1)], .agg [.lit (.string [115, 105, 122, 101]), .agg [.lit (.int .i64 0), .lit (.int .i64 0)], .agg [.lit (.int .i64 0), .lit (.int .i64 0)], .lit (.int .i64 1), .lit (.int .i64 1)], .agg [.lit (.string [98, 121, 116, 101]), .agg [.lit (.int .i64 0), .lit (.int .i64 0)], .agg [.lit (.int .i64 0), .lit (.int .i64 0)], .lit (.int .i64 2), .lit (.int .i64 1)], .agg [.lit (.string [116, 101, 120, 116]), .agg [.lit (.int .i64 0), .lit (.int .i64 0)], .agg [.lit (.int .i64 0), .lit (.int .i64 0)], .lit (.int .i64 1), .lit (.int .i64 1)], .agg [.lit (.string [115, 97, 109, 101]), .agg [.lit (.int .i64 0), .lit (.int .i64 0)], .agg [.lit (.int .i64 0), .lit (.int .i64 0)], .lit (.int .i64 2), .lit (.int .i64 1)], .agg [.lit (.string [116, 114, 121]), .agg [.lit (.int .i64 0), .lit (.int .i64 599)], .agg [.lit (.int .i64 0), .lit (.int .i64 0)], .lit (.int .i64 0), .lit (.int .i64 0)], .agg [.lit (.string [117, 110, 116, 114, 121]), .agg [.lit (.int .i64 0), .lit (.int .i64 0)], .agg [.lit (.int .i64 0), .lit (.int .i64 0)], .lit (.int .i64 0), .lit (.int .i64 0)], .agg [.lit (.string [114, 97, 105, 115, 101]), .agg [.lit (.int .i64 0), .lit (.int .i64 0)], .agg [.lit (.int .i64 0), .lit (.int .i64 0)], .lit (.int .i64 1), .lit (.int .i64 0)], .agg [.lit (.string [104, 111, 115, 116]), .agg [.lit (.int .i64 0), .lit (.int .i64 3)], .agg [.lit (.int .i64 0), .lit (.int .i64 39)], .lit (.int .i64 0), .lit (.int .i64 1)], .agg [.lit (.string [112, 111, 112]), .agg [.lit (.int .i64 0), .lit (.int .i64 0)], .agg [.lit (.int .i64 0), .lit (.int .i64 0)], .lit (.int .i64 1), .lit (.int .i64 0)]]
def laid_stockpot_frame_nought {H : Type} : DataW H := .agg [.lit (.int .u64 1)]
def laid_math_bits_deBruijn32tab {H : Type} : DataW H := .agg [.lit (.int .u8 0), .lit (.int .u8 1), .lit (.int .u8 28), .lit (.int .u8 2), .lit (.int .u8 29), .lit (.int .u8 14), .lit (.int .u8 24), .lit (.int .u8 3), .lit (.int .u8 30), .lit (.int .u8 22), .lit (.int .u8 20), .lit (.int .u8 15), .lit (.int .u8 25), .lit (.int .u8 17), .lit (.int .u8 4), .lit (.int .u8 8), .lit (.int .u8 31), .lit (.int .u8 27), .lit (.int .u8 13), .lit (.int .u8 23), .lit (.int .u8 21), .lit (.int .u8 19), .lit (.int .u8 16), .lit (.int .u8 7), .lit (.int .u8 26), .lit (.int .u8 12), .lit (.int .u8 18), .lit (.int .u8 6), .lit (.int .u8 11), .lit (.int .u8 5), .lit (.int .u8 10), .lit (.int .u8 9)]
def laid_math_bits_deBruijn64tab {H : Type} : DataW H := .agg [.lit (.int .u8 0), .lit (.int .u8 1), .lit (.int .u8 56), .lit (.int .u8 2), .lit (.int .u8 57), .lit (.int .u8 49), .lit (.int .u8 28), .lit (.int .u8 3), .lit (.int .u8 61), .lit (.int .u8 58), .lit (.int .u8 42), .lit (.int .u8 50), .lit (.int .u8 38), .lit (.int .u8 29), .lit (.int .u8 17), .lit (.int .u8 4), .lit (.int .u8 62), .lit (.int .u8 47), .lit (.int .u8 59), .lit (.int .u8 36), .lit (.int .u8 45), .lit (.int .u8 43), .lit (.int .u8 51), .lit (.int .u8 22), .lit (.int .u8 53), .lit (.int .u8 39), .lit (.int .u8 33), .lit (.int .u8 30), .lit (.int .u8 24), .lit (.int .u8 18), .lit (.int .u8 12), .lit (.int .u8 5), .lit (.int .u8 63), .lit (.int .u8 55), .lit (.int .u8 48), .lit (.int .u8 27), .lit (.int .u8 60), .lit (.int .u8 41), .lit (.int .u8 37), .lit (.int .u8 16), .lit (.int .u8 46), .lit (.int .u8 35), .lit (.int .u8 44), .lit (.int .u8 21), .lit (.int .u8 52), .lit (.int .u8 32), .lit (.int .u8 23), .lit (.int .u8 11), .lit (.int .u8 54), .lit (.int .u8 26), .lit (.int .u8 40), .lit (.int .u8 15), .lit (.int .u8 34), .lit (.int .u8 20), .lit (.int .u8 31), .lit (.int .u8 10), .lit (.int .u8 25), .lit (.int .u8 14), .lit (.int .u8 19), .lit (.int .u8 9), .lit (.int .u8 13), .lit (.int .u8 8), .lit (.int .u8 7), .lit (.int .u8 6)]
def laid_internal_strconv_uint64pow10 {H : Type} : DataW H := .agg [.lit (.int .u64 1), .lit (.int .u64 10), .lit (.int .u64 100), .lit (.int .u64 1000), .lit (.int .u64 10000), .lit (.int .u64 100000), .lit (.int .u64 1000000), .lit (.int .u64 10000000), .lit (.int .u64 100000000), .lit (.int .u64 1000000000), .lit (.int .u64 10000000000), .lit (.int .u64 100000000000), .lit (.int .u64 1000000000000), .lit (.int .u64 10000000000000), .lit (.int .u64 100000000000000), .lit (.int .u64 1000000000000000), .lit (.int .u64 10000000000000000), .lit (.int .u64 100000000000000000), .lit (.int .u64 1000000000000000000), .lit (.int .u64 10000000000000000000)]
def laid_stockpot_arith_kinds {H : Type} : DataW H := .agg [.lit (.int .u8 0), .lit (.int .u8 0), .lit (.int .u8 0), .lit (.int .u8 0), .lit (.int .u8 0), .lit (.int .u8 0), .lit (.int .u8 0), .lit (.int .u8 0), .lit (.int .u8 0), .lit (.int .u8 0), .lit (.int .u8 0), .lit (.int .u8 0), .lit (.int .u8 43), .lit (.int .u8 45), .lit (.int .u8 42), .lit (.int .u8 47), .lit (.int .u8 37), .lit (.int .u8 61), .lit (.int .u8 60), .lit (.int .u8 0), .lit (.int .u8 0), .lit (.int .u8 0), .lit (.int .u8 0), .lit (.int .u8 0), .lit (.int .u8 0), .lit (.int .u8 0), .lit (.int .u8 0), .lit (.int .u8 0), .lit (.int .u8 0), .lit (.int .u8 0), .lit (.int .u8 0), .lit (.int .u8 0), .lit (.int .u8 0), .lit (.int .u8 0), .lit (.int .u8 0), .lit (.int .u8 0), .lit (.int .u8 0), .lit (.int .u8 0)]

/-- 'stockpotlaw11.FrameHandlers': WHATEVER THE INPUT: true; the input reads as it did. -/
def frameHandlersSpec : ChangeSpec := { name := "frameHandlers", fn := fun _ => fun
  | [d1, d2] => { results := [.lit (.bool true)], args := [d1, d2] }
  | _ => none }
def frameHandlersRow : OpenClaim := { program := "ytfmedddjmcplnaadoor", sum := "6d8a897a0fdf0d3527fd32815e896b10ca4885eaa7e6b3a8e83c41e8f9ebb520", func := "stockpot/stockpotlaw11.FrameHandlers", spec := "frameHandlers", named := ["stockpot/frame.nought", "stockpot/op.rows"], apart := false, laid := [("stockpot/op.rows", laid_stockpot_op_rows), ("stockpot/frame.nought", laid_stockpot_frame_nought)] }
def FrameHandlersSaid : Prop := frameHandlersRow.holds Tryd.pinned (OpenSpec.ofChange frameHandlersSpec)

/-- ITS FALSE NEIGHBOUR: 'it returns false'. Refute it at one input. -/
def frameHandlersWrong : ChangeSpec := { name := "frameHandlers", fn := fun _ => fun
  | [d1, d2] => { results := [.lit (.bool false)], args := [d1, d2] }
  | _ => none }
def FrameHandlersWrongFalsely : Prop := frameHandlersRow.holds Tryd.pinned (OpenSpec.ofChange frameHandlersWrong)

/-- 'stockpotlaw09.ArithLaws': WHATEVER THE INPUT: true; the input reads as it did. -/
def arithLawsSpec : ChangeSpec := { name := "arithLaws", fn := fun _ => fun
  | [d1, d2] => { results := [.lit (.bool true)], args := [d1, d2] }
  | _ => none }
def arithLawsRow : OpenClaim := { program := "ytfmedddjmcplnaadoor", sum := "6d8a897a0fdf0d3527fd32815e896b10ca4885eaa7e6b3a8e83c41e8f9ebb520", func := "stockpot/stockpotlaw09.ArithLaws", spec := "arithLaws", named := ["stockpot/arith.kinds", "internal/strconv.uint64pow10", "math/bits.deBruijn32tab", "math/bits.deBruijn64tab"], apart := false, laid := [("math/bits.deBruijn32tab", laid_math_bits_deBruijn32tab), ("math/bits.deBruijn64tab", laid_math_bits_deBruijn64tab), ("internal/strconv.uint64pow10", laid_internal_strconv_uint64pow10), ("stockpot/arith.kinds", laid_stockpot_arith_kinds)] }
def ArithLawsSaid : Prop := arithLawsRow.holds Tryd.pinned (OpenSpec.ofChange arithLawsSpec)

/-- ITS FALSE NEIGHBOUR: 'it returns false'. Refute it at one input. -/
def arithLawsWrong : ChangeSpec := { name := "arithLaws", fn := fun _ => fun
  | [d1, d2] => { results := [.lit (.bool false)], args := [d1, d2] }
  | _ => none }
def ArithLawsWrongFalsely : Prop := arithLawsRow.holds Tryd.pinned (OpenSpec.ofChange arithLawsWrong)

/-- 'stockpotlaw09.ArithTexts': WHATEVER THE INPUT: true; the input reads as it did. -/
def arithTextsSpec : ChangeSpec := { name := "arithTexts", fn := fun _ => fun
  | [d1, d2] => { results := [.lit (.bool true)], args := [d1, d2] }
  | _ => none }
def arithTextsRow : OpenClaim := { program := "ytfmedddjmcplnaadoor", sum := "6d8a897a0fdf0d3527fd32815e896b10ca4885eaa7e6b3a8e83c41e8f9ebb520", func := "stockpot/stockpotlaw09.ArithTexts", spec := "arithTexts", named := ["internal/strconv.uint64pow10", "math/bits.deBruijn32tab", "math/bits.deBruijn64tab", "stockpot/arith.kinds"], apart := false, laid := [("math/bits.deBruijn32tab", laid_math_bits_deBruijn32tab), ("math/bits.deBruijn64tab", laid_math_bits_deBruijn64tab), ("internal/strconv.uint64pow10", laid_internal_strconv_uint64pow10), ("stockpot/arith.kinds", laid_stockpot_arith_kinds)] }
def ArithTextsSaid : Prop := arithTextsRow.holds Tryd.pinned (OpenSpec.ofChange arithTextsSpec)

/-- ITS FALSE NEIGHBOUR: 'it returns false'. Refute it at one input. -/
def arithTextsWrong : ChangeSpec := { name := "arithTexts", fn := fun _ => fun
  | [d1, d2] => { results := [.lit (.bool false)], args := [d1, d2] }
  | _ => none }
def ArithTextsWrongFalsely : Prop := arithTextsRow.holds Tryd.pinned (OpenSpec.ofChange arithTextsWrong)

/-- 'stockpotlaw09.ArithWraps': WHATEVER THE INPUT: true; the input reads as it did. -/
def arithWrapsSpec : ChangeSpec := { name := "arithWraps", fn := fun _ => fun
  | [d1, d2] => { results := [.lit (.bool true)], args := [d1, d2] }
  | _ => none }
def arithWrapsRow : OpenClaim := { program := "ytfmedddjmcplnaadoor", sum := "6d8a897a0fdf0d3527fd32815e896b10ca4885eaa7e6b3a8e83c41e8f9ebb520", func := "stockpot/stockpotlaw09.ArithWraps", spec := "arithWraps", named := ["stockpot/arith.kinds", "internal/strconv.uint64pow10", "math/bits.deBruijn32tab", "math/bits.deBruijn64tab"], apart := false, laid := [("math/bits.deBruijn32tab", laid_math_bits_deBruijn32tab), ("math/bits.deBruijn64tab", laid_math_bits_deBruijn64tab), ("internal/strconv.uint64pow10", laid_internal_strconv_uint64pow10), ("stockpot/arith.kinds", laid_stockpot_arith_kinds)] }
def ArithWrapsSaid : Prop := arithWrapsRow.holds Tryd.pinned (OpenSpec.ofChange arithWrapsSpec)

/-- ITS FALSE NEIGHBOUR: 'it returns false'. Refute it at one input. -/
def arithWrapsWrong : ChangeSpec := { name := "arithWraps", fn := fun _ => fun
  | [d1, d2] => { results := [.lit (.bool false)], args := [d1, d2] }
  | _ => none }
def ArithWrapsWrongFalsely : Prop := arithWrapsRow.holds Tryd.pinned (OpenSpec.ofChange arithWrapsWrong)

/-- 'stockpotlaw09.ArithOrder': WHATEVER THE INPUT: true; the input reads as it did. -/
def arithOrderSpec : ChangeSpec := { name := "arithOrder", fn := fun _ => fun
  | [d1, d2, d3] => { results := [.lit (.bool true)], args := [d1, d2, d3] }
  | _ => none }
def arithOrderRow : OpenClaim := { program := "ytfmedddjmcplnaadoor", sum := "6d8a897a0fdf0d3527fd32815e896b10ca4885eaa7e6b3a8e83c41e8f9ebb520", func := "stockpot/stockpotlaw09.ArithOrder", spec := "arithOrder", named := ["stockpot/arith.kinds", "internal/strconv.uint64pow10", "math/bits.deBruijn32tab", "math/bits.deBruijn64tab"], apart := false, laid := [("math/bits.deBruijn32tab", laid_math_bits_deBruijn32tab), ("math/bits.deBruijn64tab", laid_math_bits_deBruijn64tab), ("internal/strconv.uint64pow10", laid_internal_strconv_uint64pow10), ("stockpot/arith.kinds", laid_stockpot_arith_kinds)] }
def ArithOrderSaid : Prop := arithOrderRow.holds Tryd.pinned (OpenSpec.ofChange arithOrderSpec)

/-- ITS FALSE NEIGHBOUR: 'it returns false'. Refute it at one input. -/
def arithOrderWrong : ChangeSpec := { name := "arithOrder", fn := fun _ => fun
  | [d1, d2, d3] => { results := [.lit (.bool false)], args := [d1, d2, d3] }
  | _ => none }
def ArithOrderWrongFalsely : Prop := arithOrderRow.holds Tryd.pinned (OpenSpec.ofChange arithOrderWrong)

/- THE SECOND FORM. 'bulk': how many values and letters a reading holds, each counted each time it is reached (what is shared counts as often as it is met; a slice's spare places count too). A statement '..UptoSaid' is the law's where the arguments, and the package variables that the reading takes, are together of bulk at most 1048576: NARROWER than '..Said'. Prove '..Said' where nothing that the law and all that it calls make is longer than what came in: it says more and counts as full. Else prove '..UptoSaid'. A law counts once. -/
mutual
def uptoBulk {H : Type} : DataW H → Nat
  | .lit (.string bytes) => bytes.length + 1
  | .lit _ => 1
  | .nil => 1
  | .ptr d => uptoBulk d + 1
  | .slice elems spare => uptoBulkAll elems + uptoBulkAll spare + 1
  | .agg parts => uptoBulkAll parts + 1
  | .iface _ d => uptoBulk d + 1
  | .map entries => uptoBulkEntries entries + 1
  | .held _ => 1
def uptoBulkAll {H : Type} : List (DataW H) → Nat
  | [] => 0
  | d :: r => uptoBulk d + uptoBulkAll r
def uptoBulkEntries {H : Type} : List (Lit × DataW H) → Nat
  | [] => 0
  | x :: r => uptoBulkEntry x + uptoBulkEntries r
def uptoBulkEntry {H : Type} : Lit × DataW H → Nat
  | (.string bytes, d) => bytes.length + uptoBulk d + 1
  | (_, d) => uptoBulk d + 1
 end
def uptoSmall : (H : Type) → List (DataW H) → Bool := fun _ ds => decide (uptoBulkAll ds ≤ 1048576)
def OpenSpec.upto (s : _root_.Go.ChangeSpec) : _root_.Go.OpenSpec := { _root_.Go.OpenSpec.ofChange s with cond := some uptoSmall }

/-- 'stockpotlaw11.FrameHandlers', WHERE WHAT IT READS IS OF BULK AT MOST 1048576: true; the input reads as it did. -/
def frameHandlersUptoRow : OpenClaim := { program := "ytfmedddjmcplnaadoor", sum := "6d8a897a0fdf0d3527fd32815e896b10ca4885eaa7e6b3a8e83c41e8f9ebb520", func := "stockpot/stockpotlaw11.FrameHandlers", spec := "frameHandlers", named := ["stockpot/frame.nought", "stockpot/op.rows"], apart := false, laid := [("stockpot/op.rows", laid_stockpot_op_rows), ("stockpot/frame.nought", laid_stockpot_frame_nought)], narrowed := true }
def FrameHandlersUptoSaid : Prop := frameHandlersUptoRow.holds Tryd.pinned (OpenSpec.upto frameHandlersSpec)

/-- 'stockpotlaw09.ArithLaws', WHERE WHAT IT READS IS OF BULK AT MOST 1048576: true; the input reads as it did. -/
def arithLawsUptoRow : OpenClaim := { program := "ytfmedddjmcplnaadoor", sum := "6d8a897a0fdf0d3527fd32815e896b10ca4885eaa7e6b3a8e83c41e8f9ebb520", func := "stockpot/stockpotlaw09.ArithLaws", spec := "arithLaws", named := ["stockpot/arith.kinds", "internal/strconv.uint64pow10", "math/bits.deBruijn32tab", "math/bits.deBruijn64tab"], apart := false, laid := [("math/bits.deBruijn32tab", laid_math_bits_deBruijn32tab), ("math/bits.deBruijn64tab", laid_math_bits_deBruijn64tab), ("internal/strconv.uint64pow10", laid_internal_strconv_uint64pow10), ("stockpot/arith.kinds", laid_stockpot_arith_kinds)], narrowed := true }
def ArithLawsUptoSaid : Prop := arithLawsUptoRow.holds Tryd.pinned (OpenSpec.upto arithLawsSpec)

/-- 'stockpotlaw09.ArithTexts', WHERE WHAT IT READS IS OF BULK AT MOST 1048576: true; the input reads as it did. -/
def arithTextsUptoRow : OpenClaim := { program := "ytfmedddjmcplnaadoor", sum := "6d8a897a0fdf0d3527fd32815e896b10ca4885eaa7e6b3a8e83c41e8f9ebb520", func := "stockpot/stockpotlaw09.ArithTexts", spec := "arithTexts", named := ["internal/strconv.uint64pow10", "math/bits.deBruijn32tab", "math/bits.deBruijn64tab", "stockpot/arith.kinds"], apart := false, laid := [("math/bits.deBruijn32tab", laid_math_bits_deBruijn32tab), ("math/bits.deBruijn64tab", laid_math_bits_deBruijn64tab), ("internal/strconv.uint64pow10", laid_internal_strconv_uint64pow10), ("stockpot/arith.kinds", laid_stockpot_arith_kinds)], narrowed := true }
def ArithTextsUptoSaid : Prop := arithTextsUptoRow.holds Tryd.pinned (OpenSpec.upto arithTextsSpec)

/-- 'stockpotlaw09.ArithWraps', WHERE WHAT IT READS IS OF BULK AT MOST 1048576: true; the input reads as it did. -/
def arithWrapsUptoRow : OpenClaim := { program := "ytfmedddjmcplnaadoor", sum := "6d8a897a0fdf0d3527fd32815e896b10ca4885eaa7e6b3a8e83c41e8f9ebb520", func := "stockpot/stockpotlaw09.ArithWraps", spec := "arithWraps", named := ["stockpot/arith.kinds", "internal/strconv.uint64pow10", "math/bits.deBruijn32tab", "math/bits.deBruijn64tab"], apart := false, laid := [("math/bits.deBruijn32tab", laid_math_bits_deBruijn32tab), ("math/bits.deBruijn64tab", laid_math_bits_deBruijn64tab), ("internal/strconv.uint64pow10", laid_internal_strconv_uint64pow10), ("stockpot/arith.kinds", laid_stockpot_arith_kinds)], narrowed := true }
def ArithWrapsUptoSaid : Prop := arithWrapsUptoRow.holds Tryd.pinned (OpenSpec.upto arithWrapsSpec)

/-- 'stockpotlaw09.ArithOrder', WHERE WHAT IT READS IS OF BULK AT MOST 1048576: true; the input reads as it did. -/
def arithOrderUptoRow : OpenClaim := { program := "ytfmedddjmcplnaadoor", sum := "6d8a897a0fdf0d3527fd32815e896b10ca4885eaa7e6b3a8e83c41e8f9ebb520", func := "stockpot/stockpotlaw09.ArithOrder", spec := "arithOrder", named := ["stockpot/arith.kinds", "internal/strconv.uint64pow10", "math/bits.deBruijn32tab", "math/bits.deBruijn64tab"], apart := false, laid := [("math/bits.deBruijn32tab", laid_math_bits_deBruijn32tab), ("math/bits.deBruijn64tab", laid_math_bits_deBruijn64tab), ("internal/strconv.uint64pow10", laid_internal_strconv_uint64pow10), ("stockpot/arith.kinds", laid_stockpot_arith_kinds)], narrowed := true }
def ArithOrderUptoSaid : Prop := arithOrderUptoRow.holds Tryd.pinned (OpenSpec.upto arithOrderSpec)

end Rows
end Go.Proofs.YtfmedddjmcplnaaDoor
