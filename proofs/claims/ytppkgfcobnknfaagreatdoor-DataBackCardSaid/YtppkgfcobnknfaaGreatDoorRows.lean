/-
  NARROWER THAN 'FOR EVERY INPUT', by the rows' own cells (each row's printed sentence says how): DataBack: laid · DataShares: laid.
  DERIVED. THE GIVEN ROWS OF THIS SEAT. 2 by the template 'for every input the law returns true; each argument reads behind the call as it read before'; 0 by the template 'total and deterministic' (their statements: YtppkgfcobnknfaaGreatDoorTotals.lean).
  GIVEN WITH THE SEED: the statements are not yours to turn. If you find one false, say at which input.
  Laid BY PROGRAM, IN A SANDBOX (cutbox-rows.mjs): the forced cells as the released guide's own fill.sh prints them over the translation e79f36c0c4227b0b… (all of the seat's roots in one cut). By AI agents, Wed Nov 11 2026. No macro, syntax, notation, axiom, sorry.
-/
import Derived.Test.YtppkgfcobnknfaaGreatDoorChecked
import GoSem.Claim
import GoSem.ClaimJoined
import GoSem.ClaimMapViews
import Derived.JoinedTies
import Derived.KernelRfl
namespace Go.Proofs.YtppkgfcobnknfaaGreatDoor
/- THE CELL 'sum', in the pinned program and in every row, IS THE sha256 OF THE DUMP (.gsa) THAT YtppkgfcobnknfaaGreatDoorProg.lean LOADS. Nothing in Lean hashes anything: it is a label: what it is worth is what the hold of that sum in a sandbox is worth. -/
noncomputable def Tryz.pinned : Pinned := { name := "ytppkgfcobnknfaagreatdoor", sum := "e79f36c0c4227b0b908dfafa59823caf1b7d1099c17809c006522e4b0723749c", checked := Tryz.checked }
namespace Rows
def none {H : Type} : Left H := { results := [], args := [] }

/- WHAT THE LISTED PACKAGE-LEVEL VARIABLES READ AS WHEN THE CALL BEGINS. Each datum BY PROGRAM (the guide's laid-datum.mjs) off the statement by which the dump's own 'gosem.cut.vars' lays the variable. In a bare row this is a premise. The card (YtppkgfcobnknfaaGreatDoorCards.lean) ties it to the program's text. -/
def laid_stockpot_op_rows {H : Type} : DataW H := .agg [.agg [.lit (.string [105, 110, 116]), .agg [.lit (.int .i64 (-4611686018427387904)), .lit (.int .i64 4611686018427387903)], .agg [.lit (.int .i64 0), .lit (.int .i64 0)], .lit (.int .i64 0), .lit (.int .i64 1)], .agg [.lit (.string [115, 116, 114]), .agg [.lit (.int .i64 0), .lit (.int .i64 39)], .agg [.lit (.int .i64 0), .lit (.int .i64 0)], .lit (.int .i64 0), .lit (.int .i64 1)], .agg [.lit (.string [108, 111, 99, 97, 108]), .agg [.lit (.int .i64 0), .lit (.int .i64 59)], .agg [.lit (.int .i64 0), .lit (.int .i64 0)], .lit (.int .i64 0), .lit (.int .i64 1)], .agg [.lit (.string [115, 101, 116]), .agg [.lit (.int .i64 0), .lit (.int .i64 59)], .agg [.lit (.int .i64 0), .lit (.int .i64 0)], .lit (.int .i64 1), .lit (.int .i64 0)], .agg [.lit (.string [101, 110, 118]), .agg [.lit (.int .i64 0), .lit (.int .i64 29)], .agg [.lit (.int .i64 0), .lit (.int .i64 0)], .lit (.int .i64 0), .lit (.int .i64 1)], .agg [.lit (.string [115, 101, 108, 102]), .agg [.lit (.int .i64 0), .lit (.int .i64 0)], .agg [.lit (.int .i64 0), .lit (.int .i64 0)], .lit (.int .i64 0), .lit (.int .i64 1)], .agg [.lit (.string [99, 108, 111, 115, 101]), .agg [.lit (.int .i64 1), .lit (.int .i64 59)], .agg [.lit (.int .i64 0), .lit (.int .i64 30)], .lit (.int .i64 0), .lit (.int .i64 1)], .agg [.lit (.string [99, 97, 108, 108]), .agg [.lit (.int .i64 0), .lit (.int .i64 0)], .agg [.lit (.int .i64 0), .lit (.int .i64 0)], .lit (.int .i64 2), .lit (.int .i64 1)], .agg [.lit (.string [116, 97, 105, 108]), .agg [.lit (.int .i64 0), .lit (.int .i64 0)], .agg [.lit (.int .i64 0), .lit (.int .i64 0)], .lit (.int .i64 2), .lit (.int .i64 0)], .agg [.lit (.string [114, 101, 116]), .agg [.lit (.int .i64 0), .lit (.int .i64 0)], .agg [.lit (.int .i64 0), .lit (.int .i64 0)], .lit (.int .i64 1), .lit (.int .i64 0)], .agg [.lit (.string [106, 117, 109, 112]), .agg [.lit (.int .i64 0), .lit (.int .i64 599)], .agg [.lit (.int .i64 0), .lit (.int .i64 0)], .lit (.int .i64 0), .lit (.int .i64 0)], .agg [.lit (.string [106, 117, 109, 112, 122]), .agg [.lit (.int .i64 0), .lit (.int .i64 599)], .agg [.lit (.int .i64 0), .lit (.int .i64 0)], .lit (.int .i64 1), .lit (.int .i64 0)], .agg [.lit (.string [97, 100, 100]), .agg [.lit (.int .i64 0), .lit (.int .i64 0)], .agg [.lit (.int .i64 0), .lit (.int .i64 0)], .lit (.int .i64 2), .lit (.int .i64 1)], .agg [.lit (.string [115, 117, 98]), .agg [.lit (.int .i64 0), .lit (.int .i64 0)], .agg [.lit (.int .i64 0), .lit (.int .i64 0)], .lit (.int .i64 2), .lit (.int .i64 1)], .agg [.lit (.string [109, 117, 108]), .agg [.lit (.int .i64 0), .lit (.int .i64 0)], .agg [.lit (.int .i64 0), .lit (.int .i64 0)], .lit (.int .i64 2), .lit (.int .i64 1)], .agg [.lit (.string [100, 105, 118]), .agg [.lit (.int .i64 0), .lit (.int .i64 0)], .agg [.lit (.int .i64 0), .lit (.int .i64 0)], .lit (.int .i64 2), .lit (.int .i64 1)], .agg [.lit (.string [109, 111, 100]), .agg [.lit (.int .i64 0), .lit (.int .i64 0)], .agg [.lit (.int .i64 0), .lit (.int .i64 0)], .lit (.int .i64 2), .lit (.int .i64 1)], .agg [.lit (.string [101, 113]), .agg [.lit (.int .i64 0), .lit (.int .i64 0)], .agg [.lit (.int .i64 0), .lit (.int .i64 0)], .lit (.int .i64 2), .lit (.int .i64 1)], .agg [.lit (.string [108, 101, 115, 115]), .agg [.lit (.int .i64 0), .lit (.int .i64 0)], .agg [.lit (.int .i64 0), .lit (.int .i64 0)], .lit (.int .i64 2), .lit (.int .i64 1)], .agg [.lit (.string [98, 108, 111, 99, 107]), .agg [.lit (.int .i64 0), .lit (.int .i64 255)], .agg [.lit (.int .i64 1), .lit (.int .i64 8)], .lit (.int .i64 0), .lit (.int .i64 1)], .agg [.lit (.string [102, 105, 101, 108, 100]), .agg [.lit (.int .i64 0), .lit (.int .i64 7)], .agg [.lit (.int .i64 0), .lit (.int .i64 0)], .lit (.int .i64 1), .lit (.int .i64 1)], .agg [.lit (.string [105, 115, 105, 110, 116]), .agg [.lit (.int .i64 (-4611686018427387904)), .lit (.int .i64 4611686018427387903)], .agg [.lit (.int .i64 0), .lit (.int .i64 0)], .lit (.int .i64 1), .lit (.int .i64 1)], .agg [.lit (.string [105, 115, 116, 97, 103]), .agg [.lit (.int .i64 0), .lit (.int .i64 255)], .agg [.lit (.int .i64 0), .lit (.int .i64 0)], .lit (.int .i64 1), .lit (.int .i64 1)], .agg [.lit (.string [115, 116, 111, 114, 101]), .agg [.lit (.int .i64 0), .lit (.int .i64 0)], .agg [.lit (.int .i64 0), .lit (.int .i64 0)], .lit (.int .i64 2), .lit (.int .i64 1)], .agg [.lit (.string [97, 114, 114, 97, 121]), .agg [.lit (.int .i64 0), .lit (.int .i64 0)], .agg [.lit (.int .i64 0), .lit (.int .i64 0)], .lit (.int .i64 2), .lit (.int .i64 1)], .agg [.lit (.string [103, 101, 116]), .agg [.lit (.int .i64 0), .lit (.int .i64 0)], .agg [.lit (.int .i64 0), .lit (.int .i64 0)], .lit (.int .i64 2), .lit (.int .i64 1)], .agg [.lit (.string [112, 117, 116]), .agg [.lit (.int .i64 0), .lit (.int .i64 0)], .agg [.lit (.int .i64 0), .lit (.int .i64 0)], .lit (.int .i64 3), .lit (.int .i64 1)], .agg [.lit (.string [108, 101, 110]), .agg [.lit (.int .i64 0), .lit (.int .i64 0)], .agg [.lit (.int .i64 0), .lit (.int .i64 0)], .lit (.int .i64 1), .lit (.int .i64 1)], .agg [.lit (.string [99, 97, 116]), .agg [.lit (.int .i64 0), .lit (.int .i64 0)], .agg [.lit (.int .i64 0), .lit (.int .i64 0)], .lit (.int .i64 2), .lit (.int .i64 1)], .agg [.lit (.string [115, 105, 122, 101]), .agg [.lit (.int .i64 0), .lit (.int .i64 0)], .agg [.lit (.int .i64 0), .lit (.int .i64 0)], .lit (.int .i64 1), .lit (.int .i64 1)], .agg [.lit (.string [98, 121, 116, 101]), .agg [.lit (.int .i64 0), .lit (.int .i64 0)], .agg [.lit (.int .i64 0), .lit (.int .i64 0)], .lit (.int .i64 2), .lit (.int .i64 1)], .agg [.lit (.string [116, 101, 120, 116]), .agg [.lit (.int .i64 0), .lit (.int .i64 0)], .agg [.lit (.int .i64 0), .lit (.int .i64 0)], .lit (.int .i64 1), .lit (.int .i64 1)], .agg [.lit (.string [115, 97, 109, 101]), .agg [.lit (.int .i64 0), .lit (.int .i64 0)], .agg [.lit (.int .i64 0), .lit (.int .i64 0)], .lit (.int .i64 2), .lit (.int .i64 1)], .agg [.lit (.string [116, 114, 121]), .agg [.lit (.int .i64 0), .lit (.int .i64 599)], .agg [.lit (.int .i64 0), .lit (.int .i64 0)], .lit (.int .i64 0), .lit (.int .i64 0)], .agg [.lit (.string [117, 110, 116, 114, 121]), .agg [.lit (.int .i64 0), .lit (.int .i64 0)], .agg [.lit (.int .i64 0), .lit (.int .i64 0)], .lit (.int .i64 0), .lit (.int .i64 0)], .agg [.lit (.string [114, 97, 105, 115, 101]), .agg [.lit (.int .i64 0), .lit (.int .i64 0)], .agg [.lit (.int .i64 0), .lit (.int .i64 0)], .lit (.int .i64 1), .lit (.int .i64 0)], .agg [.lit (.string [104, 111, 115, 116]), .agg [.lit (.int .i64 0), .lit (.int .i64 3)], .agg [.lit (.int .i64 0), .lit (.int .i64 39)], .lit (.int .i64 0), .lit (.int .i64 1)], .agg [.lit (.string [112, 111, 112]), .agg [.lit (.int .i64 0), .lit (.int .i64 0)], .agg [.lit (.int .i64 0), .lit (.int .i64 0)], .lit (.int .i64 1), .lit (.int .i64 0)]]

/-- 'stockpotlaw10.DataBack': WHATEVER THE INPUT: true; the input reads as it did. -/
def dataBackSpec : ChangeSpec := { name := "dataBack", fn := fun _ => fun
  | [d1, d2] => { results := [.lit (.bool true)], args := [d1, d2] }
  | _ => none }
def dataBackRow : OpenClaim := { program := "ytppkgfcobnknfaagreatdoor", sum := "e79f36c0c4227b0b908dfafa59823caf1b7d1099c17809c006522e4b0723749c", func := "stockpot/stockpotlaw10.DataBack", spec := "dataBack", unfollowed := true, recurses := true, named := ["stockpot/op.rows"], apart := false, laid := [("stockpot/op.rows", laid_stockpot_op_rows)] }
def DataBackSaid : Prop := dataBackRow.holds Tryz.pinned (OpenSpec.ofChange dataBackSpec)

/-- ITS FALSE NEIGHBOUR: 'it returns false'. Refute it at one input. -/
def dataBackWrong : ChangeSpec := { name := "dataBack", fn := fun _ => fun
  | [d1, d2] => { results := [.lit (.bool false)], args := [d1, d2] }
  | _ => none }
def DataBackWrongFalsely : Prop := dataBackRow.holds Tryz.pinned (OpenSpec.ofChange dataBackWrong)

/-- 'stockpotlaw10.DataShares': WHATEVER THE INPUT: true; the input reads as it did. -/
def dataSharesSpec : ChangeSpec := { name := "dataShares", fn := fun _ => fun
  | [d] => { results := [.lit (.bool true)], args := [d] }
  | _ => none }
def dataSharesRow : OpenClaim := { program := "ytppkgfcobnknfaagreatdoor", sum := "e79f36c0c4227b0b908dfafa59823caf1b7d1099c17809c006522e4b0723749c", func := "stockpot/stockpotlaw10.DataShares", spec := "dataShares", unfollowed := true, recurses := true, named := ["stockpot/op.rows"], apart := false, laid := [("stockpot/op.rows", laid_stockpot_op_rows)] }
def DataSharesSaid : Prop := dataSharesRow.holds Tryz.pinned (OpenSpec.ofChange dataSharesSpec)

/-- ITS FALSE NEIGHBOUR: 'it returns false'. Refute it at one input. -/
def dataSharesWrong : ChangeSpec := { name := "dataShares", fn := fun _ => fun
  | [d] => { results := [.lit (.bool false)], args := [d] }
  | _ => none }
def DataSharesWrongFalsely : Prop := dataSharesRow.holds Tryz.pinned (OpenSpec.ofChange dataSharesWrong)

/- THE SECOND FORM. 'bulk': how many values and letters a reading holds, each counted each time it is reached (what is shared counts as often as it is met; a slice's spare places count too). A statement '..UptoSaid' is the law's where the arguments, and the package variables that the reading takes, are together of bulk at most 1048576: NARROWER than '..Said'. Prove '..Said' where nothing that the law and all that it calls make is longer than what came in: it says more and counts as full. Else prove '..UptoSaid'. A law counts once. -/
mutual
def uptoBulk {H : Type} : DataW H → Nat
  | .lit (.string bytes) => bytes.length + 1
  | .lit _ => 1
  | .nil => 1
  | .ptr d => uptoBulk d + 1
  | .slice elems spare => uptoBulkAll elems + uptoBulkAll spare + 1
  | .agg parts => uptoBulkAll parts + 1
  | .iface _ d => uptoBulk d + 1
  | .map entries => uptoBulkEntries entries + 1
  | .held _ => 1
def uptoBulkAll {H : Type} : List (DataW H) → Nat
  | [] => 0
  | d :: r => uptoBulk d + uptoBulkAll r
def uptoBulkEntries {H : Type} : List (Lit × DataW H) → Nat
  | [] => 0
  | x :: r => uptoBulkEntry x + uptoBulkEntries r
def uptoBulkEntry {H : Type} : Lit × DataW H → Nat
  | (.string bytes, d) => bytes.length + uptoBulk d + 1
  | (_, d) => uptoBulk d + 1
 end
def uptoSmall : (H : Type) → List (DataW H) → Bool := fun _ ds => decide (uptoBulkAll ds ≤ 1048576)
def OpenSpec.upto (s : _root_.Go.ChangeSpec) : _root_.Go.OpenSpec := { _root_.Go.OpenSpec.ofChange s with cond := some uptoSmall }

/-- 'stockpotlaw10.DataBack', WHERE WHAT IT READS IS OF BULK AT MOST 1048576: true; the input reads as it did. -/
def dataBackUptoRow : OpenClaim := { program := "ytppkgfcobnknfaagreatdoor", sum := "e79f36c0c4227b0b908dfafa59823caf1b7d1099c17809c006522e4b0723749c", func := "stockpot/stockpotlaw10.DataBack", spec := "dataBack", unfollowed := true, recurses := true, named := ["stockpot/op.rows"], apart := false, laid := [("stockpot/op.rows", laid_stockpot_op_rows)], narrowed := true }
def DataBackUptoSaid : Prop := dataBackUptoRow.holds Tryz.pinned (OpenSpec.upto dataBackSpec)

/-- 'stockpotlaw10.DataShares', WHERE WHAT IT READS IS OF BULK AT MOST 1048576: true; the input reads as it did. -/
def dataSharesUptoRow : OpenClaim := { program := "ytppkgfcobnknfaagreatdoor", sum := "e79f36c0c4227b0b908dfafa59823caf1b7d1099c17809c006522e4b0723749c", func := "stockpot/stockpotlaw10.DataShares", spec := "dataShares", unfollowed := true, recurses := true, named := ["stockpot/op.rows"], apart := false, laid := [("stockpot/op.rows", laid_stockpot_op_rows)], narrowed := true }
def DataSharesUptoSaid : Prop := dataSharesUptoRow.holds Tryz.pinned (OpenSpec.upto dataSharesSpec)

end Rows
end Go.Proofs.YtppkgfcobnknfaaGreatDoor
