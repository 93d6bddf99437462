/-
  No cell of these rows narrows 'for every input' (looked for: loops, veiled, ifaces, maps, wideKeys, modest, calm, conditions, laid).
  DERIVED. THE GIVEN ROWS OF THIS SEAT. 5 by the template 'for every input the law returns true; each argument reads behind the call as it read before'; 0 by the template 'total and deterministic' (their statements: YtlffmcadchbheaaTotals.lean).
  GIVEN WITH THE SEED: the statements are not yours to turn. If you find one false, say at which input.
  Laid BY PROGRAM, IN A SANDBOX (cutbox-rows.mjs): the forced cells as the released guide's own fill.sh prints them over the translation 97cec136b1991347… (all of the seat's roots in one cut). By AI agents, Wed Nov 11 2026. No macro, syntax, notation, axiom, sorry.
-/
import Derived.Test.YtlffmcadchbheaaChecked
import GoSem.Claim
import GoSem.ClaimJoined
import GoSem.ClaimMapViews
import Derived.JoinedTies
import Derived.KernelRfl
namespace Go.Proofs.Ytlffmcadchbheaa
/- THE CELL 'sum', in the pinned program and in every row, IS THE sha256 OF THE DUMP (.gsa) THAT YtlffmcadchbheaaProg.lean LOADS. Nothing in Lean hashes anything: it is a label: what it is worth is what the hold of that sum in a sandbox is worth. -/
noncomputable def Try.pinned : Pinned := { name := "ytlffmcadchbheaa", sum := "97cec136b1991347e1218e09c676b2394ceda883dcccaefedccfe47fcd77a6fc", checked := Try.checked }
namespace Rows
def none {H : Type} : Left H := { results := [], args := [] }

/-- 'stockpotlaw03.ObjectTells': WHATEVER THE INPUT: true; the input reads as it did. -/
def objectTellsSpec : ChangeSpec := { name := "objectTells", fn := fun _ => fun
  | [d1, d2, d3] => { results := [.lit (.bool true)], args := [d1, d2, d3] }
  | _ => none }
def objectTellsRow : OpenClaim := { program := "ytlffmcadchbheaa", sum := "97cec136b1991347e1218e09c676b2394ceda883dcccaefedccfe47fcd77a6fc", func := "stockpot/stockpotlaw03.ObjectTells", spec := "objectTells", unfollowed := true, recurses := true, apart := false }
def ObjectTellsSaid : Prop := objectTellsRow.holds Try.pinned (OpenSpec.ofChange objectTellsSpec)

/-- ITS FALSE NEIGHBOUR: 'it returns false'. Refute it at one input. -/
def objectTellsWrong : ChangeSpec := { name := "objectTells", fn := fun _ => fun
  | [d1, d2, d3] => { results := [.lit (.bool false)], args := [d1, d2, d3] }
  | _ => none }
def ObjectTellsWrongFalsely : Prop := objectTellsRow.holds Try.pinned (OpenSpec.ofChange objectTellsWrong)

/-- 'stockpotlaw03.ObjectPlays': WHATEVER THE INPUT: true; the input reads as it did. -/
def objectPlaysSpec : ChangeSpec := { name := "objectPlays", fn := fun _ => fun
  | [d1, d2] => { results := [.lit (.bool true)], args := [d1, d2] }
  | _ => none }
def objectPlaysRow : OpenClaim := { program := "ytlffmcadchbheaa", sum := "97cec136b1991347e1218e09c676b2394ceda883dcccaefedccfe47fcd77a6fc", func := "stockpot/stockpotlaw03.ObjectPlays", spec := "objectPlays", unfollowed := true, recurses := true, apart := false }
def ObjectPlaysSaid : Prop := objectPlaysRow.holds Try.pinned (OpenSpec.ofChange objectPlaysSpec)

/-- ITS FALSE NEIGHBOUR: 'it returns false'. Refute it at one input. -/
def objectPlaysWrong : ChangeSpec := { name := "objectPlays", fn := fun _ => fun
  | [d1, d2] => { results := [.lit (.bool false)], args := [d1, d2] }
  | _ => none }
def ObjectPlaysWrongFalsely : Prop := objectPlaysRow.holds Try.pinned (OpenSpec.ofChange objectPlaysWrong)

/-- 'stockpotlaw03.ObjectBack': WHATEVER THE INPUT: true; the input reads as it did. -/
def objectBackSpec : ChangeSpec := { name := "objectBack", fn := fun _ => fun
  | [d1, d2, d3] => { results := [.lit (.bool true)], args := [d1, d2, d3] }
  | _ => none }
def objectBackRow : OpenClaim := { program := "ytlffmcadchbheaa", sum := "97cec136b1991347e1218e09c676b2394ceda883dcccaefedccfe47fcd77a6fc", func := "stockpot/stockpotlaw03.ObjectBack", spec := "objectBack", unfollowed := true, recurses := true, apart := false }
def ObjectBackSaid : Prop := objectBackRow.holds Try.pinned (OpenSpec.ofChange objectBackSpec)

/-- ITS FALSE NEIGHBOUR: 'it returns false'. Refute it at one input. -/
def objectBackWrong : ChangeSpec := { name := "objectBack", fn := fun _ => fun
  | [d1, d2, d3] => { results := [.lit (.bool false)], args := [d1, d2, d3] }
  | _ => none }
def ObjectBackWrongFalsely : Prop := objectBackRow.holds Try.pinned (OpenSpec.ofChange objectBackWrong)

/-- 'stockpotlaw03.ObjectHeads': WHATEVER THE INPUT: true; the input reads as it did. -/
def objectHeadsSpec : ChangeSpec := { name := "objectHeads", fn := fun _ => fun
  | [d1, d2] => { results := [.lit (.bool true)], args := [d1, d2] }
  | _ => none }
def objectHeadsRow : OpenClaim := { program := "ytlffmcadchbheaa", sum := "97cec136b1991347e1218e09c676b2394ceda883dcccaefedccfe47fcd77a6fc", func := "stockpot/stockpotlaw03.ObjectHeads", spec := "objectHeads", unfollowed := true, recurses := true, apart := false }
def ObjectHeadsSaid : Prop := objectHeadsRow.holds Try.pinned (OpenSpec.ofChange objectHeadsSpec)

/-- ITS FALSE NEIGHBOUR: 'it returns false'. Refute it at one input. -/
def objectHeadsWrong : ChangeSpec := { name := "objectHeads", fn := fun _ => fun
  | [d1, d2] => { results := [.lit (.bool false)], args := [d1, d2] }
  | _ => none }
def ObjectHeadsWrongFalsely : Prop := objectHeadsRow.holds Try.pinned (OpenSpec.ofChange objectHeadsWrong)

/-- 'stockpotlaw03.ObjectOwn': WHATEVER THE INPUT: true; the input reads as it did. -/
def objectOwnSpec : ChangeSpec := { name := "objectOwn", fn := fun _ => fun
  | [d1, d2] => { results := [.lit (.bool true)], args := [d1, d2] }
  | _ => none }
def objectOwnRow : OpenClaim := { program := "ytlffmcadchbheaa", sum := "97cec136b1991347e1218e09c676b2394ceda883dcccaefedccfe47fcd77a6fc", func := "stockpot/stockpotlaw03.ObjectOwn", spec := "objectOwn", unfollowed := true, recurses := true, apart := false }
def ObjectOwnSaid : Prop := objectOwnRow.holds Try.pinned (OpenSpec.ofChange objectOwnSpec)

/-- ITS FALSE NEIGHBOUR: 'it returns false'. Refute it at one input. -/
def objectOwnWrong : ChangeSpec := { name := "objectOwn", fn := fun _ => fun
  | [d1, d2] => { results := [.lit (.bool false)], args := [d1, d2] }
  | _ => none }
def ObjectOwnWrongFalsely : Prop := objectOwnRow.holds Try.pinned (OpenSpec.ofChange objectOwnWrong)

/- THE SECOND FORM. 'bulk': how many values and letters a reading holds, each counted each time it is reached (what is shared counts as often as it is met; a slice's spare places count too). A statement '..UptoSaid' is the law's where the arguments, and the package variables that the reading takes, are together of bulk at most 1048576: NARROWER than '..Said'. Prove '..Said' where nothing that the law and all that it calls make is longer than what came in: it says more and counts as full. Else prove '..UptoSaid'. A law counts once. -/
mutual
def uptoBulk {H : Type} : DataW H → Nat
  | .lit (.string bytes) => bytes.length + 1
  | .lit _ => 1
  | .nil => 1
  | .ptr d => uptoBulk d + 1
  | .slice elems spare => uptoBulkAll elems + uptoBulkAll spare + 1
  | .agg parts => uptoBulkAll parts + 1
  | .iface _ d => uptoBulk d + 1
  | .map entries => uptoBulkEntries entries + 1
  | .held _ => 1
def uptoBulkAll {H : Type} : List (DataW H) → Nat
  | [] => 0
  | d :: r => uptoBulk d + uptoBulkAll r
def uptoBulkEntries {H : Type} : List (Lit × DataW H) → Nat
  | [] => 0
  | x :: r => uptoBulkEntry x + uptoBulkEntries r
def uptoBulkEntry {H : Type} : Lit × DataW H → Nat
  | (.string bytes, d) => bytes.length + uptoBulk d + 1
  | (_, d) => uptoBulk d + 1
 end
def uptoSmall : (H : Type) → List (DataW H) → Bool := fun _ ds => decide (uptoBulkAll ds ≤ 1048576)
def OpenSpec.upto (s : _root_.Go.ChangeSpec) : _root_.Go.OpenSpec := { _root_.Go.OpenSpec.ofChange s with cond := some uptoSmall }

/-- 'stockpotlaw03.ObjectTells', WHERE WHAT IT READS IS OF BULK AT MOST 1048576: true; the input reads as it did. -/
def objectTellsUptoRow : OpenClaim := { program := "ytlffmcadchbheaa", sum := "97cec136b1991347e1218e09c676b2394ceda883dcccaefedccfe47fcd77a6fc", func := "stockpot/stockpotlaw03.ObjectTells", spec := "objectTells", unfollowed := true, recurses := true, apart := false, narrowed := true }
def ObjectTellsUptoSaid : Prop := objectTellsUptoRow.holds Try.pinned (OpenSpec.upto objectTellsSpec)

/-- 'stockpotlaw03.ObjectPlays', WHERE WHAT IT READS IS OF BULK AT MOST 1048576: true; the input reads as it did. -/
def objectPlaysUptoRow : OpenClaim := { program := "ytlffmcadchbheaa", sum := "97cec136b1991347e1218e09c676b2394ceda883dcccaefedccfe47fcd77a6fc", func := "stockpot/stockpotlaw03.ObjectPlays", spec := "objectPlays", unfollowed := true, recurses := true, apart := false, narrowed := true }
def ObjectPlaysUptoSaid : Prop := objectPlaysUptoRow.holds Try.pinned (OpenSpec.upto objectPlaysSpec)

/-- 'stockpotlaw03.ObjectBack', WHERE WHAT IT READS IS OF BULK AT MOST 1048576: true; the input reads as it did. -/
def objectBackUptoRow : OpenClaim := { program := "ytlffmcadchbheaa", sum := "97cec136b1991347e1218e09c676b2394ceda883dcccaefedccfe47fcd77a6fc", func := "stockpot/stockpotlaw03.ObjectBack", spec := "objectBack", unfollowed := true, recurses := true, apart := false, narrowed := true }
def ObjectBackUptoSaid : Prop := objectBackUptoRow.holds Try.pinned (OpenSpec.upto objectBackSpec)

/-- 'stockpotlaw03.ObjectHeads', WHERE WHAT IT READS IS OF BULK AT MOST 1048576: true; the input reads as it did. -/
def objectHeadsUptoRow : OpenClaim := { program := "ytlffmcadchbheaa", sum := "97cec136b1991347e1218e09c676b2394ceda883dcccaefedccfe47fcd77a6fc", func := "stockpot/stockpotlaw03.ObjectHeads", spec := "objectHeads", unfollowed := true, recurses := true, apart := false, narrowed := true }
def ObjectHeadsUptoSaid : Prop := objectHeadsUptoRow.holds Try.pinned (OpenSpec.upto objectHeadsSpec)

/-- 'stockpotlaw03.ObjectOwn', WHERE WHAT IT READS IS OF BULK AT MOST 1048576: true; the input reads as it did. -/
def objectOwnUptoRow : OpenClaim := { program := "ytlffmcadchbheaa", sum := "97cec136b1991347e1218e09c676b2394ceda883dcccaefedccfe47fcd77a6fc", func := "stockpot/stockpotlaw03.ObjectOwn", spec := "objectOwn", unfollowed := true, recurses := true, apart := false, narrowed := true }
def ObjectOwnUptoSaid : Prop := objectOwnUptoRow.holds Try.pinned (OpenSpec.upto objectOwnSpec)

end Rows
end Go.Proofs.Ytlffmcadchbheaa
