/-
  No cell of these rows narrows 'for every input' (looked for: loops, veiled, ifaces, maps, wideKeys, modest, calm, conditions, laid).
  DERIVED. THE GIVEN ROWS OF THIS SEAT. 3 by the template 'for every input the law returns true; each argument reads behind the call as it read before'; 0 by the template 'total and deterministic' (their statements: YtinakendlpomnaaTotals.lean).
  GIVEN WITH THE SEED: the statements are not yours to turn. If you find one false, say at which input.
  Laid BY PROGRAM, IN A SANDBOX (cutbox-rows.mjs): the forced cells as the released guide's own fill.sh prints them over the translation c4c6f77a27322646… (all of the seat's roots in one cut). By AI agents, Wed Nov 11 2026. No macro, syntax, notation, axiom, sorry.
-/
import Derived.Test.YtinakendlpomnaaChecked
import GoSem.Claim
import GoSem.ClaimJoined
import GoSem.ClaimMapViews
import Derived.JoinedTies
import Derived.KernelRfl
namespace Go.Proofs.Ytinakendlpomnaa
/- THE CELL 'sum', in the pinned program and in every row, IS THE sha256 OF THE DUMP (.gsa) THAT YtinakendlpomnaaProg.lean LOADS. Nothing in Lean hashes anything: it is a label: what it is worth is what the hold of that sum in a sandbox is worth. -/
noncomputable def Try.pinned : Pinned := { name := "ytinakendlpomnaa", sum := "c4c6f77a27322646bf4c1071c2699a529d2f2739c78f4cd97a9dbfb95895430f", checked := Try.checked }
namespace Rows
def none {H : Type} : Left H := { results := [], args := [] }

/-- 'stockpotlaw04.GcTwice': WHATEVER THE INPUT: true; the input reads as it did. -/
def gcTwiceSpec : ChangeSpec := { name := "gcTwice", fn := fun _ => fun
  | [d1, d2] => { results := [.lit (.bool true)], args := [d1, d2] }
  | _ => none }
def gcTwiceRow : OpenClaim := { program := "ytinakendlpomnaa", sum := "c4c6f77a27322646bf4c1071c2699a529d2f2739c78f4cd97a9dbfb95895430f", func := "stockpot/stockpotlaw04.GcTwice", spec := "gcTwice", unfollowed := true, recurses := true, apart := false }
def GcTwiceSaid : Prop := gcTwiceRow.holds Try.pinned (OpenSpec.ofChange gcTwiceSpec)

/-- ITS FALSE NEIGHBOUR: 'it returns false'. Refute it at one input. -/
def gcTwiceWrong : ChangeSpec := { name := "gcTwice", fn := fun _ => fun
  | [d1, d2] => { results := [.lit (.bool false)], args := [d1, d2] }
  | _ => none }
def GcTwiceWrongFalsely : Prop := gcTwiceRow.holds Try.pinned (OpenSpec.ofChange gcTwiceWrong)

/-- 'stockpotlaw04.GcKeeps': WHATEVER THE INPUT: true; the input reads as it did. -/
def gcKeepsSpec : ChangeSpec := { name := "gcKeeps", fn := fun _ => fun
  | [d1, d2] => { results := [.lit (.bool true)], args := [d1, d2] }
  | _ => none }
def gcKeepsRow : OpenClaim := { program := "ytinakendlpomnaa", sum := "c4c6f77a27322646bf4c1071c2699a529d2f2739c78f4cd97a9dbfb95895430f", func := "stockpot/stockpotlaw04.GcKeeps", spec := "gcKeeps", unfollowed := true, recurses := true, apart := false }
def GcKeepsSaid : Prop := gcKeepsRow.holds Try.pinned (OpenSpec.ofChange gcKeepsSpec)

/-- ITS FALSE NEIGHBOUR: 'it returns false'. Refute it at one input. -/
def gcKeepsWrong : ChangeSpec := { name := "gcKeeps", fn := fun _ => fun
  | [d1, d2] => { results := [.lit (.bool false)], args := [d1, d2] }
  | _ => none }
def GcKeepsWrongFalsely : Prop := gcKeepsRow.holds Try.pinned (OpenSpec.ofChange gcKeepsWrong)

/-- 'stockpotlaw04.GcRings': WHATEVER THE INPUT: true; the input reads as it did. -/
def gcRingsSpec : ChangeSpec := { name := "gcRings", fn := fun _ => fun
  | [d1, d2] => { results := [.lit (.bool true)], args := [d1, d2] }
  | _ => none }
def gcRingsRow : OpenClaim := { program := "ytinakendlpomnaa", sum := "c4c6f77a27322646bf4c1071c2699a529d2f2739c78f4cd97a9dbfb95895430f", func := "stockpot/stockpotlaw04.GcRings", spec := "gcRings", unfollowed := true, recurses := true, apart := false }
def GcRingsSaid : Prop := gcRingsRow.holds Try.pinned (OpenSpec.ofChange gcRingsSpec)

/-- ITS FALSE NEIGHBOUR: 'it returns false'. Refute it at one input. -/
def gcRingsWrong : ChangeSpec := { name := "gcRings", fn := fun _ => fun
  | [d1, d2] => { results := [.lit (.bool false)], args := [d1, d2] }
  | _ => none }
def GcRingsWrongFalsely : Prop := gcRingsRow.holds Try.pinned (OpenSpec.ofChange gcRingsWrong)

/- THE SECOND FORM. 'bulk': how many values and letters a reading holds, each counted each time it is reached (what is shared counts as often as it is met; a slice's spare places count too). A statement '..UptoSaid' is the law's where the arguments, and the package variables that the reading takes, are together of bulk at most 1048576: NARROWER than '..Said'. Prove '..Said' where nothing that the law and all that it calls make is longer than what came in: it says more and counts as full. Else prove '..UptoSaid'. A law counts once. -/
mutual
def uptoBulk {H : Type} : DataW H → Nat
  | .lit (.string bytes) => bytes.length + 1
  | .lit _ => 1
  | .nil => 1
  | .ptr d => uptoBulk d + 1
  | .slice elems spare => uptoBulkAll elems + uptoBulkAll spare + 1
  | .agg parts => uptoBulkAll parts + 1
  | .iface _ d => uptoBulk d + 1
  | .map entries => uptoBulkEntries entries + 1
  | .held _ => 1
def uptoBulkAll {H : Type} : List (DataW H) → Nat
  | [] => 0
  | d :: r => uptoBulk d + uptoBulkAll r
def uptoBulkEntries {H : Type} : List (Lit × DataW H) → Nat
  | [] => 0
  | x :: r => uptoBulkEntry x + uptoBulkEntries r
def uptoBulkEntry {H : Type} : Lit × DataW H → Nat
  | (.string bytes, d) => bytes.length + uptoBulk d + 1
  | (_, d) => uptoBulk d + 1
 end
def uptoSmall : (H : Type) → List (DataW H) → Bool := fun _ ds => decide (uptoBulkAll ds ≤ 1048576)
def OpenSpec.upto (s : _root_.Go.ChangeSpec) : _root_.Go.OpenSpec := { _root_.Go.OpenSpec.ofChange s with cond := some uptoSmall }

/-- 'stockpotlaw04.GcTwice', WHERE WHAT IT READS IS OF BULK AT MOST 1048576: true; the input reads as it did. -/
def gcTwiceUptoRow : OpenClaim := { program := "ytinakendlpomnaa", sum := "c4c6f77a27322646bf4c1071c2699a529d2f2739c78f4cd97a9dbfb95895430f", func := "stockpot/stockpotlaw04.GcTwice", spec := "gcTwice", unfollowed := true, recurses := true, apart := false, narrowed := true }
def GcTwiceUptoSaid : Prop := gcTwiceUptoRow.holds Try.pinned (OpenSpec.upto gcTwiceSpec)

/-- 'stockpotlaw04.GcKeeps', WHERE WHAT IT READS IS OF BULK AT MOST 1048576: true; the input reads as it did. -/
def gcKeepsUptoRow : OpenClaim := { program := "ytinakendlpomnaa", sum := "c4c6f77a27322646bf4c1071c2699a529d2f2739c78f4cd97a9dbfb95895430f", func := "stockpot/stockpotlaw04.GcKeeps", spec := "gcKeeps", unfollowed := true, recurses := true, apart := false, narrowed := true }
def GcKeepsUptoSaid : Prop := gcKeepsUptoRow.holds Try.pinned (OpenSpec.upto gcKeepsSpec)

/-- 'stockpotlaw04.GcRings', WHERE WHAT IT READS IS OF BULK AT MOST 1048576: true; the input reads as it did. -/
def gcRingsUptoRow : OpenClaim := { program := "ytinakendlpomnaa", sum := "c4c6f77a27322646bf4c1071c2699a529d2f2739c78f4cd97a9dbfb95895430f", func := "stockpot/stockpotlaw04.GcRings", spec := "gcRings", unfollowed := true, recurses := true, apart := false, narrowed := true }
def GcRingsUptoSaid : Prop := gcRingsUptoRow.holds Try.pinned (OpenSpec.upto gcRingsSpec)

end Rows
end Go.Proofs.Ytinakendlpomnaa
