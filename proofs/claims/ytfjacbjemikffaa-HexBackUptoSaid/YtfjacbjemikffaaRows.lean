/-
  No cell of these rows narrows 'for every input' (looked for: loops, veiled, ifaces, maps, wideKeys, modest, calm, conditions, laid).
  DERIVED. THE GIVEN ROWS OF THIS SEAT. 3 by the template 'for every input the law returns true; each argument reads behind the call as it read before'; 0 by the template 'total and deterministic' (their statements: YtfjacbjemikffaaTotals.lean).
  GIVEN WITH THE SEED: the statements are not yours to turn. If you find one false, say at which input.
  Laid BY PROGRAM, IN A SANDBOX (cutbox-rows.mjs): the forced cells as the released guide's own fill.sh prints them over the translation e805c86f045d45a7… (all of the seat's roots in one cut). By AI agents, Wed Nov 11 2026. No macro, syntax, notation, axiom, sorry.
-/
import Derived.Test.YtfjacbjemikffaaChecked
import GoSem.Claim
import GoSem.ClaimJoined
import GoSem.ClaimMapViews
import Derived.JoinedTies
import Derived.KernelRfl
namespace Go.Proofs.Ytfjacbjemikffaa
/- THE CELL 'sum', in the pinned program and in every row, IS THE sha256 OF THE DUMP (.gsa) THAT YtfjacbjemikffaaProg.lean LOADS. Nothing in Lean hashes anything: it is a label: what it is worth is what the hold of that sum in a sandbox is worth. -/
noncomputable def Try.pinned : Pinned := { name := "ytfjacbjemikffaa", sum := "e805c86f045d45a7bce971c1c0aea7372695c9ce62c1dd8df1e31f594d2f3e6c", checked := Try.checked }
namespace Rows
def none {H : Type} : Left H := { results := [], args := [] }

/-- 'stillagelaw03.HexTexts': WHATEVER THE INPUT: true; the input reads as it did. -/
def hexTextsSpec : ChangeSpec := { name := "hexTexts", fn := fun _ => fun
  | [d] => { results := [.lit (.bool true)], args := [d] }
  | _ => none }
def hexTextsRow : OpenClaim := { program := "ytfjacbjemikffaa", sum := "e805c86f045d45a7bce971c1c0aea7372695c9ce62c1dd8df1e31f594d2f3e6c", func := "stillage/stillagelaw03.HexTexts", spec := "hexTexts", inPlace := ["internal/abi.NoEscape"], apart := false }
def HexTextsSaid : Prop := hexTextsRow.holds Try.pinned (OpenSpec.ofChange hexTextsSpec)

/-- ITS FALSE NEIGHBOUR: 'it returns false'. Refute it at one input. -/
def hexTextsWrong : ChangeSpec := { name := "hexTexts", fn := fun _ => fun
  | [d] => { results := [.lit (.bool false)], args := [d] }
  | _ => none }
def HexTextsWrongFalsely : Prop := hexTextsRow.holds Try.pinned (OpenSpec.ofChange hexTextsWrong)

/-- 'stillagelaw03.HexReads': WHATEVER THE INPUT: true; the input reads as it did. -/
def hexReadsSpec : ChangeSpec := { name := "hexReads", fn := fun _ => fun
  | [d] => { results := [.lit (.bool true)], args := [d] }
  | _ => none }
def hexReadsRow : OpenClaim := { program := "ytfjacbjemikffaa", sum := "e805c86f045d45a7bce971c1c0aea7372695c9ce62c1dd8df1e31f594d2f3e6c", func := "stillage/stillagelaw03.HexReads", spec := "hexReads", inPlace := ["internal/abi.NoEscape"], apart := false }
def HexReadsSaid : Prop := hexReadsRow.holds Try.pinned (OpenSpec.ofChange hexReadsSpec)

/-- ITS FALSE NEIGHBOUR: 'it returns false'. Refute it at one input. -/
def hexReadsWrong : ChangeSpec := { name := "hexReads", fn := fun _ => fun
  | [d] => { results := [.lit (.bool false)], args := [d] }
  | _ => none }
def HexReadsWrongFalsely : Prop := hexReadsRow.holds Try.pinned (OpenSpec.ofChange hexReadsWrong)

/-- 'stillagelaw03.HexBack': WHATEVER THE INPUT: true; the input reads as it did. -/
def hexBackSpec : ChangeSpec := { name := "hexBack", fn := fun _ => fun
  | [d1, d2] => { results := [.lit (.bool true)], args := [d1, d2] }
  | _ => none }
def hexBackRow : OpenClaim := { program := "ytfjacbjemikffaa", sum := "e805c86f045d45a7bce971c1c0aea7372695c9ce62c1dd8df1e31f594d2f3e6c", func := "stillage/stillagelaw03.HexBack", spec := "hexBack", inPlace := ["internal/abi.NoEscape"], apart := false }
def HexBackSaid : Prop := hexBackRow.holds Try.pinned (OpenSpec.ofChange hexBackSpec)

/-- ITS FALSE NEIGHBOUR: 'it returns false'. Refute it at one input. -/
def hexBackWrong : ChangeSpec := { name := "hexBack", fn := fun _ => fun
  | [d1, d2] => { results := [.lit (.bool false)], args := [d1, d2] }
  | _ => none }
def HexBackWrongFalsely : Prop := hexBackRow.holds Try.pinned (OpenSpec.ofChange hexBackWrong)

/- THE SECOND FORM. 'bulk': how many values and letters a reading holds, each counted each time it is reached (what is shared counts as often as it is met; a slice's spare places count too). A statement '..UptoSaid' is the law's where the arguments, and the package variables that the reading takes, are together of bulk at most 1048576: NARROWER than '..Said'. Prove '..Said' where nothing that the law and all that it calls make is longer than what came in: it says more and counts as full. Else prove '..UptoSaid'. A law counts once. -/
mutual
def uptoBulk {H : Type} : DataW H → Nat
  | .lit (.string bytes) => bytes.length + 1
  | .lit _ => 1
  | .nil => 1
  | .ptr d => uptoBulk d + 1
  | .slice elems spare => uptoBulkAll elems + uptoBulkAll spare + 1
  | .agg parts => uptoBulkAll parts + 1
  | .iface _ d => uptoBulk d + 1
  | .map entries => uptoBulkEntries entries + 1
  | .held _ => 1
def uptoBulkAll {H : Type} : List (DataW H) → Nat
  | [] => 0
  | d :: r => uptoBulk d + uptoBulkAll r
def uptoBulkEntries {H : Type} : List (Lit × DataW H) → Nat
  | [] => 0
  | x :: r => uptoBulkEntry x + uptoBulkEntries r
def uptoBulkEntry {H : Type} : Lit × DataW H → Nat
  | (.string bytes, d) => bytes.length + uptoBulk d + 1
  | (_, d) => uptoBulk d + 1
 end
def uptoSmall : (H : Type) → List (DataW H) → Bool := fun _ ds => decide (uptoBulkAll ds ≤ 1048576)
def OpenSpec.upto (s : _root_.Go.ChangeSpec) : _root_.Go.OpenSpec := { _root_.Go.OpenSpec.ofChange s with cond := some uptoSmall }

/-- 'stillagelaw03.HexTexts', WHERE WHAT IT READS IS OF BULK AT MOST 1048576: true; the input reads as it did. -/
def hexTextsUptoRow : OpenClaim := { program := "ytfjacbjemikffaa", sum := "e805c86f045d45a7bce971c1c0aea7372695c9ce62c1dd8df1e31f594d2f3e6c", func := "stillage/stillagelaw03.HexTexts", spec := "hexTexts", inPlace := ["internal/abi.NoEscape"], apart := false, narrowed := true }
def HexTextsUptoSaid : Prop := hexTextsUptoRow.holds Try.pinned (OpenSpec.upto hexTextsSpec)

/-- 'stillagelaw03.HexReads', WHERE WHAT IT READS IS OF BULK AT MOST 1048576: true; the input reads as it did. -/
def hexReadsUptoRow : OpenClaim := { program := "ytfjacbjemikffaa", sum := "e805c86f045d45a7bce971c1c0aea7372695c9ce62c1dd8df1e31f594d2f3e6c", func := "stillage/stillagelaw03.HexReads", spec := "hexReads", inPlace := ["internal/abi.NoEscape"], apart := false, narrowed := true }
def HexReadsUptoSaid : Prop := hexReadsUptoRow.holds Try.pinned (OpenSpec.upto hexReadsSpec)

/-- 'stillagelaw03.HexBack', WHERE WHAT IT READS IS OF BULK AT MOST 1048576: true; the input reads as it did. -/
def hexBackUptoRow : OpenClaim := { program := "ytfjacbjemikffaa", sum := "e805c86f045d45a7bce971c1c0aea7372695c9ce62c1dd8df1e31f594d2f3e6c", func := "stillage/stillagelaw03.HexBack", spec := "hexBack", inPlace := ["internal/abi.NoEscape"], apart := false, narrowed := true }
def HexBackUptoSaid : Prop := hexBackUptoRow.holds Try.pinned (OpenSpec.upto hexBackSpec)

end Rows
end Go.Proofs.Ytfjacbjemikffaa
