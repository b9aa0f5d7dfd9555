/-
  No cell of these rows narrows 'for every input' (looked for: loops, veiled, ifaces, maps, wideKeys, modest, calm, conditions, laid).
  DERIVED. THE GIVEN ROWS OF THIS SEAT. 3 by the template 'for every input the law returns true; each argument reads behind the call as it read before'; 0 by the template 'total and deterministic' (their statements: YtihifmamdeafdaaTotals.lean).
  GIVEN WITH THE SEED: the statements are not yours to turn. If you find one false, say at which input.
  Laid BY PROGRAM, IN A SANDBOX (cutbox-rows.mjs): the forced cells as the released guide's own fill.sh prints them over the translation 54fe5e0ea25332bf… (all of the seat's roots in one cut). By AI agents, Wed Nov 11 2026. No macro, syntax, notation, axiom, sorry.
-/
import Derived.Test.YtihifmamdeafdaaChecked
import GoSem.Claim
import GoSem.ClaimJoined
import GoSem.ClaimMapViews
import Derived.JoinedTies
import Derived.KernelRfl
namespace Go.Proofs.Ytihifmamdeafdaa
/- THE CELL 'sum', in the pinned program and in every row, IS THE sha256 OF THE DUMP (.gsa) THAT YtihifmamdeafdaaProg.lean LOADS. Nothing in Lean hashes anything: it is a label: what it is worth is what the hold of that sum in a sandbox is worth. -/
noncomputable def Try.pinned : Pinned := { name := "ytihifmamdeafdaa", sum := "54fe5e0ea25332bfbe80d5b675b45d9122d8d0e03fbd7ad0e720ed816162c97c", checked := Try.checked }
namespace Rows
def none {H : Type} : Left H := { results := [], args := [] }

/-- 'stillagelaw37.UploadsWhole': WHATEVER THE INPUT: true; the input reads as it did. -/
def uploadsWholeSpec : ChangeSpec := { name := "uploadsWhole", fn := fun _ => fun
  | [d] => { results := [.lit (.bool true)], args := [d] }
  | _ => none }
def uploadsWholeRow : OpenClaim := { program := "ytihifmamdeafdaa", sum := "54fe5e0ea25332bfbe80d5b675b45d9122d8d0e03fbd7ad0e720ed816162c97c", func := "stillage/stillagelaw37.UploadsWhole", spec := "uploadsWhole", apart := false }
def UploadsWholeSaid : Prop := uploadsWholeRow.holds Try.pinned (OpenSpec.ofChange uploadsWholeSpec)

/-- ITS FALSE NEIGHBOUR: 'it returns false'. Refute it at one input. -/
def uploadsWholeWrong : ChangeSpec := { name := "uploadsWhole", fn := fun _ => fun
  | [d] => { results := [.lit (.bool false)], args := [d] }
  | _ => none }
def UploadsWholeWrongFalsely : Prop := uploadsWholeRow.holds Try.pinned (OpenSpec.ofChange uploadsWholeWrong)

/-- 'stillagelaw37.UploadsDo': WHATEVER THE INPUT: true; the input reads as it did. -/
def uploadsDoSpec : ChangeSpec := { name := "uploadsDo", fn := fun _ => fun
  | [d] => { results := [.lit (.bool true)], args := [d] }
  | _ => none }
def uploadsDoRow : OpenClaim := { program := "ytihifmamdeafdaa", sum := "54fe5e0ea25332bfbe80d5b675b45d9122d8d0e03fbd7ad0e720ed816162c97c", func := "stillage/stillagelaw37.UploadsDo", spec := "uploadsDo", recurses := true, apart := false }
def UploadsDoSaid : Prop := uploadsDoRow.holds Try.pinned (OpenSpec.ofChange uploadsDoSpec)

/-- ITS FALSE NEIGHBOUR: 'it returns false'. Refute it at one input. -/
def uploadsDoWrong : ChangeSpec := { name := "uploadsDo", fn := fun _ => fun
  | [d] => { results := [.lit (.bool false)], args := [d] }
  | _ => none }
def UploadsDoWrongFalsely : Prop := uploadsDoRow.holds Try.pinned (OpenSpec.ofChange uploadsDoWrong)

/-- 'stillagelaw37.UploadsNone': WHATEVER THE INPUT: true; the input reads as it did. -/
def uploadsNoneSpec : ChangeSpec := { name := "uploadsNone", fn := fun _ => fun
  | [d] => { results := [.lit (.bool true)], args := [d] }
  | _ => none }
def uploadsNoneRow : OpenClaim := { program := "ytihifmamdeafdaa", sum := "54fe5e0ea25332bfbe80d5b675b45d9122d8d0e03fbd7ad0e720ed816162c97c", func := "stillage/stillagelaw37.UploadsNone", spec := "uploadsNone", recurses := true, apart := false }
def UploadsNoneSaid : Prop := uploadsNoneRow.holds Try.pinned (OpenSpec.ofChange uploadsNoneSpec)

/-- ITS FALSE NEIGHBOUR: 'it returns false'. Refute it at one input. -/
def uploadsNoneWrong : ChangeSpec := { name := "uploadsNone", fn := fun _ => fun
  | [d] => { results := [.lit (.bool false)], args := [d] }
  | _ => none }
def UploadsNoneWrongFalsely : Prop := uploadsNoneRow.holds Try.pinned (OpenSpec.ofChange uploadsNoneWrong)

/- THE SECOND FORM. 'bulk': how many values and letters a reading holds, each counted each time it is reached (what is shared counts as often as it is met; a slice's spare places count too). A statement '..UptoSaid' is the law's where the arguments, and the package variables that the reading takes, are together of bulk at most 1048576: NARROWER than '..Said'. Prove '..Said' where nothing that the law and all that it calls make is longer than what came in: it says more and counts as full. Else prove '..UptoSaid'. A law counts once. -/
mutual
def uptoBulk {H : Type} : DataW H → Nat
  | .lit (.string bytes) => bytes.length + 1
  | .lit _ => 1
  | .nil => 1
  | .ptr d => uptoBulk d + 1
  | .slice elems spare => uptoBulkAll elems + uptoBulkAll spare + 1
  | .agg parts => uptoBulkAll parts + 1
  | .iface _ d => uptoBulk d + 1
  | .map entries => uptoBulkEntries entries + 1
  | .held _ => 1
def uptoBulkAll {H : Type} : List (DataW H) → Nat
  | [] => 0
  | d :: r => uptoBulk d + uptoBulkAll r
def uptoBulkEntries {H : Type} : List (Lit × DataW H) → Nat
  | [] => 0
  | x :: r => uptoBulkEntry x + uptoBulkEntries r
def uptoBulkEntry {H : Type} : Lit × DataW H → Nat
  | (.string bytes, d) => bytes.length + uptoBulk d + 1
  | (_, d) => uptoBulk d + 1
 end
def uptoSmall : (H : Type) → List (DataW H) → Bool := fun _ ds => decide (uptoBulkAll ds ≤ 1048576)
def OpenSpec.upto (s : _root_.Go.ChangeSpec) : _root_.Go.OpenSpec := { _root_.Go.OpenSpec.ofChange s with cond := some uptoSmall }

/-- 'stillagelaw37.UploadsWhole', WHERE WHAT IT READS IS OF BULK AT MOST 1048576: true; the input reads as it did. -/
def uploadsWholeUptoRow : OpenClaim := { program := "ytihifmamdeafdaa", sum := "54fe5e0ea25332bfbe80d5b675b45d9122d8d0e03fbd7ad0e720ed816162c97c", func := "stillage/stillagelaw37.UploadsWhole", spec := "uploadsWhole", apart := false, narrowed := true }
def UploadsWholeUptoSaid : Prop := uploadsWholeUptoRow.holds Try.pinned (OpenSpec.upto uploadsWholeSpec)

/-- 'stillagelaw37.UploadsDo', WHERE WHAT IT READS IS OF BULK AT MOST 1048576: true; the input reads as it did. -/
def uploadsDoUptoRow : OpenClaim := { program := "ytihifmamdeafdaa", sum := "54fe5e0ea25332bfbe80d5b675b45d9122d8d0e03fbd7ad0e720ed816162c97c", func := "stillage/stillagelaw37.UploadsDo", spec := "uploadsDo", recurses := true, apart := false, narrowed := true }
def UploadsDoUptoSaid : Prop := uploadsDoUptoRow.holds Try.pinned (OpenSpec.upto uploadsDoSpec)

/-- 'stillagelaw37.UploadsNone', WHERE WHAT IT READS IS OF BULK AT MOST 1048576: true; the input reads as it did. -/
def uploadsNoneUptoRow : OpenClaim := { program := "ytihifmamdeafdaa", sum := "54fe5e0ea25332bfbe80d5b675b45d9122d8d0e03fbd7ad0e720ed816162c97c", func := "stillage/stillagelaw37.UploadsNone", spec := "uploadsNone", recurses := true, apart := false, narrowed := true }
def UploadsNoneUptoSaid : Prop := uploadsNoneUptoRow.holds Try.pinned (OpenSpec.upto uploadsNoneSpec)

end Rows
end Go.Proofs.Ytihifmamdeafdaa
