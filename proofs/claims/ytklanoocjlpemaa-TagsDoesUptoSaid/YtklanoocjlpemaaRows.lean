/-
  No cell of these rows narrows 'for every input' (looked for: loops, veiled, ifaces, maps, wideKeys, modest, calm, conditions, laid).
  DERIVED. THE GIVEN ROWS OF THIS SEAT. 3 by the template 'for every input the law returns true; each argument reads behind the call as it read before'; 0 by the template 'total and deterministic' (their statements: YtklanoocjlpemaaTotals.lean).
  GIVEN WITH THE SEED: the statements are not yours to turn. If you find one false, say at which input.
  Laid BY PROGRAM, IN A SANDBOX (cutbox-rows.mjs): the forced cells as the released guide's own fill.sh prints them over the translation 3e8313d964df426d… (all of the seat's roots in one cut). By AI agents, Wed Nov 11 2026. No macro, syntax, notation, axiom, sorry.
-/
import Derived.Test.YtklanoocjlpemaaChecked
import GoSem.Claim
import GoSem.ClaimJoined
import GoSem.ClaimMapViews
import Derived.JoinedTies
import Derived.KernelRfl
namespace Go.Proofs.Ytklanoocjlpemaa
/- THE CELL 'sum', in the pinned program and in every row, IS THE sha256 OF THE DUMP (.gsa) THAT YtklanoocjlpemaaProg.lean LOADS. Nothing in Lean hashes anything: it is a label: what it is worth is what the hold of that sum in a sandbox is worth. -/
noncomputable def Try.pinned : Pinned := { name := "ytklanoocjlpemaa", sum := "3e8313d964df426d5d1c9ae1dae9b7bea1b9d7f3dc7f04324bd9c9a97d37c51a", checked := Try.checked }
namespace Rows
def none {H : Type} : Left H := { results := [], args := [] }

/-- 'stillagelaw21.TagsPages': WHATEVER THE INPUT: true; the input reads as it did. -/
def tagsPagesSpec : ChangeSpec := { name := "tagsPages", fn := fun _ => fun
  | [d1, d2] => { results := [.lit (.bool true)], args := [d1, d2] }
  | _ => none }
def tagsPagesRow : OpenClaim := { program := "ytklanoocjlpemaa", sum := "3e8313d964df426d5d1c9ae1dae9b7bea1b9d7f3dc7f04324bd9c9a97d37c51a", func := "stillage/stillagelaw21.TagsPages", spec := "tagsPages", inPlace := ["internal/bytealg.abigen_runtime_cmpstring"], unfollowed := true, recurses := true, apart := false }
def TagsPagesSaid : Prop := tagsPagesRow.holds Try.pinned (OpenSpec.ofChange tagsPagesSpec)

/-- ITS FALSE NEIGHBOUR: 'it returns false'. Refute it at one input. -/
def tagsPagesWrong : ChangeSpec := { name := "tagsPages", fn := fun _ => fun
  | [d1, d2] => { results := [.lit (.bool false)], args := [d1, d2] }
  | _ => none }
def TagsPagesWrongFalsely : Prop := tagsPagesRow.holds Try.pinned (OpenSpec.ofChange tagsPagesWrong)

/-- 'stillagelaw21.TagsDoes': WHATEVER THE INPUT: true; the input reads as it did. -/
def tagsDoesSpec : ChangeSpec := { name := "tagsDoes", fn := fun _ => fun
  | [d1, d2] => { results := [.lit (.bool true)], args := [d1, d2] }
  | _ => none }
def tagsDoesRow : OpenClaim := { program := "ytklanoocjlpemaa", sum := "3e8313d964df426d5d1c9ae1dae9b7bea1b9d7f3dc7f04324bd9c9a97d37c51a", func := "stillage/stillagelaw21.TagsDoes", spec := "tagsDoes", inPlace := ["internal/bytealg.abigen_runtime_cmpstring"], unfollowed := true, recurses := true, apart := false }
def TagsDoesSaid : Prop := tagsDoesRow.holds Try.pinned (OpenSpec.ofChange tagsDoesSpec)

/-- ITS FALSE NEIGHBOUR: 'it returns false'. Refute it at one input. -/
def tagsDoesWrong : ChangeSpec := { name := "tagsDoes", fn := fun _ => fun
  | [d1, d2] => { results := [.lit (.bool false)], args := [d1, d2] }
  | _ => none }
def TagsDoesWrongFalsely : Prop := tagsDoesRow.holds Try.pinned (OpenSpec.ofChange tagsDoesWrong)

/-- 'stillagelaw21.TagsNone': WHATEVER THE INPUT: true; the input reads as it did. -/
def tagsNoneSpec : ChangeSpec := { name := "tagsNone", fn := fun _ => fun
  | [d1, d2] => { results := [.lit (.bool true)], args := [d1, d2] }
  | _ => none }
def tagsNoneRow : OpenClaim := { program := "ytklanoocjlpemaa", sum := "3e8313d964df426d5d1c9ae1dae9b7bea1b9d7f3dc7f04324bd9c9a97d37c51a", func := "stillage/stillagelaw21.TagsNone", spec := "tagsNone", inPlace := ["internal/bytealg.abigen_runtime_cmpstring"], unfollowed := true, recurses := true, apart := false }
def TagsNoneSaid : Prop := tagsNoneRow.holds Try.pinned (OpenSpec.ofChange tagsNoneSpec)

/-- ITS FALSE NEIGHBOUR: 'it returns false'. Refute it at one input. -/
def tagsNoneWrong : ChangeSpec := { name := "tagsNone", fn := fun _ => fun
  | [d1, d2] => { results := [.lit (.bool false)], args := [d1, d2] }
  | _ => none }
def TagsNoneWrongFalsely : Prop := tagsNoneRow.holds Try.pinned (OpenSpec.ofChange tagsNoneWrong)

/- THE SECOND FORM. 'bulk': how many values and letters a reading holds, each counted each time it is reached (what is shared counts as often as it is met; a slice's spare places count too). A statement '..UptoSaid' is the law's where the arguments, and the package variables that the reading takes, are together of bulk at most 1048576: NARROWER than '..Said'. Prove '..Said' where nothing that the law and all that it calls make is longer than what came in: it says more and counts as full. Else prove '..UptoSaid'. A law counts once. -/
mutual
def uptoBulk {H : Type} : DataW H → Nat
  | .lit (.string bytes) => bytes.length + 1
  | .lit _ => 1
  | .nil => 1
  | .ptr d => uptoBulk d + 1
  | .slice elems spare => uptoBulkAll elems + uptoBulkAll spare + 1
  | .agg parts => uptoBulkAll parts + 1
  | .iface _ d => uptoBulk d + 1
  | .map entries => uptoBulkEntries entries + 1
  | .held _ => 1
def uptoBulkAll {H : Type} : List (DataW H) → Nat
  | [] => 0
  | d :: r => uptoBulk d + uptoBulkAll r
def uptoBulkEntries {H : Type} : List (Lit × DataW H) → Nat
  | [] => 0
  | x :: r => uptoBulkEntry x + uptoBulkEntries r
def uptoBulkEntry {H : Type} : Lit × DataW H → Nat
  | (.string bytes, d) => bytes.length + uptoBulk d + 1
  | (_, d) => uptoBulk d + 1
 end
def uptoSmall : (H : Type) → List (DataW H) → Bool := fun _ ds => decide (uptoBulkAll ds ≤ 1048576)
def OpenSpec.upto (s : _root_.Go.ChangeSpec) : _root_.Go.OpenSpec := { _root_.Go.OpenSpec.ofChange s with cond := some uptoSmall }

/-- 'stillagelaw21.TagsPages', WHERE WHAT IT READS IS OF BULK AT MOST 1048576: true; the input reads as it did. -/
def tagsPagesUptoRow : OpenClaim := { program := "ytklanoocjlpemaa", sum := "3e8313d964df426d5d1c9ae1dae9b7bea1b9d7f3dc7f04324bd9c9a97d37c51a", func := "stillage/stillagelaw21.TagsPages", spec := "tagsPages", inPlace := ["internal/bytealg.abigen_runtime_cmpstring"], unfollowed := true, recurses := true, apart := false, narrowed := true }
def TagsPagesUptoSaid : Prop := tagsPagesUptoRow.holds Try.pinned (OpenSpec.upto tagsPagesSpec)

/-- 'stillagelaw21.TagsDoes', WHERE WHAT IT READS IS OF BULK AT MOST 1048576: true; the input reads as it did. -/
def tagsDoesUptoRow : OpenClaim := { program := "ytklanoocjlpemaa", sum := "3e8313d964df426d5d1c9ae1dae9b7bea1b9d7f3dc7f04324bd9c9a97d37c51a", func := "stillage/stillagelaw21.TagsDoes", spec := "tagsDoes", inPlace := ["internal/bytealg.abigen_runtime_cmpstring"], unfollowed := true, recurses := true, apart := false, narrowed := true }
def TagsDoesUptoSaid : Prop := tagsDoesUptoRow.holds Try.pinned (OpenSpec.upto tagsDoesSpec)

/-- 'stillagelaw21.TagsNone', WHERE WHAT IT READS IS OF BULK AT MOST 1048576: true; the input reads as it did. -/
def tagsNoneUptoRow : OpenClaim := { program := "ytklanoocjlpemaa", sum := "3e8313d964df426d5d1c9ae1dae9b7bea1b9d7f3dc7f04324bd9c9a97d37c51a", func := "stillage/stillagelaw21.TagsNone", spec := "tagsNone", inPlace := ["internal/bytealg.abigen_runtime_cmpstring"], unfollowed := true, recurses := true, apart := false, narrowed := true }
def TagsNoneUptoSaid : Prop := tagsNoneUptoRow.holds Try.pinned (OpenSpec.upto tagsNoneSpec)

end Rows
end Go.Proofs.Ytklanoocjlpemaa
