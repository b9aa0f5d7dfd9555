/-
  No cell of these rows narrows 'for every input' (looked for: loops, veiled, ifaces, maps, wideKeys, modest, calm, conditions, laid).
  DERIVED. THE GIVEN ROWS OF THIS SEAT. 3 by the template 'for every input the law returns true; each argument reads behind the call as it read before'; 0 by the template 'total and deterministic' (their statements: YtglojgicnchnpaaTotals.lean).
  GIVEN WITH THE SEED: the statements are not yours to turn. If you find one false, say at which input.
  Laid BY PROGRAM, IN A SANDBOX (cutbox-rows.mjs): the forced cells as the released guide's own fill.sh prints them over the translation e2df733eddc3d52c… (all of the seat's roots in one cut). By AI agents, Wed Nov 11 2026. No macro, syntax, notation, axiom, sorry.
-/
import Derived.Test.YtglojgicnchnpaaChecked
import GoSem.Claim
import GoSem.ClaimJoined
import GoSem.ClaimMapViews
import Derived.JoinedTies
import Derived.KernelRfl
namespace Go.Proofs.Ytglojgicnchnpaa
/- THE CELL 'sum', in the pinned program and in every row, IS THE sha256 OF THE DUMP (.gsa) THAT YtglojgicnchnpaaProg.lean LOADS. Nothing in Lean hashes anything: it is a label: what it is worth is what the hold of that sum in a sandbox is worth. -/
noncomputable def Try.pinned : Pinned := { name := "ytglojgicnchnpaa", sum := "e2df733eddc3d52cfd588da50f9f40638ea81b54b0f494c5b7feb64b65e5c0e2", checked := Try.checked }
namespace Rows
def none {H : Type} : Left H := { results := [], args := [] }

/-- 'stillagelaw11.FolderDoes': WHATEVER THE INPUT: true; the input reads as it did. -/
def folderDoesSpec : ChangeSpec := { name := "folderDoes", fn := fun _ => fun
  | [d1, d2, d3] => { results := [.lit (.bool true)], args := [d1, d2, d3] }
  | _ => none }
def folderDoesRow : OpenClaim := { program := "ytglojgicnchnpaa", sum := "e2df733eddc3d52cfd588da50f9f40638ea81b54b0f494c5b7feb64b65e5c0e2", func := "stillage/stillagelaw11.FolderDoes", spec := "folderDoes", inPlace := ["internal/bytealg.abigen_runtime_cmpstring", "slices.overlaps[stillage/api.Named]"], unfollowed := true, recurses := true, apart := false }
def FolderDoesSaid : Prop := folderDoesRow.holds Try.pinned (OpenSpec.ofChange folderDoesSpec)

/-- ITS FALSE NEIGHBOUR: 'it returns false'. Refute it at one input. -/
def folderDoesWrong : ChangeSpec := { name := "folderDoes", fn := fun _ => fun
  | [d1, d2, d3] => { results := [.lit (.bool false)], args := [d1, d2, d3] }
  | _ => none }
def FolderDoesWrongFalsely : Prop := folderDoesRow.holds Try.pinned (OpenSpec.ofChange folderDoesWrong)

/-- 'stillagelaw11.FolderCrash': WHATEVER THE INPUT: true; the input reads as it did. -/
def folderCrashSpec : ChangeSpec := { name := "folderCrash", fn := fun _ => fun
  | [d1, d2] => { results := [.lit (.bool true)], args := [d1, d2] }
  | _ => none }
def folderCrashRow : OpenClaim := { program := "ytglojgicnchnpaa", sum := "e2df733eddc3d52cfd588da50f9f40638ea81b54b0f494c5b7feb64b65e5c0e2", func := "stillage/stillagelaw11.FolderCrash", spec := "folderCrash", inPlace := ["internal/bytealg.abigen_runtime_cmpstring", "slices.overlaps[stillage/api.Named]"], unfollowed := true, recurses := true, apart := false }
def FolderCrashSaid : Prop := folderCrashRow.holds Try.pinned (OpenSpec.ofChange folderCrashSpec)

/-- ITS FALSE NEIGHBOUR: 'it returns false'. Refute it at one input. -/
def folderCrashWrong : ChangeSpec := { name := "folderCrash", fn := fun _ => fun
  | [d1, d2] => { results := [.lit (.bool false)], args := [d1, d2] }
  | _ => none }
def FolderCrashWrongFalsely : Prop := folderCrashRow.holds Try.pinned (OpenSpec.ofChange folderCrashWrong)

/-- 'stillagelaw11.FolderLasts': WHATEVER THE INPUT: true; the input reads as it did. -/
def folderLastsSpec : ChangeSpec := { name := "folderLasts", fn := fun _ => fun
  | [d1, d2] => { results := [.lit (.bool true)], args := [d1, d2] }
  | _ => none }
def folderLastsRow : OpenClaim := { program := "ytglojgicnchnpaa", sum := "e2df733eddc3d52cfd588da50f9f40638ea81b54b0f494c5b7feb64b65e5c0e2", func := "stillage/stillagelaw11.FolderLasts", spec := "folderLasts", inPlace := ["internal/bytealg.abigen_runtime_cmpstring", "slices.overlaps[stillage/api.Named]"], unfollowed := true, recurses := true, apart := false }
def FolderLastsSaid : Prop := folderLastsRow.holds Try.pinned (OpenSpec.ofChange folderLastsSpec)

/-- ITS FALSE NEIGHBOUR: 'it returns false'. Refute it at one input. -/
def folderLastsWrong : ChangeSpec := { name := "folderLasts", fn := fun _ => fun
  | [d1, d2] => { results := [.lit (.bool false)], args := [d1, d2] }
  | _ => none }
def FolderLastsWrongFalsely : Prop := folderLastsRow.holds Try.pinned (OpenSpec.ofChange folderLastsWrong)

/- THE SECOND FORM. 'bulk': how many values and letters a reading holds, each counted each time it is reached (what is shared counts as often as it is met; a slice's spare places count too). A statement '..UptoSaid' is the law's where the arguments, and the package variables that the reading takes, are together of bulk at most 1048576: NARROWER than '..Said'. Prove '..Said' where nothing that the law and all that it calls make is longer than what came in: it says more and counts as full. Else prove '..UptoSaid'. A law counts once. -/
mutual
def uptoBulk {H : Type} : DataW H → Nat
  | .lit (.string bytes) => bytes.length + 1
  | .lit _ => 1
  | .nil => 1
  | .ptr d => uptoBulk d + 1
  | .slice elems spare => uptoBulkAll elems + uptoBulkAll spare + 1
  | .agg parts => uptoBulkAll parts + 1
  | .iface _ d => uptoBulk d + 1
  | .map entries => uptoBulkEntries entries + 1
  | .held _ => 1
def uptoBulkAll {H : Type} : List (DataW H) → Nat
  | [] => 0
  | d :: r => uptoBulk d + uptoBulkAll r
def uptoBulkEntries {H : Type} : List (Lit × DataW H) → Nat
  | [] => 0
  | x :: r => uptoBulkEntry x + uptoBulkEntries r
def uptoBulkEntry {H : Type} : Lit × DataW H → Nat
  | (.string bytes, d) => bytes.length + uptoBulk d + 1
  | (_, d) => uptoBulk d + 1
 end
def uptoSmall : (H : Type) → List (DataW H) → Bool := fun _ ds => decide (uptoBulkAll ds ≤ 1048576)
def OpenSpec.upto (s : _root_.Go.ChangeSpec) : _root_.Go.OpenSpec := { _root_.Go.OpenSpec.ofChange s with cond := some uptoSmall }

/-- 'stillagelaw11.FolderDoes', WHERE WHAT IT READS IS OF BULK AT MOST 1048576: true; the input reads as it did. -/
def folderDoesUptoRow : OpenClaim := { program := "ytglojgicnchnpaa", sum := "e2df733eddc3d52cfd588da50f9f40638ea81b54b0f494c5b7feb64b65e5c0e2", func := "stillage/stillagelaw11.FolderDoes", spec := "folderDoes", inPlace := ["internal/bytealg.abigen_runtime_cmpstring", "slices.overlaps[stillage/api.Named]"], unfollowed := true, recurses := true, apart := false, narrowed := true }
def FolderDoesUptoSaid : Prop := folderDoesUptoRow.holds Try.pinned (OpenSpec.upto folderDoesSpec)

/-- 'stillagelaw11.FolderCrash', WHERE WHAT IT READS IS OF BULK AT MOST 1048576: true; the input reads as it did. -/
def folderCrashUptoRow : OpenClaim := { program := "ytglojgicnchnpaa", sum := "e2df733eddc3d52cfd588da50f9f40638ea81b54b0f494c5b7feb64b65e5c0e2", func := "stillage/stillagelaw11.FolderCrash", spec := "folderCrash", inPlace := ["internal/bytealg.abigen_runtime_cmpstring", "slices.overlaps[stillage/api.Named]"], unfollowed := true, recurses := true, apart := false, narrowed := true }
def FolderCrashUptoSaid : Prop := folderCrashUptoRow.holds Try.pinned (OpenSpec.upto folderCrashSpec)

/-- 'stillagelaw11.FolderLasts', WHERE WHAT IT READS IS OF BULK AT MOST 1048576: true; the input reads as it did. -/
def folderLastsUptoRow : OpenClaim := { program := "ytglojgicnchnpaa", sum := "e2df733eddc3d52cfd588da50f9f40638ea81b54b0f494c5b7feb64b65e5c0e2", func := "stillage/stillagelaw11.FolderLasts", spec := "folderLasts", inPlace := ["internal/bytealg.abigen_runtime_cmpstring", "slices.overlaps[stillage/api.Named]"], unfollowed := true, recurses := true, apart := false, narrowed := true }
def FolderLastsUptoSaid : Prop := folderLastsUptoRow.holds Try.pinned (OpenSpec.upto folderLastsSpec)

end Rows
end Go.Proofs.Ytglojgicnchnpaa
