/-
  No cell of these rows narrows 'for every input' (looked for: loops, veiled, ifaces, maps, wideKeys, modest, calm, conditions, laid).
  DERIVED. THE GIVEN ROWS OF THIS SEAT. 4 by the template 'for every input the law returns true; each argument reads behind the call as it read before'; 0 by the template 'total and deterministic' (their statements: YtfdhaeglhkmmpaaGreatTotals.lean).
  GIVEN WITH THE SEED: the statements are not yours to turn. If you find one false, say at which input.
  Laid BY PROGRAM, IN A SANDBOX (cutbox-rows.mjs): the forced cells as the released guide's own fill.sh prints them over the translation 1872575727db1324… (all of the seat's roots in one cut). By AI agents, Wed Nov 11 2026. No macro, syntax, notation, axiom, sorry.
-/
import Derived.Test.YtfdhaeglhkmmpaaGreatChecked
import GoSem.Claim
import GoSem.ClaimJoined
import GoSem.ClaimMapViews
import Derived.JoinedTies
import Derived.KernelRfl
namespace Go.Proofs.YtfdhaeglhkmmpaaGreat
/- THE CELL 'sum', in the pinned program and in every row, IS THE sha256 OF THE DUMP (.gsa) THAT YtfdhaeglhkmmpaaGreatProg.lean LOADS. Nothing in Lean hashes anything: it is a label: what it is worth is what the hold of that sum in a sandbox is worth. -/
noncomputable def Tryz.pinned : Pinned := { name := "ytfdhaeglhkmmpaagreat", sum := "1872575727db1324948ee71f4a3841c16d6a2ae9bc3dfaa4b53f365342c787ac", checked := Tryz.checked }
namespace Rows
def none {H : Type} : Left H := { results := [], args := [] }

/-- 'stillagelaw12.DiskLasts': WHATEVER THE INPUT: true; the input reads as it did. -/
def diskLastsSpec : ChangeSpec := { name := "diskLasts", fn := fun _ => fun
  | [d1, d2, d3] => { results := [.lit (.bool true)], args := [d1, d2, d3] }
  | _ => none }
def diskLastsRow : OpenClaim := { program := "ytfdhaeglhkmmpaagreat", sum := "1872575727db1324948ee71f4a3841c16d6a2ae9bc3dfaa4b53f365342c787ac", func := "stillage/stillagelaw12.DiskLasts", spec := "diskLasts", inPlace := ["internal/bytealg.abigen_runtime_cmpstring", "slices.overlaps[stillage/api.Named]"], unfollowed := true, recurses := true, apart := false }
def DiskLastsSaid : Prop := diskLastsRow.holds Tryz.pinned (OpenSpec.ofChange diskLastsSpec)

/-- ITS FALSE NEIGHBOUR: 'it returns false'. Refute it at one input. -/
def diskLastsWrong : ChangeSpec := { name := "diskLasts", fn := fun _ => fun
  | [d1, d2, d3] => { results := [.lit (.bool false)], args := [d1, d2, d3] }
  | _ => none }
def DiskLastsWrongFalsely : Prop := diskLastsRow.holds Tryz.pinned (OpenSpec.ofChange diskLastsWrong)

/-- 'stillagelaw12.DiskRoom': WHATEVER THE INPUT: true; the input reads as it did. -/
def diskRoomSpec : ChangeSpec := { name := "diskRoom", fn := fun _ => fun
  | [d1, d2, d3] => { results := [.lit (.bool true)], args := [d1, d2, d3] }
  | _ => none }
def diskRoomRow : OpenClaim := { program := "ytfdhaeglhkmmpaagreat", sum := "1872575727db1324948ee71f4a3841c16d6a2ae9bc3dfaa4b53f365342c787ac", func := "stillage/stillagelaw12.DiskRoom", spec := "diskRoom", inPlace := ["internal/bytealg.abigen_runtime_cmpstring", "slices.overlaps[stillage/api.Named]"], unfollowed := true, recurses := true, apart := false }
def DiskRoomSaid : Prop := diskRoomRow.holds Tryz.pinned (OpenSpec.ofChange diskRoomSpec)

/-- ITS FALSE NEIGHBOUR: 'it returns false'. Refute it at one input. -/
def diskRoomWrong : ChangeSpec := { name := "diskRoom", fn := fun _ => fun
  | [d1, d2, d3] => { results := [.lit (.bool false)], args := [d1, d2, d3] }
  | _ => none }
def DiskRoomWrongFalsely : Prop := diskRoomRow.holds Tryz.pinned (OpenSpec.ofChange diskRoomWrong)

/-- 'stillagelaw12.DiskNone': WHATEVER THE INPUT: true; the input reads as it did. -/
def diskNoneSpec : ChangeSpec := { name := "diskNone", fn := fun _ => fun
  | [d] => { results := [.lit (.bool true)], args := [d] }
  | _ => none }
def diskNoneRow : OpenClaim := { program := "ytfdhaeglhkmmpaagreat", sum := "1872575727db1324948ee71f4a3841c16d6a2ae9bc3dfaa4b53f365342c787ac", func := "stillage/stillagelaw12.DiskNone", spec := "diskNone", inPlace := ["internal/bytealg.abigen_runtime_cmpstring", "slices.overlaps[stillage/api.Named]"], unfollowed := true, recurses := true, apart := false }
def DiskNoneSaid : Prop := diskNoneRow.holds Tryz.pinned (OpenSpec.ofChange diskNoneSpec)

/-- ITS FALSE NEIGHBOUR: 'it returns false'. Refute it at one input. -/
def diskNoneWrong : ChangeSpec := { name := "diskNone", fn := fun _ => fun
  | [d] => { results := [.lit (.bool false)], args := [d] }
  | _ => none }
def DiskNoneWrongFalsely : Prop := diskNoneRow.holds Tryz.pinned (OpenSpec.ofChange diskNoneWrong)

/-- 'stillagelaw12.DiskDoes': WHATEVER THE INPUT: true; the input reads as it did. -/
def diskDoesSpec : ChangeSpec := { name := "diskDoes", fn := fun _ => fun
  | [d1, d2, d3] => { results := [.lit (.bool true)], args := [d1, d2, d3] }
  | _ => none }
def diskDoesRow : OpenClaim := { program := "ytfdhaeglhkmmpaagreat", sum := "1872575727db1324948ee71f4a3841c16d6a2ae9bc3dfaa4b53f365342c787ac", func := "stillage/stillagelaw12.DiskDoes", spec := "diskDoes", inPlace := ["internal/bytealg.abigen_runtime_cmpstring", "slices.overlaps[stillage/api.Named]"], unfollowed := true, recurses := true, apart := false }
def DiskDoesSaid : Prop := diskDoesRow.holds Tryz.pinned (OpenSpec.ofChange diskDoesSpec)

/-- ITS FALSE NEIGHBOUR: 'it returns false'. Refute it at one input. -/
def diskDoesWrong : ChangeSpec := { name := "diskDoes", fn := fun _ => fun
  | [d1, d2, d3] => { results := [.lit (.bool false)], args := [d1, d2, d3] }
  | _ => none }
def DiskDoesWrongFalsely : Prop := diskDoesRow.holds Tryz.pinned (OpenSpec.ofChange diskDoesWrong)

/- THE SECOND FORM. 'bulk': how many values and letters a reading holds, each counted each time it is reached (what is shared counts as often as it is met; a slice's spare places count too). A statement '..UptoSaid' is the law's where the arguments, and the package variables that the reading takes, are together of bulk at most 1048576: NARROWER than '..Said'. Prove '..Said' where nothing that the law and all that it calls make is longer than what came in: it says more and counts as full. Else prove '..UptoSaid'. A law counts once. -/
mutual
def uptoBulk {H : Type} : DataW H → Nat
  | .lit (.string bytes) => bytes.length + 1
  | .lit _ => 1
  | .nil => 1
  | .ptr d => uptoBulk d + 1
  | .slice elems spare => uptoBulkAll elems + uptoBulkAll spare + 1
  | .agg parts => uptoBulkAll parts + 1
  | .iface _ d => uptoBulk d + 1
  | .map entries => uptoBulkEntries entries + 1
  | .held _ => 1
def uptoBulkAll {H : Type} : List (DataW H) → Nat
  | [] => 0
  | d :: r => uptoBulk d + uptoBulkAll r
def uptoBulkEntries {H : Type} : List (Lit × DataW H) → Nat
  | [] => 0
  | x :: r => uptoBulkEntry x + uptoBulkEntries r
def uptoBulkEntry {H : Type} : Lit × DataW H → Nat
  | (.string bytes, d) => bytes.length + uptoBulk d + 1
  | (_, d) => uptoBulk d + 1
 end
def uptoSmall : (H : Type) → List (DataW H) → Bool := fun _ ds => decide (uptoBulkAll ds ≤ 1048576)
def OpenSpec.upto (s : _root_.Go.ChangeSpec) : _root_.Go.OpenSpec := { _root_.Go.OpenSpec.ofChange s with cond := some uptoSmall }

/-- 'stillagelaw12.DiskLasts', WHERE WHAT IT READS IS OF BULK AT MOST 1048576: true; the input reads as it did. -/
def diskLastsUptoRow : OpenClaim := { program := "ytfdhaeglhkmmpaagreat", sum := "1872575727db1324948ee71f4a3841c16d6a2ae9bc3dfaa4b53f365342c787ac", func := "stillage/stillagelaw12.DiskLasts", spec := "diskLasts", inPlace := ["internal/bytealg.abigen_runtime_cmpstring", "slices.overlaps[stillage/api.Named]"], unfollowed := true, recurses := true, apart := false, narrowed := true }
def DiskLastsUptoSaid : Prop := diskLastsUptoRow.holds Tryz.pinned (OpenSpec.upto diskLastsSpec)

/-- 'stillagelaw12.DiskRoom', WHERE WHAT IT READS IS OF BULK AT MOST 1048576: true; the input reads as it did. -/
def diskRoomUptoRow : OpenClaim := { program := "ytfdhaeglhkmmpaagreat", sum := "1872575727db1324948ee71f4a3841c16d6a2ae9bc3dfaa4b53f365342c787ac", func := "stillage/stillagelaw12.DiskRoom", spec := "diskRoom", inPlace := ["internal/bytealg.abigen_runtime_cmpstring", "slices.overlaps[stillage/api.Named]"], unfollowed := true, recurses := true, apart := false, narrowed := true }
def DiskRoomUptoSaid : Prop := diskRoomUptoRow.holds Tryz.pinned (OpenSpec.upto diskRoomSpec)

/-- 'stillagelaw12.DiskNone', WHERE WHAT IT READS IS OF BULK AT MOST 1048576: true; the input reads as it did. -/
def diskNoneUptoRow : OpenClaim := { program := "ytfdhaeglhkmmpaagreat", sum := "1872575727db1324948ee71f4a3841c16d6a2ae9bc3dfaa4b53f365342c787ac", func := "stillage/stillagelaw12.DiskNone", spec := "diskNone", inPlace := ["internal/bytealg.abigen_runtime_cmpstring", "slices.overlaps[stillage/api.Named]"], unfollowed := true, recurses := true, apart := false, narrowed := true }
def DiskNoneUptoSaid : Prop := diskNoneUptoRow.holds Tryz.pinned (OpenSpec.upto diskNoneSpec)

/-- 'stillagelaw12.DiskDoes', WHERE WHAT IT READS IS OF BULK AT MOST 1048576: true; the input reads as it did. -/
def diskDoesUptoRow : OpenClaim := { program := "ytfdhaeglhkmmpaagreat", sum := "1872575727db1324948ee71f4a3841c16d6a2ae9bc3dfaa4b53f365342c787ac", func := "stillage/stillagelaw12.DiskDoes", spec := "diskDoes", inPlace := ["internal/bytealg.abigen_runtime_cmpstring", "slices.overlaps[stillage/api.Named]"], unfollowed := true, recurses := true, apart := false, narrowed := true }
def DiskDoesUptoSaid : Prop := diskDoesUptoRow.holds Tryz.pinned (OpenSpec.upto diskDoesSpec)

end Rows
end Go.Proofs.YtfdhaeglhkmmpaaGreat
