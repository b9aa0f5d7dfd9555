/-
  No cell of these rows narrows 'for every input' (looked for: loops, veiled, ifaces, maps, wideKeys, modest, calm, conditions, laid).
  DERIVED. THE GIVEN ROWS OF THIS SEAT. 5 by the template 'for every input the law returns true; each argument reads behind the call as it read before'; 0 by the template 'total and deterministic' (their statements: YthcclmlbkfadcaaGreatTotals.lean).
  GIVEN WITH THE SEED: the statements are not yours to turn. If you find one false, say at which input.
  Laid BY PROGRAM, IN A SANDBOX (cutbox-rows.mjs): the forced cells as the released guide's own fill.sh prints them over the translation 573fdbec16b82aed… (all of the seat's roots in one cut). By AI agents, Wed Nov 11 2026. No macro, syntax, notation, axiom, sorry.
-/
import Derived.Test.YthcclmlbkfadcaaGreatChecked
import GoSem.Claim
import GoSem.ClaimJoined
import GoSem.ClaimMapViews
import Derived.JoinedTies
import Derived.KernelRfl
namespace Go.Proofs.YthcclmlbkfadcaaGreat
/- THE CELL 'sum', in the pinned program and in every row, IS THE sha256 OF THE DUMP (.gsa) THAT YthcclmlbkfadcaaGreatProg.lean LOADS. Nothing in Lean hashes anything: it is a label: what it is worth is what the hold of that sum in a sandbox is worth. -/
noncomputable def Tryz.pinned : Pinned := { name := "ythcclmlbkfadcaagreat", sum := "573fdbec16b82aed81cf2730a3549a943cd578a4f8e03e6a741d05f5dfea4eb0", checked := Tryz.checked }
namespace Rows
def none {H : Type} : Left H := { results := [], args := [] }

/-- 'stillagelaw22.StateCopies': WHATEVER THE INPUT: true; the input reads as it did. -/
def stateCopiesSpec : ChangeSpec := { name := "stateCopies", fn := fun _ => fun
  | [d1, d2, d3] => { results := [.lit (.bool true)], args := [d1, d2, d3] }
  | _ => none }
def stateCopiesRow : OpenClaim := { program := "ythcclmlbkfadcaagreat", sum := "573fdbec16b82aed81cf2730a3549a943cd578a4f8e03e6a741d05f5dfea4eb0", func := "stillage/stillagelaw22.StateCopies", spec := "stateCopies", inPlace := ["internal/bytealg.abigen_runtime_cmpstring", "slices.overlaps[stillage/api.Load]", "internal/bytealg.Compare"], unfollowed := true, recurses := true, apart := false }
def StateCopiesSaid : Prop := stateCopiesRow.holds Tryz.pinned (OpenSpec.ofChange stateCopiesSpec)

/-- ITS FALSE NEIGHBOUR: 'it returns false'. Refute it at one input. -/
def stateCopiesWrong : ChangeSpec := { name := "stateCopies", fn := fun _ => fun
  | [d1, d2, d3] => { results := [.lit (.bool false)], args := [d1, d2, d3] }
  | _ => none }
def StateCopiesWrongFalsely : Prop := stateCopiesRow.holds Tryz.pinned (OpenSpec.ofChange stateCopiesWrong)

/-- 'stillagelaw22.StateAsks': WHATEVER THE INPUT: true; the input reads as it did. -/
def stateAsksSpec : ChangeSpec := { name := "stateAsks", fn := fun _ => fun
  | [d1, d2, d3] => { results := [.lit (.bool true)], args := [d1, d2, d3] }
  | _ => none }
def stateAsksRow : OpenClaim := { program := "ythcclmlbkfadcaagreat", sum := "573fdbec16b82aed81cf2730a3549a943cd578a4f8e03e6a741d05f5dfea4eb0", func := "stillage/stillagelaw22.StateAsks", spec := "stateAsks", inPlace := ["internal/bytealg.abigen_runtime_cmpstring", "slices.overlaps[stillage/api.Load]", "internal/bytealg.Compare"], unfollowed := true, recurses := true, apart := false }
def StateAsksSaid : Prop := stateAsksRow.holds Tryz.pinned (OpenSpec.ofChange stateAsksSpec)

/-- ITS FALSE NEIGHBOUR: 'it returns false'. Refute it at one input. -/
def stateAsksWrong : ChangeSpec := { name := "stateAsks", fn := fun _ => fun
  | [d1, d2, d3] => { results := [.lit (.bool false)], args := [d1, d2, d3] }
  | _ => none }
def StateAsksWrongFalsely : Prop := stateAsksRow.holds Tryz.pinned (OpenSpec.ofChange stateAsksWrong)

/-- 'stillagelaw22.StateDoes': WHATEVER THE INPUT: true; the input reads as it did. -/
def stateDoesSpec : ChangeSpec := { name := "stateDoes", fn := fun _ => fun
  | [d1, d2] => { results := [.lit (.bool true)], args := [d1, d2] }
  | _ => none }
def stateDoesRow : OpenClaim := { program := "ythcclmlbkfadcaagreat", sum := "573fdbec16b82aed81cf2730a3549a943cd578a4f8e03e6a741d05f5dfea4eb0", func := "stillage/stillagelaw22.StateDoes", spec := "stateDoes", inPlace := ["internal/bytealg.abigen_runtime_cmpstring", "slices.overlaps[stillage/api.Load]", "internal/bytealg.Compare"], unfollowed := true, recurses := true, apart := false }
def StateDoesSaid : Prop := stateDoesRow.holds Tryz.pinned (OpenSpec.ofChange stateDoesSpec)

/-- ITS FALSE NEIGHBOUR: 'it returns false'. Refute it at one input. -/
def stateDoesWrong : ChangeSpec := { name := "stateDoes", fn := fun _ => fun
  | [d1, d2] => { results := [.lit (.bool false)], args := [d1, d2] }
  | _ => none }
def StateDoesWrongFalsely : Prop := stateDoesRow.holds Tryz.pinned (OpenSpec.ofChange stateDoesWrong)

/-- 'stillagelaw22.StateForgets': WHATEVER THE INPUT: true; the input reads as it did. -/
def stateForgetsSpec : ChangeSpec := { name := "stateForgets", fn := fun _ => fun
  | [d1, d2] => { results := [.lit (.bool true)], args := [d1, d2] }
  | _ => none }
def stateForgetsRow : OpenClaim := { program := "ythcclmlbkfadcaagreat", sum := "573fdbec16b82aed81cf2730a3549a943cd578a4f8e03e6a741d05f5dfea4eb0", func := "stillage/stillagelaw22.StateForgets", spec := "stateForgets", inPlace := ["internal/bytealg.abigen_runtime_cmpstring", "slices.overlaps[stillage/api.Load]", "internal/bytealg.Compare"], unfollowed := true, recurses := true, apart := false }
def StateForgetsSaid : Prop := stateForgetsRow.holds Tryz.pinned (OpenSpec.ofChange stateForgetsSpec)

/-- ITS FALSE NEIGHBOUR: 'it returns false'. Refute it at one input. -/
def stateForgetsWrong : ChangeSpec := { name := "stateForgets", fn := fun _ => fun
  | [d1, d2] => { results := [.lit (.bool false)], args := [d1, d2] }
  | _ => none }
def StateForgetsWrongFalsely : Prop := stateForgetsRow.holds Tryz.pinned (OpenSpec.ofChange stateForgetsWrong)

/-- 'stillagelaw22.StateNone': WHATEVER THE INPUT: true; the input reads as it did. -/
def stateNoneSpec : ChangeSpec := { name := "stateNone", fn := fun _ => fun
  | [d1, d2] => { results := [.lit (.bool true)], args := [d1, d2] }
  | _ => none }
def stateNoneRow : OpenClaim := { program := "ythcclmlbkfadcaagreat", sum := "573fdbec16b82aed81cf2730a3549a943cd578a4f8e03e6a741d05f5dfea4eb0", func := "stillage/stillagelaw22.StateNone", spec := "stateNone", inPlace := ["internal/bytealg.abigen_runtime_cmpstring", "slices.overlaps[stillage/api.Load]", "internal/bytealg.Compare"], unfollowed := true, recurses := true, apart := false }
def StateNoneSaid : Prop := stateNoneRow.holds Tryz.pinned (OpenSpec.ofChange stateNoneSpec)

/-- ITS FALSE NEIGHBOUR: 'it returns false'. Refute it at one input. -/
def stateNoneWrong : ChangeSpec := { name := "stateNone", fn := fun _ => fun
  | [d1, d2] => { results := [.lit (.bool false)], args := [d1, d2] }
  | _ => none }
def StateNoneWrongFalsely : Prop := stateNoneRow.holds Tryz.pinned (OpenSpec.ofChange stateNoneWrong)

/- THE SECOND FORM. 'bulk': how many values and letters a reading holds, each counted each time it is reached (what is shared counts as often as it is met; a slice's spare places count too). A statement '..UptoSaid' is the law's where the arguments, and the package variables that the reading takes, are together of bulk at most 1048576: NARROWER than '..Said'. Prove '..Said' where nothing that the law and all that it calls make is longer than what came in: it says more and counts as full. Else prove '..UptoSaid'. A law counts once. -/
mutual
def uptoBulk {H : Type} : DataW H → Nat
  | .lit (.string bytes) => bytes.length + 1
  | .lit _ => 1
  | .nil => 1
  | .ptr d => uptoBulk d + 1
  | .slice elems spare => uptoBulkAll elems + uptoBulkAll spare + 1
  | .agg parts => uptoBulkAll parts + 1
  | .iface _ d => uptoBulk d + 1
  | .map entries => uptoBulkEntries entries + 1
  | .held _ => 1
def uptoBulkAll {H : Type} : List (DataW H) → Nat
  | [] => 0
  | d :: r => uptoBulk d + uptoBulkAll r
def uptoBulkEntries {H : Type} : List (Lit × DataW H) → Nat
  | [] => 0
  | x :: r => uptoBulkEntry x + uptoBulkEntries r
def uptoBulkEntry {H : Type} : Lit × DataW H → Nat
  | (.string bytes, d) => bytes.length + uptoBulk d + 1
  | (_, d) => uptoBulk d + 1
 end
def uptoSmall : (H : Type) → List (DataW H) → Bool := fun _ ds => decide (uptoBulkAll ds ≤ 1048576)
def OpenSpec.upto (s : _root_.Go.ChangeSpec) : _root_.Go.OpenSpec := { _root_.Go.OpenSpec.ofChange s with cond := some uptoSmall }

/-- 'stillagelaw22.StateCopies', WHERE WHAT IT READS IS OF BULK AT MOST 1048576: true; the input reads as it did. -/
def stateCopiesUptoRow : OpenClaim := { program := "ythcclmlbkfadcaagreat", sum := "573fdbec16b82aed81cf2730a3549a943cd578a4f8e03e6a741d05f5dfea4eb0", func := "stillage/stillagelaw22.StateCopies", spec := "stateCopies", inPlace := ["internal/bytealg.abigen_runtime_cmpstring", "slices.overlaps[stillage/api.Load]", "internal/bytealg.Compare"], unfollowed := true, recurses := true, apart := false, narrowed := true }
def StateCopiesUptoSaid : Prop := stateCopiesUptoRow.holds Tryz.pinned (OpenSpec.upto stateCopiesSpec)

/-- 'stillagelaw22.StateAsks', WHERE WHAT IT READS IS OF BULK AT MOST 1048576: true; the input reads as it did. -/
def stateAsksUptoRow : OpenClaim := { program := "ythcclmlbkfadcaagreat", sum := "573fdbec16b82aed81cf2730a3549a943cd578a4f8e03e6a741d05f5dfea4eb0", func := "stillage/stillagelaw22.StateAsks", spec := "stateAsks", inPlace := ["internal/bytealg.abigen_runtime_cmpstring", "slices.overlaps[stillage/api.Load]", "internal/bytealg.Compare"], unfollowed := true, recurses := true, apart := false, narrowed := true }
def StateAsksUptoSaid : Prop := stateAsksUptoRow.holds Tryz.pinned (OpenSpec.upto stateAsksSpec)

/-- 'stillagelaw22.StateDoes', WHERE WHAT IT READS IS OF BULK AT MOST 1048576: true; the input reads as it did. -/
def stateDoesUptoRow : OpenClaim := { program := "ythcclmlbkfadcaagreat", sum := "573fdbec16b82aed81cf2730a3549a943cd578a4f8e03e6a741d05f5dfea4eb0", func := "stillage/stillagelaw22.StateDoes", spec := "stateDoes", inPlace := ["internal/bytealg.abigen_runtime_cmpstring", "slices.overlaps[stillage/api.Load]", "internal/bytealg.Compare"], unfollowed := true, recurses := true, apart := false, narrowed := true }
def StateDoesUptoSaid : Prop := stateDoesUptoRow.holds Tryz.pinned (OpenSpec.upto stateDoesSpec)

/-- 'stillagelaw22.StateForgets', WHERE WHAT IT READS IS OF BULK AT MOST 1048576: true; the input reads as it did. -/
def stateForgetsUptoRow : OpenClaim := { program := "ythcclmlbkfadcaagreat", sum := "573fdbec16b82aed81cf2730a3549a943cd578a4f8e03e6a741d05f5dfea4eb0", func := "stillage/stillagelaw22.StateForgets", spec := "stateForgets", inPlace := ["internal/bytealg.abigen_runtime_cmpstring", "slices.overlaps[stillage/api.Load]", "internal/bytealg.Compare"], unfollowed := true, recurses := true, apart := false, narrowed := true }
def StateForgetsUptoSaid : Prop := stateForgetsUptoRow.holds Tryz.pinned (OpenSpec.upto stateForgetsSpec)

/-- 'stillagelaw22.StateNone', WHERE WHAT IT READS IS OF BULK AT MOST 1048576: true; the input reads as it did. -/
def stateNoneUptoRow : OpenClaim := { program := "ythcclmlbkfadcaagreat", sum := "573fdbec16b82aed81cf2730a3549a943cd578a4f8e03e6a741d05f5dfea4eb0", func := "stillage/stillagelaw22.StateNone", spec := "stateNone", inPlace := ["internal/bytealg.abigen_runtime_cmpstring", "slices.overlaps[stillage/api.Load]", "internal/bytealg.Compare"], unfollowed := true, recurses := true, apart := false, narrowed := true }
def StateNoneUptoSaid : Prop := stateNoneUptoRow.holds Tryz.pinned (OpenSpec.upto stateNoneSpec)

end Rows
end Go.Proofs.YthcclmlbkfadcaaGreat
