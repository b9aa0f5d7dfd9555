/-
  No cell of these rows narrows 'for every input' (looked for: loops, veiled, ifaces, maps, wideKeys, modest, calm, conditions, laid).
  DERIVED. THE GIVEN ROWS OF THIS SEAT. 3 by the template 'for every input the law returns true; each argument reads behind the call as it read before'; 0 by the template 'total and deterministic' (their statements: YtiiabhgcmgfgfaaTotals.lean).
  GIVEN WITH THE SEED: the statements are not yours to turn. If you find one false, say at which input.
  Laid BY PROGRAM, IN A SANDBOX (cutbox-rows.mjs): the forced cells as the released guide's own fill.sh prints them over the translation b49193ffad5577d0… (all of the seat's roots in one cut). By AI agents, Wed Nov 11 2026. No macro, syntax, notation, axiom, sorry.
-/
import Derived.Test.YtiiabhgcmgfgfaaChecked
import GoSem.Claim
import GoSem.ClaimJoined
import GoSem.ClaimMapViews
import Derived.JoinedTies
import Derived.KernelRfl
namespace Go.Proofs.Ytiiabhgcmgfgfaa
/- THE CELL 'sum', in the pinned program and in every row, IS THE sha256 OF THE DUMP (.gsa) THAT YtiiabhgcmgfgfaaProg.lean LOADS. Nothing in Lean hashes anything: it is a label: what it is worth is what the hold of that sum in a sandbox is worth. -/
noncomputable def Try.pinned : Pinned := { name := "ytiiabhgcmgfgfaa", sum := "b49193ffad5577d00fcfc3f984e40b3183bc0bcc92436c7420a293366bbe925c", checked := Try.checked }
namespace Rows
def none {H : Type} : Left H := { results := [], args := [] }

/-- 'stillagelaw19.EntryFewer': WHATEVER THE INPUT: true; the input reads as it did. -/
def entryFewerSpec : ChangeSpec := { name := "entryFewer", fn := fun _ => fun
  | [d1, d2, d3] => { results := [.lit (.bool true)], args := [d1, d2, d3] }
  | _ => none }
def entryFewerRow : OpenClaim := { program := "ytiiabhgcmgfgfaa", sum := "b49193ffad5577d00fcfc3f984e40b3183bc0bcc92436c7420a293366bbe925c", func := "stillage/stillagelaw19.EntryFewer", spec := "entryFewer", unfollowed := true, recurses := true, apart := false }
def EntryFewerSaid : Prop := entryFewerRow.holds Try.pinned (OpenSpec.ofChange entryFewerSpec)

/-- ITS FALSE NEIGHBOUR: 'it returns false'. Refute it at one input. -/
def entryFewerWrong : ChangeSpec := { name := "entryFewer", fn := fun _ => fun
  | [d1, d2, d3] => { results := [.lit (.bool false)], args := [d1, d2, d3] }
  | _ => none }
def EntryFewerWrongFalsely : Prop := entryFewerRow.holds Try.pinned (OpenSpec.ofChange entryFewerWrong)

/-- 'stillagelaw19.EntryBehind': WHATEVER THE INPUT: true; the input reads as it did. -/
def entryBehindSpec : ChangeSpec := { name := "entryBehind", fn := fun _ => fun
  | [d1, d2, d3] => { results := [.lit (.bool true)], args := [d1, d2, d3] }
  | _ => none }
def entryBehindRow : OpenClaim := { program := "ytiiabhgcmgfgfaa", sum := "b49193ffad5577d00fcfc3f984e40b3183bc0bcc92436c7420a293366bbe925c", func := "stillage/stillagelaw19.EntryBehind", spec := "entryBehind", unfollowed := true, recurses := true, apart := false }
def EntryBehindSaid : Prop := entryBehindRow.holds Try.pinned (OpenSpec.ofChange entryBehindSpec)

/-- ITS FALSE NEIGHBOUR: 'it returns false'. Refute it at one input. -/
def entryBehindWrong : ChangeSpec := { name := "entryBehind", fn := fun _ => fun
  | [d1, d2, d3] => { results := [.lit (.bool false)], args := [d1, d2, d3] }
  | _ => none }
def EntryBehindWrongFalsely : Prop := entryBehindRow.holds Try.pinned (OpenSpec.ofChange entryBehindWrong)

/-- 'stillagelaw19.EntryKeeps': WHATEVER THE INPUT: true; the input reads as it did. -/
def entryKeepsSpec : ChangeSpec := { name := "entryKeeps", fn := fun _ => fun
  | [d1, d2, d3] => { results := [.lit (.bool true)], args := [d1, d2, d3] }
  | _ => none }
def entryKeepsRow : OpenClaim := { program := "ytiiabhgcmgfgfaa", sum := "b49193ffad5577d00fcfc3f984e40b3183bc0bcc92436c7420a293366bbe925c", func := "stillage/stillagelaw19.EntryKeeps", spec := "entryKeeps", unfollowed := true, recurses := true, apart := false }
def EntryKeepsSaid : Prop := entryKeepsRow.holds Try.pinned (OpenSpec.ofChange entryKeepsSpec)

/-- ITS FALSE NEIGHBOUR: 'it returns false'. Refute it at one input. -/
def entryKeepsWrong : ChangeSpec := { name := "entryKeeps", fn := fun _ => fun
  | [d1, d2, d3] => { results := [.lit (.bool false)], args := [d1, d2, d3] }
  | _ => none }
def EntryKeepsWrongFalsely : Prop := entryKeepsRow.holds Try.pinned (OpenSpec.ofChange entryKeepsWrong)

/- THE SECOND FORM. 'bulk': how many values and letters a reading holds, each counted each time it is reached (what is shared counts as often as it is met; a slice's spare places count too). A statement '..UptoSaid' is the law's where the arguments, and the package variables that the reading takes, are together of bulk at most 1048576: NARROWER than '..Said'. Prove '..Said' where nothing that the law and all that it calls make is longer than what came in: it says more and counts as full. Else prove '..UptoSaid'. A law counts once. -/
mutual
def uptoBulk {H : Type} : DataW H → Nat
  | .lit (.string bytes) => bytes.length + 1
  | .lit _ => 1
  | .nil => 1
  | .ptr d => uptoBulk d + 1
  | .slice elems spare => uptoBulkAll elems + uptoBulkAll spare + 1
  | .agg parts => uptoBulkAll parts + 1
  | .iface _ d => uptoBulk d + 1
  | .map entries => uptoBulkEntries entries + 1
  | .held _ => 1
def uptoBulkAll {H : Type} : List (DataW H) → Nat
  | [] => 0
  | d :: r => uptoBulk d + uptoBulkAll r
def uptoBulkEntries {H : Type} : List (Lit × DataW H) → Nat
  | [] => 0
  | x :: r => uptoBulkEntry x + uptoBulkEntries r
def uptoBulkEntry {H : Type} : Lit × DataW H → Nat
  | (.string bytes, d) => bytes.length + uptoBulk d + 1
  | (_, d) => uptoBulk d + 1
 end
def uptoSmall : (H : Type) → List (DataW H) → Bool := fun _ ds => decide (uptoBulkAll ds ≤ 1048576)
def OpenSpec.upto (s : _root_.Go.ChangeSpec) : _root_.Go.OpenSpec := { _root_.Go.OpenSpec.ofChange s with cond := some uptoSmall }

/-- 'stillagelaw19.EntryFewer', WHERE WHAT IT READS IS OF BULK AT MOST 1048576: true; the input reads as it did. -/
def entryFewerUptoRow : OpenClaim := { program := "ytiiabhgcmgfgfaa", sum := "b49193ffad5577d00fcfc3f984e40b3183bc0bcc92436c7420a293366bbe925c", func := "stillage/stillagelaw19.EntryFewer", spec := "entryFewer", unfollowed := true, recurses := true, apart := false, narrowed := true }
def EntryFewerUptoSaid : Prop := entryFewerUptoRow.holds Try.pinned (OpenSpec.upto entryFewerSpec)

/-- 'stillagelaw19.EntryBehind', WHERE WHAT IT READS IS OF BULK AT MOST 1048576: true; the input reads as it did. -/
def entryBehindUptoRow : OpenClaim := { program := "ytiiabhgcmgfgfaa", sum := "b49193ffad5577d00fcfc3f984e40b3183bc0bcc92436c7420a293366bbe925c", func := "stillage/stillagelaw19.EntryBehind", spec := "entryBehind", unfollowed := true, recurses := true, apart := false, narrowed := true }
def EntryBehindUptoSaid : Prop := entryBehindUptoRow.holds Try.pinned (OpenSpec.upto entryBehindSpec)

/-- 'stillagelaw19.EntryKeeps', WHERE WHAT IT READS IS OF BULK AT MOST 1048576: true; the input reads as it did. -/
def entryKeepsUptoRow : OpenClaim := { program := "ytiiabhgcmgfgfaa", sum := "b49193ffad5577d00fcfc3f984e40b3183bc0bcc92436c7420a293366bbe925c", func := "stillage/stillagelaw19.EntryKeeps", spec := "entryKeeps", unfollowed := true, recurses := true, apart := false, narrowed := true }
def EntryKeepsUptoSaid : Prop := entryKeepsUptoRow.holds Try.pinned (OpenSpec.upto entryKeepsSpec)

end Rows
end Go.Proofs.Ytiiabhgcmgfgfaa
