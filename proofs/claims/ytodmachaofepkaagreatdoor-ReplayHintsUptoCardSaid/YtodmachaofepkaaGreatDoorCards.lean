/-
  DERIVED. GIVEN WITH THE SEED: THE CARDS: each row of YtodmachaofepkaaGreatDoorRows.lean that lists a variable, with what it lists TIED to the program's text (the seventh form; the later family's looks); each row that meets fmt, with fmt's text TOLD by the authors' own Lean function (tested against real Go, not proved from fmt's source: count such statements apart). THE CARD IS WHAT COUNTS. Prove the row's statement (the work); the ties are given (YtodmachaofepkaaGreatDoorTie.lean); close each card by the builder's one call (the guide's Derived/Test/ToyasCard.lean, 'card_holds'). Laid BY PROGRAM, IN A SANDBOX (cutbox-door.mjs). By AI agents, Wed Nov 11 2026. No macro, syntax, notation, axiom, sorry.
-/
import Derived.Test.YtodmachaofepkaaGreatDoorRows
import GoSem.ClaimSeven
namespace Go.Proofs.YtodmachaofepkaaGreatDoor
namespace Rows

/-- THE TIED CARD OF 'stillagelaw31.ReplayHints'. -/
def replayHintsCard : Claim7 := { stood := { row := replayHintsRow, standIns := [], harness := (true, "52f85910c9a4db289911e85540fb125cb7d80908e1f03d02291090664a38423f"), looks := false }, kinds := [], alts := [], laidByText := true, laidKinds := [.data, .data, .data], laidTests := true, laidLooks := .later }
def ReplayHintsCardSaid : Prop := Claim7.holds Tryz.pinned (.plain (OpenSpec.ofChange replayHintsSpec)) replayHintsCard

/-- THE SECOND FORM's CARD OF 'stillagelaw31.ReplayHints'. -/
def replayHintsUptoCard : Claim7 := { stood := { row := replayHintsUptoRow, standIns := [], harness := (true, "52f85910c9a4db289911e85540fb125cb7d80908e1f03d02291090664a38423f"), looks := false }, kinds := [], alts := [], laidByText := true, laidKinds := [.data, .data, .data], laidTests := true, laidLooks := .later }
def ReplayHintsUptoCardSaid : Prop := Claim7.holds Tryz.pinned (.plain (OpenSpec.upto replayHintsSpec)) replayHintsUptoCard
end Rows
end Go.Proofs.YtodmachaofepkaaGreatDoor
