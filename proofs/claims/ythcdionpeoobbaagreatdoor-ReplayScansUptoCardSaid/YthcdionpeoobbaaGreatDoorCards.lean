/-
  DERIVED. GIVEN WITH THE SEED: THE CARDS: each row of YthcdionpeoobbaaGreatDoorRows.lean that lists a variable, with what it lists TIED to the program's text (the seventh form; the later family's looks); each row that meets fmt, with fmt's text TOLD by the authors' own Lean function (tested against real Go, not proved from fmt's source: count such statements apart). THE CARD IS WHAT COUNTS. Prove the row's statement (the work); the ties are given (YthcdionpeoobbaaGreatDoorTie.lean); close each card by the builder's one call (the guide's Derived/Test/ToyasCard.lean, 'card_holds'). Laid BY PROGRAM, IN A SANDBOX (cutbox-door.mjs). By AI agents, Wed Nov 11 2026. No macro, syntax, notation, axiom, sorry.
-/
import Derived.Test.YthcdionpeoobbaaGreatDoorRows
import GoSem.ClaimSeven
namespace Go.Proofs.YthcdionpeoobbaaGreatDoor
namespace Rows

/-- THE TIED CARD OF 'stillagelaw31.ReplayScans'. -/
def replayScansCard : Claim7 := { stood := { row := replayScansRow, standIns := [], harness := (true, "7ba4afa97403f6488528ea22d303937b8e058436a7ae4e8e3b48bf0ac9c9ec0c"), looks := false }, kinds := [], alts := [], laidByText := true, laidKinds := [.data, .data, .data], laidTests := true, laidLooks := .later }
def ReplayScansCardSaid : Prop := Claim7.holds Tryz.pinned (.plain (OpenSpec.ofChange replayScansSpec)) replayScansCard

/-- THE SECOND FORM's CARD OF 'stillagelaw31.ReplayScans'. -/
def replayScansUptoCard : Claim7 := { stood := { row := replayScansUptoRow, standIns := [], harness := (true, "7ba4afa97403f6488528ea22d303937b8e058436a7ae4e8e3b48bf0ac9c9ec0c"), looks := false }, kinds := [], alts := [], laidByText := true, laidKinds := [.data, .data, .data], laidTests := true, laidLooks := .later }
def ReplayScansUptoCardSaid : Prop := Claim7.holds Tryz.pinned (.plain (OpenSpec.upto replayScansSpec)) replayScansUptoCard
end Rows
end Go.Proofs.YthcdionpeoobbaaGreatDoor
