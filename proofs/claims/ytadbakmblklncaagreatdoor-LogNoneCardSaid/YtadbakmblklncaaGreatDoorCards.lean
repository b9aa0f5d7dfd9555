/-
  DERIVED. GIVEN WITH THE SEED: THE CARDS: each row of YtadbakmblklncaaGreatDoorRows.lean that lists a variable, with what it lists TIED to the program's text (the seventh form; the later family's looks); each row that meets fmt, with fmt's text TOLD by the authors' own Lean function (tested against real Go, not proved from fmt's source: count such statements apart). THE CARD IS WHAT COUNTS. Prove the row's statement (the work); the ties are given (YtadbakmblklncaaGreatDoorTie.lean); close each card by the builder's one call (the guide's Derived/Test/ToyasCard.lean, 'card_holds'). Laid BY PROGRAM, IN A SANDBOX (cutbox-door.mjs). By AI agents, Wed Nov 11 2026. No macro, syntax, notation, axiom, sorry.
-/
import Derived.Test.YtadbakmblklncaaGreatDoorRows
import GoSem.ClaimSeven
namespace Go.Proofs.YtadbakmblklncaaGreatDoor
namespace Rows

/-- THE TIED CARD OF 'stillagelaw29.LogNone'. -/
def logNoneCard : Claim7 := { stood := { row := logNoneRow, standIns := [], harness := (true, "e21cecf627615abfe46c501333f57d7638d55fd76ba0841f702a70f0ac3b8f5b"), looks := false }, kinds := [], alts := [], laidByText := true, laidKinds := [.data, .data, .data], laidTests := true, laidLooks := .later }
def LogNoneCardSaid : Prop := Claim7.holds Tryz.pinned (.plain (OpenSpec.ofChange logNoneSpec)) logNoneCard

/-- THE SECOND FORM's CARD OF 'stillagelaw29.LogNone'. -/
def logNoneUptoCard : Claim7 := { stood := { row := logNoneUptoRow, standIns := [], harness := (true, "e21cecf627615abfe46c501333f57d7638d55fd76ba0841f702a70f0ac3b8f5b"), looks := false }, kinds := [], alts := [], laidByText := true, laidKinds := [.data, .data, .data], laidTests := true, laidLooks := .later }
def LogNoneUptoCardSaid : Prop := Claim7.holds Tryz.pinned (.plain (OpenSpec.upto logNoneSpec)) logNoneUptoCard
end Rows
end Go.Proofs.YtadbakmblklncaaGreatDoor
