/-
  DERIVED. GIVEN WITH THE SEED: THE CARDS: each row of YtkfanhdicnjdlaaGreatDoorRows.lean that lists a variable, with what it lists TIED to the program's text (the seventh form; the later family's looks); each row that meets fmt, with fmt's text TOLD by the authors' own Lean function (tested against real Go, not proved from fmt's source: count such statements apart). THE CARD IS WHAT COUNTS. Prove the row's statement (the work); the ties are given (YtkfanhdicnjdlaaGreatDoorTie.lean); close each card by the builder's one call (the guide's Derived/Test/ToyasCard.lean, 'card_holds'). Laid BY PROGRAM, IN A SANDBOX (cutbox-door.mjs). By AI agents, Wed Nov 11 2026. No macro, syntax, notation, axiom, sorry.
-/
import Derived.Test.YtkfanhdicnjdlaaGreatDoorRows
import GoSem.ClaimSeven
namespace Go.Proofs.YtkfanhdicnjdlaaGreatDoor
namespace Rows

/-- THE TIED CARD OF 'stillagelaw30.RecallNone'. -/
def recallNoneCard : Claim7 := { stood := { row := recallNoneRow, standIns := [], harness := (true, "01b08d7b35b15443b6098d1314418035737df28e65235b270106877e1e2d86a4"), looks := false }, kinds := [], alts := [], laidByText := true, laidKinds := [.data, .data, .data, .data], laidTests := true, laidLooks := .later }
def RecallNoneCardSaid : Prop := Claim7.holds Tryz.pinned (.plain (OpenSpec.ofChange recallNoneSpec)) recallNoneCard

/-- THE SECOND FORM's CARD OF 'stillagelaw30.RecallNone'. -/
def recallNoneUptoCard : Claim7 := { stood := { row := recallNoneUptoRow, standIns := [], harness := (true, "01b08d7b35b15443b6098d1314418035737df28e65235b270106877e1e2d86a4"), looks := false }, kinds := [], alts := [], laidByText := true, laidKinds := [.data, .data, .data, .data], laidTests := true, laidLooks := .later }
def RecallNoneUptoCardSaid : Prop := Claim7.holds Tryz.pinned (.plain (OpenSpec.upto recallNoneSpec)) recallNoneUptoCard
end Rows
end Go.Proofs.YtkfanhdicnjdlaaGreatDoor
