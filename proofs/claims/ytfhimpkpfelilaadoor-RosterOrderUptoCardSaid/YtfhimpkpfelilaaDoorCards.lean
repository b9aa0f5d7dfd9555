/-
  DERIVED. GIVEN WITH THE SEED: THE CARDS: each row of YtfhimpkpfelilaaDoorRows.lean that lists a variable, with what it lists TIED to the program's text (the seventh form; the later family's looks); each row that meets fmt, with fmt's text TOLD by the authors' own Lean function (tested against real Go, not proved from fmt's source: count such statements apart). THE CARD IS WHAT COUNTS. Prove the row's statement (the work); the ties are given (YtfhimpkpfelilaaDoorTie.lean); close each card by the builder's one call (the guide's Derived/Test/ToyasCard.lean, 'card_holds'). Laid BY PROGRAM, IN A SANDBOX (cutbox-door.mjs). By AI agents, Wed Nov 11 2026. No macro, syntax, notation, axiom, sorry.
-/
import Derived.Test.YtfhimpkpfelilaaDoorRows
import GoSem.ClaimSeven
namespace Go.Proofs.YtfhimpkpfelilaaDoor
namespace Rows

/-- THE TIED CARD OF 'stillagelaw26.RosterOrder'. -/
def rosterOrderCard : Claim7 := { stood := { row := rosterOrderRow, standIns := [], harness := (true, "653c78b99bdd5c3de17c69bdcc8b891bf093f3ad2f668071f44fa32c95645703"), looks := true }, kinds := [], alts := [], laidByText := true, laidKinds := [.data, .data, .data, .sentinel, .sentinel], laidTests := true, laidLooks := .later }
def RosterOrderCardSaid : Prop := Claim7.holds Tryd.pinned (.plain (OpenSpec.ofChange rosterOrderSpec)) rosterOrderCard

/-- THE SECOND FORM's CARD OF 'stillagelaw26.RosterOrder'. -/
def rosterOrderUptoCard : Claim7 := { stood := { row := rosterOrderUptoRow, standIns := [], harness := (true, "653c78b99bdd5c3de17c69bdcc8b891bf093f3ad2f668071f44fa32c95645703"), looks := true }, kinds := [], alts := [], laidByText := true, laidKinds := [.data, .data, .data, .sentinel, .sentinel], laidTests := true, laidLooks := .later }
def RosterOrderUptoCardSaid : Prop := Claim7.holds Tryd.pinned (.plain (OpenSpec.upto rosterOrderSpec)) rosterOrderUptoCard
end Rows
end Go.Proofs.YtfhimpkpfelilaaDoor
