/-
  DERIVED. GIVEN WITH THE SEED: THE CARDS: each row of YtmjdcgphahdhbaaDoorRows.lean that lists a variable, with what it lists TIED to the program's text (the seventh form; the later family's looks); each row that meets fmt, with fmt's text TOLD by the authors' own Lean function (tested against real Go, not proved from fmt's source: count such statements apart). THE CARD IS WHAT COUNTS. Prove the row's statement (the work); the ties are given (YtmjdcgphahdhbaaDoorTie.lean); close each card by the builder's one call (the guide's Derived/Test/ToyasCard.lean, 'card_holds'). Laid BY PROGRAM, IN A SANDBOX (cutbox-door.mjs). By AI agents, Wed Nov 11 2026. No macro, syntax, notation, axiom, sorry.
-/
import Derived.Test.YtmjdcgphahdhbaaDoorRows
import GoSem.ClaimSeven
namespace Go.Proofs.YtmjdcgphahdhbaaDoor
namespace Rows

/-- THE TIED CARD OF 'stillagelaw06.DigestOrder'. -/
def digestOrderCard : Claim7 := { stood := { row := digestOrderRow, standIns := [], harness := (true, "a392634986b041054a119ead015d8ebc2abd9e080bf21179d8544cc16c008909"), looks := false }, kinds := [], alts := [], laidByText := true, laidKinds := [.data], laidTests := true, laidLooks := .later }
def DigestOrderCardSaid : Prop := Claim7.holds Tryd.pinned (.plain (OpenSpec.ofChange digestOrderSpec)) digestOrderCard

/-- THE TIED CARD OF 'stillagelaw06.DigestTexts'. -/
def digestTextsCard : Claim7 := { stood := { row := digestTextsRow, standIns := [], harness := (true, "a392634986b041054a119ead015d8ebc2abd9e080bf21179d8544cc16c008909"), looks := false }, kinds := [], alts := [], laidByText := true, laidKinds := [.data], laidTests := true, laidLooks := .later }
def DigestTextsCardSaid : Prop := Claim7.holds Tryd.pinned (.plain (OpenSpec.ofChange digestTextsSpec)) digestTextsCard

/-- THE TIED CARD OF 'stillagelaw06.DigestBack'. -/
def digestBackCard : Claim7 := { stood := { row := digestBackRow, standIns := [], harness := (true, "a392634986b041054a119ead015d8ebc2abd9e080bf21179d8544cc16c008909"), looks := false }, kinds := [], alts := [], laidByText := true, laidKinds := [.data], laidTests := true, laidLooks := .later }
def DigestBackCardSaid : Prop := Claim7.holds Tryd.pinned (.plain (OpenSpec.ofChange digestBackSpec)) digestBackCard

/-- THE TIED CARD OF 'stillagelaw06.DigestRows'. -/
def digestRowsCard : Claim7 := { stood := { row := digestRowsRow, standIns := [], harness := (true, "a392634986b041054a119ead015d8ebc2abd9e080bf21179d8544cc16c008909"), looks := false }, kinds := [], alts := [], laidByText := true, laidKinds := [.data], laidTests := true, laidLooks := .later }
def DigestRowsCardSaid : Prop := Claim7.holds Tryd.pinned (.plain (OpenSpec.ofChange digestRowsSpec)) digestRowsCard

/-- THE SECOND FORM's CARD OF 'stillagelaw06.DigestOrder'. -/
def digestOrderUptoCard : Claim7 := { stood := { row := digestOrderUptoRow, standIns := [], harness := (true, "a392634986b041054a119ead015d8ebc2abd9e080bf21179d8544cc16c008909"), looks := false }, kinds := [], alts := [], laidByText := true, laidKinds := [.data], laidTests := true, laidLooks := .later }
def DigestOrderUptoCardSaid : Prop := Claim7.holds Tryd.pinned (.plain (OpenSpec.upto digestOrderSpec)) digestOrderUptoCard

/-- THE SECOND FORM's CARD OF 'stillagelaw06.DigestTexts'. -/
def digestTextsUptoCard : Claim7 := { stood := { row := digestTextsUptoRow, standIns := [], harness := (true, "a392634986b041054a119ead015d8ebc2abd9e080bf21179d8544cc16c008909"), looks := false }, kinds := [], alts := [], laidByText := true, laidKinds := [.data], laidTests := true, laidLooks := .later }
def DigestTextsUptoCardSaid : Prop := Claim7.holds Tryd.pinned (.plain (OpenSpec.upto digestTextsSpec)) digestTextsUptoCard

/-- THE SECOND FORM's CARD OF 'stillagelaw06.DigestBack'. -/
def digestBackUptoCard : Claim7 := { stood := { row := digestBackUptoRow, standIns := [], harness := (true, "a392634986b041054a119ead015d8ebc2abd9e080bf21179d8544cc16c008909"), looks := false }, kinds := [], alts := [], laidByText := true, laidKinds := [.data], laidTests := true, laidLooks := .later }
def DigestBackUptoCardSaid : Prop := Claim7.holds Tryd.pinned (.plain (OpenSpec.upto digestBackSpec)) digestBackUptoCard

/-- THE SECOND FORM's CARD OF 'stillagelaw06.DigestRows'. -/
def digestRowsUptoCard : Claim7 := { stood := { row := digestRowsUptoRow, standIns := [], harness := (true, "a392634986b041054a119ead015d8ebc2abd9e080bf21179d8544cc16c008909"), looks := false }, kinds := [], alts := [], laidByText := true, laidKinds := [.data], laidTests := true, laidLooks := .later }
def DigestRowsUptoCardSaid : Prop := Claim7.holds Tryd.pinned (.plain (OpenSpec.upto digestRowsSpec)) digestRowsUptoCard
end Rows
end Go.Proofs.YtmjdcgphahdhbaaDoor
