/-
  DERIVED. GIVEN WITH THE SEED: THE CARDS: each row of YtegihbpdemjeaaaDoorRows.lean that lists a variable, with what it lists TIED to the program's text (the seventh form; the later family's looks); each row that meets fmt, with fmt's text TOLD by the authors' own Lean function (tested against real Go, not proved from fmt's source: count such statements apart). THE CARD IS WHAT COUNTS. Prove the row's statement (the work); the ties are given (YtegihbpdemjeaaaDoorTie.lean); close each card by the builder's one call (the guide's Derived/Test/ToyasCard.lean, 'card_holds'). Laid BY PROGRAM, IN A SANDBOX (cutbox-door.mjs). By AI agents, Wed Nov 11 2026. No macro, syntax, notation, axiom, sorry.
-/
import Derived.Test.YtegihbpdemjeaaaDoorRows
import GoSem.ClaimSeven
namespace Go.Proofs.YtegihbpdemjeaaaDoor
namespace Rows

/-- THE TIED CARD OF 'stillagelaw51.VersionOrder'. -/
def versionOrderCard : Claim7 := { stood := { row := versionOrderRow, standIns := [], harness := (true, "efe2db14ec95253467032df843fdf0c2bdbd24225fc8d8966857b836f4e6fc8d"), looks := false }, kinds := [], alts := [], laidByText := true, laidKinds := [.data, .pinned], laidTests := true, laidLooks := .later }
def VersionOrderCardSaid : Prop := Claim7.holds Tryd.pinned (.plain (OpenSpec.ofChange versionOrderSpec)) versionOrderCard

/-- THE TIED CARD OF 'stillagelaw51.VersionParts'. -/
def versionPartsCard : Claim7 := { stood := { row := versionPartsRow, standIns := [], harness := (true, "efe2db14ec95253467032df843fdf0c2bdbd24225fc8d8966857b836f4e6fc8d"), looks := false }, kinds := [], alts := [], laidByText := true, laidKinds := [.data, .pinned], laidTests := true, laidLooks := .later }
def VersionPartsCardSaid : Prop := Claim7.holds Tryd.pinned (.plain (OpenSpec.ofChange versionPartsSpec)) versionPartsCard

/-- THE TIED CARD OF 'stillagelaw51.VersionRows'. -/
def versionRowsCard : Claim7 := { stood := { row := versionRowsRow, standIns := [], harness := (true, "efe2db14ec95253467032df843fdf0c2bdbd24225fc8d8966857b836f4e6fc8d"), looks := false }, kinds := [], alts := [], laidByText := true, laidKinds := [.data, .pinned], laidTests := true, laidLooks := .later }
def VersionRowsCardSaid : Prop := Claim7.holds Tryd.pinned (.plain (OpenSpec.ofChange versionRowsSpec)) versionRowsCard

/-- THE SECOND FORM's CARD OF 'stillagelaw51.VersionOrder'. -/
def versionOrderUptoCard : Claim7 := { stood := { row := versionOrderUptoRow, standIns := [], harness := (true, "efe2db14ec95253467032df843fdf0c2bdbd24225fc8d8966857b836f4e6fc8d"), looks := false }, kinds := [], alts := [], laidByText := true, laidKinds := [.data, .pinned], laidTests := true, laidLooks := .later }
def VersionOrderUptoCardSaid : Prop := Claim7.holds Tryd.pinned (.plain (OpenSpec.upto versionOrderSpec)) versionOrderUptoCard

/-- THE SECOND FORM's CARD OF 'stillagelaw51.VersionParts'. -/
def versionPartsUptoCard : Claim7 := { stood := { row := versionPartsUptoRow, standIns := [], harness := (true, "efe2db14ec95253467032df843fdf0c2bdbd24225fc8d8966857b836f4e6fc8d"), looks := false }, kinds := [], alts := [], laidByText := true, laidKinds := [.data, .pinned], laidTests := true, laidLooks := .later }
def VersionPartsUptoCardSaid : Prop := Claim7.holds Tryd.pinned (.plain (OpenSpec.upto versionPartsSpec)) versionPartsUptoCard

/-- THE SECOND FORM's CARD OF 'stillagelaw51.VersionRows'. -/
def versionRowsUptoCard : Claim7 := { stood := { row := versionRowsUptoRow, standIns := [], harness := (true, "efe2db14ec95253467032df843fdf0c2bdbd24225fc8d8966857b836f4e6fc8d"), looks := false }, kinds := [], alts := [], laidByText := true, laidKinds := [.data, .pinned], laidTests := true, laidLooks := .later }
def VersionRowsUptoCardSaid : Prop := Claim7.holds Tryd.pinned (.plain (OpenSpec.upto versionRowsSpec)) versionRowsUptoCard
end Rows
end Go.Proofs.YtegihbpdemjeaaaDoor
