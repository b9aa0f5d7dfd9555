/-
  DERIVED. GIVEN WITH THE SEED: THE CARDS: each row of YthebinboklhdhaaDoorRows.lean that lists a variable, with what it lists TIED to the program's text (the seventh form; the later family's looks); each row that meets fmt, with fmt's text TOLD by the authors' own Lean function (tested against real Go, not proved from fmt's source: count such statements apart). THE CARD IS WHAT COUNTS. Prove the row's statement (the work); the ties are given (YthebinboklhdhaaDoorTie.lean); close each card by the builder's one call (the guide's Derived/Test/ToyasCard.lean, 'card_holds'). Laid BY PROGRAM, IN A SANDBOX (cutbox-door.mjs). By AI agents, Wed Nov 11 2026. No macro, syntax, notation, axiom, sorry.
-/
import Derived.Test.YthebinboklhdhaaDoorRows
import GoSem.ClaimSeven
namespace Go.Proofs.YthebinboklhdhaaDoor
namespace Rows

/-- THE TIED CARD OF 'stillagelaw08.NameFiles'. -/
def nameFilesCard : Claim7 := { stood := { row := nameFilesRow, standIns := [], harness := (true, "0c48250fdd30469c094b33fd6305dc2d124cb3477a921f34d44e0525aa3d6175"), looks := true }, kinds := [], alts := [], laidByText := true, laidKinds := [.data, .data, .data, .sentinel, .sentinel], laidTests := true, laidLooks := .later }
def NameFilesCardSaid : Prop := Claim7.holds Tryd.pinned (.plain (OpenSpec.ofChange nameFilesSpec)) nameFilesCard

/-- THE TIED CARD OF 'stillagelaw08.NameTags'. -/
def nameTagsCard : Claim7 := { stood := { row := nameTagsRow, standIns := [], harness := (true, "0c48250fdd30469c094b33fd6305dc2d124cb3477a921f34d44e0525aa3d6175"), looks := true }, kinds := [], alts := [], laidByText := true, laidKinds := [.data, .data, .data, .sentinel, .sentinel], laidTests := true, laidLooks := .later }
def NameTagsCardSaid : Prop := Claim7.holds Tryd.pinned (.plain (OpenSpec.ofChange nameTagsSpec)) nameTagsCard

/-- THE TIED CARD OF 'stillagelaw08.NameBack'. -/
def nameBackCard : Claim7 := { stood := { row := nameBackRow, standIns := [], harness := (true, "0c48250fdd30469c094b33fd6305dc2d124cb3477a921f34d44e0525aa3d6175"), looks := true }, kinds := [], alts := [], laidByText := true, laidKinds := [.data, .data, .data, .sentinel, .sentinel], laidTests := true, laidLooks := .later }
def NameBackCardSaid : Prop := Claim7.holds Tryd.pinned (.plain (OpenSpec.ofChange nameBackSpec)) nameBackCard

/-- THE SECOND FORM's CARD OF 'stillagelaw08.NameFiles'. -/
def nameFilesUptoCard : Claim7 := { stood := { row := nameFilesUptoRow, standIns := [], harness := (true, "0c48250fdd30469c094b33fd6305dc2d124cb3477a921f34d44e0525aa3d6175"), looks := true }, kinds := [], alts := [], laidByText := true, laidKinds := [.data, .data, .data, .sentinel, .sentinel], laidTests := true, laidLooks := .later }
def NameFilesUptoCardSaid : Prop := Claim7.holds Tryd.pinned (.plain (OpenSpec.upto nameFilesSpec)) nameFilesUptoCard

/-- THE SECOND FORM's CARD OF 'stillagelaw08.NameTags'. -/
def nameTagsUptoCard : Claim7 := { stood := { row := nameTagsUptoRow, standIns := [], harness := (true, "0c48250fdd30469c094b33fd6305dc2d124cb3477a921f34d44e0525aa3d6175"), looks := true }, kinds := [], alts := [], laidByText := true, laidKinds := [.data, .data, .data, .sentinel, .sentinel], laidTests := true, laidLooks := .later }
def NameTagsUptoCardSaid : Prop := Claim7.holds Tryd.pinned (.plain (OpenSpec.upto nameTagsSpec)) nameTagsUptoCard

/-- THE SECOND FORM's CARD OF 'stillagelaw08.NameBack'. -/
def nameBackUptoCard : Claim7 := { stood := { row := nameBackUptoRow, standIns := [], harness := (true, "0c48250fdd30469c094b33fd6305dc2d124cb3477a921f34d44e0525aa3d6175"), looks := true }, kinds := [], alts := [], laidByText := true, laidKinds := [.data, .data, .data, .sentinel, .sentinel], laidTests := true, laidLooks := .later }
def NameBackUptoCardSaid : Prop := Claim7.holds Tryd.pinned (.plain (OpenSpec.upto nameBackSpec)) nameBackUptoCard
end Rows
end Go.Proofs.YthebinboklhdhaaDoor
