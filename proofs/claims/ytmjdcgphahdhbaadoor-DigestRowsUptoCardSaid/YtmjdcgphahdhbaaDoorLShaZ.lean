/- For the closings of rows that list sha.constants. -/
import Derived.Test.YtmjdcgphahdhbaaDoorCards
import Derived.Test.YtmjdcgphahdhbaaDoorTie
import Derived.Test.YtmjdcgphahdhbaaDoorLZ
import Derived.Test.YtmjdcgphahdhbaaDoorLShaT
import Derived.Deep.DeepHandedRow
import Derived.Lib.LaidTab
namespace Go.Proofs.YtmjdcgphahdhbaaDoor
open Go.GV Go.ChangeShapes Go.WideShapes Go.ChangeAt Go.RowKit
set_option linter.unusedVariables false
theorem gTab : Tryd.prog.globalNamed "stillage/sha.constants" = some 1 := by kernel_rfl
theorem gTabType : (Tryd.prog.globals[1]?).map (·.type) = some 97 := by kernel_rfl
theorem cellsT : Tryd.prog.cellsOf 97 = 64 := by kernel_rfl
theorem cellsE : Tryd.prog.cellsOf 66 = 1 := by kernel_rfl
def KI : List Int := KC.map fun a => (a.toNat : Int)
def laidL : List (String × DataW Unit) := [("stillage/sha.constants", Rows.laid_stillage_sha_constants)]
theorem table {W : World} (h : laidMet Tryd.prog laidL W) : Lib.TabIs Tryd.prog W "stillage/sha.constants" .u32 KI :=
  Lib.tabIs_of_head (rest := []) gTab gTabType Tryd.underlying97 Tryd.underlying66 cellsE cellsT h
theorem kAt {W : World} (h : laidMet Tryd.prog laidL W) : KAt W := by
  intro j v hj
  have hjl := (List.getElem?_eq_some_iff.1 hj).1
  have hl : KI.length = KC.length := List.length_map _
  rw [List.length_map] at hjl
  have hc := (table h).cell gTab j (by omega)
  rw [Nat.zero_add]
  show W.cell? _ = _
  rw [hc]
  rw [List.getElem?_map, List.getElem?_eq_getElem hjl] at hj
  injection hj with hj
  rw [← hj]
  unfold KI wv
  rw [List.getD_eq_getElem?_getD, List.getElem?_map, List.getElem?_eq_getElem hjl]
  rfl
/-- a world for the witness: the settled one, the table holding what its initialiser lays -/
noncomputable def laidWorld (os : Os) : World :=
  { World.holding Tryd.prog os ⟨#[], #[], []⟩ with heap := (World.holding Tryd.prog os ⟨#[], #[], []⟩).heap.modify 1 fun
      | .cells _ t frozen => .cells (KC.map wv).toArray t frozen
      | o => o }
end Go.Proofs.YtmjdcgphahdhbaaDoor
