/- chapter 51: a world that has what the rows list -/
import Derived.Test.YtegihbpdemjeaaaDoorCards
import Derived.Test.YtegihbpdemjeaaaDoorTie
import Derived.Test.YtegihbpdemjeaaaDoorLZ
import Derived.Test.YtegihbpdemjeaaaDoorHE
import Derived.Test.YtegihbpdemjeaaaDoorG11
import Derived.Deep.DeepHandedRow
import Derived.Lib.LaidTab
namespace Go.Proofs.YtegihbpdemjeaaaDoor
open Go.GV Go.ChangeShapes Go.WideShapes Go.ChangeAt Go.RowKit
set_option linter.unusedVariables false
/-- a world for the witness: the settled one, with what the initialisers lay -/
noncomputable def laidWorld (os : Os) : World :=
  let w0 := World.holding Tryd.prog os ⟨#[], #[], []⟩
  { w0 with heap := (w0.heap.modify 2 fun
      | .cells _ t frozen => .cells (([128, 191, 160, 191, 128, 159, 144, 191, 128, 143, 0, 0, 0, 0, 0, 0, 0, 0, 0, 0, 0, 0, 0, 0, 0, 0, 0, 0, 0, 0, 0, 0] : List Int).map fun x => Value.int .u8 x).toArray t frozen
      | o => o).modify 1 fun
      | .cells _ t frozen => .cells (Go.Pinned.utf8FirstZ.map fun (x : Nat) => Value.int .u8 x).toArray t frozen
      | o => o }
theorem ba_self (s : ByteArray) : ba s.data.toList = s := (ba_of s).symm
end Go.Proofs.YtegihbpdemjeaaaDoor
