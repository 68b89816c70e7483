/- The two tables that the rows list: a world for the witness that holds them. -/
import Derived.Test.YtlgonkopojancaaDoorCards
import Derived.Test.YtlgonkopojancaaDoorTie
import Derived.WalkKit
import Derived.ProofKit
import Derived.OpenShut
import Derived.Deep.DeepHandedRow
import Derived.Lib.LaidTab
namespace Go.Proofs.YtlgonkopojancaaDoor
open Go.ChangeShapes Go.WideShapes Go.ChangeAt Go.RowKit

def accCells : Array Value := (#[128, 191, 160, 191, 128, 159, 144, 191, 128, 143, 0, 0, 0, 0, 0, 0, 0, 0, 0, 0, 0, 0, 0, 0, 0, 0, 0, 0, 0, 0, 0, 0] : Array Int).map (Value.int .u8)
def firstCells : Array Value := (Pinned.utf8FirstZ.map (fun n : Nat => Value.int .u8 (n : Int))).toArray
def setFirst : Obj → Obj
  | .cells _ t frozen => .cells firstCells t frozen
  | o => o
def setAcc : Obj → Obj
  | .cells _ t frozen => .cells accCells t frozen
  | o => o
/-- A world for the witness: the settled one, the two tables holding what their initialisers lay. -/
noncomputable def laidWorld (os : Os) : World :=
  { World.holding Tryd.prog os ⟨#[], #[], []⟩ with heap := ((World.holding Tryd.prog os ⟨#[], #[], []⟩).heap.modify 1 setFirst).modify 2 setAcc }
set_option maxRecDepth 100000 in
theorem laid_met (os : Os) : laidMet Tryd.prog Rows.filesNamesRow.laid ((laidWorld os).forCall (fun _ _ => 0) ⟨#[], #[], []⟩).memory :=
  laidMet_of_run' 400 (by kernel_rfl) (by kernel_rfl)
end Go.Proofs.YtlgonkopojancaaDoor
