/- A world that meets the rows' conditions on variables: the settled one with the three tables laid. No conditions. -/
import Derived.Test.YthhlfcbkggahmaaDoorRowBase
namespace Go.Proofs.YthhlfcbkggahmaaDoor
open Go.ChangeShapes Go.WideShapes Go.ChangeAt Go.RowKit
/-- One variable's row turned. -/
def layRow (g : Nat) (zs : List Int) (w : World) : World :=
  { w with heap := w.heap.modify g fun
      | .cells _ t frozen => .cells (zs.map fun z => Value.int .u32 z).toArray t frozen
      | o => o }
noncomputable def laidWorld (os : Os) : World :=
  layRow 2 kInts (layRow 1 [1779033703, 3144134277, 1013904242, 2773480762, 1359893119, 2600822924, 528734635, 1541459225] (layRow 0 kInts (World.holding Tryd.prog os ⟨#[], #[], []⟩)))
end Go.Proofs.YthhlfcbkggahmaaDoor
