/- A world in which the listed tables hold what their initialisers lay. -/
import Derived.Test.YtbeemjiaohaamaaGreatDoorEngD
import Derived.Test.YtbeemjiaohaamaaGreatDoorRows
import Derived.Test.YtbeemjiaohaamaaGreatDoorCards
import Derived.Test.YtbeemjiaohaamaaGreatDoorTie
import Derived.WalkKit
import Derived.ProofKit
import Derived.OpenShut
import Derived.Deep.DeepHandedRow
import Derived.Lib.LaidTab
import Derived.LaidSub
namespace Go.Proofs.YtbeemjiaohaamaaGreatDoor
open Go.ChangeShapes Go.WideShapes Go.ChangeAt Go.RowKit

theorem own : ownKnob Tryz.prog.godebug = none := by kernel_rfl
noncomputable def lay (k : IntKind) (l : List Nat) : Obj → Obj
  | .cells _ t frozen => .cells (l.map fun n : Nat => Value.int k (n : Int)).toArray t frozen
  | o => o
def cells2 : List Nat := Go.Pinned.utf8FirstZ
def cells3 : List Nat := [128, 191, 160, 191, 128, 159, 144, 191, 128, 143, 0, 0, 0, 0, 0, 0, 0, 0, 0, 0, 0, 0, 0, 0, 0, 0, 0, 0, 0, 0, 0, 0]
/-- A world for a witness: the settled one, the blocks of the tables laid. -/
noncomputable def laidWorld (os : Os) : World :=
  { World.holding Tryz.prog os ⟨#[], #[], []⟩ with heap := (((World.holding Tryz.prog os ⟨#[], #[], []⟩).heap).modify 2 (lay .u8 cells2)).modify 3 (lay .u8 cells3) }
abbrev laidL : List (String × DataW Unit) := Rows.cutMatchesUptoRow.laid
theorem laid_met (os : Os) (args : Array Value) : laidMet Tryz.prog laidL ((laidWorld os).forCall (fun _ _ => 0) ⟨#[], args, []⟩).memory :=
  laidMet_of_run' 8 (by kernel_rfl) (by kernel_rfl)
end Go.Proofs.YtbeemjiaohaamaaGreatDoor
