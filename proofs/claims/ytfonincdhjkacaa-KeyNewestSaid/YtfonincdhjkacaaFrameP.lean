/-
  From the walks to the rows of this seat: facts of its types, a world for the witness. No condition.
-/
import Derived.Test.YtfonincdhjkacaaRows
import Derived.Test.YtfonincdhjkacaaChecked
import Derived.Test.YtfonincdhjkacaaHead
import Derived.Test.YtfonincdhjkacaaOpen
import Derived.Test.YtfonincdhjkacaaBytes
import Derived.WalkKit
import Derived.ProofKit
import Derived.OpenShut
import Derived.Deep.DeepHandedRow
import Derived.Deep.DeepWitnessRowRef
namespace Go.Proofs.Ytfonincdhjkacaa
set_option maxRecDepth 20000
open Go.ChangeShapes Go.WideShapes Go.ChangeAt Go.RowKit

theorem own : ownKnob Try.prog.godebug = none := by kernel_rfl
theorem cellsU8 : Try.prog.cellsOf 5 = 1 := by kernel_rfl
theorem cellsB : Try.prog.cellsOf 23 = 1 := by kernel_rfl
theorem laidOut : laidOutB Try.prog = true := by kernel_rfl
/-- A WORLD FOR THE WITNESS -/
noncomputable def laidWorld (os : Os) : World := World.holding Try.prog os ⟨#[], #[], []⟩
end Go.Proofs.Ytfonincdhjkacaa
