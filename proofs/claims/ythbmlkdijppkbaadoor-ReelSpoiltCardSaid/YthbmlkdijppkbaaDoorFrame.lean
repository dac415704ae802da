/-
  From the walks to the rows of this seat: the listed table out of the row's premise, a world for the witness, and the last step where only new memory was written. No condition.
-/
import Derived.Test.YthbmlkdijppkbaaDoorCards
import Derived.Test.YthbmlkdijppkbaaDoorTie
import Derived.Test.YthbmlkdijppkbaaDoorSealAwake
import Derived.Test.YthbmlkdijppkbaaDoorOpen
import Derived.WalkKit
import Derived.ProofKit
import Derived.OpenShut
import Derived.Deep.DeepHandedRow
import Derived.Deep.DeepWitnessRowRef
import Derived.Lib.LaidTab
namespace Go.Proofs.YthbmlkdijppkbaaDoor
open Go.ChangeShapes Go.WideShapes Go.ChangeAt Go.RowKit

theorem own : ownKnob Tryd.prog.godebug = none := by kernel_rfl
theorem cellsU8 : Tryd.prog.cellsOf 5 = 1 := by kernel_rfl
theorem cellsB : Tryd.prog.cellsOf 24 = 1 := by kernel_rfl
theorem laidOut : laidOutB Tryd.prog = true := by kernel_rfl
theorem gTab : Tryd.prog.globalNamed "bartizan/seal.quarter" = some 0 := by kernel_rfl
theorem gTabType : (Tryd.prog.globals[0]?).map (·.type) = some 63 := by kernel_rfl
theorem cellsTab : Tryd.prog.cellsOf 63 = 16 := by kernel_rfl
theorem cellsU32 : Tryd.prog.cellsOf 26 = 1 := by kernel_rfl
/-- the table's numbers, as integers -/
def quarterZ : List Int := quarterL.map fun (n : Nat) => (n : Int)
/-- WHAT THE ROW's LIST GIVES -/
theorem quarter_laid {W : World} {rest : List (String × DataW Unit)} (h : laidMet Tryd.prog (("bartizan/seal.quarter", Rows.laid_bartizan_seal_quarter) :: rest) W) : Quarter W := by
  have ht : Lib.TabIs Tryd.prog W "bartizan/seal.quarter" .u32 quarterZ :=
    Lib.tabIs_of_head (rest := rest) gTab gTabType Tryd.underlying63 Tryd.underlying26 cellsU32 cellsTab h
  intro i hi
  have := ht.cell gTab i (by simpa [quarterZ, quarterL] using hi)
  rw [this]
  congr 2
  rcases Nat.lt_or_ge i 16 with h | h
  · have : ∀ i : Fin 16, quarterZ.getD i.val 0 = ((quarterL.getD i.val 0 : Nat) : Int) := by decide
    exact this ⟨i, h⟩
  · omega
/-- A WORLD FOR THE WITNESS: the table holding what its initialiser lays -/
noncomputable def laidWorld (os : Os) : World :=
  { World.holding Tryd.prog os ⟨#[], #[], []⟩ with heap := (World.holding Tryd.prog os ⟨#[], #[], []⟩).heap.modify 0 fun
      | .cells _ t frozen => .cells (quarterZ.map (Value.int .u32)).toArray t frozen
      | o => o }
end Go.Proofs.YthbmlkdijppkbaaDoor
