/-
  The reference's Build of a leaf: what bytes entries make. (Printed by genleaf5.py.) No condition.
-/
import Derived.Test.YtpffieogkfndaaaDoorLeafCheck
import Derived.Test.YtpffieogkfndaaaDoorLeafCommon
import Derived.Deep.CutRange
namespace Go.Proofs.YtpffieogkfndaaaDoor
open Go.RowKit
set_option maxRecDepth 100000
set_option linter.unusedVariables false
set_option linter.unusedSimpArgs false
def ic (l : List Nat) : List Value := l.map fun (x : Nat) => Value.int .i64 (x : Int)
theorem ic_len (l : List Nat) : (ic l).length = l.length := by simp [ic]
theorem ic_append (a b : List Nat) : ic (a ++ b) = ic a ++ ic b := by simp [ic]
theorem ic_one (l : List Nat) : ∀ u ∈ ic l, u.oneCell' = true := by
  intro u hu
  obtain ⟨_, _, rfl⟩ := List.mem_map.1 hu
  rfl
theorem infoInt : (Tryd.prog.info? 3).map (fun i => (i.zero, i.size, i.bytes)) = some (some (.int .i64 0), 1, 8) := by kernel_rfl
end Go.Proofs.YtpffieogkfndaaaDoor
