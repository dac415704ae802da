/-
  Facts of this seat's record types: how each lies in cells. No condition.
-/
import Derived.Test.YtiepdafjbblllaaOpenR
import Derived.Test.YtiepdafjbblllaaBytes
namespace Go.Proofs.Ytiepdafjbblllaa
set_option maxRecDepth 20000
open Go.ChangeShapes Go.WideShapes Go.ChangeAt Go.RowKit

theorem opensKey : Opens Try.prog 25 KeyL :=
  opens_key (tb := 22) (u64 := 23) (u8 := 5) Try.underlying25 (by kernel_rfl) ⟨by kernel_rfl, by kernel_rfl, by kernel_rfl, by kernel_rfl⟩ Try.underlying22 Try.underlying23 Try.underlying5
theorem opensOp : Opens Try.prog 55 OpL :=
  opens_op (tb := 22) (u8 := 5) Try.underlying55 (by kernel_rfl) ⟨by kernel_rfl, by kernel_rfl, by kernel_rfl⟩ Try.underlying22 Try.underlying5
theorem cellsOp : Try.prog.cellsOf 55 = Rep.size OpL := by kernel_rfl
theorem opensEnt : Opens Try.prog 103 EntL :=
  opens_ent (tk := 25) (tb := 22) (u64 := 23) (u8 := 5) Try.underlying103 (by kernel_rfl) Try.underlying25 (by kernel_rfl) ⟨by kernel_rfl, by kernel_rfl, by kernel_rfl, by kernel_rfl, by kernel_rfl⟩ Try.underlying22 Try.underlying23 Try.underlying5
theorem cellsEnt : Try.prog.cellsOf 103 = Rep.size EntL := by kernel_rfl
theorem opensNote : Opens Try.prog 40 NoteL :=
  opens_note (tb := 22) (to := 38) (top := 55) (u64 := 23) (u8 := 5) Try.underlying40 (by kernel_rfl) Try.underlying38 Try.underlying55 (by kernel_rfl) ⟨by kernel_rfl, by kernel_rfl, by kernel_rfl, by kernel_rfl, by kernel_rfl, by kernel_rfl⟩ Try.underlying22 Try.underlying23 Try.underlying5
theorem opensU64 : Opens Try.prog 23 UInt64 := opens_u64 Try.underlying23
theorem cellsU64 : Try.prog.cellsOf 23 = Rep.size UInt64 := by kernel_rfl
end Go.Proofs.Ytiepdafjbblllaa
