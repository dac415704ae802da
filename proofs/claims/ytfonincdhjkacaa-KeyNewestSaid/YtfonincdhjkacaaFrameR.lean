/-
  Facts of this seat's record types: how each lies in cells. No condition.
-/
import Derived.Test.YtfonincdhjkacaaOpenR
import Derived.Test.YtfonincdhjkacaaBytes
namespace Go.Proofs.Ytfonincdhjkacaa
set_option maxRecDepth 20000
open Go.ChangeShapes Go.WideShapes Go.ChangeAt Go.RowKit

theorem opensKey : Opens Try.prog 40 KeyL :=
  opens_key (tb := 23) (u64 := 22) (u8 := 5) Try.underlying40 (by kernel_rfl) ⟨by kernel_rfl, by kernel_rfl, by kernel_rfl, by kernel_rfl⟩ Try.underlying23 Try.underlying22 Try.underlying5
theorem opensOp : Opens Try.prog 47 OpL :=
  opens_op (tb := 23) (u8 := 5) Try.underlying47 (by kernel_rfl) ⟨by kernel_rfl, by kernel_rfl, by kernel_rfl⟩ Try.underlying23 Try.underlying5
theorem cellsOp : Try.prog.cellsOf 47 = Rep.size OpL := by kernel_rfl
theorem opensEnt : Opens Try.prog 89 EntL :=
  opens_ent (tk := 40) (tb := 23) (u64 := 22) (u8 := 5) Try.underlying89 (by kernel_rfl) Try.underlying40 (by kernel_rfl) ⟨by kernel_rfl, by kernel_rfl, by kernel_rfl, by kernel_rfl, by kernel_rfl⟩ Try.underlying23 Try.underlying22 Try.underlying5
theorem cellsEnt : Try.prog.cellsOf 89 = Rep.size EntL := by kernel_rfl
theorem opensNote : Opens Try.prog 26 NoteL :=
  opens_note (tb := 23) (to := 24) (top := 47) (u64 := 22) (u8 := 5) Try.underlying26 (by kernel_rfl) Try.underlying24 Try.underlying47 (by kernel_rfl) ⟨by kernel_rfl, by kernel_rfl, by kernel_rfl, by kernel_rfl, by kernel_rfl, by kernel_rfl⟩ Try.underlying23 Try.underlying22 Try.underlying5
theorem opensU64 : Opens Try.prog 22 UInt64 := opens_u64 Try.underlying22
theorem cellsU64 : Try.prog.cellsOf 22 = Rep.size UInt64 := by kernel_rfl
end Go.Proofs.Ytfonincdhjkacaa
