/-
  What the program's head says, drawn out of it once: the head is a long text, which the kernel must not lay out sign by sign in each claim. No condition.
-/
import Derived.Test.YtfonincdhjkacaaRows
import Derived.Test.YtfonincdhjkacaaChecked
import Derived.JoinedOf
import Derived.KernelRfl
namespace Go.Proofs.Ytfonincdhjkacaa
set_option maxRecDepth 20000
theorem heads {P : Program} {rest : List (List Char)} (h : behindMainWord (wordsSigns P.initOrder.toList) = "cut".toList :: rest) (h1 : P.laysLater = false) (h2 : P.bearsReflect = false) (h3 : P.doorRows = []) :
    P.mayEnter = true ∧ P.liftsFinal = false ∧ P.make = some .cut := by
  have hs : stripLifts liftWords ("cut".toList :: rest) = ([], "cut".toList :: rest) := by kernel_rfl
  refine ⟨?_, ?_, ?_⟩
  · unfold Program.mayEnter
    rw [h]
    simp only [hs, h1, h2, Program.doorFits, h3]
    kernel_rfl
  · unfold Program.liftsFinal Program.headLifts
    simp only [h, hs]
    kernel_rfl
  · unfold Program.make
    rw [h]
    kernel_rfl
theorem head_of {P : Program} {l : List Char} (h : P.initOrder = String.ofList l) (hw : behindMainWord (wordsSigns l) = "cut".toList :: (behindMainWord (wordsSigns l)).tail) :
    ∃ rest, behindMainWord (wordsSigns P.initOrder.toList) = "cut".toList :: rest := ⟨_, by rw [h, String.toList_ofList]; exact hw⟩
theorem headIs : ∃ rest, behindMainWord (wordsSigns Try.prog.initOrder.toList) = "cut".toList :: rest := head_of (l := _) rfl (by kernel_rfl)
theorem headAll : Try.prog.mayEnter = true ∧ Try.prog.liftsFinal = false ∧ Try.prog.make = some .cut := by
  obtain ⟨_, h⟩ := headIs
  exact heads h (by kernel_rfl) (by kernel_rfl) (by kernel_rfl)
theorem headMay : Try.prog.mayEnter = true := headAll.1
theorem headLift : Try.prog.liftsFinal = false := headAll.2.1
theorem headMake : Try.prog.make = some .cut := headAll.2.2
end Go.Proofs.Ytfonincdhjkacaa
