/-
  SealAwake, Frame, FrameR, Ops in one text. No condition but sizes.
-/
import Derived.Test.YtpffieogkfndaaaGreatDoorJAtomRef
import Derived.Lib.SlBytesConst
import Derived.Test.YtpffieogkfndaaaGreatDoorCards
import Derived.Test.YtpffieogkfndaaaGreatDoorTie
import Derived.Test.YtpffieogkfndaaaGreatDoorJRecs
import Derived.WalkKit
import Derived.ProofKit
import Derived.OpenShut
import Derived.Deep.DeepHandedRow
import Derived.Deep.DeepWitnessRowRef
import Derived.Lib.LaidTab
import Derived.Test.YtpffieogkfndaaaGreatDoorJParts
import Derived.Test.YtpffieogkfndaaaGreatDoorJBytes
import Derived.Test.YtpffieogkfndaaaGreatDoorJHeld
namespace Go.Proofs.YtpffieogkfndaaaGreatDoor
set_option maxRecDepth 20000
set_option linter.unusedVariables false
set_option linter.unusedSimpArgs false
open Go.RowKit
def s9 : List UInt8 := [49, 50, 51, 52, 53, 54, 55, 56, 57]
end Go.Proofs.YtpffieogkfndaaaGreatDoor

namespace Go.Proofs.YtpffieogkfndaaaGreatDoor
set_option maxRecDepth 20000
set_option linter.unusedVariables false
set_option linter.unusedSimpArgs false
open Go.ChangeShapes Go.WideShapes Go.ChangeAt Go.RowKit

theorem own : ownKnob Tryz.prog.godebug = none := by kernel_rfl
theorem cellsU8 : Tryz.prog.cellsOf 5 = 1 := by kernel_rfl
theorem laidOut : laidOutB Tryz.prog = true := by kernel_rfl
theorem gTab : Tryz.prog.globalNamed "bartizan/seal.quarter" = some 0 := by kernel_rfl
theorem gTabType : (Tryz.prog.globals[0]?).map (·.type) = some 161 := by kernel_rfl
theorem cellsTab : Tryz.prog.cellsOf 161 = 16 := by kernel_rfl
theorem cellsU32 : Tryz.prog.cellsOf 126 = 1 := by kernel_rfl
/-- the table's numbers, as integers -/
def quarterZ : List Int := quarterL.map fun (n : Nat) => (n : Int)
/-- WHAT THE ROW's LIST GIVES -/
theorem quarter_laid {W : World} {rest : List (String × DataW Unit)} (h : laidMet Tryz.prog (("bartizan/seal.quarter", Rows.laid_bartizan_seal_quarter) :: rest) W) : Quarter W := by
  have ht : Lib.TabIs Tryz.prog W "bartizan/seal.quarter" .u32 quarterZ :=
    Lib.tabIs_of_head (rest := rest) gTab gTabType Tryz.underlying161 Tryz.underlying126 cellsU32 cellsTab h
  intro i hi
  have := ht.cell gTab i (by simpa [quarterZ, quarterL] using hi)
  rw [this]
  congr 2
  rcases Nat.lt_or_ge i 16 with h | h
  · have : ∀ i : Fin 16, quarterZ.getD i.val 0 = ((quarterL.getD i.val 0 : Nat) : Int) := by decide
    exact this ⟨i, h⟩
  · omega
/-- A WORLD FOR THE WITNESS: the table holding what its initialiser lays -/
noncomputable def laidWorld (os : Os) : World :=
  { World.holding Tryz.prog os ⟨#[], #[], []⟩ with heap := (World.holding Tryz.prog os ⟨#[], #[], []⟩).heap.modify 0 fun
      | .cells _ t frozen => .cells (quarterZ.map (Value.int .u32)).toArray t frozen
      | o => o }
end Go.Proofs.YtpffieogkfndaaaGreatDoor

namespace Go.Proofs.YtpffieogkfndaaaGreatDoor
set_option maxRecDepth 20000
set_option linter.unusedVariables false
set_option linter.unusedSimpArgs false
open Go.ChangeShapes Go.WideShapes Go.ChangeAt Go.RowKit

end Go.Proofs.YtpffieogkfndaaaGreatDoor

namespace Go.Proofs.YtpffieogkfndaaaGreatDoor
open Go.RowKit
set_option maxRecDepth 20000
set_option linter.unusedVariables false
set_option linter.unusedSimpArgs false
section
variable {w w' : World} {p : Nat → Prop} {A : Option Addr} {n c : Nat}
/-- a row of lists of bytes, as parts -/
theorem RowC.parts : ∀ {xs : List Value} {ls : List (List UInt8)}, RowC w p xs ls → PartsOf w xs ls
  | _, [], h => by
    obtain rfl : _ = [] := h
    exact ⟨rfl, fun i v l hv => by simp at hv⟩
  | _, a :: ls, h => by
    obtain ⟨cs, ys, rfl, ⟨v, rfl, A, n, c, rfl, hs, _⟩, hr⟩ := h
    have ih := hr.parts
    refine ⟨by simp [ih.1], fun i u l hu hl => ?_⟩
    cases i with
    | zero =>
      simp at hu hl
      subst hu
      subst hl
      exact ⟨A, n, c, rfl, hs⟩
    | succ i =>
      simp at hu hl
      exact ih.2 i u l hu hl
theorem OwnR.parts {B : Nat} {e : TypeId} {ls : List (List UInt8)} (h : OwnR w B e A n c ls) : ∃ vs, Sl w 1 A n c vs ∧ PartsOf w vs ls := by
  obtain ⟨xs, ho, hr⟩ := h
  exact ⟨xs, ho.sl, hr.parts⟩
/-- what lies at a variable of two cells that the call has boxed in block g -/
structure Bx2 (w : World) (g : Nat) (u0 u1 : Value) : Prop where
  c0 : w.cell? ⟨g, 0, none⟩ = some u0
  c1 : w.cell? ⟨g, 1, none⟩ = some u1
theorem Bx2.below {g : Nat} {u0 u1 : Value} (h : Bx2 w g u0 u1) (hb : Below w.heap.size w w') : Bx2 w' g u0 u1 := ⟨stays hb h.c0, stays hb h.c1⟩
theorem Bx2.fresh (w : World) (u0 u1 : Value) (e : TypeId) : Bx2 (w.alloc (.cells #[u0, u1] e)) w.heap.size u0 u1 := by
  have h := boxed (Below.refl _ _) (box1 w (.cells #[u0, u1] e))
  exact ⟨h.1 0 _ rfl, h.1 1 _ rfl⟩
theorem Bx2.lt {g : Nat} {u0 u1 : Value} (h : Bx2 w g u0 u1) : g < w.heap.size := World.block_lt_of_cell? _ _ h.c0
theorem Bx2.grownO {g : Nat} {row : Option Nat} {u0 u1 : Value} (h : Bx2 w g u0 u1) (hg : w.grownBy w' row) (hne : row ≠ some g) : Bx2 w' g u0 u1 := by
  have hh : w'.heap[g]? = w.heap[g]? := hg.block g h.lt (fun e => hne e.symm)
  have hc : ∀ j : Nat, w'.cell? ⟨g, j, none⟩ = w.cell? ⟨g, j, none⟩ := fun j => World.cell?_of_block (a := ⟨g, j, none⟩) hh
  exact ⟨(hc 0).trans h.c0, (hc 1).trans h.c1⟩
end
end Go.Proofs.YtpffieogkfndaaaGreatDoor
