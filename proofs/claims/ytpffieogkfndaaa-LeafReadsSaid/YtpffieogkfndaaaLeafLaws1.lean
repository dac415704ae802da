/-
  The walks of LeafBuilds and LeafSmall: they return true at every input. (Printed by genleaf7.py.) No condition.
-/
import Derived.Test.YtpffieogkfndaaaLeafAwake
import Derived.Test.YtpffieogkfndaaaLeafBuildR
import Derived.Test.YtpffieogkfndaaaEntSort
namespace Go.Proofs.Ytpffieogkfndaaa
open Go.RowKit
set_option maxRecDepth 20000
theorem sents_is (w : World) (p : Nat → Prop) (A : Option Addr) (n c : Nat) (ls : List EntL) (h : SlR w p A n c ls) (p' : Nat → Prop) (A' : Option Addr) (n' c' : Nat) (h' : SlR w p' A' n' c' ls) :
    Calls Try.prog 10 #[.slice A n c, .slice A' n' c'] w fun e w' => e = .returned (.bool true) ∧ Below w.heap.size w w' := by
  have := sents_any w p A n c ls h p' A' n' c' ls h'
  simpa using this
theorem sumE_le (l : List EntL) (h : ∀ e ∈ l, checkKey e.key = 0 ∧ e.value.length ≤ 512) : sumE l ≤ 600 * l.length := by
  unfold sumE
  induction l with
  | nil => simp
  | cons e l ih =>
    have h1 := h e (by simp)
    have h2 := checkKey_bounds h1.1
    have := ih fun x hx => h x (by simp [hx])
    simp only [List.map_cons, List.sum_cons, List.length_cons]
    omega
end Go.Proofs.Ytpffieogkfndaaa
