/-
  bytes.Equal over this program, told once. No condition.
-/
import Derived.Test.YtfonincdhjkacaaBytes
namespace Go.Proofs.Ytfonincdhjkacaa
set_option maxRecDepth 20000
open Go.RowKit

set_option maxHeartbeats 400000 in
/-- bytes.Equal: of two -/
theorem equal_any (w : World) (A1 : Option Addr) (n1 c1 : Nat) (l1 : List UInt8) (A2 : Option Addr) (n2 c2 : Nat) (l2 : List UInt8) (h1 : Sl w 1 A1 n1 c1 (bc l1)) (h2 : Sl w 1 A2 n2 c2 (bc l2)) :
    Calls Try.prog 90 #[.slice A1 n1 c1, .slice A2 n2 c2] w fun e w' => e = .returned (.bool (l1 == l2)) ∧ w = w' := by
  obtain ⟨s1, e1, r1⟩ := run_conv w A1 n1 c1 l1 h1
  obtain ⟨s2, e2, r2⟩ := run_conv w A2 n2 c2 l2 h2
  have E1 := Lib.hid e1
  have E2 := Lib.hid e2
  clear e1 e2 h1 h2
  go_enter Try.func90, Try.ntmps90
  go_wp2
  go_ret
  refine ⟨ret_bool ?_, rfl⟩
  rw [E1.out, E2.out]

theorem equal_is (w : World) (A1 : Option Addr) (n1 c1 : Nat) (l1 : List UInt8) (A2 : Option Addr) (n2 c2 : Nat) (l2 : List UInt8) (b : Bool) (hb : Hid ((l1 == l2) = b)) (h1 : Sl w 1 A1 n1 c1 (bc l1)) (h2 : Sl w 1 A2 n2 c2 (bc l2)) :
    Calls Try.prog 90 #[.slice A1 n1 c1, .slice A2 n2 c2] w fun e w' => e = .returned (.bool b) ∧ w = w' := by
  rw [← hb.out]
  exact equal_any w A1 n1 c1 l1 A2 n2 c2 l2 h1 h2
end Go.Proofs.Ytfonincdhjkacaa
