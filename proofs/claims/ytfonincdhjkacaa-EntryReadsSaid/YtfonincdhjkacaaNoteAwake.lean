/-
  The entry's law functions' first call, awake: true. No condition.
-/
import Derived.Test.YtfonincdhjkacaaNoteBytes
import Derived.Test.YtfonincdhjkacaaGBat
namespace Go.Proofs.Ytfonincdhjkacaa
open Go.RowKit
set_option maxRecDepth 20000
set_option maxHeartbeats 4000000 in
theorem awake07 (w : World) : Calls Try.prog 20 #[] w fun e w' => e = .returned (.bool true) ∧ Below w.heap.size w w' := by
  have k0 := fun w C n c => constK w C n c _ rfl
  obtain ⟨s1, b1, z1⟩ := lit1 w 97
  rw [show (((97 : UInt8).toNat : Nat) : Int) = 97 from rfl] at s1 b1 z1
  go_enter Try.func20, Try.ntmps20
  go_wp2_with fail
  generalize (w.alloc (.cells #[.int .u8 97] 5 (1, 2))) = w1 at *
  refine (nbytes_any w1 (fun _ => True) _ 1 1 none 0 0 ⟨3, 5, [97], []⟩ s1 (SlR.nilnil _ _)).mono ?_
  rw [show noteBE ⟨3, 5, [97], []⟩ = ([3, 5, 1, 97, 0], 0) by decide]
  rintro e w2 ⟨A2, n2, c2, rfl, ho2, hb2⟩
  have s2 := OwnB.sl ho2
  have q2 := b1.trans (hb2.mono b1.size)
  have hlit : Sl (w2.alloc (.cells #[.int .u8 3, .int .u8 5, .int .u8 1, .int .u8 97, .int .u8 0] 5)) 1 (some ⟨w2.heap.size, 0, none⟩) 5 5 (bc [3, 5, 1, 97, 0]) :=
    Sl.lit w2 _ _ 5 _ _ rfl (by unfold maxLen; omega) rfl
  have al := (Below.refl w2.heap.size w2).alloc (Nat.le_refl _) (.cells #[.int .u8 3, .int .u8 5, .int .u8 1, .int .u8 97, .int .u8 0] 5)
  have s2 := s2.below (by omega) al
  have q5 := q2.trans (al.mono q2.size)
  have e4 : Hid ((([3, 5, 1, 97, 0] : List UInt8) == [3, 5, 1, 97, 0]) = true) := by unfold Hid; decide
  go_wp2_with fail
  refine (same_is _ A2 n2 c2 _ _ 5 5 _ true e4 s2 hlit).mono ?_
  rintro e w5 ⟨rfl, rfl⟩
  go_wp2
  go_ret
  exact ⟨rfl, q5⟩
end Go.Proofs.Ytfonincdhjkacaa
