/-
  The version's law functions' first call, awake: true. No condition.
-/
import Derived.Test.YtfonincdhjkacaaKeyMake
namespace Go.Proofs.Ytfonincdhjkacaa
open Go.RowKit
set_option maxRecDepth 20000
set_option maxHeartbeats 4000000 in
theorem awake03 (w : World) : Calls Try.prog 25 #[] w fun e w' => e = .returned (.bool true) ∧ Below w.heap.size w w' := by
  have k1 := fun w' => key_any w' ⟨#[97]⟩ [97] rfl (by decide) 1 2
  have k2 := fun w' => key_any w' ⟨#[97]⟩ [97] rfl (by decide) 5 1
  have k3 := fun w' => key_any w' ⟨#[97]⟩ [97] rfl (by decide) 4 2
  have k4 := fun w' => key_any w' ⟨#[97]⟩ [97] rfl (by decide) 4 1
  have k5 := fun w' => key_any w' ⟨#[98]⟩ [98] rfl (by decide) 9 1
  have K1 := Lib.hid k1
  have K2 := Lib.hid k2
  have K3 := Lib.hid k3
  have K4 := Lib.hid k4
  have K5 := Lib.hid k5
  clear k1 k2 k3 k4 k5
  go_enter Try.func25, Try.ntmps25
  go_wp2_with fail
  refine (K1.out _).mono ?_
  rintro e w1 ⟨A1, n1, c1, rfl, h1, b1⟩
  go_wp2_with fail
  refine (kbytes_any _ A1 n1 c1 ⟨[97], 1, 2⟩ h1).mono ?_
  rw [show keyBE ⟨[97], 1, 2⟩ = ([1, 97, 2, 1, 0, 0, 0, 0, 0, 0], 0) by decide]
  rintro e w2 ⟨A2, n2, c2, rfl, h2, b2⟩
  have q2 := b1.trans (b2.mono b1.size)
  clear b1 b2 h1
  go_wp2_with fail
  refine (K2.out _).mono ?_
  rintro e w3 ⟨A3, n3, c3, rfl, h3, b3⟩
  go_wp2_with fail
  refine (K3.out _).mono ?_
  rintro e w4 ⟨A4, n4, c4, rfl, h4, b4⟩
  go_wp2_with fail
  refine (compare_any _ A3 n3 c3 ⟨[97], 5, 1⟩ (h3.below (by omega) b4) A4 n4 c4 ⟨[97], 4, 2⟩ h4).mono ?_
  rw [show cmpKey ⟨[97], 5, 1⟩ ⟨[97], 4, 2⟩ = -1 by decide]
  rintro e w5 ⟨rfl, b5⟩
  have q3 := b3.trans ((b4.trans (b5.mono b4.size)).mono b3.size)
  clear b3 b4 b5 h3 h4
  have h2' := OwnB.sl h2 |>.below (by omega) q3
  have q5 := q2.trans (q3.mono q2.size)
  clear h2 q2 q3
  go_wp2_with fail
  refine (K4.out _).mono ?_
  rintro e w6 ⟨A6, n6, c6, rfl, h6, b6⟩
  go_wp2_with fail
  refine (K5.out _).mono ?_
  rintro e w7 ⟨A7, n7, c7, rfl, h7, b7⟩
  go_wp2_with fail
  refine (compare_any _ A6 n6 c6 ⟨[97], 4, 1⟩ (h6.below (by omega) b7) A7 n7 c7 ⟨[98], 9, 1⟩ h7).mono ?_
  rw [show cmpKey ⟨[97], 4, 1⟩ ⟨[98], 9, 1⟩ = -1 by decide]
  rintro e w8 ⟨rfl, b8⟩
  have q8 := b6.trans ((b7.trans (b8.mono b7.size)).mono b6.size)
  clear b6 b7 b8 h6 h7
  have h8 := h2'.below (by omega) q8
  have q9 := q5.trans (q8.mono q5.size)
  clear h2' q5 q8
  go_wp2_with fail
  have hlit : Sl (w8.alloc (.cells #[.int .u8 1, .int .u8 97, .int .u8 2, .int .u8 1, .int .u8 0, .int .u8 0, .int .u8 0, .int .u8 0, .int .u8 0, .int .u8 0] 5)) 1 (some ⟨w8.heap.size, 0, none⟩) 10 10 (bc [1, 97, 2, 1, 0, 0, 0, 0, 0, 0]) :=
    Sl.lit w8 _ _ 10 _ _ rfl (by unfold maxLen; omega) rfl
  have e4 : Hid ((([1, 97, 2, 1, 0, 0, 0, 0, 0, 0] : List UInt8) == [1, 97, 2, 1, 0, 0, 0, 0, 0, 0]) = true) := by unfold Hid; decide
  refine (same_is _ A2 n2 c2 _ _ 10 10 _ true e4 (h8.below (by omega) ((Below.refl _ _).alloc (Nat.le_refl _) _)) hlit).mono ?_
  rintro e w9 ⟨rfl, rfl⟩
  go_wp2
  go_ret
  exact ⟨rfl, q9.alloc q9.size _⟩
end Go.Proofs.Ytfonincdhjkacaa
