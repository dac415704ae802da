/-
  The atom's law functions' first call, awake: true. No condition.
-/
import Derived.Test.YthbmlkdijppkbaaAtomTake
namespace Go.Proofs.Ythbmlkdijppkbaa
open Go.RowKit

theorem ex_take : takeL [250, 0, 0, 1] = (0, [], 4) := by decide +kernel
theorem ex_num1 : numL 241 = [241, 1] := by decide +kernel
theorem ex_num2 : numL 2288 = [249, 0, 0] := by decide +kernel
theorem ex_num3 : numL 67824 = [250, 1, 8, 240] := by decide +kernel
set_option maxHeartbeats 2000000 in
theorem awake01 (w : World) : Calls Try.prog 10 #[] w fun e w' => e = .returned (.bool true) ∧ Below w.heap.size w w' := by
  have c1 := fun w' => num_any 241 w' (by omega)
  have c2 := fun w' => num_any 2288 w' (by omega)
  have c3 := fun w' => num_any 67824 w' (by omega)
  rw [ex_num1] at c1
  rw [ex_num2] at c2
  rw [ex_num3] at c3
  have C1 := Lib.hid c1
  have C2 := Lib.hid c2
  have C3 := Lib.hid c3
  clear c1 c2 c3
  have e1 : Hid ((([241, 1] : List UInt8) == [241, 1]) = true) := by unfold Hid; decide
  have e2 : Hid ((([249, 0, 0] : List UInt8) == [249, 0, 0]) = true) := by unfold Hid; decide
  have e3 : Hid ((([250, 1, 8, 240] : List UInt8) == [250, 1, 8, 240]) = true) := by unfold Hid; decide
  go_enter Try.func10, Try.ntmps10
  go_wp2_with fail
  have s1 : Sl (w.alloc (.cells #[.int .u8 250, .int .u8 0, .int .u8 0, .int .u8 1] 5)) 1 (some ⟨w.heap.size, 0, none⟩) 4 4 (bc [250, 0, 0, 1]) := Sl.lit w _ _ 4 _ _ rfl (by unfold maxLen; omega) rfl
  have b1 := (Below.refl w.heap.size w).alloc (Nat.le_refl _) (.cells #[.int .u8 250, .int .u8 0, .int .u8 0, .int .u8 1] 5)
  refine (take_any _ _ 4 4 _ s1 (by omega)).mono ?_
  rw [ex_take]
  rintro e w1 ⟨A1, n1, c1, rfl, _, hb1⟩
  have hbw1 := b1.trans (hb1.mono b1.size)
  clear s1 b1 hb1
  go_wp2_with fail
  refine (C1.out w1).mono ?_
  rintro e w2 ⟨A2, n2, c2, rfl, ho2, hb2⟩
  have hbw2 := hbw1.trans (hb2.mono hbw1.size)
  go_wp2_with fail
  refine (same_is _ A2 n2 c2 _ _ 2 2 _ true e1 ((OwnB.sl ho2).below (by omega) ((Below.refl _ _).alloc (Nat.le_refl _) _)) (Sl.lit w2 _ _ 2 _ _ rfl (by unfold maxLen; omega) rfl)).mono ?_
  rintro e w' ⟨rfl, rfl⟩
  have hbw3 := hbw2.alloc hbw2.size (.cells #[.int .u8 241, .int .u8 1] 5)
  clear ho2 hb2
  go_wp2_with fail
  refine (C2.out _).mono ?_
  rintro e w4 ⟨A4, n4, c4, rfl, ho4, hb4⟩
  have hbw4 := hbw3.trans (hb4.mono hbw3.size)
  go_wp2_with fail
  refine (same_is _ A4 n4 c4 _ _ 3 3 _ true e2 ((OwnB.sl ho4).below (by omega) ((Below.refl _ _).alloc (Nat.le_refl _) _)) (Sl.lit w4 _ _ 3 _ _ rfl (by unfold maxLen; omega) rfl)).mono ?_
  rintro e w' ⟨rfl, rfl⟩
  have hbw5 := hbw4.alloc hbw4.size (.cells #[.int .u8 249, .int .u8 0, .int .u8 0] 5)
  clear ho4 hb4
  go_wp2_with fail
  refine (C3.out _).mono ?_
  rintro e w6 ⟨A6, n6, c6, rfl, ho6, hb6⟩
  have hbw6 := hbw5.trans (hb6.mono hbw5.size)
  go_wp2_with fail
  refine (same_is _ A6 n6 c6 _ _ 4 4 _ true e3 ((OwnB.sl ho6).below (by omega) ((Below.refl _ _).alloc (Nat.le_refl _) _)) (Sl.lit w6 _ _ 4 _ _ rfl (by unfold maxLen; omega) rfl)).mono ?_
  rintro e w' ⟨rfl, rfl⟩
  have hbw7 := hbw6.alloc hbw6.size (.cells #[.int .u8 250, .int .u8 1, .int .u8 8, .int .u8 240] 5)
  clear ho6 hb6
  go_wp2
  go_ret
  exact ⟨rfl, hbw7⟩
end Go.Proofs.Ythbmlkdijppkbaa
