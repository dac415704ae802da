/-
  The seal's law functions' first call, awake: true. The table lies in its variable.
-/
import Derived.Test.YthbmlkdijppkbaaDoorSealRef2
import Derived.Lib.SlBytesConst
namespace Go.Proofs.YthbmlkdijppkbaaDoor
open Go.RowKit
def s9 : List UInt8 := [49, 50, 51, 52, 53, 54, 55, 56, 57]
theorem sum9 : sumL [s9].flatten = 3808858755 := by decide +kernel
theorem close0 : closeL [] = [216, 234, 130, 162] := by decide +kernel
set_option maxHeartbeats 1000000 in
theorem awake02 (w : World) (hq : Quarter w) : Calls Tryd.prog 20 #[] w fun e w' => e = .returned (.bool true) ∧ Below w.heap.size w w' := by
  have kc := fun (w : World) (C : Array Value) (n c : Nat) => Lib.run_convert_bytes_const (P := Tryd.prog) w 24 5 C n c Tryd.underlying24 Tryd.underlying5
  go_enter Tryd.func20, Tryd.ntmps20
  go_wp2_with fail
  have h9 : Sl (w.alloc (.cells #[.int .u8 49, .int .u8 50, .int .u8 51, .int .u8 52, .int .u8 53, .int .u8 54, .int .u8 55, .int .u8 56, .int .u8 57] 5 (9, 10))) 1 (some ⟨w.heap.size, 0, none⟩) 9 9 (bc s9) :=
    Sl.lit w _ _ 9 _ _ rfl (by unfold maxLen; omega) rfl
  have hb0 := (Below.refl w.heap.size w).alloc (Nat.le_refl _) (.cells #[.int .u8 49, .int .u8 50, .int .u8 51, .int .u8 52, .int .u8 53, .int .u8 54, .int .u8 55, .int .u8 56, .int .u8 57] 5 (9, 10))
  have hz : (w.alloc (.cells #[.int .u8 49, .int .u8 50, .int .u8 51, .int .u8 52, .int .u8 53, .int .u8 54, .int .u8 55, .int .u8 56, .int .u8 57] 5 (9, 10))).heap.size = w.heap.size + 1 := by simp
  generalize (w.alloc (.cells #[.int .u8 49, .int .u8 50, .int .u8 51, .int .u8 52, .int .u8 53, .int .u8 54, .int .u8 55, .int .u8 56, .int .u8 57] 5 (9, 10))) = w1 at *
  obtain ⟨p1, p2⟩ := one_part w1 _ 9 9 s9 h9 24
  rw [hz] at p1
  have hb1 := (Below.refl w1.heap.size w1).alloc (Nat.le_refl _) (.cells #[.slice (some ⟨w.heap.size, 0, none⟩) 9 9] 24)
  have hbw1 := hb0.trans (hb1.mono hb0.size)
  have c1 := sum_any _ _ 1 1 _ [s9] p1 p2 (hq.below hbw1)
  rw [sum9] at c1
  refine c1.mono ?_
  rintro e w2 ⟨rfl, rfl⟩
  generalize (w1.alloc (.cells #[.slice (some ⟨w.heap.size, 0, none⟩) 9 9] 24)) = w2 at *
  clear p1 p2 c1 h9 hb0 hb1 hz kc
  have hq2 := hq.below hbw1
  go_wp2_with fail
  refine (close_any _ none 0 0 [] (Sl.nil _ _ _ _ (by omega)) hq2 (by omega)).mono ?_
  rw [close0]
  rintro e w3 ⟨A3, n3, c3, rfl, ho3, hb3⟩
  have hbw3 := hbw1.trans (hb3.mono hbw1.size)
  go_wp2_with fail
  have hlit : Sl (w3.alloc (.cells #[.int .u8 216, .int .u8 234, .int .u8 130, .int .u8 162] 5)) 1 (some ⟨w3.heap.size, 0, none⟩) 4 4 (bc [216, 234, 130, 162]) :=
    Sl.lit w3 _ _ 4 _ _ rfl (by unfold maxLen; omega) rfl
  have e4 : Hid ((([216, 234, 130, 162] : List UInt8) == [216, 234, 130, 162]) = true) := by unfold Hid; decide
  refine (same_is _ A3 n3 c3 _ _ 4 4 _ true e4 (ho3.sl.below (by omega) ((Below.refl _ _).alloc (Nat.le_refl _) _)) hlit).mono ?_
  rintro e w4 ⟨rfl, rfl⟩
  go_wp2
  go_ret
  exact ⟨rfl, hbw3.alloc hbw3.size _⟩
end Go.Proofs.YthbmlkdijppkbaaDoor
