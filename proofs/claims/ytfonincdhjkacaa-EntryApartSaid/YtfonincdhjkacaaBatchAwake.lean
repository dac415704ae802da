/-
  The batch's law functions' first call, awake: true. No condition.
-/
import Derived.Test.YtfonincdhjkacaaBatchBytesW
import Derived.Test.YtfonincdhjkacaaBatchOver
import Derived.Lib.SlBytesConst
namespace Go.Proofs.Ytfonincdhjkacaa
open Go.RowKit
set_option maxRecDepth 20000
theorem lit1 (w : World) (x : UInt8) : Sl (w.alloc (.cells #[.int .u8 (x.toNat : Int)] 5 (1, 2))) 1 (some ⟨w.heap.size, 0, none⟩) 1 1 (bc [x]) ∧ Below w.heap.size w (w.alloc (.cells #[.int .u8 (x.toNat : Int)] 5 (1, 2))) ∧ (w.alloc (.cells #[.int .u8 (x.toNat : Int)] 5 (1, 2))).heap.size = w.heap.size + 1 :=
  ⟨Sl.lit w _ _ 1 _ _ rfl (by unfold maxLen; omega) rfl, (Below.refl w.heap.size w).alloc (Nat.le_refl _) _, by simp⟩
theorem bk_lt {w : World} {A : Option Addr} {n c : Nat} {l : List UInt8} (h : Sl w 1 A n c (bc l)) : Bk w (· < w.heap.size) (.slice A n c) l := ⟨A, n, c, rfl, h, fun b hn e => h.lt (by omega) hn b e⟩
theorem opsRow1 (w : World) : ∃ W : World, W = (((w.alloc (.cells #[.int .u8 97] 5 (1, 2))).alloc (.cells #[.int .u8 120] 5 (1, 2))).alloc (.cells #[.int .u8 2, .slice (some ⟨w.heap.size, 0, none⟩) 1 1, .slice (some ⟨w.heap.size + 1, 0, none⟩) 1 1] 47)) ∧
    Below w.heap.size w W ∧ SlR W (fun _ => True) (some ⟨w.heap.size + 1 + 1, 0, none⟩) 1 1 [(⟨2, [97], [120]⟩ : OpL)] := by
  obtain ⟨s1, b1, z1⟩ := lit1 w 97
  rw [show (((97 : UInt8).toNat : Nat) : Int) = 97 from rfl] at s1 b1 z1
  generalize (w.alloc (.cells #[.int .u8 97] 5 (1, 2))) = w1 at *
  obtain ⟨s2, b2, z2⟩ := lit1 w1 120
  rw [show (((120 : UInt8).toNat : Nat) : Int) = 120 from rfl] at s2 b2 z2
  have s1 := s1.below (by omega) b2
  rw [z1] at s2 z2
  generalize (w1.alloc (.cells #[.int .u8 120] 5 (1, 2))) = w2 at *
  have b := b1.trans (b2.mono b1.size)
  refine ⟨_, rfl, b.alloc b.size _, ?_⟩
  have := SlR.lit (α := OpL) (w := w2) 47 (0, 0) 1 #[.int .u8 2, .slice (some ⟨w.heap.size, 0, none⟩) 1 1, .slice (some ⟨w.heap.size + 1, 0, none⟩) 1 1] _ [⟨2, [97], [120]⟩] rfl (RowC.single ⟨_, _, rfl, bk_lt s1, bk_lt s2⟩) rfl (by unfold maxLen; omega)
  rw [z2] at this
  exact this.mono fun _ _ _ => trivial
theorem opsRow2 (w : World) : ∃ W : World, W = (((((w.alloc (.cells #[.int .u8 98] 5 (1, 2))).alloc (.cells #[.int .u8 97] 5 (1, 2))).alloc (.cells #[.int .u8 99] 5 (1, 2))).alloc (.cells #[.int .u8 2, .slice (some ⟨w.heap.size, 0, none⟩) 1 1, .slice none 0 0, .int .u8 3, .slice (some ⟨w.heap.size + 1, 0, none⟩) 1 1, .slice (some ⟨w.heap.size + 1 + 1, 0, none⟩) 1 1] 47)).alloc (.cells #[.int .u8 98] 5 (1, 2))) ∧
    Below w.heap.size w W ∧ SlR W (fun _ => True) (some ⟨w.heap.size + 1 + 1 + 1, 0, none⟩) 2 2 [(⟨2, [98], []⟩ : OpL), ⟨3, [97], [99]⟩] ∧ Sl W 1 (some ⟨w.heap.size + 1 + 1 + 1 + 1, 0, none⟩) 1 1 (bc [98]) := by
  obtain ⟨s1, b1, z1⟩ := lit1 w 98
  rw [show (((98 : UInt8).toNat : Nat) : Int) = 98 from rfl] at s1 b1 z1
  generalize (w.alloc (.cells #[.int .u8 98] 5 (1, 2))) = w1 at *
  obtain ⟨s2, b2, z2⟩ := lit1 w1 97
  rw [show (((97 : UInt8).toNat : Nat) : Int) = 97 from rfl] at s2 b2 z2
  have s1 := s1.below (by omega) b2
  rw [z1] at s2 z2
  generalize (w1.alloc (.cells #[.int .u8 97] 5 (1, 2))) = w2 at *
  have b := b1.trans (b2.mono b1.size)
  obtain ⟨s3, b3, z3⟩ := lit1 w2 99
  rw [show (((99 : UInt8).toNat : Nat) : Int) = 99 from rfl] at s3 b3 z3
  have s1 := s1.below (by omega) b3
  have s2 := s2.below (by omega) b3
  rw [z2] at s3 z3
  generalize (w2.alloc (.cells #[.int .u8 99] 5 (1, 2))) = w3 at *
  have b := b.trans (b3.mono b.size)
  have hr := SlR.lit (α := OpL) (w := w3) 47 (0, 0) 2 #[.int .u8 2, .slice (some ⟨w.heap.size, 0, none⟩) 1 1, .slice none 0 0, .int .u8 3, .slice (some ⟨w.heap.size + 1, 0, none⟩) 1 1, .slice (some ⟨w.heap.size + 1 + 1, 0, none⟩) 1 1] _ [⟨2, [98], []⟩, ⟨3, [97], [99]⟩] rfl
    (⟨[_, _, _], _, rfl, ⟨_, _, rfl, bk_lt s1, bk_lt (sl_none _)⟩, RowC.single ⟨_, _, rfl, bk_lt s2, bk_lt s3⟩⟩) rfl (by unfold maxLen; omega)
  rw [z3] at hr
  have b4 := b.alloc b.size (.cells #[.int .u8 2, .slice (some ⟨w.heap.size, 0, none⟩) 1 1, .slice none 0 0, .int .u8 3, .slice (some ⟨w.heap.size + 1, 0, none⟩) 1 1, .slice (some ⟨w.heap.size + 1 + 1, 0, none⟩) 1 1] 47)
  have z4 : (w3.alloc (.cells #[.int .u8 2, .slice (some ⟨w.heap.size, 0, none⟩) 1 1, .slice none 0 0, .int .u8 3, .slice (some ⟨w.heap.size + 1, 0, none⟩) 1 1, .slice (some ⟨w.heap.size + 1 + 1, 0, none⟩) 1 1] 47)).heap.size = w.heap.size + 1 + 1 + 1 + 1 := by simp [z3]
  generalize (w3.alloc (.cells #[.int .u8 2, .slice (some ⟨w.heap.size, 0, none⟩) 1 1, .slice none 0 0, .int .u8 3, .slice (some ⟨w.heap.size + 1, 0, none⟩) 1 1, .slice (some ⟨w.heap.size + 1 + 1, 0, none⟩) 1 1] 47)) = w4 at *
  obtain ⟨s5, b5, z5⟩ := lit1 w4 98
  rw [show (((98 : UInt8).toNat : Nat) : Int) = 98 from rfl] at s5 b5 z5
  rw [z4] at s5
  exact ⟨_, rfl, b4.trans (b5.mono b4.size), (hr.below b5).mono fun _ _ _ => trivial, s5⟩
theorem constK (w : World) (C : Array Value) (n c k : Nat) (h : w.heap.size = k) : (convert 23 23 (.slice (some ⟨k, 0, none⟩) n c)).run Try.prog (w.alloc (.cells C 5)) = .ok (.slice (some ⟨k, 0, none⟩) n c) (w.alloc (.cells C 5 (C.size, C.size + 1))) := by
  subst h
  exact Lib.run_convert_bytes_const (P := Try.prog) w 23 5 C n c Try.underlying23 Try.underlying5
set_option maxHeartbeats 4000000 in
theorem awake04 (w : World) : Calls Try.prog 29 #[] w fun e w' => e = .returned (.bool true) ∧ Below w.heap.size w w' := by
  have k0 := fun w C n c => constK w C n c _ rfl
  have k1 := fun (w : World) o C n c => constK (w.alloc o) C n c (w.heap.size + 1) (by simp)
  have k2 := fun (w : World) o o' C n c => constK ((w.alloc o).alloc o') C n c (w.heap.size + 1 + 1) (by simp)
  have k4 := fun (w : World) o o' o'' o3 C n c => constK ((((w.alloc o).alloc o').alloc o'').alloc o3) C n c (w.heap.size + 1 + 1 + 1 + 1) (by simp)
  go_enter Try.func29, Try.ntmps29
  go_wp2_with fail
  obtain ⟨W, hW, hb0, hs⟩ := opsRow1 w
  rw [← hW]
  refine (bbytes_any W _ _ 1 1 _ hs).mono ?_
  rw [show opsBE [⟨2, [97], [120]⟩] = ([1, 2, 1, 97, 1, 120], 0) by decide]
  rintro e w1 ⟨A1, n1, c1, rfl, ho1, hb1⟩
  have q1 := hb0.trans (hb1.mono hb0.size)
  have h1 := OwnB.sl ho1
  clear hW hs hb0 hb1 ho1
  go_wp2_with fail
  obtain ⟨W2, hW2, hb2, hs2, hk2⟩ := opsRow2 w1
  rw [← hW2]
  have h1 := h1.below (by omega) hb2
  have q2 := q1.trans (hb2.mono q1.size)
  clear hb2
  refine (over_any W2 _ _ 2 2 _ hs2 (by decide) _ 1 1 _ hk2).mono ?_
  rw [show overL [⟨2, [98], []⟩, ⟨3, [97], [99]⟩] [98] = some ⟨3, [97], [99]⟩ by decide]
  rintro e w3 ⟨A3, n3, c3, A4, n4, c4, rfl, h3, h4, hb3⟩
  have h1 := h1.below (by omega) hb3
  have q3 := q2.trans (hb3.mono q2.size)
  rw [show (((Option.some (⟨3, [97], [99]⟩ : OpL)).getD noOp).kind.toNat : Int) = 3 from rfl, show (Option.some (⟨3, [97], [99]⟩ : OpL)).isSome = true from rfl]
  clear hW2 hs2 hk2 hb3 h3 h4
  have al := (Below.refl w3.heap.size w3).alloc (Nat.le_refl _) (.cells #[.int .u8 3, .slice A3 n3 c3, .slice A4 n4 c4] 47)
  have kB := Bx.fresh w3 (.int .u8 3) (.slice A3 n3 c3) (.slice A4 n4 c4) 47
  have h1 := h1.below (by omega) al
  have q4 := q3.trans (al.mono q3.size)
  go_wp2_with fail
  clear al
  have z4 : (w3.alloc (.cells #[.int .u8 3, .slice A3 n3 c3, .slice A4 n4 c4] 47)).heap.size = w3.heap.size + 1 := by simp
  generalize (w3.alloc (.cells #[.int .u8 3, .slice A3 n3 c3, .slice A4 n4 c4] 47)) = w4 at *
  have hlit : Sl (w4.alloc (.cells #[.int .u8 1, .int .u8 2, .int .u8 1, .int .u8 97, .int .u8 1, .int .u8 120] 5)) 1 (some ⟨w4.heap.size, 0, none⟩) 6 6 (bc [1, 2, 1, 97, 1, 120]) :=
    Sl.lit w4 _ _ 6 _ _ rfl (by unfold maxLen; omega) rfl
  have al := (Below.refl w4.heap.size w4).alloc (Nat.le_refl _) (.cells #[.int .u8 1, .int .u8 2, .int .u8 1, .int .u8 97, .int .u8 1, .int .u8 120] 5)
  have h1 := h1.below (by omega) al
  have kB := kB.below al
  have q5 := q4.trans (al.mono q4.size)
  rw [z4] at hlit
  have e4 : Hid ((([1, 2, 1, 97, 1, 120] : List UInt8) == [1, 2, 1, 97, 1, 120]) = true) := by unfold Hid; decide
  refine (same_is _ A1 n1 c1 _ _ 6 6 _ true e4 h1 hlit).mono ?_
  rintro e w5 ⟨rfl, rfl⟩
  clear al hlit
  obtain ⟨x0, x1, x2, x3⟩ := kB
  go_wp2
  go_ret
  exact ⟨rfl, q5⟩
end Go.Proofs.Ytfonincdhjkacaa
