/-
  The walk of EntryReads: it returns true at every input. (Printed by genentrylaws3.py.) No condition.
-/
import Derived.Test.YtfonincdhjkacaaEntryLaws2
namespace Go.Proofs.Ytfonincdhjkacaa
open Go.RowKit
set_option maxRecDepth 100000
set_option maxHeartbeats 16000000 in
theorem entryReads.walk (w : World) (A : Option Addr) (n c : Nat) (l : List UInt8) (h : Sl w 1 A n c (bc l)) :
    Calls Try.prog 13 #[.slice A n c] w fun e w' => e = .returned (.bool true) ∧ Below w.heap.size w w' := by
  go_enter Try.func13, Try.ntmps13
  go_wp2_with fail
  refine (awake07 w).mono ?_
  rintro e w0 ⟨rfl, hb0⟩
  have h0 := h.below (by omega) hb0
  go_wp2_with fail
  refine (cut_any w0 A n c l 400 h0 (by omega)).mono ?_
  rintro e w1 ⟨A1, n1, c1, rfl, ho1, hb1⟩
  have ht : (l.take 400).length ≤ 400 := by simp; omega
  generalize l.take 400 = t at *
  obtain rfl := ho1.len'
  have hbw1 := hb0.trans (hb1.mono hb0.size)
  clear h h0
  go_wp2_with fail
  refine (copy_any w1 A1 _ c1 t ho1.sl (by omega)).mono ?_
  rintro e w2 ⟨A2, n2, c2, rfl, ho2, hb2⟩
  have hn2 := ho2.len'
  subst hn2
  have hlit : Sl (w2.alloc (.cells #[.int .u8 165] 5)) 1 (some ⟨w2.heap.size, 0, none⟩) 1 1 (bc [165]) := Sl.lit w2 _ _ 1 _ _ rfl (by unfold maxLen; omega) rfl
  have hba := (Below.refl w2.heap.size w2).alloc (Nat.le_refl _) (.cells #[.int .u8 165] 5)
  have ho2' := Own.below ho2 hba
  go_wp2_with (at_builtin; refine wpList_appB _ rfl (.tmp 13) (.tmp 14) rfl w1.heap.size A2 _ c2 t rfl ho2' _ 1 1 [165] rfl hlit ?_ ?_ ?_)
  · omega
  · have := hb2.size; simp; omega
  intro A3 c3 w3 ho3 hg3 _
  have hb13 : Below w1.heap.size w1 w3 := by
    refine (hb2.trans (hba.mono hb2.size)).grown hg3 ?_ ?_
    · have := hb2.size; simp; omega
    · intro k hk
      exact (Own.lt ho2 k hk).1
  have hbw3 : Below w.heap.size w w3 := hbw1.trans (hb13.mono hbw1.size)
  have s1 := (Own.below ho1 hb13).sl
  have hc3 := ho3.sl.cap
  have r1 := fun w => cutC (A := A3) (n := t.length + 1) (c := c3) .i64 (t.length : Int) t.length rfl (by omega) w
  have hs3 := (cutH ho3.sl .i64 t.length t.length rfl (by omega)).2
  rw [List.take_left] at hs3
  have s3 := ho3.sl
  clear hg3 hlit hba ho2' ho2 hb13 ho1 ho3
  have c4 := fun (w' : World) (hb : Below w3.heap.size w3 w') => nread_any w' A3 _ c3 t (hs3.below (by omega) hb) (by omega)
  have c5 := fun (w' : World) (hb : Below w3.heap.size w3 w') => rnread_any w' A1 _ c1 t (s1.below (by omega) hb) (by omega)
  unfold GotNote at c4 c5
  generalize readNoteL t = R at *
  generalize hy : R.getD ⟨0, 0, [], []⟩ = y at *
  generalize (if R.isSome then 0 else 4 : Nat) = er at *
  generalize hky : y.kind.toNat = ky at *
  generalize hqy : y.seq.toNat = qy at *
  have Hky := Lib.hid hky
  have Hqy := Lib.hid hqy
  have C4 := Lib.hid c4
  have C5 := Lib.hid c5
  clear c4 c5 hy hky hqy
  go_wp2_with fail
  refine (C4.out w3 (Below.refl _ _)).mono ?_
  rintro e w4 ⟨A4, n4, c4, A5, n5, c5, rfl, s4, _, s5, hb4⟩
  have s5 := s5.mono (q := fun _ => True) fun _ _ _ => trivial
  have q4 := hb4
  have kE := Bx4.fresh w4 (.int .u8 (ky : Int)) (.int .u64 (qy : Int)) (.slice A4 n4 c4) (.slice A5 n5 c5) 33
  have al := (Below.refl w4.heap.size w4).alloc (Nat.le_refl _) (.cells #[.int .u8 (ky : Int), .int .u64 (qy : Int), .slice A4 n4 c4, .slice A5 n5 c5] 33)
  generalize hW5 : (w4.alloc (.cells #[.int .u8 (ky : Int), .int .u64 (qy : Int), .slice A4 n4 c4, .slice A5 n5 c5] 33)) = w5 at *
  have s4 := s4.below (by omega) al
  have s5 := s5.below al
  have q4 := q4.trans (al.mono q4.size)
  clear al
  go_wp2_with fail
  try rw [hW5]
  clear hW5
  refine (C5.out w5 q4).mono ?_
  rintro e w6 ⟨A6, n6, c6, A7, n7, c7, rfl, s6, _, s7, hb6⟩
  have s7 := s7.mono (q := fun _ => True) fun _ _ _ => trivial
  have s4 := s4.below (by omega) hb6
  have s5 := s5.below hb6
  have kE := kE.below hb6
  have q4 := q4.trans (hb6.mono q4.size)
  have kF := Bx4.fresh w6 (.int .u8 (ky : Int)) (.int .u64 (qy : Int)) (.slice A6 n6 c6) (.slice A7 n7 c7) 26
  have al := (Below.refl w6.heap.size w6).alloc (Nat.le_refl _) (.cells #[.int .u8 (ky : Int), .int .u64 (qy : Int), .slice A6 n6 c6, .slice A7 n7 c7] 26)
  generalize hW7 : (w6.alloc (.cells #[.int .u8 (ky : Int), .int .u64 (qy : Int), .slice A6 n6 c6, .slice A7 n7 c7] 26)) = w7 at *
  have s4 := s4.below (by omega) al
  have s5 := s5.below al
  have s6 := s6.below (by omega) al
  have s7 := s7.below al
  have kE := kE.below al
  have q4 := q4.trans (al.mono q4.size)
  have rA := noteRowS w7 y ky qy Hky.out Hqy.out _ A4 n4 c4 A5 n5 c5 s4 s5 26
  have al := (Below.refl w7.heap.size w7).alloc (Nat.le_refl _) (.cells #[.int .u8 (ky : Int), .int .u64 (qy : Int), .slice A4 n4 c4, .slice A5 n5 c5] 26)
  have kF := kF.below al
  have s6 := s6.below (by omega) al
  have s7 := s7.below al
  have q4 := q4.trans (al.mono q4.size)
  obtain ⟨y0, y1, y2, y3, y4⟩ := id kE
  generalize hW9 : (w7.alloc (.cells #[.int .u8 (ky : Int), .int .u64 (qy : Int), .slice A4 n4 c4, .slice A5 n5 c5] 26)) = w9 at *
  obtain ⟨z0, z1, z2, z3, z4⟩ := id kF
  have hz7 := al.size
  have rB := noteRowS w9 y ky qy Hky.out Hqy.out _ A6 n6 c6 A7 n7 c7 s6 s7 26
  have al2 := (Below.refl w9.heap.size w9).alloc (Nat.le_refl _) (.cells #[.int .u8 (ky : Int), .int .u64 (qy : Int), .slice A6 n6 c6, .slice A7 n7 c7] 26)
  have rA := rA.below al2
  have q4 := q4.trans (al2.mono q4.size)
  clear al al2 kE kF s4 s5 s6 s7 C4 C5 hb4 hb6
  go_wp2_with fail
  try rw [hW7]
  try rw [hW9]
  clear hW7 hW9 y0 y1 y2 y3 y4 z0 z1 z2 z3 z4
  refine (samenotes_is _ _ _ 1 _ [y] rA _ _ 1 _ rB).mono ?_
  rintro e w8 ⟨rfl, hb8⟩
  have q8 := q4.trans (hb8.mono q4.size)
  have s1 := s1.below (by omega) q8
  have s3 := s3.below (by omega) q8
  have hs3 := hs3.below (by omega) q8
  have hbw8 := hbw3.trans (q8.mono hbw3.size)
  have hee : ((er : Int) == (er : Int)) = true := by simp
  clear hb8 q8 q4 hbw3 hbw1 hb0 hb1 hb2 rA rB
  go_wp2_with fail
  refine (same_is w8 _ _ c3 _ A1 _ c1 _ true (by unfold Hid; simp) hs3 s1).mono ?_
  rintro e w' ⟨rfl, rfl⟩
  have r2 := fun w => cutC (A := A3) (n := t.length) (c := c3) .i64 ((t.length : Int) + 1) (t.length + 1) (by omega) (by omega) w
  obtain ⟨b3, o3, x3, hA3, hx3, _, hcell⟩ := s3.byte (k := t.length) (by simp)
  have hx : x3 = 165 := by rw [← hx3]; simp
  subst hx
  clear hx3 s3
  subst hA3
  go_wp2
  go_ret
  exact ⟨rfl, hbw8⟩
end Go.Proofs.Ytfonincdhjkacaa
