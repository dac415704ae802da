/-
  The walk of AtomReads: it returns true at every input. No condition.
-/
import Derived.Test.YthbmlkdijppkbaaAtomText
import Derived.Test.YthbmlkdijppkbaaAtomAwake
namespace Go.Proofs.Ythbmlkdijppkbaa
open Go.RowKit

set_option maxRecDepth 100000 in
set_option maxHeartbeats 4000000 in
theorem atomReads.walk (w : World) (A : Option Addr) (n c : Nat) (l : List UInt8) (h : Sl w 1 A n c (bc l)) (most : Int) (_b1 : -9223372036854775808 ≤ most) (b2 : most ≤ 9223372036854775807) :
    Calls Try.prog 5 #[.slice A n c, .int .i64 most] w fun e w' => e = .returned (.bool true) ∧ Below w.heap.size w w' := by
  have C1 : Hid (∀ (w : World) (A : Option Addr) (n c : Nat) (p : List UInt8) (_ : Sl w 1 A n c (bc p)) (_ : n ≤ 70368744177664), Calls Try.prog 18 #[.slice A n c, .int .i64 most] w (TookT w (takeTextL p most))) := fun w A n c p h hn => taketext_any w A n c p h hn most b2
  have C2 : Hid (∀ (w : World) (A : Option Addr) (n c : Nat) (p : List UInt8) (_ : Sl w 1 A n c (bc p)) (_ : n ≤ 70368744177664), Calls Try.prog 19 #[.slice A n c, .int .i64 most] w (TookT w (takeTextL p most))) := fun w A n c p h hn => rtaketext_any w A n c p h hn most b2
  clear b2 _b1
  go_enter Try.func5, Try.ntmps5
  go_wp2_with fail
  refine (awake01 w).mono ?_
  rintro e w0 ⟨rfl, hb0⟩
  have h0 := h.below (by omega) hb0
  go_wp2_with fail
  refine (cut_any w0 A n c l 300 h0 (by omega)).mono ?_
  rintro e w1 ⟨A1, n1, c1, rfl, ho1, hb1⟩
  have ht : (l.take 300).length ≤ 300 := by simp; omega
  generalize l.take 300 = t at *
  obtain rfl := ho1.len'
  have hbw1 := hb0.trans (hb1.mono hb0.size)
  clear h h0
  go_wp2_with fail
  refine (copy_any w1 A1 _ c1 t ho1.sl (by omega)).mono ?_
  rintro e w2 ⟨A2, n2, c2, rfl, ho2, hb2⟩
  have hn2 := ho2.len'
  subst hn2
  have hlit : Sl (w2.alloc (.cells #[.int .u8 165] 5)) 1 (some ⟨w2.heap.size, 0, none⟩) 1 1 (bc [165]) := Sl.lit w2 _ _ 1 _ _ rfl (by unfold maxLen; omega) rfl
  have hba := (Below.refl w2.heap.size w2).alloc (Nat.le_refl _) (.cells #[.int .u8 165] 5)
  have ho2' := Own.below ho2 hba
  go_wp2_with (at_builtin; refine wpList_appB _ rfl (.tmp 23) (.tmp 24) rfl w1.heap.size A2 _ c2 t rfl ho2' _ 1 1 [165] rfl hlit ?_ ?_ ?_)
  · omega
  · have := hb2.size; simp; omega
  intro A3 c3 w3 ho3 hg3 _
  have hb13 : Below w1.heap.size w1 w3 := by
    refine (hb2.trans (hba.mono hb2.size)).grown hg3 ?_ ?_
    · have := hb2.size; simp; omega
    · intro k hk
      exact (Own.lt ho2 k hk).1
  have hbw3 : Below w.heap.size w w3 := hbw1.trans (hb13.mono hbw1.size)
  have s1 := (Own.below ho1 hb13).sl
  have hc3 := ho3.sl.cap
  have r1 := fun w => cutC (A := A3) (n := t.length + 1) (c := c3) .i64 (t.length : Int) t.length rfl (by omega) w
  have hs3 := (cutH ho3.sl .i64 t.length t.length rfl (by omega)).2
  rw [List.take_left] at hs3
  have s3 := ho3.sl
  clear hg3 hlit hba ho2' ho2 hb13 ho1 ho3
  go_wp2_with fail
  refine (take_any w3 A3 _ c3 t hs3 (by omega)).mono ?_
  rintro e w4 ⟨A4, n4, c4, rfl, ho4, hb4⟩
  have hs4 := OwnB.sl ho4
  go_wp2_with fail
  refine (rtake_any w4 A1 _ c1 t (s1.below (by omega) hb4) (by omega)).mono ?_
  rintro e w5 ⟨A5, n5, c5, rfl, ho5, hb5⟩
  have hs5 := OwnB.sl ho5
  have hb35 := hb4.trans (hb5.mono hb4.size)
  have hs4 := hs4.below (by omega) hb5
  clear ho4 ho5 hb4 hb5
  go_wp2_with fail
  refine (C1.out w5 A3 _ c3 t (hs3.below (by omega) hb35) (by omega)).mono ?_
  rintro e w6 ⟨A6, n6, c6, A7, n7, c7, rfl, hs6, hs7, hb6⟩
  have hs4 := hs4.below (by omega) hb6
  have hs5 := hs5.below (by omega) hb6
  have hb36 := hb35.trans (hb6.mono hb35.size)
  go_wp2_with fail
  refine (C2.out w6 A1 _ c1 t (s1.below (by omega) hb36) (by omega)).mono ?_
  rintro e w7 ⟨A8, n8, c8, A9, n9, c9, rfl, hs8, hs9, hb7⟩
  have hs4 := hs4.below (by omega) hb7
  have hs5 := hs5.below (by omega) hb7
  have hs6 := hs6.below (by omega) hb7
  have hs7 := hs7.below (by omega) hb7
  have hb37 := hb36.trans (hb7.mono hb36.size)
  have s1 := s1.below (by omega) hb37
  have s3 := s3.below (by omega) hb37
  have hs3 := hs3.below (by omega) hb37
  have hbw7 := hbw3.trans (hb37.mono hbw3.size)
  generalize takeTextL t most = T at *
  generalize takeL t = T2 at *
  obtain ⟨T0, T1, T3⟩ := T
  obtain ⟨U0, U1, U3⟩ := T2
  simp only at hs4 hs5 hs6 hs7 hs8 hs9
  clear hb35 hb36 hb37 hb6 hb7 hbw3 hbw1 hb0 hb1 hb2 C1 C2
  go_wp2_with fail
  refine (same_is w7 A4 n4 c4 _ A5 n5 c5 _ true (by unfold Hid; simp) hs4 hs5).mono ?_
  rintro e w' ⟨rfl, rfl⟩
  go_wp2_with fail
  refine (same_is w7 A6 n6 c6 _ A8 n8 c8 _ true (by unfold Hid; simp) hs6 hs8).mono ?_
  rintro e w' ⟨rfl, rfl⟩
  go_wp2_with fail
  refine (same_is w7 A7 n7 c7 _ A9 n9 c9 _ true (by unfold Hid; simp) hs7 hs9).mono ?_
  rintro e w' ⟨rfl, rfl⟩
  have r2 := fun w => cutC (A := A3) (n := t.length) (c := c3) .i64 ((t.length : Int) + 1) (t.length + 1) (by omega) (by omega) w
  obtain ⟨b3, o3, x3, hA3, hx3, _, hcell⟩ := s3.byte (k := t.length) (by simp)
  have hx : x3 = 165 := by rw [← hx3]; simp
  subst hx
  clear hx3 s3
  subst hA3
  go_wp2_with fail
  refine (same_is w7 _ _ c3 _ A1 _ c1 _ true (by unfold Hid; simp) hs3 s1).mono ?_
  rintro e w' ⟨rfl, rfl⟩
  go_wp2
  go_ret
  exact ⟨rfl, hbw7⟩
end Go.Proofs.Ythbmlkdijppkbaa
