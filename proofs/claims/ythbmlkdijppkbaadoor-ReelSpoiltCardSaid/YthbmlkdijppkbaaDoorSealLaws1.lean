/-
  The walks of SealShort, SealCloses, SealOpens: each returns true at every bytes. The table lies in its variable.
-/
import Derived.Test.YthbmlkdijppkbaaDoorSealAwake
namespace Go.Proofs.YthbmlkdijppkbaaDoor
open Go.RowKit

theorem length_closeL (l : List UInt8) : (closeL l).length = l.length + 4 := by simp [closeL, le4]
theorem open_close (l : List UInt8) : openL (closeL l) = (l, 0) := by
  have h1 := length_closeL l
  have h2 : (closeL l).take ((closeL l).length - 4) = l := by
    rw [h1, Nat.add_sub_cancel]
    unfold closeL
    exact List.take_left
  unfold openL
  rw [if_neg (by omega), h2]
  simp

set_option maxHeartbeats 1000000 in
theorem sealShort.walk (w : World) (A : Option Addr) (n c : Nat) (l : List UInt8) (h : Sl w 1 A n c (bc l)) (hq : Quarter w) :
    Calls Tryd.prog 9 #[.slice A n c] w fun e w' => e = .returned (.bool true) ∧ Below w.heap.size w w' := by
  have e1 : openL (l.take 3) = ([], 2) := by unfold openL; rw [if_pos (by simp; omega)]
  have E1 := Lib.hid e1
  clear e1
  go_enter Tryd.func9, Tryd.ntmps9
  go_wp2_with fail
  refine (cut_any w A n c l 3 h (by omega)).mono ?_
  rintro e w1 ⟨A1, n1, c1, rfl, ho1, hb1⟩
  have hl1 := ho1.len'
  have hn1 : n1 ≤ 3 := by rw [← hl1]; simp; omega
  clear hl1
  go_wp2_with fail
  refine (open_any w1 A1 n1 c1 _ ho1.sl (hq.below hb1) (by omega)).mono ?_
  rw [E1.out]
  rintro e w2 ⟨A2, n2, c2, rfl, ho2, hb2⟩
  have hbw2 := hb1.trans (hb2.mono hb1.size)
  have hq2 := hq.below hbw2
  go_wp2_with fail
  refine (awake02 w2 hq2).mono ?_
  rintro e w3 ⟨rfl, hb3⟩
  go_wp2
  go_ret
  exact ⟨rfl, hbw2.trans (hb3.mono hbw2.size)⟩

set_option maxHeartbeats 2000000 in
theorem sealCloses.walk (w : World) (A : Option Addr) (n c : Nat) (l : List UInt8) (h : Sl w 1 A n c (bc l)) (hq : Quarter w) :
    Calls Tryd.prog 6 #[.slice A n c] w fun e w' => e = .returned (.bool true) ∧ Below w.heap.size w w' := by
  go_enter Tryd.func6, Tryd.ntmps6
  go_wp2_with fail
  refine (awake02 w hq).mono ?_
  rintro e w0 ⟨rfl, hb0⟩
  have h0 := h.below (by omega) hb0
  go_wp2_with fail
  refine (cut_any w0 A n c l 600 h0 (by omega)).mono ?_
  rintro e w1 ⟨A1, n1, c1, rfl, ho1, hb1⟩
  have ht : (l.take 600).length ≤ 600 := by simp; omega
  generalize l.take 600 = t at *
  obtain rfl := ho1.len'
  have hbw1 := hb0.trans (hb1.mono hb0.size)
  clear h h0
  go_wp2_with fail
  refine (copy_any w1 A1 _ c1 t ho1.sl (by omega)).mono ?_
  rintro e w2 ⟨A2, n2, c2, rfl, ho2, hb2⟩
  have hn2 := ho2.len'
  subst hn2
  have hlit : Sl (w2.alloc (.cells #[.int .u8 165] 5)) 1 (some ⟨w2.heap.size, 0, none⟩) 1 1 (bc [165]) := Sl.lit w2 _ _ 1 _ _ rfl (by unfold maxLen; omega) rfl
  have hba := (Below.refl w2.heap.size w2).alloc (Nat.le_refl _) (.cells #[.int .u8 165] 5)
  have ho2' := Own.below ho2 hba
  go_wp2_with (at_builtin; refine wpList_appB _ rfl (.tmp 12) (.tmp 13) rfl w1.heap.size A2 _ c2 t rfl ho2' _ 1 1 [165] rfl hlit ?_ ?_ ?_)
  · omega
  · have := hb2.size; simp; omega
  intro A3 c3 w3 ho3 hg3 _
  have hbw3 : Below w.heap.size w w3 := by
    refine ((hbw1.trans (hb2.mono hbw1.size)).trans (hba.mono (Nat.le_trans hbw1.size hb2.size))).grown hg3 ?_ ?_
    · have := hbw1.size; have := hb2.size; simp; omega
    · intro k hk
      have := hbw1.size
      have := (Own.lt ho2 k hk).1
      omega
  have hb13 : Below w1.heap.size w1 w3 := by
    refine (hb2.trans (hba.mono hb2.size)).grown hg3 ?_ ?_
    · have := hb2.size; simp; omega
    · intro k hk
      exact (Own.lt ho2 k hk).1
  have ho1' := Own.below ho1 hb13
  have hc3 := ho3.sl.cap
  have r1 := fun w => cutC (A := A3) (n := t.length + 1) (c := c3) .i64 (t.length : Int) t.length rfl (by omega) w
  have hs3 := (cutH ho3.sl .i64 t.length t.length rfl (by omega)).2
  rw [List.take_left] at hs3
  have hq3 := hq.below hbw3
  clear hg3 hlit hba ho2' ho2 hb13 ho1
  have c4 := open_close t
  have C4 := Lib.hid c4
  clear c4
  go_wp2_with fail
  refine (close_any w3 A3 _ c3 t hs3 hq3 (by omega)).mono ?_
  rintro e w4 ⟨A4, n4, c4, rfl, ho4, hb4⟩
  have hl4 := ho4.len'
  rw [length_closeL] at hl4
  have Hl4 : n4 ≤ 604 := by omega
  clear hl4
  go_wp2_with fail
  refine (open_any w4 A4 n4 c4 _ ho4.sl (hq3.below hb4) (by omega)).mono ?_
  rw [C4.out]
  rintro e w5 ⟨A5, n5, c5, rfl, ho5, hb5⟩
  have hb35 := hb4.trans (hb5.mono hb4.size)
  go_wp2_with fail
  refine (rclose_any w5 A1 _ c1 t (Own.below ho1' hb35).sl (by omega)).mono ?_
  rintro e w6 ⟨A6, n6, c6, rfl, ho6, hb6⟩
  have hb46 := hb5.trans (hb6.mono hb5.size)
  have hb36 := hb35.trans (hb6.mono hb35.size)
  have s4 := (Own.below ho4 hb46).sl
  have s5 := (Own.below ho5 hb6).sl
  have s1 := (Own.below ho1' hb36).sl
  have s3 := (Own.below ho3 hb36).sl
  have s3' := hs3.below (by omega) hb36
  have hbw6 := hbw3.trans (hb36.mono hbw3.size)
  clear ho4 ho5 ho1' ho3 hs3 hb4 hb5 hb6 hb35 hb46 hb36 hbw3 hbw1 hb0
  go_wp2_with fail
  refine (same_is w6 A4 n4 c4 _ A6 n6 c6 _ true (by unfold Hid; simp) s4 ho6.sl).mono ?_
  rintro e w' ⟨rfl, rfl⟩
  go_wp2_with fail
  refine (same_is w6 A5 n5 c5 _ A1 _ c1 _ true (by unfold Hid; simp) s5 s1).mono ?_
  rintro e w' ⟨rfl, rfl⟩
  go_wp2_with fail
  refine (same_is w6 A3 _ c3 _ A1 _ c1 _ true (by unfold Hid; simp) s3' s1).mono ?_
  rintro e w' ⟨rfl, rfl⟩
  have r2 := fun w => cutC (A := A3) (n := t.length) (c := c3) .i64 ((t.length : Int) + 1) (t.length + 1) (by omega) (by omega) w
  obtain ⟨b3, o3, x3, hA3, hx3, _, hcell⟩ := s3.byte (k := t.length) (by simp)
  have hx : x3 = 165 := by rw [← hx3]; simp
  subst hx
  clear hx3 s3
  subst hA3
  go_wp2
  go_ret
  exact ⟨rfl, hbw6⟩
end Go.Proofs.YthbmlkdijppkbaaDoor
