/-
  The walks of ReelFrames and ReelLong: each returns true at every input. The table lies in its variable.
-/
import Derived.Test.YthbmlkdijppkbaaDoorReelAwake
namespace Go.Proofs.YthbmlkdijppkbaaDoor
open Go.RowKit

set_option maxHeartbeats 2000000 in
theorem reelFrames.walk (w : World) (at_ : Int) (_b1 : -9223372036854775808 ≤ at_) (_b2 : at_ ≤ 9223372036854775807) (A : Option Addr) (n c : Nat) (l : List UInt8) (h : Sl w 1 A n c (bc l)) (hq : Quarter w) :
    Calls Tryd.prog 14 #[.int .i64 at_, .slice A n c] w fun e w' => e = .returned (.bool true) ∧ Below w.heap.size w w' := by
  go_enter Tryd.func14, Tryd.ntmps14
  go_wp2_with fail
  refine (awake06 w hq).mono ?_
  rintro e w0 ⟨rfl, hb0⟩
  have h0 := h.below (by omega) hb0
  go_wp2_with fail
  refine (cut_any w0 A n c l 600 h0 (by omega)).mono ?_
  rintro e w1 ⟨A1, n1, c1, rfl, ho1, hb1⟩
  have ht : (l.take 600).length ≤ 600 := by simp; omega
  generalize l.take 600 = t at *
  obtain rfl := ho1.len'
  have hbw1 := hb0.trans (hb1.mono hb0.size)
  clear h h0
  go_wp2_with fail
  refine (copy_any w1 A1 _ c1 t ho1.sl (by omega)).mono ?_
  rintro e w2 ⟨A2, n2, c2, rfl, ho2, hb2⟩
  have hn2 := ho2.len'
  subst hn2
  have hlit : Sl (w2.alloc (.cells #[.int .u8 165] 5)) 1 (some ⟨w2.heap.size, 0, none⟩) 1 1 (bc [165]) := Sl.lit w2 _ _ 1 _ _ rfl (by unfold maxLen; omega) rfl
  have hba := (Below.refl w2.heap.size w2).alloc (Nat.le_refl _) (.cells #[.int .u8 165] 5)
  have ho2' := Own.below ho2 hba
  go_wp2_with (at_builtin; refine wpList_appB _ rfl (.tmp 15) (.tmp 16) rfl w1.heap.size A2 _ c2 t rfl ho2' _ 1 1 [165] rfl hlit ?_ ?_ ?_)
  · omega
  · have := hb2.size; simp; omega
  intro A3 c3 w3 ho3 hg3 _
  have hb13 : Below w1.heap.size w1 w3 := by
    refine (hb2.trans (hba.mono hb2.size)).grown hg3 ?_ ?_
    · have := hb2.size; simp; omega
    · intro k hk
      exact (Own.lt ho2 k hk).1
  have hbw3 : Below w.heap.size w w3 := hbw1.trans (hb13.mono hbw1.size)
  have ho1' := Own.below ho1 hb13
  have hc3 := ho3.sl.cap
  have r1 := fun w => cutC (A := A3) (n := t.length + 1) (c := c3) .i64 (t.length : Int) t.length rfl (by omega) w
  have hs3 := (cutH ho3.sl .i64 t.length t.length rfl (by omega)).2
  rw [List.take_left] at hs3
  have hq3 := hq.below hbw3
  clear hg3 hlit hba ho2' ho2 hb13 ho1
  go_wp2_with fail
  refine (frame_any w3 at_ A3 _ c3 t hs3 hq3).mono ?_
  rintro e w4 ⟨A4, n4, c4, rfl, ho4, hb4⟩
  go_wp2_with fail
  refine (rframe_any w4 at_ A1 _ c1 t (Own.below ho1' hb4).sl).mono ?_
  rintro e w5 ⟨A5, n5, c5, rfl, ho5, hb5⟩
  have hb35 := hb4.trans (hb5.mono hb4.size)
  have s4 := (Own.below ho4 hb5).sl
  have s1 := (Own.below ho1' hb35).sl
  have s3 := (Own.below ho3 hb35).sl
  have s3' := hs3.below (by omega) hb35
  have hbw5 := hbw3.trans (hb35.mono hbw3.size)
  have s5 := ho5.sl
  generalize (framed at_ t).1 = o1 at *
  generalize (framed at_ t).2 = o2 at *
  clear ho4 ho5 ho1' ho3 hs3 hb4 hb5 hb35 hbw3 hbw1 hb0
  go_wp2_with fail
  refine (same_is w5 A4 n4 c4 _ A5 n5 c5 _ true (by unfold Hid; simp) s4 s5).mono ?_
  rintro e w' ⟨rfl, rfl⟩
  have r2 := fun w => cutC (A := A3) (n := t.length) (c := c3) .i64 ((t.length : Int) + 1) (t.length + 1) (by omega) (by omega) w
  obtain ⟨b3, o3, x3, hA3, hx3, _, hcell⟩ := s3.byte (k := t.length) (by simp)
  have hx : x3 = 165 := by rw [← hx3]; simp
  subst hx
  clear hx3 s3
  subst hA3
  go_wp2_with fail
  refine (same_is w5 _ _ c3 _ A1 _ c1 _ true (by unfold Hid; simp) s3' s1).mono ?_
  rintro e w' ⟨rfl, rfl⟩
  go_wp2
  go_ret
  exact ⟨rfl, hbw5⟩
theorem framed_long {p : List UInt8} (h : 65536 < p.length) : framed 3 p = ([], 3) := by
  unfold framed
  rw [if_neg (by omega), if_pos h]
set_option maxHeartbeats 2000000 in
theorem reelLong.walk (w : World) (x : Nat) (hx : x < 256) (hq : Quarter w) :
    Calls Tryd.prog 15 #[.int .u8 (x : Int)] w fun e w' => e = .returned (.bool true) ∧ Below w.heap.size w w' := by
  have ex : ((x : Int) % 5) = ((x % 5 : Nat) : Int) := by omega
  have hy : x % 5 < 5 := by omega
  obtain ⟨K, hK⟩ : ∃ K : Nat, (65534 : Int) + (x : Int) % 5 = (K : Int) := ⟨65534 + x % 5, by omega⟩
  have hKb : 65534 ≤ K ∧ K ≤ 65538 := by omega
  obtain ⟨hK1, hK2⟩ := hKb
  clear ex hy
  go_enter Tryd.func15, Tryd.ntmps15
  go_wp2_with fail
  refine (awake06 w hq).mono ?_
  rintro e w0 ⟨rfl, hb0⟩
  go_wp2_with (at_make; refine wpList_mkB _ rfl (.tmp 13) (.tmp 13) rfl w0.heap.size _ _ _ _ K rfl rfl ?_ ?_ ?_ ?_ ?_)
  · rfl
  · rfl
  · omega
  · exact Nat.le_refl _
  intro w1 ho1 hb1 _
  have hbw1 := hb0.trans (hb1.mono hb0.size)
  go_wp2_with fail
  refine (frame_any w1 3 _ K K _ (OwnB.sl ho1) (hq.below hbw1)).mono ?_
  by_cases hl : K ≤ 65536
  · have e : framed 3 (List.replicate K 0) = (frameL 3 true (List.replicate K 0), 0) := framed_ok (a := 3) (by simp; omega)
    have hfl := (frameL_length 3 true (List.replicate K 0)).1
    rw [List.length_replicate] at hfl
    rw [e]
    rintro e w2 ⟨A2, n2, c2, rfl, ho2, hb2⟩
    have hn2 : (frameL 3 true (List.replicate K 0)).length = n2 := ho2.len'
    have hnl : K < n2 := by omega
    have hbw2 := hbw1.trans (hb2.mono hbw1.size)
    clear e hfl hn2
    go_wp2
    go_ret
    exact ⟨rfl, hbw2⟩
  · have e : framed 3 (List.replicate K 0) = ([], 3) := framed_long (by simp; omega)
    rw [e]
    rintro e w2 ⟨A2, n2, c2, rfl, ho2, hb2⟩
    have hn2 := ho2.len'
    obtain rfl : n2 = 0 := by simpa using hn2.symm
    have hbw2 := hbw1.trans (hb2.mono hbw1.size)
    clear e hn2
    go_wp2
    go_ret
    exact ⟨rfl, hbw2⟩
end Go.Proofs.YthbmlkdijppkbaaDoor
