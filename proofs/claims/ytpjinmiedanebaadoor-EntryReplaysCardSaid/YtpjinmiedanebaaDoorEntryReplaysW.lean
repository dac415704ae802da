/-
  The walk of EntryReplays: it returns true at every input. (Printed by genreplays.py.) The table lies in its variable; else no condition.
-/
import Derived.Test.YtpjinmiedanebaaDoorJReelAllW
import Derived.Test.YtpjinmiedanebaaDoorJTornRel
namespace Go.Proofs.YtpjinmiedanebaaDoor
open Go.RowKit
set_option maxRecDepth 100000
set_option maxHeartbeats 16000000 in
theorem entryReplays.walk (w : World) (A : Option Addr) (n c : Nat) (l : List UInt8) (h : Sl w 1 A n c (bc l)) (hq : Quarter w) :
    Calls Tryd.prog 3 #[.slice A n c] w fun e w' => e = .returned (.bool true) ∧ Below w.heap.size w w' := by
  go_enter Tryd.func3, Tryd.ntmps3
  go_wp2_with fail
  refine (awake07 w).mono ?_
  rintro e w0 ⟨rfl, hb0⟩
  have h0 := h.below (by omega) hb0
  go_wp2_with fail
  refine (cut_any w0 A n c l 600 h0 (by omega)).mono ?_
  rintro e w1 ⟨A1, n1, c1, rfl, ho1, hb1⟩
  have ht : (l.take 600).length ≤ 600 := by simp; omega
  generalize l.take 600 = t at *
  obtain rfl := ho1.len'
  have hbw1 := hb0.trans (hb1.mono hb0.size)
  clear h h0
  go_wp2_with fail
  refine (copy_any w1 A1 _ c1 t ho1.sl (by omega)).mono ?_
  rintro e w2 ⟨A2, n2, c2, rfl, ho2, hb2⟩
  have hn2 := ho2.len'
  subst hn2
  have hlit : Sl (w2.alloc (.cells #[.int .u8 165] 5)) 1 (some ⟨w2.heap.size, 0, none⟩) 1 1 (bc [165]) := Sl.lit w2 _ _ 1 _ _ rfl (by unfold maxLen; omega) rfl
  have hba := (Below.refl w2.heap.size w2).alloc (Nat.le_refl _) (.cells #[.int .u8 165] 5)
  have ho2' := Own.below ho2 hba
  go_wp2_with (at_builtin; refine wpList_appB _ rfl (.tmp 12) (.tmp 13) rfl w1.heap.size A2 _ c2 t rfl ho2' _ 1 1 [165] rfl hlit ?_ ?_ ?_)
  · omega
  · have := hb2.size; simp; omega
  intro A3 c3 w3 ho3 hg3 _
  have hb13 : Below w1.heap.size w1 w3 := by
    refine (hb2.trans (hba.mono hb2.size)).grown hg3 ?_ ?_
    · have := hb2.size; simp; omega
    · intro k hk
      exact (Own.lt ho2 k hk).1
  have hbw3 : Below w.heap.size w w3 := hbw1.trans (hb13.mono hbw1.size)
  have s1 := (Own.below ho1 hb13).sl
  have hc3 := ho3.sl.cap
  have r1 := fun w => cutC (A := A3) (n := t.length + 1) (c := c3) .i64 (t.length : Int) t.length rfl (by omega) w
  have hs3 := (cutH ho3.sl .i64 t.length t.length rfl (by omega)).2
  rw [List.take_left] at hs3
  have s3 := ho3.sl
  clear hg3 hlit hba ho2' ho2 hb13 ho1 ho3
  have hq3 := hq.below hbw3
  have k4 := replay_any w3 A3 _ c3 t (hs3.below (by omega) (Below.refl _ _)) hq3 (by omega)
  have K4 := Lib.hid k4
  clear k4
  go_wp2_with fail
  refine K4.out.mono ?_
  rintro e w4 ⟨rs, z, A4, n4, c4, hrt, rfl, s4, hb4⟩
  obtain ⟨e1, hr1, hk1, he1, _⟩ := id hrt
  have s4 := s4.mono (q := fun _ => True) fun _ _ _ => trivial
  have q4 := hb4
  have s1' := s1.below (by omega) q4
  have k5 := rreplay_any w4 A1 _ c1 t s1' (by omega)
  have K5 := Lib.hid k5
  clear k5 hrt K4
  go_wp2_with fail
  refine K5.out.mono ?_
  rintro e w5 ⟨rs2, e2, A5, n5, c5, hr2, hk2, rfl, s5, hb5⟩
  obtain ⟨rfl, -⟩ := reads_one hr2 hk2 hr1 hk1
  have s5 := s5.mono (q := fun _ => True) fun _ _ _ => trivial
  have s4 := s4.below hb5
  have q4 := q4.trans (hb5.mono q4.size)
  have hll : (replayL rs2).length ≤ 1000000 := by
    have h1 := replay_le rs2
    have h2 := (reads_len hr1).2
    omega
  generalize replayL rs2 = ns at *
  have hn4 := s4.lenR
  have hn5 := s5.lenR
  have hnn : n4 = n5 := by omega
  have hee : ((n4 : Int) == (n5 : Int)) = true := by rw [hnn]; simp
  have hee' : ((n5 : Int) == (n4 : Int)) = true := by rw [hnn]; simp
  subst hnn
  have k6 := back_any w5 A4 n4 c4 ns s4 (by omega)
  have K6 := Lib.hid k6
  clear k6 hr1 hk1 hr2 hk2 K5
  go_wp2_with fail
  refine K6.out.mono ?_
  rintro e w6 ⟨A6, n6, c6, rfl, ho6, hb6⟩
  have s6 := ho6.sl
  have s5 := s5.below hb6
  have q4 := q4.trans (hb6.mono q4.size)
  clear ho6 hb4 hb5 hb6 s4 s1' K6
  go_wp2_with fail
  refine (samenotes_is _ _ _ _ _ ns s6 _ _ _ _ s5).mono ?_
  rintro e w8 ⟨rfl, hb8⟩
  have q8 := q4.trans (hb8.mono q4.size)
  have s1 := s1.below (by omega) q8
  have s3 := s3.below (by omega) q8
  have hs3 := hs3.below (by omega) q8
  have hbw8 := hbw3.trans (q8.mono hbw3.size)
  clear hb8 q8 q4 hbw3 hbw1 hb0 hb1 hb2 s5 s6 hq3
  go_wp2_with fail
  refine (same_is w8 _ _ c3 _ A1 _ c1 _ true (by unfold Hid; simp) hs3 s1).mono ?_
  rintro e w' ⟨rfl, rfl⟩
  have r2 := fun w => cutC (A := A3) (n := t.length) (c := c3) .i64 ((t.length : Int) + 1) (t.length + 1) (by omega) (by omega) w
  obtain ⟨b3, o3, x3, hA3, hx3, _, hcell⟩ := s3.byte (k := t.length) (by simp)
  have hx : x3 = 165 := by rw [← hx3]; simp
  subst hx
  clear hx3 s3
  subst hA3
  go_wp2
  go_ret
  exact ⟨rfl, hbw8⟩
end Go.Proofs.YtpjinmiedanebaaDoor
