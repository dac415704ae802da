/-
  The walk of BatchReads: it returns true at every input. No condition.
-/
import Derived.Test.YtfonincdhjkacaaBatchLaws2
import Derived.Test.YtfonincdhjkacaaBatchReadR
namespace Go.Proofs.Ytfonincdhjkacaa
open Go.RowKit
set_option maxRecDepth 100000
set_option maxHeartbeats 4000000 in
theorem batchReads.walk (w : World) (A : Option Addr) (n c : Nat) (l : List UInt8) (h : Sl w 1 A n c (bc l)) :
    Calls Try.prog 11 #[.slice A n c] w fun e w' => e = .returned (.bool true) ∧ Below w.heap.size w w' := by
  go_enter Try.func11, Try.ntmps11
  go_wp2_with fail
  refine (awake04 w).mono ?_
  rintro e w0 ⟨rfl, hb0⟩
  have h0 := h.below (by omega) hb0
  go_wp2_with fail
  refine (cut_any w0 A n c l 400 h0 (by omega)).mono ?_
  rintro e w1 ⟨A1, n1, c1, rfl, ho1, hb1⟩
  have ht : (l.take 400).length ≤ 400 := by simp; omega
  generalize l.take 400 = t at *
  obtain rfl := ho1.len'
  have hbw1 := hb0.trans (hb1.mono hb0.size)
  clear h h0
  go_wp2_with fail
  refine (copy_any w1 A1 _ c1 t ho1.sl (by omega)).mono ?_
  rintro e w2 ⟨A2, n2, c2, rfl, ho2, hb2⟩
  have hn2 := ho2.len'
  subst hn2
  have hlit : Sl (w2.alloc (.cells #[.int .u8 165] 5)) 1 (some ⟨w2.heap.size, 0, none⟩) 1 1 (bc [165]) := Sl.lit w2 _ _ 1 _ _ rfl (by unfold maxLen; omega) rfl
  have hba := (Below.refl w2.heap.size w2).alloc (Nat.le_refl _) (.cells #[.int .u8 165] 5)
  have ho2' := Own.below ho2 hba
  go_wp2_with (at_builtin; refine wpList_appB _ rfl (.tmp 13) (.tmp 14) rfl w1.heap.size A2 _ c2 t rfl ho2' _ 1 1 [165] rfl hlit ?_ ?_ ?_)
  · omega
  · have := hb2.size; simp; omega
  intro A3 c3 w3 ho3 hg3 _
  have hb13 : Below w1.heap.size w1 w3 := by
    refine (hb2.trans (hba.mono hb2.size)).grown hg3 ?_ ?_
    · have := hb2.size; simp; omega
    · intro k hk
      exact (Own.lt ho2 k hk).1
  have hbw3 : Below w.heap.size w w3 := hbw1.trans (hb13.mono hbw1.size)
  have s1 := (Own.below ho1 hb13).sl
  have hc3 := ho3.sl.cap
  have r1 := fun w => cutC (A := A3) (n := t.length + 1) (c := c3) .i64 (t.length : Int) t.length rfl (by omega) w
  have hs3 := (cutH ho3.sl .i64 t.length t.length rfl (by omega)).2
  rw [List.take_left] at hs3
  have s3 := ho3.sl
  clear hg3 hlit hba ho2' ho2 hb13 ho1 ho3
  have c4 := fun (w' : World) (hb : Below w3.heap.size w3 w') => bread_any w' A3 _ c3 t (hs3.below (by omega) hb) (by omega)
  have c5 := fun (w' : World) (hb : Below w3.heap.size w3 w') => rread_any w' A1 _ c1 t (s1.below (by omega) hb) (by omega)
  rw [readOps_same] at c5
  unfold GotOps at c4 c5
  obtain ⟨R, hR⟩ : ∃ R, readOpsL t = R := ⟨_, rfl⟩
  rw [hR] at c4 c5
  clear hR
  generalize R.getD [] = out at *
  generalize (if R.isSome then 0 else 4 : Nat) = er at *
  have C4 := Lib.hid c4
  have C5 := Lib.hid c5
  clear c4 c5
  go_wp2_with fail
  refine (C4.out w3 (Below.refl _ _)).mono ?_
  rintro e w4 ⟨A4, n4, c4, rfl, h4, hb4⟩
  go_wp2_with fail
  refine (C5.out w4 hb4).mono ?_
  rintro e w5 ⟨A5, n5, c5, rfl, h5, hb5⟩
  have h4 := h4.below hb5
  have q5 := hb4.trans (hb5.mono hb4.size)
  clear hb4 hb5 C4 C5
  go_wp2_with fail
  refine (sameops_is w5 _ A4 n4 c4 out h4 _ A5 n5 c5 h5).mono ?_
  rintro e w8 ⟨rfl, hb8⟩
  have q8 := q5.trans (hb8.mono q5.size)
  have s1 := s1.below (by omega) q8
  have s3 := s3.below (by omega) q8
  have hs3 := hs3.below (by omega) q8
  have hbw8 := hbw3.trans (q8.mono hbw3.size)
  have hee : ((er : Int) == (er : Int)) = true := by simp
  clear hb8 q8 q5 h4 h5 hbw3 hbw1 hb0 hb1 hb2
  go_wp2_with fail
  refine (same_is w8 _ _ c3 _ A1 _ c1 _ true (by unfold Hid; simp) hs3 s1).mono ?_
  rintro e w' ⟨rfl, rfl⟩
  have r2 := fun w => cutC (A := A3) (n := t.length) (c := c3) .i64 ((t.length : Int) + 1) (t.length + 1) (by omega) (by omega) w
  obtain ⟨b3, o3, x3, hA3, hx3, _, hcell⟩ := s3.byte (k := t.length) (by simp)
  have hx : x3 = 165 := by rw [← hx3]; simp
  subst hx
  clear hx3 s3
  subst hA3
  go_wp2
  go_ret
  exact ⟨rfl, hbw8⟩
end Go.Proofs.Ytfonincdhjkacaa
