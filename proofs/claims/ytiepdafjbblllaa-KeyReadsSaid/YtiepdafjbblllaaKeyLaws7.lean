/-
  The walk of KeyReads: it returns true at every input. No condition.
-/
import Derived.Test.YtiepdafjbblllaaKeyAwake
import Derived.Test.YtiepdafjbblllaaKeyReadW
import Derived.Test.YtiepdafjbblllaaKeyReadR
namespace Go.Proofs.Ytiepdafjbblllaa
open Go.RowKit
set_option maxRecDepth 100000
set_option maxHeartbeats 4000000 in
theorem keyReads.walk (w : World) (A : Option Addr) (n c : Nat) (l : List UInt8) (h : Sl w 1 A n c (bc l)) :
    Calls Try.prog 15 #[.slice A n c] w fun e w' => e = .returned (.bool true) ∧ Below w.heap.size w w' := by
  go_enter Try.func15, Try.ntmps15
  go_wp2_with fail
  refine (awake03 w).mono ?_
  rintro e w0 ⟨rfl, hb0⟩
  have h0 := h.below (by omega) hb0
  go_wp2_with fail
  refine (cut_any w0 A n c l 200 h0 (by omega)).mono ?_
  rintro e w1 ⟨A1, n1, c1, rfl, ho1, hb1⟩
  have ht : (l.take 200).length ≤ 200 := by simp; omega
  generalize l.take 200 = t at *
  obtain rfl := ho1.len'
  have hbw1 := hb0.trans (hb1.mono hb0.size)
  clear h h0
  go_wp2_with fail
  refine (copy_any w1 A1 _ c1 t ho1.sl (by omega)).mono ?_
  rintro e w2 ⟨A2, n2, c2, rfl, ho2, hb2⟩
  have hn2 := ho2.len'
  subst hn2
  have hlit : Sl (w2.alloc (.cells #[.int .u8 165] 5)) 1 (some ⟨w2.heap.size, 0, none⟩) 1 1 (bc [165]) := Sl.lit w2 _ _ 1 _ _ rfl (by unfold maxLen; omega) rfl
  have hba := (Below.refl w2.heap.size w2).alloc (Nat.le_refl _) (.cells #[.int .u8 165] 5)
  have ho2' := Own.below ho2 hba
  go_wp2_with (at_builtin; refine wpList_appB _ rfl (.tmp 15) (.tmp 16) rfl w1.heap.size A2 _ c2 t rfl ho2' _ 1 1 [165] rfl hlit ?_ ?_ ?_)
  · omega
  · have := hb2.size; simp; omega
  intro A3 c3 w3 ho3 hg3 _
  have hb13 : Below w1.heap.size w1 w3 := by
    refine (hb2.trans (hba.mono hb2.size)).grown hg3 ?_ ?_
    · have := hb2.size; simp; omega
    · intro k hk
      exact (Own.lt ho2 k hk).1
  have hbw3 : Below w.heap.size w w3 := hbw1.trans (hb13.mono hbw1.size)
  have s1 := (Own.below ho1 hb13).sl
  have hc3 := ho3.sl.cap
  have r1 := fun w => cutC (A := A3) (n := t.length + 1) (c := c3) .i64 (t.length : Int) t.length rfl (by omega) w
  have hs3 := (cutH ho3.sl .i64 t.length t.length rfl (by omega)).2
  rw [List.take_left] at hs3
  have s3 := ho3.sl
  clear hg3 hlit hba ho2' ho2 hb13 ho1 ho3
  have c4 := fun (w' : World) (hb : Below w3.heap.size w3 w') => kread_any w' A3 _ c3 t (hs3.below (by omega) hb) (by omega)
  have c5 := fun (w' : World) (hb : Below w3.heap.size w3 w') => rkread_any w' A1 _ c1 t (s1.below (by omega) hb) (by omega)
  have c6 := fun (w' : World) (A : Option Addr) (n c : Nat) (h : Sl w' 1 A n c (bc (keyReadL t).1.user)) (A' : Option Addr) (n' c' : Nat) (h' : Sl w' 1 A' n' c' (bc (keyReadL t).1.user)) => keq_any w' A n c (keyReadL t).1 h A' n' c' (keyReadL t).1 h'
  have hself : ((keyReadL t).1 == (keyReadL t).1) = true := by simp
  rw [hself] at c6
  clear hself
  unfold GotRead at c4 c5
  generalize keyReadL t = R at *
  obtain ⟨⟨u, s, kd⟩, rest, er⟩ := R
  simp only at c4 c5 c6
  generalize s.toNat = s at *
  generalize kd.toNat = kd at *
  have C4 := Lib.hid c4
  have C5 := Lib.hid c5
  have C6 := Lib.hid c6
  clear c4 c5 c6
  go_wp2_with fail
  refine (C4.out w3 (Below.refl _ _)).mono ?_
  rintro e w4 ⟨A4, n4, c4, B4, m4, d4, rfl, h4, g4, hb4⟩
  have bl4 := (Below.refl w4.heap.size w4).alloc (Nat.le_refl _) (.cells #[.slice A4 n4 c4, .int .u64 (s : Int), .int .u8 (kd : Int)] 25)
  have ka := Bx.fresh w4 (.slice A4 n4 c4) (.int .u64 (s : Int)) (.int .u8 (kd : Int)) 25
  have q4 := hb4.trans (bl4.mono hb4.size)
  have h4 := h4.below (by omega) bl4
  have g4 := g4.below (by omega) bl4
  go_wp2_with fail
  generalize (w4.alloc (.cells #[.slice A4 n4 c4, .int .u64 (s : Int), .int .u8 (kd : Int)] 25)) = w5 at *
  generalize w4.heap.size = ga at *
  refine (C5.out w5 q4).mono ?_
  rintro e w6 ⟨A6, n6, c6, B6, m6, d6, rfl, h6, g6, hb6⟩
  have ka := ka.below hb6
  have h4 := h4.below (by omega) hb6
  have g4 := g4.below (by omega) hb6
  have q6 := q4.trans (hb6.mono q4.size)
  clear bl4 hb4 hb6 q4
  have za := ka.lt
  have bl := (Below.refl w6.heap.size w6).alloc (Nat.le_refl _) (.cells #[.slice A6 n6 c6, .int .u64 (s : Int), .int .u8 (kd : Int)] 25)
  have h4 := h4.below (by omega) bl
  have g4 := g4.below (by omega) bl
  have h6 := h6.below (by omega) bl
  have g6 := g6.below (by omega) bl
  have q7 := q6.trans (bl.mono q6.size)
  obtain ⟨x0, x1, x2, x3⟩ := id ka
  go_wp2_with fail
  clear x0 x1 x2 x3 ka za
  generalize (w6.alloc (.cells #[.slice A6 n6 c6, .int .u64 (s : Int), .int .u8 (kd : Int)] 25)) = w7 at *
  refine (C6.out _ A4 n4 c4 h4 A6 n6 c6 h6).mono ?_
  rintro e w8 ⟨rfl, hb8⟩
  have g4 := g4.below (by omega) hb8
  have g6 := g6.below (by omega) hb8
  have q8 := q7.trans (hb8.mono q7.size)
  have s1 := s1.below (by omega) q8
  have s3 := s3.below (by omega) q8
  have hs3 := hs3.below (by omega) q8
  have hbw8 := hbw3.trans (q8.mono hbw3.size)
  clear hb8 q7 q8 q6 bl h4 h6 C4 C5 C6 hbw3 hbw1 hb0 hb1 hb2
  go_wp2_with fail
  refine (same_is w8 B4 m4 d4 _ B6 m6 d6 _ true (by unfold Hid; simp) g4 g6).mono ?_
  rintro e w' ⟨rfl, rfl⟩
  have r2 := fun w => cutC (A := A3) (n := t.length) (c := c3) .i64 ((t.length : Int) + 1) (t.length + 1) (by omega) (by omega) w
  obtain ⟨b3, o3, x3, hA3, hx3, _, hcell⟩ := s3.byte (k := t.length) (by simp)
  have hx : x3 = 165 := by rw [← hx3]; simp
  subst hx
  clear hx3 s3
  subst hA3
  go_wp2_with fail
  refine (same_is w8 _ _ c3 _ A1 _ c1 _ true (by unfold Hid; simp) hs3 s1).mono ?_
  rintro e w' ⟨rfl, rfl⟩
  go_wp2
  go_ret
  exact ⟨rfl, hbw8⟩
end Go.Proofs.Ytiepdafjbblllaa
