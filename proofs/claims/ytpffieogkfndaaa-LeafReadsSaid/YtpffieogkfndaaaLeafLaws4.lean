/-
  The walk of LeafReads: it returns true at every input. (Printed by genleaf17.py.) No condition.
-/
import Derived.Test.YtpffieogkfndaaaLeafLaws1
import Derived.Test.YtpffieogkfndaaaLeafRead
import Derived.Test.YtpffieogkfndaaaLeafReadR
import Derived.Test.YtpffieogkfndaaaLeafFrom
import Derived.Test.YtpffieogkfndaaaLeafFrom8
namespace Go.Proofs.Ytpffieogkfndaaa
open Go.RowKit
set_option maxRecDepth 100000
theorem Bx.set0 {w : World} {g : Nat} {u0 u1 u2 v0 : Value} (h : Bx w g u0 u1 u2) : Bx (w.setCell ⟨g, 0, none⟩ v0) g v0 u1 u2 ∧ w.grownBy (w.setCell ⟨g, 0, none⟩ v0) (some g) :=
  ⟨⟨set_same h.c0 _, set_other h.c1 _ (by omega), set_other h.c2 _ (by omega), fun j => by simp [h.fr]⟩, only_set (World.grownBy.refl _ _) 0 v0⟩
set_option maxHeartbeats 32000000 in
theorem leafReads.walk (w : World) (A : Option Addr) (n c : Nat) (l : List UInt8) (h : Sl w 1 A n c (bc l)) (A2 : Option Addr) (n2 c2 : Nat) (k : KeyL) (s2 : Sl w 1 A2 n2 c2 (bc k.user)) :
    Calls Try.prog 3 #[.slice A n c, .agg #[.slice A2 n2 c2, .int .u64 (k.seq.toNat : Int), .int .u8 (k.kind.toNat : Int)]] w fun e w' => e = .returned (.bool true) ∧ Below w.heap.size w w' := by
  have c6 := fun (w' : World) A n c t (h : Sl w' 1 A n c (bc t)) hn A2 n2 c2 (s2 : Sl w' 1 A2 n2 c2 (bc (k.user.take 80))) => from12_any w' A n c t h hn A2 n2 c2 ⟨k.user.take 80, k.seq, k.kind⟩ s2
  have c7 := fun (w' : World) A n c ls (h : SlR w' (fun _ => True) A n c ls) A2 n2 c2 (s2 : Sl w' 1 A2 n2 c2 (bc (k.user.take 80))) => rfrom8_any w' _ A n c ls h A2 n2 c2 ⟨k.user.take 80, k.seq, k.kind⟩ s2
  have c8 := fun (w' : World) A n c t (h : Sl w' 1 A n c (bc t)) hn A2 n2 c2 (s2 : Sl w' 1 A2 n2 c2 (bc (k.user.take 80))) => before12_any w' A n c t h hn A2 n2 c2 ⟨k.user.take 80, k.seq, k.kind⟩ s2
  have c9 := fun (w' : World) A n c ls (h : SlR w' (fun _ => True) A n c ls) A2 n2 c2 (s2 : Sl w' 1 A2 n2 c2 (bc (k.user.take 80))) => rbefore8_any w' _ A n c ls h A2 n2 c2 ⟨k.user.take 80, k.seq, k.kind⟩ s2
  have hu80 : (k.user.take 80).length ≤ 80 := by simp; omega
  generalize hK2 : (⟨k.user.take 80, k.seq, k.kind⟩ : KeyL) = K2 at *
  have hK2s : K2.seq = k.seq := by rw [← hK2]
  have hK2k : K2.kind = k.kind := by rw [← hK2]
  rw [hK2s, hK2k] at c6 c7 c8 c9
  generalize k.seq.toNat = s at *
  generalize k.kind.toNat = d at *
  have hs2 := s2
  have ck := fun (w' : World) A2 n2 c2 (s2 : Sl w' 1 A2 n2 c2 (bc k.user)) => cut_any w' A2 n2 c2 k.user 80 s2 (by omega)
  generalize k.user.take 80 = u at *
  generalize k.user = ku at *
  clear hK2 hK2s hK2k hu80 hs2
  have C6 := Lib.hid c6
  have C7 := Lib.hid c7
  have C8 := Lib.hid c8
  have C9 := Lib.hid c9
  have Ck := Lib.hid ck
  clear c6 c7 c8 c9 ck
  have hq := (Below.refl w.heap.size w).alloc (Nat.le_refl _) (.cells #[.slice A2 n2 c2, .int .u64 (s : Int), .int .u8 (d : Int)] 25)
  have kK := Bx.fresh w (.slice A2 n2 c2) (.int .u64 (s : Int)) (.int .u8 (d : Int)) 25
  have h := h.below (by omega) hq
  have s2 := s2.below (by omega) hq
  go_enter Try.func3, Try.ntmps3
  go_wp2_with fail
  generalize (w.alloc (.cells #[.slice A2 n2 c2, .int .u64 (s : Int), .int .u8 (d : Int)] 25)) = wa at *
  refine (awake12 wa).mono ?_
  rintro e w0 ⟨rfl, hb⟩
  have hq := hq.trans (hb.mono hq.size)
  have h := h.below (by omega) hb
  have s2 := s2.below (by omega) hb
  have kK := kK.below hb
  clear hb
  have hgl := kK.lt
  have hsz0 : w0.heap.size ≤ w0.heap.size := Nat.le_refl _
  go_wp2_with fail
  refine (cut_any w0 A n c l 900 h (by omega)).mono ?_
  rintro e w1 ⟨A1, n1, c1, rfl, ho1, hb⟩
  have ht : (l.take 900).length ≤ 900 := by simp; omega
  generalize l.take 900 = t at *
  obtain rfl := ho1.len'
  have s1 := ho1.sl
  have hq := hq.trans (hb.mono hq.size)
  have s2 := s2.below (by omega) hb
  have kK := kK.below hb
  clear hb h
  obtain ⟨x0, x1, x2, x3⟩ := id kK
  have kK1 := kK
  go_wp2_with fail
  refine (Ck.out w1 _ _ _ s2).mono ?_
  rintro e w2 ⟨A3, n3, c3, rfl, ho3, hb⟩
  have s3 := ho3.sl
  have s1 := s1.below (by omega) hb
  have hq := hq.trans (hb.mono hq.size)
  have kK := kK.below hb
  have hgl2 := kK1.lt
  clear x0 x1 x2 x3 Ck s2
  obtain ⟨kK', hg⟩ := kK.set0 (v0 := .slice A3 n3 c3)
  obtain ⟨x0, x1, x2, x3⟩ := id kK
  generalize hW : (w2.setCell ⟨w.heap.size, 0, none⟩ (.slice A3 n3 c3)) = w3 at *
  have ho1' := Own.below ho1 hb
  have s1 := Own.sl (Own.grown ho1' hg (fun b hb e => by have := (Own.lt ho1 b hb).1; simp at e; omega))
  have s3 := Own.sl (Own.grown ho3 hg (fun b hb e => by have := (Own.lt ho3 b hb).1; simp at e; omega))
  have hq := hq.grown hg (by have := hq.size; omega) (fun k e => by simp at e; omega)
  clear ho1 ho1' ho3 hb hg hgl hgl2 hsz0 kK kK1
  have kK := kK'
  clear kK'
  go_wp2_with fail
  try rw [hW]
  clear hW x0 x1 x2 x3
  refine (copy_any w3 A1 _ c1 t s1 (by omega)).mono ?_
  rintro e w4 ⟨A4, n4, c4, rfl, ho4, hb4⟩
  have hn4 := ho4.len'
  subst hn4
  have hlit : Sl (w4.alloc (.cells #[.int .u8 165] 5)) 1 (some ⟨w4.heap.size, 0, none⟩) 1 1 (bc [165]) := Sl.lit w4 _ _ 1 _ _ rfl (by unfold maxLen; omega) rfl
  have hba := (Below.refl w4.heap.size w4).alloc (Nat.le_refl _) (.cells #[.int .u8 165] 5)
  have ho4' := Own.below ho4 hba
  go_wp2_with (at_builtin; refine wpList_appB _ rfl (.tmp 29) (.tmp 30) rfl w3.heap.size A4 _ c4 t rfl ho4' _ 1 1 [165] rfl hlit ?_ ?_ ?_)
  · omega
  · have := hb4.size; simp; omega
  intro A5 c5 w5 ho5 hg5 _
  have hb35 : Below w3.heap.size w3 w5 := by
    refine (hb4.trans (hba.mono hb4.size)).grown hg5 ?_ ?_
    · have := hb4.size; simp; omega
    · intro k hk
      exact (Own.lt ho4 k hk).1
  have hq := hq.trans (hb35.mono hq.size)
  have s1 := s1.below (by omega) hb35
  have s3 := s3.below (by omega) hb35
  have kK := kK.below hb35
  have hc5 := ho5.sl.cap
  have r1 := fun w => cutC (A := A5) (n := t.length + 1) (c := c5) .i64 (t.length : Int) t.length rfl (by omega) w
  have hs5 := (cutH ho5.sl .i64 t.length t.length rfl (by omega)).2
  rw [List.take_left] at hs5
  have s5 := ho5.sl
  clear hg5 hlit hba ho4' ho4 hb35 hb4 ho5
  have q4 := fun (w' : World) (hb : Below w5.heap.size w5 w') => lread_any w' A5 _ c5 t (hs5.below (by omega) hb) (by omega)
  have q5 := fun (w' : World) (hb : Below w5.heap.size w5 w') => rlread_any w' A1 _ c1 t (s1.below (by omega) hb) (by omega)
  simp only [readLeaf_same] at q5
  have q6 := fun (w' : World) (hb : Below w5.heap.size w5 w') => C6.out w' A5 _ c5 t (hs5.below (by omega) hb) (by omega) A3 n3 c3 (s3.below (by omega) hb)
  have q8 := fun (w' : World) (hb : Below w5.heap.size w5 w') => C8.out w' A5 _ c5 t (hs5.below (by omega) hb) (by omega) A3 n3 c3 (s3.below (by omega) hb)
  unfold GotEnts at q4 q5
  generalize readLeafL t = R at *
  generalize (if R.isSome then 0 else 4 : Nat) = er at *
  generalize R.getD [] = ls at *
  have q7 := fun (w' : World) (hb : Below w5.heap.size w5 w') A n c (h : SlR w' (fun _ => True) A n c ls) => C7.out w' A n c ls h A3 n3 c3 (s3.below (by omega) hb)
  have q9 := fun (w' : World) (hb : Below w5.heap.size w5 w') A n c (h : SlR w' (fun _ => True) A n c ls) => C9.out w' A n c ls h A3 n3 c3 (s3.below (by omega) hb)
  unfold GotAt at q6 q8
  unfold GotAt8 at q7 q9
  generalize fromL ls K2 = oF at *
  generalize beforeL ls K2 = oB at *
  generalize oF.getD ⟨⟨[], 0, 0⟩, []⟩ = X at *
  generalize oB.getD ⟨⟨[], 0, 0⟩, []⟩ = Y at *
  generalize oF.isSome = bF at *
  generalize oB.isSome = bB at *
  have sX := fun (w' : World) A n c B m d h1 h2 A' n' c' B' m' d' h3 h4 => sent_any w' A n c B m d X h1 h2 A' n' c' B' m' d' X h3 h4
  have sY := fun (w' : World) A n c B m d h1 h2 A' n' c' B' m' d' h3 h4 => sent_any w' A n c B m d Y h1 h2 A' n' c' B' m' d' Y h3 h4
  rw [show decide (X = X) = true by simp] at sX
  rw [show decide (Y = Y) = true by simp] at sY
  generalize X.key.seq.toNat = xs at *
  generalize X.key.kind.toNat = xk at *
  generalize Y.key.seq.toNat = ys at *
  generalize Y.key.kind.toNat = yk at *
  have Q4 := Lib.hid q4
  have Q5 := Lib.hid q5
  have Q6 := Lib.hid q6
  have Q7 := Lib.hid q7
  have Q8 := Lib.hid q8
  have Q9 := Lib.hid q9
  have SX := Lib.hid sX
  have SY := Lib.hid sY
  clear q4 q5 q6 q7 q8 q9 sX sY C6 C7 C8 C9
  go_wp2_with fail
  refine (Q4.out w5 (Below.refl _ _)).mono ?_
  rintro e w6 ⟨A6, n6, c6, rfl, h6, q6⟩
  have h6 := h6.mono (q := fun _ => True) fun _ _ _ => trivial
  go_wp2_with fail
  refine (Q5.out w6 q6).mono ?_
  rintro e w7 ⟨A7, n7, c7, rfl, h7, hb⟩
  have h7 := h7.mono (q := fun _ => True) fun _ _ _ => trivial
  have h6 := h6.below hb
  have q6 := q6.trans (hb.mono q6.size)
  clear hb
  have hee : ((er : Int) == (er : Int)) = true := by simp
  go_wp2_with fail
  refine (sents_is w7 _ A6 n6 c6 ls h6 _ A7 n7 c7 h7).mono ?_
  rintro e w8 ⟨rfl, hb⟩
  have h7 := h7.below hb
  have q6 := q6.trans (hb.mono q6.size)
  have kK := kK.below q6
  clear hb h6 Q4 Q5
  obtain ⟨x0, x1, x2, x3⟩ := id kK
  go_wp2_with fail
  clear x0 x1 x2 x3
  refine (Q6.out w8 q6).mono ?_
  rintro e v0 ⟨A10, n10, c10, A11, n11, c11, rfl, s10, s11, hb⟩
  have kK := kK.below hb
  have q6 := q6.trans (hb.mono q6.size)
  have h7 := h7.below hb
  clear hb Q6
  have k1 := Bx4.fresh v0 (.slice A10 n10 c10) (.int .u64 (xs : Int)) (.int .u8 (xk : Int)) (.slice A11 n11 c11) 37
  have al := (Below.refl v0.heap.size v0).alloc (Nat.le_refl _) (.cells #[.slice A10 n10 c10, .int .u64 (xs : Int), .int .u8 (xk : Int), .slice A11 n11 c11] 37)
  generalize hW : (v0.alloc (.cells #[.slice A10 n10 c10, .int .u64 (xs : Int), .int .u8 (xk : Int), .slice A11 n11 c11] 37)) = u0 at *
  have kK := kK.below al
  have q6 := q6.trans (al.mono q6.size)
  have h7 := h7.below al
  have s10 := s10.below (by omega) al
  have s11 := s11.below (by omega) al
  clear al
  obtain ⟨x0, x1, x2, x3⟩ := id kK
  go_wp2_with fail
  try rw [hW]
  clear hW
  obtain ⟨g1, hg1⟩ : ∃ g, g = v0.heap.size := ⟨_, rfl⟩
  rw [← hg1] at k1
  try rw [← hg1]
  clear hg1
  clear x0 x1 x2 x3
  refine (Q7.out u0 q6 _ _ _ h7).mono ?_
  rintro e v1 ⟨A12, n12, c12, A13, n13, c13, rfl, s12, s13, hb⟩
  have kK := kK.below hb
  have q6 := q6.trans (hb.mono q6.size)
  have h7 := h7.below hb
  have k1 := k1.below hb
  have s10 := s10.below (by omega) hb
  have s11 := s11.below (by omega) hb
  clear hb Q7
  have k2 := Bx4.fresh v1 (.slice A12 n12 c12) (.int .u64 (xs : Int)) (.int .u8 (xk : Int)) (.slice A13 n13 c13) 37
  have al := (Below.refl v1.heap.size v1).alloc (Nat.le_refl _) (.cells #[.slice A12 n12 c12, .int .u64 (xs : Int), .int .u8 (xk : Int), .slice A13 n13 c13] 37)
  generalize hW : (v1.alloc (.cells #[.slice A12 n12 c12, .int .u64 (xs : Int), .int .u8 (xk : Int), .slice A13 n13 c13] 37)) = u1 at *
  have kK := kK.below al
  have q6 := q6.trans (al.mono q6.size)
  have h7 := h7.below al
  have k1 := k1.below al
  have s10 := s10.below (by omega) al
  have s11 := s11.below (by omega) al
  have s12 := s12.below (by omega) al
  have s13 := s13.below (by omega) al
  clear al
  obtain ⟨x0, x1, x2, x3⟩ := id kK
  go_wp2_with fail
  try rw [hW]
  clear hW
  obtain ⟨g2, hg2⟩ : ∃ g, g = v1.heap.size := ⟨_, rfl⟩
  rw [← hg2] at k2
  try rw [← hg2]
  clear hg2
  clear x0 x1 x2 x3
  refine (Q8.out u1 q6).mono ?_
  rintro e v2 ⟨A14, n14, c14, A15, n15, c15, rfl, s14, s15, hb⟩
  have kK := kK.below hb
  have q6 := q6.trans (hb.mono q6.size)
  have h7 := h7.below hb
  have k1 := k1.below hb
  have s10 := s10.below (by omega) hb
  have s11 := s11.below (by omega) hb
  have k2 := k2.below hb
  have s12 := s12.below (by omega) hb
  have s13 := s13.below (by omega) hb
  clear hb Q8
  have k3 := Bx4.fresh v2 (.slice A14 n14 c14) (.int .u64 (ys : Int)) (.int .u8 (yk : Int)) (.slice A15 n15 c15) 37
  have al := (Below.refl v2.heap.size v2).alloc (Nat.le_refl _) (.cells #[.slice A14 n14 c14, .int .u64 (ys : Int), .int .u8 (yk : Int), .slice A15 n15 c15] 37)
  generalize hW : (v2.alloc (.cells #[.slice A14 n14 c14, .int .u64 (ys : Int), .int .u8 (yk : Int), .slice A15 n15 c15] 37)) = u2 at *
  have kK := kK.below al
  have q6 := q6.trans (al.mono q6.size)
  have h7 := h7.below al
  have k1 := k1.below al
  have s10 := s10.below (by omega) al
  have s11 := s11.below (by omega) al
  have k2 := k2.below al
  have s12 := s12.below (by omega) al
  have s13 := s13.below (by omega) al
  have s14 := s14.below (by omega) al
  have s15 := s15.below (by omega) al
  clear al
  obtain ⟨x0, x1, x2, x3⟩ := id kK
  go_wp2_with fail
  try rw [hW]
  clear hW
  obtain ⟨g3, hg3⟩ : ∃ g, g = v2.heap.size := ⟨_, rfl⟩
  rw [← hg3] at k3
  try rw [← hg3]
  clear hg3
  clear x0 x1 x2 x3
  refine (Q9.out u2 q6 _ _ _ h7).mono ?_
  rintro e v3 ⟨A16, n16, c16, A17, n17, c17, rfl, s16, s17, hb⟩
  have kK := kK.below hb
  have q6 := q6.trans (hb.mono q6.size)
  have h7 := h7.below hb
  have k1 := k1.below hb
  have s10 := s10.below (by omega) hb
  have s11 := s11.below (by omega) hb
  have k2 := k2.below hb
  have s12 := s12.below (by omega) hb
  have s13 := s13.below (by omega) hb
  have k3 := k3.below hb
  have s14 := s14.below (by omega) hb
  have s15 := s15.below (by omega) hb
  clear hb Q9
  have k4 := Bx4.fresh v3 (.slice A16 n16 c16) (.int .u64 (ys : Int)) (.int .u8 (yk : Int)) (.slice A17 n17 c17) 37
  have al := (Below.refl v3.heap.size v3).alloc (Nat.le_refl _) (.cells #[.slice A16 n16 c16, .int .u64 (ys : Int), .int .u8 (yk : Int), .slice A17 n17 c17] 37)
  generalize hW : (v3.alloc (.cells #[.slice A16 n16 c16, .int .u64 (ys : Int), .int .u8 (yk : Int), .slice A17 n17 c17] 37)) = u3 at *
  have kK := kK.below al
  have q6 := q6.trans (al.mono q6.size)
  have h7 := h7.below al
  have k1 := k1.below al
  have s10 := s10.below (by omega) al
  have s11 := s11.below (by omega) al
  have k2 := k2.below al
  have s12 := s12.below (by omega) al
  have s13 := s13.below (by omega) al
  have k3 := k3.below al
  have s14 := s14.below (by omega) al
  have s15 := s15.below (by omega) al
  have s16 := s16.below (by omega) al
  have s17 := s17.below (by omega) al
  clear al
  have hbF : (bF == bF) = true := by simp
  have hbB : (bB == bB) = true := by simp
  obtain ⟨x0, x1, x2, x3, x4⟩ := id k1
  obtain ⟨y0, y1, y2, y3, y4⟩ := id k2
  go_wp2_with fail
  try rw [hW]
  clear hW
  obtain ⟨g4, hg4⟩ : ∃ g, g = v3.heap.size := ⟨_, rfl⟩
  rw [← hg4] at k4
  try rw [← hg4]
  clear hg4 x0 x1 x2 x3 x4 y0 y1 y2 y3 y4 h7 kK k1 k2
  refine (SX.out u3 _ _ _ _ _ _ s10 s11 _ _ _ _ _ _ s12 s13).mono ?_
  rintro e u4 ⟨rfl, hb⟩
  have k3 := k3.below hb
  have k4 := k4.below hb
  have q6 := q6.trans (hb.mono q6.size)
  have s14 := s14.below (by omega) hb
  have s15 := s15.below (by omega) hb
  have s16 := s16.below (by omega) hb
  have s17 := s17.below (by omega) hb
  clear hb SX s10 s11 s12 s13
  obtain ⟨x0, x1, x2, x3, x4⟩ := id k3
  obtain ⟨y0, y1, y2, y3, y4⟩ := id k4
  go_wp2_with fail
  clear x0 x1 x2 x3 x4 y0 y1 y2 y3 y4 k3 k4
  refine (SY.out u4 _ _ _ _ _ _ s14 s15 _ _ _ _ _ _ s16 s17).mono ?_
  rintro e u5 ⟨rfl, hb⟩
  have q6 := q6.trans (hb.mono q6.size)
  have s1 := s1.below (by omega) q6
  have s5 := s5.below (by omega) q6
  have hs5 := hs5.below (by omega) q6
  have hq := hq.trans (q6.mono hq.size)
  clear hb SY s14 s15 s16 s17 q6
  go_wp2_with fail
  refine (same_is u5 _ _ c5 _ A1 _ c1 _ true (by unfold Hid; simp) hs5 s1).mono ?_
  rintro e w' ⟨rfl, rfl⟩
  have r2 := fun w => cutC (A := A5) (n := t.length) (c := c5) .i64 ((t.length : Int) + 1) (t.length + 1) (by omega) (by omega) w
  obtain ⟨b3, o3, z3, hA3, hx3, _, hcell⟩ := s5.byte (k := t.length) (by simp)
  have hx : z3 = 165 := by rw [← hx3]; simp
  subst hx
  clear hx3 s5
  subst hA3
  go_wp2
  go_ret
  exact ⟨rfl, hq⟩
end Go.Proofs.Ytpffieogkfndaaa
