/-
  The walk of KeyBytes: it returns true at every input. No condition.
-/
import Derived.Test.YtiepdafjbblllaaKeyAwake
import Derived.Test.YtiepdafjbblllaaKeyBytesR
import Derived.Test.YtiepdafjbblllaaKeyReadW
namespace Go.Proofs.Ytiepdafjbblllaa
open Go.RowKit
set_option maxRecDepth 20000
theorem cutKey_twice (k : KeyL) : cutKey (cutKey k) = cutKey k := by
  unfold cutKey
  simp [List.take_take]
theorem keyBE_err (k : KeyL) : (keyBE k).2 = checkKey k := by
  unfold keyBE
  split
  · rename_i h
    exact h.symm
  · rfl
set_option maxHeartbeats 8000000 in
theorem keyBytes.walk (w : World) (A : Option Addr) (n c : Nat) (k : KeyL) (h : Sl w 1 A n c (bc k.user)) (B : Option Addr) (m d : Nat) (l : List UInt8) (hl : Sl w 1 B m d (bc l)) :
    Calls Try.prog 14 #[.agg #[.slice A n c, .int .u64 (k.seq.toNat : Int), .int .u8 (k.kind.toNat : Int)], .slice B m d] w fun e w' => e = .returned (.bool true) ∧ Below w.heap.size w w' := by
  have c1 := fun (w' : World) (hb : Below w.heap.size w w') => small_any w' A n c k (h.below (by omega) hb)
  have c2 := fun (w' : World) (A : Option Addr) (n c : Nat) (h : Sl w' 1 A n c (bc (cutKey k).user)) => small_any w' A n c (cutKey k) h
  rw [cutKey_twice] at c2
  have c3 := fun (w' : World) (A : Option Addr) (n c : Nat) (h : Sl w' 1 A n c (bc (cutKey k).user)) => kbytes_any w' A n c (cutKey k) h
  have c4 := fun (w' : World) (A : Option Addr) (n c : Nat) (h : Sl w' 1 A n c (bc (cutKey k).user)) => rkbytes_any w' A n c (cutKey k) h
  have c5 := fun (w' : World) (A : Option Addr) (n c : Nat) (h : Sl w' 1 A n c (bc (cutKey k).user)) => check_any w' A n c (cutKey k) h
  have c6 := fun (w' : World) (A : Option Addr) (n c : Nat) (h : Sl w' 1 A n c (bc (cutKey k).user)) (A' : Option Addr) (n' c' : Nat) (h' : Sl w' 1 A' n' c' (bc (cutKey k).user)) => keq_any w' A n c (cutKey k) h A' n' c' (cutKey k) h'
  have c7 := fun (w' : World) (hb : Below w.heap.size w w') => cut_any w' B m d l 50 (hl.below (by omega) hb) (by omega)
  have c8 := fun (w' : World) (A : Option Addr) (n c : Nat) (h : Sl w' 1 A n c (bc (keyBytesL (cutKey k) ++ l.take 50))) (hn : n ≤ 1000000) => kread_any w' A n c _ h hn
  have hrd := fun (hc : checkKey (cutKey k) = 0) => keyRead_bytes (cutKey k) hc (l.take 50)
  have hkb : checkKey (cutKey k) = 0 → (keyBE (cutKey k)).1 = keyBytesL (cutKey k) := by
    intro e
    unfold keyBE
    rw [if_pos e]
  have hkl : (keyBytesL (cutKey k)).length ≤ 200 := by
    have h1 := (num_len (cutKey k).user.length).2
    have h2 : (cutKey k).user.length ≤ 80 := by unfold cutKey; simp; omega
    unfold keyBytesL textL
    rw [List.length_append, List.length_append, le8_len]
    omega
  have hll : (l.take 50).length ≤ 50 := by rw [List.length_take]; omega
  have hself : (cutKey k == cutKey k) = true := by simp
  rw [keyBE_err] at c3 c4
  rw [hself] at c6
  unfold GotKey at c1 c2
  unfold GotBE at c3 c4
  unfold GotRead at c8
  simp only [show (cutKey k).seq = k.seq from rfl, show (cutKey k).kind = k.kind from rfl] at c1 c2 c3 c4 c5 c6
  generalize checkKey (cutKey k) = q at *
  generalize (keyBE (cutKey k)).1 = pb at *
  generalize keyBytesL (cutKey k) = kb at *
  generalize l.take 50 = l5 at *
  have hres : q = 0 → (keyReadL (kb ++ l5)).1.user = (cutKey k).user ∧ (keyReadL (kb ++ l5)).1.seq.toNat = k.seq.toNat ∧ (keyReadL (kb ++ l5)).1.kind.toNat = k.kind.toNat ∧ (keyReadL (kb ++ l5)).2.1 = l5 ∧ (keyReadL (kb ++ l5)).2.2 = 0 := by
    intro e
    rw [hrd e]
    exact ⟨rfl, rfl, rfl, rfl, rfl⟩
  clear hrd
  generalize (cutKey k).user = u at *
  generalize k.seq.toNat = s at *
  generalize k.kind.toNat = kd at *
  have C1 := Lib.hid c1
  have C2 := Lib.hid c2
  have C3 := Lib.hid c3
  have C4 := Lib.hid c4
  have C5 := Lib.hid c5
  have C6 := Lib.hid c6
  have C7 := Lib.hid c7
  have C8 := Lib.hid c8
  have Hkb := Lib.hid hkb
  have Hkl := Lib.hid hkl
  have Hll := Lib.hid hll
  have Hres := Lib.hid hres
  clear c1 c2 c3 c4 c5 c6 c7 c8 hkb hkl hll hres h hl hself
  have hbA := (Below.refl w.heap.size w).alloc (Nat.le_refl _) (.cells #[.slice A n c, .int .u64 (s : Int), .int .u8 (kd : Int)] 25)
  have hk := Bx.fresh w (.slice A n c) (.int .u64 (s : Int)) (.int .u8 (kd : Int)) 25
  go_enter Try.func14, Try.ntmps14
  go_wp2_with fail
  refine (awake03 _).mono ?_
  rintro e w1 ⟨rfl, hb1⟩
  have q1 := hbA.trans (hb1.mono hbA.size)
  have hk := hk.below hb1
  clear hb1 hbA
  obtain ⟨x0, x1, x2, x3⟩ := id hk
  go_wp2_with fail
  refine (C1.out _ q1).mono ?_
  rintro e w2 ⟨A2, n2, c2, rfl, ho2, hb2⟩
  have z1 := hk.lt
  have hk := hk.below hb2
  have q2 := q1.trans (hb2.mono q1.size)
  clear x0 x1 x2 x3 hb2 q1
  obtain ⟨x0, x1, x2, x3⟩ := id hk
  go_wp2_with fail
  refine nameC ?_
  intro w3 e3
  obtain ⟨hk, g3⟩ := hk.set e3
  have h2 := (Own.grown ho2 g3 (fun b hb e => by have := (Own.lt ho2 b hb).1; simp at e; omega)).sl
  have q3 := q2.grown g3 q2.size (fun k e => by simp at e; omega)
  clear x0 x1 x2 x3 e3 g3 ho2 z1 q2
  refine (C2.out _ A2 n2 c2 h2).mono ?_
  rintro e w4 ⟨A4, n4, c4, rfl, ho4, hb4⟩
  have h4 := ho4.sl
  have h2 := h2.below (by omega) hb4
  have hk := hk.below hb4
  have q4 := q3.trans (hb4.mono q3.size)
  clear hb4 ho4 q3
  have z4 := hk.lt
  have bl := (Below.refl w4.heap.size w4).alloc (Nat.le_refl _) (.cells #[.slice A4 n4 c4, .int .u64 (s : Int), .int .u8 (kd : Int)] 25)
  have hm := Bx.fresh w4 (.slice A4 n4 c4) (.int .u64 (s : Int)) (.int .u8 (kd : Int)) 25
  have hk := hk.below bl
  have h2 := h2.below (by omega) bl
  have h4 := h4.below (by omega) bl
  have q5 := q4.trans (bl.mono q4.size)
  go_wp2_with fail
  generalize (w4.alloc (.cells #[.slice A4 n4 c4, .int .u64 (s : Int), .int .u8 (kd : Int)] 25)) = w5 at *
  generalize w4.heap.size = gm at *
  clear bl q4
  have hz2 : ∀ b, 0 < n2 → A2.map (·.block) = some b → b < w5.heap.size := fun b hn e => h2.lt (by omega) hn b e
  refine (C3.out _ A4 n4 c4 h4).mono ?_
  rintro e w6 ⟨A6, n6, c6, rfl, ho6, hb6⟩
  have hk := hk.below hb6
  have hm := hm.below hb6
  have h2 := h2.below (by omega) hb6
  have h4 := h4.below (by omega) hb6
  have q6 := q5.trans (hb6.mono q5.size)
  have zk : w.heap.size < w5.heap.size := Bx.lt (by assumption)
  have hZ : ∃ Z, Z = w5.heap.size := ⟨_, rfl⟩
  obtain ⟨Z, hZ⟩ := hZ
  rw [← hZ] at zk ho6
  have zle : Z ≤ w6.heap.size := by rw [hZ]; exact hb6.size
  have hz2 : ∀ b, 0 < n2 → A2.map (·.block) = some b → b < Z := fun b hn e => by rw [hZ]; exact hz2 b hn e
  have Hz2 := Lib.hid hz2
  have Zk := Lib.hid zk
  clear hb6 q5 hz2 zk hZ
  obtain ⟨x0, x1, x2, x3⟩ := id hk
  obtain ⟨y0, y1, y2, y3⟩ := id hm
  go_wp2_with fail
  clear x0 x1 x2 x3 y0 y1 y2 y3
  refine (C4.out _ A2 n2 c2 h2).mono ?_
  rintro e w7 ⟨A7, n7, c7, rfl, ho7, hb7⟩
  have hk := hk.below hb7
  have hm := hm.below hb7
  have h2 := h2.below (by omega) hb7
  have h4 := h4.below (by omega) hb7
  have ho6 := Own.below ho6 hb7
  have zle := Nat.le_trans zle hb7.size
  have q7 := q6.trans (hb7.mono q6.size)
  clear hb7 q6
  have hsame : Hid ((pb == pb) = true) := by unfold Hid; simp
  obtain ⟨x0, x1, x2, x3⟩ := id hk
  obtain ⟨y0, y1, y2, y3⟩ := id hm
  go_wp2_with fail
  refine (same_is w7 A6 n6 c6 _ A7 n7 c7 _ true hsame (Own.sl ho6) (Own.sl ho7)).mono ?_
  rintro e w' ⟨rfl, rfl⟩
  clear ho7 hsame
  go_wp2_with fail
  clear x0 x1 x2 x3 y0 y1 y2 y3
  refine (C5.out _ A4 n4 c4 h4).mono ?_
  rintro e w8 ⟨rfl, hb8⟩
  have hk := hk.below hb8
  have hm := hm.below hb8
  have h2 := h2.below (by omega) hb8
  have h4 := h4.below (by omega) hb8
  have ho6 := Own.below ho6 hb8
  have zle := Nat.le_trans zle hb8.size
  have q8 := q7.trans (hb8.mono q7.size)
  clear hb8 q7
  obtain ⟨x0, x1, x2, x3⟩ := id hk
  obtain ⟨y0, y1, y2, y3⟩ := id hm
  go_wp2_with fail
  clear x0 x1 x2 x3 y0 y1 y2 y3
  refine (C6.out _ A4 n4 c4 h4 A2 n2 c2 h2).mono ?_
  rintro e w9 ⟨rfl, hb9⟩
  have hk := hk.below hb9
  have hm := hm.below hb9
  have h2 := h2.below (by omega) hb9
  have ho6 := Own.below ho6 hb9
  have zle := Nat.le_trans zle hb9.size
  have q9 := q8.trans (hb9.mono q8.size)
  clear hb9 q8 h4
  by_cases hq : q = 0
  · subst hq
    obtain ⟨r1, r2, r3, r4, r5⟩ := Hres.out rfl
    have e6 := Hkb.out rfl
    subst e6
    have c8 := C8.out
    rw [r2, r3, r4, r5, r1] at c8
    have C9 := Lib.hid c8
    clear c8 r1 r2 r3 r4 r5
    go_wp2_with fail
    refine (C7.out _ q9).mono ?_
    rintro e w10 ⟨A10, n10, c10, rfl, ho10, hb10⟩
    have hk := hk.below hb10
    have h2 := h2.below (by omega) hb10
    have hn10 : ∀ b, blk A6 c6 = some b → b < w9.heap.size := fun b e => (Own.lt ho6 b e).2
    have ho6 := Own.below ho6 hb10
    have hZ10 := Nat.le_trans zle hb10.size
    have hno : ∀ b, 0 < n10 → A10.map (·.block) = some b → blk A6 c6 ≠ some b := fun b hn e q => by
      have h1 := own_new (w := w9) ho10 (Nat.le_refl _) b hn e
      have h2 := hn10 b q
      omega
    have Hno := Lib.hid hno
    clear hn10 hno
    have q10 := q9.trans (hb10.mono q9.size)
    have l6 := OwnB.len' (l := pb) ho6
    have l10 := ho10.len'
    have s10 := ho10.sl
    have L6 := Lib.hid l6
    have L10 := Lib.hid l10
    clear hb10 q9 l6 l10 ho10
    go_wp2_with (at_builtin; refine wpList_appB _ rfl (.tmp 55) (.tmp 56) rfl Z A6 n6 c6 pb rfl ho6 A10 n10 c10 _ rfl s10 ?_ ?_ ?_)
    · have := Hkl.out; have := Hll.out; have := L6.out; have := L10.out; omega
    · exact hZ10
    intro A11 c11 w11 ho11 hg11 _
    have zk := Zk.out
    have hk := Bx.grownO hk hg11 (fun e => by have := (Own.lt ho6 _ e).1; omega)
    have h2 := h2.grown (by omega) hg11 (fun hn b e q => by have h1 := Hz2.out b hn e; have h2 := (Own.lt ho6 b q).1; omega)
    have s10 := s10.grown (by omega) hg11 (fun hn b e q => Hno.out b hn e q)
    have q11 := q10.grown hg11 q10.size (fun k e => by have := (Own.lt ho6 _ e).1; omega)
    have h11 := OwnB.sl ho11
    have n11 : n6 + n10 ≤ 1000000 := by have := Hkl.out; have := Hll.out; have := L6.out; have := L10.out; omega
    clear ho6 ho11 hg11 q10 zk hZ10
    go_wp2_with fail
    refine (C9.out _ A11 (n6 + n10) c11 h11 n11).mono ?_
    rintro e w12 ⟨A12, n12, c12, B12, m12, d12, rfl, h12, g12, hb12⟩
    have hk := hk.below hb12
    have h2 := h2.below (by omega) hb12
    have s10 := s10.below (by omega) hb12
    have q12 := q11.trans (hb12.mono q11.size)
    clear hb12 q11 h11 n11
    have z12 := hk.lt
    have bl := (Below.refl w12.heap.size w12).alloc (Nat.le_refl _) (.cells #[.slice A12 n12 c12, .int .u64 (s : Int), .int .u8 (kd : Int)] 25)
    have h12 := h12.below (by omega) bl
    have g12 := g12.below (by omega) bl
    have h2 := h2.below (by omega) bl
    have s10 := s10.below (by omega) bl
    have q13 := q12.trans (bl.mono q12.size)
    obtain ⟨x0, x1, x2, x3⟩ := id hk
    go_wp2_with fail
    clear x0 x1 x2 x3 hk
    generalize (w12.alloc (.cells #[.slice A12 n12 c12, .int .u64 (s : Int), .int .u8 (kd : Int)] 25)) = w13 at *
    refine (C6.out _ A12 n12 c12 h12 A2 n2 c2 h2).mono ?_
    rintro e w14 ⟨rfl, hb14⟩
    have g12 := g12.below (by omega) hb14
    have s10 := s10.below (by omega) hb14
    have q14 := q13.trans (hb14.mono q13.size)
    have hsame : Hid ((l5 == l5) = true) := by unfold Hid; simp
    clear hb14 q13 bl z12
    go_wp2_with fail
    refine (same_is w14 B12 m12 d12 _ A10 n10 c10 _ true hsame g12 s10).mono ?_
    rintro e w' ⟨rfl, rfl⟩
    go_wp2
    go_ret
    exact ⟨rfl, q14⟩
  · have hq1 : ((q : Int) == 0) = false := by rw [beq_eq_false_iff_ne]; omega
    have hq2 : ((q : Int) != 0) = true := by rw [bne_iff_ne]; omega
    clear hq
    go_wp2
    go_ret
    exact ⟨rfl, q9⟩
end Go.Proofs.Ytiepdafjbblllaa
