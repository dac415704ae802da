/-
  The leaf's law functions' first call, awake: true. (Printed by genleaf6.py.) No condition.
-/
import Derived.Test.YtpffieogkfndaaaLeafBuild
import Derived.Test.YtpffieogkfndaaaEntFew
import Derived.Test.YtpffieogkfndaaaGKey
namespace Go.Proofs.Ytpffieogkfndaaa
open Go.RowKit
set_option maxRecDepth 20000
set_option maxHeartbeats 4000000 in
theorem ent12_any (w : World) (s : ByteArray) (l : List UInt8) (hl : s.data.toList = l) (hm : l.length ≤ 1000000) (s2 : ByteArray) (l2 : List UInt8) (hl2 : s2.data.toList = l2) (hm2 : l2.length ≤ 1000000) :
    Calls Try.prog 21 #[.string s, .string s2] w fun e w' => ∃ (A : Option Addr) (n c : Nat) (B : Option Addr) (m d : Nat), e = .returned (.agg #[.slice A n c, .int .u64 1, .int .u8 2, .slice B m d]) ∧ Sl w' 1 A n c (bc l) ∧ Sl w' 1 B m d (bc l2) ∧ Below w.heap.size w w' := by
  have al := (Below.refl w.heap.size w).alloc (Nat.le_refl _) (.cells #[.slice none 0 0, .int .u64 0, .int .u8 0, .slice none 0 0] 37)
  have kR := Bx4.fresh w (.slice none 0 0) (.int .u64 0) (.int .u8 0) (.slice none 0 0) 37
  generalize hW : (w.alloc (.cells #[.slice none 0 0, .int .u64 0, .int .u8 0, .slice none 0 0] 37)) = w0 at *
  obtain ⟨c1, w1, r1, h1, b1⟩ := conv_text w0 s l hl hm
  obtain ⟨c2, w2, r2, h2, b2⟩ := conv_text w1 s2 l2 hl2 hm2
  have zR := kR.lt
  have h1 := h1.below (by omega) b2
  have kR := (kR.below b1).below b2
  have z1 := b1.size
  have hq := al.trans ((b1.trans (b2.mono b1.size)).mono al.size)
  obtain ⟨gA, hgA⟩ : ∃ gA, gA = w0.heap.size := ⟨_, rfl⟩
  obtain ⟨gB, hgB⟩ : ∃ gB, gB = w1.heap.size := ⟨_, rfl⟩
  rw [← hgA] at r1 h1 zR
  rw [← hgB] at r2 h2
  have zB : w.heap.size < gB := by omega
  have H1 := Lib.hid h1
  have H2 := Lib.hid h2
  have Hq := Lib.hid hq
  clear hl hl2 h1 h2 b1 b2 al hgA hgB z1 hq
  obtain ⟨x0, x1, x2, x3, x4⟩ := id kR
  go_enter Try.func21, Try.ntmps21
  go_wp2
  refine bodyPost_ret (v := .agg #[.slice (some ⟨gA, 0, none⟩) s.size c1, .int .u64 1, .int .u8 2, .slice (some ⟨gB, 0, none⟩) s2.size c2]) (by simp [results, Try.results21, go_sem, x0, x1, x2, x3]) rfl ⟨_, _, _, _, _, _, rfl, ?_, ?_, ?_⟩
  · iterate 4 refine sl_set ?_ (by simp; omega) _
    exact H1.out
  · iterate 4 refine sl_set ?_ (by simp; omega) _
    exact H2.out
  · iterate 4 refine Below.setCell ?_ (by simp) _
    exact Hq.out
def eAA : EntL := ⟨⟨[97, 97], 1, 2⟩, [120]⟩
def eAB : EntL := ⟨⟨[97, 98], 1, 2⟩, [121]⟩
theorem leaf1 : leafBE [eAA] = ([0, 10, 1, 97, 97, 2, 1, 0, 0, 0, 0, 0, 0, 120, 0, 0, 1, 0], 0) := by decide +kernel
theorem leaf2 : leafBE [eAA, eAB] = ([0, 10, 1, 97, 97, 2, 1, 0, 0, 0, 0, 0, 0, 120, 1, 9, 1, 98, 2, 1, 0, 0, 0, 0, 0, 0, 121, 0, 0, 1, 0], 0) := by decide +kernel
set_option maxHeartbeats 8000000 in
theorem awake12 (w : World) : Calls Try.prog 5 #[] w fun e w' => e = .returned (.bool true) ∧ Below w.heap.size w w' := by
  have k1 := fun w' => ent12_any w' ⟨#[97, 97]⟩ [97, 97] rfl (by decide) ⟨#[120]⟩ [120] rfl (by decide)
  have k2 := fun w' => ent12_any w' ⟨#[97, 98]⟩ [97, 98] rfl (by decide) ⟨#[121]⟩ [121] rfl (by decide)
  have K1 := Lib.hid k1
  have K2 := Lib.hid k2
  clear k1 k2
  go_enter Try.func5, Try.ntmps5
  go_wp2_with fail
  refine (K1.out _).mono ?_
  rintro e w1 ⟨A1, n1, c1, B1, m1, d1, rfl, h1, g1, b1⟩
  obtain ⟨xs, hs1, hr1⟩ := entRow' (x := eAA) (s := 1) (d := 2) rfl rfl h1 g1 (q := fun _ => True) (fun _ _ _ => trivial) (fun _ _ _ => trivial)
  have row : SlR _ (fun _ => True) _ 1 1 [eAA] := ⟨xs, hs1, hr1, fun _ _ _ => trivial⟩
  have al := (Below.refl w1.heap.size w1).alloc (Nat.le_refl _) (.cells #[.slice A1 n1 c1, .int .u64 ((1 : Nat) : Int), .int .u8 ((2 : Nat) : Int), .slice B1 m1 d1] 37)
  have q2 := b1.trans (al.mono b1.size)
  rw [show (((1 : Nat) : Int)) = 1 from rfl, show (((2 : Nat) : Int)) = 2 from rfl] at row q2
  clear hs1 hr1 al h1 g1 b1
  have cb := build12_any _ _ _ 1 1 [eAA] row
  rw [leaf1] at cb
  go_wp2_with fail
  refine cb.mono ?_
  rintro e w2 ⟨A2, n2, c2, rfl, o2, b2⟩
  have q2 := q2.trans (b2.mono q2.size)
  have s2 := OwnB.sl o2
  have hn2 := OwnB.len' o2
  simp only [List.length_cons, List.length_nil] at hn2
  obtain rfl : n2 = 18 := hn2.symm
  clear cb b2 o2 row
  go_wp2_with fail
  refine (K1.out _).mono ?_
  rintro e w3 ⟨A3, n3, c3, A4, n4, c4, rfl, h3, h4, b3⟩
  have s2 := s2.below (by omega) b3
  have q2 := q2.trans (b3.mono q2.size)
  clear b3
  go_wp2_with fail
  refine (K2.out _).mono ?_
  rintro e w5 ⟨A5, n5, c5, A6, n6, c6, rfl, h5, h6, b5⟩
  have s2 := s2.below (by omega) b5
  have h3 := h3.below (by omega) b5
  have h4 := h4.below (by omega) b5
  have q2 := q2.trans (b5.mono q2.size)
  clear b5
  have al := (Below.refl w5.heap.size w5).alloc (Nat.le_refl _) (.cells #[.slice A3 n3 c3, .int .u64 1, .int .u8 2, .slice A4 n4 c4, .slice A5 n5 c5, .int .u64 1, .int .u8 2, .slice A6 n6 c6] 37)
  have row : SlR (w5.alloc (.cells #[.slice A3 n3 c3, .int .u64 1, .int .u8 2, .slice A4 n4 c4, .slice A5 n5 c5, .int .u64 1, .int .u8 2, .slice A6 n6 c6] 37)) (fun _ => True) (some ⟨w5.heap.size, 0, none⟩) 2 2 [eAA, eAB] := by
    refine ⟨[.slice A3 n3 c3, .int .u64 1, .int .u8 2, .slice A4 n4 c4, .slice A5 n5 c5, .int .u64 1, .int .u8 2, .slice A6 n6 c6], ⟨rfl, Nat.le_refl _, by unfold maxLen; omega, fun _ => ⟨w5.heap.size, 0, rfl, fun j u hu => by rw [cell_of_row _ _ _ _ _ _ (heap_alloc_new w5 _)]; simpa using hu⟩⟩, ?_, fun _ _ _ => trivial⟩
    exact ⟨[.slice A3 n3 c3, .int .u64 1, .int .u8 2, .slice A4 n4 c4], [.slice A5 n5 c5, .int .u64 1, .int .u8 2, .slice A6 n6 c6], rfl, ⟨_, _, rfl, Bk.of (h3.below (by omega) al), Bk.of (h4.below (by omega) al)⟩, RowC.single ⟨_, _, rfl, Bk.of (h5.below (by omega) al), Bk.of (h6.below (by omega) al)⟩⟩
  have s2 := s2.below (by omega) al
  have q2 := q2.trans (al.mono q2.size)
  clear al h3 h4 h5 h6
  have cb := build12_any _ _ _ 2 2 [eAA, eAB] row
  rw [leaf2] at cb
  go_wp2_with fail
  refine cb.mono ?_
  rintro e w6 ⟨A7, n7, c7, rfl, o7, b7⟩
  have q2 := q2.trans (b7.mono q2.size)
  have s2 := s2.below (by omega) b7
  have s7 := OwnB.sl o7
  have hn7 := OwnB.len' o7
  simp only [List.length_cons, List.length_nil] at hn7
  obtain rfl : n7 = 31 := hn7.symm
  have hcp7 := s7.cap
  clear cb b7 o7 row
  have hlit : Sl (w6.alloc (.cells #[.int .u8 0, .int .u8 10, .int .u8 1, .int .u8 97, .int .u8 97, .int .u8 2, .int .u8 1, .int .u8 0, .int .u8 0, .int .u8 0, .int .u8 0, .int .u8 0, .int .u8 0, .int .u8 120, .int .u8 0, .int .u8 0, .int .u8 1, .int .u8 0] 5)) 1 (some ⟨w6.heap.size, 0, none⟩) 18 18 (bc [0, 10, 1, 97, 97, 2, 1, 0, 0, 0, 0, 0, 0, 120, 0, 0, 1, 0]) :=
    Sl.lit w6 _ _ 18 _ _ rfl (by unfold maxLen; omega) rfl
  have al := (Below.refl w6.heap.size w6).alloc (Nat.le_refl _) (.cells #[.int .u8 0, .int .u8 10, .int .u8 1, .int .u8 97, .int .u8 97, .int .u8 2, .int .u8 1, .int .u8 0, .int .u8 0, .int .u8 0, .int .u8 0, .int .u8 0, .int .u8 0, .int .u8 120, .int .u8 0, .int .u8 0, .int .u8 1, .int .u8 0] 5)
  have s2 := s2.below (by omega) al
  have s7 := s7.below (by omega) al
  have q2 := q2.trans (al.mono q2.size)
  clear al
  go_wp2_with fail
  refine (same_is _ A2 18 c2 _ _ 18 18 _ true (by unfold Hid; rfl) s2 hlit).mono ?_
  rintro e w7 ⟨rfl, rfl⟩
  clear hlit s2
  obtain ⟨A8, hrun, s8, _⟩ := cutLH s7 .i64 .i64 14 18 14 18 rfl rfl (by omega) (by omega)
  generalize (w6.alloc (.cells #[.int .u8 0, .int .u8 10, .int .u8 1, .int .u8 97, .int .u8 97, .int .u8 2, .int .u8 1, .int .u8 0, .int .u8 0, .int .u8 0, .int .u8 0, .int .u8 0, .int .u8 0, .int .u8 120, .int .u8 0, .int .u8 0, .int .u8 1, .int .u8 0] 5)) = w7 at *
  have hlit : Sl (w7.alloc (.cells #[.int .u8 1, .int .u8 9, .int .u8 1, .int .u8 98] 5)) 1 (some ⟨w7.heap.size, 0, none⟩) 4 4 (bc [1, 9, 1, 98]) :=
    Sl.lit w7 _ _ 4 _ _ rfl (by unfold maxLen; omega) rfl
  have al := (Below.refl w7.heap.size w7).alloc (Nat.le_refl _) (.cells #[.int .u8 1, .int .u8 9, .int .u8 1, .int .u8 98] 5)
  have s8 := s8.below (by omega) al
  have q2 := q2.trans (al.mono q2.size)
  clear al s7
  go_wp2_with fail
  refine (same_is _ A8 _ _ _ _ 4 4 _ true (by unfold Hid; rfl) s8 hlit).mono ?_
  rintro e w8 ⟨rfl, rfl⟩
  go_wp2
  go_ret
  exact ⟨rfl, q2⟩
end Go.Proofs.Ytpffieogkfndaaa
