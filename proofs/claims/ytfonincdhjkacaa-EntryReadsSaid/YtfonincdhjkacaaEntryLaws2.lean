/-
  The walk of EntryBytes: it returns true at every input. (Printed by genentrylaws2.py.) No condition.
-/
import Derived.Test.YtfonincdhjkacaaEntryLaws1
import Derived.Test.YtfonincdhjkacaaNoteRead
namespace Go.Proofs.Ytfonincdhjkacaa
open Go.RowKit
set_option maxRecDepth 20000
theorem cutNote_twice (x : NoteL) : cutNote (cutNote x) = cutNote x := by
  have h : ∀ l : List OpL, fewOps (fewOps l 66) 66 = fewOps l 66 := by
    intro l
    unfold fewOps
    rw [List.take_of_length_le (by simp; omega), List.map_map]
    apply List.map_congr_left
    intro o _
    simp [cutOp, List.take_take]
  unfold cutNote
  simp [h, List.take_take]
theorem note_len {x : NoteL} (h : formL x = true) : (noteBytesL x).length ≤ 200000 := by
  obtain ⟨f1, _, f3, _, _⟩ := form_bounds h
  have t1 := numL_le x.kind.toNat
  have t2 := numL_le x.seq.toNat
  have t3 := textL_le x.name
  have hb := checkOps_bounds f1
  have h1 := opFlat_le x.ops hb.2
  have h2 := numL_le x.ops.length
  simp only [noteBytesL, opsBytesL, List.length_append]
  omega
set_option maxHeartbeats 16000000 in
theorem entryBytes.walk (w : World) (A : Option Addr) (n c : Nat) (B : Option Addr) (m d : Nat) (x : NoteL) (hs : Sl w 1 A n c (bc x.name)) (ht : SlR w (fun _ => True) B m d x.ops) :
    Calls Try.prog 12 #[.agg #[.int .u8 (x.kind.toNat : Int), .int .u64 (x.seq.toNat : Int), .slice A n c, .slice B m d]] w fun e w' => e = .returned (.bool true) ∧ Below w.heap.size w w' := by
  generalize hkx : x.kind.toNat = kx at *
  generalize hqx : x.seq.toNat = qx at *
  have Hkx := Lib.hid hkx
  have Hqx := Lib.hid hqx
  clear hkx hqx
  have hq0 := (Below.refl w.heap.size w).alloc (Nat.le_refl _) (.cells #[.int .u8 (kx : Int), .int .u64 (qx : Int), .slice A n c, .slice B m d] 26)
  have kX := Bx4.fresh w (.int .u8 (kx : Int)) (.int .u64 (qx : Int)) (.slice A n c) (.slice B m d) 26
  generalize hW : (w.alloc (.cells #[.int .u8 (kx : Int), .int .u64 (qx : Int), .slice A n c, .slice B m d] 26)) = w_0 at *
  have hs := hs.below (by omega) hq0
  have ht := ht.below hq0
  go_enter Try.func12, Try.ntmps12
  go_wp2_with fail
  try rw [hW]
  clear hW
  refine (awake07 w_0).mono ?_
  rintro e w_1 ⟨rfl, hb_1⟩
  have hs := hs.below (by omega) hb_1
  have ht := ht.below hb_1
  have kX := kX.below hb_1
  have hq0 := hq0.trans (hb_1.mono hq0.size)
  clear hb_1
  obtain ⟨x0, x1, x2, x3, x4⟩ := id kX
  have rA := noteRowS w_1 x kx qx Hkx.out Hqx.out _ A n c B m d hs ht 26
  have al := (Below.refl w_1.heap.size w_1).alloc (Nat.le_refl _) (.cells #[.int .u8 (kx : Int), .int .u64 (qx : Int), .slice A n c, .slice B m d] 26)
  go_wp2_with fail
  generalize (w_1.alloc (.cells #[.int .u8 (kx : Int), .int .u64 (qx : Int), .slice A n c, .slice B m d] 26)) = w_2 at *
  clear x0 x1 x2 x3 x4 hs ht kX
  have hq0 := hq0.trans (al.mono hq0.size)
  clear al
  refine (fewnotes_any w_2 _ _ 1 1 [x] 1 rA (by omega)).mono ?_
  rintro e w_3 ⟨A3, n3, c3, rfl, ho3, hb_3⟩
  have hq0 := hq0.trans (hb_3.mono hq0.size)
  clear hb_3
  clear rA
  rw [show fewNotes [x] 1 = [cutNote x] from rfl] at ho3
  obtain rfl : 1 = n3 := ho3.lenR
  have s3 := ho3.sl
  clear ho3
  have htw := cutNote_twice x
  generalize cutNote x = y at *
  have Htw := Lib.hid htw
  clear htw
  go_wp2_with fail
  refine (fewnotes_any w_3 _ _ 1 _ [y] 1 s3 (by omega)).mono ?_
  rintro e w_4 ⟨A4, n4, c4, rfl, ho4, hb_4⟩
  have hq0 := hq0.trans (hb_4.mono hq0.size)
  have s3 := s3.below hb_4
  clear hb_4
  rw [show fewNotes [y] 1 = [cutNote y] from rfl, Htw.out] at ho4
  obtain rfl : 1 = n4 := ho4.lenR
  have s4 := ho4.sl
  clear ho4 Htw
  obtain ⟨b4, o4, A5, n5, c5, A6, n6, c6, hl4, rfl, d0, d1, d2, d3, s5, s6⟩ := s4.noteAt (k := 0) (by omega)
  obtain ⟨b3, o3, A7, n7, c7, A8, n8, c8, hl3, rfl, f0, f1, f2, f3, s7, s8⟩ := s3.noteAt (k := 0) (by omega)
  simp only [Nat.zero_mul, Nat.add_zero, List.getElem_cons_zero] at d0 d1 d2 d3 f0 f1 f2 f3 s5 s6 s7 s8
  clear hl4 hl3
  have hbe : (noteBE y).2 = 0 → readNoteL (noteBE y).1 = some y ∧ (noteBE y).1.length ≤ 200000 := by
    intro e
    unfold noteBE at e ⊢
    split at e
    · rename_i hf
      rw [if_pos hf]
      exact ⟨(readNote_iff _ _).2 ⟨hf, rfl⟩, note_len hf⟩
    · cases e
  have cb := fun w' A n c B m d (h1 : Sl w' 1 A n c (bc y.name)) (h2 : SlR w' (fun _ => True) B m d y.ops) => nbytes_any w' _ A n c B m d y h1 h2
  have cr := fun w' A n c B m d (h1 : Sl w' 1 A n c (bc y.name)) (h2 : SlR w' (fun _ => True) B m d y.ops) => rnbytes_any w' _ A n c B m d y h1 h2
  generalize (noteBE y).1 = pb at *
  generalize (noteBE y).2 = q at *
  generalize hky : y.kind.toNat = ky at *
  generalize hqy : y.seq.toNat = qy at *
  have Hky := Lib.hid hky
  have Hqy := Lib.hid hqy
  have Hbe := Lib.hid hbe
  have Cb := Lib.hid cb
  have Cr := Lib.hid cr
  clear cb cr hbe hky hqy
  go_wp2_with fail
  refine (Cb.out _ A5 n5 c5 A6 n6 c6 s5 s6).mono ?_
  rintro e w_5 ⟨A9, n9, c9, rfl, o9, hb_5⟩
  have hq0 := hq0.trans (hb_5.mono hq0.size)
  have s3 := s3.below hb_5
  have s4 := s4.below hb_5
  have s5 := s5.below (by omega) hb_5
  have s6 := s6.below hb_5
  have s7 := s7.below (by omega) hb_5
  have s8 := s8.below hb_5
  have hb_5' := hb_5
  clear hb_5
  have f0 := stays hb_5' f0
  have f1 := stays hb_5' f1
  have f2 := stays hb_5' f2
  have f3 := stays hb_5' f3
  clear hb_5' d0 d1 d2 d3 s5 s6
  have s9 := OwnB.sl o9
  clear o9
  go_wp2_with fail
  refine (Cr.out _ A7 n7 c7 A8 n8 c8 s7 s8).mono ?_
  rintro e w_6 ⟨A10, n10, c10, rfl, o10, hb_6⟩
  have hq0 := hq0.trans (hb_6.mono hq0.size)
  have s3 := s3.below hb_6
  have s4 := s4.below hb_6
  have s7 := s7.below (by omega) hb_6
  have s8 := s8.below hb_6
  have s9 := s9.below (by omega) hb_6
  clear hb_6
  clear f0 f1 f2 f3 s7 s8
  have s10 := OwnB.sl o10
  clear o10 Cb Cr
  have hsame : Hid ((pb == pb) = true) := by unfold Hid; simp
  have hqq : ((q : Int) != (q : Int)) = false := by simp
  have hqq' : ((q : Int) == (q : Int)) = true := by simp
  go_wp2_with fail
  refine (same_is _ A9 n9 c9 _ A10 n10 c10 _ true hsame s9 s10).mono ?_
  rintro e w' ⟨rfl, rfl⟩
  clear s10
  go_wp2_with fail
  refine (samenotes_is _ _ _ 1 _ [y] s4 _ _ 1 _ s3).mono ?_
  rintro e w_7 ⟨rfl, hb_7⟩
  have hq0 := hq0.trans (hb_7.mono hq0.size)
  have s3 := s3.below hb_7
  have s4 := s4.below hb_7
  have s9 := s9.below (by omega) hb_7
  clear hb_7
  clear s4
  by_cases hq : q = 0
  case neg =>
    have hq1 : ((q : Int) == 0) = false := by rw [beq_eq_false_iff_ne]; omega
    have hq2 : ((q : Int) != 0) = true := by rw [bne_iff_ne]; omega
    clear hq
    go_wp2
    go_ret
    exact ⟨rfl, hq0⟩
  subst hq
  obtain ⟨hr1, hr2⟩ := Hbe.out rfl
  have ck := nread_any w_7 A9 n9 c9 pb s9 (by have := s9.lenb; omega)
  rw [hr1] at ck
  unfold GotNote at ck
  simp only [Option.getD_some, Option.isSome_some, if_true, Hky.out, Hqy.out] at ck
  have Ck := Lib.hid ck
  clear ck hr1 hr2
  go_wp2_with fail
  refine (Ck.out).mono ?_
  rintro e w_8 ⟨A11, n11, c11, A12, n12, c12, rfl, s11, _, s12, hb_8⟩
  have hq0 := hq0.trans (hb_8.mono hq0.size)
  have s3 := s3.below hb_8
  have s9 := s9.below (by omega) hb_8
  clear hb_8
  have s12 := s12.mono (q := fun _ => True) fun _ _ _ => trivial
  have kZ := Bx4.fresh w_8 (.int .u8 (ky : Int)) (.int .u64 (qy : Int)) (.slice A11 n11 c11) (.slice A12 n12 c12) 33
  have al := (Below.refl w_8.heap.size w_8).alloc (Nat.le_refl _) (.cells #[.int .u8 (ky : Int), .int .u64 (qy : Int), .slice A11 n11 c11, .slice A12 n12 c12] 33)
  have s3 := s3.below al
  have hq0 := hq0.trans (al.mono hq0.size)
  have s11 := s11.below (by omega) al
  have s12 := s12.below al
  generalize hW9 : (w_8.alloc (.cells #[.int .u8 (ky : Int), .int .u64 (qy : Int), .slice A11 n11 c11, .slice A12 n12 c12] 33)) = w_9 at *
  obtain ⟨z0, z1, z2, z3, z4⟩ := id kZ
  have rB := noteRowS w_9 y ky qy Hky.out Hqy.out _ A11 n11 c11 A12 n12 c12 s11 s12 26
  have al2 := (Below.refl w_9.heap.size w_9).alloc (Nat.le_refl _) (.cells #[.int .u8 (ky : Int), .int .u64 (qy : Int), .slice A11 n11 c11, .slice A12 n12 c12] 26)
  have s3 := s3.below al2
  have hq0 := hq0.trans (al2.mono hq0.size)
  clear al al2 kZ s11 s12
  go_wp2_with fail
  try rw [hW9]
  clear hW9
  refine (samenotes_is _ _ _ 1 _ [y] rB _ _ 1 _ s3).mono ?_
  rintro e w_10 ⟨rfl, hb_10⟩
  have hq0 := hq0.trans (hb_10.mono hq0.size)
  go_wp2
  go_ret
  exact ⟨rfl, hq0⟩
end Go.Proofs.Ytfonincdhjkacaa
