/-
  What the reference's Frame computes: a record's bytes at a place. No condition but sizes. (Printed by genrframe.py.)
-/
import Derived.Test.YtpjinmiedanebaaDoorReelFrame
import Derived.Test.YtpjinmiedanebaaDoorJFrame
namespace Go.Proofs.YtpjinmiedanebaaDoor
set_option maxRecDepth 20000
open Go.RowKit

theorem room_ref (a : Nat) (h : a < 64) : roomN a = if 57 < a then 57 else 57 - a := by
  unfold roomN padN
  split
  · rw [if_pos (by omega)]; omega
  · rw [if_neg (by omega)]; omega
theorem pad_ref (a : Nat) (h : a < 64) : padN a = if 57 < a then 64 - a else 0 := by
  unfold padN
  split
  · rw [if_pos (by omega)]; omega
  · rw [if_neg (by omega)]
theorem rround_end (a : Nat) (ha : a < 64) (b : Bool) (p : List UInt8) (h : p.length ≤ if 57 < a then 57 else 57 - a) : frameL a b p = List.replicate (if 57 < a then 64 - a else 0) 0 ++ pieceL (kindN b true) p := by
  rw [← room_ref a ha] at h
  rw [frameL_end a b p h, pad_ref a ha]
theorem rround_go (a : Nat) (ha : a < 64) (b : Bool) (p : List UInt8) (h : ¬ p.length ≤ if 57 < a then 57 else 57 - a) :
    frameL a b p = List.replicate (if 57 < a then 64 - a else 0) 0 ++ pieceL (kindN b false) (p.take (if 57 < a then 57 else 57 - a)) ++ frameL 0 false (p.drop (if 57 < a then 57 else 57 - a)) := by
  rw [← room_ref a ha] at h
  rw [frameL_go a b p h, ← room_ref a ha, ← pad_ref a ha]
  congr 1
  refine frameL_mod _ _ _ _ ?_
  have := room_at a
  omega
/-- what holds at each round's head -/
def RFrameRel (w : World) (F : List UInt8) (av pv ov kv : Value) (wr : World) : Prop :=
  ∃ (b : Bool) (rest done : List UInt8) (at_ kd : Nat) (A1 : Option Addr) (n1 c1 : Nat) (A2 : Option Addr) (n2 c2 : Nat), av = .int .i64 (at_ : Int) ∧ pv = .slice A1 n1 c1 ∧ ov = .slice A2 n2 c2 ∧ kv = .int .u8 (kd : Int) ∧ Sl w 1 A1 n1 c1 (bc rest) ∧
    OwnB wr w.heap.size A2 n2 c2 done ∧ Below w.heap.size w wr ∧ Hid (F = done ++ frameL at_ b rest) ∧ n1 ≤ 65536 ∧ at_ < 64 ∧ (b = true → kd = 1) ∧ (b = false → kd = 2 ∨ kd = 3)
def RFrameMs (av pv : Value) : Nat := match av, pv with | .int _ y, .slice _ x _ => 2 * x + (if roomN y.toNat = 0 then 1 else 0) | _, _ => 0
set_option maxRecDepth 100000 in
set_option maxHeartbeats 8000000 in
theorem rframe_pos (w : World) (a : Nat) (A : Option Addr) (n c : Nat) (p : List UInt8) (h : Sl w 1 A n c (bc p)) (hn : n ≤ 65536) :
    Calls Tryd.prog 30 #[.int .i64 (a : Int), .slice A n c] w (FrameB w (frameL a true p, 0)) := by
  have Hl : Hid (p.length = n) := h.lenb
  have hfl := (frameL_length a true p).2
  rw [Hl.out] at hfl
  have hfl2 : (frameL a true p).length ≤ 1000000 := by split at hfl <;> omega
  clear hfl
  obtain ⟨F, hF⟩ : ∃ F, frameL a true p = F := ⟨_, rfl⟩
  have hF2 : frameL (a % 64) true p = F := by rw [← hF]; exact frameL_mod _ _ _ _ (by omega)
  rw [hF] at hfl2 ⊢
  have hal : a % 64 < 64 := by omega
  have ea : ((a : Int) % 64) = ((a % 64 : Nat) : Int) := by omega
  generalize a % 64 = t at *
  have HF := Lib.hid hF2
  clear hF hF2
  go_enter Tryd.func30, Tryd.ntmps30
  go_wp2_with fail
  rw [ea]
  clear ea
  go_loopw [0, 1, 6, 7] (RFrameRel w F) (fun av pv _ _ _ => RFrameMs av pv)
  case atStart => exact ⟨true, p, [], t, 1, A, n, c, none, 0, 0, rfl, rfl, rfl, rfl, h, Own.nil _ _ _ _ _, Below.refl _ _, by unfold Hid; rw [List.nil_append]; exact HF.out.symm, hn, hal, fun _ => rfl, fun h => by cases h⟩
  case round =>
    obtain ⟨b, rest, done, at_, kd, A1, n1, c1, A2, n2, c2, rfl, rfl, rfl, rfl, h1, ho2, hbr, Hd, hn1, hat, hkb1, hkb2⟩ := hrel
    have hd2 := ho2.len'
    have hdl : done.length ≤ 1000000 := by have h3 := congrArg List.length Hd.out; rw [List.length_append] at h3; omega
    have hr1 := h1.lenb
    have hn2 : n2 ≤ 1000000 := by omega
    have Hd2 := Lib.hid hd2
    have Hr1 := Lib.hid hr1
    clear hd2 hr1
    by_cases hat57 : 57 < at_

    · have hx1 : 64 - at_ < 7 := by omega
      by_cases hend : n1 ≤ 57
      · cases b
        · have hk1 : ((kd : Int) == 1) = false := by have := hkb2 rfl; simp; omega
          have hk2 : ((kd : Int) != 1) = true := by have := hkb2 rfl; simp; omega
          clear hkb1 hkb2
          obtain ⟨hr1, hs1⟩ := cutH h1 .i64 n1 n1 rfl (by omega)
          obtain ⟨A7, hr2, hs2, _⟩ := cutL h1 .i64 n1 n1 rfl (by omega)
          rw [List.take_of_length_le (show rest.length ≤ n1 by have h4 := Hr1.out; omega)] at hs1
          go_wp2_with (at_builtin; refine wpList_zerosB _ rfl (.tmp 22) (.tmp 23) rfl w.heap.size A2 n2 c2 done rfl ho2 (64 - at_) _ ?_ rfl ?_ ?_ ?_)
          · omega
          · omega
          · exact hbr.size
          intro A3 c3 w3 ho3 hg3 _
          have hb3 := hbr.grown hg3 hbr.size (fun b hb => (Own.lt ho2 b hb).1)
          have Ho := Lib.hid ho3
          clear ho2 ho3
          have hs1' := (hs1.below (by omega) hb3).below (by omega) ((Below.refl _ _).alloc (Nat.le_refl _) (.cells #[.int .u8 4] 5))
          have hlit : OwnB (w3.alloc (.cells #[.int .u8 4] 5)) w.heap.size (some ⟨w3.heap.size, 0, none⟩) 1 1 [4] := Own.lit w3 _ _ 1 _ _ hb3.size rfl (by unfold maxLen; omega) rfl
          go_wp2_with (at_builtin; refine wpList_appB _ rfl (.tmp 45) (.tmp 48) rfl w.heap.size _ 1 1 [4] rfl hlit A1 n1 c1 rest rfl hs1' ?_ ?_ ?_)
          · omega
          · have := hb3.size; rw [World.size_alloc]; omega
          intro A4 c4 w4 ho4 hg4 _
          have hb34 : Below w3.heap.size w3 w4 := ((Below.refl _ _).alloc (Nat.le_refl _) _).grown hg4 (by rw [World.size_alloc]; omega) (fun b hb => by simp [blk] at hb; omega)
          have hs4 := OwnB.sl ho4
          clear hlit hg4 ho4 hs1'
          go_wp2_with fail
          refine (rsum_any w4 A4 _ c4 _ hs4 (by omega)).mono ?_
          rintro e w5 ⟨rfl, hb45⟩
          have hsl := sumL_lt ([4] ++ rest)
          have hml := maskL_lt (sumL ([4] ++ rest))
          obtain ⟨s, hs⟩ : ∃ s, sumL ([4] ++ rest) = s := ⟨_, rfl⟩
          rw [hs] at hsl hml
          first | rw [hs] | (simp only [List.cons_append, List.nil_append] at hs ⊢; rw [hs])
          have hmk := fun w' => rmask_any w' s hsl
          obtain ⟨mk, hmke⟩ : ∃ mk, maskL s = mk := ⟨_, rfl⟩
          rw [hmke] at hml
          simp only [hmke] at hmk
          have Hmk := Lib.hid hmk
          have Hs := Lib.hid hs
          have Hmke := Lib.hid hmke
          have hb35 := hb34.trans (hb45.mono hb34.size)
          have Ho5 := Lib.hid (Own.below Ho.out hb35)
          have hbw5 := hb3.trans (hb35.mono hb3.size)
          clear hs4 hmk hs hmke hb45 hb34
          go_wp2_with fail
          refine (Hmk.out _).mono ?_
          rintro e w' ⟨rfl, rfl⟩
          go_wp2_with (at_builtin; refine wpList_appB _ rfl (.tmp 52) (.tmp 70) rfl w.heap.size A3 (n2 + (64 - at_)) c3 _ rfl (Own.below Ho5.out ((Below.refl _ _).alloc (Nat.le_refl _) _)) _ 7 7 (le4 mk ++ [UInt8.ofNat n1, UInt8.ofNat (n1 / 256), 4]) rfl (Sl.lit _ _ _ 7 _ _ rfl (by unfold maxLen; omega) ?_) ?_ ?_ ?_)
          · simp [bc, le4] <;> omega
          · omega
          · have := hbw5.size; rw [World.size_alloc]; omega
          intro A6 c6 w6 ho6 hg6 _
          have hb56 : Below w.heap.size w w6 := (hbw5.alloc hbw5.size _).grown hg6 (by have := hbw5.size; rw [World.size_alloc]; omega) (fun b hb => (Own.lt Ho5.out b hb).1)
          have Ho6 := Lib.hid ho6
          have hs6 := hs1.below (by omega) hb56
          clear ho6 hg6
          go_wp2_with (at_builtin; refine wpList_appB _ rfl (.tmp 72) (.tmp 75) rfl w.heap.size A6 _ c6 _ rfl Ho6.out A1 n1 c1 rest rfl hs6 ?_ ?_ ?_)
          · omega
          · exact hb56.size
          intro A8 c8 w8 ho8 hg8 _
          have hb8 : Below w.heap.size w w8 := hb56.grown hg8 hb56.size (fun b hb => (Own.lt Ho6.out b hb).1)
          have hpc : pieceL 4 rest = le4 mk ++ [UInt8.ofNat n1, UInt8.ofNat (n1 / 256), 4] ++ rest := by
            unfold pieceL headL
            have h4 := Hs.out
            have h5 := Hmke.out
            have h6 := Hr1.out
            have h7 : rest.length = n1 := h6
            rw [h7, ← h5, ← h4]
            rfl
          have hfin : F = (done ++ List.replicate (64 - at_) 0) ++ pieceL 4 rest := by
            have h3 := Hd.out
            rw [rround_end at_ hat false rest (by have h4 := Hr1.out; rw [if_pos hat57]; omega)] at h3
            simp only [if_pos hat57] at h3
            simpa [kindN] using h3
          have ho9 : OwnB w8 w.heap.size A8 ((n2 + (64 - at_)) + 7 + n1) c8 F := by
            rw [hfin, hpc]
            simpa using ho8
          clear ho8 hfin hpc hg8 hs6 hs1 hs2 hr1
          go_wp2
          go_ret2
          exact ⟨A8, _, c8, rfl, ho9, hb8⟩
        · obtain rfl : kd = 1 := hkb1 rfl
          clear hkb1 hkb2
          obtain ⟨hr1, hs1⟩ := cutH h1 .i64 n1 n1 rfl (by omega)
          obtain ⟨A7, hr2, hs2, _⟩ := cutL h1 .i64 n1 n1 rfl (by omega)
          rw [List.take_of_length_le (show rest.length ≤ n1 by have h4 := Hr1.out; omega)] at hs1
          go_wp2_with (at_builtin; refine wpList_zerosB _ rfl (.tmp 22) (.tmp 23) rfl w.heap.size A2 n2 c2 done rfl ho2 (64 - at_) _ ?_ rfl ?_ ?_ ?_)
          · omega
          · omega
          · exact hbr.size
          intro A3 c3 w3 ho3 hg3 _
          have hb3 := hbr.grown hg3 hbr.size (fun b hb => (Own.lt ho2 b hb).1)
          have Ho := Lib.hid ho3
          clear ho2 ho3
          have hs1' := (hs1.below (by omega) hb3).below (by omega) ((Below.refl _ _).alloc (Nat.le_refl _) (.cells #[.int .u8 1] 5))
          have hlit : OwnB (w3.alloc (.cells #[.int .u8 1] 5)) w.heap.size (some ⟨w3.heap.size, 0, none⟩) 1 1 [1] := Own.lit w3 _ _ 1 _ _ hb3.size rfl (by unfold maxLen; omega) rfl
          go_wp2_with (at_builtin; refine wpList_appB _ rfl (.tmp 45) (.tmp 48) rfl w.heap.size _ 1 1 [1] rfl hlit A1 n1 c1 rest rfl hs1' ?_ ?_ ?_)
          · omega
          · have := hb3.size; rw [World.size_alloc]; omega
          intro A4 c4 w4 ho4 hg4 _
          have hb34 : Below w3.heap.size w3 w4 := ((Below.refl _ _).alloc (Nat.le_refl _) _).grown hg4 (by rw [World.size_alloc]; omega) (fun b hb => by simp [blk] at hb; omega)
          have hs4 := OwnB.sl ho4
          clear hlit hg4 ho4 hs1'
          go_wp2_with fail
          refine (rsum_any w4 A4 _ c4 _ hs4 (by omega)).mono ?_
          rintro e w5 ⟨rfl, hb45⟩
          have hsl := sumL_lt ([1] ++ rest)
          have hml := maskL_lt (sumL ([1] ++ rest))
          obtain ⟨s, hs⟩ : ∃ s, sumL ([1] ++ rest) = s := ⟨_, rfl⟩
          rw [hs] at hsl hml
          first | rw [hs] | (simp only [List.cons_append, List.nil_append] at hs ⊢; rw [hs])
          have hmk := fun w' => rmask_any w' s hsl
          obtain ⟨mk, hmke⟩ : ∃ mk, maskL s = mk := ⟨_, rfl⟩
          rw [hmke] at hml
          simp only [hmke] at hmk
          have Hmk := Lib.hid hmk
          have Hs := Lib.hid hs
          have Hmke := Lib.hid hmke
          have hb35 := hb34.trans (hb45.mono hb34.size)
          have Ho5 := Lib.hid (Own.below Ho.out hb35)
          have hbw5 := hb3.trans (hb35.mono hb3.size)
          clear hs4 hmk hs hmke hb45 hb34
          go_wp2_with fail
          refine (Hmk.out _).mono ?_
          rintro e w' ⟨rfl, rfl⟩
          go_wp2_with (at_builtin; refine wpList_appB _ rfl (.tmp 52) (.tmp 70) rfl w.heap.size A3 (n2 + (64 - at_)) c3 _ rfl (Own.below Ho5.out ((Below.refl _ _).alloc (Nat.le_refl _) _)) _ 7 7 (le4 mk ++ [UInt8.ofNat n1, UInt8.ofNat (n1 / 256), 1]) rfl (Sl.lit _ _ _ 7 _ _ rfl (by unfold maxLen; omega) ?_) ?_ ?_ ?_)
          · simp [bc, le4] <;> omega
          · omega
          · have := hbw5.size; rw [World.size_alloc]; omega
          intro A6 c6 w6 ho6 hg6 _
          have hb56 : Below w.heap.size w w6 := (hbw5.alloc hbw5.size _).grown hg6 (by have := hbw5.size; rw [World.size_alloc]; omega) (fun b hb => (Own.lt Ho5.out b hb).1)
          have Ho6 := Lib.hid ho6
          have hs6 := hs1.below (by omega) hb56
          clear ho6 hg6
          go_wp2_with (at_builtin; refine wpList_appB _ rfl (.tmp 72) (.tmp 75) rfl w.heap.size A6 _ c6 _ rfl Ho6.out A1 n1 c1 rest rfl hs6 ?_ ?_ ?_)
          · omega
          · exact hb56.size
          intro A8 c8 w8 ho8 hg8 _
          have hb8 : Below w.heap.size w w8 := hb56.grown hg8 hb56.size (fun b hb => (Own.lt Ho6.out b hb).1)
          have hpc : pieceL 1 rest = le4 mk ++ [UInt8.ofNat n1, UInt8.ofNat (n1 / 256), 1] ++ rest := by
            unfold pieceL headL
            have h4 := Hs.out
            have h5 := Hmke.out
            have h6 := Hr1.out
            have h7 : rest.length = n1 := h6
            rw [h7, ← h5, ← h4]
            rfl
          have hfin : F = (done ++ List.replicate (64 - at_) 0) ++ pieceL 1 rest := by
            have h3 := Hd.out
            rw [rround_end at_ hat true rest (by have h4 := Hr1.out; rw [if_pos hat57]; omega)] at h3
            simp only [if_pos hat57] at h3
            simpa [kindN] using h3
          have ho9 : OwnB w8 w.heap.size A8 ((n2 + (64 - at_)) + 7 + n1) c8 F := by
            rw [hfin, hpc]
            simpa using ho8
          clear ho8 hfin hpc hg8 hs6 hs1 hs2 hr1
          go_wp2
          go_ret2
          exact ⟨A8, _, c8, rfl, ho9, hb8⟩
      · cases b
        · have hk1 : ((kd : Int) == 1) = false := by have := hkb2 rfl; simp; omega
          have hk2 : ((kd : Int) != 1) = true := by have := hkb2 rfl; simp; omega
          clear hkb1 hkb2
          obtain ⟨hr1, hs1⟩ := cutH h1 .i64 57 57 rfl (by omega)
          obtain ⟨A7, hr2, hs2, _⟩ := cutL h1 .i64 57 57 rfl (by omega)
          have d1 : decide ((57 : Int) < (n1 : Int)) = true := by simp; omega
          go_wp2_with (at_builtin; refine wpList_zerosB _ rfl (.tmp 22) (.tmp 23) rfl w.heap.size A2 n2 c2 done rfl ho2 (64 - at_) _ ?_ rfl ?_ ?_ ?_)
          · omega
          · omega
          · exact hbr.size
          intro A3 c3 w3 ho3 hg3 _
          have hb3 := hbr.grown hg3 hbr.size (fun b hb => (Own.lt ho2 b hb).1)
          have Ho := Lib.hid ho3
          clear ho2 ho3
          have hs1' := (hs1.below (by omega) hb3).below (by omega) ((Below.refl _ _).alloc (Nat.le_refl _) (.cells #[.int .u8 3] 5))
          have hlit : OwnB (w3.alloc (.cells #[.int .u8 3] 5)) w.heap.size (some ⟨w3.heap.size, 0, none⟩) 1 1 [3] := Own.lit w3 _ _ 1 _ _ hb3.size rfl (by unfold maxLen; omega) rfl
          go_wp2_with (at_builtin; refine wpList_appB _ rfl (.tmp 45) (.tmp 48) rfl w.heap.size _ 1 1 [3] rfl hlit A1 57 c1 (rest.take 57) rfl hs1' ?_ ?_ ?_)
          · omega
          · have := hb3.size; rw [World.size_alloc]; omega
          intro A4 c4 w4 ho4 hg4 _
          have hb34 : Below w3.heap.size w3 w4 := ((Below.refl _ _).alloc (Nat.le_refl _) _).grown hg4 (by rw [World.size_alloc]; omega) (fun b hb => by simp [blk] at hb; omega)
          have hs4 := OwnB.sl ho4
          clear hlit hg4 ho4 hs1'
          go_wp2_with fail
          refine (rsum_any w4 A4 _ c4 _ hs4 (by omega)).mono ?_
          rintro e w5 ⟨rfl, hb45⟩
          have hsl := sumL_lt ([3] ++ (rest.take 57))
          have hml := maskL_lt (sumL ([3] ++ (rest.take 57)))
          obtain ⟨s, hs⟩ : ∃ s, sumL ([3] ++ (rest.take 57)) = s := ⟨_, rfl⟩
          rw [hs] at hsl hml
          first | rw [hs] | (simp only [List.cons_append, List.nil_append] at hs ⊢; rw [hs])
          have hmk := fun w' => rmask_any w' s hsl
          obtain ⟨mk, hmke⟩ : ∃ mk, maskL s = mk := ⟨_, rfl⟩
          rw [hmke] at hml
          simp only [hmke] at hmk
          have Hmk := Lib.hid hmk
          have Hs := Lib.hid hs
          have Hmke := Lib.hid hmke
          have hb35 := hb34.trans (hb45.mono hb34.size)
          have Ho5 := Lib.hid (Own.below Ho.out hb35)
          have hbw5 := hb3.trans (hb35.mono hb3.size)
          clear hs4 hmk hs hmke hb45 hb34
          go_wp2_with fail
          refine (Hmk.out _).mono ?_
          rintro e w' ⟨rfl, rfl⟩
          go_wp2_with (at_builtin; refine wpList_appB _ rfl (.tmp 52) (.tmp 70) rfl w.heap.size A3 (n2 + (64 - at_)) c3 _ rfl (Own.below Ho5.out ((Below.refl _ _).alloc (Nat.le_refl _) _)) _ 7 7 (le4 mk ++ [UInt8.ofNat 57, UInt8.ofNat (57 / 256), 3]) rfl (Sl.lit _ _ _ 7 _ _ rfl (by unfold maxLen; omega) ?_) ?_ ?_ ?_)
          · simp [bc, le4] <;> omega
          · omega
          · have := hbw5.size; rw [World.size_alloc]; omega
          intro A6 c6 w6 ho6 hg6 _
          have hb56 : Below w.heap.size w w6 := (hbw5.alloc hbw5.size _).grown hg6 (by have := hbw5.size; rw [World.size_alloc]; omega) (fun b hb => (Own.lt Ho5.out b hb).1)
          have Ho6 := Lib.hid ho6
          have hs6 := hs1.below (by omega) hb56
          clear ho6 hg6
          go_wp2_with (at_builtin; refine wpList_appB _ rfl (.tmp 72) (.tmp 75) rfl w.heap.size A6 _ c6 _ rfl Ho6.out A1 57 c1 (rest.take 57) rfl hs6 ?_ ?_ ?_)
          · omega
          · exact hb56.size
          intro A8 c8 w8 ho8 hg8 _
          have hb8 : Below w.heap.size w w8 := hb56.grown hg8 hb56.size (fun b hb => (Own.lt Ho6.out b hb).1)
          have hpc : pieceL 3 (rest.take 57) = le4 mk ++ [UInt8.ofNat 57, UInt8.ofNat (57 / 256), 3] ++ (rest.take 57) := by
            unfold pieceL headL
            have h4 := Hs.out
            have h5 := Hmke.out
            have h6 := Hr1.out
            have h7 : (rest.take 57).length = 57 := by simp; omega
            rw [h7, ← h5, ← h4]
            rfl
          have hfin : F = ((done ++ List.replicate (64 - at_) 0) ++ pieceL 3 (rest.take 57)) ++ frameL 0 false (rest.drop 57) := by
            have h3 := Hd.out
            rw [rround_go at_ hat false rest (by have h4 := Hr1.out; rw [if_pos hat57]; omega)] at h3
            simp only [if_pos hat57] at h3
            simpa [kindN] using h3
          rw [hpc] at hfin
          have Hfin := Lib.hid hfin
          have Ho8 := Lib.hid ho8
          clear ho8 hfin hpc hg8 hs6 hs1 hr1 d1
          go_wp2
          go_roundw
          case rel => exact ⟨false, rest.drop 57, _, 0, 3, A7, n1 - 57, c1 - 57, A8, _, c8, rfl, rfl, rfl, rfl, hs2, Ho8.out, hb8, by have := Hfin.out; unfold Hid; simpa using this, by omega, by omega, (fun h => by cases h), (fun _ => by simp)⟩
          case measure =>
            show 2 * (n1 - 57) + (if roomN 0 = 0 then 1 else 0) < 2 * n1 + (if roomN at_ = 0 then 1 else 0)
            rw [if_neg (show ¬ roomN 0 = 0 by decide)]
            have h9 : roomN at_ = 57 := by rw [room_ref at_ hat]; rw [if_pos hat57]
            rw [h9]
            split <;> omega
        · obtain rfl : kd = 1 := hkb1 rfl
          clear hkb1 hkb2
          obtain ⟨hr1, hs1⟩ := cutH h1 .i64 57 57 rfl (by omega)
          obtain ⟨A7, hr2, hs2, _⟩ := cutL h1 .i64 57 57 rfl (by omega)
          have d1 : decide ((57 : Int) < (n1 : Int)) = true := by simp; omega
          go_wp2_with (at_builtin; refine wpList_zerosB _ rfl (.tmp 22) (.tmp 23) rfl w.heap.size A2 n2 c2 done rfl ho2 (64 - at_) _ ?_ rfl ?_ ?_ ?_)
          · omega
          · omega
          · exact hbr.size
          intro A3 c3 w3 ho3 hg3 _
          have hb3 := hbr.grown hg3 hbr.size (fun b hb => (Own.lt ho2 b hb).1)
          have Ho := Lib.hid ho3
          clear ho2 ho3
          have hs1' := (hs1.below (by omega) hb3).below (by omega) ((Below.refl _ _).alloc (Nat.le_refl _) (.cells #[.int .u8 2] 5))
          have hlit : OwnB (w3.alloc (.cells #[.int .u8 2] 5)) w.heap.size (some ⟨w3.heap.size, 0, none⟩) 1 1 [2] := Own.lit w3 _ _ 1 _ _ hb3.size rfl (by unfold maxLen; omega) rfl
          go_wp2_with (at_builtin; refine wpList_appB _ rfl (.tmp 45) (.tmp 48) rfl w.heap.size _ 1 1 [2] rfl hlit A1 57 c1 (rest.take 57) rfl hs1' ?_ ?_ ?_)
          · omega
          · have := hb3.size; rw [World.size_alloc]; omega
          intro A4 c4 w4 ho4 hg4 _
          have hb34 : Below w3.heap.size w3 w4 := ((Below.refl _ _).alloc (Nat.le_refl _) _).grown hg4 (by rw [World.size_alloc]; omega) (fun b hb => by simp [blk] at hb; omega)
          have hs4 := OwnB.sl ho4
          clear hlit hg4 ho4 hs1'
          go_wp2_with fail
          refine (rsum_any w4 A4 _ c4 _ hs4 (by omega)).mono ?_
          rintro e w5 ⟨rfl, hb45⟩
          have hsl := sumL_lt ([2] ++ (rest.take 57))
          have hml := maskL_lt (sumL ([2] ++ (rest.take 57)))
          obtain ⟨s, hs⟩ : ∃ s, sumL ([2] ++ (rest.take 57)) = s := ⟨_, rfl⟩
          rw [hs] at hsl hml
          first | rw [hs] | (simp only [List.cons_append, List.nil_append] at hs ⊢; rw [hs])
          have hmk := fun w' => rmask_any w' s hsl
          obtain ⟨mk, hmke⟩ : ∃ mk, maskL s = mk := ⟨_, rfl⟩
          rw [hmke] at hml
          simp only [hmke] at hmk
          have Hmk := Lib.hid hmk
          have Hs := Lib.hid hs
          have Hmke := Lib.hid hmke
          have hb35 := hb34.trans (hb45.mono hb34.size)
          have Ho5 := Lib.hid (Own.below Ho.out hb35)
          have hbw5 := hb3.trans (hb35.mono hb3.size)
          clear hs4 hmk hs hmke hb45 hb34
          go_wp2_with fail
          refine (Hmk.out _).mono ?_
          rintro e w' ⟨rfl, rfl⟩
          go_wp2_with (at_builtin; refine wpList_appB _ rfl (.tmp 52) (.tmp 70) rfl w.heap.size A3 (n2 + (64 - at_)) c3 _ rfl (Own.below Ho5.out ((Below.refl _ _).alloc (Nat.le_refl _) _)) _ 7 7 (le4 mk ++ [UInt8.ofNat 57, UInt8.ofNat (57 / 256), 2]) rfl (Sl.lit _ _ _ 7 _ _ rfl (by unfold maxLen; omega) ?_) ?_ ?_ ?_)
          · simp [bc, le4] <;> omega
          · omega
          · have := hbw5.size; rw [World.size_alloc]; omega
          intro A6 c6 w6 ho6 hg6 _
          have hb56 : Below w.heap.size w w6 := (hbw5.alloc hbw5.size _).grown hg6 (by have := hbw5.size; rw [World.size_alloc]; omega) (fun b hb => (Own.lt Ho5.out b hb).1)
          have Ho6 := Lib.hid ho6
          have hs6 := hs1.below (by omega) hb56
          clear ho6 hg6
          go_wp2_with (at_builtin; refine wpList_appB _ rfl (.tmp 72) (.tmp 75) rfl w.heap.size A6 _ c6 _ rfl Ho6.out A1 57 c1 (rest.take 57) rfl hs6 ?_ ?_ ?_)
          · omega
          · exact hb56.size
          intro A8 c8 w8 ho8 hg8 _
          have hb8 : Below w.heap.size w w8 := hb56.grown hg8 hb56.size (fun b hb => (Own.lt Ho6.out b hb).1)
          have hpc : pieceL 2 (rest.take 57) = le4 mk ++ [UInt8.ofNat 57, UInt8.ofNat (57 / 256), 2] ++ (rest.take 57) := by
            unfold pieceL headL
            have h4 := Hs.out
            have h5 := Hmke.out
            have h6 := Hr1.out
            have h7 : (rest.take 57).length = 57 := by simp; omega
            rw [h7, ← h5, ← h4]
            rfl
          have hfin : F = ((done ++ List.replicate (64 - at_) 0) ++ pieceL 2 (rest.take 57)) ++ frameL 0 false (rest.drop 57) := by
            have h3 := Hd.out
            rw [rround_go at_ hat true rest (by have h4 := Hr1.out; rw [if_pos hat57]; omega)] at h3
            simp only [if_pos hat57] at h3
            simpa [kindN] using h3
          rw [hpc] at hfin
          have Hfin := Lib.hid hfin
          have Ho8 := Lib.hid ho8
          clear ho8 hfin hpc hg8 hs6 hs1 hr1 d1
          go_wp2
          go_roundw
          case rel => exact ⟨false, rest.drop 57, _, 0, 2, A7, n1 - 57, c1 - 57, A8, _, c8, rfl, rfl, rfl, rfl, hs2, Ho8.out, hb8, by have := Hfin.out; unfold Hid; simpa using this, by omega, by omega, (fun h => by cases h), (fun _ => by simp)⟩
          case measure =>
            show 2 * (n1 - 57) + (if roomN 0 = 0 then 1 else 0) < 2 * n1 + (if roomN at_ = 0 then 1 else 0)
            rw [if_neg (show ¬ roomN 0 = 0 by decide)]
            have h9 : roomN at_ = 57 := by rw [room_ref at_ hat]; rw [if_pos hat57]
            rw [h9]
            split <;> omega
    · obtain ⟨rm, hrm⟩ : ∃ rm : Nat, (57 : Int) - (at_ : Int) = (rm : Int) := ⟨57 - at_, by omega⟩
      by_cases hend : n1 ≤ rm
      · cases b
        · have hk1 : ((kd : Int) == 1) = false := by have := hkb2 rfl; simp; omega
          have hk2 : ((kd : Int) != 1) = true := by have := hkb2 rfl; simp; omega
          clear hkb1 hkb2
          obtain ⟨hr1, hs1⟩ := cutH h1 .i64 n1 n1 rfl (by omega)
          obtain ⟨A7, hr2, hs2, _⟩ := cutL h1 .i64 n1 n1 rfl (by omega)
          rw [List.take_of_length_le (show rest.length ≤ n1 by have h4 := Hr1.out; omega)] at hs1
          have Ho := Lib.hid ho2
          clear ho2
          have hs1' := (hs1.below (by omega) hbr).below (by omega) ((Below.refl _ _).alloc (Nat.le_refl _) (.cells #[.int .u8 4] 5))
          have hlit : OwnB (wr.alloc (.cells #[.int .u8 4] 5)) w.heap.size (some ⟨wr.heap.size, 0, none⟩) 1 1 [4] := Own.lit wr _ _ 1 _ _ hbr.size rfl (by unfold maxLen; omega) rfl
          go_wp2_with (at_builtin; refine wpList_appB _ rfl (.tmp 45) (.tmp 48) rfl w.heap.size _ 1 1 [4] rfl hlit A1 n1 c1 rest rfl hs1' ?_ ?_ ?_)
          · omega
          · have := hbr.size; rw [World.size_alloc]; omega
          intro A4 c4 w4 ho4 hg4 _
          have hb34 : Below wr.heap.size wr w4 := ((Below.refl _ _).alloc (Nat.le_refl _) _).grown hg4 (by rw [World.size_alloc]; omega) (fun b hb => by simp [blk] at hb; omega)
          have hs4 := OwnB.sl ho4
          clear hlit hg4 ho4 hs1'
          go_wp2_with fail
          refine (rsum_any w4 A4 _ c4 _ hs4 (by omega)).mono ?_
          rintro e w5 ⟨rfl, hb45⟩
          have hsl := sumL_lt ([4] ++ rest)
          have hml := maskL_lt (sumL ([4] ++ rest))
          obtain ⟨s, hs⟩ : ∃ s, sumL ([4] ++ rest) = s := ⟨_, rfl⟩
          rw [hs] at hsl hml
          first | rw [hs] | (simp only [List.cons_append, List.nil_append] at hs ⊢; rw [hs])
          have hmk := fun w' => rmask_any w' s hsl
          obtain ⟨mk, hmke⟩ : ∃ mk, maskL s = mk := ⟨_, rfl⟩
          rw [hmke] at hml
          simp only [hmke] at hmk
          have Hmk := Lib.hid hmk
          have Hs := Lib.hid hs
          have Hmke := Lib.hid hmke
          have hb35 := hb34.trans (hb45.mono hb34.size)
          have Ho5 := Lib.hid (Own.below Ho.out hb35)
          have hbw5 := hbr.trans (hb35.mono hbr.size)
          clear hs4 hmk hs hmke hb45 hb34
          go_wp2_with fail
          refine (Hmk.out _).mono ?_
          rintro e w' ⟨rfl, rfl⟩
          go_wp2_with (at_builtin; refine wpList_appB _ rfl (.tmp 52) (.tmp 70) rfl w.heap.size A2 n2 c2 _ rfl (Own.below Ho5.out ((Below.refl _ _).alloc (Nat.le_refl _) _)) _ 7 7 (le4 mk ++ [UInt8.ofNat n1, UInt8.ofNat (n1 / 256), 4]) rfl (Sl.lit _ _ _ 7 _ _ rfl (by unfold maxLen; omega) ?_) ?_ ?_ ?_)
          · simp [bc, le4] <;> omega
          · omega
          · have := hbw5.size; rw [World.size_alloc]; omega
          intro A6 c6 w6 ho6 hg6 _
          have hb56 : Below w.heap.size w w6 := (hbw5.alloc hbw5.size _).grown hg6 (by have := hbw5.size; rw [World.size_alloc]; omega) (fun b hb => (Own.lt Ho5.out b hb).1)
          have Ho6 := Lib.hid ho6
          have hs6 := hs1.below (by omega) hb56
          clear ho6 hg6
          go_wp2_with (at_builtin; refine wpList_appB _ rfl (.tmp 72) (.tmp 75) rfl w.heap.size A6 _ c6 _ rfl Ho6.out A1 n1 c1 rest rfl hs6 ?_ ?_ ?_)
          · omega
          · exact hb56.size
          intro A8 c8 w8 ho8 hg8 _
          have hb8 : Below w.heap.size w w8 := hb56.grown hg8 hb56.size (fun b hb => (Own.lt Ho6.out b hb).1)
          have hpc : pieceL 4 rest = le4 mk ++ [UInt8.ofNat n1, UInt8.ofNat (n1 / 256), 4] ++ rest := by
            unfold pieceL headL
            have h4 := Hs.out
            have h5 := Hmke.out
            have h6 := Hr1.out
            have h7 : rest.length = n1 := h6
            rw [h7, ← h5, ← h4]
            rfl
          have hfin : F = done ++ pieceL 4 rest := by
            have h3 := Hd.out
            rw [rround_end at_ hat false rest (by have h4 := Hr1.out; rw [if_neg hat57]; omega)] at h3
            simp only [if_neg hat57] at h3
            simpa [kindN] using h3
          have ho9 : OwnB w8 w.heap.size A8 (n2 + 7 + n1) c8 F := by
            rw [hfin, hpc]
            simpa using ho8
          clear ho8 hfin hpc hg8 hs6 hs1 hs2 hr1
          go_wp2
          go_ret2
          exact ⟨A8, _, c8, rfl, ho9, hb8⟩
        · obtain rfl : kd = 1 := hkb1 rfl
          clear hkb1 hkb2
          obtain ⟨hr1, hs1⟩ := cutH h1 .i64 n1 n1 rfl (by omega)
          obtain ⟨A7, hr2, hs2, _⟩ := cutL h1 .i64 n1 n1 rfl (by omega)
          rw [List.take_of_length_le (show rest.length ≤ n1 by have h4 := Hr1.out; omega)] at hs1
          have Ho := Lib.hid ho2
          clear ho2
          have hs1' := (hs1.below (by omega) hbr).below (by omega) ((Below.refl _ _).alloc (Nat.le_refl _) (.cells #[.int .u8 1] 5))
          have hlit : OwnB (wr.alloc (.cells #[.int .u8 1] 5)) w.heap.size (some ⟨wr.heap.size, 0, none⟩) 1 1 [1] := Own.lit wr _ _ 1 _ _ hbr.size rfl (by unfold maxLen; omega) rfl
          go_wp2_with (at_builtin; refine wpList_appB _ rfl (.tmp 45) (.tmp 48) rfl w.heap.size _ 1 1 [1] rfl hlit A1 n1 c1 rest rfl hs1' ?_ ?_ ?_)
          · omega
          · have := hbr.size; rw [World.size_alloc]; omega
          intro A4 c4 w4 ho4 hg4 _
          have hb34 : Below wr.heap.size wr w4 := ((Below.refl _ _).alloc (Nat.le_refl _) _).grown hg4 (by rw [World.size_alloc]; omega) (fun b hb => by simp [blk] at hb; omega)
          have hs4 := OwnB.sl ho4
          clear hlit hg4 ho4 hs1'
          go_wp2_with fail
          refine (rsum_any w4 A4 _ c4 _ hs4 (by omega)).mono ?_
          rintro e w5 ⟨rfl, hb45⟩
          have hsl := sumL_lt ([1] ++ rest)
          have hml := maskL_lt (sumL ([1] ++ rest))
          obtain ⟨s, hs⟩ : ∃ s, sumL ([1] ++ rest) = s := ⟨_, rfl⟩
          rw [hs] at hsl hml
          first | rw [hs] | (simp only [List.cons_append, List.nil_append] at hs ⊢; rw [hs])
          have hmk := fun w' => rmask_any w' s hsl
          obtain ⟨mk, hmke⟩ : ∃ mk, maskL s = mk := ⟨_, rfl⟩
          rw [hmke] at hml
          simp only [hmke] at hmk
          have Hmk := Lib.hid hmk
          have Hs := Lib.hid hs
          have Hmke := Lib.hid hmke
          have hb35 := hb34.trans (hb45.mono hb34.size)
          have Ho5 := Lib.hid (Own.below Ho.out hb35)
          have hbw5 := hbr.trans (hb35.mono hbr.size)
          clear hs4 hmk hs hmke hb45 hb34
          go_wp2_with fail
          refine (Hmk.out _).mono ?_
          rintro e w' ⟨rfl, rfl⟩
          go_wp2_with (at_builtin; refine wpList_appB _ rfl (.tmp 52) (.tmp 70) rfl w.heap.size A2 n2 c2 _ rfl (Own.below Ho5.out ((Below.refl _ _).alloc (Nat.le_refl _) _)) _ 7 7 (le4 mk ++ [UInt8.ofNat n1, UInt8.ofNat (n1 / 256), 1]) rfl (Sl.lit _ _ _ 7 _ _ rfl (by unfold maxLen; omega) ?_) ?_ ?_ ?_)
          · simp [bc, le4] <;> omega
          · omega
          · have := hbw5.size; rw [World.size_alloc]; omega
          intro A6 c6 w6 ho6 hg6 _
          have hb56 : Below w.heap.size w w6 := (hbw5.alloc hbw5.size _).grown hg6 (by have := hbw5.size; rw [World.size_alloc]; omega) (fun b hb => (Own.lt Ho5.out b hb).1)
          have Ho6 := Lib.hid ho6
          have hs6 := hs1.below (by omega) hb56
          clear ho6 hg6
          go_wp2_with (at_builtin; refine wpList_appB _ rfl (.tmp 72) (.tmp 75) rfl w.heap.size A6 _ c6 _ rfl Ho6.out A1 n1 c1 rest rfl hs6 ?_ ?_ ?_)
          · omega
          · exact hb56.size
          intro A8 c8 w8 ho8 hg8 _
          have hb8 : Below w.heap.size w w8 := hb56.grown hg8 hb56.size (fun b hb => (Own.lt Ho6.out b hb).1)
          have hpc : pieceL 1 rest = le4 mk ++ [UInt8.ofNat n1, UInt8.ofNat (n1 / 256), 1] ++ rest := by
            unfold pieceL headL
            have h4 := Hs.out
            have h5 := Hmke.out
            have h6 := Hr1.out
            have h7 : rest.length = n1 := h6
            rw [h7, ← h5, ← h4]
            rfl
          have hfin : F = done ++ pieceL 1 rest := by
            have h3 := Hd.out
            rw [rround_end at_ hat true rest (by have h4 := Hr1.out; rw [if_neg hat57]; omega)] at h3
            simp only [if_neg hat57] at h3
            simpa [kindN] using h3
          have ho9 : OwnB w8 w.heap.size A8 (n2 + 7 + n1) c8 F := by
            rw [hfin, hpc]
            simpa using ho8
          clear ho8 hfin hpc hg8 hs6 hs1 hs2 hr1
          go_wp2
          go_ret2
          exact ⟨A8, _, c8, rfl, ho9, hb8⟩
      · cases b
        · have hk1 : ((kd : Int) == 1) = false := by have := hkb2 rfl; simp; omega
          have hk2 : ((kd : Int) != 1) = true := by have := hkb2 rfl; simp; omega
          clear hkb1 hkb2
          obtain ⟨hr1, hs1⟩ := cutH h1 .i64 rm rm rfl (by omega)
          obtain ⟨A7, hr2, hs2, _⟩ := cutL h1 .i64 rm rm rfl (by omega)
          have d1 : decide ((rm : Int) < (n1 : Int)) = true := by simp; omega
          have Ho := Lib.hid ho2
          clear ho2
          have hs1' := (hs1.below (by omega) hbr).below (by omega) ((Below.refl _ _).alloc (Nat.le_refl _) (.cells #[.int .u8 3] 5))
          have hlit : OwnB (wr.alloc (.cells #[.int .u8 3] 5)) w.heap.size (some ⟨wr.heap.size, 0, none⟩) 1 1 [3] := Own.lit wr _ _ 1 _ _ hbr.size rfl (by unfold maxLen; omega) rfl
          go_wp2_with (at_builtin; refine wpList_appB _ rfl (.tmp 45) (.tmp 48) rfl w.heap.size _ 1 1 [3] rfl hlit A1 rm c1 (rest.take rm) rfl hs1' ?_ ?_ ?_)
          · omega
          · have := hbr.size; rw [World.size_alloc]; omega
          intro A4 c4 w4 ho4 hg4 _
          have hb34 : Below wr.heap.size wr w4 := ((Below.refl _ _).alloc (Nat.le_refl _) _).grown hg4 (by rw [World.size_alloc]; omega) (fun b hb => by simp [blk] at hb; omega)
          have hs4 := OwnB.sl ho4
          clear hlit hg4 ho4 hs1'
          go_wp2_with fail
          refine (rsum_any w4 A4 _ c4 _ hs4 (by omega)).mono ?_
          rintro e w5 ⟨rfl, hb45⟩
          have hsl := sumL_lt ([3] ++ (rest.take rm))
          have hml := maskL_lt (sumL ([3] ++ (rest.take rm)))
          obtain ⟨s, hs⟩ : ∃ s, sumL ([3] ++ (rest.take rm)) = s := ⟨_, rfl⟩
          rw [hs] at hsl hml
          first | rw [hs] | (simp only [List.cons_append, List.nil_append] at hs ⊢; rw [hs])
          have hmk := fun w' => rmask_any w' s hsl
          obtain ⟨mk, hmke⟩ : ∃ mk, maskL s = mk := ⟨_, rfl⟩
          rw [hmke] at hml
          simp only [hmke] at hmk
          have Hmk := Lib.hid hmk
          have Hs := Lib.hid hs
          have Hmke := Lib.hid hmke
          have hb35 := hb34.trans (hb45.mono hb34.size)
          have Ho5 := Lib.hid (Own.below Ho.out hb35)
          have hbw5 := hbr.trans (hb35.mono hbr.size)
          clear hs4 hmk hs hmke hb45 hb34
          go_wp2_with fail
          refine (Hmk.out _).mono ?_
          rintro e w' ⟨rfl, rfl⟩
          go_wp2_with (at_builtin; refine wpList_appB _ rfl (.tmp 52) (.tmp 70) rfl w.heap.size A2 n2 c2 _ rfl (Own.below Ho5.out ((Below.refl _ _).alloc (Nat.le_refl _) _)) _ 7 7 (le4 mk ++ [UInt8.ofNat rm, UInt8.ofNat (rm / 256), 3]) rfl (Sl.lit _ _ _ 7 _ _ rfl (by unfold maxLen; omega) ?_) ?_ ?_ ?_)
          · simp [bc, le4] <;> omega
          · omega
          · have := hbw5.size; rw [World.size_alloc]; omega
          intro A6 c6 w6 ho6 hg6 _
          have hb56 : Below w.heap.size w w6 := (hbw5.alloc hbw5.size _).grown hg6 (by have := hbw5.size; rw [World.size_alloc]; omega) (fun b hb => (Own.lt Ho5.out b hb).1)
          have Ho6 := Lib.hid ho6
          have hs6 := hs1.below (by omega) hb56
          clear ho6 hg6
          go_wp2_with (at_builtin; refine wpList_appB _ rfl (.tmp 72) (.tmp 75) rfl w.heap.size A6 _ c6 _ rfl Ho6.out A1 rm c1 (rest.take rm) rfl hs6 ?_ ?_ ?_)
          · omega
          · exact hb56.size
          intro A8 c8 w8 ho8 hg8 _
          have hb8 : Below w.heap.size w w8 := hb56.grown hg8 hb56.size (fun b hb => (Own.lt Ho6.out b hb).1)
          have hpc : pieceL 3 (rest.take rm) = le4 mk ++ [UInt8.ofNat rm, UInt8.ofNat (rm / 256), 3] ++ (rest.take rm) := by
            unfold pieceL headL
            have h4 := Hs.out
            have h5 := Hmke.out
            have h6 := Hr1.out
            have h7 : (rest.take rm).length = rm := by simp; omega
            rw [h7, ← h5, ← h4]
            rfl
          have hfin : F = (done ++ pieceL 3 (rest.take rm)) ++ frameL 0 false (rest.drop rm) := by
            have h3 := Hd.out
            rw [rround_go at_ hat false rest (by have h4 := Hr1.out; rw [if_neg hat57]; omega)] at h3
            simp only [if_neg hat57] at h3
            rw [show 57 - at_ = rm by omega] at h3
            simpa [kindN] using h3
          rw [hpc] at hfin
          have Hfin := Lib.hid hfin
          have Ho8 := Lib.hid ho8
          clear ho8 hfin hpc hg8 hs6 hs1 hr1 d1
          go_wp2
          go_roundw
          case rel => exact ⟨false, rest.drop rm, _, 0, 3, A7, n1 - rm, c1 - rm, A8, _, c8, congrArg (Value.int .i64) (by omega), rfl, rfl, rfl, hs2, Ho8.out, hb8, by have := Hfin.out; unfold Hid; simpa using this, by omega, by omega, (fun h => by cases h), (fun _ => by simp)⟩
          case measure =>
            show 2 * (n1 - rm) + (if roomN (((at_ : Int) + 7 + (rm : Int)) % 64).toNat = 0 then 1 else 0) < 2 * n1 + (if roomN at_ = 0 then 1 else 0)
            rw [show (((at_ : Int) + 7 + (rm : Int)) % 64).toNat = 0 by omega]
            rw [if_neg (show ¬ roomN 0 = 0 by decide)]
            have h9 : roomN at_ = rm := by rw [room_ref at_ hat]; rw [if_neg hat57]; omega
            rw [h9]
            split <;> omega
        · obtain rfl : kd = 1 := hkb1 rfl
          clear hkb1 hkb2
          obtain ⟨hr1, hs1⟩ := cutH h1 .i64 rm rm rfl (by omega)
          obtain ⟨A7, hr2, hs2, _⟩ := cutL h1 .i64 rm rm rfl (by omega)
          have d1 : decide ((rm : Int) < (n1 : Int)) = true := by simp; omega
          have Ho := Lib.hid ho2
          clear ho2
          have hs1' := (hs1.below (by omega) hbr).below (by omega) ((Below.refl _ _).alloc (Nat.le_refl _) (.cells #[.int .u8 2] 5))
          have hlit : OwnB (wr.alloc (.cells #[.int .u8 2] 5)) w.heap.size (some ⟨wr.heap.size, 0, none⟩) 1 1 [2] := Own.lit wr _ _ 1 _ _ hbr.size rfl (by unfold maxLen; omega) rfl
          go_wp2_with (at_builtin; refine wpList_appB _ rfl (.tmp 45) (.tmp 48) rfl w.heap.size _ 1 1 [2] rfl hlit A1 rm c1 (rest.take rm) rfl hs1' ?_ ?_ ?_)
          · omega
          · have := hbr.size; rw [World.size_alloc]; omega
          intro A4 c4 w4 ho4 hg4 _
          have hb34 : Below wr.heap.size wr w4 := ((Below.refl _ _).alloc (Nat.le_refl _) _).grown hg4 (by rw [World.size_alloc]; omega) (fun b hb => by simp [blk] at hb; omega)
          have hs4 := OwnB.sl ho4
          clear hlit hg4 ho4 hs1'
          go_wp2_with fail
          refine (rsum_any w4 A4 _ c4 _ hs4 (by omega)).mono ?_
          rintro e w5 ⟨rfl, hb45⟩
          have hsl := sumL_lt ([2] ++ (rest.take rm))
          have hml := maskL_lt (sumL ([2] ++ (rest.take rm)))
          obtain ⟨s, hs⟩ : ∃ s, sumL ([2] ++ (rest.take rm)) = s := ⟨_, rfl⟩
          rw [hs] at hsl hml
          first | rw [hs] | (simp only [List.cons_append, List.nil_append] at hs ⊢; rw [hs])
          have hmk := fun w' => rmask_any w' s hsl
          obtain ⟨mk, hmke⟩ : ∃ mk, maskL s = mk := ⟨_, rfl⟩
          rw [hmke] at hml
          simp only [hmke] at hmk
          have Hmk := Lib.hid hmk
          have Hs := Lib.hid hs
          have Hmke := Lib.hid hmke
          have hb35 := hb34.trans (hb45.mono hb34.size)
          have Ho5 := Lib.hid (Own.below Ho.out hb35)
          have hbw5 := hbr.trans (hb35.mono hbr.size)
          clear hs4 hmk hs hmke hb45 hb34
          go_wp2_with fail
          refine (Hmk.out _).mono ?_
          rintro e w' ⟨rfl, rfl⟩
          go_wp2_with (at_builtin; refine wpList_appB _ rfl (.tmp 52) (.tmp 70) rfl w.heap.size A2 n2 c2 _ rfl (Own.below Ho5.out ((Below.refl _ _).alloc (Nat.le_refl _) _)) _ 7 7 (le4 mk ++ [UInt8.ofNat rm, UInt8.ofNat (rm / 256), 2]) rfl (Sl.lit _ _ _ 7 _ _ rfl (by unfold maxLen; omega) ?_) ?_ ?_ ?_)
          · simp [bc, le4] <;> omega
          · omega
          · have := hbw5.size; rw [World.size_alloc]; omega
          intro A6 c6 w6 ho6 hg6 _
          have hb56 : Below w.heap.size w w6 := (hbw5.alloc hbw5.size _).grown hg6 (by have := hbw5.size; rw [World.size_alloc]; omega) (fun b hb => (Own.lt Ho5.out b hb).1)
          have Ho6 := Lib.hid ho6
          have hs6 := hs1.below (by omega) hb56
          clear ho6 hg6
          go_wp2_with (at_builtin; refine wpList_appB _ rfl (.tmp 72) (.tmp 75) rfl w.heap.size A6 _ c6 _ rfl Ho6.out A1 rm c1 (rest.take rm) rfl hs6 ?_ ?_ ?_)
          · omega
          · exact hb56.size
          intro A8 c8 w8 ho8 hg8 _
          have hb8 : Below w.heap.size w w8 := hb56.grown hg8 hb56.size (fun b hb => (Own.lt Ho6.out b hb).1)
          have hpc : pieceL 2 (rest.take rm) = le4 mk ++ [UInt8.ofNat rm, UInt8.ofNat (rm / 256), 2] ++ (rest.take rm) := by
            unfold pieceL headL
            have h4 := Hs.out
            have h5 := Hmke.out
            have h6 := Hr1.out
            have h7 : (rest.take rm).length = rm := by simp; omega
            rw [h7, ← h5, ← h4]
            rfl
          have hfin : F = (done ++ pieceL 2 (rest.take rm)) ++ frameL 0 false (rest.drop rm) := by
            have h3 := Hd.out
            rw [rround_go at_ hat true rest (by have h4 := Hr1.out; rw [if_neg hat57]; omega)] at h3
            simp only [if_neg hat57] at h3
            rw [show 57 - at_ = rm by omega] at h3
            simpa [kindN] using h3
          rw [hpc] at hfin
          have Hfin := Lib.hid hfin
          have Ho8 := Lib.hid ho8
          clear ho8 hfin hpc hg8 hs6 hs1 hr1 d1
          go_wp2
          go_roundw
          case rel => exact ⟨false, rest.drop rm, _, 0, 2, A7, n1 - rm, c1 - rm, A8, _, c8, congrArg (Value.int .i64) (by omega), rfl, rfl, rfl, hs2, Ho8.out, hb8, by have := Hfin.out; unfold Hid; simpa using this, by omega, by omega, (fun h => by cases h), (fun _ => by simp)⟩
          case measure =>
            show 2 * (n1 - rm) + (if roomN (((at_ : Int) + 7 + (rm : Int)) % 64).toNat = 0 then 1 else 0) < 2 * n1 + (if roomN at_ = 0 then 1 else 0)
            rw [show (((at_ : Int) + 7 + (rm : Int)) % 64).toNat = 0 by omega]
            rw [if_neg (show ¬ roomN 0 = 0 by decide)]
            have h9 : roomN at_ = rm := by rw [room_ref at_ hat]; rw [if_neg hat57]; omega
            rw [h9]
            split <;> omega
set_option maxHeartbeats 1000000 in
theorem rframe_any (w : World) (a : Int) (A : Option Addr) (n c : Nat) (p : List UInt8) (h : Sl w 1 A n c (bc p)) :
    Calls Tryd.prog 30 #[.int .i64 a, .slice A n c] w (FrameB w (framed a p)) := by
  have hl := h.lenb
  by_cases h1 : a < 0
  · have e : framed a p = ([], 1) := by unfold framed; rw [if_pos h1]
    rw [e]
    clear e hl
    go_enter Tryd.func30, Tryd.ntmps30
    go_wp2
    go_ret2
    exact ⟨none, 0, 0, rfl, Own.nil _ _ _ _ _, Below.refl _ _⟩
  · obtain ⟨b, rfl⟩ := Int.eq_ofNat_of_zero_le (show 0 ≤ a by omega)
    by_cases h2 : 65536 < n
    · have e : framed (b : Int) p = ([], 3) := by unfold framed; rw [if_neg h1, if_pos (by omega)]
      rw [e]
      have hcc := h.cap
      have hcm := h.capm
      unfold maxLen at hcm
      clear e hl
      go_enter Tryd.func30, Tryd.ntmps30
      go_wp2
      go_ret2
      exact ⟨none, 0, 0, rfl, Own.nil _ _ _ _ _, Below.refl _ _⟩
    · rw [framed_ok (by omega)]
      exact rframe_pos w b A n c p h (by omega)
end Go.Proofs.YtpjinmiedanebaaDoor
