/-
  The walk of EntryTorn: it returns true at every input. (Printed by gentorn.py.) The table lies in its variable; else no condition.
-/
import Derived.Test.YtpjinmiedanebaaDoorJTornRel
namespace Go.Proofs.YtpjinmiedanebaaDoor
open Go.RowKit
set_option maxRecDepth 100000
set_option maxHeartbeats 32000000 in
theorem entryTorn.walk (w : World) (A : Option Addr) (n c : Nat) (ls : List NoteL) (h : SlR w (fun _ => True) A n c ls) (at_ : Nat) (hat : at_ < 65536) (by_ : Nat) (hby : by_ < 256) (hq : Quarter w) :
    Calls Tryd.prog 4 #[.slice A n c, .int .u16 (at_ : Int), .int .u8 (by_ : Int)] w fun e w' => e = .returned (.bool true) ∧ Below w.heap.size w w' := by
  go_enter Tryd.func4, Tryd.ntmps4
  go_wp2_with fail
  refine (awake07 w).mono ?_
  rintro e w0 ⟨rfl, hb0⟩
  have h0 := h.below hb0
  go_wp2_with fail
  refine (fewnotes_any w0 _ A n c ls 8 h0 (by omega)).mono ?_
  rintro e w1 ⟨A1, n1, c1, rfl, ho1, hb1⟩
  have hl8 : (fewNotes ls 8).length ≤ 8 := by unfold fewNotes; simp; omega
  generalize fewNotes ls 8 = ks at *
  have h1 := ho1.sl
  have hl1 := h1.lenR
  have hn1 : n1 ≤ 8 := by omega
  have hbw1 := hb0.trans (hb1.mono hb0.size)
  have hq1 := hq.below hbw1
  have Hl1 := Lib.hid hl1
  have hcp1 := h1.cap
  unfold maxLen at hcp1
  clear h h0 hb0 hb1 ho1 hl1 hl8
  go_wp2
  go_loopw [7, 8, 25] (TornRel w1 ks n1) (fun _ _ q _ => n1 - (intOf q).toNat)
  case atStart => exact ⟨0, none, 0, 0, [], none, 0, 0, rfl, rfl, rfl, Nat.zero_le _, Below.refl _ _, Own.nil _ _ _ _ _, OwnParts.nil _ _ _, OwnL.nil _ _ _ _ _⟩
  case round =>
    obtain ⟨j, Ar, nr, cr, vs2, Ag, ng, cg, rfl, rfl, rfl, hj, hbr, hoP, hpP, hoG⟩ := hrel
    by_cases hlt : j < n1
    case pos =>
      have hng : ng ≤ 8 := by
        have h2 := hoG.lenR
        have h3 := List.length_filter_le formL (ks.take j)
        rw [List.length_take] at h3
        omega
      have hnr : nr ≤ 8 := by
        have h2 := Own.sl hoP |>.len
        have h4 := hpP.1
        rw [List.length_map] at h4
        have h3 := List.length_filter_le formL (ks.take j)
        rw [List.length_take] at h3
        omega
      have hr : SlR wr (fun b => b < w1.heap.size) A1 n1 c1 ks := h1.move fun b hl _ => ⟨hbr.block b hl, hl⟩
      obtain ⟨b, o, A3, n3, c3, A4, n4, c4, hjl, rfl, d0, d1, d2, d3, s3, h3, s4⟩ := hr.noteAtP hlt
      clear hr
      have hst : ks.take (j + 1) = ks.take j ++ [ks[j]] := List.take_succ_eq_append_getElem hjl
      generalize hx : ks[j] = x at *
      clear hx
      have hneP : blk Ar cr ≠ some wr.heap.size := fun q => by have := (Own.lt hoP _ q).2; omega
      have hneG : blk Ag cg ≠ some wr.heap.size := fun q => by have := (hoG.lt _ q).2; omega
      have al := (Below.refl wr.heap.size wr).alloc (Nat.le_refl _) (.cells #[.int .u8 (x.kind.toNat : Int), .int .u64 (x.seq.toNat : Int), .slice A3 n3 c3, .slice A4 n4 c4] 41)
      have hcn := rnbytes_any (wr.alloc (.cells #[.int .u8 (x.kind.toNat : Int), .int .u64 (x.seq.toNat : Int), .slice A3 n3 c3, .slice A4 n4 c4] 41)) _ A3 n3 c3 A4 n4 c4 x (s3.below (by omega) al) (s4.below al)
      generalize hd : x.kind.toNat = d at *
      generalize hs : x.seq.toNat = s at *
      have kB := Bx4.fresh wr (.int .u8 (d : Int)) (.int .u64 (s : Int)) (.slice A3 n3 c3) (.slice A4 n4 c4) 41
      have s3 := s3.below (by omega) al
      have s4 := s4.below al
      have hoP := Own.below hoP al
      have hpP := hpP.below al
      have hoG := hoG.below al
      have hbr6 := hbr.trans (al.mono hbr.size)
      generalize hW : (wr.alloc (.cells #[.int .u8 (d : Int), .int .u64 (s : Int), .slice A3 n3 c3, .slice A4 n4 c4] 41)) = w6 at *
      have Hd := Lib.hid hd
      have Hs := Lib.hid hs
      clear al hd hs
      obtain ⟨x0, x1, x2, x3, x4⟩ := id kB
      by_cases hf : formL x = true
      case neg =>
        rw [show noteBE x = ([], 4) by unfold noteBE; rw [if_neg hf]] at hcn
        unfold GotBE at hcn
        have Hcn := Lib.hid hcn
        have hfe : (ks.take (j + 1)).filter formL = (ks.take j).filter formL := by rw [hst, List.filter_append, List.filter_cons_of_neg (by simpa using hf)]; simp
        have HF := Lib.hid hfe
        clear hcn hf hfe hst
        go_wp2_with fail
        try rw [hW]
        refine Hcn.out.mono ?_
        rintro e w7 ⟨A5, n5, c5, rfl, ho5, hb7⟩
        have hoP := Own.below hoP hb7
        have hpP := hpP.below hb7
        have hoG := hoG.below hb7
        have hb9 := hbr6.trans (hb7.mono hbr6.size)
        clear x0 x1 x2 x3 x4 d0 d1 d2 d3 kB ho5 hb7
        go_wp2
        go_roundw
        case rel => exact ⟨j + 1, Ar, nr, cr, vs2, Ag, ng, cg, by go_num, rfl, rfl, by omega, hb9, hoP, by rw [HF.out]; exact hpP, by rw [HF.out]; exact hoG⟩
        case measure => simp [intOf]; omega
      rw [show noteBE x = (noteBytesL x, 0) by unfold noteBE; rw [if_pos hf]] at hcn
      unfold GotBE at hcn
      have Hcn := Lib.hid hcn
      have hfe : (ks.take (j + 1)).filter formL = (ks.take j).filter formL ++ [x] := by rw [hst, List.filter_append, List.filter_cons_of_pos (by simpa using hf)]; simp
      have HF := Lib.hid hfe
      clear hcn hf hfe hst
      go_wp2_with fail
      try rw [hW]
      refine Hcn.out.mono ?_
      rintro e w7 ⟨A5, n5, c5, rfl, ho5, hb7⟩
      have hb7 := hb7.drew
      have ho5 := Own.below ho5 (Below.refl w7.heap.size w7).drew
      have hoP := Own.below hoP hb7
      have hpP := hpP.below hb7
      have hoG := hoG.below hb7
      have s3 := s3.below (by omega) hb7
      have s4 := s4.below hb7
      have hX : RP w1 wr.heap.size (.int .u8 (d : Int)) (.int .u64 (s : Int)) (.slice A3 n3 c3) (.slice A4 n4 c4) w7.drew := ⟨hbr6.trans (hb7.mono hbr6.size), kB.below hb7⟩
      have hB5 := hbr6.size
      clear x0 x1 x2 x3 x4 d0 d1 d2 d3 kB hb7 Hcn
      go_wp2_with fail
      generalize hW8 : w7.drew = w8 at *
      refine regionF (fun _ wa wb => RP w1 wr.heap.size (.int .u8 (d : Int)) (.int .u64 (s : Int)) (.slice A3 n3 c3) (.slice A4 n4 c4) wa → RP w1 wr.heap.size (.int .u8 (d : Int)) (.int .u64 (s : Int)) (.slice A3 n3 c3) (.slice A4 n4 c4) wb) (by kernel_rfl) ?_
      rw [hW8]
      clear hW8
      refine takeF (i := 0) (v := ?_) (fun wa => RP w1 wr.heap.size (.int .u8 (d : Int)) (.int .u64 (s : Int)) (.slice A3 n3 c3) (.slice A4 n4 c4) wa) rfl (by kernel_rfl) (by kernel_rfl) (by kernel_rfl) (fun j hj => .inr (.inr fun wa wb h g => g h)) (fun wa => id) (fun _ _ _ h => h) (Or.inl ⟨by kernel_rfl, ?hy⟩) hX ?_
      case hy =>
        intro wS hSw
        clear hSw
        go_simp
        try with_reducible rfl
      try simp only [List.getElem_toArray, List.getElem_cons_succ, List.getElem_cons_zero, Act.put, List.setIfInBounds_toArray, List.set_cons_zero, List.set_cons_succ]
      refine takeF (i := 1) (v := ?_) (fun wa => RP w1 wr.heap.size (.int .u8 (d : Int)) (.int .u64 (s : Int)) (.slice A3 n3 c3) (.slice A4 n4 c4) wa) rfl (by kernel_rfl) (by kernel_rfl) (by kernel_rfl) (fun j hj => .inr (.inr fun wa wb h g => g h)) (fun wa => id) (fun _ _ _ h => h) (Or.inl ⟨by kernel_rfl, ?hy⟩) hX ?_
      case hy =>
        intro wS hSw
        clear hSw
        go_simp
        try with_reducible rfl
      try simp only [List.getElem_toArray, List.getElem_cons_succ, List.getElem_cons_zero, Act.put, List.setIfInBounds_toArray, List.set_cons_zero, List.set_cons_succ]
      refine takeF (i := 4) (v := ?_) (fun wa => RP w1 wr.heap.size (.int .u8 (d : Int)) (.int .u64 (s : Int)) (.slice A3 n3 c3) (.slice A4 n4 c4) wa) rfl (by kernel_rfl) (by kernel_rfl) (by kernel_rfl) (fun j hj => .inr (.inr fun wa wb h g => g h)) (fun wa => id) (fun _ _ _ h => h) (Or.inl ⟨by kernel_rfl, ?hy⟩) hX ?_
      case hy =>
        intro wS hSw
        clear hSw
        go_simp
        try with_reducible rfl
      try simp only [List.getElem_toArray, List.getElem_cons_succ, List.getElem_cons_zero, Act.put, List.setIfInBounds_toArray, List.set_cons_zero, List.set_cons_succ]
      refine takeF (i := 5) (v := ?_) (fun wa => RP w1 wr.heap.size (.int .u8 (d : Int)) (.int .u64 (s : Int)) (.slice A3 n3 c3) (.slice A4 n4 c4) wa) rfl (by kernel_rfl) (by kernel_rfl) (by kernel_rfl) (fun j hj => .inr (.inr fun wa wb h g => g h)) (fun wa => id) (fun _ _ _ h => h) (Or.inl ⟨by kernel_rfl, ?hy⟩) hX ?_
      case hy =>
        intro wS hSw
        obtain ⟨x0, x1, x2, x3, x4⟩ := hSw.2
        clear hSw
        go_simp
        try with_reducible rfl
      try simp only [List.getElem_toArray, List.getElem_cons_succ, List.getElem_cons_zero, Act.put, List.setIfInBounds_toArray, List.set_cons_zero, List.set_cons_succ]
      refine readyF (rs := [2, 6]) (by kernel_rfl) (by simp) ?_
      refine AllF.cons rfl (fun K hK => ?_) ?_
      · go_simp
        refine hK _ _ (fun h => h.below ((Below.refl w8.heap.size w8).alloc (Nat.le_refl _) (.cells #[.slice A5 n5 c5] 22))) ?_
        clear hK K
        have hb := (Below.refl w8.heap.size w8).alloc (Nat.le_refl _) (.cells #[.slice A5 n5 c5] 22)
        have hl : Sl (w8.alloc (.cells #[.slice A5 n5 c5] 22)) 1 (some ⟨w8.heap.size, 0, none⟩) 1 1 [.slice A5 n5 c5] := Sl.lit w8 _ _ 1 _ _ rfl (by unfold maxLen; omega) rfl
        generalize (w8.alloc (.cells #[.slice A5 n5 c5] 22)) = w8_2 at *
        have hX := hX.below hb
        have hoP := Own.below hoP hb
        have hpP := hpP.below hb
        have hoG := hoG.below hb
        have ho5 := Own.below ho5 hb
        have s3 := s3.below (by omega) hb
        have s4 := s4.below hb
        clear hb
        refine readyF (rs := [3, 6]) (by kernel_rfl) (by simp) ?_
        refine AllF.cons rfl (fun K hK => ?_) ?_
        · refine step_appP (by rfl) (.tmp 36) (.tmp 38) (by rfl) w1.heap.size Ar nr cr vs2 (by rfl) hoP _ 1 1 _ (by rfl) hl (one_cell _ _ _) (by omega) hX.1.size ?_
          intro A9 c9 w8_2_3 ho9 hg _
          refine hK _ _ (fun h => h.grown hg (fun b hb => (Own.lt hoP b hb).1) hneP) ?_
          clear hK K
          have hX := hX.grown hg (fun b hb => (Own.lt hoP b hb).1) hneP
          have hp9 := (hpP.wroteRow hoP (by decide) hg).snoc (Own.mono (Own.grown ho5 hg (own_apart ho5 hoP (by decide))) hB5) (fun b hb => by simp)
          have hoG := hoG.wrote hoP (by decide) (Nat.le_refl _) hg
          have s3 := s3.grown (by omega) hg (fun hn b hb q => by have := h3 b hn hb; have := (Own.lt hoP b q).1; omega)
          have s4 := s4.move (q := fun b => b < w1.heap.size) (fun b hl hp => ⟨hg.block b hl fun q => by have := (Own.lt hoP b q.symm).1; omega, hp⟩)
          clear hg hpP ho5 hl hoP
          refine readyF (rs := [6]) (by kernel_rfl) (by simp) ?_
          refine AllF.cons rfl (fun K hK => ?_) AllF.nil
          go_simp
          refine hK _ _ (fun h => h.below ((Below.refl w8_2_3.heap.size w8_2_3).alloc (Nat.le_refl _) (.cells #[.int .u8 (d : Int), .int .u64 (s : Int), .slice A3 n3 c3, .slice A4 n4 c4] 41))) ?_
          clear hK K
          have hb := (Below.refl w8_2_3.heap.size w8_2_3).alloc (Nat.le_refl _) (.cells #[.int .u8 (d : Int), .int .u64 (s : Int), .slice A3 n3 c3, .slice A4 n4 c4] 41)
          have hrow := noteRowL w8_2_3 x d s Hd.out Hs.out _ A3 n3 c3 A4 n4 c4 s3 h3 s4 41
          generalize (w8_2_3.alloc (.cells #[.int .u8 (d : Int), .int .u64 (s : Int), .slice A3 n3 c3, .slice A4 n4 c4] 41)) = w8_2_3_6 at *
          have hX := hX.below hb
          have hoG := hoG.below hb
          have s3 := s3.below (by omega) hb
          have s4 := s4.below hb
          have ho9 := Own.below ho9 hb
          have hp9 := hp9.below hb
          clear hb
          refine readyF (rs := [7]) (by kernel_rfl) (by simp) ?_
          refine AllF.cons rfl (fun K hK => ?_) AllF.nil
          refine step_appL (α := NoteL) (by rfl) (.tmp 40) (.tmp 42) 29 (by rfl) w1.heap.size w1.heap.size 41 _ 64 Tryd.underlying29 infoNote rfl Ag ng cg _ (by rfl) hoG _ 1 1 [x] (by rfl) hrow.row (by unfold maxLen; omega) (by omega) hX.1.size (Nat.le_refl _) ?_
          intro A8 c8 w8_2_3_6_7 ho8 hg _
          refine hK _ _ (fun h => h.grown hg (fun b hb => (hoG.lt b hb).1) hneG) ?_
          clear hK K
          obtain ⟨xg, hog, -⟩ := id hoG
          have hX := hX.grown hg (fun b hb => (hoG.lt b hb).1) hneG
          have ho9 := Own.grown ho9 hg (own_apart ho9 hog (by decide))
          have hp9 := hp9.wroteRow hog (by decide) hg
          clear hg hog hoG hrow
          refine takeF (i := 8) (v := ?_) (fun wa => RP w1 wr.heap.size (.int .u8 (d : Int)) (.int .u64 (s : Int)) (.slice A3 n3 c3) (.slice A4 n4 c4) wa) rfl (by kernel_rfl) (by kernel_rfl) (by kernel_rfl) (fun j hj => .inr (.inr fun wa wb h g => g h)) (fun wa => id) (fun _ _ _ h => h) (Or.inl ⟨by kernel_rfl, ?hy⟩) hX ?_
          case hy =>
            intro wS hSw
            clear hSw
            go_simp
            try with_reducible rfl
          try simp only [List.getElem_toArray, List.getElem_cons_succ, List.getElem_cons_zero, Act.put, List.setIfInBounds_toArray, List.set_cons_zero, List.set_cons_succ]
          refine takeF (i := 9) (v := ?_) (fun wa => RP w1 wr.heap.size (.int .u8 (d : Int)) (.int .u64 (s : Int)) (.slice A3 n3 c3) (.slice A4 n4 c4) wa) rfl (by kernel_rfl) (by kernel_rfl) (by kernel_rfl) (fun j hj => .inr (.inr fun wa wb h g => g h)) (fun wa => id) (fun _ _ _ h => h) (Or.inl ⟨by kernel_rfl, ?hy⟩) hX ?_
          case hy =>
            intro wS hSw
            clear hSw
            go_simp
            try with_reducible rfl
          try simp only [List.getElem_toArray, List.getElem_cons_succ, List.getElem_cons_zero, Act.put, List.setIfInBounds_toArray, List.set_cons_zero, List.set_cons_succ]
          refine doneF (by kernel_rfl) ?_ _
          try simp only [List.getElem_toArray, List.getElem_cons_succ, List.getElem_cons_zero, Act.put, List.setIfInBounds_toArray, List.set_cons_zero, List.set_cons_succ]
          go_wp2
          go_roundw
          case rel => exact ⟨j + 1, A9, _, c9, _, A8, _, c8, by go_num, rfl, rfl, by omega, hX.1, ho9, by rw [HF.out, List.map_append]; exact hp9, by rw [HF.out]; exact ho8⟩
          case measure => simp [intOf]; omega
        refine AllF.cons rfl (fun K hK => ?_) AllF.nil
        go_simp
        refine hK _ _ (fun h => h.below ((Below.refl w8_2.heap.size w8_2).alloc (Nat.le_refl _) (.cells #[.int .u8 (d : Int), .int .u64 (s : Int), .slice A3 n3 c3, .slice A4 n4 c4] 41))) ?_
        clear hK K
        have hb := (Below.refl w8_2.heap.size w8_2).alloc (Nat.le_refl _) (.cells #[.int .u8 (d : Int), .int .u64 (s : Int), .slice A3 n3 c3, .slice A4 n4 c4] 41)
        have hrow := noteRowL w8_2 x d s Hd.out Hs.out _ A3 n3 c3 A4 n4 c4 s3 h3 s4 41
        generalize (w8_2.alloc (.cells #[.int .u8 (d : Int), .int .u64 (s : Int), .slice A3 n3 c3, .slice A4 n4 c4] 41)) = w8_2_6 at *
        have hX := hX.below hb
        have hoP := Own.below hoP hb
        have hpP := hpP.below hb
        have hoG := hoG.below hb
        have ho5 := Own.below ho5 hb
        have s3 := s3.below (by omega) hb
        have s4 := s4.below hb
        have hl := hl.below (by omega) hb
        clear hb
        refine readyF (rs := [3]) (by kernel_rfl) (by simp) ?_
        refine AllF.cons rfl (fun K hK => ?_) AllF.nil
        refine step_appP (by rfl) (.tmp 36) (.tmp 38) (by rfl) w1.heap.size Ar nr cr vs2 (by rfl) hoP _ 1 1 _ (by rfl) hl (one_cell _ _ _) (by omega) hX.1.size ?_
        intro A9 c9 w8_2_6_3 ho9 hg _
        refine hK _ _ (fun h => h.grown hg (fun b hb => (Own.lt hoP b hb).1) hneP) ?_
        clear hK K
        have hX := hX.grown hg (fun b hb => (Own.lt hoP b hb).1) hneP
        have hp9 := (hpP.wroteRow hoP (by decide) hg).snoc (Own.mono (Own.grown ho5 hg (own_apart ho5 hoP (by decide))) hB5) (fun b hb => by simp)
        have hoG := hoG.wrote hoP (by decide) (Nat.le_refl _) hg
        have hrow := hrow.wrote hoP (by decide) (Nat.le_refl _) hg
        clear hg hpP ho5 hl hoP
        refine readyF (rs := [7]) (by kernel_rfl) (by simp) ?_
        refine AllF.cons rfl (fun K hK => ?_) AllF.nil
        refine step_appL (α := NoteL) (by rfl) (.tmp 40) (.tmp 42) 29 (by rfl) w1.heap.size w1.heap.size 41 _ 64 Tryd.underlying29 infoNote rfl Ag ng cg _ (by rfl) hoG _ 1 1 [x] (by rfl) hrow.row (by unfold maxLen; omega) (by omega) hX.1.size (Nat.le_refl _) ?_
        intro A8 c8 w8_2_6_3_7 ho8 hg _
        refine hK _ _ (fun h => h.grown hg (fun b hb => (hoG.lt b hb).1) hneG) ?_
        clear hK K
        obtain ⟨xg, hog, -⟩ := id hoG
        have hX := hX.grown hg (fun b hb => (hoG.lt b hb).1) hneG
        have ho9 := Own.grown ho9 hg (own_apart ho9 hog (by decide))
        have hp9 := hp9.wroteRow hog (by decide) hg
        clear hg hog hoG hrow
        refine takeF (i := 8) (v := ?_) (fun wa => RP w1 wr.heap.size (.int .u8 (d : Int)) (.int .u64 (s : Int)) (.slice A3 n3 c3) (.slice A4 n4 c4) wa) rfl (by kernel_rfl) (by kernel_rfl) (by kernel_rfl) (fun j hj => .inr (.inr fun wa wb h g => g h)) (fun wa => id) (fun _ _ _ h => h) (Or.inl ⟨by kernel_rfl, ?hy⟩) hX ?_
        case hy =>
          intro wS hSw
          clear hSw
          go_simp
          try with_reducible rfl
        try simp only [List.getElem_toArray, List.getElem_cons_succ, List.getElem_cons_zero, Act.put, List.setIfInBounds_toArray, List.set_cons_zero, List.set_cons_succ]
        refine takeF (i := 9) (v := ?_) (fun wa => RP w1 wr.heap.size (.int .u8 (d : Int)) (.int .u64 (s : Int)) (.slice A3 n3 c3) (.slice A4 n4 c4) wa) rfl (by kernel_rfl) (by kernel_rfl) (by kernel_rfl) (fun j hj => .inr (.inr fun wa wb h g => g h)) (fun wa => id) (fun _ _ _ h => h) (Or.inl ⟨by kernel_rfl, ?hy⟩) hX ?_
        case hy =>
          intro wS hSw
          clear hSw
          go_simp
          try with_reducible rfl
        try simp only [List.getElem_toArray, List.getElem_cons_succ, List.getElem_cons_zero, Act.put, List.setIfInBounds_toArray, List.set_cons_zero, List.set_cons_succ]
        refine doneF (by kernel_rfl) ?_ _
        try simp only [List.getElem_toArray, List.getElem_cons_succ, List.getElem_cons_zero, Act.put, List.setIfInBounds_toArray, List.set_cons_zero, List.set_cons_succ]
        go_wp2
        go_roundw
        case rel => exact ⟨j + 1, A9, _, c9, _, A8, _, c8, by go_num, rfl, rfl, by omega, hX.1, ho9, by rw [HF.out, List.map_append]; exact hp9, by rw [HF.out]; exact ho8⟩
        case measure => simp [intOf]; omega
      refine AllF.cons rfl (fun K hK => ?_) AllF.nil
      go_simp
      refine hK _ _ (fun h => h.below ((Below.refl w8.heap.size w8).alloc (Nat.le_refl _) (.cells #[.int .u8 (d : Int), .int .u64 (s : Int), .slice A3 n3 c3, .slice A4 n4 c4] 41))) ?_
      clear hK K
      have hb := (Below.refl w8.heap.size w8).alloc (Nat.le_refl _) (.cells #[.int .u8 (d : Int), .int .u64 (s : Int), .slice A3 n3 c3, .slice A4 n4 c4] 41)
      have hrow := noteRowL w8 x d s Hd.out Hs.out _ A3 n3 c3 A4 n4 c4 s3 h3 s4 41
      generalize (w8.alloc (.cells #[.int .u8 (d : Int), .int .u64 (s : Int), .slice A3 n3 c3, .slice A4 n4 c4] 41)) = w8_6 at *
      have hX := hX.below hb
      have hoP := Own.below hoP hb
      have hpP := hpP.below hb
      have hoG := hoG.below hb
      have ho5 := Own.below ho5 hb
      have s3 := s3.below (by omega) hb
      have s4 := s4.below hb
      clear hb
      refine readyF (rs := [2]) (by kernel_rfl) (by simp) ?_
      refine AllF.cons rfl (fun K hK => ?_) AllF.nil
      go_simp
      refine hK _ _ (fun h => h.below ((Below.refl w8_6.heap.size w8_6).alloc (Nat.le_refl _) (.cells #[.slice A5 n5 c5] 22))) ?_
      clear hK K
      have hb := (Below.refl w8_6.heap.size w8_6).alloc (Nat.le_refl _) (.cells #[.slice A5 n5 c5] 22)
      have hl : Sl (w8_6.alloc (.cells #[.slice A5 n5 c5] 22)) 1 (some ⟨w8_6.heap.size, 0, none⟩) 1 1 [.slice A5 n5 c5] := Sl.lit w8_6 _ _ 1 _ _ rfl (by unfold maxLen; omega) rfl
      generalize (w8_6.alloc (.cells #[.slice A5 n5 c5] 22)) = w8_6_2 at *
      have hX := hX.below hb
      have hoP := Own.below hoP hb
      have hpP := hpP.below hb
      have hoG := hoG.below hb
      have ho5 := Own.below ho5 hb
      have hrow := hrow.below hb
      clear hb
      refine readyF (rs := [3]) (by kernel_rfl) (by simp) ?_
      refine AllF.cons rfl (fun K hK => ?_) AllF.nil
      refine step_appP (by rfl) (.tmp 36) (.tmp 38) (by rfl) w1.heap.size Ar nr cr vs2 (by rfl) hoP _ 1 1 _ (by rfl) hl (one_cell _ _ _) (by omega) hX.1.size ?_
      intro A9 c9 w8_6_2_3 ho9 hg _
      refine hK _ _ (fun h => h.grown hg (fun b hb => (Own.lt hoP b hb).1) hneP) ?_
      clear hK K
      have hX := hX.grown hg (fun b hb => (Own.lt hoP b hb).1) hneP
      have hp9 := (hpP.wroteRow hoP (by decide) hg).snoc (Own.mono (Own.grown ho5 hg (own_apart ho5 hoP (by decide))) hB5) (fun b hb => by simp)
      have hoG := hoG.wrote hoP (by decide) (Nat.le_refl _) hg
      have hrow := hrow.wrote hoP (by decide) (Nat.le_refl _) hg
      clear hg hpP ho5 hl hoP
      refine readyF (rs := [7]) (by kernel_rfl) (by simp) ?_
      refine AllF.cons rfl (fun K hK => ?_) AllF.nil
      refine step_appL (α := NoteL) (by rfl) (.tmp 40) (.tmp 42) 29 (by rfl) w1.heap.size w1.heap.size 41 _ 64 Tryd.underlying29 infoNote rfl Ag ng cg _ (by rfl) hoG _ 1 1 [x] (by rfl) hrow.row (by unfold maxLen; omega) (by omega) hX.1.size (Nat.le_refl _) ?_
      intro A8 c8 w8_6_2_3_7 ho8 hg _
      refine hK _ _ (fun h => h.grown hg (fun b hb => (hoG.lt b hb).1) hneG) ?_
      clear hK K
      obtain ⟨xg, hog, -⟩ := id hoG
      have hX := hX.grown hg (fun b hb => (hoG.lt b hb).1) hneG
      have ho9 := Own.grown ho9 hg (own_apart ho9 hog (by decide))
      have hp9 := hp9.wroteRow hog (by decide) hg
      clear hg hog hoG hrow
      refine takeF (i := 8) (v := ?_) (fun wa => RP w1 wr.heap.size (.int .u8 (d : Int)) (.int .u64 (s : Int)) (.slice A3 n3 c3) (.slice A4 n4 c4) wa) rfl (by kernel_rfl) (by kernel_rfl) (by kernel_rfl) (fun j hj => .inr (.inr fun wa wb h g => g h)) (fun wa => id) (fun _ _ _ h => h) (Or.inl ⟨by kernel_rfl, ?hy⟩) hX ?_
      case hy =>
        intro wS hSw
        clear hSw
        go_simp
        try with_reducible rfl
      try simp only [List.getElem_toArray, List.getElem_cons_succ, List.getElem_cons_zero, Act.put, List.setIfInBounds_toArray, List.set_cons_zero, List.set_cons_succ]
      refine takeF (i := 9) (v := ?_) (fun wa => RP w1 wr.heap.size (.int .u8 (d : Int)) (.int .u64 (s : Int)) (.slice A3 n3 c3) (.slice A4 n4 c4) wa) rfl (by kernel_rfl) (by kernel_rfl) (by kernel_rfl) (fun j hj => .inr (.inr fun wa wb h g => g h)) (fun wa => id) (fun _ _ _ h => h) (Or.inl ⟨by kernel_rfl, ?hy⟩) hX ?_
      case hy =>
        intro wS hSw
        clear hSw
        go_simp
        try with_reducible rfl
      try simp only [List.getElem_toArray, List.getElem_cons_succ, List.getElem_cons_zero, Act.put, List.setIfInBounds_toArray, List.set_cons_zero, List.set_cons_succ]
      refine doneF (by kernel_rfl) ?_ _
      try simp only [List.getElem_toArray, List.getElem_cons_succ, List.getElem_cons_zero, Act.put, List.setIfInBounds_toArray, List.set_cons_zero, List.set_cons_succ]
      go_wp2
      go_roundw
      case rel => exact ⟨j + 1, A9, _, c9, _, A8, _, c8, by go_num, rfl, rfl, by omega, hX.1, ho9, by rw [HF.out, List.map_append]; exact hp9, by rw [HF.out]; exact ho8⟩
      case measure => simp [intOf]; omega
    obtain rfl : n1 = j := by omega
    obtain ⟨wo, rfl⟩ : ∃ wo : World, wo = wr := ⟨_, rfl⟩
    rw [List.take_of_length_le (show ks.length ≤ n1 by have := Hl1.out; omega)] at hpP hoG
    obtain ⟨g, hg⟩ : ∃ g, ks.filter formL = g := ⟨_, rfl⟩
    have hform : ∀ x ∈ g, formL x = true := fun x hx => by rw [← hg] at hx; exact (List.mem_filter.1 hx).2
    have hgl : g.length ≤ 8 := by have h3 := List.length_filter_le formL ks; have := Hl1.out; rw [hg] at h3; omega
    rw [hg] at hpP hoG
    clear hg
    obtain ⟨rl, hrl⟩ : ∃ rl, g.map noteBytesL = rl := ⟨_, rfl⟩
    rw [hrl] at hpP
    have hlong : ∀ l ∈ rl, l.length ≤ 45000 := fun l hl => by
      rw [← hrl] at hl
      obtain ⟨x, hx, rfl⟩ := List.mem_map.1 hl
      exact noteBytes_le x (hform x hx)
    have hlen : rl.length = g.length := by rw [← hrl]; simp
    have hall : ∀ k, (allL (rl.take k)).length ≤ 720160 := fun k => by
      have h2 := allL_len2 45000 rl hlong (min k 8)
      have h3 : rl.take k = rl.take (min k 8) := by
        rcases Nat.le_total k 8 with q | q
        · rw [Nat.min_eq_left q]
        · rw [Nat.min_eq_right q, List.take_of_length_le (by omega), List.take_of_length_le (by omega)]
      rw [h3]
      have : (2 * 45000 + 20) * min k 8 ≤ (2 * 45000 + 20) * 8 := Nat.mul_le_mul_left _ (Nat.min_le_right _ _)
      omega
    have hback : ∀ k, replayL (rl.take k) = g.take k := fun k => by
      rw [← hrl, ← List.map_take]
      exact replay_back _ fun x hx => hform x (List.mem_of_mem_take hx)
    have hsP := Own.sl hoP
    have hps := hpP.parts
    have hsG := hoG.sl
    have hcapG := hsG.cap
    unfold maxLen at hcapG
    have hnr : nr = rl.length := by have h2 := hsP.len; have h3 := hps.1; omega
    have hng : ng = g.length := by have := hsG.lenR; omega
    have hnr8 : nr ≤ 8 := by omega
    have hgr : ng = nr := by omega
    have hcapP := hsP.cap
    have hcmP := hsP.capm
    unfold maxLen at hcmP
    have Hlong := Lib.hid hlong
    have Hall := Lib.hid hall
    have Hback := Lib.hid hback
    have Hnr := Lib.hid hnr
    have Hng := Lib.hid hng
    have Hgr := Lib.hid hgr
    have hqr := hq1.below hbr
    have hbwr := hbw1.trans (hbr.mono hbw1.size)
    clear hlong hall hback hnr hng hgr hrl hform hlen hgl hoP hpP hoG Hl1 h1
    go_wp2_with fail
    refine (rall_gen wo Ar nr cr vs2 rl hsP hps (fun l hl => by have := Hlong.out l hl; omega) (fun k => by have := Hall.out k; omega) (by omega)).mono ?_
    rintro e w2 ⟨A2, n2, c2, rfl, ho2, hb2⟩
    have hs2 := OwnB.sl ho2
    have hn2 : (allL rl).length = n2 := hs2.lenb
    have hn2l : n2 ≤ 720160 := by have h1 := Hall.out nr; rw [List.take_of_length_le (by have := Hnr.out; omega)] at h1; omega
    have Hn2 := Lib.hid hn2
    have hcap2 := hs2.cap
    have hcm2 := hs2.capm
    unfold maxLen at hcm2
    have Ho2 := Lib.hid ho2
    clear hn2 ho2
    obtain ⟨k, hk, hkl⟩ : ∃ k, at_ % (n2 + 1) = k ∧ k ≤ n2 := ⟨_, rfl, by have := Nat.mod_lt at_ (show 0 < n2 + 1 by omega); omega⟩
    have ecut : (at_ : Int) % ((n2 : Int) + 1) = (k : Int) := by rw [← hk]; simp
    have dn0 : ((n2 : Int) + 1 == 0) = false := by simp; omega
    obtain ⟨r1, s1⟩ := cutH hs2 .i64 (k : Int) k rfl hkl
    clear hk
    go_upto_if 57 with fail
    try rw [ecut]
    clear ecut dn0
    obtain ⟨Q, hQ⟩ : ∃ Q, Q = if h : 0 < k then ((allL rl).set (k - 1) (UInt8.ofNat (((allL rl)[k - 1]'(by have := Hn2.out; omega)).toNat ^^^ by_))).take k else [] := ⟨_, rfl⟩
    have HQ := Lib.hid hQ
    clear hQ
    go_cut [13] from 53 to 65 (StoreRel wo A2 k c2 Q)
    case first =>
      by_cases hk0 : 0 < k
      case neg =>
        obtain rfl : k = 0 := by omega
        have hQ := HQ.out
        rw [dif_neg (by omega)] at hQ
        subst hQ
        rw [List.take_zero] at s1
        clear HQ
        go_wp2
        go_meet
        exact ⟨rfl, s1, hb2⟩
      obtain ⟨m, hm⟩ : ∃ m, k - 1 = m := ⟨_, rfl⟩
      have hmk : m < k := by omega
      have hmn : m < n2 := by omega
      have em : (k : Int) - 1 = (m : Int) := by omega
      have p0 : (0 : Int) < (k : Int) := by omega
      have d0 : decide ((0 : Int) < (k : Int)) = true := decide_eq_true p0
      obtain ⟨g2, o2, x, hA2, hg2, hgl2, hx, hcell, hfr⟩ := OwnB.place Ho2.out hmn
      subst hA2
      have hxl := x.toNat_lt
      have hxor := u8_xor_nat x.toNat by_ (by omega) (by omega)
      have hv : x.toNat ^^^ by_ < 256 := Nat.xor_lt_two_pow (n := 8) (by omega) (by omega)
      have hst := OwnB.stored Ho2.out hmn (UInt8.ofNat (x.toNat ^^^ by_))
      rw [UInt8.toNat_ofNat_of_lt' (by simpa using hv)] at hst
      have sQ := (cutH (OwnB.sl hst) .i64 (k : Int) k rfl hkl).2
      have hQ := HQ.out
      rw [dif_pos hk0] at hQ
      have hxe : ∀ q, (allL rl)[k - 1]'q = x := fun q => by
        subst hm
        rw [List.getElem?_eq_getElem q] at hx
        exact Option.some.inj hx
      rw [hxe, hm] at hQ
      rw [← hQ] at sQ
      have SQ := Lib.hid sQ
      have hb3 : Below wo.heap.size wo (w2.setCell ⟨g2, o2 + m, none⟩ (.int .u8 ((x.toNat ^^^ by_ : Nat) : Int))) := hb2.setCell hg2 _
      generalize hxe2 : x.toNat = xn at *
      clear hst hQ hxe hx hxe2 sQ HQ hm
      go_wp2_with fail
      go_meet
      exact ⟨rfl, SQ.out, hb3⟩
    case rest =>
      obtain ⟨rfl, sQ, hb3⟩ := hcut
      generalize wc = w3 at *
      clear hb2 hs2 s1 r1 Ho2
      obtain ⟨K, hK⟩ : ∃ K, (if by_ = 0 then k else k - 1) = K := ⟨_, rfl⟩
      have HK := Lib.hid hK
      clear hK
      go_wp2
      go_loopw [15, 68] (WholeRel w3 rl K nr) (fun _ q _ => nr - (intOf q).toNat)
      case atStart => exact ⟨0, 0, rfl, rfl, Nat.zero_le _, Nat.le_refl _, Below.refl _ _, ⟨by simp [allL], fun i h1 h2 => absurd h2 (by omega)⟩⟩
      case round =>
        obtain ⟨j, kk, rfl, rfl, hj2, hkk, hbl, HC⟩ := hrel
        have hb3l := hb3.trans (hbl.mono hb3.size)
        by_cases hlt2 : j < nr
        case pos =>
          obtain ⟨rP, sP⟩ := cutHP hsP .i64 ((j : Int) + 1) (j + 1) (by omega) (by omega)
          have pP := hps.take (j + 1)
          go_wp2_with fail
          refine (rall_gen wr Ar (j + 1) cr _ _ (sP.below (by omega) hb3l) (pP.below hb3l) (fun l hl => by have := Hlong.out l (List.mem_of_mem_take hl); omega) (fun k => by rw [List.take_take]; have := Hall.out (min k (j + 1)); omega) (by omega)).mono ?_
          rintro e w5 ⟨A5, n5, c5, rfl, ho5, hb5⟩
          have hn5 : (allL (rl.take (j + 1))).length = n5 := OwnB.len' ho5
          have hn7 : 7 ≤ n5 := by
            rw [← hn5, allL_step rl j (by have := Hnr.out; omega), List.length_append]
            have := frameL_pos (allL (rl.take j)).length true (rl[j]'(by have := Hnr.out; omega))
            omega
          have Hn5 := Lib.hid hn5
          have hb6 := hbl.trans (hb5.mono hbl.size)
          clear hn5 ho5
          have hyes : n5 ≤ K → Hid ((allL (rl.take (j + 1))).length ≤ K ∧ ∀ i, j + 1 < i → i ≤ j + 1 → K < (allL (rl.take i)).length) := fun q => ⟨by rw [Hn5.out]; exact q, fun i h1 h2 => absurd h1 (by omega)⟩
          have hno : K < n5 → Hid ((allL (rl.take kk)).length ≤ K ∧ ∀ i, kk < i → i ≤ j + 1 → K < (allL (rl.take i)).length) := fun q => ⟨HC.out.1, fun i h1 h2 => by
            rcases Nat.eq_or_lt_of_le h2 with e | e
            · rw [e, Hn5.out]; exact q
            · exact HC.out.2 i h1 (by omega)⟩
          have Hyes := Lib.hid hyes
          have Hno := Lib.hid hno
          clear hyes hno
          by_cases q1 : n5 < k
          case pos =>
            have d1 : decide ((n5 : Int) < (k : Int)) = true := decide_eq_true (by omega)
            have d1' : decide (n5 < k) = true := decide_eq_true q1
            have p1 : (n5 : Int) < (k : Int) := by omega
            have hy := Hyes.out (by rw [← HK.out]; split <;> omega)
            clear Hyes Hno
            go_wp2
            go_roundw
            case rel => exact ⟨j + 1, j + 1, by go_num, by go_num, by omega, by omega, hb6, hy⟩
            case measure => simp [intOf]; omega
          case neg =>
            have d1 : decide ((n5 : Int) < (k : Int)) = false := decide_eq_false (by omega)
            have d1' : decide (n5 < k) = false := decide_eq_false q1
            have p1 : ¬ ((n5 : Int) < (k : Int)) := by omega
            by_cases q2 : n5 = k
            case pos =>
              subst q2
              have d2 : ((n5 : Int) == (n5 : Int)) = true := by simp
              by_cases q3 : by_ = 0
              case pos =>
                have d3 : ((by_ : Int) == 0) = true := by simp; omega
                have hy := Hyes.out (by rw [← HK.out, if_pos q3]; omega)
                clear q3
                clear Hyes Hno
                go_wp2
                go_roundw
                case rel => exact ⟨j + 1, j + 1, by go_num, by go_num, by omega, by omega, hb6, hy⟩
                case measure => simp [intOf]; omega
              case neg =>
                have d3 : ((by_ : Int) == 0) = false := by simp; omega
                have hy := Hno.out (by rw [← HK.out, if_neg q3]; omega)
                clear Hyes Hno
                go_wp2
                go_roundw
                case rel => exact ⟨j + 1, kk, by go_num, rfl, by omega, by omega, hb6, hy⟩
                case measure => simp [intOf]; omega
            case neg =>
              have d2 : ((n5 : Int) == (k : Int)) = false := by simp; omega
              have p2 : ¬ ((n5 : Int) = (k : Int)) := by omega
              have hy := Hno.out (by rw [← HK.out]; split <;> omega)
              clear Hyes Hno
              go_wp2
              go_roundw
              case rel => exact ⟨j + 1, kk, by go_num, rfl, by omega, by omega, hb6, hy⟩
              case measure => simp [intOf]; omega
        case neg =>
          obtain rfl : nr = j := by omega
          obtain ⟨hc1, hc2⟩ := HC.out
          have hmax : kk < rl.length → K < (allL (rl.take (kk + 1))).length := fun q => hc2 (kk + 1) (by omega) (by have := Hnr.out; omega)
          have hC1 : (allL (rl.take kk)).length ≤ (if by_ = 0 then k else k - 1) := by rw [HK.out]; exact hc1
          have hMX : kk < rl.length → (if by_ = 0 then k else k - 1) < (allL (rl.take (kk + 1))).length := by rw [HK.out]; exact hmax
          have HC1 := Lib.hid hC1
          have HMX := Lib.hid hMX
          clear hc1 hc2 hmax HC hC1 hMX
          have k4 := replay_any wr A2 k c2 Q (sQ.below (by omega) hbl) (hqr.below hb3l) (by omega)
          have K4 := Lib.hid k4
          clear k4
          go_wp2_with fail
          refine K4.out.mono ?_
          rintro e w5 ⟨rs, z, A5, n5, c5, hrt, rfl, s5, hb5⟩
          have hrs := torn_nat rl (fun l hl => by have := Hlong.out l hl; omega) k kk by_ hby (by have := Hn2.out; omega) (by have := Hnr.out; omega) HC1.out HMX.out HQ.out hrt
          rw [hrs, Hback.out] at s5
          have s5 := s5.mono (q := fun _ => True) fun _ _ _ => trivial
          have hn5 : n5 = kk := by have h1 := s5.lenR; rw [List.length_take] at h1; have := Hng.out; have := Hgr.out; omega
          subst hn5
          have hkg : n5 ≤ ng := by have := Hgr.out; omega
          have r3 := fun w => cutHN (A := Ag) (n := ng) (c := cg) .i64 (n5 : Int) n5 rfl hkg hcapG.1 w
          have s3 := hsG.take hkg
          have hb35 := hb3l.trans (hb5.mono hb3l.size)
          have hbw5 := hbwr.trans (hb35.mono hbwr.size)
          have dnn : ((n5 : Int) == (n5 : Int)) = true := by simp
          clear hrs hrt K4
          have s5d := s5.below (Below.refl w5.heap.size w5).drew
          have s3d := (s3.below hb35).below (Below.refl w5.heap.size w5).drew
          have hbwd := hbw5.drew
          go_wp2_with fail
          refine wp_region_any (by kernel_rfl) ?_
          try (change wpAny _ _ _ _ _ _ _ (World.drew _))
          refine wpAny_take (i := 0) (v := ?_) rfl (by kernel_rfl) (by kernel_rfl) (by kernel_rfl) (fun _ _ _ h => h) (Or.inl ⟨by kernel_rfl, ?_⟩) ?_
          case refine_2 => ((intro w; go_simp); try with_reducible rfl)
          refine wpAny_take (i := 1) (v := ?_) rfl (by kernel_rfl) (by kernel_rfl) (by kernel_rfl) (fun _ _ _ h => h) (Or.inl ⟨by kernel_rfl, ?_⟩) ?_
          case refine_2 => ((intro w; go_simp); try with_reducible rfl)
          refine wpAny_take (i := 2) (v := ?_) rfl (by kernel_rfl) (by kernel_rfl) (by kernel_rfl) (fun _ _ _ h => h) (Or.inl ⟨by kernel_rfl, ?_⟩) ?_
          case refine_2 => ((intro w; go_simp); try with_reducible rfl)
          refine wpAny_take (i := 3) (v := ?_) rfl (by kernel_rfl) (by kernel_rfl) (by kernel_rfl) (fun _ _ _ h => h) (Or.inl ⟨by kernel_rfl, ?_⟩) ?_
          case refine_2 => ((intro w; go_simp); try with_reducible rfl)
          refine wpAny_take (i := 4) (v := ?_) rfl (by kernel_rfl) (by kernel_rfl) (by kernel_rfl) (fun _ _ _ h => h) (Or.inl ⟨by kernel_rfl, ?_⟩) ?_
          case refine_2 => ((intro w; go_simp); try with_reducible rfl)
          refine wpAny_take (i := 6) (v := ?_) rfl (by kernel_rfl) (by kernel_rfl) (by kernel_rfl) (fun _ _ _ h => h) (Or.inl ⟨by kernel_rfl, ?_⟩) ?_
          case refine_2 => ((intro w; go_simp); try with_reducible rfl)
          refine wpAny_take (i := 7) (v := ?_) rfl (by kernel_rfl) (by kernel_rfl) (by kernel_rfl) (fun _ _ _ h => h) (Or.inl ⟨by kernel_rfl, ?_⟩) ?_
          case refine_2 => ((intro w; go_simp); try with_reducible rfl)
          refine wpAny_take (i := 8) (v := ?_) rfl (by kernel_rfl) (by kernel_rfl) (by kernel_rfl) (fun _ _ _ h => h) (Or.inl ⟨by kernel_rfl, ?_⟩) ?_
          case refine_2 => ((intro w; go_simp); try with_reducible rfl)
          refine wpAny_ready (rs := [5]) (by kernel_rfl) (by simp) ?_
          refine AllReady.cons rfl (fun K hK => ?_) AllReady.nil
          go_simp
          refine (back_any _ A5 n5 c5 _ s5d (by omega)).mono ?_
          rintro e w9 ⟨A9, n9, c9, rfl, ho9, hb9⟩
          go_simp
          refine hK _ _ ?_
          clear hK K
          refine wpAny_ready (rs := [9]) (by kernel_rfl) (by simp) ?_
          refine AllReady.cons rfl (fun K hK => ?_) AllReady.nil
          go_simp
          refine (samenotes_is w9 _ A9 n9 c9 _ ho9.sl _ Ag n5 cg (s3d.below hb9)).mono ?_
          rintro e wz ⟨rfl, hbz⟩
          go_simp
          refine hK _ _ ?_
          clear hK K
          refine wpAny_take (i := 10) (v := ?_) rfl (by kernel_rfl) (by kernel_rfl) (by kernel_rfl) (fun _ _ _ h => h) (Or.inl ⟨by kernel_rfl, ?_⟩) ?_
          case refine_2 => ((intro w; go_simp); try with_reducible rfl)
          refine wpAny_take (i := 11) (v := ?_) rfl (by kernel_rfl) (by kernel_rfl) (by kernel_rfl) (fun _ _ _ h => h) (Or.inl ⟨by kernel_rfl, ?_⟩) ?_
          case refine_2 => ((intro w; go_simp); try with_reducible rfl)
          refine wpAny_done (by kernel_rfl) ?_ _
          go_wp2
          go_ret
          exact ⟨rfl, (hbwd.trans (hb9.mono hbwd.size)).trans (hbz.mono (Nat.le_trans hbwd.size hb9.size))⟩
end Go.Proofs.YtpjinmiedanebaaDoor
