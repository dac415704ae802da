/-
  What the reference's Few makes of notes. (Printed by gennote3.py.) No condition.
-/
import Derived.Test.YtpjinmiedanebaaDoorJFrameN
import Derived.Test.YtpjinmiedanebaaDoorBatchFewY
namespace Go.Proofs.YtpjinmiedanebaaDoor
open Go.RowKit
set_option maxRecDepth 20000
theorem infoNote : (Tryd.prog.info? 41).map (fun i => (i.zero, i.size, i.bytes)) = some (some (.agg #[.int .u8 0, .int .u64 0, .slice none 0 0, .slice none 0 0]), 4, 64) := by kernel_rfl
theorem fewn_step (ls : List NoteL) (k j : Nat) (hj : j < ls.length) : fewNotes (ls.take (j + 1)) k = if j < k then fewNotes (ls.take j) k ++ [cutNote ls[j]] else fewNotes (ls.take j) k := by
  unfold fewNotes
  split
  · rw [List.take_take, List.take_take, Nat.min_eq_right (show j + 1 ≤ k by omega), Nat.min_eq_right (show j ≤ k by omega), List.take_succ_eq_append_getElem hj, List.map_append]
    rfl
  · rw [List.take_take, List.take_take, Nat.min_eq_left (by omega), Nat.min_eq_left (by omega)]
set_option maxHeartbeats 8000000 in
theorem fewnotes_any (w : World) (p : Nat → Prop) (A : Option Addr) (n c : Nat) (ls : List NoteL) (k : Nat) (h : SlR w p A n c ls) (hk : k ≤ 1000) :
    Calls Tryd.prog 14 #[.slice A n c, .int .i64 (k : Int)] w fun e w' => ∃ A' n' c', e = .returned (.slice A' n' c') ∧ OwnX w' w.heap.size 41 A' n' c' (fewNotes ls k) ∧ Below w.heap.size w w' := by
  have hcp := h.cap
  unfold maxLen at hcp
  have hl := h.lenR
  have Hl := Lib.hid hl
  clear hl
  go_enter Tryd.func14, Tryd.ntmps14
  go_wp2
  go_loopw [5, 10] (fun s q wr => ∃ j : Nat, j ≤ n ∧ q = .int .i64 j ∧ Below w.heap.size w wr ∧ ∃ A2 n2 c2, s = .slice A2 n2 c2 ∧ OwnX wr w.heap.size 41 A2 n2 c2 (fewNotes (ls.take j) k)) (fun _ q _ => n - (intOf q).toNat)
  case atStart => exact ⟨0, Nat.zero_le _, rfl, Below.refl _ _, none, 0, 0, rfl, (show fewNotes (ls.take 0) k = [] from by simp [fewNotes]) ▸ OwnX.nil _ _ _ _⟩
  case round =>
    obtain ⟨j, hj, rfl, hbr, A2, n2, c2, rfl, ho2⟩ := hrel
    by_cases hlt : j < n
    · obtain ⟨b, o, A3, n3, c3, A4, n4, c4, hjl, rfl, d0, d1, d2, d3, hs3, hs4⟩ := h.noteAt hlt
      have d0 := stays hbr d0
      have d1 := stays hbr d1
      have d2 := stays hbr d2
      have d3 := stays hbr d3
      have hst := fewn_step ls k j hjl
      have hcut : cutNote ls[j] = ⟨ls[j].kind, ls[j].seq, ls[j].name.take 40, fewOps ls[j].ops 66⟩ := rfl
      rw [hcut] at hst
      have hn2 : n2 ≤ 1000 := by
        have h1 := ho2.lenR
        unfold fewNotes at h1
        rw [List.length_map, List.length_take] at h1
        omega
      have c1 := fun w' (hb : Below w.heap.size w w') => cut_any w' A3 n3 c3 ls[j].name 40 (hs3.below (by omega) hb) (by omega)
      have c2' := fun w' (hb : Below w.heap.size w w') => fewopsY_any w' _ A4 n4 c4 ls[j].ops 66 (hs4.below hb) (by omega)
      generalize ls[j].name.take 40 = y at *
      generalize fewOps ls[j].ops 66 = z at *
      generalize hd : ls[j].kind = d at *
      generalize hs : ls[j].seq = s at *
      have C1 := Lib.hid c1
      have C2 := Lib.hid c2'
      have Hst := Lib.hid hst
      clear hst c1 c2' hcut hs3 hs4 hd hs
      have al := (Below.refl wr.heap.size wr).alloc (Nat.le_refl _) (.cells #[.int .u8 (d.toNat : Int), .int .u64 (s.toNat : Int), .slice A3 n3 c3, .slice A4 n4 c4] 41)
      have kB := Bx4.fresh wr (.int .u8 (d.toNat : Int)) (.int .u64 (s.toNat : Int)) (.slice A3 n3 c3) (.slice A4 n4 c4) 41
      have hlt2 := ho2.lt
      have ho2 := ho2.below al
      have hbr := hbr.trans (al.mono hbr.size)
      by_cases hjk : j < k
      · have hjk' : decide ((j : Int) < (k : Int)) = true := decide_eq_true (by omega)
        have hst := Hst.out
        rw [if_pos hjk] at hst
        have Hst := Lib.hid hst
        clear hst
        go_wp2_with fail
        clear d0 d1 d2 d3 al
        generalize hW : (wr.alloc (.cells #[.int .u8 (d.toNat : Int), .int .u64 (s.toNat : Int), .slice A3 n3 c3, .slice A4 n4 c4] 41)) = w1 at *
        generalize hG : wr.heap.size = g at *
        have kB := kB.drew
        have ho2 := OwnX.below ho2 (below_drew (Below.refl _ _))
        have hbr := hbr.drew
        refine regionS 15 (fun w' => Bx4 w' g (.int .u8 (d.toNat : Int)) (.int .u64 (s.toNat : Int)) (.slice A3 n3 c3) (.slice A4 n4 c4)) (by kernel_rfl) ?_
        try (change AnyS _ _ _ _ _ _ _ _ _ (World.drew _))
        generalize w1.drew = w2 at *
        refine takeS (i := 0) (v := ?_) rfl (by kernel_rfl) (by kernel_rfl) (by kernel_rfl) (by kernel_rfl) (by kernel_rfl) (fun _ _ _ h => h) (Or.inl ⟨by kernel_rfl, ?_⟩) kB ?_
        case refine_2 =>
          intro wS hSw
          clear hSw
          go_simp
          try with_reducible rfl
        try simp only [List.getElem_toArray, List.getElem_cons_succ, List.getElem_cons_zero, Act.put, List.setIfInBounds_toArray, List.set_cons_zero, List.set_cons_succ]
        refine takeS (i := 1) (v := ?_) rfl (by kernel_rfl) (by kernel_rfl) (by kernel_rfl) (by kernel_rfl) (by kernel_rfl) (fun _ _ _ h => h) (Or.inl ⟨by kernel_rfl, ?_⟩) kB ?_
        case refine_2 =>
          intro wS hSw
          clear hSw
          go_simp
          try with_reducible rfl
        try simp only [List.getElem_toArray, List.getElem_cons_succ, List.getElem_cons_zero, Act.put, List.setIfInBounds_toArray, List.set_cons_zero, List.set_cons_succ]
        refine takeS (i := 2) (v := ?_) rfl (by kernel_rfl) (by kernel_rfl) (by kernel_rfl) (by kernel_rfl) (by kernel_rfl) (fun _ _ _ h => h) (Or.inl ⟨by kernel_rfl, ?_⟩) kB ?_
        case refine_2 =>
          intro wS hSw
          obtain ⟨x0, x1, x2, x3, x4⟩ := hSw
          go_simp
          try with_reducible rfl
        try simp only [List.getElem_toArray, List.getElem_cons_succ, List.getElem_cons_zero, Act.put, List.setIfInBounds_toArray, List.set_cons_zero, List.set_cons_succ]
        refine takeS (i := 3) (v := ?_) rfl (by kernel_rfl) (by kernel_rfl) (by kernel_rfl) (by kernel_rfl) (by kernel_rfl) (fun _ _ _ h => h) (Or.inl ⟨by kernel_rfl, ?_⟩) kB ?_
        case refine_2 =>
          intro wS hSw
          clear hSw
          go_simp
          try with_reducible rfl
        try simp only [List.getElem_toArray, List.getElem_cons_succ, List.getElem_cons_zero, Act.put, List.setIfInBounds_toArray, List.set_cons_zero, List.set_cons_succ]
        refine takeS (i := 4) (v := ?_) rfl (by kernel_rfl) (by kernel_rfl) (by kernel_rfl) (by kernel_rfl) (by kernel_rfl) (fun _ _ _ h => h) (Or.inl ⟨by kernel_rfl, ?_⟩) kB ?_
        case refine_2 =>
          intro wS hSw
          obtain ⟨x0, x1, x2, x3, x4⟩ := hSw
          go_simp
          try with_reducible rfl
        try simp only [List.getElem_toArray, List.getElem_cons_succ, List.getElem_cons_zero, Act.put, List.setIfInBounds_toArray, List.set_cons_zero, List.set_cons_succ]
        refine takeS (i := 5) (v := ?_) rfl (by kernel_rfl) (by kernel_rfl) (by kernel_rfl) (by kernel_rfl) (by kernel_rfl) (fun _ _ _ h => h) (Or.inl ⟨by kernel_rfl, ?_⟩) kB ?_
        case refine_2 =>
          intro wS hSw
          clear hSw
          go_simp
          try with_reducible rfl
        try simp only [List.getElem_toArray, List.getElem_cons_succ, List.getElem_cons_zero, Act.put, List.setIfInBounds_toArray, List.set_cons_zero, List.set_cons_succ]
        refine takeS (i := 6) (v := ?_) rfl (by kernel_rfl) (by kernel_rfl) (by kernel_rfl) (by kernel_rfl) (by kernel_rfl) (fun _ _ _ h => h) (Or.inl ⟨by kernel_rfl, ?_⟩) kB ?_
        case refine_2 =>
          intro wS hSw
          obtain ⟨x0, x1, x2, x3, x4⟩ := hSw
          go_simp
          try with_reducible rfl
        try simp only [List.getElem_toArray, List.getElem_cons_succ, List.getElem_cons_zero, Act.put, List.setIfInBounds_toArray, List.set_cons_zero, List.set_cons_succ]
        refine takeS (i := 8) (v := ?_) rfl (by kernel_rfl) (by kernel_rfl) (by kernel_rfl) (by kernel_rfl) (by kernel_rfl) (fun _ _ _ h => h) (Or.inl ⟨by kernel_rfl, ?_⟩) kB ?_
        case refine_2 =>
          intro wS hSw
          clear hSw
          go_simp
          try with_reducible rfl
        try simp only [List.getElem_toArray, List.getElem_cons_succ, List.getElem_cons_zero, Act.put, List.setIfInBounds_toArray, List.set_cons_zero, List.set_cons_succ]
        refine takeS (i := 9) (v := ?_) rfl (by kernel_rfl) (by kernel_rfl) (by kernel_rfl) (by kernel_rfl) (by kernel_rfl) (fun _ _ _ h => h) (Or.inl ⟨by kernel_rfl, ?_⟩) kB ?_
        case refine_2 =>
          intro wS hSw
          obtain ⟨x0, x1, x2, x3, x4⟩ := hSw
          go_simp
          try with_reducible rfl
        try simp only [List.getElem_toArray, List.getElem_cons_succ, List.getElem_cons_zero, Act.put, List.setIfInBounds_toArray, List.set_cons_zero, List.set_cons_succ]
        have hz2 := kB.lt
        refine readyS (i := 7) (by kernel_rfl) rfl (fun K hK => ?_)
        go_simp
        refine (C1.out _ hbr).mono ?_
        rintro e w3 ⟨A5, n5, c5, rfl, ho5, hb3⟩
        refine hK _ _ (kB.below hb3) ?_
        clear hK K
        have kB := kB.below hb3
        have ho2 := ho2.below hb3
        have hbr := hbr.trans (hb3.mono hbr.size)
        have hz3 := kB.lt
        clear hb3
        refine readyS (i := 10) (by kernel_rfl) rfl (fun K hK => ?_)
        go_simp
        refine (C2.out _ hbr).mono ?_
        rintro e w4 ⟨A6, n6, c6, rfl, ho6, hb4⟩
        refine hK _ _ (kB.below hb4) ?_
        clear hK K
        have kB := kB.below hb4
        have ho5 := Own.below ho5 hb4
        have ho2 := ho2.below hb4
        have hbr := hbr.trans (hb4.mono hbr.size)
        clear hb4
        refine takeS (i := 11) (v := ?_) rfl (by kernel_rfl) (by kernel_rfl) (by kernel_rfl) (by kernel_rfl) (by kernel_rfl) (fun _ _ _ h => h) (Or.inl ⟨by kernel_rfl, ?_⟩) kB ?_
        case refine_2 =>
          intro wS hSw
          clear hSw
          go_simp
          try with_reducible rfl
        try simp only [List.getElem_toArray, List.getElem_cons_succ, List.getElem_cons_zero, Act.put, List.setIfInBounds_toArray, List.set_cons_zero, List.set_cons_succ]
        refine readyS (i := 12) (by kernel_rfl) rfl (fun K hK => ?_)
        go_simp
        refine hK _ _ (kB.below ((Below.refl _ _).alloc (Nat.le_refl _) _)) ?_
        clear hK K
        have al2 := (Below.refl w4.heap.size w4).alloc (Nat.le_refl _) (.cells #[.int .u8 (d.toNat : Int), .int .u64 (s.toNat : Int), .slice A5 n5 c5, .slice A6 n6 c6] 41)
        have kB := kB.below al2
        have ho2 := ho2.below al2
        have ho5 := Own.below ho5 al2
        have ho6 := ho6.below al2
        have hbr := hbr.trans (al2.mono hbr.size)
        have hlit : Sl (w4.alloc (.cells #[.int .u8 (d.toNat : Int), .int .u64 (s.toNat : Int), .slice A5 n5 c5, .slice A6 n6 c6] 41)) 4 (some ⟨w4.heap.size, 0, none⟩) 1 1 [.int .u8 (d.toNat : Int), .int .u64 (s.toNat : Int), .slice A5 n5 c5, .slice A6 n6 c6] := ⟨rfl, Nat.le_refl _, by unfold maxLen; omega, fun _ => ⟨w4.heap.size, 0, rfl, fun j u hu => by rw [cell_of_row _ _ _ _ _ _ (heap_alloc_new w4 _)]; simpa using hu⟩⟩
        clear al2
        generalize (w4.alloc (.cells #[.int .u8 (d.toNat : Int), .int .u64 (s.toNat : Int), .slice A5 n5 c5, .slice A6 n6 c6] 41)) = w5 at *
        have s6 : SlR w5 (fun b => blk A2 c2 ≠ some b) A6 n6 c6 z := ho6.slB.mono fun b _ hp q => by have := (hlt2 b q).2; omega
        have hrow : RowC w5 (fun b => blk A2 c2 ≠ some b) [.int .u8 (d.toNat : Int), .int .u64 (s.toNat : Int), .slice A5 n5 c5, .slice A6 n6 c6] [(⟨d, s, y, z⟩ : NoteL)] := RowC.single ⟨_, A6, n6, c6, rfl, ⟨A5, n5, c5, rfl, OwnB.sl ho5, fun b hn e q => by have := (Own.ownU ho5 b hn e).1; have := (hlt2 b q).2; omega⟩, s6⟩
        refine readyS (i := 13) (by kernel_rfl) rfl (fun K hK => ?_)
        refine step_appX (α := NoteL) (by rfl) (.tmp 18) (.tmp 30) 29 (by rfl) w.heap.size 41 _ 64 Tryd.underlying29 infoNote rfl A2 n2 c2 _ (by rfl) ho2 _ 1 1 _ (by rfl) ⟨_, hlit, hrow⟩ (by unfold maxLen; omega) (by omega) hbr.size ?_
        intro A7 c7 w6 ho7 hg7 hx7
        have hne : blk A2 c2 ≠ some g := fun e => by have := (hlt2 _ e).2; omega
        have kB7 := Bx4.grownO kB hg7 hne
        refine hK _ _ kB7 ?_
        clear hK K
        have hb7 := hbr.grown hg7 hbr.size (fun b hb => (hlt2 b hb).1)
        refine takeS (i := 14) (v := ?_) rfl (by kernel_rfl) (by kernel_rfl) (by kernel_rfl) (by kernel_rfl) (by kernel_rfl) (fun _ _ _ h => h) (Or.inl ⟨by kernel_rfl, ?_⟩) kB7 ?_
        case refine_2 =>
          intro wS hSw
          clear hSw
          go_simp
          try with_reducible rfl
        try simp only [List.getElem_toArray, List.getElem_cons_succ, List.getElem_cons_zero, Act.put, List.setIfInBounds_toArray, List.set_cons_zero, List.set_cons_succ]
        refine doneS (by kernel_rfl) ?_ _
        try simp only [List.getElem_toArray, List.getElem_cons_succ, List.getElem_cons_zero, Act.put, List.setIfInBounds_toArray, List.set_cons_zero, List.set_cons_succ]
        go_wp2
        go_roundw
        case rel => exact ⟨j + 1, by omega, by go_num, hb7, A7, _, c7, rfl, by rw [Hst.out]; exact ho7⟩
        case measure => simp [intOf]; omega
      · have hjk' : decide ((j : Int) < (k : Int)) = false := decide_eq_false (by omega)
        have hst := Hst.out
        rw [if_neg hjk] at hst
        have Hst := Lib.hid hst
        clear hst al
        go_wp2
        go_roundw
        case rel => exact ⟨j + 1, by omega, by go_num, hbr, A2, n2, c2, rfl, by rw [Hst.out]; exact ho2⟩
        case measure => simp [intOf]; omega
    · obtain rfl : n = j := by omega
      rw [List.take_of_length_le (by have := Hl.out; omega)] at ho2
      go_wp2
      go_ret
      exact ⟨A2, n2, c2, rfl, ho2, hbr⟩
end Go.Proofs.YtpjinmiedanebaaDoor
