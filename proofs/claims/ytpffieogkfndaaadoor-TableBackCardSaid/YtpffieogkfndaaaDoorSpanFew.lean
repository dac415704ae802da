/-
  What the reference's Few makes of spans. (Printed by genspan.py.) No condition.
-/
import Derived.Test.YtpffieogkfndaaaDoorJLeafVersion
import Derived.Test.YtpffieogkfndaaaDoorJBatchReadW
namespace Go.Proofs.YtpffieogkfndaaaDoor
open Go.RowKit
set_option maxRecDepth 20000
set_option linter.unusedVariables false
set_option linter.unusedSimpArgs false
def cutSpan (s : SpanL) : SpanL := ⟨s.lo.take 80, s.hi.take 80, s.seq⟩
theorem fews_step (ls : List SpanL) (k j : Nat) (hj : j < ls.length) : fewSpans (ls.take (j + 1)) k = if j < k then fewSpans (ls.take j) k ++ [cutSpan ls[j]] else fewSpans (ls.take j) k := by
  unfold fewSpans
  split
  · rw [List.take_take, List.take_take, Nat.min_eq_right (show j + 1 ≤ k by omega), Nat.min_eq_right (show j ≤ k by omega), List.take_succ_eq_append_getElem hj, List.map_append]
    rfl
  · rw [List.take_take, List.take_take, Nat.min_eq_left (by omega), Nat.min_eq_left (by omega)]
set_option maxHeartbeats 8000000 in
theorem fewspans_any (w : World) (p : Nat → Prop) (A : Option Addr) (n c : Nat) (ls : List SpanL) (k : Nat) (h : SlR w p A n c ls) (hk : k ≤ 1000) :
    Calls Tryd.prog 8 #[.slice A n c, .int .i64 (k : Int)] w fun e w' => ∃ A' n' c', e = .returned (.slice A' n' c') ∧ OwnR w' w.heap.size 48 A' n' c' (fewSpans ls k) ∧ Below w.heap.size w w' := by
  have hcp := h.cap
  unfold maxLen at hcp
  have hl := h.lenR
  have Hl := Lib.hid hl
  clear hl
  go_enter Tryd.func8, Tryd.ntmps8
  go_wp2
  go_loopw [5, 10] (fun s q wr => ∃ j : Nat, j ≤ n ∧ q = .int .i64 j ∧ Below w.heap.size w wr ∧ ∃ A2 n2 c2, s = .slice A2 n2 c2 ∧ OwnR wr w.heap.size 48 A2 n2 c2 (fewSpans (ls.take j) k)) (fun _ q _ => n - (intOf q).toNat)
  case atStart => exact ⟨0, Nat.zero_le _, rfl, Below.refl _ _, none, 0, 0, rfl, (show fewSpans (ls.take 0) k = [] from by simp [fewSpans]) ▸ OwnR.nil _ _ _ _⟩
  case round =>
    obtain ⟨j, hj, rfl, hbr, A2, n2, c2, rfl, ho2⟩ := hrel
    by_cases hlt : j < n
    · obtain ⟨b, o, x, cs, rfl, hx, ⟨v, v', rfl, hk', hv⟩, hcell⟩ := (h.below hbr).get hlt
      obtain ⟨A3, n3, c3, rfl, hs3, _⟩ := hk'
      obtain ⟨A4, n4, c4, rfl, hs4, _⟩ := hv
      have d0 : wr.cell? ⟨b, o + j * 3, none⟩ = some (.slice A3 n3 c3) := hcell 0 _ rfl
      have d1 : wr.cell? ⟨b, o + j * 3 + 1, none⟩ = some (.slice A4 n4 c4) := hcell 1 _ rfl
      have d2 : wr.cell? ⟨b, o + j * 3 + 2, none⟩ = some (.int .u64 (x.seq.toNat : Int)) := hcell 2 _ rfl
      clear hcell
      obtain ⟨hjl, rfl⟩ := List.getElem?_eq_some_iff.1 hx
      have hst := fews_step ls k j hjl
      have hcut : cutSpan ls[j] = ⟨ls[j].lo.take 80, ls[j].hi.take 80, ls[j].seq⟩ := rfl
      rw [hcut] at hst
      have hn2 : n2 ≤ 1000 := by
        have h1 := ho2.lenR
        unfold fewSpans at h1
        rw [List.length_map, List.length_take] at h1
        omega
      clear hcut hx
      generalize ls[j].seq = d at *
      generalize ls[j].lo = y at *
      generalize ls[j].hi = z at *
      have Hst := Lib.hid hst
      clear hst
      by_cases hjk : j < k
      · have hjk' : decide ((j : Int) < (k : Int)) = true := decide_eq_true (by omega)
        have hst := Hst.out
        rw [if_pos hjk] at hst
        have Hst := Lib.hid hst
        clear hst
        have hlt2 : ∀ b, blk A2 c2 = some b → w.heap.size ≤ b ∧ b < wr.heap.size := by
          obtain ⟨xs2, hO2, _⟩ := ho2
          exact fun b e => Own.lt hO2 b e
        have al := (Below.refl wr.heap.size wr).alloc (Nat.le_refl _) (.cells #[.slice A3 n3 c3, .slice A4 n4 c4, .int .u64 (d.toNat : Int)] 48)
        have kB := Bx.fresh wr (.slice A3 n3 c3) (.slice A4 n4 c4) (.int .u64 (d.toNat : Int)) 48
        have hs3 := hs3.below (by omega) al
        have hs4 := hs4.below (by omega) al
        have ho2 := ho2.below al
        have hbr := hbr.trans (al.mono hbr.size)
        go_wp2_with fail
        clear d0 d1 d2 al
        generalize hW : (wr.alloc (.cells #[.slice A3 n3 c3, .slice A4 n4 c4, .int .u64 (d.toNat : Int)] 48)) = w1 at *
        generalize hG : wr.heap.size = g at *
        have kB := kB.drew
        have hs3 := hs3.drew
        have hs4 := hs4.drew
        have ho2 := OwnR.below ho2 (below_drew (Below.refl _ _))
        have hbr := hbr.drew
        refine regionS 13 (fun w' => Bx w' g (.slice A3 n3 c3) (.slice A4 n4 c4) (.int .u64 (d.toNat : Int))) (by kernel_rfl) ?_
        try (change AnyS _ _ _ _ _ _ _ _ _ (World.drew _))
        generalize w1.drew = w2 at *
        refine takeS (i := 0) (v := ?_) rfl (by kernel_rfl) (by kernel_rfl) (by kernel_rfl) (by kernel_rfl) (by kernel_rfl) (fun _ _ _ h => h) (Or.inl ⟨by kernel_rfl, ?_⟩) kB ?_
        case refine_2 =>
          intro wS hSw
          clear hSw
          go_simp
          try with_reducible rfl
        try simp only [List.getElem_toArray, List.getElem_cons_succ, List.getElem_cons_zero, Act.put, List.setIfInBounds_toArray, List.set_cons_zero, List.set_cons_succ]
        refine takeS (i := 1) (v := ?_) rfl (by kernel_rfl) (by kernel_rfl) (by kernel_rfl) (by kernel_rfl) (by kernel_rfl) (fun _ _ _ h => h) (Or.inl ⟨by kernel_rfl, ?_⟩) kB ?_
        case refine_2 =>
          intro wS hSw
          clear hSw
          go_simp
          try with_reducible rfl
        try simp only [List.getElem_toArray, List.getElem_cons_succ, List.getElem_cons_zero, Act.put, List.setIfInBounds_toArray, List.set_cons_zero, List.set_cons_succ]
        refine takeS (i := 2) (v := ?_) rfl (by kernel_rfl) (by kernel_rfl) (by kernel_rfl) (by kernel_rfl) (by kernel_rfl) (fun _ _ _ h => h) (Or.inl ⟨by kernel_rfl, ?_⟩) kB ?_
        case refine_2 =>
          intro wS hSw
          obtain ⟨x0, x1, x2, x3⟩ := hSw
          go_simp
          try with_reducible rfl
        try simp only [List.getElem_toArray, List.getElem_cons_succ, List.getElem_cons_zero, Act.put, List.setIfInBounds_toArray, List.set_cons_zero, List.set_cons_succ]
        refine takeS (i := 4) (v := ?_) rfl (by kernel_rfl) (by kernel_rfl) (by kernel_rfl) (by kernel_rfl) (by kernel_rfl) (fun _ _ _ h => h) (Or.inl ⟨by kernel_rfl, ?_⟩) kB ?_
        case refine_2 =>
          intro wS hSw
          clear hSw
          go_simp
          try with_reducible rfl
        try simp only [List.getElem_toArray, List.getElem_cons_succ, List.getElem_cons_zero, Act.put, List.setIfInBounds_toArray, List.set_cons_zero, List.set_cons_succ]
        refine takeS (i := 5) (v := ?_) rfl (by kernel_rfl) (by kernel_rfl) (by kernel_rfl) (by kernel_rfl) (by kernel_rfl) (fun _ _ _ h => h) (Or.inl ⟨by kernel_rfl, ?_⟩) kB ?_
        case refine_2 =>
          intro wS hSw
          obtain ⟨x0, x1, x2, x3⟩ := hSw
          go_simp
          try with_reducible rfl
        try simp only [List.getElem_toArray, List.getElem_cons_succ, List.getElem_cons_zero, Act.put, List.setIfInBounds_toArray, List.set_cons_zero, List.set_cons_succ]
        refine takeS (i := 7) (v := ?_) rfl (by kernel_rfl) (by kernel_rfl) (by kernel_rfl) (by kernel_rfl) (by kernel_rfl) (fun _ _ _ h => h) (Or.inl ⟨by kernel_rfl, ?_⟩) kB ?_
        case refine_2 =>
          intro wS hSw
          clear hSw
          go_simp
          try with_reducible rfl
        try simp only [List.getElem_toArray, List.getElem_cons_succ, List.getElem_cons_zero, Act.put, List.setIfInBounds_toArray, List.set_cons_zero, List.set_cons_succ]
        refine takeS (i := 8) (v := ?_) rfl (by kernel_rfl) (by kernel_rfl) (by kernel_rfl) (by kernel_rfl) (by kernel_rfl) (fun _ _ _ h => h) (Or.inl ⟨by kernel_rfl, ?_⟩) kB ?_
        case refine_2 =>
          intro wS hSw
          obtain ⟨x0, x1, x2, x3⟩ := hSw
          go_simp
          try with_reducible rfl
        try simp only [List.getElem_toArray, List.getElem_cons_succ, List.getElem_cons_zero, Act.put, List.setIfInBounds_toArray, List.set_cons_zero, List.set_cons_succ]
        refine readyS (i := 3) (by kernel_rfl) rfl (fun K hK => ?_)
        go_simp
        refine (cut_any _ A3 n3 c3 y 80 hs3 (by omega)).mono ?_
        rintro e w3 ⟨A5, n5, c5, rfl, ho5, hb5⟩
        refine hK _ _ (kB.below hb5) ?_
        clear hK K
        have kB := kB.below hb5
        have hs4 := hs4.below (by omega) hb5
        have ho2 := ho2.below hb5
        have hbr := hbr.trans (hb5.mono hbr.size)
        refine readyS (i := 6) (by kernel_rfl) rfl (fun K hK => ?_)
        go_simp
        refine (cut_any _ A4 n4 c4 z 80 hs4 (by omega)).mono ?_
        rintro e w4 ⟨A6, n6, c6, rfl, ho6, hb6⟩
        refine hK _ _ (kB.below hb6) ?_
        clear hK K
        have kB := kB.below hb6
        have ho5 := Own.below ho5 hb6
        have ho2 := ho2.below hb6
        have hbr := hbr.trans (hb6.mono hbr.size)
        refine takeS (i := 9) (v := ?_) rfl (by kernel_rfl) (by kernel_rfl) (by kernel_rfl) (by kernel_rfl) (by kernel_rfl) (fun _ _ _ h => h) (Or.inl ⟨by kernel_rfl, ?_⟩) kB ?_
        case refine_2 =>
          intro wS hSw
          clear hSw
          go_simp
          try with_reducible rfl
        try simp only [List.getElem_toArray, List.getElem_cons_succ, List.getElem_cons_zero, Act.put, List.setIfInBounds_toArray, List.set_cons_zero, List.set_cons_succ]
        refine readyS (i := 10) (by kernel_rfl) rfl (fun K hK => ?_)
        go_simp
        refine hK _ _ (kB.below ((Below.refl _ _).alloc (Nat.le_refl _) _)) ?_
        clear hK K
        have al2 := (Below.refl w4.heap.size w4).alloc (Nat.le_refl _) (.cells #[.slice A5 n5 c5, .slice A6 n6 c6, .int .u64 (d.toNat : Int)] 48)
        have kB := kB.below al2
        have ho2 := ho2.below al2
        have ho5 := Own.below ho5 al2
        have ho6 := Own.below ho6 al2
        have hbr := hbr.trans (al2.mono hbr.size)
        have hlit : Sl (w4.alloc (.cells #[.slice A5 n5 c5, .slice A6 n6 c6, .int .u64 (d.toNat : Int)] 48)) 3 (some ⟨w4.heap.size, 0, none⟩) 1 1 [.slice A5 n5 c5, .slice A6 n6 c6, .int .u64 (d.toNat : Int)] := ⟨rfl, Nat.le_refl _, by unfold maxLen; omega, fun _ => ⟨w4.heap.size, 0, rfl, fun j u hu => by rw [cell_of_row _ _ _ _ _ _ (heap_alloc_new w4 _)]; simpa using hu⟩⟩
        clear al2
        generalize (w4.alloc (.cells #[.slice A5 n5 c5, .slice A6 n6 c6, .int .u64 (d.toNat : Int)] 48)) = w5 at *
        have hrow : RowC w5 (NotTy w5 48) [.slice A5 n5 c5, .slice A6 n6 c6, .int .u64 (d.toNat : Int)] [(⟨y.take 80, z.take 80, d⟩ : SpanL)] := RowC.single ⟨_, _, rfl, Bk.ownT (by decide) ho5, Bk.ownT (by decide) ho6⟩
        refine readyS (i := 11) (by kernel_rfl) rfl (fun K hK => ?_)
        refine step_appR (α := SpanL) (by rfl) (.tmp 18) (.tmp 28) 23 (by rfl) w.heap.size 48 _ 56 Tryd.underlying23 infoSpan rfl A2 n2 c2 _ (by rfl) ho2 _ _ 1 1 _ (by rfl) ⟨_, hlit, hrow⟩ (fun b _ h => .inr h) (by unfold maxLen; omega) (by omega) hbr.size ?_
        intro A7 c7 w6 ho7 hg7 hx7
        have hne : blk A2 c2 ≠ some g := fun e => by have := (hlt2 _ e).2; omega
        have kB7 := Bx.grownO kB hg7 hne
        refine hK _ _ kB7 ?_
        clear hK K
        have hb7 := hbr.grown hg7 hbr.size (fun b hb => (hlt2 b hb).1)
        refine takeS (i := 12) (v := ?_) rfl (by kernel_rfl) (by kernel_rfl) (by kernel_rfl) (by kernel_rfl) (by kernel_rfl) (fun _ _ _ h => h) (Or.inl ⟨by kernel_rfl, ?_⟩) kB7 ?_
        case refine_2 =>
          intro wS hSw
          clear hSw
          go_simp
          try with_reducible rfl
        try simp only [List.getElem_toArray, List.getElem_cons_succ, List.getElem_cons_zero, Act.put, List.setIfInBounds_toArray, List.set_cons_zero, List.set_cons_succ]
        refine doneS (by kernel_rfl) ?_ _
        try simp only [List.getElem_toArray, List.getElem_cons_succ, List.getElem_cons_zero, Act.put, List.setIfInBounds_toArray, List.set_cons_zero, List.set_cons_succ]
        go_wp2
        go_roundw
        case rel => exact ⟨j + 1, by omega, by go_num, hb7, A7, _, c7, rfl, by rw [Hst.out]; exact ho7⟩
        case measure => simp [intOf]; omega
      · have hjk' : decide ((j : Int) < (k : Int)) = false := decide_eq_false (by omega)
        have hst := Hst.out
        rw [if_neg hjk] at hst
        have al := (Below.refl wr.heap.size wr).alloc (Nat.le_refl _) (.cells #[.slice A3 n3 c3, .slice A4 n4 c4, .int .u64 (d.toNat : Int)] 48)
        have ho2 := ho2.below al
        have hbr := hbr.trans (al.mono hbr.size)
        have Hst := Lib.hid hst
        clear hst al hs3 hs4
        go_wp2
        go_roundw
        case rel => exact ⟨j + 1, by omega, by go_num, hbr, A2, n2, c2, rfl, by rw [Hst.out]; exact ho2⟩
        case measure => simp [intOf]; omega
    · obtain rfl : n = j := by omega
      rw [List.take_of_length_le (by have := Hl.out; omega)] at ho2
      go_wp2
      go_ret
      exact ⟨A2, n2, c2, rfl, ho2, hbr⟩
end Go.Proofs.YtpffieogkfndaaaDoor
