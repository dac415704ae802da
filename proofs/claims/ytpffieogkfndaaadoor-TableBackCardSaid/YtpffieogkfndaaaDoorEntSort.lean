/-
  The reference's Sort of entries: those that are right, in order, of each version the first. (Printed by genent3.py.) No condition but a size.
-/
import Derived.Test.YtpffieogkfndaaaDoorEntFew
import Derived.Test.YtpffieogkfndaaaDoorJKeyMake
import Derived.Test.YtpffieogkfndaaaDoorJBatchReadW
namespace Go.Proofs.YtpffieogkfndaaaDoor
open Go.RowKit
set_option maxRecDepth 100000
set_option linter.unusedVariables false
set_option linter.unusedSimpArgs false
theorem row_below {w w' : World} (hb : Below w.heap.size w w') {α : Type} [Rep α] {p : Nat → Prop} {A : Option Addr} {m c : Nat} {ms : List α} (h : ∃ xs, Sl w (Rep.size α) A m c xs ∧ RowC w p xs ms) : ∃ xs, Sl w' (Rep.size α) A m c xs ∧ RowC w' p xs ms := by
  obtain ⟨xs, hs, hr⟩ := h
  exact ⟨xs, hs.below Rep.pos hb, hr.move fun b hl hp => ⟨hb.block b hl, hp⟩⟩
theorem OwnR.cutH {α : Type} [Rep α] {w : World} {B : Nat} {e : TypeId} {A : Option Addr} {n c : Nat} {ls : List α} (h : OwnR w B e A n c ls) {k : Nat} (hk : k ≤ n) :
    ∃ xs, Sl w (Rep.size α) A k c xs ∧ RowC w (fun b => b < B ∨ NotTy w e b) xs (ls.take k) := by
  obtain ⟨xs, ho, hr⟩ := h
  have hs := ho.sl
  have hcap := hs.cap
  have := hs.cut (lo := 0) (hi := k) (m := c) (Nat.zero_le _) hk (by omega) (Nat.le_refl _)
  have e0 : (if c = 0 then A else A.map (·.add (0 * Rep.size α))) = A := by
    split
    · rfl
    · cases A <;> simp [Addr.add]
  rw [e0] at this
  simp only [Nat.sub_zero, Nat.zero_mul, List.drop_zero] at this
  exact ⟨_, this, hr.take k⟩
theorem OwnR.cutL {α : Type} [Rep α] {w : World} {B : Nat} {e : TypeId} {A : Option Addr} {n c : Nat} {ls : List α} (h : OwnR w B e A n c ls) {k : Nat} (hk : k ≤ n) :
    ∃ xs, Sl w (Rep.size α) (if c = k then A else A.map (·.add (k * Rep.size α))) (n - k) (c - k) xs ∧ RowC w (fun b => b < B ∨ NotTy w e b) xs (ls.drop k) := by
  obtain ⟨xs, ho, hr⟩ := h
  have hs := ho.sl
  have hcap := hs.cap
  have hl := hs.len
  have := hs.cut (lo := k) (hi := n) (m := c) hk (Nat.le_refl _) (by omega) (Nat.le_refl _)
  refine ⟨_, this, ?_⟩
  rw [List.take_of_length_le (by rw [List.length_drop, hl, Nat.sub_mul]; omega)]
  exact hr.drop k
theorem run_sizeE (w : World) : (sizeOf 45).run Tryd.prog w = .ok 4 w := by
  obtain ⟨i, hi, _, hs, _⟩ := info_parts infoEnt
  simp [sizeOf, typeInfo, hi, hs]
/-- l[:k], l[k:] of entries -/
theorem cutHE {A : Option Addr} {n c : Nat} (q : IntKind) (i : Int) (k : Nat) (hi : i = k) (hk : k ≤ n) (hcap : n ≤ c) (w' : World) :
    (Instr.slice 22 (.slice A n c) none (some (.int q i)) none).run Tryd.prog w' = .ok (.slice A k c) w' := by
  subst hi
  have := run_slice_h (P := Tryd.prog) w' 22 A n c Tryd.underlying22 q k (by omega) (by omega)
  rw [this]
  show ((sizeOf 45).run Tryd.prog w').andThen _ = _
  rw [run_sizeE]
  simp only [Result.andThen, sliced, Int.toNat_natCast, Nat.sub_zero, Nat.zero_mul]
  rw [addr0]
theorem cutLE {A : Option Addr} {n c : Nat} (q : IntKind) (i : Int) (lo : Nat) (ei : i = lo) (h2 : lo ≤ n) (hcap : n ≤ c) (w' : World) :
    (Instr.slice 22 (.slice A n c) (some (.int q i)) none none).run Tryd.prog w' = .ok (.slice (if c = lo then A else A.map (·.add (lo * 4))) (n - lo) (c - lo)) w' := by
  subst ei
  have := run_slice_l (P := Tryd.prog) w' 22 A n c Tryd.underlying22 q lo (by omega) (by omega)
  rw [this]
  show ((sizeOf 45).run Tryd.prog w').andThen _ = _
  rw [run_sizeE]
  simp only [Result.andThen, sliced, Int.toNat_natCast]
set_option maxHeartbeats 32000000 in
theorem rsort_any (w : World) (p : Nat → Prop) (A : Option Addr) (n c : Nat) (ls : List EntL) (h : SlR w p A n c ls) (hn : n ≤ 1000) :
    Calls Tryd.prog 5 #[.slice A n c] w fun e w' => ∃ A' n' c', e = .returned (.slice A' n' c') ∧ OwnR w' w.heap.size 45 A' n' c' (sortL ls) ∧ Below w.heap.size w w' := by
  have hl := h.lenR
  have Hl := Lib.hid hl
  clear hl
  go_enter Tryd.func5, Tryd.ntmps5
  go_wp2
  go_loopw [3, 12] (fun s q wr => ∃ j : Nat, j ≤ n ∧ q = .int .i64 j ∧ Below w.heap.size w wr ∧ ∃ A2 n2 c2, s = .slice A2 n2 c2 ∧ OwnR wr w.heap.size 45 A2 n2 c2 (sortL (ls.take j))) (fun _ q _ => n - (intOf q).toNat)
  case atStart => exact ⟨0, Nat.zero_le _, rfl, Below.refl _ _, none, 0, 0, rfl, OwnR.nil _ _ _ _⟩
  case round =>
    obtain ⟨j, hj, rfl, hbr, A2, n2, c2, rfl, ho2⟩ := hrel
    by_cases hlt : j < n
    case neg =>
      obtain rfl : n = j := by omega
      rw [List.take_of_length_le (by have := Hl.out; omega)] at ho2
      go_wp2
      go_ret
      exact ⟨A2, n2, c2, rfl, ho2, hbr⟩
    obtain ⟨b, o, A3, n3, c3, A4, n4, c4, hjl, rfl, d0, d1, d2, d3, g3, g4⟩ := h.entAt hlt
    have d0 := stays hbr d0
    have d1 := stays hbr d1
    have d2 := stays hbr d2
    have d3 := stays hbr d3
    have hlb : (sortL (ls.take j)).length ≤ 1000 := by have := (sortL_good (ls.take j)).2.2; rw [List.length_take] at this; omega
    have hst : sortL (ls.take (j + 1)) = insL (sortL (ls.take j)) ls[j] := by rw [List.take_succ_eq_append_getElem hjl]; exact sortL_snoc _ _
    have hl2 := ho2.lenR
    generalize sortL (ls.take j) = outs at *
    generalize ls[j] = x at *
    have hi : insL outs x = if (outs.any fun y => decide (y.key = x.key)) = false ∧ checkEntL x = 0 then outs.take (aheadN outs x.key) ++ (x :: outs.drop (aheadN outs x.key)) else outs := rfl
    have he : checkEntL x = if checkKey x.key ≠ 0 then checkKey x.key else if 512 < n4 then 3 else 0 := by unfold checkEntL; rw [g4.lenb]
    have cc := fun w' (hb : Below w.heap.size w w') => rcheck_any w' A3 n3 c3 x.key (g3.below (by omega) hb)
    have hn4 := g4.cap
    have hm4 := g4.capm
    unfold maxLen at hm4
    generalize hck : checkKey x.key = ck at *
    generalize hs : x.key.seq.toNat = s at *
    generalize hd : x.key.kind.toNat = d at *
    have Hs := Lib.hid hs
    have Hd := Lib.hid hd
    have Hst := Lib.hid hst
    have Hi := Lib.hid hi
    have He := Lib.hid he
    have Cc := Lib.hid cc
    have Hl2 := Lib.hid hl2
    have Hlb := Lib.hid hlb
    have Hjn : Hid (j < n) := hlt
    clear hs hd hst hi he cc hl2 hlb hck hjl
    have al := (Below.refl wr.heap.size wr).alloc (Nat.le_refl _) (.cells #[.slice A3 n3 c3, .int .u64 (s : Int), .int .u8 (d : Int), .slice A4 n4 c4] 45)
    have kE := Bx4.fresh wr (.slice A3 n3 c3) (.int .u64 (s : Int)) (.int .u8 (d : Int)) (.slice A4 n4 c4) 45
    have ho2 := OwnR.below ho2 al
    have hq := hbr.trans (al.mono hbr.size)
    generalize hW1 : (wr.alloc (.cells #[.slice A3 n3 c3, .int .u64 (s : Int), .int .u8 (d : Int), .slice A4 n4 c4] 45)) = w1 at *
    have hn2 : n2 ≤ 1000 := by have := Hl2.out; have := Hlb.out; omega
    have hc2 := ho2.sl.cap
    clear al hbr
    go_wp2
    try rw [hW1]
    clear hW1
    clear d0 d1 d2 d3
    generalize wr.heap.size = gE at *
    go_loopw [6, 7, 18] (fun a t q wr => ∃ i : Nat, i ≤ n2 ∧ a = .int .i64 (aheadN (outs.take i) x.key : Nat) ∧ t = .bool ((outs.take i).any fun y => decide (y.key = x.key)) ∧ q = .int .i64 i ∧ Below w1.heap.size w1 wr) (fun _ _ q _ => n2 - (intOf q).toNat)
    case atStart => exact ⟨0, Nat.zero_le _, rfl, rfl, rfl, Below.refl _ _⟩
    case round =>
      obtain ⟨i, hi, rfl, rfl, rfl, hbi⟩ := hrel
      by_cases hil : i < n2
      case neg =>
        obtain rfl : n2 = i := by omega
        rw [List.take_of_length_le (by have := Hl2.out; omega)]
        have ho2 := OwnR.below ho2 hbi
        have kE := kE.below hbi
        have hq := hq.trans (hbi.mono hq.size)
        clear hbi
        have hat : aheadN outs x.key ≤ n2 := by have := Hl2.out; unfold aheadN; have := List.length_filter_le (fun y : EntL => lessKey y.key x.key) outs; omega
        have hins := Hi.out
        generalize aheadN outs x.key = at_ at *
        generalize (outs.any fun y => decide (y.key = x.key)) = tw at *
        cases tw
        case true =>
          rw [if_neg (by simp)] at hins
          have Hins := Lib.hid hins
          clear hins
          go_wp2
          go_roundw
          case rel => exact ⟨j + 1, by have := Hjn.out; omega, by go_num, hq, A2, n2, c2, rfl, by rw [Hst.out, Hins.out]; exact ho2⟩
          case measure => have := Hjn.out; simp [intOf]; omega
        obtain ⟨x0, x1, x2, x3, x4⟩ := id kE
        go_wp2_with fail
        refine (Cc.out _ hq).mono ?_
        rintro e w3 ⟨rfl, hb3⟩
        have ho2 := OwnR.below ho2 hb3
        have hq := hq.trans (hb3.mono hq.size)
        have kE := kE.below hb3
        clear hb3 x0 x1 x2 x3 x4
        obtain ⟨x0, x1, x2, x3, x4⟩ := id kE
        by_cases hc0 : ck = 0
        case neg =>
          have i1 : ((ck : Int) == 0) = false := by rw [beq_eq_false_iff_ne]; omega
          have i2 : ((ck : Int) != 0) = true := by rw [bne_iff_ne]; omega
          rw [if_neg (fun h => by have h2 := h.2; rw [He.out, if_pos hc0] at h2; exact hc0 h2)] at hins
          have Hins := Lib.hid hins
          clear hins hc0
          go_wp2
          go_roundw
          case rel => exact ⟨j + 1, by have := Hjn.out; omega, by go_num, hq, A2, n2, c2, rfl, by rw [Hst.out, Hins.out]; exact ho2⟩
          case measure => have := Hjn.out; simp [intOf]; omega
        subst hc0
        by_cases hv : n4 ≤ 512
        case neg =>
          rw [if_neg (fun h => by have h2 := h.2; rw [He.out, if_neg (by simp), if_pos (by omega)] at h2; cases h2)] at hins
          have i1 : decide ((n4 : Int) ≤ 512) = false := decide_eq_false (by omega)
          have Hins := Lib.hid hins
          clear hins
          go_wp2
          go_roundw
          case rel => exact ⟨j + 1, by have := Hjn.out; omega, by go_num, hq, A2, n2, c2, rfl, by rw [Hst.out, Hins.out]; exact ho2⟩
          case measure => have := Hjn.out; simp [intOf]; omega
        have i1 : decide ((n4 : Int) ≤ 512) = true := decide_eq_true (by omega)
        rw [if_pos ⟨trivial, by rw [He.out, if_neg (by simp), if_neg (by omega)]⟩] at hins
        have Hins := Lib.hid hins
        have hn2b : n2 ≤ 1000 := by have := Hl2.out; have := Hlb.out; omega
        have cu1 := cutHE (A := A2) (n := n2) (c := c2) .i64 (at_ : Int) at_ rfl hat ho2.sl.cap.1
        have cu2 := cutLE (A := A2) (n := n2) (c := c2) .i64 (at_ : Int) at_ rfl hat ho2.sl.cap.1
        clear hins
        go_wp2_with fail
        have ho2 : OwnR (World.drew _) _ _ _ _ _ _ := OwnR.below ho2 (below_drew (Below.refl _ _))
        have kE := kE.drew
        have hq := below_drew hq
        clear x0 x1 x2 x3 x4
        generalize hW : World.drew _ = w0 at *
        refine regionF (fun _ wa wb => Below w0.heap.size w0 wa → Below w0.heap.size w0 wb) (by kernel_rfl) ?_
        rw [hW]
        clear hW
        have hX := Below.refl w0.heap.size w0
        refine takeP (i := 1) (v := ?_) rfl hX ?hy ?_
        case hy =>
          intro wS hSw
          clear hSw
          go_simp
          try with_reducible rfl
        refine takeP (i := 2) (v := ?_) rfl hX ?hy ?_
        case hy =>
          intro wS hSw
          clear hSw
          go_simp
          try with_reducible rfl
        refine takeP (i := 3) (v := ?_) rfl hX ?hy ?_
        case hy =>
          intro wS hSw
          clear hSw
          go_simp
          try with_reducible rfl
        refine takeP (i := 5) (v := ?_) rfl hX ?hy ?_
        case hy =>
          intro wS hSw
          obtain ⟨x0, x1, x2, x3, x4⟩ := kE.below hSw
          clear hSw
          go_simp
          try with_reducible rfl
        refine takeP (i := 8) (v := ?_) rfl hX ?hy ?_
        case hy =>
          intro wS hSw
          clear hSw
          go_simp
          try with_reducible rfl
        refine takeP (i := 9) (v := ?_) rfl hX ?hy ?_
        case hy =>
          intro wS hSw
          clear hSw
          go_simp
          try with_reducible rfl
        refine takeP (i := 10) (v := ?_) rfl hX ?hy ?_
        case hy =>
          intro wS hSw
          clear hSw
          go_simp
          try with_reducible rfl
        try simp only [List.getElem_toArray, List.getElem_cons_succ, List.getElem_cons_zero, Act.put, List.setIfInBounds_toArray, List.set_cons_zero, List.set_cons_succ]
        refine readyF (rs := [0, 6]) (by kernel_rfl) (by simp) ?_
        refine AllF.cons rfl (fun K hK => ?_) ?_
        · go_simp
          refine hK _ _ (fun h => h.alloc h.size _) ?_
          clear hK K
          have hb := (Below.refl w0.heap.size w0).alloc (Nat.le_refl _) (.cells #[] 45)
          generalize (w0.alloc (.cells #[] 45)) = w0_0 at *
          have hX := hX.trans (hb.mono hX.size)
          clear hb
          refine readyF (rs := [4, 6]) (by kernel_rfl) (by simp) ?_
          refine AllF.cons rfl (fun K hK => ?_) ?_
          · have hB : w.heap.size ≤ w0_0.heap.size := Nat.le_trans hq.size hX.size
            refine step_appR (α := EntL) (by rfl) (.tmp 52) (.tmp 55) 22 (by rfl) w.heap.size 45 _ 64 Tryd.underlying22 infoEnt rfl (some ⟨w0.heap.size, 0, none⟩) 0 0 ([]) (by rfl) (OwnR.nil w0_0 _ _ _) (fun b => b < w.heap.size ∨ NotTy w0_0 45 b) A2 (at_) (c2) (outs.take at_) (by rfl) ((OwnR.below ho2 hX).cutH hat) (fun b _ h => h) (by unfold maxLen; omega) (by omega) hB ?_
            intro A5 c5 w0_0_4 ho5 hg hx
            rw [Nat.zero_add] at ho5 ⊢
            have hb := (Below.refl w0_0.heap.size w0_0).grown hg (Nat.le_refl _) (fun b hb => by simp [blk] at hb)
            refine hK _ _ (fun h => h.trans (hb.mono h.size)) ?_
            clear hK K
            have Nho5 : Hid (∀ b, blk A5 c5 = some b → w0.heap.size ≤ b) := Lib.hid fun b h1 => by
              have := hX.size
              rcases hx with q | q
              · rw [q] at h1
                simp [blk] at h1
              · rw [q] at h1
                simp at h1
                omega
            clear hg hx hB
            have hX := hX.trans (hb.mono hX.size)
            clear hb
            refine readyF (rs := [6]) (by kernel_rfl) (by simp) ?_
            refine AllF.cons rfl (fun K hK => ?_) AllF.nil
            go_simp
            refine hK _ _ (fun h => h.alloc h.size _) ?_
            clear hK K
            have hb := (Below.refl w0_0_4.heap.size w0_0_4).alloc (Nat.le_refl _) (.cells #[.slice A3 n3 c3, .int .u64 (s : Int), .int .u8 (d : Int), .slice A4 n4 c4] 45)
            have hrow := entRow' Hs.out Hd.out (g3.below (by omega) (hq.trans (hX.mono hq.size))) (g4.below (by omega) (hq.trans (hX.mono hq.size))) (q := fun b => b < w.heap.size) (fun b hn e => g3.lt (by omega) hn b e) (fun b hn e => g4.lt (by omega) hn b e)
            generalize (w0_0_4.alloc (.cells #[.slice A3 n3 c3, .int .u64 (s : Int), .int .u8 (d : Int), .slice A4 n4 c4] 45)) = w0_0_4_6 at *
            have hX := hX.trans (hb.mono hX.size)
            have ho5 := OwnR.below ho5 hb
            clear hb
            refine readyF (rs := [7]) (by kernel_rfl) (by simp) ?_
            refine AllF.cons rfl (fun K hK => ?_) AllF.nil
            have hB : w.heap.size ≤ w0_0_4_6.heap.size := Nat.le_trans hq.size hX.size
            refine step_appR (α := EntL) (by rfl) (.tmp 56) (.tmp 58) 22 (by rfl) w.heap.size 45 _ 64 Tryd.underlying22 infoEnt rfl A5 at_ c5 ([] ++ outs.take at_) (by rfl) ho5 (fun b => b < w.heap.size) (some ⟨w0_0_4.heap.size, 0, none⟩) (1) (1) ([x]) (by rfl) hrow (fun b _ h => .inl h) (by unfold maxLen; omega) (by omega) hB ?_
            intro A6 c6 w0_0_4_6_7 ho6 hg hx
            refine hK _ _ (fun h => h.grown hg h.size (fun b hb => Nho5.out b hb)) ?_
            clear hK K
            have Nho6 : Hid (∀ b, blk A6 c6 = some b → w0.heap.size ≤ b) := Lib.hid fun b h1 => by
              have := hX.size
              rcases hx with q | q
              · exact Nho5.out b (q ▸ h1)
              · rw [q] at h1
                simp at h1
                omega
            have hX := hX.grown hg hX.size (fun b hb => Nho5.out b hb)
            clear hg hx hB
            refine readyF (rs := [11]) (by kernel_rfl) (by simp) ?_
            refine AllF.cons rfl (fun K hK => ?_) AllF.nil
            have hB : w.heap.size ≤ w0_0_4_6_7.heap.size := Nat.le_trans hq.size hX.size
            refine step_appR (α := EntL) (by rfl) (.tmp 59) (.tmp 62) 22 (by rfl) w.heap.size 45 _ 64 Tryd.underlying22 infoEnt rfl A6 (at_ + 1) c6 ([] ++ outs.take at_ ++ [x]) (by rfl) ho6 (fun b => b < w.heap.size ∨ NotTy w0_0_4_6_7 45 b) (if c2 = at_ then A2 else A2.map (·.add (at_ * 4))) ((n2 - at_)) ((c2 - at_)) (outs.drop at_) (by rfl) ((OwnR.below ho2 hX).cutL hat) (fun b _ h => h) (by unfold maxLen; omega) (by omega) hB ?_
            intro A7 c7 w0_0_4_6_7_11 ho7 hg hx
            refine hK _ _ (fun h => h.grown hg h.size (fun b hb => Nho6.out b hb)) ?_
            clear hK K
            have Nho7 : Hid (∀ b, blk A7 c7 = some b → w0.heap.size ≤ b) := Lib.hid fun b h1 => by
              have := hX.size
              rcases hx with q | q
              · exact Nho6.out b (q ▸ h1)
              · rw [q] at h1
                simp at h1
                omega
            have hX := hX.grown hg hX.size (fun b hb => Nho6.out b hb)
            clear hg hx hB
            refine takeP (i := 12) (v := ?_) rfl hX ?hy ?_
            case hy =>
              intro wS hSw
              clear hSw
              go_simp
              try with_reducible rfl
            try simp only [List.getElem_toArray, List.getElem_cons_succ, List.getElem_cons_zero, Act.put, List.setIfInBounds_toArray, List.set_cons_zero, List.set_cons_succ]
            refine doneF (by kernel_rfl) ?_ _
            try simp only [List.getElem_toArray, List.getElem_cons_succ, List.getElem_cons_zero, Act.put, List.setIfInBounds_toArray, List.set_cons_zero, List.set_cons_succ]
            go_wp2
            go_roundw
            case rel => exact ⟨j + 1, by have := Hjn.out; omega, by go_num, hq.trans (hX.mono hq.size), A7, _, c7, rfl, by rw [Hst.out, Hins.out]; simpa using ho7⟩
            case measure => have := Hjn.out; simp [intOf]; omega
          refine AllF.cons rfl (fun K hK => ?_) AllF.nil
          go_simp
          refine hK _ _ (fun h => h.alloc h.size _) ?_
          clear hK K
          have hb := (Below.refl w0_0.heap.size w0_0).alloc (Nat.le_refl _) (.cells #[.slice A3 n3 c3, .int .u64 (s : Int), .int .u8 (d : Int), .slice A4 n4 c4] 45)
          have hrow := entRow' Hs.out Hd.out (g3.below (by omega) (hq.trans (hX.mono hq.size))) (g4.below (by omega) (hq.trans (hX.mono hq.size))) (q := fun b => b < w.heap.size) (fun b hn e => g3.lt (by omega) hn b e) (fun b hn e => g4.lt (by omega) hn b e)
          generalize (w0_0.alloc (.cells #[.slice A3 n3 c3, .int .u64 (s : Int), .int .u8 (d : Int), .slice A4 n4 c4] 45)) = w0_0_6 at *
          have hX := hX.trans (hb.mono hX.size)
          clear hb
          refine readyF (rs := [4]) (by kernel_rfl) (by simp) ?_
          refine AllF.cons rfl (fun K hK => ?_) AllF.nil
          have hB : w.heap.size ≤ w0_0_6.heap.size := Nat.le_trans hq.size hX.size
          refine step_appR (α := EntL) (by rfl) (.tmp 52) (.tmp 55) 22 (by rfl) w.heap.size 45 _ 64 Tryd.underlying22 infoEnt rfl (some ⟨w0.heap.size, 0, none⟩) 0 0 ([]) (by rfl) (OwnR.nil w0_0_6 _ _ _) (fun b => b < w.heap.size ∨ NotTy w0_0_6 45 b) A2 (at_) (c2) (outs.take at_) (by rfl) ((OwnR.below ho2 hX).cutH hat) (fun b _ h => h) (by unfold maxLen; omega) (by omega) hB ?_
          intro A5 c5 w0_0_6_4 ho5 hg hx
          rw [Nat.zero_add] at ho5 ⊢
          have hb := (Below.refl w0_0_6.heap.size w0_0_6).grown hg (Nat.le_refl _) (fun b hb => by simp [blk] at hb)
          refine hK _ _ (fun h => h.trans (hb.mono h.size)) ?_
          clear hK K
          have Nho5 : Hid (∀ b, blk A5 c5 = some b → w0.heap.size ≤ b) := Lib.hid fun b h1 => by
            have := hX.size
            rcases hx with q | q
            · rw [q] at h1
              simp [blk] at h1
            · rw [q] at h1
              simp at h1
              omega
          clear hg hx hB
          have hX := hX.trans (hb.mono hX.size)
          have hrow := row_below hb hrow
          clear hb
          refine readyF (rs := [7]) (by kernel_rfl) (by simp) ?_
          refine AllF.cons rfl (fun K hK => ?_) AllF.nil
          have hB : w.heap.size ≤ w0_0_6_4.heap.size := Nat.le_trans hq.size hX.size
          refine step_appR (α := EntL) (by rfl) (.tmp 56) (.tmp 58) 22 (by rfl) w.heap.size 45 _ 64 Tryd.underlying22 infoEnt rfl A5 at_ c5 ([] ++ outs.take at_) (by rfl) ho5 (fun b => b < w.heap.size) (some ⟨w0_0.heap.size, 0, none⟩) (1) (1) ([x]) (by rfl) hrow (fun b _ h => .inl h) (by unfold maxLen; omega) (by omega) hB ?_
          intro A6 c6 w0_0_6_4_7 ho6 hg hx
          refine hK _ _ (fun h => h.grown hg h.size (fun b hb => Nho5.out b hb)) ?_
          clear hK K
          have Nho6 : Hid (∀ b, blk A6 c6 = some b → w0.heap.size ≤ b) := Lib.hid fun b h1 => by
            have := hX.size
            rcases hx with q | q
            · exact Nho5.out b (q ▸ h1)
            · rw [q] at h1
              simp at h1
              omega
          have hX := hX.grown hg hX.size (fun b hb => Nho5.out b hb)
          clear hg hx hB
          refine readyF (rs := [11]) (by kernel_rfl) (by simp) ?_
          refine AllF.cons rfl (fun K hK => ?_) AllF.nil
          have hB : w.heap.size ≤ w0_0_6_4_7.heap.size := Nat.le_trans hq.size hX.size
          refine step_appR (α := EntL) (by rfl) (.tmp 59) (.tmp 62) 22 (by rfl) w.heap.size 45 _ 64 Tryd.underlying22 infoEnt rfl A6 (at_ + 1) c6 ([] ++ outs.take at_ ++ [x]) (by rfl) ho6 (fun b => b < w.heap.size ∨ NotTy w0_0_6_4_7 45 b) (if c2 = at_ then A2 else A2.map (·.add (at_ * 4))) ((n2 - at_)) ((c2 - at_)) (outs.drop at_) (by rfl) ((OwnR.below ho2 hX).cutL hat) (fun b _ h => h) (by unfold maxLen; omega) (by omega) hB ?_
          intro A7 c7 w0_0_6_4_7_11 ho7 hg hx
          refine hK _ _ (fun h => h.grown hg h.size (fun b hb => Nho6.out b hb)) ?_
          clear hK K
          have Nho7 : Hid (∀ b, blk A7 c7 = some b → w0.heap.size ≤ b) := Lib.hid fun b h1 => by
            have := hX.size
            rcases hx with q | q
            · exact Nho6.out b (q ▸ h1)
            · rw [q] at h1
              simp at h1
              omega
          have hX := hX.grown hg hX.size (fun b hb => Nho6.out b hb)
          clear hg hx hB
          refine takeP (i := 12) (v := ?_) rfl hX ?hy ?_
          case hy =>
            intro wS hSw
            clear hSw
            go_simp
            try with_reducible rfl
          try simp only [List.getElem_toArray, List.getElem_cons_succ, List.getElem_cons_zero, Act.put, List.setIfInBounds_toArray, List.set_cons_zero, List.set_cons_succ]
          refine doneF (by kernel_rfl) ?_ _
          try simp only [List.getElem_toArray, List.getElem_cons_succ, List.getElem_cons_zero, Act.put, List.setIfInBounds_toArray, List.set_cons_zero, List.set_cons_succ]
          go_wp2
          go_roundw
          case rel => exact ⟨j + 1, by have := Hjn.out; omega, by go_num, hq.trans (hX.mono hq.size), A7, _, c7, rfl, by rw [Hst.out, Hins.out]; simpa using ho7⟩
          case measure => have := Hjn.out; simp [intOf]; omega
        refine AllF.cons rfl (fun K hK => ?_) AllF.nil
        go_simp
        refine hK _ _ (fun h => h.alloc h.size _) ?_
        clear hK K
        have hb := (Below.refl w0.heap.size w0).alloc (Nat.le_refl _) (.cells #[.slice A3 n3 c3, .int .u64 (s : Int), .int .u8 (d : Int), .slice A4 n4 c4] 45)
        have hrow := entRow' Hs.out Hd.out (g3.below (by omega) (hq.trans (hX.mono hq.size))) (g4.below (by omega) (hq.trans (hX.mono hq.size))) (q := fun b => b < w.heap.size) (fun b hn e => g3.lt (by omega) hn b e) (fun b hn e => g4.lt (by omega) hn b e)
        generalize (w0.alloc (.cells #[.slice A3 n3 c3, .int .u64 (s : Int), .int .u8 (d : Int), .slice A4 n4 c4] 45)) = w0_6 at *
        have hX := hX.trans (hb.mono hX.size)
        clear hb
        refine readyF (rs := [0]) (by kernel_rfl) (by simp) ?_
        refine AllF.cons rfl (fun K hK => ?_) AllF.nil
        go_simp
        refine hK _ _ (fun h => h.alloc h.size _) ?_
        clear hK K
        have hb := (Below.refl w0_6.heap.size w0_6).alloc (Nat.le_refl _) (.cells #[] 45)
        generalize (w0_6.alloc (.cells #[] 45)) = w0_6_0 at *
        have hX := hX.trans (hb.mono hX.size)
        have hrow := row_below hb hrow
        clear hb
        refine readyF (rs := [4]) (by kernel_rfl) (by simp) ?_
        refine AllF.cons rfl (fun K hK => ?_) AllF.nil
        have hB : w.heap.size ≤ w0_6_0.heap.size := Nat.le_trans hq.size hX.size
        refine step_appR (α := EntL) (by rfl) (.tmp 52) (.tmp 55) 22 (by rfl) w.heap.size 45 _ 64 Tryd.underlying22 infoEnt rfl (some ⟨w0_6.heap.size, 0, none⟩) 0 0 ([]) (by rfl) (OwnR.nil w0_6_0 _ _ _) (fun b => b < w.heap.size ∨ NotTy w0_6_0 45 b) A2 (at_) (c2) (outs.take at_) (by rfl) ((OwnR.below ho2 hX).cutH hat) (fun b _ h => h) (by unfold maxLen; omega) (by omega) hB ?_
        intro A5 c5 w0_6_0_4 ho5 hg hx
        rw [Nat.zero_add] at ho5 ⊢
        have hb := (Below.refl w0_6_0.heap.size w0_6_0).grown hg (Nat.le_refl _) (fun b hb => by simp [blk] at hb)
        refine hK _ _ (fun h => h.trans (hb.mono h.size)) ?_
        clear hK K
        have Nho5 : Hid (∀ b, blk A5 c5 = some b → w0.heap.size ≤ b) := Lib.hid fun b h1 => by
          have := hX.size
          rcases hx with q | q
          · rw [q] at h1
            simp [blk] at h1
          · rw [q] at h1
            simp at h1
            omega
        clear hg hx hB
        have hX := hX.trans (hb.mono hX.size)
        have hrow := row_below hb hrow
        clear hb
        refine readyF (rs := [7]) (by kernel_rfl) (by simp) ?_
        refine AllF.cons rfl (fun K hK => ?_) AllF.nil
        have hB : w.heap.size ≤ w0_6_0_4.heap.size := Nat.le_trans hq.size hX.size
        refine step_appR (α := EntL) (by rfl) (.tmp 56) (.tmp 58) 22 (by rfl) w.heap.size 45 _ 64 Tryd.underlying22 infoEnt rfl A5 at_ c5 ([] ++ outs.take at_) (by rfl) ho5 (fun b => b < w.heap.size) (some ⟨w0.heap.size, 0, none⟩) (1) (1) ([x]) (by rfl) hrow (fun b _ h => .inl h) (by unfold maxLen; omega) (by omega) hB ?_
        intro A6 c6 w0_6_0_4_7 ho6 hg hx
        refine hK _ _ (fun h => h.grown hg h.size (fun b hb => Nho5.out b hb)) ?_
        clear hK K
        have Nho6 : Hid (∀ b, blk A6 c6 = some b → w0.heap.size ≤ b) := Lib.hid fun b h1 => by
          have := hX.size
          rcases hx with q | q
          · exact Nho5.out b (q ▸ h1)
          · rw [q] at h1
            simp at h1
            omega
        have hX := hX.grown hg hX.size (fun b hb => Nho5.out b hb)
        clear hg hx hB
        refine readyF (rs := [11]) (by kernel_rfl) (by simp) ?_
        refine AllF.cons rfl (fun K hK => ?_) AllF.nil
        have hB : w.heap.size ≤ w0_6_0_4_7.heap.size := Nat.le_trans hq.size hX.size
        refine step_appR (α := EntL) (by rfl) (.tmp 59) (.tmp 62) 22 (by rfl) w.heap.size 45 _ 64 Tryd.underlying22 infoEnt rfl A6 (at_ + 1) c6 ([] ++ outs.take at_ ++ [x]) (by rfl) ho6 (fun b => b < w.heap.size ∨ NotTy w0_6_0_4_7 45 b) (if c2 = at_ then A2 else A2.map (·.add (at_ * 4))) ((n2 - at_)) ((c2 - at_)) (outs.drop at_) (by rfl) ((OwnR.below ho2 hX).cutL hat) (fun b _ h => h) (by unfold maxLen; omega) (by omega) hB ?_
        intro A7 c7 w0_6_0_4_7_11 ho7 hg hx
        refine hK _ _ (fun h => h.grown hg h.size (fun b hb => Nho6.out b hb)) ?_
        clear hK K
        have Nho7 : Hid (∀ b, blk A7 c7 = some b → w0.heap.size ≤ b) := Lib.hid fun b h1 => by
          have := hX.size
          rcases hx with q | q
          · exact Nho6.out b (q ▸ h1)
          · rw [q] at h1
            simp at h1
            omega
        have hX := hX.grown hg hX.size (fun b hb => Nho6.out b hb)
        clear hg hx hB
        refine takeP (i := 12) (v := ?_) rfl hX ?hy ?_
        case hy =>
          intro wS hSw
          clear hSw
          go_simp
          try with_reducible rfl
        try simp only [List.getElem_toArray, List.getElem_cons_succ, List.getElem_cons_zero, Act.put, List.setIfInBounds_toArray, List.set_cons_zero, List.set_cons_succ]
        refine doneF (by kernel_rfl) ?_ _
        try simp only [List.getElem_toArray, List.getElem_cons_succ, List.getElem_cons_zero, Act.put, List.setIfInBounds_toArray, List.set_cons_zero, List.set_cons_succ]
        go_wp2
        go_roundw
        case rel => exact ⟨j + 1, by have := Hjn.out; omega, by go_num, hq.trans (hX.mono hq.size), A7, _, c7, rfl, by rw [Hst.out, Hins.out]; simpa using ho7⟩
        case measure => have := Hjn.out; simp [intOf]; omega
      obtain ⟨b', o', A5, n5, c5, A6, n6, c6, hil2, rfl, f0, f1, f2, f3, g5, g6⟩ := (ho2.sl.below hbi).entAt hil
      have kE := kE.below hbi
      obtain ⟨x0, x1, x2, x3, x4⟩ := id kE
      have hst1 : aheadN (outs.take (i + 1)) x.key = if lessKey outs[i].key x.key = true then aheadN (outs.take i) x.key + 1 else aheadN (outs.take i) x.key := by
        unfold aheadN
        rw [List.take_succ_eq_append_getElem hil2, List.filter_append, List.length_append]
        by_cases hh : lessKey outs[i].key x.key = true
        · rw [if_pos hh]; simp [List.filter_cons, hh]
        · rw [if_neg hh]; simp [List.filter_cons, hh]
      have hst2 : ((outs.take (i + 1)).any fun y => decide (y.key = x.key)) = (((outs.take i).any fun y => decide (y.key = x.key)) || (outs[i].key == x.key)) := by
        rw [List.take_succ_eq_append_getElem hil2, List.any_append, Bool.eq_iff_iff]
        simp
      have c1 := fun w' (hb : Below wr.heap.size wr w') => klt_any w' A5 n5 c5 outs[i].key (g5.below (by omega) hb) A3 n3 c3 x.key (g3.below (by omega) ((hq.trans (hbi.mono hq.size)).trans (hb.mono (hq.trans (hbi.mono hq.size)).size)))
      have c2' := fun w' (hb : Below wr.heap.size wr w') => keq_any w' A5 n5 c5 outs[i].key (g5.below (by omega) hb) A3 n3 c3 x.key (g3.below (by omega) ((hq.trans (hbi.mono hq.size)).trans (hb.mono (hq.trans (hbi.mono hq.size)).size)))
      rw [Hs.out, Hd.out] at c1 c2'
      have hab : aheadN (outs.take i) x.key ≤ 1000 := by
        unfold aheadN
        have := List.length_filter_le (fun y : EntL => lessKey y.key x.key) (outs.take i)
        rw [List.length_take] at this
        have := Hl2.out; have := Hlb.out
        omega
      generalize lessKey outs[i].key x.key = lk at *
      generalize (outs[i].key == x.key) = eq at *
      generalize aheadN (outs.take i) x.key = at_ at *
      generalize ((outs.take i).any fun y => decide (y.key = x.key)) = tw at *
      generalize outs[i].key.seq.toNat = s5 at *
      generalize outs[i].key.kind.toNat = d5 at *
      have Hst1 := Lib.hid hst1
      have Hst2 := Lib.hid hst2
      have C1 := Lib.hid c1
      have C2 := Lib.hid c2'
      have Hi2 : Hid (i < n2) := hil
      clear hst1 hst2 c1 c2' g5 g6 hil2
      have al := (Below.refl wr.heap.size wr).alloc (Nat.le_refl _) (.cells #[.slice A5 n5 c5, .int .u64 (s5 : Int), .int .u8 (d5 : Int), .slice A6 n6 c6] 45)
      have kX := Bx4.fresh wr (.slice A5 n5 c5) (.int .u64 (s5 : Int)) (.int .u8 (d5 : Int)) (.slice A6 n6 c6) 45
      have kE := kE.below al
      generalize hW5 : (wr.alloc (.cells #[.slice A5 n5 c5, .int .u64 (s5 : Int), .int .u8 (d5 : Int), .slice A6 n6 c6] 45)) = w5 at *
      clear x0 x1 x2 x3 x4
      obtain ⟨x0, x1, x2, x3, x4⟩ := id kE
      obtain ⟨y0, y1, y2, y3, y4⟩ := id kX
      have hbi5 := hbi.trans (al.mono hbi.size)
      go_wp2_with fail
      try rw [hW5]
      clear hW5 x0 x1 x2 x3 x4 y0 y1 y2 y3 y4 f0 f1 f2 f3
      refine (C1.out _ al).mono ?_
      rintro e w6 ⟨rfl, hb6⟩
      have al := al.trans (hb6.mono al.size)
      have kE := kE.below hb6
      have kX := kX.below hb6
      have hbi6 := hbi5.trans (hb6.mono hbi5.size)
      clear hb6
      obtain ⟨x0, x1, x2, x3, x4⟩ := id kE
      obtain ⟨y0, y1, y2, y3, y4⟩ := id kX
      cases lk <;> cases tw
      · go_wp2_with fail
        refine (C2.out _ al).mono ?_
        rintro e w7 ⟨rfl, hb7⟩
        have hbi7 := hbi6.trans (hb7.mono hbi6.size)
        go_wp2
        go_roundw
        case rel => exact ⟨i + 1, by have := Hi2.out; omega, by rw [Hst1.out]; rfl, by rw [Hst2.out]; rfl, by go_num, hbi7⟩
        case measure => have := Hi2.out; simp [intOf]; omega
      · go_wp2
        go_roundw
        case rel => exact ⟨i + 1, by have := Hi2.out; omega, by rw [Hst1.out]; rfl, by rw [Hst2.out]; rfl, by go_num, hbi6⟩
        case measure => have := Hi2.out; simp [intOf]; omega
      · go_wp2_with fail
        refine (C2.out _ al).mono ?_
        rintro e w7 ⟨rfl, hb7⟩
        have hbi7 := hbi6.trans (hb7.mono hbi6.size)
        go_wp2
        go_roundw
        case rel => exact ⟨i + 1, by have := Hi2.out; omega, by rw [Hst1.out]; first | rfl | go_num, by rw [Hst2.out]; rfl, by go_num, hbi7⟩
        case measure => have := Hi2.out; simp [intOf]; omega
      · go_wp2
        go_roundw
        case rel => exact ⟨i + 1, by have := Hi2.out; omega, by rw [Hst1.out]; first | rfl | go_num, by rw [Hst2.out]; rfl, by go_num, hbi6⟩
        case measure => have := Hi2.out; simp [intOf]; omega
end Go.Proofs.YtpffieogkfndaaaDoor
