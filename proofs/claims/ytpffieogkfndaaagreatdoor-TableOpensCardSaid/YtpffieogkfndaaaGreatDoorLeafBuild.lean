/-
  leaf.Build: what bytes entries make. (Printed by genleaf4.py.) No condition.
-/
import Derived.Test.YtpffieogkfndaaaGreatDoorJLeafCommon
import Derived.Deep.CutRange
namespace Go.Proofs.YtpffieogkfndaaaGreatDoor
open Go.RowKit
set_option maxRecDepth 20000
set_option linter.unusedVariables false
set_option linter.unusedSimpArgs false
set_option maxHeartbeats 16000000 in
theorem build12_any (w : World) (p : Nat → Prop) (A : Option Addr) (n c : Nat) (ls : List EntL) (h : SlR w p A n c ls) :
    Calls Tryz.prog 41 #[.slice A n c] w (GotBE w (leafBE ls).1 (leafBE ls).2) := by
  have hl := h.lenR
  have ck := check12_any w p A n c ls h
  unfold leafBE
  by_cases hc : checkLeafL ls = 0
  case neg =>
    rw [if_neg hc]
    generalize checkLeafL ls = q at *
    have t1 : ((q : Int) == 0) = false := by rw [beq_eq_false_iff_ne]; omega
    have t2 : ((q : Int) != 0) = true := by rw [bne_iff_ne]; omega
    have Ck := Lib.hid ck
    clear hc ck
    go_enter Tryz.func41, Tryz.ntmps41
    go_wp2_with fail
    refine Ck.out.mono ?_
    rintro e w1 ⟨rfl, hb1⟩
    go_wp2
    go_ret2
    exact ⟨none, 0, 0, rfl, Own.nil _ _ _ _ _, hb1⟩
  rw [if_pos hc]
  rw [hc] at ck
  obtain ⟨hn64, hok, _⟩ := checkLeaf_zero hc
  have Ck := Lib.hid ck
  have Hck := Lib.hid hc
  have Hok := Lib.hid hok
  have Hl := Lib.hid hl
  have hn : n ≤ 64 := by omega
  clear ck hc hok hl hn64
  go_enter Tryz.func41, Tryz.ntmps41
  go_wp2_with fail
  refine Ck.out.mono ?_
  rintro e w1 ⟨rfl, hb1⟩
  clear Ck
  go_wp2
  go_loopw [5, 6, 7, 19] (fun o a s i wr => ∃ j : Nat, j ≤ n ∧ i = .int .i64 j ∧ Below w.heap.size w wr ∧ ∃ A5 n5 c5, o = .slice A5 n5 c5 ∧ OwnB wr w.heap.size A5 n5 c5 (leafBodyL 0 [] (ls.take j)) ∧
    ∃ A6 n6 c6, a = .slice A6 n6 c6 ∧ Sl wr 1 A6 n6 c6 (bc (lastF [] (ls.take j))) ∧ ∃ A7 n7 c7, s = .slice A7 n7 c7 ∧ OwnB wr w.heap.size A7 n7 c7 (twosL (startsL (ls.take j))) ∧ ∀ b, blk A5 c5 = some b → blk A7 c7 ≠ some b) (fun _ _ _ i _ => n - (intOf i).toNat)
  case atStart => exact ⟨0, Nat.zero_le _, rfl, hb1, none, 0, 0, rfl, Own.nil _ _ _ _ _, none, 0, 0, rfl, sl_none _, none, 0, 0, rfl, Own.nil _ _ _ _ _, fun b h => by simp [blk] at h⟩
  case round =>
    clear hb1
    obtain ⟨j, hj, rfl, hbr, A5, n5, c5, rfl, ho5, A6, n6, c6, rfl, s6, A7, n7, c7, rfl, ho7, hx57⟩ := hrel
    by_cases hlt : j < n
    case neg =>
      obtain rfl : n = j := by omega
      rw [List.take_of_length_le (by have := Hl.out; omega)] at ho5 ho7
      have hn7 := OwnB.len' ho7
      rw [twosL_len] at hn7
      have hsl := starts_len ls
      have hn5 := OwnB.len' ho5
      have hbl := leafBody_len ls 0 [] Hok.out
      have hm1 : (n7 : Int) / 2 = ((startsL ls).length : Int) := by omega
      have hlb : leafBytesL ls = leafBodyL 0 [] ls ++ (twosL (startsL ls) ++ twoL (startsL ls).length) := rfl
      have hfl : [leafBodyL 0 [] ls, twosL (startsL ls), twoL (startsL ls).length].flatten = leafBytesL ls := by rw [hlb]; simp
      have htot : (leafBytesL ls).length ≤ 100000 := by have := leaf_len ls Hck.out; omega
      have hml : (startsL ls).length < 1000000000 := by have := Hl.out; omega
      have c2 := fun w' => two_any (startsL ls).length w' hml
      generalize leafBodyL 0 [] ls = out at *
      generalize twosL (startsL ls) = st at *
      generalize (startsL ls).length = m at *
      generalize leafBytesL ls = T at *
      generalize twoL m = tm at *
      have C2 := Lib.hid c2
      have Hfl := Lib.hid hfl
      have Htot := Lib.hid htot
      clear hn7 hsl hn5 hbl hlb hfl htot c2 hlt hx57 s6
      go_wp2_with fail
      refine (C2.out _).mono ?_
      rintro e w3 ⟨A8, n8, c8, rfl, ho8, hb3⟩
      have q3 := hbr.trans (hb3.mono hbr.size)
      have s5 := (OwnB.sl ho5).below (by omega) hb3
      have s7 := (OwnB.sl ho7).below (by omega) hb3
      have s8 := OwnB.sl ho8
      clear ho5 ho7 ho8
      have al := (Below.refl w3.heap.size w3).alloc (Nat.le_refl _) (.cells #[.slice A5 n5 c5, .slice A7 n7 c7, .slice A8 n8 c8] 29)
      have hlit := Sl.lit w3 29 (0, 0) 3 #[.slice A5 n5 c5, .slice A7 n7 c7, .slice A8 n8 c8] _ rfl (by unfold maxLen; omega) rfl
      have hpo := parts_cons (s5.below (by omega) al) (parts_cons (s7.below (by omega) al) (parts_cons (s8.below (by omega) al) (parts_nil _)))
      have q4 := q3.trans (al.mono q3.size)
      clear s5 s7 s8 al hb3
      have cj := ajoin_any _ _ 3 3 _ _ hlit hpo (by omega) (by rw [Hfl.out]; have := Htot.out; omega)
      rw [Hfl.out] at cj
      go_wp2_with fail
      refine cj.mono ?_
      rintro e w5 ⟨A9, n9, c9, rfl, ho9, hb5⟩
      go_wp2
      go_ret2
      exact ⟨A9, n9, c9, rfl, Own.mono ho9 q4.size, q4.trans (hb5.mono q4.size)⟩
    have L5 := Lib.hid fun b hb => (Own.lt ho5 b hb).2
    have L70 := Lib.hid fun b hb => (Own.lt ho7 b hb).2
    have D57 := Lib.hid hx57
    clear hx57
    obtain ⟨b, o, A3, n3, c3, A4, n4, c4, hjl, rfl, d0, d1, d2, d3, g3, g4⟩ := h.entAt hlt
    have d0 := stays hbr d0
    have d1 := stays hbr d1
    have d2 := stays hbr d2
    have d3 := stays hbr d3
    have hck := Hok.out ls[j] (List.getElem_mem hjl)
    have hkb := checkKey_bounds hck.1
    have hn3 := g3.lenb
    have hn4 := g4.lenb
    have hbody := leafBody_snoc (ls.take j) ls[j] 0 []
    rw [← List.take_succ_eq_append_getElem hjl, List.length_take, Nat.min_eq_left (by omega), Nat.zero_add] at hbody
    have hlast : lastF [] (ls.take (j + 1)) = fullL ls[j].key := by rw [List.take_succ_eq_append_getElem hjl]; exact lastF_snoc _ _ _
    have hbl := leafBody_len (ls.take (j + 1)) 0 [] (fun e he => Hok.out e (List.mem_of_mem_take he))
    rw [List.length_take, Nat.min_eq_left (by omega), hbody, List.length_append] at hbl
    have hn5 := OwnB.len' ho5
    have hst : twosL (startsL (ls.take (j + 1))) = if j % 4 = 0 then twosL (startsL (ls.take j)) ++ twoL n5 else twosL (startsL (ls.take j)) := by
      rw [starts_step ls j hjl, hn5]
      by_cases h4 : j % 4 = 0
      · rw [if_pos h4, if_pos h4]
        exact twosL_snoc _ _
      · rw [if_neg h4, if_neg h4, List.append_nil]
    have hn7 := OwnB.len' ho7
    rw [twosL_len, starts_len, List.length_take] at hn7
    have hfull := fullL_len ls[j].key
    have hkn := (leafN_le j (lastF [] (ls.take j)) (fullL ls[j].key)).2
    have cf := fun w' (hb : Below w.heap.size w w') => form12_any w' A3 n3 c3 ls[j].key (g3.below (by omega) hb) hkb.1 (by omega)
    have Hkn := Lib.hid (show leafN j (lastF [] (ls.take j)) (fullL ls[j].key) = if j % 4 = 0 then 0 else commonL (lastF [] (ls.take j)) (fullL ls[j].key) from rfl)
    have hv512 := hck.2
    have hu64 := hkb.2.2.1
    have Hbody := Lib.hid hbody
    have Hlast := Lib.hid hlast
    have Hst := Lib.hid hst
    generalize leafN j (lastF [] (ls.take j)) (fullL ls[j].key) = k at *
    generalize fullL ls[j].key = F at *
    generalize ls[j].value = v at *
    generalize ls[j].key.user = u at *
    generalize ls[j].key.seq.toNat = s at *
    generalize ls[j].key.kind.toNat = d at *
    generalize leafBodyL 0 [] (ls.take j) = out at *
    generalize lastF [] (ls.take j) = a at *
    generalize twosL (startsL (ls.take j)) = st at *
    have Cf := Lib.hid cf
    have Hfull : Hid (F.length ≤ 72) := by unfold Hid; omega
    have hn4b : n4 ≤ 512 := by omega
    have Hbl : Hid (out.length + (leafEntL k F v).length ≤ 100000) := by unfold Hid; omega
    have Hn5 := Lib.hid hn5
    have hn5b : n5 ≤ 100000 := by omega
    have hn7b : n7 ≤ 1000 := by omega
    have Hn4 := Lib.hid hn4
    have Hjn : Hid (j < n) := hlt
    clear hck hkb hn3 hn4 hbody hlast hst hbl hn5 hn7 hfull cf hv512 hu64 hj hjl
    have hal := (Below.refl wr.heap.size wr).alloc (Nat.le_refl _) (.cells #[.slice A3 n3 c3, .int .u64 (s : Int), .int .u8 (d : Int), .slice A4 n4 c4] 69)
    have kE := Bx4.fresh wr (.slice A3 n3 c3) (.int .u64 (s : Int)) (.int .u8 (d : Int)) (.slice A4 n4 c4) 69
    generalize hW : (wr.alloc (.cells #[.slice A3 n3 c3, .int .u64 (s : Int), .int .u8 (d : Int), .slice A4 n4 c4] 69)) = w1 at *
    obtain ⟨x0, x1, x2, x3, x4⟩ := id kE
    go_wp2_with fail
    try rw [hW]
    clear hW x0 x1 x2 x3 x4 d0 d1 d2 d3
    have hq := hbr.trans (hal.mono hbr.size)
    have zr : wr.heap.size < w1.heap.size := kE.lt
    have ho5 : OwnB w1 _ _ _ _ _ := Own.below ho5 hal
    have ho7 : OwnB w1 _ _ _ _ _ := Own.below ho7 hal
    have s6 := s6.below (by omega) hal
    refine (Cf.out _ hq).mono ?_
    rintro e w2 ⟨A8, n8, c8, rfl, ho8, hb2⟩
    have kE := kE.below hb2
    have hq := hq.trans (hb2.mono hq.size)
    have ho5 : OwnB w2 _ _ _ _ _ := Own.below ho5 hb2
    have ho7 : OwnB w2 _ _ _ _ _ := Own.below ho7 hb2
    have s6 := s6.below (by omega) hb2
    clear hb2 hal
    have hn8 := OwnB.len' ho8
    have hkn : k ≤ n8 := by omega
    have hn8b : n8 ≤ 72 := by have := Hfull.out; omega
    have Hfl : Hid ([numL k, numL (n8 - k), numL n4, F.drop k, v].flatten = leafEntL k F v) := by unfold Hid leafEntL; rw [hn8, Hn4.out]; simp
    clear hn8
    go_wp2_with fail
    refine (common_any w2 A6 n6 c6 a s6 A8 n8 c8 F (OwnB.sl ho8)).mono ?_
    rintro e w3 ⟨rfl, hb3⟩
    have kE := kE.below hb3
    have hq := hq.trans (hb3.mono hq.size)
    have ho5 : OwnB w3 _ _ _ _ _ := Own.below ho5 hb3
    have ho7 : OwnB w3 _ _ _ _ _ := Own.below ho7 hb3
    have ho8 : OwnB w3 _ _ _ _ _ := Own.below ho8 hb3
    clear hb3 s6
    generalize hz1 : w1.heap.size = z1 at *
    go_upto_if 32 with (fail)
    go_cut [7, 11] from 20 to 62 (fun s7 s11 wx => ∃ A7 n7 c7, s7 = .slice A7 n7 c7 ∧ s11 = .int .i64 (k : Int) ∧ Below w.heap.size w wx ∧ OwnB wx w.heap.size A7 n7 c7 (twosL (startsL (ls.take (j + 1)))) ∧ OwnB wx w.heap.size A5 n5 c5 out ∧ OwnB wx z1 A8 n8 c8 F ∧ Bx4 wx wr.heap.size (.slice A3 n3 c3) (.int .u64 (s : Int)) (.int .u8 (d : Int)) (.slice A4 n4 c4) ∧ ∀ b, blk A5 c5 = some b → blk A7 c7 ≠ some b)
    case first =>
      by_cases h4 : j % 4 = 0
      case neg =>
        have e4 : ((j : Int) % 4 == 0) = false := by rw [beq_eq_false_iff_ne]; omega
        have hk := Hkn.out
        rw [if_neg h4] at hk
        have hst := Hst.out
        rw [if_neg h4] at hst
        have Hst := Lib.hid hst
        have Hk := Lib.hid hk
        clear hst h4 Hkn Hn5 hk
        go_wp2_with fail
        go_meet
        exact ⟨A7, n7, c7, rfl, by rw [Hk.out], hq, by rw [Hst.out]; exact ho7, ho5, ho8, kE, D57.out⟩
      case pos =>
        have e4 : ((j : Int) % 4 == 0) = true := by rw [beq_iff_eq]; omega
        have hk := Hkn.out
        rw [if_pos h4] at hk
        have hst := Hst.out
        rw [if_pos h4] at hst
        have Hst := Lib.hid hst
        have Hk := Lib.hid hk
        clear hst h4 Hkn Hn5 hk
        go_wp2_with fail
        refine (two_any n5 w3 (by omega)).mono ?_
        rintro e w4 ⟨A9, n9, c9, rfl, ho9, hb4⟩
        have kE := kE.below hb4
        have hq := hq.trans (hb4.mono hq.size)
        have ho5 : OwnB w4 _ _ _ _ _ := Own.below ho5 hb4
        have ho7 : OwnB w4 _ _ _ _ _ := Own.below ho7 hb4
        have ho8 : OwnB w4 _ _ _ _ _ := Own.below ho8 hb4
        have zw := kE.lt
        have hn9 := OwnB.len' ho9
        have hn9' : n9 ≤ 2 := by rw [← hn9]; simp [twoL]
        clear hb4 hn9
        go_wp2_with (at_builtin; refine wpList_appB _ rfl (.tmp 33) (.tmp 36) rfl w.heap.size A7 n7 c7 _ rfl ho7 A9 n9 c9 _ rfl (OwnB.sl ho9) ?_ ?_ ?_)
        · omega
        · exact hq.size
        intro A10 c10 w5 ho10 hg hx10
        have kE := kE.grownO hg (fun e => by have := L70.out _ e; omega)
        have ho5 : OwnB w5 _ _ _ _ _ := Own.grown ho5 hg (fun b h1 h2 => D57.out b h1 h2)
        have ho8 : OwnB w5 _ _ _ _ _ := Own.grown ho8 hg (fun b h1 h2 => by have := (Own.lt ho8 b h1).1; have := L70.out b h2; omega)
        have D57 : Hid (∀ b, blk A5 c5 = some b → blk A10 c10 ≠ some b) := Lib.hid fun b h1 h2 => by
          rcases hx10 with e | e
          · exact D57.out b h1 (e ▸ h2)
          · rw [e] at h2
            have := L5.out b h1
            simp at h2
            omega
        have hq := hq.grown hg hq.size (fun b hb => (Own.lt ho7 b hb).1)
        clear ho7 ho9 hg hx10 L70 e4
        go_wp2_with fail
        go_meet
        exact ⟨A10, _, c10, rfl, by rw [Hk.out]; rfl, hq, by rw [Hst.out]; exact ho10, ho5, ho8, kE, D57.out⟩
    case rest =>
      obtain ⟨A7, n7, c7, rfl, rfl, hq, ho7, ho5, ho8, kE, D57⟩ := hcut
      have D57 := Lib.hid D57
      clear L70 Hkn Hn5
      obtain ⟨A14, hrun, s14, _⟩ := cutL (OwnB.sl ho8) .i64 (k : Int) k rfl hkn
      have hk63 : k < 18446744073709551616 := by omega
      have hk1 : IntKind.u64.wrap (k : Int) = (k : Int) := by rw [IntKind.wrap_u64]; omega
      have hk2 : IntKind.i64.wrap ((n8 : Int) - (k : Int)) = ((n8 - k : Nat) : Int) := by rw [IntKind.wrap_i64]; omega
      have hk3 : IntKind.u64.wrap ((n8 - k : Nat) : Int) = ((n8 - k : Nat) : Int) := by rw [IntKind.wrap_u64]; omega
      have hk4 : IntKind.u64.wrap (n4 : Int) = (n4 : Int) := by rw [IntKind.wrap_u64]; omega
      go_wp2_with fail
      have hq := below_drew hq
      have ho5 : OwnB (World.drew _) _ _ _ _ _ := Own.drew ho5
      have ho7 : OwnB (World.drew _) _ _ _ _ _ := Own.drew ho7
      have ho8 : OwnB (World.drew _) _ _ _ _ _ := Own.drew ho8
      have kE := kE.drew
      have s14 := s14.drew
      have s4 := g4.below (by omega) hq
      have L7 := Lib.hid fun b hb => (Own.lt ho7 b hb).2
      have L8 := Lib.hid fun b hb => (Own.lt ho8 b hb)
      generalize hW : World.drew _ = w0 at *
      refine regionF (fun _ wa wb => Bx4 wa wr.heap.size (.slice A3 n3 c3) (.int .u64 (s : Int)) (.int .u8 (d : Int)) (.slice A4 n4 c4) → Bx4 wb wr.heap.size (.slice A3 n3 c3) (.int .u64 (s : Int)) (.int .u8 (d : Int)) (.slice A4 n4 c4)) (by kernel_rfl) ?_
      rw [hW]
      clear hW
      have hX := Below.refl w0.heap.size w0
      refine takeP (i := 0) (v := ?_) rfl kE ?hy ?_
      case hy =>
        intro wS hSw
        clear hSw
        go_simp
        try with_reducible rfl
      refine takeP (i := 1) (v := ?_) rfl kE ?hy ?_
      case hy =>
        intro wS hSw
        clear hSw
        go_simp
        try with_reducible rfl
      refine takeP (i := 2) (v := ?_) rfl kE ?hy ?_
      case hy =>
        intro wS hSw
        clear hSw
        go_simp
        try with_reducible rfl
      refine takeP (i := 4) (v := ?_) rfl kE ?hy ?_
      case hy =>
        intro wS hSw
        clear hSw
        go_simp
        try with_reducible rfl
      refine takeP (i := 5) (v := ?_) rfl kE ?hy ?_
      case hy =>
        intro wS hSw
        clear hSw
        go_simp
        try with_reducible rfl
      refine takeP (i := 6) (v := ?_) rfl kE ?hy ?_
      case hy =>
        intro wS hSw
        clear hSw
        go_simp
        try with_reducible rfl
      refine takeP (i := 7) (v := ?_) rfl kE ?hy ?_
      case hy =>
        intro wS hSw
        clear hSw
        go_simp
        try with_reducible rfl
      refine takeP (i := 8) (v := ?_) rfl kE ?hy ?_
      case hy =>
        intro wS hSw
        clear hSw
        go_simp
        try with_reducible rfl
      refine takeP (i := 10) (v := ?_) rfl kE ?hy ?_
      case hy =>
        intro wS hSw
        clear hSw
        go_simp
        try with_reducible rfl
      refine takeP (i := 11) (v := ?_) rfl kE ?hy ?_
      case hy =>
        intro wS hSw
        obtain ⟨x0, x1, x2, x3, x4⟩ := id hSw
        clear hSw
        go_simp
        try with_reducible rfl
      refine takeP (i := 12) (v := ?_) rfl kE ?hy ?_
      case hy =>
        intro wS hSw
        clear hSw
        go_simp
        try with_reducible rfl
      refine takeP (i := 13) (v := ?_) rfl kE ?hy ?_
      case hy =>
        intro wS hSw
        clear hSw
        go_simp
        try with_reducible rfl
      refine takeP (i := 15) (v := ?_) rfl kE ?hy ?_
      case hy =>
        intro wS hSw
        clear hSw
        go_simp
        try with_reducible rfl
      refine takeP (i := 16) (v := ?_) rfl kE ?hy ?_
      case hy =>
        intro wS hSw
        clear hSw
        go_simp
        try with_reducible rfl
      refine takeP (i := 17) (v := ?_) rfl kE ?hy ?_
      case hy =>
        intro wS hSw
        clear hSw
        go_simp
        try with_reducible rfl
      refine takeP (i := 18) (v := ?_) rfl kE ?hy ?_
      case hy =>
        intro wS hSw
        clear hSw
        go_simp
        try with_reducible rfl
      refine takeP (i := 19) (v := ?_) rfl kE ?hy ?_
      case hy =>
        intro wS hSw
        obtain ⟨x0, x1, x2, x3, x4⟩ := id hSw
        clear hSw
        go_simp
        try with_reducible rfl
      try simp only [List.getElem_toArray, List.getElem_cons_succ, List.getElem_cons_zero, Act.put, List.setIfInBounds_toArray, List.set_cons_zero, List.set_cons_succ]
      refine readyF (rs := [3]) (by kernel_rfl) (by simp) ?_
      refine AllF.cons rfl (fun K hK => ?_) AllF.nil
      go_simp
      refine (num_any k _ hk63).mono ?_
      rintro e w0_3 ⟨A11, n11, c11, rfl, ho11, hb⟩
      refine hK _ _ (fun h => h.below hb) ?_
      clear hK K
      have kE := kE.below hb
      have hX := hX.trans (hb.mono hX.size)
      clear hb
      have s11 := OwnB.sl ho11
      clear ho11
      refine readyF (rs := [9]) (by kernel_rfl) (by simp) ?_
      refine AllF.cons rfl (fun K hK => ?_) AllF.nil
      go_simp
      refine (num_any (n8 - k) _ (by omega)).mono ?_
      rintro e w0_3_9 ⟨A12, n12, c12, rfl, ho12, hb⟩
      refine hK _ _ (fun h => h.below hb) ?_
      clear hK K
      have kE := kE.below hb
      have hX := hX.trans (hb.mono hX.size)
      have s11 := s11.below (by omega) hb
      clear hb
      have s12 := OwnB.sl ho12
      clear ho12
      refine readyF (rs := [14]) (by kernel_rfl) (by simp) ?_
      refine AllF.cons rfl (fun K hK => ?_) AllF.nil
      go_simp
      refine (num_any n4 _ (by omega)).mono ?_
      rintro e w0_3_9_14 ⟨A13, n13, c13, rfl, ho13, hb⟩
      refine hK _ _ (fun h => h.below hb) ?_
      clear hK K
      have kE := kE.below hb
      have hX := hX.trans (hb.mono hX.size)
      have s11 := s11.below (by omega) hb
      have s12 := s12.below (by omega) hb
      clear hb
      have s13 := OwnB.sl ho13
      clear ho13
      refine readyF (rs := [20]) (by kernel_rfl) (by simp) ?_
      refine AllF.cons rfl (fun K hK => ?_) AllF.nil
      go_simp
      refine hK _ _ (fun h => h.below ((Below.refl _ _).alloc (Nat.le_refl _) _)) ?_
      clear hK K
      have hb := (Below.refl w0_3_9_14.heap.size w0_3_9_14).alloc (Nat.le_refl _) (.cells #[.slice A11 n11 c11, .slice A12 n12 c12, .slice A13 n13 c13, .slice A14 (n8 - k) (c8 - k), .slice A4 n4 c4] 29)
      have hlit := Sl.lit w0_3_9_14 29 (0, 0) 5 #[.slice A11 n11 c11, .slice A12 n12 c12, .slice A13 n13 c13, .slice A14 (n8 - k) (c8 - k), .slice A4 n4 c4] _ rfl (by unfold maxLen; omega) rfl
      generalize (w0_3_9_14.alloc (.cells #[.slice A11 n11 c11, .slice A12 n12 c12, .slice A13 n13 c13, .slice A14 (n8 - k) (c8 - k), .slice A4 n4 c4] 29)) = w0_3_9_14_20 at *
      have kE := kE.below hb
      have hX := hX.trans (hb.mono hX.size)
      have s11 := s11.below (by omega) hb
      have s12 := s12.below (by omega) hb
      have s13 := s13.below (by omega) hb
      clear hb
      have hpo := parts_cons s11 (parts_cons s12 (parts_cons s13 (parts_cons (s14.below (by omega) hX) (parts_cons (s4.below (by omega) hX) (parts_nil _)))))
      refine readyF (rs := [21]) (by kernel_rfl) (by simp) ?_
      refine AllF.cons rfl (fun K hK => ?_) AllF.nil
      go_simp
      refine (ajoin_any w0_3_9_14_20 _ 5 5 _ _ hlit hpo (by omega) (by rw [Hfl.out]; have := Hbl.out; omega)).mono ?_
      rintro e w0_3_9_14_20_21 ⟨A15, n15, c15, rfl, ho15, hb⟩
      refine hK _ _ (fun h => h.below hb) ?_
      clear hK K
      rw [Hfl.out] at ho15
      have kE := kE.below hb
      have hX := hX.trans (hb.mono hX.size)
      have s11 := s11.below (by omega) hb
      have s12 := s12.below (by omega) hb
      have s13 := s13.below (by omega) hb
      clear hb
      refine readyF (rs := [22]) (by kernel_rfl) (by simp) ?_
      refine AllF.cons rfl (fun K hK => ?_) AllF.nil
      have zX := hX.size
      have ho5 := Own.below ho5 hX
      have s15 := OwnB.sl ho15
      refine step_appB (by rfl) (.tmp 38) (.tmp 59) (by rfl) w.heap.size A5 n5 c5 (out) (by rfl) ho5 A15 n15 c15 (leafEntL k F v) (by rfl) s15 (by have h1 := OwnB.len' ho5; have h2 := s15.lenb; have := Hbl.out; omega) (by have := hq.size; omega) ?_
      intro A16 c16 w0_3_9_14_20_21_22 ho16 hg hx16
      have hne : blk A5 c5 ≠ some wr.heap.size := fun e => by have := L5.out _ e; omega
      refine hK _ _ (fun h => h.grownO hg hne) ?_
      clear hK K
      have kE := kE.grownO hg hne
      have hqN := (hq.trans (hX.mono hq.size)).grown hg (by have := hq.size; omega) (fun b hb => (Own.lt ho5 b hb).1)
      have ho8N := Own.grown (Own.below ho8 hX) hg (fun b h1 h2 => by have := L8.out b h1; have := L5.out b h2; omega)
      have ho7N := Own.grown (Own.below ho7 hX) hg (fun b h1 h2 => D57.out b h2 h1)
      have hx57N : ∀ b, blk A16 c16 = some b → blk A7 c7 ≠ some b := fun b h1 h2 => by
        rcases hx16 with e | e
        · exact D57.out b (e ▸ h1) h2
        · rw [e] at h1
          have := L7.out b h2
          simp at h1
          omega
      clear hX ho5 s15 ho15 hlit hpo ho7 ho8 s14 s4 hg hx16 s11 s12 s13 hq hne
      refine takeP (i := 23) (v := ?_) rfl kE ?hy ?_
      case hy =>
        intro wS hSw
        clear hSw
        go_simp
        try with_reducible rfl
      try simp only [List.getElem_toArray, List.getElem_cons_succ, List.getElem_cons_zero, Act.put, List.setIfInBounds_toArray, List.set_cons_zero, List.set_cons_succ]
      refine doneF (by kernel_rfl) ?_ _
      try simp only [List.getElem_toArray, List.getElem_cons_succ, List.getElem_cons_zero, Act.put, List.setIfInBounds_toArray, List.set_cons_zero, List.set_cons_succ]
      go_wp2
      go_roundw
      case rel => exact ⟨j + 1, by have := Hjn.out; omega, by go_num, hqN, A16, _, c16, rfl, by rw [Hbody.out]; exact ho16, A8, n8, c8, rfl, by rw [Hlast.out]; exact OwnB.sl ho8N, A7, n7, c7, rfl, ho7N, hx57N⟩
      case measure => have := Hjn.out; simp [intOf]; omega
end Go.Proofs.YtpffieogkfndaaaGreatDoor
