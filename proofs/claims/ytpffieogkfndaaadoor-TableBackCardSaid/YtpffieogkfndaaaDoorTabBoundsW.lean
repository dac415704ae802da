/-
  A table's bounds. No condition but a size. (Printed by gentabbounds.py.)
-/
import Derived.Test.YtpffieogkfndaaaDoorJTabIndexW
import Derived.Test.YtpffieogkfndaaaDoorJLeafVersion
import Derived.Test.YtpffieogkfndaaaDoorJBatchReadW
namespace Go.Proofs.YtpffieogkfndaaaDoor
open Go.RowKit
set_option maxRecDepth 20000
set_option linter.unusedVariables false
set_option linter.unusedSimpArgs false
def BdP (b o o2 : Nat) (v v2 : Value) (w : World) : Prop := w.cell? ⟨b, o, none⟩ = some v ∧ w.cell? ⟨b, o2, none⟩ = some v2
theorem BdP.below {b o o2 : Nat} {v v2 : Value} {w w' : World} (h : BdP b o o2 v v2 w) (hb : Below w.heap.size w w') : BdP b o o2 v v2 w' := ⟨stays hb h.1, stays hb h.2⟩
set_option maxHeartbeats 16000000 in
theorem tbounds_any (w : World) (B g : Nat) (l : List EntL) (sp : List SpanL) (hc : checkTabL l sp = 0) (hT : TabIs w B g l sp) (hn : (tabBytesL l sp).length ≤ 65536) (hq : Quarter w) :
    Calls Tryd.prog 17 #[.pointer (some ⟨g, 0, none⟩)] w fun e w' => ∃ A n c A' n' c', e = .returned (.tuple #[.slice A n c, .slice A' n' c']) ∧ Sl w' 1 A n c (bc (boundsL l sp).1) ∧ Sl w' 1 A' n' c' (bc (boundsL l sp).2) ∧ Below w.heap.size w w' := by
  obtain ⟨R, hR⟩ : ∃ R, boundsL l sp = R := ⟨_, rfl⟩
  rw [hR]
  have HRR := Lib.hid hR
  clear hR
  have k1 := tabents_any w B g l sp hc hT hn hq
  have K1 := Lib.hid k1
  clear k1
  go_enter Tryd.func17, Tryd.ntmps17
  go_wp2_with fail
  refine K1.out.mono ?_
  rintro e w1 ⟨A1, n1, c1, rfl, r1, hb1⟩
  have hbr := hb1
  have hT := hT.below hb1
  have hq := hq.below hb1
  have hl1 := r1.lenR
  have hcp1 := r1.cap
  unfold maxLen at hcp1
  clear hb1 K1
  by_cases hz : n1 = 0
  case pos =>
    subst hz
    have hl0 : l = [] := List.length_eq_zero_iff.1 hl1
    have hbn : bndL l = ([], []) := by rw [hl0]; rfl
    have HB := Lib.hid hbn
    clear hbn hl1 r1
    have kS := tabspans_any w1 B g l sp hc hT
    unfold NewSpans at kS
    have KS := Lib.hid kS
    clear kS
    go_wp2_with fail
    refine KS.out.mono ?_
    rintro e w4 ⟨A2, n2, c2, rfl, r2, hb4⟩
    have hbr := hbr.trans (hb4.mono hbr.size)
    have sf0 : Sl w4 1 none 0 0 (bc []) := Sl.nil _ _ _ _ (Nat.zero_le _)
    have st0 : Sl w4 1 none 0 0 (bc []) := Sl.nil _ _ _ _ (Nat.zero_le _)
    have hl2 := r2.lenR
    have hcp2 := r2.cap
    unfold maxLen at hcp2
    have Hl2 := Lib.hid hl2
    have h0 : (sp.drop 0).foldl bndStep ([], []) = R := by rw [List.drop_zero, ← HRR.out]; unfold boundsL; rw [HB.out]
    have H0 := Lib.hid h0
    have hbw := hbr
    clear KS hb4 hl2 h0 hT hq
    go_wp2
    go_loopw [4, 5, 31] (fun fv tv iv wr => ∃ (j : Nat) (ff : List UInt8) (Af : Option Addr) (nf cf : Nat) (tt : List UInt8) (At : Option Addr) (nt ct : Nat), iv = .int .i64 (j : Int) ∧ fv = .slice Af nf cf ∧ tv = .slice At nt ct ∧ j ≤ n2 ∧ Below w4.heap.size w4 wr ∧ Sl wr 1 Af nf cf (bc ff) ∧ Sl wr 1 At nt ct (bc tt) ∧ Hid ((sp.drop j).foldl bndStep (ff, tt) = R)) (fun _ _ iv _ => n2 - (intOf iv).toNat)
    case atStart => exact ⟨0, [], none, 0, 0, [], none, 0, 0, rfl, rfl, rfl, Nat.zero_le _, Below.refl _ _, sf0, st0, H0⟩
    case round =>
      clear sf0 st0 H0 hbr
      obtain ⟨j, ff, Af, nf, cf, tt, At, nt, ct, rfl, rfl, rfl, hj, hbr, sf, st, HR⟩ := hrel
      by_cases hlt : j < n2
      case neg =>
        obtain rfl : n2 = j := by omega
        have er := HR.out
        rw [List.drop_of_length_le (by have := Hl2.out; omega)] at er
        have er : R = (ff, tt) := er.symm
        subst er
        have hbz := hbw.trans (hbr.mono hbw.size)
        clear HR HRR
        go_wp2
        go_ret2
        exact ⟨Af, nf, cf, At, nt, ct, rfl, sf, st, hbz⟩
      obtain ⟨b, o, A7, n7, c7, A8, n8, c8, hjl, rfl, d0, d1, d2, s7, _, s8, _⟩ := (r2.below hbr).spanAt hlt
      have hst : (sp.drop j).foldl bndStep (ff, tt) = (sp.drop (j + 1)).foldl bndStep (bndStep (ff, tt) sp[j]) := by rw [List.drop_eq_getElem_cons hjl]; rfl
      generalize sp[j] = x at *
      have al := (Below.refl wr.heap.size wr).alloc (Nat.le_refl _) (.cells #[.slice A7 n7 c7, .slice A8 n8 c8, .int .u64 (x.seq.toNat : Int)] 48)
      have kB := Bx.fresh wr (.slice A7 n7 c7) (.slice A8 n8 c8) (.int .u64 (x.seq.toNat : Int)) 48
      generalize x.seq.toNat = s at *
      have s7 := s7.below (by omega) al
      have s8 := s8.below (by omega) al
      have sf := sf.below (by omega) al
      have st := st.below (by omega) al
      have hbr := hbr.trans (al.mono hbr.size)
      generalize hW : (wr.alloc (.cells #[.slice A7 n7 c7, .slice A8 n8 c8, .int .u64 (s : Int)] 48)) = w3 at *
      have Hst := Lib.hid hst
      have hfl := sf.lenb
      have Hfl := Lib.hid hfl
      clear hst al hfl
      obtain ⟨x0, x1, x2, x3⟩ := id kB
      by_cases hf : nf = 0
      case pos =>
        subst hf
        have hf0 : ff.length = 0 := Hfl.out
        have HF0 := Lib.hid hf0
        clear hf0
        obtain ⟨b2, hb2⟩ : ∃ b, ltL tt x.hi = b := ⟨_, rfl⟩
        have c2 := less_is w3 At nt ct _ st A8 n8 c8 _ s8 b2 (Lib.hid hb2)
        have C2 := Lib.hid c2
        have B2 := Lib.hid hb2
        clear c2 hb2
        go_wp2_with fail
        try rw [hW]
        refine C2.out.mono ?_
        rintro e w' ⟨rfl, rfl⟩
        cases b2
        case false =>
          go_wp2
          go_roundw
          case rel => exact ⟨j + 1, x.lo, A7, n7, c7, tt, At, nt, ct, by go_num, rfl, rfl, by omega, hbr, s7, st, Lib.hid (by rw [← HR.out, Hst.out]; simp only [bndStep]; rw [if_pos (.inl HF0.out), if_neg (by rw [B2.out]; simp)])⟩
          case measure => simp [intOf]; omega
        go_wp2
        go_roundw
        case rel => exact ⟨j + 1, x.lo, A7, n7, c7, x.hi, A8, n8, c8, by go_num, rfl, rfl, by omega, hbr, s7, s8, Lib.hid (by rw [← HR.out, Hst.out]; simp only [bndStep]; rw [if_pos (.inl HF0.out), if_pos B2.out])⟩
        case measure => simp [intOf]; omega
      obtain ⟨b1, hb1⟩ : ∃ b, ltL x.lo ff = b := ⟨_, rfl⟩
      have z1 : ((nf : Int) == 0) = false := by simp; omega
      have c1 := less_is w3 A7 n7 c7 _ s7 Af nf cf _ sf b1 (Lib.hid hb1)
      have C1 := Lib.hid c1
      have B1 := Lib.hid hb1
      have HNZ := Lib.hid (show ¬ ff.length = 0 by rw [Hfl.out]; exact hf)
      clear c1 hb1
      go_wp2_with fail
      try rw [hW]
      refine C1.out.mono ?_
      rintro e w' ⟨rfl, rfl⟩
      cases b1
      case false =>
        obtain ⟨b2, hb2⟩ : ∃ b, ltL tt x.hi = b := ⟨_, rfl⟩
        have c2 := less_is w3 At nt ct _ st A8 n8 c8 _ s8 b2 (Lib.hid hb2)
        have C2 := Lib.hid c2
        have B2 := Lib.hid hb2
        clear c2 hb2
        go_wp2_with fail
        refine C2.out.mono ?_
        rintro e w' ⟨rfl, rfl⟩
        cases b2
        case false =>
          go_wp2
          go_roundw
          case rel => exact ⟨j + 1, ff, Af, nf, cf, tt, At, nt, ct, by go_num, rfl, rfl, by omega, hbr, sf, st, Lib.hid (by rw [← HR.out, Hst.out]; simp only [bndStep]; rw [if_neg (fun q => q.elim (fun q => HNZ.out q) (fun q => by rw [B1.out] at q; cases q)), if_neg (by rw [B2.out]; simp)])⟩
          case measure => simp [intOf]; omega
        go_wp2
        go_roundw
        case rel => exact ⟨j + 1, ff, Af, nf, cf, x.hi, A8, n8, c8, by go_num, rfl, rfl, by omega, hbr, sf, s8, Lib.hid (by rw [← HR.out, Hst.out]; simp only [bndStep]; rw [if_neg (fun q => q.elim (fun q => HNZ.out q) (fun q => by rw [B1.out] at q; cases q)), if_pos B2.out])⟩
        case measure => simp [intOf]; omega
      case true =>
        obtain ⟨b2, hb2⟩ : ∃ b, ltL tt x.hi = b := ⟨_, rfl⟩
        have c2 := less_is w3 At nt ct _ st A8 n8 c8 _ s8 b2 (Lib.hid hb2)
        have C2 := Lib.hid c2
        have B2 := Lib.hid hb2
        clear c2 hb2
        go_wp2_with fail
        refine C2.out.mono ?_
        rintro e w' ⟨rfl, rfl⟩
        cases b2
        case false =>
          go_wp2
          go_roundw
          case rel => exact ⟨j + 1, x.lo, A7, n7, c7, tt, At, nt, ct, by go_num, rfl, rfl, by omega, hbr, s7, st, Lib.hid (by rw [← HR.out, Hst.out]; simp only [bndStep]; rw [if_pos (.inr B1.out), if_neg (by rw [B2.out]; simp)])⟩
          case measure => simp [intOf]; omega
        go_wp2
        go_roundw
        case rel => exact ⟨j + 1, x.lo, A7, n7, c7, x.hi, A8, n8, c8, by go_num, rfl, rfl, by omega, hbr, s7, s8, Lib.hid (by rw [← HR.out, Hst.out]; simp only [bndStep]; rw [if_pos (.inr B1.out), if_pos B2.out])⟩
        case measure => simp [intOf]; omega
  obtain ⟨b, o, A3, n3, c3, A4, n4, c4, hj0, rfl, d0, _, _, _, s3, _⟩ := r1.entAt (k := 0) (by omega)
  obtain ⟨b', o', A5, n5, c5, A6, n6, c6, hj1, hbo, f0, _, _, _, s5, _⟩ := r1.entAt (k := n1 - 1) (by omega)
  obtain ⟨rfl, rfl⟩ : b = b' ∧ o = o' := by simpa using hbo
  obtain ⟨-, -, -, c4', -, -⟩ := checkTab_zero hc
  have hu := (checkKey_bounds (c4' l[n1 - 1] (List.getElem_mem hj1)).1).2.2.1
  have hn5 : n5 ≤ 64 := by have := s5.lenb; omega
  have hbn : bndL l = (l[0].key.user, l[n1 - 1].key.user ++ [0]) := by
    have e1 : l.head? = some l[0] := by rw [List.head?_eq_getElem?, List.getElem?_eq_getElem hj0]
    have e2 : l.getLast? = some l[n1 - 1] := by rw [List.getLast?_eq_getElem?, show l.length - 1 = n1 - 1 by omega, List.getElem?_eq_getElem hj1]
    unfold bndL
    rw [e1, e2]
  generalize l[0].key.user = u0 at *
  generalize l[n1 - 1].key.user = u1 at *
  rw [Nat.zero_mul, Nat.add_zero] at d0
  have HB := Lib.hid hbn
  clear hbn hu c4' hl1 r1
  obtain ⟨m1, hm1⟩ : ∃ m, n1 - 1 = m := ⟨_, rfl⟩
  have em : (n1 : Int) - 1 = (m1 : Int) := by omega
  have hmm : m1 < n1 := by omega
  have hw1 : IntKind.i64.wrap (m1 : Int) = (m1 : Int) := by rw [IntKind.wrap_i64]; omega
  have hw2 : IntKind.i64.wrap ((n1 : Int) - 1) = (m1 : Int) := by rw [em]; exact hw1
  rw [hm1] at f0
  have bd := (Below.refl w1.heap.size w1).drew
  have hX : BdP b o (o + m1 * 4) (.slice A3 n3 c3) (.slice A5 n5 c5) w1.drew := ⟨stays bd d0, stays bd f0⟩
  have s3 := s3.drew
  have s5 := s5.drew
  have hT := hT.below bd
  have hq := hq.below bd
  have hbr := hbr.drew
  clear bd d0 f0 hm1
  go_wp2_with fail
  generalize hW : w1.drew = wz at *
  refine regionF (fun _ wa wb => BdP b o (o + m1 * 4) (.slice A3 n3 c3) (.slice A5 n5 c5) wa → BdP b o (o + m1 * 4) (.slice A3 n3 c3) (.slice A5 n5 c5) wb) (by kernel_rfl) ?_
  rw [hW]
  clear hW
  refine takeT (i := 0) (v := ?_) rfl ?hy ?_
  case hy => intro wS; go_simp; try with_reducible rfl
  refine takeT (i := 1) (v := ?_) rfl ?hy ?_
  case hy => intro wS; go_simp; try with_reducible rfl
  refine takeT (i := 2) (v := ?_) rfl ?hy ?_
  case hy => intro wS; go_simp; try with_reducible rfl
  refine takeT (i := 3) (v := ?_) rfl ?hy ?_
  case hy => intro wS; go_simp; try with_reducible rfl
  refine takeP (i := 4) (v := ?_) rfl hX ?hy ?_
  case hy =>
    intro wS hSw
    obtain ⟨x1, x2⟩ := id hSw
    clear hSw
    go_simp
    try with_reducible rfl
  refine takeT (i := 5) (v := ?_) rfl ?hy ?_
  case hy => intro wS; go_simp; try with_reducible rfl
  refine takeT (i := 6) (v := ?_) rfl ?hy ?_
  case hy => intro wS; go_simp; try with_reducible rfl
  refine takeT (i := 7) (v := ?_) rfl ?hy ?_
  case hy => intro wS; go_simp; try with_reducible rfl
  refine takeT (i := 8) (v := ?_) rfl ?hy ?_
  case hy => intro wS; go_simp; try with_reducible rfl
  refine takeT (i := 9) (v := ?_) rfl ?hy ?_
  case hy => intro wS; go_simp; try with_reducible rfl
  refine takeT (i := 10) (v := ?_) rfl ?hy ?_
  case hy => intro wS; go_simp; try with_reducible rfl
  refine takeT (i := 11) (v := ?_) rfl ?hy ?_
  case hy => intro wS; go_simp; try with_reducible rfl
  refine takeP (i := 12) (v := ?_) rfl hX ?hy ?_
  case hy =>
    intro wS hSw
    obtain ⟨x1, x2⟩ := id hSw
    clear hSw
    go_simp
    try with_reducible rfl
  try simp only [List.getElem_toArray, List.getElem_cons_succ, List.getElem_cons_zero, Act.put, List.setIfInBounds_toArray, List.set_cons_zero, List.set_cons_succ]
  refine readyF (rs := [13]) (by kernel_rfl) (by simp) ?_
  refine AllF.cons rfl (fun K hK => ?_) AllF.nil
  go_simp
  refine (after_any wz A5 n5 c5 _ s5 (by omega)).mono ?_
  rintro e wz_13 ⟨A6, n6, c6, rfl, ho6, hb⟩
  refine hK _ _ (fun h => h.below hb) ?_
  clear hK K
  have hX := hX.below hb
  have s3 := s3.below (by omega) hb
  have hbr := hbr.trans (hb.mono hbr.size)
  have hT := hT.below hb
  have hq := hq.below hb
  have s6 := OwnB.sl ho6
  clear hb ho6 s5
  refine takeT (i := 14) (v := ?_) rfl ?hy ?_
  case hy => intro wS; go_simp; try with_reducible rfl
  refine takeT (i := 15) (v := ?_) rfl ?hy ?_
  case hy => intro wS; go_simp; try with_reducible rfl
  try simp only [List.getElem_toArray, List.getElem_cons_succ, List.getElem_cons_zero, Act.put, List.setIfInBounds_toArray, List.set_cons_zero, List.set_cons_succ]
  refine doneF (by kernel_rfl) ?_ _
  try simp only [List.getElem_toArray, List.getElem_cons_succ, List.getElem_cons_zero, Act.put, List.setIfInBounds_toArray, List.set_cons_zero, List.set_cons_succ]
  clear hX
  have kS := tabspans_any wz_13 B g l sp hc hT
  unfold NewSpans at kS
  have KS := Lib.hid kS
  clear kS
  go_wp2_with fail
  refine KS.out.mono ?_
  rintro e w4 ⟨A2, n2, c2, rfl, r2, hb4⟩
  have hbr := hbr.trans (hb4.mono hbr.size)
  have sf0 := (s3).below (by omega) hb4
  have st0 := (s6).below (by omega) hb4
  have hl2 := r2.lenR
  have hcp2 := r2.cap
  unfold maxLen at hcp2
  have Hl2 := Lib.hid hl2
  have h0 : (sp.drop 0).foldl bndStep (u0, (u1 ++ [0])) = R := by rw [List.drop_zero, ← HRR.out]; unfold boundsL; rw [HB.out]
  have H0 := Lib.hid h0
  have hbw := hbr
  clear KS hb4 hl2 h0 hT hq
  go_wp2
  go_loopw [4, 5, 31] (fun fv tv iv wr => ∃ (j : Nat) (ff : List UInt8) (Af : Option Addr) (nf cf : Nat) (tt : List UInt8) (At : Option Addr) (nt ct : Nat), iv = .int .i64 (j : Int) ∧ fv = .slice Af nf cf ∧ tv = .slice At nt ct ∧ j ≤ n2 ∧ Below w4.heap.size w4 wr ∧ Sl wr 1 Af nf cf (bc ff) ∧ Sl wr 1 At nt ct (bc tt) ∧ Hid ((sp.drop j).foldl bndStep (ff, tt) = R)) (fun _ _ iv _ => n2 - (intOf iv).toNat)
  case atStart => exact ⟨0, u0, A3, n3, c3, (u1 ++ [0]), A6, n6, c6, rfl, rfl, rfl, Nat.zero_le _, Below.refl _ _, sf0, st0, H0⟩
  case round =>
    clear sf0 st0 H0 hbr
    obtain ⟨j, ff, Af, nf, cf, tt, At, nt, ct, rfl, rfl, rfl, hj, hbr, sf, st, HR⟩ := hrel
    by_cases hlt : j < n2
    case neg =>
      obtain rfl : n2 = j := by omega
      have er := HR.out
      rw [List.drop_of_length_le (by have := Hl2.out; omega)] at er
      have er : R = (ff, tt) := er.symm
      subst er
      have hbz := hbw.trans (hbr.mono hbw.size)
      clear HR HRR
      go_wp2
      go_ret2
      exact ⟨Af, nf, cf, At, nt, ct, rfl, sf, st, hbz⟩
    obtain ⟨b, o, A7, n7, c7, A8, n8, c8, hjl, rfl, d0, d1, d2, s7, _, s8, _⟩ := (r2.below hbr).spanAt hlt
    have hst : (sp.drop j).foldl bndStep (ff, tt) = (sp.drop (j + 1)).foldl bndStep (bndStep (ff, tt) sp[j]) := by rw [List.drop_eq_getElem_cons hjl]; rfl
    generalize sp[j] = x at *
    have al := (Below.refl wr.heap.size wr).alloc (Nat.le_refl _) (.cells #[.slice A7 n7 c7, .slice A8 n8 c8, .int .u64 (x.seq.toNat : Int)] 48)
    have kB := Bx.fresh wr (.slice A7 n7 c7) (.slice A8 n8 c8) (.int .u64 (x.seq.toNat : Int)) 48
    generalize x.seq.toNat = s at *
    have s7 := s7.below (by omega) al
    have s8 := s8.below (by omega) al
    have sf := sf.below (by omega) al
    have st := st.below (by omega) al
    have hbr := hbr.trans (al.mono hbr.size)
    generalize hW : (wr.alloc (.cells #[.slice A7 n7 c7, .slice A8 n8 c8, .int .u64 (s : Int)] 48)) = w3 at *
    have Hst := Lib.hid hst
    have hfl := sf.lenb
    have Hfl := Lib.hid hfl
    clear hst al hfl
    obtain ⟨x0, x1, x2, x3⟩ := id kB
    by_cases hf : nf = 0
    case pos =>
      subst hf
      have hf0 : ff.length = 0 := Hfl.out
      have HF0 := Lib.hid hf0
      clear hf0
      obtain ⟨b2, hb2⟩ : ∃ b, ltL tt x.hi = b := ⟨_, rfl⟩
      have c2 := less_is w3 At nt ct _ st A8 n8 c8 _ s8 b2 (Lib.hid hb2)
      have C2 := Lib.hid c2
      have B2 := Lib.hid hb2
      clear c2 hb2
      go_wp2_with fail
      try rw [hW]
      refine C2.out.mono ?_
      rintro e w' ⟨rfl, rfl⟩
      cases b2
      case false =>
        go_wp2
        go_roundw
        case rel => exact ⟨j + 1, x.lo, A7, n7, c7, tt, At, nt, ct, by go_num, rfl, rfl, by omega, hbr, s7, st, Lib.hid (by rw [← HR.out, Hst.out]; simp only [bndStep]; rw [if_pos (.inl HF0.out), if_neg (by rw [B2.out]; simp)])⟩
        case measure => simp [intOf]; omega
      go_wp2
      go_roundw
      case rel => exact ⟨j + 1, x.lo, A7, n7, c7, x.hi, A8, n8, c8, by go_num, rfl, rfl, by omega, hbr, s7, s8, Lib.hid (by rw [← HR.out, Hst.out]; simp only [bndStep]; rw [if_pos (.inl HF0.out), if_pos B2.out])⟩
      case measure => simp [intOf]; omega
    obtain ⟨b1, hb1⟩ : ∃ b, ltL x.lo ff = b := ⟨_, rfl⟩
    have z1 : ((nf : Int) == 0) = false := by simp; omega
    have c1 := less_is w3 A7 n7 c7 _ s7 Af nf cf _ sf b1 (Lib.hid hb1)
    have C1 := Lib.hid c1
    have B1 := Lib.hid hb1
    have HNZ := Lib.hid (show ¬ ff.length = 0 by rw [Hfl.out]; exact hf)
    clear c1 hb1
    go_wp2_with fail
    try rw [hW]
    refine C1.out.mono ?_
    rintro e w' ⟨rfl, rfl⟩
    cases b1
    case false =>
      obtain ⟨b2, hb2⟩ : ∃ b, ltL tt x.hi = b := ⟨_, rfl⟩
      have c2 := less_is w3 At nt ct _ st A8 n8 c8 _ s8 b2 (Lib.hid hb2)
      have C2 := Lib.hid c2
      have B2 := Lib.hid hb2
      clear c2 hb2
      go_wp2_with fail
      refine C2.out.mono ?_
      rintro e w' ⟨rfl, rfl⟩
      cases b2
      case false =>
        go_wp2
        go_roundw
        case rel => exact ⟨j + 1, ff, Af, nf, cf, tt, At, nt, ct, by go_num, rfl, rfl, by omega, hbr, sf, st, Lib.hid (by rw [← HR.out, Hst.out]; simp only [bndStep]; rw [if_neg (fun q => q.elim (fun q => HNZ.out q) (fun q => by rw [B1.out] at q; cases q)), if_neg (by rw [B2.out]; simp)])⟩
        case measure => simp [intOf]; omega
      go_wp2
      go_roundw
      case rel => exact ⟨j + 1, ff, Af, nf, cf, x.hi, A8, n8, c8, by go_num, rfl, rfl, by omega, hbr, sf, s8, Lib.hid (by rw [← HR.out, Hst.out]; simp only [bndStep]; rw [if_neg (fun q => q.elim (fun q => HNZ.out q) (fun q => by rw [B1.out] at q; cases q)), if_pos B2.out])⟩
      case measure => simp [intOf]; omega
    case true =>
      obtain ⟨b2, hb2⟩ : ∃ b, ltL tt x.hi = b := ⟨_, rfl⟩
      have c2 := less_is w3 At nt ct _ st A8 n8 c8 _ s8 b2 (Lib.hid hb2)
      have C2 := Lib.hid c2
      have B2 := Lib.hid hb2
      clear c2 hb2
      go_wp2_with fail
      refine C2.out.mono ?_
      rintro e w' ⟨rfl, rfl⟩
      cases b2
      case false =>
        go_wp2
        go_roundw
        case rel => exact ⟨j + 1, x.lo, A7, n7, c7, tt, At, nt, ct, by go_num, rfl, rfl, by omega, hbr, s7, st, Lib.hid (by rw [← HR.out, Hst.out]; simp only [bndStep]; rw [if_pos (.inr B1.out), if_neg (by rw [B2.out]; simp)])⟩
        case measure => simp [intOf]; omega
      go_wp2
      go_roundw
      case rel => exact ⟨j + 1, x.lo, A7, n7, c7, x.hi, A8, n8, c8, by go_num, rfl, rfl, by omega, hbr, s7, s8, Lib.hid (by rw [← HR.out, Hst.out]; simp only [bndStep]; rw [if_pos (.inr B1.out), if_pos B2.out])⟩
      case measure => simp [intOf]; omega
end Go.Proofs.YtpffieogkfndaaaDoor
