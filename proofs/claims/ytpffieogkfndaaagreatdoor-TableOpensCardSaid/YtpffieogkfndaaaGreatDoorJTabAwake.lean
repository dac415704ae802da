/-
  TabBoundsW, TabAwake in one text. No condition but sizes.
-/
import Derived.Test.YtpffieogkfndaaaGreatDoorJLeafFrom
import Derived.Test.YtpffieogkfndaaaGreatDoorJEntSort
import Derived.Test.YtpffieogkfndaaaGreatDoorJKeyAfterW
import Derived.Test.YtpffieogkfndaaaGreatDoorJTabOpenW
import Derived.Test.YtpffieogkfndaaaGreatDoorJTabOpenRP
import Derived.Lib.SlBytesConst
namespace Go.Proofs.YtpffieogkfndaaaGreatDoor
open Go.RowKit
set_option maxRecDepth 20000
set_option linter.unusedVariables false
set_option linter.unusedSimpArgs false
def BdP (b o o2 : Nat) (v v2 : Value) (w : World) : Prop := w.cell? ⟨b, o, none⟩ = some v ∧ w.cell? ⟨b, o2, none⟩ = some v2
theorem BdP.below {b o o2 : Nat} {v v2 : Value} {w w' : World} (h : BdP b o o2 v v2 w) (hb : Below w.heap.size w w') : BdP b o o2 v v2 w' := ⟨stays hb h.1, stays hb h.2⟩
set_option maxHeartbeats 16000000 in
theorem tbounds_any (w : World) (B g : Nat) (l : List EntL) (sp : List SpanL) (hc : checkTabL l sp = 0) (hT : TabIs w B g l sp) (hn : (tabBytesL l sp).length ≤ 65536) (hq : Quarter w) :
    Calls Tryz.prog 20 #[.pointer (some ⟨g, 0, none⟩)] w fun e w' => ∃ A n c A' n' c', e = .returned (.tuple #[.slice A n c, .slice A' n' c']) ∧ Sl w' 1 A n c (bc (boundsL l sp).1) ∧ Sl w' 1 A' n' c' (bc (boundsL l sp).2) ∧ Below w.heap.size w w' := by
  obtain ⟨R, hR⟩ : ∃ R, boundsL l sp = R := ⟨_, rfl⟩
  rw [hR]
  have HRR := Lib.hid hR
  clear hR
  have k1 := tabents_any w B g l sp hc hT hn hq
  have K1 := Lib.hid k1
  clear k1
  go_enter Tryz.func20, Tryz.ntmps20
  go_wp2_with fail
  refine K1.out.mono ?_
  rintro e w1 ⟨A1, n1, c1, rfl, r1, hb1⟩
  have hbr := hb1
  have hT := hT.below hb1
  have hq := hq.below hb1
  have hl1 := r1.lenR
  have hcp1 := r1.cap
  unfold maxLen at hcp1
  clear hb1 K1
  by_cases hz : n1 = 0
  case pos =>
    subst hz
    have hl0 : l = [] := List.length_eq_zero_iff.1 hl1
    have hbn : bndL l = ([], []) := by rw [hl0]; rfl
    have HB := Lib.hid hbn
    clear hbn hl1 r1
    have kS := tabspans_any w1 B g l sp hc hT
    unfold NewSpans at kS
    have KS := Lib.hid kS
    clear kS
    go_wp2_with fail
    refine KS.out.mono ?_
    rintro e w4 ⟨A2, n2, c2, rfl, r2, hb4⟩
    have hbr := hbr.trans (hb4.mono hbr.size)
    have sf0 : Sl w4 1 none 0 0 (bc []) := Sl.nil _ _ _ _ (Nat.zero_le _)
    have st0 : Sl w4 1 none 0 0 (bc []) := Sl.nil _ _ _ _ (Nat.zero_le _)
    have hl2 := r2.lenR
    have hcp2 := r2.cap
    unfold maxLen at hcp2
    have Hl2 := Lib.hid hl2
    have h0 : (sp.drop 0).foldl bndStep ([], []) = R := by rw [List.drop_zero, ← HRR.out]; unfold boundsL; rw [HB.out]
    have H0 := Lib.hid h0
    have hbw := hbr
    clear KS hb4 hl2 h0 hT hq
    go_wp2
    go_loopw [4, 5, 31] (fun fv tv iv wr => ∃ (j : Nat) (ff : List UInt8) (Af : Option Addr) (nf cf : Nat) (tt : List UInt8) (At : Option Addr) (nt ct : Nat), iv = .int .i64 (j : Int) ∧ fv = .slice Af nf cf ∧ tv = .slice At nt ct ∧ j ≤ n2 ∧ Below w4.heap.size w4 wr ∧ Sl wr 1 Af nf cf (bc ff) ∧ Sl wr 1 At nt ct (bc tt) ∧ Hid ((sp.drop j).foldl bndStep (ff, tt) = R)) (fun _ _ iv _ => n2 - (intOf iv).toNat)
    case atStart => exact ⟨0, [], none, 0, 0, [], none, 0, 0, rfl, rfl, rfl, Nat.zero_le _, Below.refl _ _, sf0, st0, H0⟩
    case round =>
      clear sf0 st0 H0 hbr
      obtain ⟨j, ff, Af, nf, cf, tt, At, nt, ct, rfl, rfl, rfl, hj, hbr, sf, st, HR⟩ := hrel
      by_cases hlt : j < n2
      case neg =>
        obtain rfl : n2 = j := by omega
        have er := HR.out
        rw [List.drop_of_length_le (by have := Hl2.out; omega)] at er
        have er : R = (ff, tt) := er.symm
        subst er
        have hbz := hbw.trans (hbr.mono hbw.size)
        clear HR HRR
        go_wp2
        go_ret2
        exact ⟨Af, nf, cf, At, nt, ct, rfl, sf, st, hbz⟩
      obtain ⟨b, o, A7, n7, c7, A8, n8, c8, hjl, rfl, d0, d1, d2, s7, _, s8, _⟩ := (r2.below hbr).spanAt hlt
      have hst : (sp.drop j).foldl bndStep (ff, tt) = (sp.drop (j + 1)).foldl bndStep (bndStep (ff, tt) sp[j]) := by rw [List.drop_eq_getElem_cons hjl]; rfl
      generalize sp[j] = x at *
      have al := (Below.refl wr.heap.size wr).alloc (Nat.le_refl _) (.cells #[.slice A7 n7 c7, .slice A8 n8 c8, .int .u64 (x.seq.toNat : Int)] 72)
      have kB := Bx.fresh wr (.slice A7 n7 c7) (.slice A8 n8 c8) (.int .u64 (x.seq.toNat : Int)) 72
      generalize x.seq.toNat = s at *
      have s7 := s7.below (by omega) al
      have s8 := s8.below (by omega) al
      have sf := sf.below (by omega) al
      have st := st.below (by omega) al
      have hbr := hbr.trans (al.mono hbr.size)
      generalize hW : (wr.alloc (.cells #[.slice A7 n7 c7, .slice A8 n8 c8, .int .u64 (s : Int)] 72)) = w3 at *
      have Hst := Lib.hid hst
      have hfl := sf.lenb
      have Hfl := Lib.hid hfl
      clear hst al hfl
      obtain ⟨x0, x1, x2, x3⟩ := id kB
      by_cases hf : nf = 0
      case pos =>
        subst hf
        have hf0 : ff.length = 0 := Hfl.out
        have HF0 := Lib.hid hf0
        clear hf0
        obtain ⟨b2, hb2⟩ : ∃ b, ltL tt x.hi = b := ⟨_, rfl⟩
        have c2 := less_is w3 At nt ct _ st A8 n8 c8 _ s8 b2 (Lib.hid hb2)
        have C2 := Lib.hid c2
        have B2 := Lib.hid hb2
        clear c2 hb2
        go_wp2_with fail
        try rw [hW]
        refine C2.out.mono ?_
        rintro e w' ⟨rfl, rfl⟩
        cases b2
        case false =>
          go_wp2
          go_roundw
          case rel => exact ⟨j + 1, x.lo, A7, n7, c7, tt, At, nt, ct, by go_num, rfl, rfl, by omega, hbr, s7, st, Lib.hid (by rw [← HR.out, Hst.out]; simp only [bndStep]; rw [if_pos (.inl HF0.out), if_neg (by rw [B2.out]; simp)])⟩
          case measure => simp [intOf]; omega
        go_wp2
        go_roundw
        case rel => exact ⟨j + 1, x.lo, A7, n7, c7, x.hi, A8, n8, c8, by go_num, rfl, rfl, by omega, hbr, s7, s8, Lib.hid (by rw [← HR.out, Hst.out]; simp only [bndStep]; rw [if_pos (.inl HF0.out), if_pos B2.out])⟩
        case measure => simp [intOf]; omega
      obtain ⟨b1, hb1⟩ : ∃ b, ltL x.lo ff = b := ⟨_, rfl⟩
      have z1 : ((nf : Int) == 0) = false := by simp; omega
      have c1 := less_is w3 A7 n7 c7 _ s7 Af nf cf _ sf b1 (Lib.hid hb1)
      have C1 := Lib.hid c1
      have B1 := Lib.hid hb1
      have HNZ := Lib.hid (show ¬ ff.length = 0 by rw [Hfl.out]; exact hf)
      clear c1 hb1
      go_wp2_with fail
      try rw [hW]
      refine C1.out.mono ?_
      rintro e w' ⟨rfl, rfl⟩
      cases b1
      case false =>
        obtain ⟨b2, hb2⟩ : ∃ b, ltL tt x.hi = b := ⟨_, rfl⟩
        have c2 := less_is w3 At nt ct _ st A8 n8 c8 _ s8 b2 (Lib.hid hb2)
        have C2 := Lib.hid c2
        have B2 := Lib.hid hb2
        clear c2 hb2
        go_wp2_with fail
        refine C2.out.mono ?_
        rintro e w' ⟨rfl, rfl⟩
        cases b2
        case false =>
          go_wp2
          go_roundw
          case rel => exact ⟨j + 1, ff, Af, nf, cf, tt, At, nt, ct, by go_num, rfl, rfl, by omega, hbr, sf, st, Lib.hid (by rw [← HR.out, Hst.out]; simp only [bndStep]; rw [if_neg (fun q => q.elim (fun q => HNZ.out q) (fun q => by rw [B1.out] at q; cases q)), if_neg (by rw [B2.out]; simp)])⟩
          case measure => simp [intOf]; omega
        go_wp2
        go_roundw
        case rel => exact ⟨j + 1, ff, Af, nf, cf, x.hi, A8, n8, c8, by go_num, rfl, rfl, by omega, hbr, sf, s8, Lib.hid (by rw [← HR.out, Hst.out]; simp only [bndStep]; rw [if_neg (fun q => q.elim (fun q => HNZ.out q) (fun q => by rw [B1.out] at q; cases q)), if_pos B2.out])⟩
        case measure => simp [intOf]; omega
      case true =>
        obtain ⟨b2, hb2⟩ : ∃ b, ltL tt x.hi = b := ⟨_, rfl⟩
        have c2 := less_is w3 At nt ct _ st A8 n8 c8 _ s8 b2 (Lib.hid hb2)
        have C2 := Lib.hid c2
        have B2 := Lib.hid hb2
        clear c2 hb2
        go_wp2_with fail
        refine C2.out.mono ?_
        rintro e w' ⟨rfl, rfl⟩
        cases b2
        case false =>
          go_wp2
          go_roundw
          case rel => exact ⟨j + 1, x.lo, A7, n7, c7, tt, At, nt, ct, by go_num, rfl, rfl, by omega, hbr, s7, st, Lib.hid (by rw [← HR.out, Hst.out]; simp only [bndStep]; rw [if_pos (.inr B1.out), if_neg (by rw [B2.out]; simp)])⟩
          case measure => simp [intOf]; omega
        go_wp2
        go_roundw
        case rel => exact ⟨j + 1, x.lo, A7, n7, c7, x.hi, A8, n8, c8, by go_num, rfl, rfl, by omega, hbr, s7, s8, Lib.hid (by rw [← HR.out, Hst.out]; simp only [bndStep]; rw [if_pos (.inr B1.out), if_pos B2.out])⟩
        case measure => simp [intOf]; omega
  obtain ⟨b, o, A3, n3, c3, A4, n4, c4, hj0, rfl, d0, _, _, _, s3, _⟩ := r1.entAt (k := 0) (by omega)
  obtain ⟨b', o', A5, n5, c5, A6, n6, c6, hj1, hbo, f0, _, _, _, s5, _⟩ := r1.entAt (k := n1 - 1) (by omega)
  obtain ⟨rfl, rfl⟩ : b = b' ∧ o = o' := by simpa using hbo
  obtain ⟨-, -, -, c4', -, -⟩ := checkTab_zero hc
  have hu := (checkKey_bounds (c4' l[n1 - 1] (List.getElem_mem hj1)).1).2.2.1
  have hn5 : n5 ≤ 64 := by have := s5.lenb; omega
  have hbn : bndL l = (l[0].key.user, l[n1 - 1].key.user ++ [0]) := by
    have e1 : l.head? = some l[0] := by rw [List.head?_eq_getElem?, List.getElem?_eq_getElem hj0]
    have e2 : l.getLast? = some l[n1 - 1] := by rw [List.getLast?_eq_getElem?, show l.length - 1 = n1 - 1 by omega, List.getElem?_eq_getElem hj1]
    unfold bndL
    rw [e1, e2]
  generalize l[0].key.user = u0 at *
  generalize l[n1 - 1].key.user = u1 at *
  rw [Nat.zero_mul, Nat.add_zero] at d0
  have HB := Lib.hid hbn
  clear hbn hu c4' hl1 r1
  obtain ⟨m1, hm1⟩ : ∃ m, n1 - 1 = m := ⟨_, rfl⟩
  have em : (n1 : Int) - 1 = (m1 : Int) := by omega
  have hmm : m1 < n1 := by omega
  have hw1 : IntKind.i64.wrap (m1 : Int) = (m1 : Int) := by rw [IntKind.wrap_i64]; omega
  have hw2 : IntKind.i64.wrap ((n1 : Int) - 1) = (m1 : Int) := by rw [em]; exact hw1
  rw [hm1] at f0
  have bd := (Below.refl w1.heap.size w1).drew
  have hX : BdP b o (o + m1 * 4) (.slice A3 n3 c3) (.slice A5 n5 c5) w1.drew := ⟨stays bd d0, stays bd f0⟩
  have s3 := s3.drew
  have s5 := s5.drew
  have hT := hT.below bd
  have hq := hq.below bd
  have hbr := hbr.drew
  clear bd d0 f0 hm1
  go_wp2_with fail
  generalize hW : w1.drew = wz at *
  refine regionF (fun _ wa wb => BdP b o (o + m1 * 4) (.slice A3 n3 c3) (.slice A5 n5 c5) wa → BdP b o (o + m1 * 4) (.slice A3 n3 c3) (.slice A5 n5 c5) wb) (by kernel_rfl) ?_
  rw [hW]
  clear hW
  refine takeT (i := 0) (v := ?_) rfl ?hy ?_
  case hy => intro wS; go_simp; try with_reducible rfl
  refine takeT (i := 1) (v := ?_) rfl ?hy ?_
  case hy => intro wS; go_simp; try with_reducible rfl
  refine takeT (i := 2) (v := ?_) rfl ?hy ?_
  case hy => intro wS; go_simp; try with_reducible rfl
  refine takeT (i := 3) (v := ?_) rfl ?hy ?_
  case hy => intro wS; go_simp; try with_reducible rfl
  refine takeP (i := 4) (v := ?_) rfl hX ?hy ?_
  case hy =>
    intro wS hSw
    obtain ⟨x1, x2⟩ := id hSw
    clear hSw
    go_simp
    try with_reducible rfl
  refine takeT (i := 5) (v := ?_) rfl ?hy ?_
  case hy => intro wS; go_simp; try with_reducible rfl
  refine takeT (i := 6) (v := ?_) rfl ?hy ?_
  case hy => intro wS; go_simp; try with_reducible rfl
  refine takeT (i := 7) (v := ?_) rfl ?hy ?_
  case hy => intro wS; go_simp; try with_reducible rfl
  refine takeT (i := 8) (v := ?_) rfl ?hy ?_
  case hy => intro wS; go_simp; try with_reducible rfl
  refine takeT (i := 9) (v := ?_) rfl ?hy ?_
  case hy => intro wS; go_simp; try with_reducible rfl
  refine takeT (i := 10) (v := ?_) rfl ?hy ?_
  case hy => intro wS; go_simp; try with_reducible rfl
  refine takeT (i := 11) (v := ?_) rfl ?hy ?_
  case hy => intro wS; go_simp; try with_reducible rfl
  refine takeP (i := 12) (v := ?_) rfl hX ?hy ?_
  case hy =>
    intro wS hSw
    obtain ⟨x1, x2⟩ := id hSw
    clear hSw
    go_simp
    try with_reducible rfl
  try simp only [List.getElem_toArray, List.getElem_cons_succ, List.getElem_cons_zero, Act.put, List.setIfInBounds_toArray, List.set_cons_zero, List.set_cons_succ]
  refine readyF (rs := [13]) (by kernel_rfl) (by simp) ?_
  refine AllF.cons rfl (fun K hK => ?_) AllF.nil
  go_simp
  refine (after_any wz A5 n5 c5 _ s5 (by omega)).mono ?_
  rintro e wz_13 ⟨A6, n6, c6, rfl, ho6, hb⟩
  refine hK _ _ (fun h => h.below hb) ?_
  clear hK K
  have hX := hX.below hb
  have s3 := s3.below (by omega) hb
  have hbr := hbr.trans (hb.mono hbr.size)
  have hT := hT.below hb
  have hq := hq.below hb
  have s6 := OwnB.sl ho6
  clear hb ho6 s5
  refine takeT (i := 14) (v := ?_) rfl ?hy ?_
  case hy => intro wS; go_simp; try with_reducible rfl
  refine takeT (i := 15) (v := ?_) rfl ?hy ?_
  case hy => intro wS; go_simp; try with_reducible rfl
  try simp only [List.getElem_toArray, List.getElem_cons_succ, List.getElem_cons_zero, Act.put, List.setIfInBounds_toArray, List.set_cons_zero, List.set_cons_succ]
  refine doneF (by kernel_rfl) ?_ _
  try simp only [List.getElem_toArray, List.getElem_cons_succ, List.getElem_cons_zero, Act.put, List.setIfInBounds_toArray, List.set_cons_zero, List.set_cons_succ]
  clear hX
  have kS := tabspans_any wz_13 B g l sp hc hT
  unfold NewSpans at kS
  have KS := Lib.hid kS
  clear kS
  go_wp2_with fail
  refine KS.out.mono ?_
  rintro e w4 ⟨A2, n2, c2, rfl, r2, hb4⟩
  have hbr := hbr.trans (hb4.mono hbr.size)
  have sf0 := (s3).below (by omega) hb4
  have st0 := (s6).below (by omega) hb4
  have hl2 := r2.lenR
  have hcp2 := r2.cap
  unfold maxLen at hcp2
  have Hl2 := Lib.hid hl2
  have h0 : (sp.drop 0).foldl bndStep (u0, (u1 ++ [0])) = R := by rw [List.drop_zero, ← HRR.out]; unfold boundsL; rw [HB.out]
  have H0 := Lib.hid h0
  have hbw := hbr
  clear KS hb4 hl2 h0 hT hq
  go_wp2
  go_loopw [4, 5, 31] (fun fv tv iv wr => ∃ (j : Nat) (ff : List UInt8) (Af : Option Addr) (nf cf : Nat) (tt : List UInt8) (At : Option Addr) (nt ct : Nat), iv = .int .i64 (j : Int) ∧ fv = .slice Af nf cf ∧ tv = .slice At nt ct ∧ j ≤ n2 ∧ Below w4.heap.size w4 wr ∧ Sl wr 1 Af nf cf (bc ff) ∧ Sl wr 1 At nt ct (bc tt) ∧ Hid ((sp.drop j).foldl bndStep (ff, tt) = R)) (fun _ _ iv _ => n2 - (intOf iv).toNat)
  case atStart => exact ⟨0, u0, A3, n3, c3, (u1 ++ [0]), A6, n6, c6, rfl, rfl, rfl, Nat.zero_le _, Below.refl _ _, sf0, st0, H0⟩
  case round =>
    clear sf0 st0 H0 hbr
    obtain ⟨j, ff, Af, nf, cf, tt, At, nt, ct, rfl, rfl, rfl, hj, hbr, sf, st, HR⟩ := hrel
    by_cases hlt : j < n2
    case neg =>
      obtain rfl : n2 = j := by omega
      have er := HR.out
      rw [List.drop_of_length_le (by have := Hl2.out; omega)] at er
      have er : R = (ff, tt) := er.symm
      subst er
      have hbz := hbw.trans (hbr.mono hbw.size)
      clear HR HRR
      go_wp2
      go_ret2
      exact ⟨Af, nf, cf, At, nt, ct, rfl, sf, st, hbz⟩
    obtain ⟨b, o, A7, n7, c7, A8, n8, c8, hjl, rfl, d0, d1, d2, s7, _, s8, _⟩ := (r2.below hbr).spanAt hlt
    have hst : (sp.drop j).foldl bndStep (ff, tt) = (sp.drop (j + 1)).foldl bndStep (bndStep (ff, tt) sp[j]) := by rw [List.drop_eq_getElem_cons hjl]; rfl
    generalize sp[j] = x at *
    have al := (Below.refl wr.heap.size wr).alloc (Nat.le_refl _) (.cells #[.slice A7 n7 c7, .slice A8 n8 c8, .int .u64 (x.seq.toNat : Int)] 72)
    have kB := Bx.fresh wr (.slice A7 n7 c7) (.slice A8 n8 c8) (.int .u64 (x.seq.toNat : Int)) 72
    generalize x.seq.toNat = s at *
    have s7 := s7.below (by omega) al
    have s8 := s8.below (by omega) al
    have sf := sf.below (by omega) al
    have st := st.below (by omega) al
    have hbr := hbr.trans (al.mono hbr.size)
    generalize hW : (wr.alloc (.cells #[.slice A7 n7 c7, .slice A8 n8 c8, .int .u64 (s : Int)] 72)) = w3 at *
    have Hst := Lib.hid hst
    have hfl := sf.lenb
    have Hfl := Lib.hid hfl
    clear hst al hfl
    obtain ⟨x0, x1, x2, x3⟩ := id kB
    by_cases hf : nf = 0
    case pos =>
      subst hf
      have hf0 : ff.length = 0 := Hfl.out
      have HF0 := Lib.hid hf0
      clear hf0
      obtain ⟨b2, hb2⟩ : ∃ b, ltL tt x.hi = b := ⟨_, rfl⟩
      have c2 := less_is w3 At nt ct _ st A8 n8 c8 _ s8 b2 (Lib.hid hb2)
      have C2 := Lib.hid c2
      have B2 := Lib.hid hb2
      clear c2 hb2
      go_wp2_with fail
      try rw [hW]
      refine C2.out.mono ?_
      rintro e w' ⟨rfl, rfl⟩
      cases b2
      case false =>
        go_wp2
        go_roundw
        case rel => exact ⟨j + 1, x.lo, A7, n7, c7, tt, At, nt, ct, by go_num, rfl, rfl, by omega, hbr, s7, st, Lib.hid (by rw [← HR.out, Hst.out]; simp only [bndStep]; rw [if_pos (.inl HF0.out), if_neg (by rw [B2.out]; simp)])⟩
        case measure => simp [intOf]; omega
      go_wp2
      go_roundw
      case rel => exact ⟨j + 1, x.lo, A7, n7, c7, x.hi, A8, n8, c8, by go_num, rfl, rfl, by omega, hbr, s7, s8, Lib.hid (by rw [← HR.out, Hst.out]; simp only [bndStep]; rw [if_pos (.inl HF0.out), if_pos B2.out])⟩
      case measure => simp [intOf]; omega
    obtain ⟨b1, hb1⟩ : ∃ b, ltL x.lo ff = b := ⟨_, rfl⟩
    have z1 : ((nf : Int) == 0) = false := by simp; omega
    have c1 := less_is w3 A7 n7 c7 _ s7 Af nf cf _ sf b1 (Lib.hid hb1)
    have C1 := Lib.hid c1
    have B1 := Lib.hid hb1
    have HNZ := Lib.hid (show ¬ ff.length = 0 by rw [Hfl.out]; exact hf)
    clear c1 hb1
    go_wp2_with fail
    try rw [hW]
    refine C1.out.mono ?_
    rintro e w' ⟨rfl, rfl⟩
    cases b1
    case false =>
      obtain ⟨b2, hb2⟩ : ∃ b, ltL tt x.hi = b := ⟨_, rfl⟩
      have c2 := less_is w3 At nt ct _ st A8 n8 c8 _ s8 b2 (Lib.hid hb2)
      have C2 := Lib.hid c2
      have B2 := Lib.hid hb2
      clear c2 hb2
      go_wp2_with fail
      refine C2.out.mono ?_
      rintro e w' ⟨rfl, rfl⟩
      cases b2
      case false =>
        go_wp2
        go_roundw
        case rel => exact ⟨j + 1, ff, Af, nf, cf, tt, At, nt, ct, by go_num, rfl, rfl, by omega, hbr, sf, st, Lib.hid (by rw [← HR.out, Hst.out]; simp only [bndStep]; rw [if_neg (fun q => q.elim (fun q => HNZ.out q) (fun q => by rw [B1.out] at q; cases q)), if_neg (by rw [B2.out]; simp)])⟩
        case measure => simp [intOf]; omega
      go_wp2
      go_roundw
      case rel => exact ⟨j + 1, ff, Af, nf, cf, x.hi, A8, n8, c8, by go_num, rfl, rfl, by omega, hbr, sf, s8, Lib.hid (by rw [← HR.out, Hst.out]; simp only [bndStep]; rw [if_neg (fun q => q.elim (fun q => HNZ.out q) (fun q => by rw [B1.out] at q; cases q)), if_pos B2.out])⟩
      case measure => simp [intOf]; omega
    case true =>
      obtain ⟨b2, hb2⟩ : ∃ b, ltL tt x.hi = b := ⟨_, rfl⟩
      have c2 := less_is w3 At nt ct _ st A8 n8 c8 _ s8 b2 (Lib.hid hb2)
      have C2 := Lib.hid c2
      have B2 := Lib.hid hb2
      clear c2 hb2
      go_wp2_with fail
      refine C2.out.mono ?_
      rintro e w' ⟨rfl, rfl⟩
      cases b2
      case false =>
        go_wp2
        go_roundw
        case rel => exact ⟨j + 1, x.lo, A7, n7, c7, tt, At, nt, ct, by go_num, rfl, rfl, by omega, hbr, s7, st, Lib.hid (by rw [← HR.out, Hst.out]; simp only [bndStep]; rw [if_pos (.inr B1.out), if_neg (by rw [B2.out]; simp)])⟩
        case measure => simp [intOf]; omega
      go_wp2
      go_roundw
      case rel => exact ⟨j + 1, x.lo, A7, n7, c7, x.hi, A8, n8, c8, by go_num, rfl, rfl, by omega, hbr, s7, s8, Lib.hid (by rw [← HR.out, Hst.out]; simp only [bndStep]; rw [if_pos (.inr B1.out), if_pos B2.out])⟩
      case measure => simp [intOf]; omega
end Go.Proofs.YtpffieogkfndaaaGreatDoor

namespace Go.Proofs.YtpffieogkfndaaaGreatDoor
open Go.RowKit
set_option maxRecDepth 20000
set_option linter.unusedVariables false
set_option linter.unusedSimpArgs false
theorem constT (w : World) (C : Array Value) (n c k : Nat) (h : w.heap.size = k) : (convert 29 29 (.slice (some ⟨k, 0, none⟩) n c)).run Tryz.prog (w.alloc (.cells C 5)) = .ok (.slice (some ⟨k, 0, none⟩) n c) (w.alloc (.cells C 5 (C.size, C.size + 1))) := by
  subst h
  exact Lib.run_convert_bytes_const (P := Tryz.prog) w 29 5 C n c Tryz.underlying29 Tryz.underlying5
/-- one byte, marked -/
theorem litT (w : World) (x : UInt8) : Sl (w.alloc (.cells #[.int .u8 (x.toNat : Int)] 5 (1, 2))) 1 (some ⟨w.heap.size, 0, none⟩) 1 1 (bc [x]) ∧ Below w.heap.size w (w.alloc (.cells #[.int .u8 (x.toNat : Int)] 5 (1, 2))) ∧ (w.alloc (.cells #[.int .u8 (x.toNat : Int)] 5 (1, 2))).heap.size = w.heap.size + 1 :=
  ⟨Sl.lit w _ _ 1 _ _ rfl (by unfold maxLen; omega) rfl, (Below.refl _ w).alloc (Nat.le_refl _) _, World.size_alloc _ _⟩
theorem conv_is (w : World) (A : Option Addr) (n c : Nat) (l : List UInt8) (h : Sl w 1 A n c (bc l)) (b : ByteArray) (hb : b.data.toList = l) : (convert 29 9 (.slice A n c)).run Tryz.prog w = .ok (.string b) w := by
  obtain ⟨s, e, r⟩ := run_conv w A n c l h
  rw [ByteArray.toList_eq] at e
  have : s = b := ByteArray.ext (Array.toList_inj.1 (e.trans hb.symm))
  rw [← this]
  exact r
set_option maxHeartbeats 4000000 in
theorem ent13_any (w : World) (s : ByteArray) (l : List UInt8) (hl : s.data.toList = l) (hm : l.length ≤ 1000000) (s2 : ByteArray) (l2 : List UInt8) (hl2 : s2.data.toList = l2) (hm2 : l2.length ≤ 1000000) (q : Int) :
    Calls Tryz.prog 33 #[.string s, .int .u64 q, .string s2] w fun e w' => ∃ (A : Option Addr) (n c : Nat) (B : Option Addr) (m d : Nat), e = .returned (.agg #[.slice A n c, .int .u64 q, .int .u8 2, .slice B m d]) ∧ Sl w' 1 A n c (bc l) ∧ Sl w' 1 B m d (bc l2) ∧ Below w.heap.size w w' := by
  have al := (Below.refl w.heap.size w).alloc (Nat.le_refl _) (.cells #[.slice none 0 0, .int .u64 0, .int .u8 0, .slice none 0 0] 69)
  have kR := Bx4.fresh w (.slice none 0 0) (.int .u64 0) (.int .u8 0) (.slice none 0 0) 69
  generalize hW : (w.alloc (.cells #[.slice none 0 0, .int .u64 0, .int .u8 0, .slice none 0 0] 69)) = w0 at *
  obtain ⟨c1, w1, r1, h1, b1⟩ := conv_text w0 s l hl hm
  obtain ⟨c2, w2, r2, h2, b2⟩ := conv_text w1 s2 l2 hl2 hm2
  have zR := kR.lt
  have h1 := h1.below (by omega) b2
  have kR := (kR.below b1).below b2
  have z1 := b1.size
  have hq := al.trans ((b1.trans (b2.mono b1.size)).mono al.size)
  obtain ⟨gA, hgA⟩ : ∃ gA, gA = w0.heap.size := ⟨_, rfl⟩
  obtain ⟨gB, hgB⟩ : ∃ gB, gB = w1.heap.size := ⟨_, rfl⟩
  rw [← hgA] at r1 h1 zR
  rw [← hgB] at r2 h2
  have zB : w.heap.size < gB := by omega
  have H1 := Lib.hid h1
  have H2 := Lib.hid h2
  have Hq := Lib.hid hq
  clear hl hl2 h1 h2 b1 b2 al hgA hgB z1 hq
  obtain ⟨x0, x1, x2, x3, x4⟩ := id kR
  go_enter Tryz.func33, Tryz.ntmps33
  go_wp2
  refine bodyPost_ret (v := .agg #[.slice (some ⟨gA, 0, none⟩) s.size c1, .int .u64 q, .int .u8 2, .slice (some ⟨gB, 0, none⟩) s2.size c2]) (by simp [results, Tryz.results33, go_sem, x0, x1, x2, x3]) rfl ⟨_, _, _, _, _, _, rfl, ?_, ?_, ?_⟩
  · iterate 4 refine sl_set ?_ (by simp; omega) _
    exact H1.out
  · iterate 4 refine sl_set ?_ (by simp; omega) _
    exact H2.out
  · iterate 4 refine Below.setCell ?_ (by simp) _
    exact Hq.out
def eA13 : EntL := ⟨⟨[97], 1, 2⟩, [120]⟩
def eC13 : EntL := ⟨⟨[99], 3, 2⟩, [121]⟩
def sB13 : SpanL := ⟨[98], [100], 2⟩
theorem check13 : checkTabL [eA13, eC13] [sB13] = 0 := by decide +kernel
theorem get13a : getL [eA13, eC13] [sB13] [99] 9 = ([121], 3, 1) := by decide +kernel
theorem get13b : getL [eA13, eC13] [sB13] [99] 2 = ([], 2, 2) := by decide +kernel
theorem bounds13 : boundsL [eA13, eC13] [sB13] = ([97], [100]) := by decide +kernel
/-- the rows of the example -/
theorem rows13 (w : World) (A1 : Option Addr) (n1 c1 : Nat) (A2 : Option Addr) (n2 c2 : Nat) (A3 : Option Addr) (n3 c3 : Nat) (A4 : Option Addr) (n4 c4 : Nat) (s1 : Sl w 1 A1 n1 c1 (bc [97])) (s2 : Sl w 1 A2 n2 c2 (bc [120])) (s3 : Sl w 1 A3 n3 c3 (bc [99])) (s4 : Sl w 1 A4 n4 c4 (bc [121])) :
    ∃ W : World, W = ((((w.alloc (.cells #[.slice A1 n1 c1, .int .u64 1, .int .u8 2, .slice A2 n2 c2, .slice A3 n3 c3, .int .u64 3, .int .u8 2, .slice A4 n4 c4] 69)).alloc (.cells #[.int .u8 98] 5 (1, 2))).alloc (.cells #[.int .u8 100] 5 (1, 2))).alloc (.cells #[.slice (some ⟨w.heap.size + 1, 0, none⟩) 1 1, .slice (some ⟨w.heap.size + 1 + 1, 0, none⟩) 1 1, .int .u64 2] 72)) ∧
      Below w.heap.size w W ∧ SlR W (fun _ => True) (some ⟨w.heap.size, 0, none⟩) 2 2 [eA13, eC13] ∧ SlR W (fun _ => True) (some ⟨w.heap.size + 1 + 1 + 1, 0, none⟩) 1 1 [sB13] := by
  refine ⟨_, rfl, ?_⟩
  have al := (Below.refl w.heap.size w).alloc (Nat.le_refl _) (.cells #[.slice A1 n1 c1, .int .u64 1, .int .u8 2, .slice A2 n2 c2, .slice A3 n3 c3, .int .u64 3, .int .u8 2, .slice A4 n4 c4] 69)
  have row : SlR (w.alloc (.cells #[.slice A1 n1 c1, .int .u64 1, .int .u8 2, .slice A2 n2 c2, .slice A3 n3 c3, .int .u64 3, .int .u8 2, .slice A4 n4 c4] 69)) (fun _ => True) (some ⟨w.heap.size, 0, none⟩) 2 2 [eA13, eC13] := by
    refine ⟨[.slice A1 n1 c1, .int .u64 1, .int .u8 2, .slice A2 n2 c2, .slice A3 n3 c3, .int .u64 3, .int .u8 2, .slice A4 n4 c4], ⟨rfl, Nat.le_refl _, by unfold maxLen; omega, fun _ => ⟨w.heap.size, 0, rfl, fun j u hu => by rw [cell_of_row _ _ _ _ _ _ (heap_alloc_new w _)]; simpa using hu⟩⟩, ?_, fun _ _ _ => trivial⟩
    exact ⟨[.slice A1 n1 c1, .int .u64 1, .int .u8 2, .slice A2 n2 c2], [.slice A3 n3 c3, .int .u64 3, .int .u8 2, .slice A4 n4 c4], rfl, ⟨_, _, rfl, Bk.of (s1.below (by omega) al), Bk.of (s2.below (by omega) al)⟩, RowC.single ⟨_, _, rfl, Bk.of (s3.below (by omega) al), Bk.of (s4.below (by omega) al)⟩⟩
  have z0 : (w.alloc (.cells #[.slice A1 n1 c1, .int .u64 1, .int .u8 2, .slice A2 n2 c2, .slice A3 n3 c3, .int .u64 3, .int .u8 2, .slice A4 n4 c4] 69)).heap.size = w.heap.size + 1 := World.size_alloc _ _
  generalize (w.alloc (.cells #[.slice A1 n1 c1, .int .u64 1, .int .u8 2, .slice A2 n2 c2, .slice A3 n3 c3, .int .u64 3, .int .u8 2, .slice A4 n4 c4] 69)) = w1 at *
  obtain ⟨t1, b1, z1⟩ := litT w1 98
  rw [show (((98 : UInt8).toNat : Nat) : Int) = 98 from rfl] at t1 b1 z1
  rw [z0] at t1 z1
  have row := row.below b1
  have al := al.trans (b1.mono al.size)
  generalize (w1.alloc (.cells #[.int .u8 98] 5 (1, 2))) = w2 at *
  obtain ⟨t2, b2, z2⟩ := litT w2 100
  rw [show (((100 : UInt8).toNat : Nat) : Int) = 100 from rfl] at t2 b2 z2
  rw [z1] at t2 z2
  have row := row.below b2
  have t1 := t1.below (by omega) b2
  have al := al.trans (b2.mono al.size)
  generalize (w2.alloc (.cells #[.int .u8 100] 5 (1, 2))) = w3 at *
  have al3 := (Below.refl w3.heap.size w3).alloc (Nat.le_refl _) (.cells #[.slice (some ⟨w.heap.size + 1, 0, none⟩) 1 1, .slice (some ⟨w.heap.size + 1 + 1, 0, none⟩) 1 1, .int .u64 2] 72)
  obtain ⟨xs, h1, h2⟩ := spanRow w3 sB13 2 rfl (fun _ => True) _ 1 1 _ 1 1 t1 (fun _ _ _ => trivial) t2 (fun _ _ _ => trivial) 72
  rw [z2] at h1
  exact ⟨al.trans (al3.mono al.size), row.below al3, ⟨xs, h1, h2, fun _ _ _ => trivial⟩⟩
theorem tab_len2 {l : List EntL} {sp : List SpanL} (hc : checkTabL l sp = 0) : (tabBytesL l sp).length ≤ 5090 * leafCount l + 2 * l.length + 160 * sp.length + 200 := by
  obtain ⟨c1, c2, c3, c4, c5, c6⟩ := checkTab_zero hc
  have b1 := leaves_len c4 (leafCount l)
  have b2 := index_len c4 (leafCount l) (Nat.le_refl _)
  have b3 := build_len (usersL l)
  have b4 := ranges_len c6
  have b5 : (usersL l).length = l.length := by simp [usersL]
  unfold tabBytesL partsL
  rw [List.length_append, footL_len]
  simp only [List.flatten_cons, List.flatten_nil, List.length_append, List.length_nil, closeL_len]
  omega
set_option maxHeartbeats 16000000 in
theorem awake13 (w : World) (hq : Quarter w) : Calls Tryz.prog 7 #[] w fun e w' => e = .returned (.bool true) ∧ Below w.heap.size w w' := by
  have k1 := fun w' => ent13_any w' ⟨#[97]⟩ [97] rfl (by decide) ⟨#[120]⟩ [120] rfl (by decide) 1
  have k2 := fun w' => ent13_any w' ⟨#[99]⟩ [99] rfl (by decide) ⟨#[121]⟩ [121] rfl (by decide) 3
  have K1 := Lib.hid k1
  have K2 := Lib.hid k2
  have HQ := Lib.hid hq
  clear k1 k2 hq
  have m0 := fun w C n c => constT w C n c _ rfl
  have m1 := fun (w : World) o C n c => constT (w.alloc o) C n c (w.heap.size + 1) (by simp)
  have m2 := fun (w : World) o o' C n c => constT ((w.alloc o).alloc o') C n c (w.heap.size + 1 + 1) (by simp)
  go_enter Tryz.func7, Tryz.ntmps7
  go_wp2_with fail
  refine (K1.out _).mono ?_
  rintro e w1 ⟨A1, n1, c1, A2, n2, c2, rfl, s1, s2, hb⟩
  have q := hb
  clear hb K1
  go_wp2_with fail
  refine (K2.out _).mono ?_
  rintro e w2 ⟨A3, n3, c3, A4, n4, c4, rfl, s3, s4, hb⟩
  have s1 := s1.below (by omega) hb
  have s2 := s2.below (by omega) hb
  have q := q.trans (hb.mono q.size)
  clear hb K2
  go_wp2_with fail
  obtain ⟨W, hW, hb, r1, r2⟩ := rows13 w2 A1 n1 c1 A2 n2 c2 A3 n3 c3 A4 n4 c4 s1 s2 s3 s4
  have q := q.trans (hb.mono q.size)
  rw [← hW]
  have kb := tbuild_any W _ _ 2 2 _ r1 _ _ 1 1 _ r2 (HQ.out.below q)
  have e1 : tabBE [eA13, eC13] [sB13] = (tabBytesL [eA13, eC13] [sB13], 0) := by unfold tabBE; rw [if_pos check13]
  rw [e1] at kb
  have hl := tab_len2 check13
  have hlc : leafCount [eA13, eC13] = 1 := rfl
  rw [hlc] at hl
  simp only [List.length_cons, List.length_nil] at hl
  obtain ⟨P, hP⟩ : ∃ P, tabBytesL [eA13, eC13] [sB13] = P := ⟨_, rfl⟩
  rw [hP] at kb hl
  have HP := Lib.hid hP
  unfold GotBE at kb
  have Kb := Lib.hid kb
  clear kb hP hW s1 s2 s3 s4 hb e1 r1 r2 hlc
  refine Kb.out.mono ?_
  rintro e w3 ⟨A5, n5, c5, rfl, ho5, hb⟩
  have q := q.trans (hb.mono q.size)
  have s5 := OwnB.sl ho5
  have hl5 := s5.lenb
  clear Kb hb ho5
  go_wp2_with fail
  refine (topen_any w3 A5 n5 c5 P s5 (HQ.out.below q) (by omega)).mono ?_
  rintro e w4 ⟨hb, ⟨g, l, sp, hc, hp, rfl, hT⟩ | ⟨hno, rfl⟩⟩
  case inr => exact absurd HP.out (hno _ _ check13)
  have q := q.trans (hb.mono q.size)
  obtain ⟨rfl, rfl⟩ := tab_one check13 hc (hp.trans HP.out.symm)
  have hl2 : (tabBytesL [eA13, eC13] [sB13]).length ≤ 65536 := by rw [hp]; omega
  have Hl2 := Lib.hid hl2
  clear hp hb s5 hl5 hl HP hl2 hc
  go_wp2_with fail
  obtain ⟨t1, hb, z1⟩ := litT w4 99
  rw [show (((99 : UInt8).toNat : Nat) : Int) = 99 from rfl] at t1 hb z1
  have q := q.trans (hb.mono q.size)
  have hT := hT.below hb
  have kg := tget_any _ _ g _ _ check13 hT Hl2.out (HQ.out.below q) _ 1 1 _ t1 (by omega) 9
  rw [get13a, show (((9 : UInt64).toNat : Nat) : Int) = 9 from rfl] at kg
  unfold GotVal at kg
  generalize (w4.alloc (.cells #[.int .u8 99] 5 (1, 2))) = w5 at *
  have Kg := Lib.hid kg
  clear kg hb t1 z1
  refine Kg.out.mono ?_
  rintro e w6 ⟨A6, n6, c6, rfl, s6, hb⟩
  have q := q.trans (hb.mono q.size)
  have hT := hT.below hb
  clear hb Kg
  simp only at s6
  go_wp2_with fail
  obtain ⟨t1, hb, z1⟩ := litT w6 99
  rw [show (((99 : UInt8).toNat : Nat) : Int) = 99 from rfl] at t1 hb z1
  have q := q.trans (hb.mono q.size)
  have hT := hT.below hb
  have s6 := s6.below (by omega) hb
  have kg := tget_any _ _ g _ _ check13 hT Hl2.out (HQ.out.below q) _ 1 1 _ t1 (by omega) 2
  rw [get13b, show (((2 : UInt64).toNat : Nat) : Int) = 2 from rfl] at kg
  unfold GotVal at kg
  generalize (w6.alloc (.cells #[.int .u8 99] 5 (1, 2))) = w7 at *
  have Kg := Lib.hid kg
  clear kg hb t1 z1
  refine Kg.out.mono ?_
  rintro e w8 ⟨A7, n7, c7, rfl, -, hb⟩
  have q := q.trans (hb.mono q.size)
  have hT := hT.below hb
  have s6 := s6.below (by omega) hb
  clear hb Kg
  go_wp2_with fail
  have kb := tbounds_any _ _ g _ _ check13 hT Hl2.out (HQ.out.below q)
  rw [bounds13] at kb
  have Kb := Lib.hid kb
  clear kb
  refine Kb.out.mono ?_
  rintro e w9 ⟨A8, n8, c8, A9, n9, c9, rfl, s8, s9, hb⟩
  have q := q.trans (hb.mono q.size)
  have hT := hT.below hb
  have s6 := s6.below (by omega) hb
  simp only at s8 s9
  have v6 := conv_is w9 A6 n6 c6 _ s6 ⟨#[121]⟩ rfl
  have v8 := conv_is w9 A8 n8 c8 _ s8 ⟨#[97]⟩ rfl
  have v9 := conv_is w9 A9 n9 c9 _ s9 ⟨#[100]⟩ rfl
  have kl := tableaves_any w9 _ g _ _ hT
  rw [show leafCount [eA13, eC13] = 1 from rfl] at kl
  have Kl := Lib.hid kl
  clear hb Kb kl s6 s8 s9 hT
  go_wp2_with fail
  refine Kl.out.mono ?_
  rintro e w' ⟨rfl, rfl⟩
  go_wp2
  go_ret
  exact ⟨rfl, q⟩
end Go.Proofs.YtpffieogkfndaaaGreatDoor
