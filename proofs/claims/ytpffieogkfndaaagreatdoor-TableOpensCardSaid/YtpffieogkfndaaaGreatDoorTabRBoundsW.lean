/-
  The document's bounds of a table. (Printed by genrbounds13.py.) No condition.
-/
import Derived.Test.YtpffieogkfndaaaGreatDoorJTabBounds
import Derived.Test.YtpffieogkfndaaaGreatDoorJBloomPlain
import Derived.Test.YtpffieogkfndaaaGreatDoorJRowsX
import Derived.Test.YtpffieogkfndaaaGreatDoorJSpans
namespace Go.Proofs.YtpffieogkfndaaaGreatDoor
open Go.RowKit
set_option maxRecDepth 20000
set_option linter.unusedVariables false
set_option linter.unusedSimpArgs false
set_option maxHeartbeats 16000000 in
theorem rtbounds_any (w : World) (g : Nat) (l : List EntL) (sp : List SpanL) (hc : checkTabL l sp = 0) (p : Nat → Prop) (A1 : Option Addr) (n1 c1 : Nat) (k0 : w.cell? ⟨g, 0, none⟩ = some (.slice A1 n1 c1)) (r1 : SlR w p A1 n1 c1 l) (p' : Nat → Prop) (A2 : Option Addr) (n2 c2 : Nat) (k1 : w.cell? ⟨g, 1, none⟩ = some (.slice A2 n2 c2)) (r2 : SlR w p' A2 n2 c2 sp) :
    Calls Tryz.prog 31 #[.pointer (some ⟨g, 0, none⟩)] w fun e w' => ∃ A n c A' n' c', e = .returned (.tuple #[.slice A n c, .slice A' n' c']) ∧ Sl w' 1 A n c (bc (rboundsL l sp).1) ∧ Sl w' 1 A' n' c' (bc (rboundsL l sp).2) ∧ Below w.heap.size w w' := by
  obtain ⟨R, hR⟩ : ∃ R, rboundsL l sp = R := ⟨_, rfl⟩
  rw [hR]
  unfold rboundsL at hR
  obtain ⟨R1, hR1⟩ : ∃ R, l.foldl rbndStep ([], []) = R := ⟨_, rfl⟩
  rw [hR1] at hR
  have hl1 := r1.lenR
  have hcp1 := r1.cap
  unfold maxLen at hcp1
  have hl2 := r2.lenR
  have hcp2 := r2.cap
  unfold maxLen at hcp2
  obtain ⟨-, -, -, c4', -, -⟩ := checkTab_zero hc
  have hub : ∀ e ∈ l, e.key.user.length ≤ 64 := fun e he => (checkKey_bounds (c4' e he).1).2.2.1
  have HUB := Lib.hid hub
  have h0 : (l.drop 0).foldl rbndStep (([] : List UInt8), ([] : List UInt8)) = R1 := by rw [List.drop_zero]; exact hR1
  have H0 := Lib.hid h0
  have HRR := Lib.hid hR
  have Hl1 := Lib.hid hl1
  have Hl2 := Lib.hid hl2
  clear hR hR1 h0 hl1 hl2 c4' hub
  go_enter Tryz.func31, Tryz.ntmps31
  go_wp2
  go_loopw [4, 5, 16] (fun fv tv iv wr => ∃ (j : Nat) (ff : List UInt8) (Af : Option Addr) (nf cf : Nat) (tt : List UInt8) (At : Option Addr) (nt ct : Nat), iv = .int .i64 (j : Int) ∧ fv = .slice Af nf cf ∧ tv = .slice At nt ct ∧ j ≤ n1 ∧ Below w.heap.size w wr ∧ Sl wr 1 Af nf cf (bc ff) ∧ Sl wr 1 At nt ct (bc tt) ∧ Hid ((l.drop j).foldl rbndStep (ff, tt) = R1)) (fun _ _ iv _ => n1 - (intOf iv).toNat)
  case atStart => exact ⟨0, [], none, 0, 0, [], none, 0, 0, rfl, rfl, rfl, Nat.zero_le _, Below.refl _ _, Sl.nil _ _ _ _ (Nat.zero_le _), Sl.nil _ _ _ _ (Nat.zero_le _), H0.out⟩
  case round =>
    clear H0
    obtain ⟨j, ff, Af, nf, cf, tt, At, nt, ct, rfl, rfl, rfl, hj, hbr, sf, st, HR⟩ := hrel
    by_cases hlt : j < n1
    case pos =>
      obtain ⟨b, o, A7, n7, c7, A8, n8, c8, hjl, rfl, d0, d1, d2, d3, s7, _⟩ := (r1.below hbr).entAt hlt
      have hst : (l.drop j).foldl rbndStep (ff, tt) = (l.drop (j + 1)).foldl rbndStep (if ff.length = 0 ∨ ltL l[j].key.user ff = true then l[j].key.user else ff, if ltL tt (l[j].key.user ++ [0]) = true then l[j].key.user ++ [0] else tt) := by rw [List.drop_eq_getElem_cons hjl]; rfl
      have hu := HUB.out l[j] (List.getElem_mem hjl)
      generalize l[j].key.seq.toNat = s at *
      generalize l[j].key.kind.toNat = d at *
      generalize l[j].key.user = us at *
      have al := (Below.refl wr.heap.size wr).alloc (Nat.le_refl _) (.cells #[.slice A7 n7 c7, .int .u64 (s : Int), .int .u8 (d : Int), .slice A8 n8 c8] 69)
      have kB := Bx4.fresh wr (.slice A7 n7 c7) (.int .u64 (s : Int)) (.int .u8 (d : Int)) (.slice A8 n8 c8) 69
      have s7 := s7.below (by omega) al
      have sf := sf.below (by omega) al
      have st := st.below (by omega) al
      have hbr := hbr.trans (al.mono hbr.size)
      generalize hW : (wr.alloc (.cells #[.slice A7 n7 c7, .int .u64 (s : Int), .int .u8 (d : Int), .slice A8 n8 c8] 69)) = w3 at *
      have Hst := Lib.hid hst
      have Hfl := Lib.hid sf.lenb
      have h7l := s7.lenb
      have LF := fun b h0 q => sf.lt (by omega) h0 b q
      have LT := fun b h0 q => st.lt (by omega) h0 b q
      have L7 := fun b h0 q => s7.lt (by omega) h0 b q
      have hz3 := hbr.size
      have hn7 : n7 ≤ 64 := by omega
      clear hst al h7l hu
      obtain ⟨x0, x1, x2, x3, x4⟩ := id kB
      by_cases hf : nf = 0
      case pos =>
        subst hf
        have hf0 : ff.length = 0 := Hfl.out
        have HF0 := Lib.hid hf0
        clear hf0
        go_wp2_with fail
        try rw [hW]
        refine (copy_any w3 A7 n7 c7 us s7 (by omega)).mono ?_
        rintro e w5 ⟨A9, n9, c9, rfl, ho9, hb⟩
        have hn9 : n9 ≤ 1000 := by have := OwnB.len' ho9; have := s7.lenb; omega
        have st := st.below (by omega) hb
        have s7 := s7.below (by omega) hb
        have hbr := hbr.trans (hb.mono hbr.size)
        have z5 := hb.size
        have hlit : Sl (w5.alloc (.cells #[.int .u8 0] 5)) 1 (some ⟨w5.heap.size, 0, none⟩) 1 1 (bc [0]) := Sl.lit w5 _ _ 1 _ _ rfl (by unfold maxLen; omega) rfl
        have hb2 := (Below.refl w5.heap.size w5).alloc (Nat.le_refl _) (.cells #[.int .u8 0] 5)
        have hlt_ := fun b (h0 : 0 < nt) (q : Option.map (·.block) At = some b) => LT b h0 q
        have hl7 := fun b (h0 : 0 < n7) (q : Option.map (·.block) A7 = some b) => L7 b h0 q
        have ho9 := Own.below ho9 hb2
        have st := st.below (by omega) hb2
        have s7 := s7.below (by omega) hb2
        have hbr := hbr.trans (hb2.mono hbr.size)
        clear hb hb2
        go_wp2_with (at_builtin; refine wpList_appB _ rfl (.tmp 36) (.tmp 37) rfl w3.heap.size A9 n9 c9 us rfl ho9 _ 1 1 [0] rfl hlit ?_ ?_ ?_)
        · omega
        · simp; omega
        intro A10 c10 w6 ho10 hg _
        have hM := fun (b : Nat) q => (Own.lt ho9 b q).1
        have st := st.grown (by omega) hg (fun h0 b hb q => by have := hM b q; have := hlt_ b h0 hb; omega)
        have s7 := s7.grown (by omega) hg (fun h0 b hb q => by have := hM b q; have := hl7 b h0 hb; omega)
        have hbr := hbr.grown hg hbr.size (fun b q => by have := hM b q; have := hz3; omega)
        have s10 := OwnB.sl ho10
        obtain ⟨b2, hb2⟩ : ∃ b, ltL tt (us ++ [0]) = b := ⟨_, rfl⟩
        have c2 := rless_is w6 At nt ct _ st A10 (n9 + 1) c10 _ s10 b2 (Lib.hid hb2)
        have C2 := Lib.hid c2
        have B2 := Lib.hid hb2
        clear c2 hb2 hlit ho9 ho10 hg hM hlt_ hl7
        go_wp2_with fail
        refine C2.out.mono ?_
        rintro e w' ⟨rfl, rfl⟩
        cases b2
        case false =>
          go_wp2
          go_roundw
          case rel => exact ⟨j + 1, us, A7, n7, c7, tt, At, nt, ct, by go_num, rfl, rfl, by omega, hbr, s7, st, Lib.hid (by rw [← HR.out, Hst.out]; rw [if_pos (.inl HF0.out), if_neg (by rw [B2.out]; simp)])⟩
          case measure => simp [intOf]; omega
        go_wp2
        go_roundw
        case rel => exact ⟨j + 1, us, A7, n7, c7, (us ++ [0]), A10, (n9 + 1), c10, by go_num, rfl, rfl, by omega, hbr, s7, s10, Lib.hid (by rw [← HR.out, Hst.out]; rw [if_pos (.inl HF0.out), if_pos B2.out])⟩
        case measure => simp [intOf]; omega
      obtain ⟨b1, hb1⟩ : ∃ b, ltL us ff = b := ⟨_, rfl⟩
      have z1 : ((nf : Int) == 0) = false := by simp; omega
      have c1 := rless_is w3 A7 n7 c7 _ s7 Af nf cf _ sf b1 (Lib.hid hb1)
      have C1 := Lib.hid c1
      have B1 := Lib.hid hb1
      have HNZ := Lib.hid (show ¬ ff.length = 0 by rw [Hfl.out]; exact hf)
      clear c1 hb1
      go_wp2_with fail
      try rw [hW]
      refine C1.out.mono ?_
      rintro e w' ⟨rfl, rfl⟩
      cases b1
      case false =>
        go_wp2_with fail
        try rw [hW]
        refine (copy_any w3 A7 n7 c7 us s7 (by omega)).mono ?_
        rintro e w5 ⟨A9, n9, c9, rfl, ho9, hb⟩
        have hn9 : n9 ≤ 1000 := by have := OwnB.len' ho9; have := s7.lenb; omega
        have sf := sf.below (by omega) hb
        have st := st.below (by omega) hb
        have s7 := s7.below (by omega) hb
        have hbr := hbr.trans (hb.mono hbr.size)
        have z5 := hb.size
        have hlit : Sl (w5.alloc (.cells #[.int .u8 0] 5)) 1 (some ⟨w5.heap.size, 0, none⟩) 1 1 (bc [0]) := Sl.lit w5 _ _ 1 _ _ rfl (by unfold maxLen; omega) rfl
        have hb2 := (Below.refl w5.heap.size w5).alloc (Nat.le_refl _) (.cells #[.int .u8 0] 5)
        have hlf := fun b (h0 : 0 < nf) (q : Option.map (·.block) Af = some b) => LF b h0 q
        have hlt_ := fun b (h0 : 0 < nt) (q : Option.map (·.block) At = some b) => LT b h0 q
        have hl7 := fun b (h0 : 0 < n7) (q : Option.map (·.block) A7 = some b) => L7 b h0 q
        have ho9 := Own.below ho9 hb2
        have sf := sf.below (by omega) hb2
        have st := st.below (by omega) hb2
        have s7 := s7.below (by omega) hb2
        have hbr := hbr.trans (hb2.mono hbr.size)
        clear hb hb2
        go_wp2_with (at_builtin; refine wpList_appB _ rfl (.tmp 36) (.tmp 37) rfl w3.heap.size A9 n9 c9 us rfl ho9 _ 1 1 [0] rfl hlit ?_ ?_ ?_)
        · omega
        · simp; omega
        intro A10 c10 w6 ho10 hg _
        have hM := fun (b : Nat) q => (Own.lt ho9 b q).1
        have sf := sf.grown (by omega) hg (fun h0 b hb q => by have := hM b q; have := hlf b h0 hb; omega)
        have st := st.grown (by omega) hg (fun h0 b hb q => by have := hM b q; have := hlt_ b h0 hb; omega)
        have s7 := s7.grown (by omega) hg (fun h0 b hb q => by have := hM b q; have := hl7 b h0 hb; omega)
        have hbr := hbr.grown hg hbr.size (fun b q => by have := hM b q; have := hz3; omega)
        have s10 := OwnB.sl ho10
        obtain ⟨b2, hb2⟩ : ∃ b, ltL tt (us ++ [0]) = b := ⟨_, rfl⟩
        have c2 := rless_is w6 At nt ct _ st A10 (n9 + 1) c10 _ s10 b2 (Lib.hid hb2)
        have C2 := Lib.hid c2
        have B2 := Lib.hid hb2
        clear c2 hb2 hlit ho9 ho10 hg hM hlf hlt_ hl7
        go_wp2_with fail
        refine C2.out.mono ?_
        rintro e w' ⟨rfl, rfl⟩
        cases b2
        case false =>
          go_wp2
          go_roundw
          case rel => exact ⟨j + 1, ff, Af, nf, cf, tt, At, nt, ct, by go_num, rfl, rfl, by omega, hbr, sf, st, Lib.hid (by rw [← HR.out, Hst.out]; rw [if_neg (fun q => q.elim (fun q => HNZ.out q) (fun q => by rw [B1.out] at q; cases q)), if_neg (by rw [B2.out]; simp)])⟩
          case measure => simp [intOf]; omega
        go_wp2
        go_roundw
        case rel => exact ⟨j + 1, ff, Af, nf, cf, (us ++ [0]), A10, (n9 + 1), c10, by go_num, rfl, rfl, by omega, hbr, sf, s10, Lib.hid (by rw [← HR.out, Hst.out]; rw [if_neg (fun q => q.elim (fun q => HNZ.out q) (fun q => by rw [B1.out] at q; cases q)), if_pos B2.out])⟩
        case measure => simp [intOf]; omega
      case true =>
        go_wp2_with fail
        try rw [hW]
        refine (copy_any w3 A7 n7 c7 us s7 (by omega)).mono ?_
        rintro e w5 ⟨A9, n9, c9, rfl, ho9, hb⟩
        have hn9 : n9 ≤ 1000 := by have := OwnB.len' ho9; have := s7.lenb; omega
        have st := st.below (by omega) hb
        have s7 := s7.below (by omega) hb
        have hbr := hbr.trans (hb.mono hbr.size)
        have z5 := hb.size
        have hlit : Sl (w5.alloc (.cells #[.int .u8 0] 5)) 1 (some ⟨w5.heap.size, 0, none⟩) 1 1 (bc [0]) := Sl.lit w5 _ _ 1 _ _ rfl (by unfold maxLen; omega) rfl
        have hb2 := (Below.refl w5.heap.size w5).alloc (Nat.le_refl _) (.cells #[.int .u8 0] 5)
        have hlt_ := fun b (h0 : 0 < nt) (q : Option.map (·.block) At = some b) => LT b h0 q
        have hl7 := fun b (h0 : 0 < n7) (q : Option.map (·.block) A7 = some b) => L7 b h0 q
        have ho9 := Own.below ho9 hb2
        have st := st.below (by omega) hb2
        have s7 := s7.below (by omega) hb2
        have hbr := hbr.trans (hb2.mono hbr.size)
        clear hb hb2
        go_wp2_with (at_builtin; refine wpList_appB _ rfl (.tmp 36) (.tmp 37) rfl w3.heap.size A9 n9 c9 us rfl ho9 _ 1 1 [0] rfl hlit ?_ ?_ ?_)
        · omega
        · simp; omega
        intro A10 c10 w6 ho10 hg _
        have hM := fun (b : Nat) q => (Own.lt ho9 b q).1
        have st := st.grown (by omega) hg (fun h0 b hb q => by have := hM b q; have := hlt_ b h0 hb; omega)
        have s7 := s7.grown (by omega) hg (fun h0 b hb q => by have := hM b q; have := hl7 b h0 hb; omega)
        have hbr := hbr.grown hg hbr.size (fun b q => by have := hM b q; have := hz3; omega)
        have s10 := OwnB.sl ho10
        obtain ⟨b2, hb2⟩ : ∃ b, ltL tt (us ++ [0]) = b := ⟨_, rfl⟩
        have c2 := rless_is w6 At nt ct _ st A10 (n9 + 1) c10 _ s10 b2 (Lib.hid hb2)
        have C2 := Lib.hid c2
        have B2 := Lib.hid hb2
        clear c2 hb2 hlit ho9 ho10 hg hM hlt_ hl7
        go_wp2_with fail
        refine C2.out.mono ?_
        rintro e w' ⟨rfl, rfl⟩
        cases b2
        case false =>
          go_wp2
          go_roundw
          case rel => exact ⟨j + 1, us, A7, n7, c7, tt, At, nt, ct, by go_num, rfl, rfl, by omega, hbr, s7, st, Lib.hid (by rw [← HR.out, Hst.out]; rw [if_pos (.inr B1.out), if_neg (by rw [B2.out]; simp)])⟩
          case measure => simp [intOf]; omega
        go_wp2
        go_roundw
        case rel => exact ⟨j + 1, us, A7, n7, c7, (us ++ [0]), A10, (n9 + 1), c10, by go_num, rfl, rfl, by omega, hbr, s7, s10, Lib.hid (by rw [← HR.out, Hst.out]; rw [if_pos (.inr B1.out), if_pos B2.out])⟩
        case measure => simp [intOf]; omega
    obtain rfl : n1 = j := by omega
    have er := HR.out
    rw [List.drop_of_length_le (by have := Hl1.out; omega)] at er
    have er : R1 = (ff, tt) := er.symm
    subst er
    have k1 := stays hbr k1
    have r2 := r2.below hbr
    obtain ⟨w1, hw1⟩ : ∃ w1 : World, w1 = wr := ⟨_, rfl⟩
    subst hw1
    have hbz := hbr
    have h0 : (sp.drop 0).foldl bndStep (ff, tt) = R := by rw [List.drop_zero]; exact HRR.out
    have H0 := Lib.hid h0
    have sf0 := sf
    have st0 := st
    clear HR HRR h0 hbr sf st r1 k0
    go_wp2
    go_loopw [4, 5, 49] (fun fv tv iv wr => ∃ (j : Nat) (ff : List UInt8) (Af : Option Addr) (nf cf : Nat) (tt : List UInt8) (At : Option Addr) (nt ct : Nat), iv = .int .i64 (j : Int) ∧ fv = .slice Af nf cf ∧ tv = .slice At nt ct ∧ j ≤ n2 ∧ Below w1.heap.size w1 wr ∧ Sl wr 1 Af nf cf (bc ff) ∧ Sl wr 1 At nt ct (bc tt) ∧ Hid ((sp.drop j).foldl bndStep (ff, tt) = R)) (fun _ _ iv _ => n2 - (intOf iv).toNat)
    case atStart => exact ⟨0, ff, Af, nf, cf, tt, At, nt, ct, rfl, rfl, rfl, Nat.zero_le _, Below.refl _ _, sf0, st0, H0.out⟩
    case round =>
      clear sf0 st0 H0
      obtain ⟨j, ff, Af, nf, cf, tt, At, nt, ct, rfl, rfl, rfl, hj, hbr, sf, st, HR⟩ := hrel
      by_cases hlt : j < n2
      case neg =>
        obtain rfl : n2 = j := by omega
        have er := HR.out
        rw [List.drop_of_length_le (by have := Hl2.out; omega)] at er
        have er : R = (ff, tt) := er.symm
        subst er
        have hbz := hbz.trans (hbr.mono hbz.size)
        clear HR
        go_wp2
        go_ret2
        exact ⟨Af, nf, cf, At, nt, ct, rfl, sf, st, hbz⟩
      obtain ⟨b, o, A7, n7, c7, A8, n8, c8, hjl, rfl, d0, d1, d2, s7, _, s8, _⟩ := (r2.below hbr).spanAt hlt
      have hst : (sp.drop j).foldl bndStep (ff, tt) = (sp.drop (j + 1)).foldl bndStep (bndStep (ff, tt) sp[j]) := by rw [List.drop_eq_getElem_cons hjl]; rfl
      generalize sp[j] = x at *
      have al := (Below.refl wr.heap.size wr).alloc (Nat.le_refl _) (.cells #[.slice A7 n7 c7, .slice A8 n8 c8, .int .u64 (x.seq.toNat : Int)] 72)
      have kB := Bx.fresh wr (.slice A7 n7 c7) (.slice A8 n8 c8) (.int .u64 (x.seq.toNat : Int)) 72
      generalize x.seq.toNat = s at *
      have s7 := s7.below (by omega) al
      have s8 := s8.below (by omega) al
      have sf := sf.below (by omega) al
      have st := st.below (by omega) al
      have hbr := hbr.trans (al.mono hbr.size)
      generalize hW : (wr.alloc (.cells #[.slice A7 n7 c7, .slice A8 n8 c8, .int .u64 (s : Int)] 72)) = w3 at *
      have Hst := Lib.hid hst
      have Hfl := Lib.hid sf.lenb
      clear hst al
      obtain ⟨x0, x1, x2, x3⟩ := id kB
      by_cases hf : nf = 0
      case pos =>
        subst hf
        have hf0 : ff.length = 0 := Hfl.out
        have HF0 := Lib.hid hf0
        clear hf0
        obtain ⟨b2, hb2⟩ : ∃ b, ltL tt x.hi = b := ⟨_, rfl⟩
        have c2 := rless_is w3 At nt ct _ st A8 n8 c8 _ s8 b2 (Lib.hid hb2)
        have C2 := Lib.hid c2
        have B2 := Lib.hid hb2
        clear c2 hb2
        go_wp2_with fail
        try rw [hW]
        refine C2.out.mono ?_
        rintro e w' ⟨rfl, rfl⟩
        cases b2
        case false =>
          go_wp2
          go_roundw
          case rel => exact ⟨j + 1, x.lo, A7, n7, c7, tt, At, nt, ct, by go_num, rfl, rfl, by omega, hbr, s7, st, Lib.hid (by rw [← HR.out, Hst.out]; simp only [bndStep]; rw [if_pos (.inl HF0.out), if_neg (by rw [B2.out]; simp)])⟩
          case measure => simp [intOf]; omega
        go_wp2
        go_roundw
        case rel => exact ⟨j + 1, x.lo, A7, n7, c7, x.hi, A8, n8, c8, by go_num, rfl, rfl, by omega, hbr, s7, s8, Lib.hid (by rw [← HR.out, Hst.out]; simp only [bndStep]; rw [if_pos (.inl HF0.out), if_pos B2.out])⟩
        case measure => simp [intOf]; omega
      obtain ⟨b1, hb1⟩ : ∃ b, ltL x.lo ff = b := ⟨_, rfl⟩
      have z1 : ((nf : Int) == 0) = false := by simp; omega
      have c1 := rless_is w3 A7 n7 c7 _ s7 Af nf cf _ sf b1 (Lib.hid hb1)
      have C1 := Lib.hid c1
      have B1 := Lib.hid hb1
      have HNZ := Lib.hid (show ¬ ff.length = 0 by rw [Hfl.out]; exact hf)
      clear c1 hb1
      go_wp2_with fail
      try rw [hW]
      refine C1.out.mono ?_
      rintro e w' ⟨rfl, rfl⟩
      cases b1
      case false =>
        obtain ⟨b2, hb2⟩ : ∃ b, ltL tt x.hi = b := ⟨_, rfl⟩
        have c2 := rless_is w3 At nt ct _ st A8 n8 c8 _ s8 b2 (Lib.hid hb2)
        have C2 := Lib.hid c2
        have B2 := Lib.hid hb2
        clear c2 hb2
        go_wp2_with fail
        try rw [hW]
        refine C2.out.mono ?_
        rintro e w' ⟨rfl, rfl⟩
        cases b2
        case false =>
          go_wp2
          go_roundw
          case rel => exact ⟨j + 1, ff, Af, nf, cf, tt, At, nt, ct, by go_num, rfl, rfl, by omega, hbr, sf, st, Lib.hid (by rw [← HR.out, Hst.out]; simp only [bndStep]; rw [if_neg (fun q => q.elim (fun q => HNZ.out q) (fun q => by rw [B1.out] at q; cases q)), if_neg (by rw [B2.out]; simp)])⟩
          case measure => simp [intOf]; omega
        go_wp2
        go_roundw
        case rel => exact ⟨j + 1, ff, Af, nf, cf, x.hi, A8, n8, c8, by go_num, rfl, rfl, by omega, hbr, sf, s8, Lib.hid (by rw [← HR.out, Hst.out]; simp only [bndStep]; rw [if_neg (fun q => q.elim (fun q => HNZ.out q) (fun q => by rw [B1.out] at q; cases q)), if_pos B2.out])⟩
        case measure => simp [intOf]; omega
      case true =>
        obtain ⟨b2, hb2⟩ : ∃ b, ltL tt x.hi = b := ⟨_, rfl⟩
        have c2 := rless_is w3 At nt ct _ st A8 n8 c8 _ s8 b2 (Lib.hid hb2)
        have C2 := Lib.hid c2
        have B2 := Lib.hid hb2
        clear c2 hb2
        go_wp2_with fail
        try rw [hW]
        refine C2.out.mono ?_
        rintro e w' ⟨rfl, rfl⟩
        cases b2
        case false =>
          go_wp2
          go_roundw
          case rel => exact ⟨j + 1, x.lo, A7, n7, c7, tt, At, nt, ct, by go_num, rfl, rfl, by omega, hbr, s7, st, Lib.hid (by rw [← HR.out, Hst.out]; simp only [bndStep]; rw [if_pos (.inr B1.out), if_neg (by rw [B2.out]; simp)])⟩
          case measure => simp [intOf]; omega
        go_wp2
        go_roundw
        case rel => exact ⟨j + 1, x.lo, A7, n7, c7, x.hi, A8, n8, c8, by go_num, rfl, rfl, by omega, hbr, s7, s8, Lib.hid (by rw [← HR.out, Hst.out]; simp only [bndStep]; rw [if_pos (.inr B1.out), if_pos B2.out])⟩
        case measure => simp [intOf]; omega
end Go.Proofs.YtpffieogkfndaaaGreatDoor
