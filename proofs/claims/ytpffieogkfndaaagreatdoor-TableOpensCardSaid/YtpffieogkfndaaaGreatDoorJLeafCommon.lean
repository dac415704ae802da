/-
  LeafCheck, LeafCommon in one text. No condition but sizes.
-/
import Derived.Test.YtpffieogkfndaaaGreatDoorJBloomRefB
import Derived.Test.YtpffieogkfndaaaGreatDoorJTabBounds
import Derived.Test.YtpffieogkfndaaaGreatDoorJRowsX
namespace Go.Proofs.YtpffieogkfndaaaGreatDoor
open Go.RowKit
set_option maxRecDepth 20000
set_option linter.unusedVariables false
set_option linter.unusedSimpArgs false
set_option maxHeartbeats 8000000 in
theorem check12_any (w : World) (p : Nat → Prop) (A : Option Addr) (n c : Nat) (ls : List EntL) (h : SlR w p A n c ls) :
    Calls Tryz.prog 79 #[.slice A n c] w fun e w' => e = .returned (.int .i64 (checkLeafL ls : Nat)) ∧ Below w.heap.size w w' := by
  have hl := h.lenR
  unfold checkLeafL
  rw [hl]
  rcases Nat.lt_or_ge 64 n with hn | hn
  · rw [if_pos hn]
    have hcp := h.cap
    unfold maxLen at hcp
    clear hl h
    go_enter Tryz.func79, Tryz.ntmps79
    go_wp2
    go_ret
    exact ⟨rfl, Below.refl _ _⟩
  rw [if_neg (by omega)]
  obtain ⟨r1, hr1⟩ : ∃ r1, firstErr checkEntL ls = r1 := ⟨_, rfl⟩
  obtain ⟨r, hr⟩ : ∃ r, risesL ls = r := ⟨_, rfl⟩
  obtain ⟨R, hR⟩ : ∃ R, (if r1 ≠ 0 then r1 else if r = true then 0 else 10) = R := ⟨_, rfl⟩
  rw [hr1, hr, hR]
  have Hl := Lib.hid hl
  have Hr1 := Lib.hid hr1
  have Hr := Lib.hid hr
  have HR := Lib.hid hR
  clear hl hr1 hr hR
  go_enter Tryz.func79, Tryz.ntmps79
  go_wp2
  go_loopw [12] (fun q wr => ∃ j : Nat, j ≤ n ∧ q = .int .i64 j ∧ Below w.heap.size w wr ∧ Hid (firstErr checkEntL (ls.drop j) = r1)) (fun q _ => n - (intOf q).toNat)
  case atStart => exact ⟨0, Nat.zero_le _, rfl, Below.refl _ _, Lib.hid Hr1.out⟩
  case round =>
    obtain ⟨j, hj, rfl, hbr, He⟩ := hrel
    by_cases hlt : j < n
    · obtain ⟨b, o, A3, n3, c3, A4, n4, c4, hjl, rfl, d0, d1, d2, d3, hs3, hs4⟩ := (h.below hbr).entAt hlt
      have hst : firstErr checkEntL (ls.drop j) = if checkEntL ls[j] ≠ 0 then checkEntL ls[j] else firstErr checkEntL (ls.drop (j + 1)) := by
        rw [List.drop_eq_getElem_cons hjl]
        rfl
      rw [He.out] at hst
      have hee : checkEntL ls[j] = if checkKey ls[j].key ≠ 0 then checkKey ls[j].key else if 512 < n4 then 3 else 0 := by unfold checkEntL; rw [hs4.lenb]
      have hck := fun (w' : World) (hb : Below wr.heap.size wr w') => check_any w' A3 n3 c3 ls[j].key (hs3.below (by omega) hb)
      have hcp4 := hs4.cap
      have hcm4 := hs4.capm
      unfold maxLen at hcm4
      generalize checkEntL ls[j] = E at *
      generalize checkKey ls[j].key = e at *
      generalize ls[j].key.kind.toNat = d at *
      generalize ls[j].key.seq.toNat = s at *
      have Hst := Lib.hid hst
      have Hee := Lib.hid hee
      have Hck := Lib.hid hck
      clear hst hck hs3 hs4 hee
      have hal := (Below.refl wr.heap.size wr).alloc (Nat.le_refl _) (.cells #[.slice A3 n3 c3, .int .u64 (s : Int), .int .u8 (d : Int), .slice A4 n4 c4] 69)
      have kE := Bx4.fresh wr (.slice A3 n3 c3) (.int .u64 (s : Int)) (.int .u8 (d : Int)) (.slice A4 n4 c4) 69
      generalize hW : (wr.alloc (.cells #[.slice A3 n3 c3, .int .u64 (s : Int), .int .u8 (d : Int), .slice A4 n4 c4] 69)) = w1 at *
      obtain ⟨x0, x1, x2, x3, x4⟩ := id kE
      go_wp2_with fail
      try rw [hW]
      clear hW x0 x1 x2 x3 x4
      refine (Hck.out _ hal).mono ?_
      rintro e' w3 ⟨rfl, hb3⟩
      have kE := kE.below hb3
      obtain ⟨x0, x1, x2, x3, x4⟩ := id kE
      have hb4 := hbr.trans ((hal.trans (hb3.mono hal.size)).mono hbr.size)
      clear hal hb3 Hck d0 d1 d2 d3 h kE
      rcases Nat.eq_zero_or_pos e with rfl | he
      · by_cases hv : 512 < n4
        · have er : R = 3 := by rw [← HR.out, Hst.out, Hee.out]; simp [hv]
          subst er
          go_wp2
          go_ret
          exact ⟨rfl, hb4⟩
        · have eE : E = 0 := by rw [Hee.out]; simp [hv]
          subst eE
          go_wp2
          go_roundw
          case rel => exact ⟨j + 1, by omega, by go_num, hb4, Lib.hid (by rw [Hst.out]; simp)⟩
          case measure => simp [intOf]; omega
      · have er : R = e := by
          have h1 := Hee.out
          rw [if_pos (by omega)] at h1
          have h2 : r1 = e := by rw [Hst.out, h1, if_pos (by omega)]
          rw [← HR.out, h2, if_pos (by omega)]
        subst er
        have t1 : ((R : Int) == 0) = false := by simp; omega
        have t2 : ((R : Int) != 0) = true := by simp; omega
        go_wp2
        go_ret
        exact ⟨rfl, hb4⟩
    · obtain rfl : n = j := by omega
      have e := He.out
      rw [List.drop_of_length_le (by have := Hl.out; omega)] at e
      obtain rfl : 0 = r1 := e
      have hR2 := HR.out
      simp only [ne_eq, not_true_eq_false, if_false] at hR2
      have h := h.below hbr
      have HR2 := Lib.hid hR2
      clear He hR2 HR hlt
      have hX0 := Below.refl wr.heap.size wr
      obtain ⟨wS, hwS⟩ : ∃ wS, wS = wr := ⟨_, rfl⟩
      have hS : Below w.heap.size w wS := by rw [hwS]; exact hbr
      have hSh : SlR wS p A n c ls := by rw [hwS]; exact h
      rw [← hwS]
      clear hwS hbr h hX0 Hr1
      go_wp2
      go_loopw [6] (fun q wr => ∃ j : Nat, 1 ≤ j ∧ (j ≤ n ∨ j = 1) ∧ q = .int .i64 j ∧ Below wS.heap.size wS wr ∧ Hid (risesL (ls.drop (j - 1)) = r)) (fun q _ => n - (intOf q).toNat)
      case atStart => exact ⟨1, Nat.le_refl _, .inr rfl, rfl, Below.refl _ _, Lib.hid (by rw [Nat.sub_self, List.drop_zero]; exact Hr.out)⟩
      case round =>
        obtain ⟨j, hj1, hj, rfl, hbS, Hc⟩ := hrel
        have hbr := hS.trans (hbS.mono hS.size)
        by_cases hlt : j < n
        case neg =>
          have e1 : r = true := by
            rw [← Hc.out]
            have hd : (ls.drop (j - 1)).length ≤ 1 := by rw [List.length_drop, Hl.out]; omega
            match hm : ls.drop (j - 1), hd with
            | [], _ => rfl
            | [_], _ => rfl
            | _ :: _ :: _, hd => simp at hd
          subst e1
          have er : 0 = R := HR2.out
          subst er
          clear HR2
          go_wp2
          go_ret
          exact ⟨rfl, hbr⟩
        obtain ⟨q, hq⟩ : ∃ q, j = q + 1 := ⟨j - 1, by omega⟩
        have hqn : q < n := by omega
        have hw1 : IntKind.i64.wrap ((j : Int) - 1) = (q : Int) := by rw [IntKind.wrap_i64]; omega
        have hsw := hSh.below hbS
        obtain ⟨b, o, A3, n3, c3, A4, n4, c4, hql, rfl, d0, d1, d2, d3, g1, _⟩ := hsw.entAt hqn
        obtain ⟨b', o', A5, n5, c5, A6, n6, c6, hjl, hbo, f0, f1, f2, f3, g2, _⟩ := hsw.entAt hlt
        obtain ⟨rfl, rfl⟩ : b = b' ∧ o = o' := by simpa using hbo
        have d0 : (World.drew _).cell? _ = _ := d0
        have d1 : (World.drew _).cell? _ = _ := d1
        have d2 : (World.drew _).cell? _ = _ := d2
        have f0 : (World.drew _).cell? _ = _ := f0
        have f1 : (World.drew _).cell? _ = _ := f1
        have f2 : (World.drew _).cell? _ = _ := f2
        have g1 := g1.drew
        have g2 := g2.drew
        have hst : risesL (ls.drop q) = (lessKey ls[q].key ls[j].key && risesL (ls.drop j)) := by
          rw [List.drop_eq_getElem_cons hql]
          subst hq
          rw [List.drop_eq_getElem_cons hjl]
          rfl
        have hcc := Hc.out
        rw [show j - 1 = q by omega, hst] at hcc
        obtain ⟨lk, hlk⟩ : ∃ lk, lessKey ls[q].key ls[j].key = lk := ⟨_, rfl⟩
        rw [hlk] at hcc
        have Hst := Lib.hid hcc.symm
        have Hq := Lib.hid hq
        have hbr := below_drew hbr
        have hbS := below_drew hbS
        clear hst hcc hq hsw hbo Hc d3 f3
        generalize hW : World.drew _ = w0 at *
        have cm := fun w' (hb : Below w0.heap.size w0 w') => compare_any w' A3 n3 c3 ls[q].key (g1.below (by omega) hb) A5 n5 c5 ls[j].key (g2.below (by omega) hb)
        have hlk : decide (cmpKey ls[q].key ls[j].key < 0) = lk := by rw [cmpKey_less]; exact hlk
        generalize cmpKey ls[q].key ls[j].key = v at *
        have Hlk := Lib.hid hlk
        have Cm := Lib.hid cm
        clear cm hlk g1 g2
        generalize ls[q].key.seq.toNat = s1 at *
        generalize ls[q].key.kind.toNat = k1 at *
        generalize ls[j].key.seq.toNat = s2 at *
        generalize ls[j].key.kind.toNat = k2 at *
        go_wp2_with fail
        by_cases hv : v < 0
        case pos =>
          have hlk : lk = true := by rw [← Hlk.out]; exact decide_eq_true hv
          subst hlk
          have i1 : decide (0 ≤ v) = false := decide_eq_false (by omega)
          clear hv
          refine regionF (fun _ wa wb => Below w0.heap.size w0 wa → Below w0.heap.size w0 wb) (by kernel_rfl) ?_
          rw [hW]
          clear hW
          have hX := Below.refl w0.heap.size w0
          refine takeP (i := 0) (v := ?_) rfl hX ?hy ?_
          case hy =>
            intro wS hSw
            clear hSw
            go_simp
            try with_reducible rfl
          refine takeP (i := 1) (v := ?_) rfl hX ?hy ?_
          case hy =>
            intro wS hSw
            clear hSw
            go_simp
            try with_reducible rfl
          refine takeP (i := 2) (v := ?_) rfl hX ?hy ?_
          case hy =>
            intro wS hSw
            clear hSw
            go_simp
            try with_reducible rfl
          refine takeP (i := 3) (v := ?_) rfl hX ?hy ?_
          case hy =>
            intro wS hSw
            clear hSw
            go_simp
            try with_reducible rfl
          refine takeP (i := 4) (v := ?_) rfl hX ?hy ?_
          case hy =>
            intro wS hSw
            clear hSw
            go_simp
            try with_reducible rfl
          refine takeP (i := 5) (v := ?_) rfl hX ?hy ?_
          case hy =>
            intro wS hSw
            have d0 := stays hSw d0
            have d1 := stays hSw d1
            have d2 := stays hSw d2
            clear hSw
            go_simp
            try with_reducible rfl
          refine takeP (i := 6) (v := ?_) rfl hX ?hy ?_
          case hy =>
            intro wS hSw
            clear hSw
            go_simp
            try with_reducible rfl
          refine takeP (i := 7) (v := ?_) rfl hX ?hy ?_
          case hy =>
            intro wS hSw
            clear hSw
            go_simp
            try with_reducible rfl
          refine takeP (i := 8) (v := ?_) rfl hX ?hy ?_
          case hy =>
            intro wS hSw
            clear hSw
            go_simp
            try with_reducible rfl
          refine takeP (i := 9) (v := ?_) rfl hX ?hy ?_
          case hy =>
            intro wS hSw
            clear hSw
            go_simp
            try with_reducible rfl
          refine takeP (i := 10) (v := ?_) rfl hX ?hy ?_
          case hy =>
            intro wS hSw
            have f0 := stays hSw f0
            have f1 := stays hSw f1
            have f2 := stays hSw f2
            clear hSw
            go_simp
            try with_reducible rfl
          try simp only [List.getElem_toArray, List.getElem_cons_succ, List.getElem_cons_zero, Act.put, List.setIfInBounds_toArray, List.set_cons_zero, List.set_cons_succ]
          refine readyF (rs := [11]) (by kernel_rfl) (by simp) ?_
          refine AllF.cons rfl (fun K hK => ?_) AllF.nil
          go_simp
          refine (Cm.out _ hX).mono ?_
          rintro e w0_11 ⟨rfl, hb⟩
          refine hK _ _ (fun h => h.trans (hb.mono h.size)) ?_
          clear hK K
          have hX := hX.trans (hb.mono hX.size)
          clear hb
          refine takeP (i := 12) (v := ?_) rfl hX ?hy ?_
          case hy =>
            intro wS hSw
            clear hSw
            go_simp
            try with_reducible rfl
          try simp only [List.getElem_toArray, List.getElem_cons_succ, List.getElem_cons_zero, Act.put, List.setIfInBounds_toArray, List.set_cons_zero, List.set_cons_succ]
          refine doneF (by kernel_rfl) ?_ _
          try simp only [List.getElem_toArray, List.getElem_cons_succ, List.getElem_cons_zero, Act.put, List.setIfInBounds_toArray, List.set_cons_zero, List.set_cons_succ]
          go_wp2
          go_roundw
          case rel => exact ⟨j + 1, by omega, by omega, by go_num, hbS.trans (hX.mono hbS.size), Lib.hid (by rw [Hst.out, Nat.add_sub_cancel]; rfl)⟩
          case measure => simp [intOf]; omega
        have hlk : lk = false := by rw [← Hlk.out]; exact decide_eq_false hv
        subst hlk
        have hrr : r = false := Hst.out
        subst hrr
        have i1 : decide (0 ≤ v) = true := decide_eq_true (by omega)
        clear hv
        refine regionF (fun _ wa wb => Below w0.heap.size w0 wa → Below w0.heap.size w0 wb) (by kernel_rfl) ?_
        rw [hW]
        clear hW
        have hX := Below.refl w0.heap.size w0
        refine takeP (i := 0) (v := ?_) rfl hX ?hy ?_
        case hy =>
          intro wS hSw
          clear hSw
          go_simp
          try with_reducible rfl
        refine takeP (i := 1) (v := ?_) rfl hX ?hy ?_
        case hy =>
          intro wS hSw
          clear hSw
          go_simp
          try with_reducible rfl
        refine takeP (i := 2) (v := ?_) rfl hX ?hy ?_
        case hy =>
          intro wS hSw
          clear hSw
          go_simp
          try with_reducible rfl
        refine takeP (i := 3) (v := ?_) rfl hX ?hy ?_
        case hy =>
          intro wS hSw
          clear hSw
          go_simp
          try with_reducible rfl
        refine takeP (i := 4) (v := ?_) rfl hX ?hy ?_
        case hy =>
          intro wS hSw
          clear hSw
          go_simp
          try with_reducible rfl
        refine takeP (i := 5) (v := ?_) rfl hX ?hy ?_
        case hy =>
          intro wS hSw
          have d0 := stays hSw d0
          have d1 := stays hSw d1
          have d2 := stays hSw d2
          clear hSw
          go_simp
          try with_reducible rfl
        refine takeP (i := 6) (v := ?_) rfl hX ?hy ?_
        case hy =>
          intro wS hSw
          clear hSw
          go_simp
          try with_reducible rfl
        refine takeP (i := 7) (v := ?_) rfl hX ?hy ?_
        case hy =>
          intro wS hSw
          clear hSw
          go_simp
          try with_reducible rfl
        refine takeP (i := 8) (v := ?_) rfl hX ?hy ?_
        case hy =>
          intro wS hSw
          clear hSw
          go_simp
          try with_reducible rfl
        refine takeP (i := 9) (v := ?_) rfl hX ?hy ?_
        case hy =>
          intro wS hSw
          clear hSw
          go_simp
          try with_reducible rfl
        refine takeP (i := 10) (v := ?_) rfl hX ?hy ?_
        case hy =>
          intro wS hSw
          have f0 := stays hSw f0
          have f1 := stays hSw f1
          have f2 := stays hSw f2
          clear hSw
          go_simp
          try with_reducible rfl
        try simp only [List.getElem_toArray, List.getElem_cons_succ, List.getElem_cons_zero, Act.put, List.setIfInBounds_toArray, List.set_cons_zero, List.set_cons_succ]
        refine readyF (rs := [11]) (by kernel_rfl) (by simp) ?_
        refine AllF.cons rfl (fun K hK => ?_) AllF.nil
        go_simp
        refine (Cm.out _ hX).mono ?_
        rintro e w0_11 ⟨rfl, hb⟩
        refine hK _ _ (fun h => h.trans (hb.mono h.size)) ?_
        clear hK K
        have hX := hX.trans (hb.mono hX.size)
        clear hb
        refine takeP (i := 12) (v := ?_) rfl hX ?hy ?_
        case hy =>
          intro wS hSw
          clear hSw
          go_simp
          try with_reducible rfl
        try simp only [List.getElem_toArray, List.getElem_cons_succ, List.getElem_cons_zero, Act.put, List.setIfInBounds_toArray, List.set_cons_zero, List.set_cons_succ]
        refine doneF (by kernel_rfl) ?_ _
        try simp only [List.getElem_toArray, List.getElem_cons_succ, List.getElem_cons_zero, Act.put, List.setIfInBounds_toArray, List.set_cons_zero, List.set_cons_succ]
        have er : 10 = R := HR2.out
        subst er
        clear HR2
        go_wp2
        go_ret
        exact ⟨rfl, hbr.trans (hX.mono hbr.size)⟩
set_option maxHeartbeats 8000000 in
theorem rcheck12_any (w : World) (p : Nat → Prop) (A : Option Addr) (n c : Nat) (ls : List EntL) (h : SlR w p A n c ls) :
    Calls Tryz.prog 90 #[.slice A n c] w fun e w' => e = .returned (.int .i64 (checkLeafL ls : Nat)) ∧ Below w.heap.size w w' := by
  have hl := h.lenR
  unfold checkLeafL
  rw [hl]
  rcases Nat.lt_or_ge 64 n with hn | hn
  · rw [if_pos hn]
    have hcp := h.cap
    unfold maxLen at hcp
    clear hl h
    go_enter Tryz.func90, Tryz.ntmps90
    go_wp2
    go_ret
    exact ⟨rfl, Below.refl _ _⟩
  rw [if_neg (by omega)]
  obtain ⟨r1, hr1⟩ : ∃ r1, firstErr checkEntL ls = r1 := ⟨_, rfl⟩
  obtain ⟨r, hr⟩ : ∃ r, risesL ls = r := ⟨_, rfl⟩
  obtain ⟨R, hR⟩ : ∃ R, (if r1 ≠ 0 then r1 else if r = true then 0 else 10) = R := ⟨_, rfl⟩
  rw [hr1, hr, hR]
  have Hl := Lib.hid hl
  have Hr1 := Lib.hid hr1
  have Hr := Lib.hid hr
  have HR := Lib.hid hR
  clear hl hr1 hr hR
  go_enter Tryz.func90, Tryz.ntmps90
  go_wp2
  go_loopw [12] (fun q wr => ∃ j : Nat, j ≤ n ∧ q = .int .i64 j ∧ Below w.heap.size w wr ∧ Hid (firstErr checkEntL (ls.drop j) = r1)) (fun q _ => n - (intOf q).toNat)
  case atStart => exact ⟨0, Nat.zero_le _, rfl, Below.refl _ _, Lib.hid Hr1.out⟩
  case round =>
    obtain ⟨j, hj, rfl, hbr, He⟩ := hrel
    by_cases hlt : j < n
    · obtain ⟨b, o, A3, n3, c3, A4, n4, c4, hjl, rfl, d0, d1, d2, d3, hs3, hs4⟩ := (h.below hbr).entAt hlt
      have hst : firstErr checkEntL (ls.drop j) = if checkEntL ls[j] ≠ 0 then checkEntL ls[j] else firstErr checkEntL (ls.drop (j + 1)) := by
        rw [List.drop_eq_getElem_cons hjl]
        rfl
      rw [He.out] at hst
      have hee : checkEntL ls[j] = if checkKey ls[j].key ≠ 0 then checkKey ls[j].key else if 512 < n4 then 3 else 0 := by unfold checkEntL; rw [hs4.lenb]
      have hck := fun (w' : World) (hb : Below wr.heap.size wr w') => rcheck_any w' A3 n3 c3 ls[j].key (hs3.below (by omega) hb)
      have hcp4 := hs4.cap
      have hcm4 := hs4.capm
      unfold maxLen at hcm4
      generalize checkEntL ls[j] = E at *
      generalize checkKey ls[j].key = e at *
      generalize ls[j].key.kind.toNat = d at *
      generalize ls[j].key.seq.toNat = s at *
      have Hst := Lib.hid hst
      have Hee := Lib.hid hee
      have Hck := Lib.hid hck
      clear hst hck hs3 hs4 hee
      have hal := (Below.refl wr.heap.size wr).alloc (Nat.le_refl _) (.cells #[.slice A3 n3 c3, .int .u64 (s : Int), .int .u8 (d : Int), .slice A4 n4 c4] 69)
      have kE := Bx4.fresh wr (.slice A3 n3 c3) (.int .u64 (s : Int)) (.int .u8 (d : Int)) (.slice A4 n4 c4) 69
      generalize hW : (wr.alloc (.cells #[.slice A3 n3 c3, .int .u64 (s : Int), .int .u8 (d : Int), .slice A4 n4 c4] 69)) = w1 at *
      obtain ⟨x0, x1, x2, x3, x4⟩ := id kE
      go_wp2_with fail
      try rw [hW]
      clear hW x0 x1 x2 x3 x4
      refine (Hck.out _ hal).mono ?_
      rintro e' w3 ⟨rfl, hb3⟩
      have kE := kE.below hb3
      obtain ⟨x0, x1, x2, x3, x4⟩ := id kE
      have hb4 := hbr.trans ((hal.trans (hb3.mono hal.size)).mono hbr.size)
      clear hal hb3 Hck d0 d1 d2 d3 h kE
      rcases Nat.eq_zero_or_pos e with rfl | he
      · by_cases hv : 512 < n4
        · have er : R = 3 := by rw [← HR.out, Hst.out, Hee.out]; simp [hv]
          subst er
          go_wp2
          go_ret
          exact ⟨rfl, hb4⟩
        · have eE : E = 0 := by rw [Hee.out]; simp [hv]
          subst eE
          go_wp2
          go_roundw
          case rel => exact ⟨j + 1, by omega, by go_num, hb4, Lib.hid (by rw [Hst.out]; simp)⟩
          case measure => simp [intOf]; omega
      · have er : R = e := by
          have h1 := Hee.out
          rw [if_pos (by omega)] at h1
          have h2 : r1 = e := by rw [Hst.out, h1, if_pos (by omega)]
          rw [← HR.out, h2, if_pos (by omega)]
        subst er
        have t1 : ((R : Int) == 0) = false := by simp; omega
        have t2 : ((R : Int) != 0) = true := by simp; omega
        go_wp2
        go_ret
        exact ⟨rfl, hb4⟩
    · obtain rfl : n = j := by omega
      have e := He.out
      rw [List.drop_of_length_le (by have := Hl.out; omega)] at e
      obtain rfl : 0 = r1 := e
      have hR2 := HR.out
      simp only [ne_eq, not_true_eq_false, if_false] at hR2
      have h := h.below hbr
      have HR2 := Lib.hid hR2
      clear He hR2 HR hlt
      have hX0 := Below.refl wr.heap.size wr
      obtain ⟨wS, hwS⟩ : ∃ wS, wS = wr := ⟨_, rfl⟩
      have hS : Below w.heap.size w wS := by rw [hwS]; exact hbr
      have hSh : SlR wS p A n c ls := by rw [hwS]; exact h
      rw [← hwS]
      clear hwS hbr h hX0 Hr1
      go_wp2
      go_loopw [6] (fun q wr => ∃ j : Nat, 1 ≤ j ∧ (j ≤ n ∨ j = 1) ∧ q = .int .i64 j ∧ Below wS.heap.size wS wr ∧ Hid (risesL (ls.drop (j - 1)) = r)) (fun q _ => n - (intOf q).toNat)
      case atStart => exact ⟨1, Nat.le_refl _, .inr rfl, rfl, Below.refl _ _, Lib.hid (by rw [Nat.sub_self, List.drop_zero]; exact Hr.out)⟩
      case round =>
        obtain ⟨j, hj1, hj, rfl, hbS, Hc⟩ := hrel
        have hbr := hS.trans (hbS.mono hS.size)
        by_cases hlt : j < n
        case neg =>
          have e1 : r = true := by
            rw [← Hc.out]
            have hd : (ls.drop (j - 1)).length ≤ 1 := by rw [List.length_drop, Hl.out]; omega
            match hm : ls.drop (j - 1), hd with
            | [], _ => rfl
            | [_], _ => rfl
            | _ :: _ :: _, hd => simp at hd
          subst e1
          have er : 0 = R := HR2.out
          subst er
          clear HR2
          go_wp2
          go_ret
          exact ⟨rfl, hbr⟩
        obtain ⟨q, hq⟩ : ∃ q, j = q + 1 := ⟨j - 1, by omega⟩
        have hqn : q < n := by omega
        have hw1 : IntKind.i64.wrap ((j : Int) - 1) = (q : Int) := by rw [IntKind.wrap_i64]; omega
        have hsw := hSh.below hbS
        obtain ⟨b, o, A3, n3, c3, A4, n4, c4, hql, rfl, d0, d1, d2, d3, g1, _⟩ := hsw.entAt hqn
        obtain ⟨b', o', A5, n5, c5, A6, n6, c6, hjl, hbo, f0, f1, f2, f3, g2, _⟩ := hsw.entAt hlt
        obtain ⟨rfl, rfl⟩ : b = b' ∧ o = o' := by simpa using hbo
        have d0 : (World.drew _).cell? _ = _ := d0
        have d1 : (World.drew _).cell? _ = _ := d1
        have d2 : (World.drew _).cell? _ = _ := d2
        have f0 : (World.drew _).cell? _ = _ := f0
        have f1 : (World.drew _).cell? _ = _ := f1
        have f2 : (World.drew _).cell? _ = _ := f2
        have g1 := g1.drew
        have g2 := g2.drew
        have hst : risesL (ls.drop q) = (lessKey ls[q].key ls[j].key && risesL (ls.drop j)) := by
          rw [List.drop_eq_getElem_cons hql]
          subst hq
          rw [List.drop_eq_getElem_cons hjl]
          rfl
        have hcc := Hc.out
        rw [show j - 1 = q by omega, hst] at hcc
        obtain ⟨lk, hlk⟩ : ∃ lk, lessKey ls[q].key ls[j].key = lk := ⟨_, rfl⟩
        rw [hlk] at hcc
        have Hst := Lib.hid hcc.symm
        have Hq := Lib.hid hq
        have hbr := below_drew hbr
        have hbS := below_drew hbS
        clear hst hcc hq hsw hbo Hc d3 f3
        generalize hW : World.drew _ = w0 at *
        have cm := fun w' (hb : Below w0.heap.size w0 w') => klt_any w' A3 n3 c3 ls[q].key (g1.below (by omega) hb) A5 n5 c5 ls[j].key (g2.below (by omega) hb)
        rw [hlk] at cm
        have Cm := Lib.hid cm
        clear cm hlk g1 g2
        generalize ls[q].key.seq.toNat = s1 at *
        generalize ls[q].key.kind.toNat = k1 at *
        generalize ls[j].key.seq.toNat = s2 at *
        generalize ls[j].key.kind.toNat = k2 at *
        go_wp2_with fail
        cases lk
        case true =>
          refine regionF (fun _ wa wb => Below w0.heap.size w0 wa → Below w0.heap.size w0 wb) (by kernel_rfl) ?_
          rw [hW]
          clear hW
          have hX := Below.refl w0.heap.size w0
          refine takeP (i := 0) (v := ?_) rfl hX ?hy ?_
          case hy =>
            intro wS hSw
            clear hSw
            go_simp
            try with_reducible rfl
          refine takeP (i := 1) (v := ?_) rfl hX ?hy ?_
          case hy =>
            intro wS hSw
            clear hSw
            go_simp
            try with_reducible rfl
          refine takeP (i := 2) (v := ?_) rfl hX ?hy ?_
          case hy =>
            intro wS hSw
            clear hSw
            go_simp
            try with_reducible rfl
          refine takeP (i := 3) (v := ?_) rfl hX ?hy ?_
          case hy =>
            intro wS hSw
            clear hSw
            go_simp
            try with_reducible rfl
          refine takeP (i := 4) (v := ?_) rfl hX ?hy ?_
          case hy =>
            intro wS hSw
            clear hSw
            go_simp
            try with_reducible rfl
          refine takeP (i := 5) (v := ?_) rfl hX ?hy ?_
          case hy =>
            intro wS hSw
            have d0 := stays hSw d0
            have d1 := stays hSw d1
            have d2 := stays hSw d2
            clear hSw
            go_simp
            try with_reducible rfl
          refine takeP (i := 6) (v := ?_) rfl hX ?hy ?_
          case hy =>
            intro wS hSw
            clear hSw
            go_simp
            try with_reducible rfl
          refine takeP (i := 7) (v := ?_) rfl hX ?hy ?_
          case hy =>
            intro wS hSw
            clear hSw
            go_simp
            try with_reducible rfl
          refine takeP (i := 8) (v := ?_) rfl hX ?hy ?_
          case hy =>
            intro wS hSw
            clear hSw
            go_simp
            try with_reducible rfl
          refine takeP (i := 9) (v := ?_) rfl hX ?hy ?_
          case hy =>
            intro wS hSw
            clear hSw
            go_simp
            try with_reducible rfl
          refine takeP (i := 10) (v := ?_) rfl hX ?hy ?_
          case hy =>
            intro wS hSw
            have f0 := stays hSw f0
            have f1 := stays hSw f1
            have f2 := stays hSw f2
            clear hSw
            go_simp
            try with_reducible rfl
          try simp only [List.getElem_toArray, List.getElem_cons_succ, List.getElem_cons_zero, Act.put, List.setIfInBounds_toArray, List.set_cons_zero, List.set_cons_succ]
          refine readyF (rs := [11]) (by kernel_rfl) (by simp) ?_
          refine AllF.cons rfl (fun K hK => ?_) AllF.nil
          go_simp
          refine (Cm.out _ hX).mono ?_
          rintro e w0_11 ⟨rfl, hb⟩
          refine hK _ _ (fun h => h.trans (hb.mono h.size)) ?_
          clear hK K
          have hX := hX.trans (hb.mono hX.size)
          clear hb
          refine takeP (i := 12) (v := ?_) rfl hX ?hy ?_
          case hy =>
            intro wS hSw
            clear hSw
            go_simp
            try with_reducible rfl
          try simp only [List.getElem_toArray, List.getElem_cons_succ, List.getElem_cons_zero, Act.put, List.setIfInBounds_toArray, List.set_cons_zero, List.set_cons_succ]
          refine doneF (by kernel_rfl) ?_ _
          try simp only [List.getElem_toArray, List.getElem_cons_succ, List.getElem_cons_zero, Act.put, List.setIfInBounds_toArray, List.set_cons_zero, List.set_cons_succ]
          go_wp2
          go_roundw
          case rel => exact ⟨j + 1, by omega, by omega, by go_num, hbS.trans (hX.mono hbS.size), Lib.hid (by rw [Hst.out, Nat.add_sub_cancel]; rfl)⟩
          case measure => simp [intOf]; omega
        have hrr : r = false := Hst.out
        subst hrr
        refine regionF (fun _ wa wb => Below w0.heap.size w0 wa → Below w0.heap.size w0 wb) (by kernel_rfl) ?_
        rw [hW]
        clear hW
        have hX := Below.refl w0.heap.size w0
        refine takeP (i := 0) (v := ?_) rfl hX ?hy ?_
        case hy =>
          intro wS hSw
          clear hSw
          go_simp
          try with_reducible rfl
        refine takeP (i := 1) (v := ?_) rfl hX ?hy ?_
        case hy =>
          intro wS hSw
          clear hSw
          go_simp
          try with_reducible rfl
        refine takeP (i := 2) (v := ?_) rfl hX ?hy ?_
        case hy =>
          intro wS hSw
          clear hSw
          go_simp
          try with_reducible rfl
        refine takeP (i := 3) (v := ?_) rfl hX ?hy ?_
        case hy =>
          intro wS hSw
          clear hSw
          go_simp
          try with_reducible rfl
        refine takeP (i := 4) (v := ?_) rfl hX ?hy ?_
        case hy =>
          intro wS hSw
          clear hSw
          go_simp
          try with_reducible rfl
        refine takeP (i := 5) (v := ?_) rfl hX ?hy ?_
        case hy =>
          intro wS hSw
          have d0 := stays hSw d0
          have d1 := stays hSw d1
          have d2 := stays hSw d2
          clear hSw
          go_simp
          try with_reducible rfl
        refine takeP (i := 6) (v := ?_) rfl hX ?hy ?_
        case hy =>
          intro wS hSw
          clear hSw
          go_simp
          try with_reducible rfl
        refine takeP (i := 7) (v := ?_) rfl hX ?hy ?_
        case hy =>
          intro wS hSw
          clear hSw
          go_simp
          try with_reducible rfl
        refine takeP (i := 8) (v := ?_) rfl hX ?hy ?_
        case hy =>
          intro wS hSw
          clear hSw
          go_simp
          try with_reducible rfl
        refine takeP (i := 9) (v := ?_) rfl hX ?hy ?_
        case hy =>
          intro wS hSw
          clear hSw
          go_simp
          try with_reducible rfl
        refine takeP (i := 10) (v := ?_) rfl hX ?hy ?_
        case hy =>
          intro wS hSw
          have f0 := stays hSw f0
          have f1 := stays hSw f1
          have f2 := stays hSw f2
          clear hSw
          go_simp
          try with_reducible rfl
        try simp only [List.getElem_toArray, List.getElem_cons_succ, List.getElem_cons_zero, Act.put, List.setIfInBounds_toArray, List.set_cons_zero, List.set_cons_succ]
        refine readyF (rs := [11]) (by kernel_rfl) (by simp) ?_
        refine AllF.cons rfl (fun K hK => ?_) AllF.nil
        go_simp
        refine (Cm.out _ hX).mono ?_
        rintro e w0_11 ⟨rfl, hb⟩
        refine hK _ _ (fun h => h.trans (hb.mono h.size)) ?_
        clear hK K
        have hX := hX.trans (hb.mono hX.size)
        clear hb
        refine takeP (i := 12) (v := ?_) rfl hX ?hy ?_
        case hy =>
          intro wS hSw
          clear hSw
          go_simp
          try with_reducible rfl
        try simp only [List.getElem_toArray, List.getElem_cons_succ, List.getElem_cons_zero, Act.put, List.setIfInBounds_toArray, List.set_cons_zero, List.set_cons_succ]
        refine doneF (by kernel_rfl) ?_ _
        try simp only [List.getElem_toArray, List.getElem_cons_succ, List.getElem_cons_zero, Act.put, List.setIfInBounds_toArray, List.set_cons_zero, List.set_cons_succ]
        have er : 10 = R := HR2.out
        subst er
        clear HR2
        go_wp2
        go_ret
        exact ⟨rfl, hbr.trans (hX.mono hbr.size)⟩
end Go.Proofs.YtpffieogkfndaaaGreatDoor

namespace Go.Proofs.YtpffieogkfndaaaGreatDoor
open Go.RowKit
set_option maxRecDepth 20000
set_option linter.unusedVariables false
set_option linter.unusedSimpArgs false
set_option maxHeartbeats 8000000 in
theorem common_any (w : World) (A1 : Option Addr) (n1 c1 : Nat) (l1 : List UInt8) (h1 : Sl w 1 A1 n1 c1 (bc l1)) (A2 : Option Addr) (n2 c2 : Nat) (l2 : List UInt8) (h2 : Sl w 1 A2 n2 c2 (bc l2)) :
    Calls Tryz.prog 81 #[.slice A1 n1 c1, .slice A2 n2 c2] w fun e w' => e = .returned (.int .i64 (commonL l1 l2 : Nat)) ∧ Below w.heap.size w w' := by
  have hl1 := h1.lenb
  have hl2 := h2.lenb
  have hm1 := h1.capm
  have hc1 := h1.cap
  have hm2 := h2.capm
  have hc2 := h2.cap
  unfold maxLen at hm1 hm2
  have Hl1 := Lib.hid hl1
  have Hl2 := Lib.hid hl2
  clear hl1 hl2
  go_enter Tryz.func81, Tryz.ntmps81
  go_wp2
  go_loopw [5] (fun i wr => ∃ j : Nat, j ≤ n1 ∧ i = .int .i64 (j : Int) ∧ Hid (commonL l1 l2 = j + commonL (l1.drop j) (l2.drop j)) ∧ Below w.heap.size w wr) (fun i _ => (n1 - intOf i).toNat)
  case atStart => exact ⟨0, Nat.zero_le _, rfl, Lib.hid (by simp), Below.refl _ _⟩
  case round =>
    obtain ⟨j, hj, rfl, Hc, hbr⟩ := hrel
    have h1 := h1.below (by omega) hbr
    have h2 := h2.below (by omega) hbr
    have hb0 := below_drew hbr
    by_cases ha : j < n1
    case neg =>
      have e0 := commonL_nil l1 l2 j (.inl (by rw [Hl1.out]; omega))
      have i1 : decide (j < n1) = false := decide_eq_false ha
      have E0 := Lib.hid e0
      clear e0 h1 h2 hbr
      go_wp2_with fail
      generalize hW : World.drew _ = w0 at *
      refine regionF (fun _ wa wb => Below w0.heap.size w0 wa → Below w0.heap.size w0 wb) (by kernel_rfl) ?_
      rw [hW]
      clear hW
      have hX := Below.refl w0.heap.size w0
      refine takeP (i := 0) (v := ?_) rfl hX ?hy ?_
      case hy =>
        intro wS hSw
        clear hSw
        go_simp
        try with_reducible rfl
      refine takeP (i := 1) (v := ?_) rfl hX ?hy ?_
      case hy =>
        intro wS hSw
        clear hSw
        go_simp
        try with_reducible rfl
      refine takeP (i := 2) (v := ?_) rfl hX ?hy ?_
      case hy =>
        intro wS hSw
        clear hSw
        go_simp
        try with_reducible rfl
      refine takeP (i := 3) (v := ?_) rfl hX ?hy ?_
      case hy =>
        intro wS hSw
        clear hSw
        go_simp
        try with_reducible rfl
      refine takeP (i := 4) (v := ?_) rfl hX ?hy ?_
      case hy =>
        intro wS hSw
        clear hSw
        go_simp
        try with_reducible rfl
      try simp only [List.getElem_toArray, List.getElem_cons_succ, List.getElem_cons_zero, Act.put, List.setIfInBounds_toArray, List.set_cons_zero, List.set_cons_succ]
      refine takeF (i := 5) (v := undef) (fun wa => Below w0.heap.size w0 wa) rfl (by kernel_rfl) (by kernel_rfl) (by kernel_rfl) (fun j hj => .inr (.inr fun wa wb h g => g h)) (fun wa => id) (fun _ _ _ h => h) (Or.inr ⟨by kernel_rfl, rfl⟩) hX ?_
      try simp only [List.getElem_toArray, List.getElem_cons_succ, List.getElem_cons_zero, Act.put, List.setIfInBounds_toArray, List.set_cons_zero, List.set_cons_succ]
      refine takeF (i := 6) (v := undef) (fun wa => Below w0.heap.size w0 wa) rfl (by kernel_rfl) (by kernel_rfl) (by kernel_rfl) (fun j hj => .inr (.inr fun wa wb h g => g h)) (fun wa => id) (fun _ _ _ h => h) (Or.inr ⟨by kernel_rfl, rfl⟩) hX ?_
      try simp only [List.getElem_toArray, List.getElem_cons_succ, List.getElem_cons_zero, Act.put, List.setIfInBounds_toArray, List.set_cons_zero, List.set_cons_succ]
      refine takeF (i := 7) (v := undef) (fun wa => Below w0.heap.size w0 wa) rfl (by kernel_rfl) (by kernel_rfl) (by kernel_rfl) (fun j hj => .inr (.inr fun wa wb h g => g h)) (fun wa => id) (fun _ _ _ h => h) (Or.inr ⟨by kernel_rfl, rfl⟩) hX ?_
      try simp only [List.getElem_toArray, List.getElem_cons_succ, List.getElem_cons_zero, Act.put, List.setIfInBounds_toArray, List.set_cons_zero, List.set_cons_succ]
      refine takeF (i := 8) (v := undef) (fun wa => Below w0.heap.size w0 wa) rfl (by kernel_rfl) (by kernel_rfl) (by kernel_rfl) (fun j hj => .inr (.inr fun wa wb h g => g h)) (fun wa => id) (fun _ _ _ h => h) (Or.inr ⟨by kernel_rfl, rfl⟩) hX ?_
      refine takeP (i := 9) (v := ?_) rfl hX ?hy ?_
      case hy =>
        intro wS hSw
        clear hSw
        go_simp
        try with_reducible rfl
      refine takeP (i := 10) (v := ?_) rfl hX ?hy ?_
      case hy =>
        intro wS hSw
        clear hSw
        go_simp
        try with_reducible rfl
      try simp only [List.getElem_toArray, List.getElem_cons_succ, List.getElem_cons_zero, Act.put, List.setIfInBounds_toArray, List.set_cons_zero, List.set_cons_succ]
      refine takeF (i := 11) (v := undef) (fun wa => Below w0.heap.size w0 wa) rfl (by kernel_rfl) (by kernel_rfl) (by kernel_rfl) (fun j hj => .inr (.inr fun wa wb h g => g h)) (fun wa => id) (fun _ _ _ h => h) (Or.inr ⟨by kernel_rfl, rfl⟩) hX ?_
      try simp only [List.getElem_toArray, List.getElem_cons_succ, List.getElem_cons_zero, Act.put, List.setIfInBounds_toArray, List.set_cons_zero, List.set_cons_succ]
      refine takeF (i := 12) (v := undef) (fun wa => Below w0.heap.size w0 wa) rfl (by kernel_rfl) (by kernel_rfl) (by kernel_rfl) (fun j hj => .inr (.inr fun wa wb h g => g h)) (fun wa => id) (fun _ _ _ h => h) (Or.inr ⟨by kernel_rfl, rfl⟩) hX ?_
      try simp only [List.getElem_toArray, List.getElem_cons_succ, List.getElem_cons_zero, Act.put, List.setIfInBounds_toArray, List.set_cons_zero, List.set_cons_succ]
      refine takeF (i := 13) (v := undef) (fun wa => Below w0.heap.size w0 wa) rfl (by kernel_rfl) (by kernel_rfl) (by kernel_rfl) (fun j hj => .inr (.inr fun wa wb h g => g h)) (fun wa => id) (fun _ _ _ h => h) (Or.inr ⟨by kernel_rfl, rfl⟩) hX ?_
      try simp only [List.getElem_toArray, List.getElem_cons_succ, List.getElem_cons_zero, Act.put, List.setIfInBounds_toArray, List.set_cons_zero, List.set_cons_succ]
      refine takeF (i := 14) (v := undef) (fun wa => Below w0.heap.size w0 wa) rfl (by kernel_rfl) (by kernel_rfl) (by kernel_rfl) (fun j hj => .inr (.inr fun wa wb h g => g h)) (fun wa => id) (fun _ _ _ h => h) (Or.inr ⟨by kernel_rfl, rfl⟩) hX ?_
      try simp only [List.getElem_toArray, List.getElem_cons_succ, List.getElem_cons_zero, Act.put, List.setIfInBounds_toArray, List.set_cons_zero, List.set_cons_succ]
      refine takeF (i := 15) (v := undef) (fun wa => Below w0.heap.size w0 wa) rfl (by kernel_rfl) (by kernel_rfl) (by kernel_rfl) (fun j hj => .inr (.inr fun wa wb h g => g h)) (fun wa => id) (fun _ _ _ h => h) (Or.inr ⟨by kernel_rfl, rfl⟩) hX ?_
      try simp only [List.getElem_toArray, List.getElem_cons_succ, List.getElem_cons_zero, Act.put, List.setIfInBounds_toArray, List.set_cons_zero, List.set_cons_succ]
      refine takeF (i := 16) (v := undef) (fun wa => Below w0.heap.size w0 wa) rfl (by kernel_rfl) (by kernel_rfl) (by kernel_rfl) (fun j hj => .inr (.inr fun wa wb h g => g h)) (fun wa => id) (fun _ _ _ h => h) (Or.inr ⟨by kernel_rfl, rfl⟩) hX ?_
      try simp only [List.getElem_toArray, List.getElem_cons_succ, List.getElem_cons_zero, Act.put, List.setIfInBounds_toArray, List.set_cons_zero, List.set_cons_succ]
      refine takeF (i := 17) (v := undef) (fun wa => Below w0.heap.size w0 wa) rfl (by kernel_rfl) (by kernel_rfl) (by kernel_rfl) (fun j hj => .inr (.inr fun wa wb h g => g h)) (fun wa => id) (fun _ _ _ h => h) (Or.inr ⟨by kernel_rfl, rfl⟩) hX ?_
      try simp only [List.getElem_toArray, List.getElem_cons_succ, List.getElem_cons_zero, Act.put, List.setIfInBounds_toArray, List.set_cons_zero, List.set_cons_succ]
      refine takeF (i := 18) (v := undef) (fun wa => Below w0.heap.size w0 wa) rfl (by kernel_rfl) (by kernel_rfl) (by kernel_rfl) (fun j hj => .inr (.inr fun wa wb h g => g h)) (fun wa => id) (fun _ _ _ h => h) (Or.inr ⟨by kernel_rfl, rfl⟩) hX ?_
      try simp only [List.getElem_toArray, List.getElem_cons_succ, List.getElem_cons_zero, Act.put, List.setIfInBounds_toArray, List.set_cons_zero, List.set_cons_succ]
      refine takeF (i := 19) (v := undef) (fun wa => Below w0.heap.size w0 wa) rfl (by kernel_rfl) (by kernel_rfl) (by kernel_rfl) (fun j hj => .inr (.inr fun wa wb h g => g h)) (fun wa => id) (fun _ _ _ h => h) (Or.inr ⟨by kernel_rfl, rfl⟩) hX ?_
      refine takeP (i := 20) (v := ?_) rfl hX ?hy ?_
      case hy =>
        intro wS hSw
        clear hSw
        go_simp
        try with_reducible rfl
      try simp only [List.getElem_toArray, List.getElem_cons_succ, List.getElem_cons_zero, Act.put, List.setIfInBounds_toArray, List.set_cons_zero, List.set_cons_succ]
      refine doneF (by kernel_rfl) ?_ _
      try simp only [List.getElem_toArray, List.getElem_cons_succ, List.getElem_cons_zero, Act.put, List.setIfInBounds_toArray, List.set_cons_zero, List.set_cons_succ]
      go_wp2
      go_ret
      exact ⟨ret_int (by have := Hc.out; rw [E0.out] at this; omega), hb0⟩
    by_cases hb : j < n2
    case neg =>
      have e0 := commonL_nil l1 l2 j (.inr (by rw [Hl2.out]; omega))
      have i1 : decide (j < n1) = true := decide_eq_true ha
      have i2 : decide (j < n2) = false := decide_eq_false hb
      have E0 := Lib.hid e0
      clear e0 h1 h2 hbr
      go_wp2_with fail
      generalize hW : World.drew _ = w0 at *
      refine regionF (fun _ wa wb => Below w0.heap.size w0 wa → Below w0.heap.size w0 wb) (by kernel_rfl) ?_
      rw [hW]
      clear hW
      have hX := Below.refl w0.heap.size w0
      refine takeP (i := 0) (v := ?_) rfl hX ?hy ?_
      case hy =>
        intro wS hSw
        clear hSw
        go_simp
        try with_reducible rfl
      refine takeP (i := 1) (v := ?_) rfl hX ?hy ?_
      case hy =>
        intro wS hSw
        clear hSw
        go_simp
        try with_reducible rfl
      refine takeP (i := 2) (v := ?_) rfl hX ?hy ?_
      case hy =>
        intro wS hSw
        clear hSw
        go_simp
        try with_reducible rfl
      refine takeP (i := 3) (v := ?_) rfl hX ?hy ?_
      case hy =>
        intro wS hSw
        clear hSw
        go_simp
        try with_reducible rfl
      refine takeP (i := 4) (v := ?_) rfl hX ?hy ?_
      case hy =>
        intro wS hSw
        clear hSw
        go_simp
        try with_reducible rfl
      refine takeP (i := 5) (v := ?_) rfl hX ?hy ?_
      case hy =>
        intro wS hSw
        clear hSw
        go_simp
        try with_reducible rfl
      refine takeP (i := 6) (v := ?_) rfl hX ?hy ?_
      case hy =>
        intro wS hSw
        clear hSw
        go_simp
        try with_reducible rfl
      refine takeP (i := 7) (v := ?_) rfl hX ?hy ?_
      case hy =>
        intro wS hSw
        clear hSw
        go_simp
        try with_reducible rfl
      refine takeP (i := 8) (v := ?_) rfl hX ?hy ?_
      case hy =>
        intro wS hSw
        clear hSw
        go_simp
        try with_reducible rfl
      refine takeP (i := 9) (v := ?_) rfl hX ?hy ?_
      case hy =>
        intro wS hSw
        clear hSw
        go_simp
        try with_reducible rfl
      refine takeP (i := 10) (v := ?_) rfl hX ?hy ?_
      case hy =>
        intro wS hSw
        clear hSw
        go_simp
        try with_reducible rfl
      try simp only [List.getElem_toArray, List.getElem_cons_succ, List.getElem_cons_zero, Act.put, List.setIfInBounds_toArray, List.set_cons_zero, List.set_cons_succ]
      refine takeF (i := 11) (v := undef) (fun wa => Below w0.heap.size w0 wa) rfl (by kernel_rfl) (by kernel_rfl) (by kernel_rfl) (fun j hj => .inr (.inr fun wa wb h g => g h)) (fun wa => id) (fun _ _ _ h => h) (Or.inr ⟨by kernel_rfl, rfl⟩) hX ?_
      try simp only [List.getElem_toArray, List.getElem_cons_succ, List.getElem_cons_zero, Act.put, List.setIfInBounds_toArray, List.set_cons_zero, List.set_cons_succ]
      refine takeF (i := 12) (v := undef) (fun wa => Below w0.heap.size w0 wa) rfl (by kernel_rfl) (by kernel_rfl) (by kernel_rfl) (fun j hj => .inr (.inr fun wa wb h g => g h)) (fun wa => id) (fun _ _ _ h => h) (Or.inr ⟨by kernel_rfl, rfl⟩) hX ?_
      try simp only [List.getElem_toArray, List.getElem_cons_succ, List.getElem_cons_zero, Act.put, List.setIfInBounds_toArray, List.set_cons_zero, List.set_cons_succ]
      refine takeF (i := 13) (v := undef) (fun wa => Below w0.heap.size w0 wa) rfl (by kernel_rfl) (by kernel_rfl) (by kernel_rfl) (fun j hj => .inr (.inr fun wa wb h g => g h)) (fun wa => id) (fun _ _ _ h => h) (Or.inr ⟨by kernel_rfl, rfl⟩) hX ?_
      try simp only [List.getElem_toArray, List.getElem_cons_succ, List.getElem_cons_zero, Act.put, List.setIfInBounds_toArray, List.set_cons_zero, List.set_cons_succ]
      refine takeF (i := 14) (v := undef) (fun wa => Below w0.heap.size w0 wa) rfl (by kernel_rfl) (by kernel_rfl) (by kernel_rfl) (fun j hj => .inr (.inr fun wa wb h g => g h)) (fun wa => id) (fun _ _ _ h => h) (Or.inr ⟨by kernel_rfl, rfl⟩) hX ?_
      try simp only [List.getElem_toArray, List.getElem_cons_succ, List.getElem_cons_zero, Act.put, List.setIfInBounds_toArray, List.set_cons_zero, List.set_cons_succ]
      refine takeF (i := 15) (v := undef) (fun wa => Below w0.heap.size w0 wa) rfl (by kernel_rfl) (by kernel_rfl) (by kernel_rfl) (fun j hj => .inr (.inr fun wa wb h g => g h)) (fun wa => id) (fun _ _ _ h => h) (Or.inr ⟨by kernel_rfl, rfl⟩) hX ?_
      try simp only [List.getElem_toArray, List.getElem_cons_succ, List.getElem_cons_zero, Act.put, List.setIfInBounds_toArray, List.set_cons_zero, List.set_cons_succ]
      refine takeF (i := 16) (v := undef) (fun wa => Below w0.heap.size w0 wa) rfl (by kernel_rfl) (by kernel_rfl) (by kernel_rfl) (fun j hj => .inr (.inr fun wa wb h g => g h)) (fun wa => id) (fun _ _ _ h => h) (Or.inr ⟨by kernel_rfl, rfl⟩) hX ?_
      try simp only [List.getElem_toArray, List.getElem_cons_succ, List.getElem_cons_zero, Act.put, List.setIfInBounds_toArray, List.set_cons_zero, List.set_cons_succ]
      refine takeF (i := 17) (v := undef) (fun wa => Below w0.heap.size w0 wa) rfl (by kernel_rfl) (by kernel_rfl) (by kernel_rfl) (fun j hj => .inr (.inr fun wa wb h g => g h)) (fun wa => id) (fun _ _ _ h => h) (Or.inr ⟨by kernel_rfl, rfl⟩) hX ?_
      try simp only [List.getElem_toArray, List.getElem_cons_succ, List.getElem_cons_zero, Act.put, List.setIfInBounds_toArray, List.set_cons_zero, List.set_cons_succ]
      refine takeF (i := 18) (v := undef) (fun wa => Below w0.heap.size w0 wa) rfl (by kernel_rfl) (by kernel_rfl) (by kernel_rfl) (fun j hj => .inr (.inr fun wa wb h g => g h)) (fun wa => id) (fun _ _ _ h => h) (Or.inr ⟨by kernel_rfl, rfl⟩) hX ?_
      try simp only [List.getElem_toArray, List.getElem_cons_succ, List.getElem_cons_zero, Act.put, List.setIfInBounds_toArray, List.set_cons_zero, List.set_cons_succ]
      refine takeF (i := 19) (v := undef) (fun wa => Below w0.heap.size w0 wa) rfl (by kernel_rfl) (by kernel_rfl) (by kernel_rfl) (fun j hj => .inr (.inr fun wa wb h g => g h)) (fun wa => id) (fun _ _ _ h => h) (Or.inr ⟨by kernel_rfl, rfl⟩) hX ?_
      refine takeP (i := 20) (v := ?_) rfl hX ?hy ?_
      case hy =>
        intro wS hSw
        clear hSw
        go_simp
        try with_reducible rfl
      try simp only [List.getElem_toArray, List.getElem_cons_succ, List.getElem_cons_zero, Act.put, List.setIfInBounds_toArray, List.set_cons_zero, List.set_cons_succ]
      refine doneF (by kernel_rfl) ?_ _
      try simp only [List.getElem_toArray, List.getElem_cons_succ, List.getElem_cons_zero, Act.put, List.setIfInBounds_toArray, List.set_cons_zero, List.set_cons_succ]
      go_wp2
      go_ret
      exact ⟨ret_int (by have := Hc.out; rw [E0.out] at this; omega), hb0⟩
    have e0 := commonL_step l1 l2 j (by rw [Hl1.out]; omega) (by rw [Hl2.out]; omega)
    obtain ⟨ba, oa, xa, rfl, hxa, hxal, ca⟩ := h1.byte (k := j) (by rw [Hl1.out]; omega)
    obtain ⟨bb, ob, xb, rfl, hxb, hxbl, cb⟩ := h2.byte (k := j) (by rw [Hl2.out]; omega)
    have ca : (World.drew _).cell? _ = _ := ca
    have cb : (World.drew _).cell? _ = _ := cb
    have i1 : decide (j < n1) = true := decide_eq_true ha
    have i2 : decide (j < n2) = true := decide_eq_true hb
    by_cases hx : xa = xb
    case neg =>
      rw [if_neg (fun e => hx (by rw [← hxa, ← hxb, e]))] at e0
      have i3 : ((xa : Int) == (xb : Int)) = false := by rw [beq_eq_false_iff_ne]; omega
      have E0 := Lib.hid e0
      clear e0 h1 h2 hbr hxa hxb hx hxal hxbl
      go_wp2_with fail
      generalize hW : World.drew _ = w0 at *
      refine regionF (fun _ wa wb => Below w0.heap.size w0 wa → Below w0.heap.size w0 wb) (by kernel_rfl) ?_
      rw [hW]
      clear hW
      have hX := Below.refl w0.heap.size w0
      refine takeP (i := 0) (v := ?_) rfl hX ?hy ?_
      case hy =>
        intro wS hSw
        clear hSw
        go_simp
        try with_reducible rfl
      refine takeP (i := 1) (v := ?_) rfl hX ?hy ?_
      case hy =>
        intro wS hSw
        clear hSw
        go_simp
        try with_reducible rfl
      refine takeP (i := 2) (v := ?_) rfl hX ?hy ?_
      case hy =>
        intro wS hSw
        clear hSw
        go_simp
        try with_reducible rfl
      refine takeP (i := 3) (v := ?_) rfl hX ?hy ?_
      case hy =>
        intro wS hSw
        clear hSw
        go_simp
        try with_reducible rfl
      refine takeP (i := 4) (v := ?_) rfl hX ?hy ?_
      case hy =>
        intro wS hSw
        clear hSw
        go_simp
        try with_reducible rfl
      refine takeP (i := 5) (v := ?_) rfl hX ?hy ?_
      case hy =>
        intro wS hSw
        clear hSw
        go_simp
        try with_reducible rfl
      refine takeP (i := 6) (v := ?_) rfl hX ?hy ?_
      case hy =>
        intro wS hSw
        clear hSw
        go_simp
        try with_reducible rfl
      refine takeP (i := 7) (v := ?_) rfl hX ?hy ?_
      case hy =>
        intro wS hSw
        clear hSw
        go_simp
        try with_reducible rfl
      refine takeP (i := 8) (v := ?_) rfl hX ?hy ?_
      case hy =>
        intro wS hSw
        clear hSw
        go_simp
        try with_reducible rfl
      refine takeP (i := 9) (v := ?_) rfl hX ?hy ?_
      case hy =>
        intro wS hSw
        clear hSw
        go_simp
        try with_reducible rfl
      refine takeP (i := 10) (v := ?_) rfl hX ?hy ?_
      case hy =>
        intro wS hSw
        clear hSw
        go_simp
        try with_reducible rfl
      refine takeP (i := 11) (v := ?_) rfl hX ?hy ?_
      case hy =>
        intro wS hSw
        clear hSw
        go_simp
        try with_reducible rfl
      refine takeP (i := 12) (v := ?_) rfl hX ?hy ?_
      case hy =>
        intro wS hSw
        clear hSw
        go_simp
        try with_reducible rfl
      refine takeP (i := 13) (v := ?_) rfl hX ?hy ?_
      case hy =>
        intro wS hSw
        clear hSw
        go_simp
        try with_reducible rfl
      refine takeP (i := 14) (v := ?_) rfl hX ?hy ?_
      case hy =>
        intro wS hSw
        have ca := stays hSw ca
        clear hSw
        go_simp
        try with_reducible rfl
      refine takeP (i := 15) (v := ?_) rfl hX ?hy ?_
      case hy =>
        intro wS hSw
        clear hSw
        go_simp
        try with_reducible rfl
      refine takeP (i := 16) (v := ?_) rfl hX ?hy ?_
      case hy =>
        intro wS hSw
        clear hSw
        go_simp
        try with_reducible rfl
      refine takeP (i := 17) (v := ?_) rfl hX ?hy ?_
      case hy =>
        intro wS hSw
        clear hSw
        go_simp
        try with_reducible rfl
      refine takeP (i := 18) (v := ?_) rfl hX ?hy ?_
      case hy =>
        intro wS hSw
        have cb := stays hSw cb
        clear hSw
        go_simp
        try with_reducible rfl
      refine takeP (i := 19) (v := ?_) rfl hX ?hy ?_
      case hy =>
        intro wS hSw
        clear hSw
        go_simp
        try with_reducible rfl
      refine takeP (i := 20) (v := ?_) rfl hX ?hy ?_
      case hy =>
        intro wS hSw
        clear hSw
        go_simp
        try with_reducible rfl
      try simp only [List.getElem_toArray, List.getElem_cons_succ, List.getElem_cons_zero, Act.put, List.setIfInBounds_toArray, List.set_cons_zero, List.set_cons_succ]
      refine doneF (by kernel_rfl) ?_ _
      try simp only [List.getElem_toArray, List.getElem_cons_succ, List.getElem_cons_zero, Act.put, List.setIfInBounds_toArray, List.set_cons_zero, List.set_cons_succ]
      go_wp2
      go_ret
      exact ⟨ret_int (by have := Hc.out; rw [E0.out] at this; omega), hb0⟩
    rw [if_pos (UInt8.toNat_inj.1 (by rw [hxa, hxb, hx]))] at e0
    subst hx
    have i3 : ((xa : Int) == (xa : Int)) = true := by simp
    have E0 := Lib.hid e0
    clear e0 h1 h2 hbr hxa hxb hxal hxbl
    go_wp2_with fail
    generalize hW : World.drew _ = w0 at *
    refine regionF (fun _ wa wb => Below w0.heap.size w0 wa → Below w0.heap.size w0 wb) (by kernel_rfl) ?_
    rw [hW]
    clear hW
    have hX := Below.refl w0.heap.size w0
    refine takeP (i := 0) (v := ?_) rfl hX ?hy ?_
    case hy =>
      intro wS hSw
      clear hSw
      go_simp
      try with_reducible rfl
    refine takeP (i := 1) (v := ?_) rfl hX ?hy ?_
    case hy =>
      intro wS hSw
      clear hSw
      go_simp
      try with_reducible rfl
    refine takeP (i := 2) (v := ?_) rfl hX ?hy ?_
    case hy =>
      intro wS hSw
      clear hSw
      go_simp
      try with_reducible rfl
    refine takeP (i := 3) (v := ?_) rfl hX ?hy ?_
    case hy =>
      intro wS hSw
      clear hSw
      go_simp
      try with_reducible rfl
    refine takeP (i := 4) (v := ?_) rfl hX ?hy ?_
    case hy =>
      intro wS hSw
      clear hSw
      go_simp
      try with_reducible rfl
    refine takeP (i := 5) (v := ?_) rfl hX ?hy ?_
    case hy =>
      intro wS hSw
      clear hSw
      go_simp
      try with_reducible rfl
    refine takeP (i := 6) (v := ?_) rfl hX ?hy ?_
    case hy =>
      intro wS hSw
      clear hSw
      go_simp
      try with_reducible rfl
    refine takeP (i := 7) (v := ?_) rfl hX ?hy ?_
    case hy =>
      intro wS hSw
      clear hSw
      go_simp
      try with_reducible rfl
    refine takeP (i := 8) (v := ?_) rfl hX ?hy ?_
    case hy =>
      intro wS hSw
      clear hSw
      go_simp
      try with_reducible rfl
    refine takeP (i := 9) (v := ?_) rfl hX ?hy ?_
    case hy =>
      intro wS hSw
      clear hSw
      go_simp
      try with_reducible rfl
    refine takeP (i := 10) (v := ?_) rfl hX ?hy ?_
    case hy =>
      intro wS hSw
      clear hSw
      go_simp
      try with_reducible rfl
    refine takeP (i := 11) (v := ?_) rfl hX ?hy ?_
    case hy =>
      intro wS hSw
      clear hSw
      go_simp
      try with_reducible rfl
    refine takeP (i := 12) (v := ?_) rfl hX ?hy ?_
    case hy =>
      intro wS hSw
      clear hSw
      go_simp
      try with_reducible rfl
    refine takeP (i := 13) (v := ?_) rfl hX ?hy ?_
    case hy =>
      intro wS hSw
      clear hSw
      go_simp
      try with_reducible rfl
    refine takeP (i := 14) (v := ?_) rfl hX ?hy ?_
    case hy =>
      intro wS hSw
      have ca := stays hSw ca
      clear hSw
      go_simp
      try with_reducible rfl
    refine takeP (i := 15) (v := ?_) rfl hX ?hy ?_
    case hy =>
      intro wS hSw
      clear hSw
      go_simp
      try with_reducible rfl
    refine takeP (i := 16) (v := ?_) rfl hX ?hy ?_
    case hy =>
      intro wS hSw
      clear hSw
      go_simp
      try with_reducible rfl
    refine takeP (i := 17) (v := ?_) rfl hX ?hy ?_
    case hy =>
      intro wS hSw
      clear hSw
      go_simp
      try with_reducible rfl
    refine takeP (i := 18) (v := ?_) rfl hX ?hy ?_
    case hy =>
      intro wS hSw
      have cb := stays hSw cb
      clear hSw
      go_simp
      try with_reducible rfl
    refine takeP (i := 19) (v := ?_) rfl hX ?hy ?_
    case hy =>
      intro wS hSw
      clear hSw
      go_simp
      try with_reducible rfl
    refine takeP (i := 20) (v := ?_) rfl hX ?hy ?_
    case hy =>
      intro wS hSw
      clear hSw
      go_simp
      try with_reducible rfl
    try simp only [List.getElem_toArray, List.getElem_cons_succ, List.getElem_cons_zero, Act.put, List.setIfInBounds_toArray, List.set_cons_zero, List.set_cons_succ]
    refine doneF (by kernel_rfl) ?_ _
    try simp only [List.getElem_toArray, List.getElem_cons_succ, List.getElem_cons_zero, Act.put, List.setIfInBounds_toArray, List.set_cons_zero, List.set_cons_succ]
    go_wp2
    go_roundw
    case rel => exact ⟨j + 1, by omega, by go_num, Lib.hid (by have := Hc.out; rw [E0.out] at this; omega), hb0⟩
    case measure => simp [intOf]; omega
end Go.Proofs.YtpffieogkfndaaaGreatDoor
