/-
  Whether entries may be a leaf: the program's check and the reference's. (Printed by genleaf3.py.) No condition.
-/
import Derived.Test.YtpffieogkfndaaaDoorLeafForm
import Derived.Test.YtpffieogkfndaaaDoorJBatchReadW
import Derived.Test.YtpffieogkfndaaaDoorJRowsY
namespace Go.Proofs.YtpffieogkfndaaaDoor
open Go.RowKit
set_option maxRecDepth 20000
set_option linter.unusedVariables false
set_option linter.unusedSimpArgs false
set_option maxHeartbeats 8000000 in
theorem check12_any (w : World) (p : Nat → Prop) (A : Option Addr) (n c : Nat) (ls : List EntL) (h : SlR w p A n c ls) :
    Calls Tryd.prog 52 #[.slice A n c] w fun e w' => e = .returned (.int .i64 (checkLeafL ls : Nat)) ∧ Below w.heap.size w w' := by
  have hl := h.lenR
  unfold checkLeafL
  rw [hl]
  rcases Nat.lt_or_ge 64 n with hn | hn
  · rw [if_pos hn]
    have hcp := h.cap
    unfold maxLen at hcp
    clear hl h
    go_enter Tryd.func52, Tryd.ntmps52
    go_wp2
    go_ret
    exact ⟨rfl, Below.refl _ _⟩
  rw [if_neg (by omega)]
  obtain ⟨r1, hr1⟩ : ∃ r1, firstErr checkEntL ls = r1 := ⟨_, rfl⟩
  obtain ⟨r, hr⟩ : ∃ r, risesL ls = r := ⟨_, rfl⟩
  obtain ⟨R, hR⟩ : ∃ R, (if r1 ≠ 0 then r1 else if r = true then 0 else 10) = R := ⟨_, rfl⟩
  rw [hr1, hr, hR]
  have Hl := Lib.hid hl
  have Hr1 := Lib.hid hr1
  have Hr := Lib.hid hr
  have HR := Lib.hid hR
  clear hl hr1 hr hR
  go_enter Tryd.func52, Tryd.ntmps52
  go_wp2
  go_loopw [12] (fun q wr => ∃ j : Nat, j ≤ n ∧ q = .int .i64 j ∧ Below w.heap.size w wr ∧ Hid (firstErr checkEntL (ls.drop j) = r1)) (fun q _ => n - (intOf q).toNat)
  case atStart => exact ⟨0, Nat.zero_le _, rfl, Below.refl _ _, Lib.hid Hr1.out⟩
  case round =>
    obtain ⟨j, hj, rfl, hbr, He⟩ := hrel
    by_cases hlt : j < n
    · obtain ⟨b, o, A3, n3, c3, A4, n4, c4, hjl, rfl, d0, d1, d2, d3, hs3, hs4⟩ := (h.below hbr).entAt hlt
      have hst : firstErr checkEntL (ls.drop j) = if checkEntL ls[j] ≠ 0 then checkEntL ls[j] else firstErr checkEntL (ls.drop (j + 1)) := by
        rw [List.drop_eq_getElem_cons hjl]
        rfl
      rw [He.out] at hst
      have hee : checkEntL ls[j] = if checkKey ls[j].key ≠ 0 then checkKey ls[j].key else if 512 < n4 then 3 else 0 := by unfold checkEntL; rw [hs4.lenb]
      have hck := fun (w' : World) (hb : Below wr.heap.size wr w') => check_any w' A3 n3 c3 ls[j].key (hs3.below (by omega) hb)
      have hcp4 := hs4.cap
      have hcm4 := hs4.capm
      unfold maxLen at hcm4
      generalize checkEntL ls[j] = E at *
      generalize checkKey ls[j].key = e at *
      generalize ls[j].key.kind.toNat = d at *
      generalize ls[j].key.seq.toNat = s at *
      have Hst := Lib.hid hst
      have Hee := Lib.hid hee
      have Hck := Lib.hid hck
      clear hst hck hs3 hs4 hee
      have hal := (Below.refl wr.heap.size wr).alloc (Nat.le_refl _) (.cells #[.slice A3 n3 c3, .int .u64 (s : Int), .int .u8 (d : Int), .slice A4 n4 c4] 45)
      have kE := Bx4.fresh wr (.slice A3 n3 c3) (.int .u64 (s : Int)) (.int .u8 (d : Int)) (.slice A4 n4 c4) 45
      generalize hW : (wr.alloc (.cells #[.slice A3 n3 c3, .int .u64 (s : Int), .int .u8 (d : Int), .slice A4 n4 c4] 45)) = w1 at *
      obtain ⟨x0, x1, x2, x3, x4⟩ := id kE
      go_wp2_with fail
      try rw [hW]
      clear hW x0 x1 x2 x3 x4
      refine (Hck.out _ hal).mono ?_
      rintro e' w3 ⟨rfl, hb3⟩
      have kE := kE.below hb3
      obtain ⟨x0, x1, x2, x3, x4⟩ := id kE
      have hb4 := hbr.trans ((hal.trans (hb3.mono hal.size)).mono hbr.size)
      clear hal hb3 Hck d0 d1 d2 d3 h kE
      rcases Nat.eq_zero_or_pos e with rfl | he
      · by_cases hv : 512 < n4
        · have er : R = 3 := by rw [← HR.out, Hst.out, Hee.out]; simp [hv]
          subst er
          go_wp2
          go_ret
          exact ⟨rfl, hb4⟩
        · have eE : E = 0 := by rw [Hee.out]; simp [hv]
          subst eE
          go_wp2
          go_roundw
          case rel => exact ⟨j + 1, by omega, by go_num, hb4, Lib.hid (by rw [Hst.out]; simp)⟩
          case measure => simp [intOf]; omega
      · have er : R = e := by
          have h1 := Hee.out
          rw [if_pos (by omega)] at h1
          have h2 : r1 = e := by rw [Hst.out, h1, if_pos (by omega)]
          rw [← HR.out, h2, if_pos (by omega)]
        subst er
        have t1 : ((R : Int) == 0) = false := by simp; omega
        have t2 : ((R : Int) != 0) = true := by simp; omega
        go_wp2
        go_ret
        exact ⟨rfl, hb4⟩
    · obtain rfl : n = j := by omega
      have e := He.out
      rw [List.drop_of_length_le (by have := Hl.out; omega)] at e
      obtain rfl : 0 = r1 := e
      have hR2 := HR.out
      simp only [ne_eq, not_true_eq_false, if_false] at hR2
      have h := h.below hbr
      have HR2 := Lib.hid hR2
      clear He hR2 HR hlt
      have hX0 := Below.refl wr.heap.size wr
      obtain ⟨wS, hwS⟩ : ∃ wS, wS = wr := ⟨_, rfl⟩
      have hS : Below w.heap.size w wS := by rw [hwS]; exact hbr
      have hSh : SlR wS p A n c ls := by rw [hwS]; exact h
      rw [← hwS]
      clear hwS hbr h hX0 Hr1
      go_wp2
      go_loopw [6] (fun q wr => ∃ j : Nat, 1 ≤ j ∧ (j ≤ n ∨ j = 1) ∧ q = .int .i64 j ∧ Below wS.heap.size wS wr ∧ Hid (risesL (ls.drop (j - 1)) = r)) (fun q _ => n - (intOf q).toNat)
      case atStart => exact ⟨1, Nat.le_refl _, .inr rfl, rfl, Below.refl _ _, Lib.hid (by rw [Nat.sub_self, List.drop_zero]; exact Hr.out)⟩
      case round =>
        obtain ⟨j, hj1, hj, rfl, hbS, Hc⟩ := hrel
        have hbr := hS.trans (hbS.mono hS.size)
        by_cases hlt : j < n
        case neg =>
          have e1 : r = true := by
            rw [← Hc.out]
            have hd : (ls.drop (j - 1)).length ≤ 1 := by rw [List.length_drop, Hl.out]; omega
            match hm : ls.drop (j - 1), hd with
            | [], _ => rfl
            | [_], _ => rfl
            | _ :: _ :: _, hd => simp at hd
          subst e1
          have er : 0 = R := HR2.out
          subst er
          clear HR2
          go_wp2
          go_ret
          exact ⟨rfl, hbr⟩
        obtain ⟨q, hq⟩ : ∃ q, j = q + 1 := ⟨j - 1, by omega⟩
        have hqn : q < n := by omega
        have hw1 : IntKind.i64.wrap ((j : Int) - 1) = (q : Int) := by rw [IntKind.wrap_i64]; omega
        have hsw := hSh.below hbS
        obtain ⟨b, o, A3, n3, c3, A4, n4, c4, hql, rfl, d0, d1, d2, d3, g1, _⟩ := hsw.entAt hqn
        obtain ⟨b', o', A5, n5, c5, A6, n6, c6, hjl, hbo, f0, f1, f2, f3, g2, _⟩ := hsw.entAt hlt
        obtain ⟨rfl, rfl⟩ : b = b' ∧ o = o' := by simpa using hbo
        have d0 : (World.drew _).cell? _ = _ := d0
        have d1 : (World.drew _).cell? _ = _ := d1
        have d2 : (World.drew _).cell? _ = _ := d2
        have f0 : (World.drew _).cell? _ = _ := f0
        have f1 : (World.drew _).cell? _ = _ := f1
        have f2 : (World.drew _).cell? _ = _ := f2
        have g1 := g1.drew
        have g2 := g2.drew
        have hst : risesL (ls.drop q) = (lessKey ls[q].key ls[j].key && risesL (ls.drop j)) := by
          rw [List.drop_eq_getElem_cons hql]
          subst hq
          rw [List.drop_eq_getElem_cons hjl]
          rfl
        have hcc := Hc.out
        rw [show j - 1 = q by omega, hst] at hcc
        obtain ⟨lk, hlk⟩ : ∃ lk, lessKey ls[q].key ls[j].key = lk := ⟨_, rfl⟩
        rw [hlk] at hcc
        have Hst := Lib.hid hcc.symm
        have Hq := Lib.hid hq
        have hbr := below_drew hbr
        have hbS := below_drew hbS
        clear hst hcc hq hsw hbo Hc d3 f3
        generalize hW : World.drew _ = w0 at *
        have cm := fun w' (hb : Below w0.heap.size w0 w') => compare_any w' A3 n3 c3 ls[q].key (g1.below (by omega) hb) A5 n5 c5 ls[j].key (g2.below (by omega) hb)
        have hlk : decide (cmpKey ls[q].key ls[j].key < 0) = lk := by rw [cmpKey_less]; exact hlk
        generalize cmpKey ls[q].key ls[j].key = v at *
        have Hlk := Lib.hid hlk
        have Cm := Lib.hid cm
        clear cm hlk g1 g2
        generalize ls[q].key.seq.toNat = s1 at *
        generalize ls[q].key.kind.toNat = k1 at *
        generalize ls[j].key.seq.toNat = s2 at *
        generalize ls[j].key.kind.toNat = k2 at *
        go_wp2_with fail
        by_cases hv : v < 0
        case pos =>
          have hlk : lk = true := by rw [← Hlk.out]; exact decide_eq_true hv
          subst hlk
          have i1 : decide (0 ≤ v) = false := decide_eq_false (by omega)
          clear hv
          refine regionF (fun _ wa wb => Below w0.heap.size w0 wa → Below w0.heap.size w0 wb) (by kernel_rfl) ?_
          rw [hW]
          clear hW
          have hX := Below.refl w0.heap.size w0
          refine takeP (i := 0) (v := ?_) rfl hX ?hy ?_
          case hy =>
            intro wS hSw
            clear hSw
            go_simp
            try with_reducible rfl
          refine takeP (i := 1) (v := ?_) rfl hX ?hy ?_
          case hy =>
            intro wS hSw
            clear hSw
            go_simp
            try with_reducible rfl
          refine takeP (i := 2) (v := ?_) rfl hX ?hy ?_
          case hy =>
            intro wS hSw
            clear hSw
            go_simp
            try with_reducible rfl
          refine takeP (i := 3) (v := ?_) rfl hX ?hy ?_
          case hy =>
            intro wS hSw
            clear hSw
            go_simp
            try with_reducible rfl
          refine takeP (i := 4) (v := ?_) rfl hX ?hy ?_
          case hy =>
            intro wS hSw
            clear hSw
            go_simp
            try with_reducible rfl
          refine takeP (i := 5) (v := ?_) rfl hX ?hy ?_
          case hy =>
            intro wS hSw
            have d0 := stays hSw d0
            have d1 := stays hSw d1
            have d2 := stays hSw d2
            clear hSw
            go_simp
            try with_reducible rfl
          refine takeP (i := 6) (v := ?_) rfl hX ?hy ?_
          case hy =>
            intro wS hSw
            clear hSw
            go_simp
            try with_reducible rfl
          refine takeP (i := 7) (v := ?_) rfl hX ?hy ?_
          case hy =>
            intro wS hSw
            clear hSw
            go_simp
            try with_reducible rfl
          refine takeP (i := 8) (v := ?_) rfl hX ?hy ?_
          case hy =>
            intro wS hSw
            clear hSw
            go_simp
            try with_reducible rfl
          refine takeP (i := 9) (v := ?_) rfl hX ?hy ?_
          case hy =>
            intro wS hSw
            clear hSw
            go_simp
            try with_reducible rfl
          refine takeP (i := 10) (v := ?_) rfl hX ?hy ?_
          case hy =>
            intro wS hSw
            have f0 := stays hSw f0
            have f1 := stays hSw f1
            have f2 := stays hSw f2
            clear hSw
            go_simp
            try with_reducible rfl
          try simp only [List.getElem_toArray, List.getElem_cons_succ, List.getElem_cons_zero, Act.put, List.setIfInBounds_toArray, List.set_cons_zero, List.set_cons_succ]
          refine readyF (rs := [11]) (by kernel_rfl) (by simp) ?_
          refine AllF.cons rfl (fun K hK => ?_) AllF.nil
          go_simp
          refine (Cm.out _ hX).mono ?_
          rintro e w0_11 ⟨rfl, hb⟩
          refine hK _ _ (fun h => h.trans (hb.mono h.size)) ?_
          clear hK K
          have hX := hX.trans (hb.mono hX.size)
          clear hb
          refine takeP (i := 12) (v := ?_) rfl hX ?hy ?_
          case hy =>
            intro wS hSw
            clear hSw
            go_simp
            try with_reducible rfl
          try simp only [List.getElem_toArray, List.getElem_cons_succ, List.getElem_cons_zero, Act.put, List.setIfInBounds_toArray, List.set_cons_zero, List.set_cons_succ]
          refine doneF (by kernel_rfl) ?_ _
          try simp only [List.getElem_toArray, List.getElem_cons_succ, List.getElem_cons_zero, Act.put, List.setIfInBounds_toArray, List.set_cons_zero, List.set_cons_succ]
          go_wp2
          go_roundw
          case rel => exact ⟨j + 1, by omega, by omega, by go_num, hbS.trans (hX.mono hbS.size), Lib.hid (by rw [Hst.out, Nat.add_sub_cancel]; rfl)⟩
          case measure => simp [intOf]; omega
        have hlk : lk = false := by rw [← Hlk.out]; exact decide_eq_false hv
        subst hlk
        have hrr : r = false := Hst.out
        subst hrr
        have i1 : decide (0 ≤ v) = true := decide_eq_true (by omega)
        clear hv
        refine regionF (fun _ wa wb => Below w0.heap.size w0 wa → Below w0.heap.size w0 wb) (by kernel_rfl) ?_
        rw [hW]
        clear hW
        have hX := Below.refl w0.heap.size w0
        refine takeP (i := 0) (v := ?_) rfl hX ?hy ?_
        case hy =>
          intro wS hSw
          clear hSw
          go_simp
          try with_reducible rfl
        refine takeP (i := 1) (v := ?_) rfl hX ?hy ?_
        case hy =>
          intro wS hSw
          clear hSw
          go_simp
          try with_reducible rfl
        refine takeP (i := 2) (v := ?_) rfl hX ?hy ?_
        case hy =>
          intro wS hSw
          clear hSw
          go_simp
          try with_reducible rfl
        refine takeP (i := 3) (v := ?_) rfl hX ?hy ?_
        case hy =>
          intro wS hSw
          clear hSw
          go_simp
          try with_reducible rfl
        refine takeP (i := 4) (v := ?_) rfl hX ?hy ?_
        case hy =>
          intro wS hSw
          clear hSw
          go_simp
          try with_reducible rfl
        refine takeP (i := 5) (v := ?_) rfl hX ?hy ?_
        case hy =>
          intro wS hSw
          have d0 := stays hSw d0
          have d1 := stays hSw d1
          have d2 := stays hSw d2
          clear hSw
          go_simp
          try with_reducible rfl
        refine takeP (i := 6) (v := ?_) rfl hX ?hy ?_
        case hy =>
          intro wS hSw
          clear hSw
          go_simp
          try with_reducible rfl
        refine takeP (i := 7) (v := ?_) rfl hX ?hy ?_
        case hy =>
          intro wS hSw
          clear hSw
          go_simp
          try with_reducible rfl
        refine takeP (i := 8) (v := ?_) rfl hX ?hy ?_
        case hy =>
          intro wS hSw
          clear hSw
          go_simp
          try with_reducible rfl
        refine takeP (i := 9) (v := ?_) rfl hX ?hy ?_
        case hy =>
          intro wS hSw
          clear hSw
          go_simp
          try with_reducible rfl
        refine takeP (i := 10) (v := ?_) rfl hX ?hy ?_
        case hy =>
          intro wS hSw
          have f0 := stays hSw f0
          have f1 := stays hSw f1
          have f2 := stays hSw f2
          clear hSw
          go_simp
          try with_reducible rfl
        try simp only [List.getElem_toArray, List.getElem_cons_succ, List.getElem_cons_zero, Act.put, List.setIfInBounds_toArray, List.set_cons_zero, List.set_cons_succ]
        refine readyF (rs := [11]) (by kernel_rfl) (by simp) ?_
        refine AllF.cons rfl (fun K hK => ?_) AllF.nil
        go_simp
        refine (Cm.out _ hX).mono ?_
        rintro e w0_11 ⟨rfl, hb⟩
        refine hK _ _ (fun h => h.trans (hb.mono h.size)) ?_
        clear hK K
        have hX := hX.trans (hb.mono hX.size)
        clear hb
        refine takeP (i := 12) (v := ?_) rfl hX ?hy ?_
        case hy =>
          intro wS hSw
          clear hSw
          go_simp
          try with_reducible rfl
        try simp only [List.getElem_toArray, List.getElem_cons_succ, List.getElem_cons_zero, Act.put, List.setIfInBounds_toArray, List.set_cons_zero, List.set_cons_succ]
        refine doneF (by kernel_rfl) ?_ _
        try simp only [List.getElem_toArray, List.getElem_cons_succ, List.getElem_cons_zero, Act.put, List.setIfInBounds_toArray, List.set_cons_zero, List.set_cons_succ]
        have er : 10 = R := HR2.out
        subst er
        clear HR2
        go_wp2
        go_ret
        exact ⟨rfl, hbr.trans (hX.mono hbr.size)⟩
end Go.Proofs.YtpffieogkfndaaaDoor
