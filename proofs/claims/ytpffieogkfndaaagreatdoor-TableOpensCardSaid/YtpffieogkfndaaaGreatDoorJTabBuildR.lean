/-
  TabCheck, TabBuildR in one text. No condition but sizes.
-/
import Derived.Test.YtpffieogkfndaaaGreatDoorLeafBuild
import Derived.Test.YtpffieogkfndaaaGreatDoorJLeafCommon
import Derived.Test.YtpffieogkfndaaaGreatDoorJSpanCheck
import Derived.Test.YtpffieogkfndaaaGreatDoorJTabPlain
import Derived.Test.YtpffieogkfndaaaGreatDoorLeafBuildR
import Derived.Test.YtpffieogkfndaaaGreatDoorJKeyBytesR
import Derived.Test.YtpffieogkfndaaaGreatDoorJAtomRef
import Derived.Test.YtpffieogkfndaaaGreatDoorJBloomRefB
import Derived.Test.YtpffieogkfndaaaGreatDoorJEntSort
import Derived.Test.YtpffieogkfndaaaGreatDoorJSetWalk
namespace Go.Proofs.YtpffieogkfndaaaGreatDoor
open Go.RowKit
set_option maxRecDepth 20000
set_option linter.unusedVariables false
set_option linter.unusedSimpArgs false
theorem entRow1 (w : World) (x : EntL) (s k : Nat) (hs : x.key.seq.toNat = s) (hk : x.key.kind.toNat = k) (A3 : Option Addr) (n3 c3 : Nat) (A4 : Option Addr) (n4 c4 : Nat) (s3 : Sl w 1 A3 n3 c3 (bc x.key.user)) (s4 : Sl w 1 A4 n4 c4 (bc x.value)) (e : TypeId) :
    SlR (w.alloc (.cells #[.slice A3 n3 c3, .int .u64 (s : Int), .int .u8 (k : Int), .slice A4 n4 c4] e)) (fun _ => True) (some ⟨w.heap.size, 0, none⟩) 1 1 [x] := by
  subst hs hk
  have al := (Below.refl w.heap.size w).alloc (Nat.le_refl _) (.cells #[.slice A3 n3 c3, .int .u64 (x.key.seq.toNat : Int), .int .u8 (x.key.kind.toNat : Int), .slice A4 n4 c4] e)
  exact ⟨_, ⟨rfl, Nat.le_refl _, by unfold maxLen; omega, fun _ => ⟨w.heap.size, 0, rfl, fun j u hu => by rw [cell_of_row _ _ _ _ _ _ (heap_alloc_new w _)]; simpa [u8v, u64v] using hu⟩⟩, RowC.single ⟨_, _, rfl, ⟨A3, n3, c3, rfl, s3.below (by omega) al, fun _ _ _ => trivial⟩, ⟨A4, n4, c4, rfl, s4.below (by omega) al, fun _ _ _ => trivial⟩⟩, fun _ _ _ => trivial⟩
theorem leaf_one (x : EntL) : checkLeafL [x] = checkEntL x := by
  by_cases h : checkEntL x = 0
  · simp [checkLeafL, firstErr, risesL, h]
  · simp [checkLeafL, firstErr, risesL, h]
theorem leafBE_two (ls : List EntL) : (leafBE ls).2 = checkLeafL ls := by
  unfold leafBE
  split
  · rename_i h; exact h.symm
  · rfl
set_option maxHeartbeats 16000000 in
theorem tcheck_any (w : World) (p : Nat → Prop) (A : Option Addr) (n c : Nat) (ls : List EntL) (h : SlR w p A n c ls) (p' : Nat → Prop) (A' : Option Addr) (n' c' : Nat) (sp : List SpanL) (h' : SlR w p' A' n' c' sp) :
    Calls Tryz.prog 39 #[.slice A n c, .slice A' n' c'] w fun e w' => e = .returned (.int .i64 (checkTabL ls sp : Nat)) ∧ Below w.heap.size w w' := by
  have hl := h.lenR
  have hl' := h'.lenR
  unfold checkTabL
  rw [hl, hl']
  have hcp := h.cap
  have hcp' := h'.cap
  unfold maxLen at hcp hcp'
  by_cases hn1 : 1000 < n
  case pos =>
    have d1 : decide ((1000 : Int) < (n : Int)) = true := decide_eq_true (by omega)
    rw [if_pos (.inl hn1)]
    clear hl hl' h h'
    go_enter Tryz.func39, Tryz.ntmps39
    go_wp2
    go_ret
    exact ⟨rfl, Below.refl _ _⟩
  have d1 : decide ((1000 : Int) < (n : Int)) = false := decide_eq_false (by omega)
  by_cases hn2 : 1000 < n'
  case pos =>
    have d2 : decide ((1000 : Int) < (n' : Int)) = true := decide_eq_true (by omega)
    rw [if_pos (.inr hn2)]
    clear hl hl' h h'
    go_enter Tryz.func39, Tryz.ntmps39
    go_wp2
    go_ret
    exact ⟨rfl, Below.refl _ _⟩
  have d2 : decide ((1000 : Int) < (n' : Int)) = false := decide_eq_false (by omega)
  rw [if_neg (by omega)]
  by_cases hz : n + n' = 0
  case pos =>
    obtain rfl : n = 0 := by omega
    obtain rfl : n' = 0 := by omega
    rw [if_pos rfl]
    clear hl hl' h h'
    go_enter Tryz.func39, Tryz.ntmps39
    go_wp2
    go_ret
    exact ⟨rfl, Below.refl _ _⟩
  rw [if_neg hz]
  have e0 : ((n : Int) + (n' : Int) == 0) = false := by simp; omega
  obtain ⟨r1, hr1⟩ : ∃ r1, firstErr checkEntL ls = r1 := ⟨_, rfl⟩
  obtain ⟨r, hr⟩ : ∃ r, risesL ls = r := ⟨_, rfl⟩
  obtain ⟨r3, hr3⟩ : ∃ r3, firstErr checkSpanL sp = r3 := ⟨_, rfl⟩
  obtain ⟨R, hR⟩ : ∃ R, (if r1 ≠ 0 then r1 else if r = true then r3 else 10) = R := ⟨_, rfl⟩
  rw [hr1, hr, hr3, hR]
  have Hl := Lib.hid hl
  have Hl' := Lib.hid hl'
  have Hr1 := Lib.hid hr1
  have Hr := Lib.hid hr
  have Hr3 := Lib.hid hr3
  have HR := Lib.hid hR
  clear hl hl' hr1 hr hr3 hR
  go_enter Tryz.func39, Tryz.ntmps39
  go_wp2
  go_loopw [31] (fun q wr => ∃ j : Nat, j ≤ n ∧ q = .int .i64 j ∧ Below w.heap.size w wr ∧ Hid (firstErr checkEntL (ls.drop j) = r1)) (fun q _ => n - (intOf q).toNat)
  case atStart => exact ⟨0, Nat.zero_le _, rfl, Below.refl _ _, Lib.hid Hr1.out⟩
  case round =>
    obtain ⟨j, hj, rfl, hbr, He⟩ := hrel
    by_cases hlt : j < n
    case pos =>
      obtain ⟨b, o, A3, n3, c3, A4, n4, c4, hjl, rfl, d0, d1, d2, d3, hs3, hs4⟩ := (h.below hbr).entAt hlt
      have hst : firstErr checkEntL (ls.drop j) = if checkEntL ls[j] ≠ 0 then checkEntL ls[j] else firstErr checkEntL (ls.drop (j + 1)) := by
        rw [List.drop_eq_getElem_cons hjl]
        rfl
      rw [He.out] at hst
      generalize ls[j] = x at *
      have hal := (Below.refl wr.heap.size wr).alloc (Nat.le_refl _) (.cells #[.slice A3 n3 c3, .int .u64 (x.key.seq.toNat : Int), .int .u8 (x.key.kind.toNat : Int), .slice A4 n4 c4] 69)
      have hrow := entRow1 (wr.alloc (.cells #[.slice A3 n3 c3, .int .u64 (x.key.seq.toNat : Int), .int .u8 (x.key.kind.toNat : Int), .slice A4 n4 c4] 69)) x _ _ rfl rfl A3 n3 c3 A4 n4 c4 (hs3.below (by omega) hal) (hs4.below (by omega) hal) 69
      have hcb := build12_any _ _ _ 1 1 [x] hrow
      have hck : checkLeafL [x] = checkEntL x := leaf_one x
      have kE := Bx4.fresh wr (.slice A3 n3 c3) (.int .u64 (x.key.seq.toNat : Int)) (.int .u8 (x.key.kind.toNat : Int)) (.slice A4 n4 c4) 69
      rw [leafBE_two, hck] at hcb
      unfold GotBE at hcb
      generalize checkEntL x = E at *
      generalize x.key.kind.toNat = d at *
      generalize x.key.seq.toNat = s at *
      have Hst := Lib.hid hst
      clear hst hs3 hs4 hck hrow
      have hbr := hbr.trans (hal.mono hbr.size)
      generalize hW : (wr.alloc (.cells #[.slice A3 n3 c3, .int .u64 (s : Int), .int .u8 (d : Int), .slice A4 n4 c4] 69)) = w1 at *
      have hal2 := (Below.refl w1.heap.size w1).alloc (Nat.le_refl _) (.cells #[.slice A3 n3 c3, .int .u64 (s : Int), .int .u8 (d : Int), .slice A4 n4 c4] 69)
      have hbr := hbr.trans (hal2.mono hbr.size)
      generalize hW2 : (w1.alloc (.cells #[.slice A3 n3 c3, .int .u64 (s : Int), .int .u8 (d : Int), .slice A4 n4 c4] 69)) = w2 at *
      have Hcb := Lib.hid hcb
      clear hcb hal hal2
      obtain ⟨x0, x1, x2, x3, x4⟩ := id kE
      go_wp2_with fail
      try rw [hW]
      try rw [hW2]
      refine Hcb.out.mono ?_
      rintro e' w3 ⟨A7, n7, c7, rfl, ho7, hb3⟩
      have hb4 := hbr.trans (hb3.mono hbr.size)
      clear x0 x1 x2 x3 x4 kE d0 d1 d2 d3 hb3 Hcb hW hW2
      by_cases he : E = 0
      case pos =>
        subst he
        go_wp2
        go_roundw
        case rel => exact ⟨j + 1, by omega, by go_num, hb4, Lib.hid (by rw [Hst.out]; simp)⟩
        case measure => simp [intOf]; omega
      have er : R = E := by
        have h2 : r1 = E := by rw [Hst.out, if_pos he]
        rw [← HR.out, h2, if_pos he]
      subst er
      have t1 : ((R : Int) == 0) = false := by simp; omega
      have t2 : ((R : Int) != 0) = true := by simp; omega
      go_wp2
      go_ret
      exact ⟨rfl, hb4⟩
    obtain rfl : n = j := by omega
    have e := He.out
    rw [List.drop_of_length_le (by have := Hl.out; omega)] at e
    obtain rfl : 0 = r1 := e
    have hR2 := HR.out
    simp only [ne_eq, not_true_eq_false, if_false] at hR2
    have h := h.below hbr
    have HR2 := Lib.hid hR2
    clear He hR2 HR hlt
    obtain ⟨wS, hwS⟩ : ∃ wS, wS = wr := ⟨_, rfl⟩
    have hS : Below w.heap.size w wS := by rw [hwS]; exact hbr
    have hSh : SlR wS p A n c ls := by rw [hwS]; exact h
    rw [← hwS]
    clear hwS hbr h Hr1
    go_wp2
    go_loopw [9] (fun q wr => ∃ j : Nat, 1 ≤ j ∧ (j ≤ n ∨ j = 1) ∧ q = .int .i64 j ∧ Below wS.heap.size wS wr ∧ Hid (risesL (ls.drop (j - 1)) = r)) (fun q _ => n - (intOf q).toNat)
    case atStart => exact ⟨1, Nat.le_refl _, .inr rfl, rfl, Below.refl _ _, Lib.hid (by rw [Nat.sub_self, List.drop_zero]; exact Hr.out)⟩
    case round =>
      obtain ⟨j, hj1, hj, rfl, hbS, Hc⟩ := hrel
      have hbr := hS.trans (hbS.mono hS.size)
      by_cases hlt : j < n
      case neg =>
        have e1 : r = true := by
          rw [← Hc.out]
          have hd : (ls.drop (j - 1)).length ≤ 1 := by rw [List.length_drop, Hl.out]; omega
          match hm : ls.drop (j - 1), hd with
          | [], _ => rfl
          | [_], _ => rfl
          | _ :: _ :: _, hd => simp at hd
        subst e1
        have er : r3 = R := by rw [← HR2.out]; rfl
        subst er
        clear HR2
        obtain ⟨wT, hwT⟩ : ∃ wT, wT = wr := ⟨_, rfl⟩
        have hT : Below w.heap.size w wT := by rw [hwT]; exact hbr
        rw [← hwT]
        clear hwT hbr hbS Hc
        go_wp2
        go_loopw [66] (fun q wr => ∃ j : Nat, j ≤ n' ∧ q = .int .i64 j ∧ Below wT.heap.size wT wr ∧ Hid (firstErr checkSpanL (sp.drop j) = r3)) (fun q _ => n' - (intOf q).toNat)
        case atStart => exact ⟨0, Nat.zero_le _, rfl, Below.refl _ _, Lib.hid Hr3.out⟩
        case round =>
          obtain ⟨j, hj3, rfl, hbU, He⟩ := hrel
          have hbr := hT.trans (hbU.mono hT.size)
          by_cases hlt3 : j < n'
          case neg =>
            obtain rfl : n' = j := by omega
            have e := He.out
            rw [List.drop_of_length_le (by have := Hl'.out; omega)] at e
            obtain rfl : 0 = r3 := e
            clear He
            go_wp2
            go_ret
            exact ⟨rfl, hbr⟩
          obtain ⟨b, o, A3, n3, c3, A4, n4, c4, hjl, rfl, d0, d1, d2, s3, _, s4, _⟩ := (h'.below hbr).spanAt hlt3
          have hst : firstErr checkSpanL (sp.drop j) = if checkSpanL sp[j] ≠ 0 then checkSpanL sp[j] else firstErr checkSpanL (sp.drop (j + 1)) := by
            rw [List.drop_eq_getElem_cons hjl]
            rfl
          rw [He.out] at hst
          have h4 : checkSpanL sp[j] ≠ 0 → checkSpanL sp[j] = 4 := fun q => by unfold checkSpanL at *; split at q <;> simp_all
          generalize sp[j] = x at *
          have al := (Below.refl wr.heap.size wr).alloc (Nat.le_refl _) (.cells #[.slice A3 n3 c3, .slice A4 n4 c4, .int .u64 (x.seq.toNat : Int)] 72)
          have ck := scheck_any (wr.alloc (.cells #[.slice A3 n3 c3, .slice A4 n4 c4, .int .u64 (x.seq.toNat : Int)] 72)) A3 n3 c3 A4 n4 c4 x (s3.below (by omega) al) (s4.below (by omega) al)
          have kB := Bx.fresh wr (.slice A3 n3 c3) (.slice A4 n4 c4) (.int .u64 (x.seq.toNat : Int)) 72
          generalize x.seq.toNat = s at *
          generalize checkSpanL x = e at *
          have hbU := hbU.trans (al.mono hbU.size)
          have hbr := hbr.trans (al.mono hbr.size)
          generalize hW : (wr.alloc (.cells #[.slice A3 n3 c3, .slice A4 n4 c4, .int .u64 (s : Int)] 72)) = w1 at *
          have Hst := Lib.hid hst
          have Ck := Lib.hid ck
          have H4 := Lib.hid h4
          clear hst ck al s3 s4 He h4
          obtain ⟨x0, x1, x2, x3⟩ := id kB
          go_wp2_with fail
          try rw [hW]
          refine Ck.out.mono ?_
          rintro e' w3 ⟨rfl, hb3⟩
          have hbU := hbU.trans (hb3.mono hbU.size)
          have hbr := hbr.trans (hb3.mono hbr.size)
          clear x0 x1 x2 x3 kB d0 d1 d2 hb3 Ck hW
          by_cases he : e = 0
          case pos =>
            subst he
            go_wp2
            go_roundw
            case rel => exact ⟨j + 1, by omega, by go_num, hbU, Lib.hid (by rw [Hst.out]; simp)⟩
            case measure => simp [intOf]; omega
          have t1 : ((e : Int) == 0) = false := by simp; omega
          have t2 : ((e : Int) != 0) = true := by simp; omega
          obtain rfl := H4.out he
          have er : r3 = 4 := by rw [Hst.out]; simp
          subst er
          go_wp2
          go_ret
          exact ⟨rfl, hbr⟩
      obtain ⟨q, hq⟩ : ∃ q, j = q + 1 := ⟨j - 1, by omega⟩
      have hqn : q < n := by omega
      have hw1 : IntKind.i64.wrap ((j : Int) - 1) = (q : Int) := by rw [IntKind.wrap_i64]; omega
      have hsw := hSh.below hbS
      obtain ⟨b, o, A3, n3, c3, A4, n4, c4, hql, rfl, d0, d1, d2, d3, g1, _⟩ := hsw.entAt hqn
      obtain ⟨b', o', A5, n5, c5, A6, n6, c6, hjl, hbo, f0, f1, f2, f3, g2, _⟩ := hsw.entAt hlt
      obtain ⟨rfl, rfl⟩ : b = b' ∧ o = o' := by simpa using hbo
      have d0 : (World.drew _).cell? _ = _ := d0
      have d1 : (World.drew _).cell? _ = _ := d1
      have d2 : (World.drew _).cell? _ = _ := d2
      have f0 : (World.drew _).cell? _ = _ := f0
      have f1 : (World.drew _).cell? _ = _ := f1
      have f2 : (World.drew _).cell? _ = _ := f2
      have g1 := g1.drew
      have g2 := g2.drew
      have hst : risesL (ls.drop q) = (lessKey ls[q].key ls[j].key && risesL (ls.drop j)) := by
        rw [List.drop_eq_getElem_cons hql]
        subst hq
        rw [List.drop_eq_getElem_cons hjl]
        rfl
      have hcc := Hc.out
      rw [show j - 1 = q by omega, hst] at hcc
      obtain ⟨lk, hlk⟩ : ∃ lk, lessKey ls[q].key ls[j].key = lk := ⟨_, rfl⟩
      rw [hlk] at hcc
      have Hst := Lib.hid hcc.symm
      have Hq := Lib.hid hq
      have hbr := below_drew hbr
      have hbS := below_drew hbS
      clear hst hcc hq hsw hbo Hc d3 f3
      generalize hW : World.drew _ = w0 at *
      have cm := fun w' (hb : Below w0.heap.size w0 w') => compare_any w' A3 n3 c3 ls[q].key (g1.below (by omega) hb) A5 n5 c5 ls[j].key (g2.below (by omega) hb)
      have hlk : decide (cmpKey ls[q].key ls[j].key < 0) = lk := by rw [cmpKey_less]; exact hlk
      generalize cmpKey ls[q].key ls[j].key = v at *
      have Hlk := Lib.hid hlk
      have Cm := Lib.hid cm
      clear cm hlk g1 g2
      generalize ls[q].key.seq.toNat = s1 at *
      generalize ls[q].key.kind.toNat = k1 at *
      generalize ls[j].key.seq.toNat = s2 at *
      generalize ls[j].key.kind.toNat = k2 at *
      go_wp2_with fail
      by_cases hv : v < 0
      case pos =>
        have hlk : lk = true := by rw [← Hlk.out]; exact decide_eq_true hv
        subst hlk
        have i1 : decide (0 ≤ v) = false := decide_eq_false (by omega)
        clear hv
        refine regionF (fun _ wa wb => Below w0.heap.size w0 wa → Below w0.heap.size w0 wb) (by kernel_rfl) ?_
        rw [hW]
        clear hW
        have hX := Below.refl w0.heap.size w0
        refine takeP (i := 0) (v := ?_) rfl hX ?hy ?_
        case hy =>
          intro wS hSw
          clear hSw
          go_simp
          try with_reducible rfl
        refine takeP (i := 1) (v := ?_) rfl hX ?hy ?_
        case hy =>
          intro wS hSw
          clear hSw
          go_simp
          try with_reducible rfl
        refine takeP (i := 2) (v := ?_) rfl hX ?hy ?_
        case hy =>
          intro wS hSw
          clear hSw
          go_simp
          try with_reducible rfl
        refine takeP (i := 3) (v := ?_) rfl hX ?hy ?_
        case hy =>
          intro wS hSw
          clear hSw
          go_simp
          try with_reducible rfl
        refine takeP (i := 4) (v := ?_) rfl hX ?hy ?_
        case hy =>
          intro wS hSw
          clear hSw
          go_simp
          try with_reducible rfl
        refine takeP (i := 5) (v := ?_) rfl hX ?hy ?_
        case hy =>
          intro wS hSw
          have d0 := stays hSw d0
          have d1 := stays hSw d1
          have d2 := stays hSw d2
          clear hSw
          go_simp
          try with_reducible rfl
        refine takeP (i := 6) (v := ?_) rfl hX ?hy ?_
        case hy =>
          intro wS hSw
          clear hSw
          go_simp
          try with_reducible rfl
        refine takeP (i := 7) (v := ?_) rfl hX ?hy ?_
        case hy =>
          intro wS hSw
          clear hSw
          go_simp
          try with_reducible rfl
        refine takeP (i := 8) (v := ?_) rfl hX ?hy ?_
        case hy =>
          intro wS hSw
          clear hSw
          go_simp
          try with_reducible rfl
        refine takeP (i := 9) (v := ?_) rfl hX ?hy ?_
        case hy =>
          intro wS hSw
          clear hSw
          go_simp
          try with_reducible rfl
        refine takeP (i := 10) (v := ?_) rfl hX ?hy ?_
        case hy =>
          intro wS hSw
          have f0 := stays hSw f0
          have f1 := stays hSw f1
          have f2 := stays hSw f2
          clear hSw
          go_simp
          try with_reducible rfl
        try simp only [List.getElem_toArray, List.getElem_cons_succ, List.getElem_cons_zero, Act.put, List.setIfInBounds_toArray, List.set_cons_zero, List.set_cons_succ]
        refine readyF (rs := [11]) (by kernel_rfl) (by simp) ?_
        refine AllF.cons rfl (fun K hK => ?_) AllF.nil
        go_simp
        refine (Cm.out _ hX).mono ?_
        rintro e w0_11 ⟨rfl, hb⟩
        refine hK _ _ (fun h => h.trans (hb.mono h.size)) ?_
        clear hK K
        have hX := hX.trans (hb.mono hX.size)
        clear hb
        refine takeP (i := 12) (v := ?_) rfl hX ?hy ?_
        case hy =>
          intro wS hSw
          clear hSw
          go_simp
          try with_reducible rfl
        try simp only [List.getElem_toArray, List.getElem_cons_succ, List.getElem_cons_zero, Act.put, List.setIfInBounds_toArray, List.set_cons_zero, List.set_cons_succ]
        refine doneF (by kernel_rfl) ?_ _
        try simp only [List.getElem_toArray, List.getElem_cons_succ, List.getElem_cons_zero, Act.put, List.setIfInBounds_toArray, List.set_cons_zero, List.set_cons_succ]
        go_wp2
        go_roundw
        case rel => exact ⟨j + 1, by omega, by omega, by go_num, hbS.trans (hX.mono hbS.size), Lib.hid (by rw [Hst.out, Nat.add_sub_cancel]; rfl)⟩
        case measure => simp [intOf]; omega
      have hlk : lk = false := by rw [← Hlk.out]; exact decide_eq_false hv
      subst hlk
      have hrr : r = false := Hst.out
      subst hrr
      have i1 : decide (0 ≤ v) = true := decide_eq_true (by omega)
      clear hv
      refine regionF (fun _ wa wb => Below w0.heap.size w0 wa → Below w0.heap.size w0 wb) (by kernel_rfl) ?_
      rw [hW]
      clear hW
      have hX := Below.refl w0.heap.size w0
      refine takeP (i := 0) (v := ?_) rfl hX ?hy ?_
      case hy =>
        intro wS hSw
        clear hSw
        go_simp
        try with_reducible rfl
      refine takeP (i := 1) (v := ?_) rfl hX ?hy ?_
      case hy =>
        intro wS hSw
        clear hSw
        go_simp
        try with_reducible rfl
      refine takeP (i := 2) (v := ?_) rfl hX ?hy ?_
      case hy =>
        intro wS hSw
        clear hSw
        go_simp
        try with_reducible rfl
      refine takeP (i := 3) (v := ?_) rfl hX ?hy ?_
      case hy =>
        intro wS hSw
        clear hSw
        go_simp
        try with_reducible rfl
      refine takeP (i := 4) (v := ?_) rfl hX ?hy ?_
      case hy =>
        intro wS hSw
        clear hSw
        go_simp
        try with_reducible rfl
      refine takeP (i := 5) (v := ?_) rfl hX ?hy ?_
      case hy =>
        intro wS hSw
        have d0 := stays hSw d0
        have d1 := stays hSw d1
        have d2 := stays hSw d2
        clear hSw
        go_simp
        try with_reducible rfl
      refine takeP (i := 6) (v := ?_) rfl hX ?hy ?_
      case hy =>
        intro wS hSw
        clear hSw
        go_simp
        try with_reducible rfl
      refine takeP (i := 7) (v := ?_) rfl hX ?hy ?_
      case hy =>
        intro wS hSw
        clear hSw
        go_simp
        try with_reducible rfl
      refine takeP (i := 8) (v := ?_) rfl hX ?hy ?_
      case hy =>
        intro wS hSw
        clear hSw
        go_simp
        try with_reducible rfl
      refine takeP (i := 9) (v := ?_) rfl hX ?hy ?_
      case hy =>
        intro wS hSw
        clear hSw
        go_simp
        try with_reducible rfl
      refine takeP (i := 10) (v := ?_) rfl hX ?hy ?_
      case hy =>
        intro wS hSw
        have f0 := stays hSw f0
        have f1 := stays hSw f1
        have f2 := stays hSw f2
        clear hSw
        go_simp
        try with_reducible rfl
      try simp only [List.getElem_toArray, List.getElem_cons_succ, List.getElem_cons_zero, Act.put, List.setIfInBounds_toArray, List.set_cons_zero, List.set_cons_succ]
      refine readyF (rs := [11]) (by kernel_rfl) (by simp) ?_
      refine AllF.cons rfl (fun K hK => ?_) AllF.nil
      go_simp
      refine (Cm.out _ hX).mono ?_
      rintro e w0_11 ⟨rfl, hb⟩
      refine hK _ _ (fun h => h.trans (hb.mono h.size)) ?_
      clear hK K
      have hX := hX.trans (hb.mono hX.size)
      clear hb
      refine takeP (i := 12) (v := ?_) rfl hX ?hy ?_
      case hy =>
        intro wS hSw
        clear hSw
        go_simp
        try with_reducible rfl
      try simp only [List.getElem_toArray, List.getElem_cons_succ, List.getElem_cons_zero, Act.put, List.setIfInBounds_toArray, List.set_cons_zero, List.set_cons_succ]
      refine doneF (by kernel_rfl) ?_ _
      try simp only [List.getElem_toArray, List.getElem_cons_succ, List.getElem_cons_zero, Act.put, List.setIfInBounds_toArray, List.set_cons_zero, List.set_cons_succ]
      have er : 10 = R := by rw [← HR2.out]; rfl
      subst er
      clear HR2
      go_wp2
      go_ret
      exact ⟨rfl, hbr.trans (hX.mono hbr.size)⟩
set_option maxHeartbeats 16000000 in
theorem rtcheck_any (w : World) (p : Nat → Prop) (A : Option Addr) (n c : Nat) (ls : List EntL) (h : SlR w p A n c ls) (p' : Nat → Prop) (A' : Option Addr) (n' c' : Nat) (sp : List SpanL) (h' : SlR w p' A' n' c' sp) :
    Calls Tryz.prog 48 #[.slice A n c, .slice A' n' c'] w fun e w' => e = .returned (.int .i64 (checkTabL ls sp : Nat)) ∧ Below w.heap.size w w' := by
  have hl := h.lenR
  have hl' := h'.lenR
  unfold checkTabL
  rw [hl, hl']
  have hcp := h.cap
  have hcp' := h'.cap
  unfold maxLen at hcp hcp'
  by_cases hn1 : 1000 < n
  case pos =>
    have d1 : decide ((1000 : Int) < (n : Int)) = true := decide_eq_true (by omega)
    rw [if_pos (.inl hn1)]
    clear hl hl' h h'
    go_enter Tryz.func48, Tryz.ntmps48
    go_wp2
    go_ret
    exact ⟨rfl, Below.refl _ _⟩
  have d1 : decide ((1000 : Int) < (n : Int)) = false := decide_eq_false (by omega)
  by_cases hn2 : 1000 < n'
  case pos =>
    have d2 : decide ((1000 : Int) < (n' : Int)) = true := decide_eq_true (by omega)
    rw [if_pos (.inr hn2)]
    clear hl hl' h h'
    go_enter Tryz.func48, Tryz.ntmps48
    go_wp2
    go_ret
    exact ⟨rfl, Below.refl _ _⟩
  have d2 : decide ((1000 : Int) < (n' : Int)) = false := decide_eq_false (by omega)
  rw [if_neg (by omega)]
  by_cases hz : n + n' = 0
  case pos =>
    obtain rfl : n = 0 := by omega
    obtain rfl : n' = 0 := by omega
    rw [if_pos rfl]
    clear hl hl' h h'
    go_enter Tryz.func48, Tryz.ntmps48
    go_wp2
    go_ret
    exact ⟨rfl, Below.refl _ _⟩
  rw [if_neg hz]
  have e0 : ((n : Int) + (n' : Int) == 0) = false := by simp; omega
  have zz : ((n : Int) == 0) = false ∨ (((n : Int) == 0) = true ∧ ((n' : Int) == 0) = false) := by
    by_cases q : n = 0
    · exact .inr ⟨by simp; omega, by simp; omega⟩
    · exact .inl (by simp; omega)
  obtain ⟨r1, hr1⟩ : ∃ r1, firstErr checkEntL ls = r1 := ⟨_, rfl⟩
  obtain ⟨r, hr⟩ : ∃ r, risesL ls = r := ⟨_, rfl⟩
  obtain ⟨r3, hr3⟩ : ∃ r3, firstErr checkSpanL sp = r3 := ⟨_, rfl⟩
  obtain ⟨R, hR⟩ : ∃ R, (if r1 ≠ 0 then r1 else if r = true then r3 else 10) = R := ⟨_, rfl⟩
  rw [hr1, hr, hr3, hR]
  have Hl := Lib.hid hl
  have Hl' := Lib.hid hl'
  have Hr1 := Lib.hid hr1
  have Hr := Lib.hid hr
  have Hr3 := Lib.hid hr3
  have HR := Lib.hid hR
  clear hl hl' hr1 hr hr3 hR
  rcases zz with f1 | ⟨f1, f2⟩
  all_goals
    go_enter Tryz.func48, Tryz.ntmps48
    go_wp2
    go_loopw [29] (fun q wr => ∃ j : Nat, j ≤ n ∧ q = .int .i64 j ∧ Below w.heap.size w wr ∧ Hid (firstErr checkEntL (ls.drop j) = r1)) (fun q _ => n - (intOf q).toNat)
    case atStart => exact ⟨0, Nat.zero_le _, rfl, Below.refl _ _, Lib.hid Hr1.out⟩
    case round =>
      obtain ⟨j, hj, rfl, hbr, He⟩ := hrel
      by_cases hlt : j < n
      case pos =>
        obtain ⟨b, o, A3, n3, c3, A4, n4, c4, hjl, rfl, d0, d1, d2, d3, hs3, hs4⟩ := (h.below hbr).entAt hlt
        have hst : firstErr checkEntL (ls.drop j) = if checkEntL ls[j] ≠ 0 then checkEntL ls[j] else firstErr checkEntL (ls.drop (j + 1)) := by
          rw [List.drop_eq_getElem_cons hjl]
          rfl
        rw [He.out] at hst
        generalize ls[j] = x at *
        have hal := (Below.refl wr.heap.size wr).alloc (Nat.le_refl _) (.cells #[.slice A3 n3 c3, .int .u64 (x.key.seq.toNat : Int), .int .u8 (x.key.kind.toNat : Int), .slice A4 n4 c4] 69)
        have hrow := entRow1 (wr.alloc (.cells #[.slice A3 n3 c3, .int .u64 (x.key.seq.toNat : Int), .int .u8 (x.key.kind.toNat : Int), .slice A4 n4 c4] 69)) x _ _ rfl rfl A3 n3 c3 A4 n4 c4 (hs3.below (by omega) hal) (hs4.below (by omega) hal) 69
        have hcb := rcheck12_any _ _ _ 1 1 [x] hrow
        have hck : checkLeafL [x] = checkEntL x := leaf_one x
        have kE := Bx4.fresh wr (.slice A3 n3 c3) (.int .u64 (x.key.seq.toNat : Int)) (.int .u8 (x.key.kind.toNat : Int)) (.slice A4 n4 c4) 69
        rw [hck] at hcb
        generalize checkEntL x = E at *
        generalize x.key.kind.toNat = d at *
        generalize x.key.seq.toNat = s at *
        have Hst := Lib.hid hst
        clear hst hs3 hs4 hck hrow
        have hbr := hbr.trans (hal.mono hbr.size)
        generalize hW : (wr.alloc (.cells #[.slice A3 n3 c3, .int .u64 (s : Int), .int .u8 (d : Int), .slice A4 n4 c4] 69)) = w1 at *
        have hal2 := (Below.refl w1.heap.size w1).alloc (Nat.le_refl _) (.cells #[.slice A3 n3 c3, .int .u64 (s : Int), .int .u8 (d : Int), .slice A4 n4 c4] 69)
        have hbr := hbr.trans (hal2.mono hbr.size)
        generalize hW2 : (w1.alloc (.cells #[.slice A3 n3 c3, .int .u64 (s : Int), .int .u8 (d : Int), .slice A4 n4 c4] 69)) = w2 at *
        have Hcb := Lib.hid hcb
        clear hcb hal hal2
        obtain ⟨x0, x1, x2, x3, x4⟩ := id kE
        go_wp2_with fail
        try rw [hW]
        try rw [hW2]
        refine Hcb.out.mono ?_
        rintro e' w3 ⟨rfl, hb3⟩
        have hb4 := hbr.trans (hb3.mono hbr.size)
        clear x0 x1 x2 x3 x4 kE d0 d1 d2 d3 hb3 Hcb hW hW2
        by_cases he : E = 0
        case pos =>
          subst he
          go_wp2
          go_roundw
          case rel => exact ⟨j + 1, by omega, by go_num, hb4, Lib.hid (by rw [Hst.out]; simp)⟩
          case measure => simp [intOf]; omega
        have er : R = E := by
          have h2 : r1 = E := by rw [Hst.out, if_pos he]
          rw [← HR.out, h2, if_pos he]
        subst er
        have t1 : ((R : Int) == 0) = false := by simp; omega
        have t2 : ((R : Int) != 0) = true := by simp; omega
        go_wp2
        go_ret
        exact ⟨rfl, hb4⟩
      obtain rfl : n = j := by omega
      have e := He.out
      rw [List.drop_of_length_le (by have := Hl.out; omega)] at e
      obtain rfl : 0 = r1 := e
      have hR2 := HR.out
      simp only [ne_eq, not_true_eq_false, if_false] at hR2
      have h := h.below hbr
      have HR2 := Lib.hid hR2
      clear He hR2 HR hlt
      obtain ⟨wS, hwS⟩ : ∃ wS, wS = wr := ⟨_, rfl⟩
      have hS : Below w.heap.size w wS := by rw [hwS]; exact hbr
      have hSh : SlR wS p A n c ls := by rw [hwS]; exact h
      rw [← hwS]
      clear hwS hbr h Hr1
      go_wp2
      go_loopw [8] (fun q wr => ∃ j : Nat, 1 ≤ j ∧ (j ≤ n ∨ j = 1) ∧ q = .int .i64 j ∧ Below wS.heap.size wS wr ∧ Hid (risesL (ls.drop (j - 1)) = r)) (fun q _ => n - (intOf q).toNat)
      case atStart => exact ⟨1, Nat.le_refl _, .inr rfl, rfl, Below.refl _ _, Lib.hid (by rw [Nat.sub_self, List.drop_zero]; exact Hr.out)⟩
      case round =>
        obtain ⟨j, hj1, hj, rfl, hbS, Hc⟩ := hrel
        have hbr := hS.trans (hbS.mono hS.size)
        by_cases hlt : j < n
        case neg =>
          have e1 : r = true := by
            rw [← Hc.out]
            have hd : (ls.drop (j - 1)).length ≤ 1 := by rw [List.length_drop, Hl.out]; omega
            match hm : ls.drop (j - 1), hd with
            | [], _ => rfl
            | [_], _ => rfl
            | _ :: _ :: _, hd => simp at hd
          subst e1
          have er : r3 = R := by rw [← HR2.out]; rfl
          subst er
          clear HR2
          obtain ⟨wT, hwT⟩ : ∃ wT, wT = wr := ⟨_, rfl⟩
          have hT : Below w.heap.size w wT := by rw [hwT]; exact hbr
          rw [← hwT]
          clear hwT hbr hbS Hc
          go_wp2
          go_loopw [61] (fun q wr => ∃ j : Nat, j ≤ n' ∧ q = .int .i64 j ∧ Below wT.heap.size wT wr ∧ Hid (firstErr checkSpanL (sp.drop j) = r3)) (fun q _ => n' - (intOf q).toNat)
          case atStart => exact ⟨0, Nat.zero_le _, rfl, Below.refl _ _, Lib.hid Hr3.out⟩
          case round =>
            obtain ⟨j, hj3, rfl, hbU, He⟩ := hrel
            have hbr := hT.trans (hbU.mono hT.size)
            by_cases hlt3 : j < n'
            case neg =>
              obtain rfl : n' = j := by omega
              have e := He.out
              rw [List.drop_of_length_le (by have := Hl'.out; omega)] at e
              obtain rfl : 0 = r3 := e
              clear He
              go_wp2
              go_ret
              exact ⟨rfl, hbr⟩
            obtain ⟨b, o, A3, n3, c3, A4, n4, c4, hjl, rfl, d0, d1, d2, s3, _, s4, _⟩ := (h'.below hbr).spanAt hlt3
            have hst : firstErr checkSpanL (sp.drop j) = if checkSpanL sp[j] ≠ 0 then checkSpanL sp[j] else firstErr checkSpanL (sp.drop (j + 1)) := by
              rw [List.drop_eq_getElem_cons hjl]
              rfl
            rw [He.out] at hst
            have h4 : checkSpanL sp[j] ≠ 0 → checkSpanL sp[j] = 4 := fun q => by unfold checkSpanL at *; split at q <;> simp_all
            generalize sp[j] = x at *
            have al := (Below.refl wr.heap.size wr).alloc (Nat.le_refl _) (.cells #[.slice A3 n3 c3, .slice A4 n4 c4, .int .u64 (x.seq.toNat : Int)] 72)
            have ck := rscheck_any (wr.alloc (.cells #[.slice A3 n3 c3, .slice A4 n4 c4, .int .u64 (x.seq.toNat : Int)] 72)) A3 n3 c3 A4 n4 c4 x (s3.below (by omega) al) (s4.below (by omega) al)
            have kB := Bx.fresh wr (.slice A3 n3 c3) (.slice A4 n4 c4) (.int .u64 (x.seq.toNat : Int)) 72
            generalize x.seq.toNat = s at *
            generalize checkSpanL x = e at *
            have hbU := hbU.trans (al.mono hbU.size)
            have hbr := hbr.trans (al.mono hbr.size)
            generalize hW : (wr.alloc (.cells #[.slice A3 n3 c3, .slice A4 n4 c4, .int .u64 (s : Int)] 72)) = w1 at *
            have Hst := Lib.hid hst
            have Ck := Lib.hid ck
            have H4 := Lib.hid h4
            clear hst ck al s3 s4 He h4
            obtain ⟨x0, x1, x2, x3⟩ := id kB
            go_wp2_with fail
            try rw [hW]
            refine Ck.out.mono ?_
            rintro e' w3 ⟨rfl, hb3⟩
            have hbU := hbU.trans (hb3.mono hbU.size)
            have hbr := hbr.trans (hb3.mono hbr.size)
            clear x0 x1 x2 x3 kB d0 d1 d2 hb3 Ck hW
            by_cases he : e = 0
            case pos =>
              subst he
              go_wp2
              go_roundw
              case rel => exact ⟨j + 1, by omega, by go_num, hbU, Lib.hid (by rw [Hst.out]; simp)⟩
              case measure => simp [intOf]; omega
            have t1 : ((e : Int) == 0) = false := by simp; omega
            have t2 : ((e : Int) != 0) = true := by simp; omega
            obtain rfl := H4.out he
            have er : r3 = 4 := by rw [Hst.out]; simp
            subst er
            go_wp2
            go_ret
            exact ⟨rfl, hbr⟩
        obtain ⟨q, hq⟩ : ∃ q, j = q + 1 := ⟨j - 1, by omega⟩
        have hqn : q < n := by omega
        have hw1 : IntKind.i64.wrap ((j : Int) - 1) = (q : Int) := by rw [IntKind.wrap_i64]; omega
        have hsw := hSh.below hbS
        obtain ⟨b, o, A3, n3, c3, A4, n4, c4, hql, rfl, d0, d1, d2, d3, g1, _⟩ := hsw.entAt hqn
        obtain ⟨b', o', A5, n5, c5, A6, n6, c6, hjl, hbo, f0, f1, f2, f3, g2, _⟩ := hsw.entAt hlt
        obtain ⟨rfl, rfl⟩ : b = b' ∧ o = o' := by simpa using hbo
        have d0 : (World.drew _).cell? _ = _ := d0
        have d1 : (World.drew _).cell? _ = _ := d1
        have d2 : (World.drew _).cell? _ = _ := d2
        have f0 : (World.drew _).cell? _ = _ := f0
        have f1 : (World.drew _).cell? _ = _ := f1
        have f2 : (World.drew _).cell? _ = _ := f2
        have g1 := g1.drew
        have g2 := g2.drew
        have hst : risesL (ls.drop q) = (lessKey ls[q].key ls[j].key && risesL (ls.drop j)) := by
          rw [List.drop_eq_getElem_cons hql]
          subst hq
          rw [List.drop_eq_getElem_cons hjl]
          rfl
        have hcc := Hc.out
        rw [show j - 1 = q by omega, hst] at hcc
        obtain ⟨lk, hlk⟩ : ∃ lk, lessKey ls[q].key ls[j].key = lk := ⟨_, rfl⟩
        rw [hlk] at hcc
        have Hst := Lib.hid hcc.symm
        have Hq := Lib.hid hq
        have hbr := below_drew hbr
        have hbS := below_drew hbS
        clear hst hcc hq hsw hbo Hc d3 f3
        generalize hW : World.drew _ = w0 at *
        have cm := fun w' (hb : Below w0.heap.size w0 w') => klt_any w' A3 n3 c3 ls[q].key (g1.below (by omega) hb) A5 n5 c5 ls[j].key (g2.below (by omega) hb)
        rw [hlk] at cm
        have Cm := Lib.hid cm
        clear cm hlk g1 g2
        generalize ls[q].key.seq.toNat = s1 at *
        generalize ls[q].key.kind.toNat = k1 at *
        generalize ls[j].key.seq.toNat = s2 at *
        generalize ls[j].key.kind.toNat = k2 at *
        go_wp2_with fail
        cases lk
        case true =>
          refine regionF (fun _ wa wb => Below w0.heap.size w0 wa → Below w0.heap.size w0 wb) (by kernel_rfl) ?_
          rw [hW]
          clear hW
          have hX := Below.refl w0.heap.size w0
          refine takeP (i := 0) (v := ?_) rfl hX ?hy ?_
          case hy =>
            intro wS hSw
            clear hSw
            go_simp
            try with_reducible rfl
          refine takeP (i := 1) (v := ?_) rfl hX ?hy ?_
          case hy =>
            intro wS hSw
            clear hSw
            go_simp
            try with_reducible rfl
          refine takeP (i := 2) (v := ?_) rfl hX ?hy ?_
          case hy =>
            intro wS hSw
            clear hSw
            go_simp
            try with_reducible rfl
          refine takeP (i := 3) (v := ?_) rfl hX ?hy ?_
          case hy =>
            intro wS hSw
            clear hSw
            go_simp
            try with_reducible rfl
          refine takeP (i := 4) (v := ?_) rfl hX ?hy ?_
          case hy =>
            intro wS hSw
            clear hSw
            go_simp
            try with_reducible rfl
          refine takeP (i := 5) (v := ?_) rfl hX ?hy ?_
          case hy =>
            intro wS hSw
            have d0 := stays hSw d0
            have d1 := stays hSw d1
            have d2 := stays hSw d2
            clear hSw
            go_simp
            try with_reducible rfl
          refine takeP (i := 6) (v := ?_) rfl hX ?hy ?_
          case hy =>
            intro wS hSw
            clear hSw
            go_simp
            try with_reducible rfl
          refine takeP (i := 7) (v := ?_) rfl hX ?hy ?_
          case hy =>
            intro wS hSw
            clear hSw
            go_simp
            try with_reducible rfl
          refine takeP (i := 8) (v := ?_) rfl hX ?hy ?_
          case hy =>
            intro wS hSw
            clear hSw
            go_simp
            try with_reducible rfl
          refine takeP (i := 9) (v := ?_) rfl hX ?hy ?_
          case hy =>
            intro wS hSw
            clear hSw
            go_simp
            try with_reducible rfl
          refine takeP (i := 10) (v := ?_) rfl hX ?hy ?_
          case hy =>
            intro wS hSw
            have f0 := stays hSw f0
            have f1 := stays hSw f1
            have f2 := stays hSw f2
            clear hSw
            go_simp
            try with_reducible rfl
          try simp only [List.getElem_toArray, List.getElem_cons_succ, List.getElem_cons_zero, Act.put, List.setIfInBounds_toArray, List.set_cons_zero, List.set_cons_succ]
          refine readyF (rs := [11]) (by kernel_rfl) (by simp) ?_
          refine AllF.cons rfl (fun K hK => ?_) AllF.nil
          go_simp
          refine (Cm.out _ hX).mono ?_
          rintro e w0_11 ⟨rfl, hb⟩
          refine hK _ _ (fun h => h.trans (hb.mono h.size)) ?_
          clear hK K
          have hX := hX.trans (hb.mono hX.size)
          clear hb
          refine takeP (i := 12) (v := ?_) rfl hX ?hy ?_
          case hy =>
            intro wS hSw
            clear hSw
            go_simp
            try with_reducible rfl
          try simp only [List.getElem_toArray, List.getElem_cons_succ, List.getElem_cons_zero, Act.put, List.setIfInBounds_toArray, List.set_cons_zero, List.set_cons_succ]
          refine doneF (by kernel_rfl) ?_ _
          try simp only [List.getElem_toArray, List.getElem_cons_succ, List.getElem_cons_zero, Act.put, List.setIfInBounds_toArray, List.set_cons_zero, List.set_cons_succ]
          go_wp2
          go_roundw
          case rel => exact ⟨j + 1, by omega, by omega, by go_num, hbS.trans (hX.mono hbS.size), Lib.hid (by rw [Hst.out, Nat.add_sub_cancel]; rfl)⟩
          case measure => simp [intOf]; omega
        have hrr : r = false := Hst.out
        subst hrr
        refine regionF (fun _ wa wb => Below w0.heap.size w0 wa → Below w0.heap.size w0 wb) (by kernel_rfl) ?_
        rw [hW]
        clear hW
        have hX := Below.refl w0.heap.size w0
        refine takeP (i := 0) (v := ?_) rfl hX ?hy ?_
        case hy =>
          intro wS hSw
          clear hSw
          go_simp
          try with_reducible rfl
        refine takeP (i := 1) (v := ?_) rfl hX ?hy ?_
        case hy =>
          intro wS hSw
          clear hSw
          go_simp
          try with_reducible rfl
        refine takeP (i := 2) (v := ?_) rfl hX ?hy ?_
        case hy =>
          intro wS hSw
          clear hSw
          go_simp
          try with_reducible rfl
        refine takeP (i := 3) (v := ?_) rfl hX ?hy ?_
        case hy =>
          intro wS hSw
          clear hSw
          go_simp
          try with_reducible rfl
        refine takeP (i := 4) (v := ?_) rfl hX ?hy ?_
        case hy =>
          intro wS hSw
          clear hSw
          go_simp
          try with_reducible rfl
        refine takeP (i := 5) (v := ?_) rfl hX ?hy ?_
        case hy =>
          intro wS hSw
          have d0 := stays hSw d0
          have d1 := stays hSw d1
          have d2 := stays hSw d2
          clear hSw
          go_simp
          try with_reducible rfl
        refine takeP (i := 6) (v := ?_) rfl hX ?hy ?_
        case hy =>
          intro wS hSw
          clear hSw
          go_simp
          try with_reducible rfl
        refine takeP (i := 7) (v := ?_) rfl hX ?hy ?_
        case hy =>
          intro wS hSw
          clear hSw
          go_simp
          try with_reducible rfl
        refine takeP (i := 8) (v := ?_) rfl hX ?hy ?_
        case hy =>
          intro wS hSw
          clear hSw
          go_simp
          try with_reducible rfl
        refine takeP (i := 9) (v := ?_) rfl hX ?hy ?_
        case hy =>
          intro wS hSw
          clear hSw
          go_simp
          try with_reducible rfl
        refine takeP (i := 10) (v := ?_) rfl hX ?hy ?_
        case hy =>
          intro wS hSw
          have f0 := stays hSw f0
          have f1 := stays hSw f1
          have f2 := stays hSw f2
          clear hSw
          go_simp
          try with_reducible rfl
        try simp only [List.getElem_toArray, List.getElem_cons_succ, List.getElem_cons_zero, Act.put, List.setIfInBounds_toArray, List.set_cons_zero, List.set_cons_succ]
        refine readyF (rs := [11]) (by kernel_rfl) (by simp) ?_
        refine AllF.cons rfl (fun K hK => ?_) AllF.nil
        go_simp
        refine (Cm.out _ hX).mono ?_
        rintro e w0_11 ⟨rfl, hb⟩
        refine hK _ _ (fun h => h.trans (hb.mono h.size)) ?_
        clear hK K
        have hX := hX.trans (hb.mono hX.size)
        clear hb
        refine takeP (i := 12) (v := ?_) rfl hX ?hy ?_
        case hy =>
          intro wS hSw
          clear hSw
          go_simp
          try with_reducible rfl
        try simp only [List.getElem_toArray, List.getElem_cons_succ, List.getElem_cons_zero, Act.put, List.setIfInBounds_toArray, List.set_cons_zero, List.set_cons_succ]
        refine doneF (by kernel_rfl) ?_ _
        try simp only [List.getElem_toArray, List.getElem_cons_succ, List.getElem_cons_zero, Act.put, List.setIfInBounds_toArray, List.set_cons_zero, List.set_cons_succ]
        have er : 10 = R := by rw [← HR2.out]; rfl
        subst er
        clear HR2
        go_wp2
        go_ret
        exact ⟨rfl, hbr.trans (hX.mono hbr.size)⟩
end Go.Proofs.YtpffieogkfndaaaGreatDoor

namespace Go.Proofs.YtpffieogkfndaaaGreatDoor
open Go.RowKit
set_option maxRecDepth 20000
set_option linter.unusedVariables false
set_option linter.unusedSimpArgs false
/-- l[a:b] of entries -/
theorem cutLHE {w : World} {p : Nat → Prop} {A : Option Addr} {n c : Nat} {ls : List EntL} (h : SlR w p A n c ls) (q q' : IntKind) (i j : Int) (lo hi : Nat) (ei : i = lo) (ej : j = hi) (h1 : lo ≤ hi) (h2 : hi ≤ n) :
    ∃ A', (∀ w' : World, (Instr.slice 22 (.slice A n c) (some (.int q i)) (some (.int q' j)) none).run Tryz.prog w' = .ok (.slice A' (hi - lo) (c - lo)) w') ∧ SlR w p A' (hi - lo) (c - lo) ((ls.drop lo).take (hi - lo)) := by
  have hcap := h.cap
  subst ei
  subst ej
  refine ⟨if c = lo then A else A.map (·.add (lo * 4)), fun w' => ?_, ?_⟩
  · have := run_slice_lh (P := Tryz.prog) w' 22 A n c Tryz.underlying22 q q' lo hi (by omega) (by omega) (by omega)
    rw [this]
    show ((sizeOf 69).run Tryz.prog w').andThen _ = _
    rw [run_sizeE]
    simp only [Result.andThen, sliced, Int.toNat_natCast]
  · have h3 : SlR w p (if c = lo then A else A.map (·.add (lo * 4))) (n - lo) (c - lo) (ls.drop lo) := h.drop (by omega)
    exact h3.take (by omega)
set_option maxHeartbeats 2000000 in
theorem four_any (w : World) (k : Nat) (hk : k < 4294967296) : Calls Tryz.prog 55 #[.int .i64 (k : Int)] w (NewB w (le4 k)) := by
  go_enter Tryz.func55, Tryz.ntmps55
  go_wp2
  go_ret
  refine ⟨_, 4, 4, rfl, ?_, (Below.refl _ _).alloc (Nat.le_refl _) _⟩
  refine Own.fresh w w.heap.size _ 1 4 4 _ _ (Nat.le_refl _) (Nat.le_refl _) (by unfold maxLen; omega) rfl rfl ?_
  simp [bc, le4, u8i]
  omega
theorem key_ok {k : KeyL} (h : checkKey k = 0) : keyBE k = (keyBytesL k, 0) := by
  unfold keyBE
  rw [if_pos h]
theorem leaf_ok {l : List EntL} (h : checkLeafL l = 0) : leafBE l = (leafBytesL l, 0) := by
  unfold leafBE
  rw [if_pos h]
theorem users_snoc (l : List EntL) (j : Nat) (hj : j < l.length) : usersL (l.take (j + 1)) = usersL (l.take j) ++ [l[j].key.user] := by
  unfold usersL
  rw [take_snoc _ _ hj, List.map_append]
  rfl
theorem ranges_snoc (l : List SpanL) (j : Nat) (hj : j < l.length) : rangesL (l.take (j + 1)) = rangesL (l.take j) ++ rangeL l[j] := by
  unfold rangesL
  rw [take_snoc _ _ hj, List.flatMap_append]
  simp
/-- what is known behind j leaves -/
def LeavesRel (w : World) (ls : List EntL) (lv xv iv : Value) (wr : World) : Prop :=
  ∃ (j : Nat) (A2 : Option Addr) (n2 c2 : Nat) (A3 : Option Addr) (n3 c3 : Nat), iv = .int .i64 ((8 * j : Nat) : Int) ∧ lv = .slice A2 n2 c2 ∧ xv = .slice A3 n3 c3 ∧ j ≤ leafCount ls ∧ Below w.heap.size w wr ∧
    OwnB wr w.heap.size A2 n2 c2 (leavesN ls j) ∧ OwnB wr w.heap.size A3 n3 c3 (indexN ls j) ∧ ∀ b, blk A2 c2 = some b → blk A3 c3 ≠ some b
/-- users' row: what it holds lies below L -/
def UsersRel (w1 : World) (L : Nat) (ls : List EntL) (n : Nat) (uv iv : Value) (wr : World) : Prop :=
  ∃ (j : Nat) (A2 : Option Addr) (n2 c2 : Nat), iv = .int .i64 (j : Int) ∧ uv = .slice A2 n2 c2 ∧ j ≤ n ∧ Below w1.heap.size w1 wr ∧ OwnL wr w1.heap.size L 29 A2 n2 c2 (usersL (ls.take j))
def RangesRel (w2 : World) (sp : List SpanL) (n : Nat) (rv iv : Value) (wr : World) : Prop :=
  ∃ (j : Nat) (A2 : Option Addr) (n2 c2 : Nat), iv = .int .i64 (j : Int) ∧ rv = .slice A2 n2 c2 ∧ j ≤ n ∧ Below w2.heap.size w2 wr ∧ OwnB wr w2.heap.size A2 n2 c2 (rangesL (sp.take j))
theorem OwnL.parts {w : World} {B L : Nat} {e : TypeId} {A : Option Addr} {n c : Nat} {ls : List (List UInt8)} (h : OwnL w B L e A n c ls) : ∃ vs, Sl w 1 A n c vs ∧ PartsOf w vs ls := by
  obtain ⟨xs, ho, hr⟩ := h
  exact ⟨xs, ho.sl, hr.parts⟩
theorem userRow (w : World) (L : Nat) (A : Option Addr) (n c : Nat) (l : List UInt8) (s : Sl w 1 A n c (bc l)) (h : ∀ b, 0 < n → A.map (·.block) = some b → b < L) (e : TypeId) :
    ∃ xs, Sl (w.alloc (.cells #[.slice A n c] e)) 1 (some ⟨w.heap.size, 0, none⟩) 1 1 xs ∧ RowC (w.alloc (.cells #[.slice A n c] e)) (fun b => b < L) xs [l] := by
  have al := (Below.refl w.heap.size w).alloc (Nat.le_refl _) (.cells #[.slice A n c] e)
  exact ⟨_, ⟨rfl, Nat.le_refl _, by unfold maxLen; omega, fun _ => ⟨w.heap.size, 0, rfl, fun j u hu => by rw [cell_of_row _ _ _ _ _ _ (heap_alloc_new w _)]; simpa using hu⟩⟩, RowC.single ⟨_, rfl, ⟨A, n, c, rfl, s.below (by omega) al, h⟩⟩⟩
theorem apart_new {w : World} {B : Nat} {e : TypeId} {size n c : Nat} {A A' A2 : Option Addr} {c' c2 : Nat} {xs : List Value} (ho : Own w B e size A2 n c2 xs) (hap : ∀ b, blk A c = some b → blk A2 c2 ≠ some b) (hx : blk A' c' = blk A c ∨ blk A' c' = some w.heap.size) : ∀ b, blk A' c' = some b → blk A2 c2 ≠ some b := fun b q r => by
  rcases hx with e | e
  · exact hap b (e ▸ q) r
  · have := (Own.lt ho b r).2
    rw [e] at q
    have := Option.some.inj q
    omega
theorem ne_new {w : World} {A A' : Option Addr} {c c' g : Nat} (hne : blk A c ≠ some g) (hx : blk A' c' = blk A c ∨ blk A' c' = some w.heap.size) (hg : g < w.heap.size) : blk A' c' ≠ some g := fun q => by
  rcases hx with e | e
  · exact hne (e ▸ q)
  · rw [e] at q
    have := Option.some.inj q
    omega
set_option maxHeartbeats 32000000 in
theorem rtbuild_any (w : World) (p : Nat → Prop) (A : Option Addr) (n c : Nat) (ls : List EntL) (h : SlR w p A n c ls) (p' : Nat → Prop) (A' : Option Addr) (n' c' : Nat) (sp : List SpanL) (h' : SlR w p' A' n' c' sp) :
    Calls Tryz.prog 14 #[.slice A n c, .slice A' n' c'] w (GotBE w (tabBE ls sp).1 (tabBE ls sp).2) := by
  obtain ⟨R1, hR1⟩ : ∃ r, (tabBE ls sp).1 = r := ⟨_, rfl⟩
  obtain ⟨R2, hR2⟩ : ∃ r, (tabBE ls sp).2 = r := ⟨_, rfl⟩
  rw [hR1, hR2]
  have ck := rtcheck_any w p A n c ls h p' A' n' c' sp h'
  have hl := h.lenR
  have hl' := h'.lenR
  have hcp := h.cap
  have hcp' := h'.cap
  unfold maxLen at hcp hcp'
  by_cases hc : checkTabL ls sp = 0
  case neg =>
    have e1 : tabBE ls sp = ([], checkTabL ls sp) := by unfold tabBE; rw [if_neg hc]
    rw [e1] at hR1 hR2
    subst hR1 hR2
    simp only
    generalize checkTabL ls sp = q at *
    have t1 : ((q : Int) == 0) = false := by simp; omega
    have t2 : ((q : Int) != 0) = true := by simp; omega
    have Ck := Lib.hid ck
    clear hc ck e1 hl hl' h h'
    go_enter Tryz.func14, Tryz.ntmps14
    go_wp2_with fail
    refine Ck.out.mono ?_
    rintro e w1 ⟨rfl, hb1⟩
    go_wp2
    go_ret2
    exact ⟨none, 0, 0, rfl, Own.nil _ _ _ _ _, hb1⟩
  have e1 : tabBE ls sp = (tabBytesL ls sp, 0) := by unfold tabBE; rw [if_pos hc]
  rw [e1] at hR1 hR2
  obtain ⟨c1, c2, -, c4, c5, c6⟩ := checkTab_zero hc
  rw [hc] at ck
  have HR1 := Lib.hid hR1
  subst hR2
  have C4 := Lib.hid c4
  have C5 := Lib.hid c5
  have C6 := Lib.hid c6
  have hn : n ≤ 1000 := by omega
  have hn' : n' ≤ 1000 := by omega
  have Hl := Lib.hid hl
  have Hl' := Lib.hid hl'
  have Ck := Lib.hid ck
  clear hc ck e1 hR1 c1 c2 c4 c5 c6 hl hl'
  go_enter Tryz.func14, Tryz.ntmps14
  go_wp2_with fail
  refine Ck.out.mono ?_
  rintro e w0 ⟨rfl, hb0⟩
  have h := h.below hb0
  have h' := h'.below hb0
  clear Ck
  go_wp2
  go_loopw [7, 8, 11] (LeavesRel w0 ls) (fun _ _ q _ => n - (intOf q).toNat)
  case atStart => exact ⟨0, none, 0, 0, none, 0, 0, rfl, rfl, rfl, Nat.zero_le _, Below.refl _ _, Own.nil _ _ _ _ _, Own.nil _ _ _ _ _, fun b q => by simp [blk] at q⟩
  case round =>
    obtain ⟨j, A2, n2, c2, A3, n3, c3, rfl, rfl, rfl, hj, hbr, ho2, ho3, hap⟩ := hrel
    obtain ⟨i, hi⟩ : ∃ i, 8 * j = i := ⟨_, rfl⟩
    rw [hi]
    have hl2 := leaves_len C4.out j
    have hl3 := index_len C4.out j hj
    have hlc : leafCount ls ≤ 126 := by unfold leafCount; have := Hl.out; omega
    have hn2 : n2 ≤ 700000 := by have := OwnB.len' ho2; omega
    have hn3 : n3 ≤ 20000 := by have := OwnB.len' ho3; omega
    by_cases hlt : i < n
    case pos =>
      have hjc : j < leafCount ls := by unfold leafCount; have := Hl.out; omega
      obtain ⟨u, hu⟩ : ∃ u, min (i + 8) n = u := ⟨_, rfl⟩
      have hu1 : i < u := by omega
      have hu2 : u ≤ n := by omega
      have hu3 : u ≤ i + 8 := by omega
      have hm1 : (if (n : Int) < (i : Int) + 8 then (n : Int) else (i : Int) + 8) = (u : Int) := by split <;> omega
      have hm2 : (if (i : Int) + 8 < (n : Int) then (i : Int) + 8 else (n : Int)) = (u : Int) := by split <;> omega
      have hm3 : min ((i : Int) + 8) (n : Int) = (u : Int) := by omega
      have hch : (ls.drop i).take (u - i) = chunkL ls j := by
        unfold chunkL
        rw [hi]
        rcases Nat.lt_or_ge n (i + 8) with q | q
        · rw [List.take_of_length_le (by rw [List.length_drop, Hl.out]; omega), List.take_of_length_le (by rw [List.length_drop, Hl.out]; omega)]
        · rw [show u - i = 8 by omega]
      obtain ⟨Ac, rc, sc⟩ := cutLHE (h.below hbr) .i64 .i64 (i : Int) (u : Int) i u rfl rfl (by omega) hu2
      rw [hch] at sc
      obtain ⟨m, hm⟩ : ∃ m, u - i = m := ⟨_, rfl⟩
      rw [hm] at rc sc
      have hm1' : 0 < m := by omega
      have hm8 : m ≤ 8 := by omega
      have cb := rbuild12_any wr p Ac m (c - i) (chunkL ls j) sc
      rw [leaf_ok (chunk_check C4.out C5.out j)] at cb
      unfold GotBE at cb
      have hcl := sc.lenR
      have hlk : lastKey (chunkL ls j) = ((chunkL ls j)[m - 1]'(by omega)).key := by
        unfold lastKey
        rw [show (chunkL ls j).length - 1 = m - 1 by omega, List.getElem?_eq_getElem (by omega)]
        rfl
      have hkk : checkKey (lastKey (chunkL ls j)) = 0 := by
        obtain ⟨e, he, hk⟩ := lastKey_mem (l := ls) (i := j) hjc
        rw [← hk]
        exact (C4.out e he).1
      have hsl := sealed_len ls C4.out j
      have hsn : sealedL ls j = closeL (leafBytesL (chunkL ls j)) := rfl
      have hnx : leavesN ls (j + 1) = leavesN ls j ++ closeL (leafBytesL (chunkL ls j)) := by rw [leavesN_succ, hsn]
      have hix : indexN ls (j + 1) = indexN ls j ++ keyBytesL (lastKey (chunkL ls j)) ++ numL (closeL (leafBytesL (chunkL ls j))).length := by rw [indexN_succ, List.append_assoc]; rfl
      have hl3b := index_len C4.out (j + 1) (by omega)
      rw [hix] at hl3b
      rw [hsn] at hsl
      have hsll := closeL_len (leafBytesL (chunkL ls j))
      have Cb := Lib.hid cb
      have Hlk := Lib.hid hlk
      have Hkk := Lib.hid hkk
      have Hnx := Lib.hid hnx
      have Hix := Lib.hid hix
      have Hi := Lib.hid hi
      generalize leafBytesL (chunkL ls j) = lb at *
      generalize lastKey (chunkL ls j) = lk at *
      have hlb : lb.length ≤ 5000 := by omega
      clear cb hlk hkk hnx hix hsn hu hch hi hsll hl2 hl3
      go_wp2_with fail
      refine Cb.out.mono ?_
      rintro e w3 ⟨A4, n4, c4, rfl, ho4, hb3⟩
      have sc := sc.below hb3
      have ho2 := Own.below ho2 hb3
      have ho3 := Own.below ho3 hb3
      have hbr := hbr.trans (hb3.mono hbr.size)
      have hn4 : n4 ≤ 5000 := by have := OwnB.len' ho4; omega
      have s4 := OwnB.sl ho4
      clear ho4 hb3 Cb
      go_wp2_with fail
      refine (rclose_any w3 A4 n4 c4 lb s4 (by omega)).mono ?_
      generalize closeL lb = sl at *
      rintro e w4 ⟨A5, n5, c5, rfl, ho5, hb4⟩
      have sc := sc.below hb4
      have ho2 := Own.below ho2 hb4
      have ho3 := Own.below ho3 hb4
      have hbr := hbr.trans (hb4.mono hbr.size)
      have hn5 := OwnB.len' ho5
      have hn5l : n5 ≤ 5000 := by omega
      have s5 := OwnB.sl ho5
      clear ho5 hb4 s4
      obtain ⟨b, o, A6, n6, c6, A7, n7, c7, hkl, rfl, d0, d1, d2, d3, s6, _⟩ := sc.entAt (k := m - 1) (by omega)
      have ckb := rkbytes_any w4 A6 n6 c6 _ s6
      rw [← Hlk.out, key_ok Hkk.out] at ckb
      have hk1 : ((chunkL ls j)[m - 1]'hkl).key.seq.toNat = lk.seq.toNat := by rw [Hlk.out]
      have hk2 : ((chunkL ls j)[m - 1]'hkl).key.kind.toNat = lk.kind.toNat := by rw [Hlk.out]
      rw [hk1] at d1
      rw [hk2] at d2
      unfold GotBE at ckb
      generalize lk.seq.toNat = ks at *
      generalize lk.kind.toNat = kd at *
      obtain ⟨m1, hm1e⟩ : ∃ m1, m - 1 = m1 := ⟨_, rfl⟩
      rw [hm1e] at d0 d1 d2 d3
      have em : (m : Int) - 1 = (m1 : Int) := by omega
      have hmm : m1 < m := by omega
      have Ckb := Lib.hid ckb
      clear ckb hk1 hk2 hm1e s6 Hlk
      go_wp2_with fail
      refine Ckb.out.mono ?_
      rintro e w5 ⟨A8, n8, c8, rfl, ho8, hb5⟩
      have hlt2 : ∀ b, blk A2 c2 = some b → b < w4.heap.size := fun b q => (Own.lt ho2 b q).2
      have s5 := s5.below (by omega) hb5
      have ho2 := Own.below ho2 hb5
      have ho3 := Own.below ho3 hb5
      have hbr := hbr.trans (hb5.mono hbr.size)
      have hn8 := OwnB.len' ho8
      clear hb5 d0 d1 d2 d3 Ckb sc
      simp only [List.length_append] at hl3b
      go_wp2_with (at_builtin; refine wpList_appB _ rfl (.tmp 64) (.tmp 65) rfl w0.heap.size A2 n2 c2 _ rfl ho2 A5 n5 c5 _ rfl s5 ?_ ?_ ?_)
      · omega
      · exact hbr.size
      intro A9 c9 w9 ho9 hg9 hx9
      have hap9 := apart_new ho3 hap hx9
      have ho3 := Own.grown ho3 hg9 (fun b hb q => hap b q hb)
      have ho8 := Own.grown ho8 hg9 (fun b hb q => by have := hlt2 b q; have := (Own.lt ho8 b hb).1; omega)
      have hbr := hbr.grown hg9 hbr.size (fun b hb => (Own.lt ho2 b hb).1)
      have s8 := OwnB.sl ho8
      clear ho2 hg9 hx9 hap s5 ho8 hlt2
      go_wp2_with (at_builtin; refine wpList_appB _ rfl (.tmp 67) (.tmp 68) rfl w0.heap.size A3 n3 c3 _ rfl ho3 A8 n8 c8 _ rfl s8 ?_ ?_ ?_)
      · omega
      · exact hbr.size
      intro A10 c10 w10 ho10 hg10 hx10
      have hap10 := fun b q r => apart_new ho9 (fun b q r => hap9 b r q) hx10 b q r
      have ho9 := Own.grown ho9 hg10 (fun b hb q => hap9 b hb q)
      have hbr := hbr.grown hg10 hbr.size (fun b hb => (Own.lt ho3 b hb).1)
      clear ho3 hg10 hx10 hap9 s8
      have cn := rnum_any n5 w10 (by omega)
      rw [← hn5] at cn
      have hnl := num_len sl.length
      rw [hn5] at cn hnl hl3b
      have Hn5 := Lib.hid hn5
      generalize hnn : numL n5 = nn at *
      have Hnn := Lib.hid hnn
      have Cn := Lib.hid cn
      clear cn hn5 hnn
      go_wp2_with fail
      refine Cn.out.mono ?_
      rintro e w11 ⟨A11, n11, c11, rfl, ho11, hb11⟩
      have hn11 := OwnB.len' ho11
      have ho9 := Own.below ho9 hb11
      have ho10 := Own.below ho10 hb11
      have hbr := hbr.trans (hb11.mono hbr.size)
      have s11 := OwnB.sl ho11
      clear hb11 ho11 Cn
      go_wp2_with (at_builtin; refine wpList_appB _ rfl (.tmp 69) (.tmp 73) rfl w0.heap.size A10 (n3 + n8) c10 _ rfl ho10 A11 n11 c11 _ rfl s11 ?_ ?_ ?_)
      · omega
      · exact hbr.size
      intro A12 c12 w12 ho12 hg12 hx12
      have hap12 := fun b q r => apart_new ho9 (fun b q r => hap10 b q r) hx12 b q r
      have ho9 := Own.grown ho9 hg12 (fun b hb q => hap10 b q hb)
      have hbr := hbr.grown hg12 hbr.size (fun b hb => (Own.lt ho10 b hb).1)
      rw [← Hnx.out] at ho9
      rw [← Hnn.out, ← Hn5.out] at ho12
      (try rw [← List.append_assoc] at ho12)
      rw [← Hix.out] at ho12
      clear ho10 hg12 hx12 hap10 s11 hl3b
      go_wp2
      go_roundw
      case rel => exact ⟨j + 1, A9, _, c9, A12, _, c12, by rw [show 8 * (j + 1) = i + 8 by have := Hi.out; omega]; go_num, rfl, rfl, by omega, hbr, ho9, ho12, fun b q r => hap12 b r q⟩
      case measure => simp [intOf]; omega
    have hjl : j = leafCount ls := by unfold leafCount at *; have := Hl.out; omega
    subst hjl
    obtain ⟨w1, hw1⟩ : ∃ w1 : World, w1 = wr := ⟨_, rfl⟩
    subst hw1
    have h1 := h.below hbr
    have h1' := h'.below hbr
    obtain ⟨lv, hlv⟩ : ∃ lv, leavesN ls (leafCount ls) = lv := ⟨_, rfl⟩
    obtain ⟨ix, hix⟩ : ∃ ix, indexN ls (leafCount ls) = ix := ⟨_, rfl⟩
    rw [hlv] at ho2
    rw [hix] at ho3
    have Hlv := Lib.hid hlv
    have Hix := Lib.hid hix
    have hbw := hb0.trans (hbr.mono hb0.size)
    clear hl2 hl3 hlc hlv hix hj hi
    go_wp2
    go_loopw [10, 77] (UsersRel w1 w1.heap.size ls n) (fun _ q _ => n - (intOf q).toNat)
    case atStart => exact ⟨0, none, 0, 0, rfl, rfl, Nat.zero_le _, Below.refl _ _, OwnL.nil _ _ _ _ _⟩
    case round =>
      obtain ⟨j, A4, n4, c4, rfl, rfl, hj, hbr1, ho4⟩ := hrel
      by_cases hlt1 : j < n
      case pos =>
        have hr : SlR wr (fun b => b < w1.heap.size) A n c ls := h1.move fun b hl _ => ⟨hbr1.block b hl, hl⟩
        obtain ⟨b, o, x, cs, rfl, hx, ⟨v, v', rfl, hk', hv⟩, hcell⟩ := hr.get hlt1
        obtain ⟨A5, n5, c5, rfl, s5, l5⟩ := hk'
        obtain ⟨A6, n6, c6, rfl, s6, _⟩ := hv
        obtain ⟨hjl, rfl⟩ := List.getElem?_eq_some_iff.1 hx
        have d0 : wr.cell? ⟨b, o + j * 4, none⟩ = some (.slice A5 n5 c5) := hcell 0 _ rfl
        have d1 : wr.cell? ⟨b, o + j * 4 + 1, none⟩ = some (.int .u64 (ls[j].key.seq.toNat : Int)) := hcell 1 _ rfl
        have d2 : wr.cell? ⟨b, o + j * 4 + 2, none⟩ = some (.int .u8 (ls[j].key.kind.toNat : Int)) := hcell 2 _ rfl
        have d3 : wr.cell? ⟨b, o + j * 4 + 3, none⟩ = some (.slice A6 n6 c6) := hcell 3 _ rfl
        have hst := users_snoc ls j hjl
        have hn4 : n4 ≤ 1000 := by have h2 := ho4.lenR; unfold usersL at h2; rw [List.length_map, List.length_take] at h2; omega
        clear hr hcell hx s6
        generalize ls[j].key.seq.toNat = ks at *
        generalize ls[j].key.kind.toNat = kd at *
        generalize ls[j].key.user = us at *
        have al := (Below.refl wr.heap.size wr).alloc (Nat.le_refl _) (.cells #[.slice A5 n5 c5, .int .u64 (ks : Int), .int .u8 (kd : Int), .slice A6 n6 c6] 69)
        have kB := Bx4.fresh wr (.slice A5 n5 c5) (.int .u64 (ks : Int)) (.int .u8 (kd : Int)) (.slice A6 n6 c6) 69
        have s5 := s5.below (by omega) al
        have ho4 := ho4.below al
        have hbr1 := hbr1.trans (al.mono hbr1.size)
        generalize hW : (wr.alloc (.cells #[.slice A5 n5 c5, .int .u64 (ks : Int), .int .u8 (kd : Int), .slice A6 n6 c6] 69)) = w3 at *
        have hrow := userRow w3 w1.heap.size A5 n5 c5 us s5 l5 29
        have al2 := (Below.refl w3.heap.size w3).alloc (Nat.le_refl _) (.cells #[.slice A5 n5 c5] 29)
        have ho4 := ho4.below al2
        have hbr1 := hbr1.trans (al2.mono hbr1.size)
        have Hst := Lib.hid hst
        clear hst al al2 s5 l5
        obtain ⟨x0, x1, x2, x3, x4⟩ := id kB
        go_wp2_with (at_builtin; (try rw [hW]); refine wpList_appL (α := List UInt8) _ rfl (.tmp 81) (.tmp 85) 78 rfl w1.heap.size w1.heap.size 29 _ 24 Tryz.underlying78 infoP rfl A4 n4 c4 _ rfl ho4 _ 1 1 [us] rfl hrow ?_ ?_ ?_ (Nat.le_refl _) ?_)
        · unfold maxLen; omega
        · omega
        · have := hbr1.size; rw [World.size_alloc] at this; omega
        intro A9 c9 w9 ho9 hg9 _
        have hbr9 := hbr1.grown hg9 hbr1.size (fun b hb => (ho4.lt b hb).1)
        rw [← Hst.out] at ho9
        clear x0 x1 x2 x3 x4 kB hrow ho4 hg9 d0 d1 d2 d3
        go_wp2
        go_roundw
        case rel => exact ⟨j + 1, A9, _, c9, by go_num, rfl, by omega, hbr9, ho9⟩
        case measure => simp [intOf]; omega
      obtain rfl : n = j := by omega
      rw [List.take_of_length_le (by have := Hl.out; omega)] at ho4
      obtain ⟨w2, hw2⟩ : ∃ w2 : World, w2 = wr := ⟨_, rfl⟩
      subst hw2
      have h2' := h1'.below hbr1
      have ho2 := Own.below ho2 hbr1
      have ho3 := Own.below ho3 hbr1
      have hbr := hbr.trans (hbr1.mono hbr.size)
      have hbw := hbw.trans (hbr1.mono hbw.size)
      clear h h' h1 h1' hbr1 hlt hlt1
      go_wp2
      go_loopw [9, 90] (RangesRel w2 sp n') (fun _ q _ => n' - (intOf q).toNat)
      case atStart => exact ⟨0, none, 0, 0, rfl, rfl, Nat.zero_le _, Below.refl _ _, Own.nil _ _ _ _ _⟩
      case round =>
        obtain ⟨j, A5, n5, c5, rfl, rfl, hj2, hbr2, ho5⟩ := hrel
        have hrl := ranges_len (sp := sp.take j) fun s hs => C6.out s (List.mem_of_mem_take hs)
        rw [List.length_take] at hrl
        have hn5 : n5 ≤ 160000 := by have := OwnB.len' ho5; omega
        by_cases hlt2 : j < n'
        case pos =>
          obtain ⟨b, o, A6, n6, c6, A7, n7, c7, hjl, rfl, d0, d1, d2, s6, l6, s7, l7⟩ := (show SlR wr (fun b => b < w2.heap.size) A' n' c' sp from (h2'.mono (q := fun _ => True) fun _ _ _ => trivial).move fun b hl _ => ⟨hbr2.block b hl, hl⟩).spanAt hlt2
          have hst := ranges_snoc sp j hjl
          have hxz := checkSpan_zero (C6.out sp[j] (List.getElem_mem hjl))
          generalize sp[j] = x at *
          have hst2 : rangesL (sp.take (j + 1)) = rangesL (sp.take j) ++ textL x.lo ++ textL x.hi ++ numL x.seq.toNat := by rw [hst]; simp [rangeL]
          have hn6 : n6 ≤ 64 := by have := s6.lenb; omega
          have hn7 : n7 ≤ 64 := by have := s7.lenb; omega
          have t6 : (textL x.lo).length ≤ 100 := by have := num_len x.lo.length; unfold textL; rw [List.length_append]; omega
          have t7 : (textL x.hi).length ≤ 100 := by have := num_len x.hi.length; unfold textL; rw [List.length_append]; omega
          have t8 := num_len x.seq.toNat
          have hsl2 : x.seq.toNat < 18446744073709551616 := by omega
          have ct6 := fun w' A n c (h : Sl w' 1 A n c (bc x.lo)) hn => rtext_any w' A n c x.lo h hn
          have ct7 := fun w' A n c (h : Sl w' 1 A n c (bc x.hi)) hn => rtext_any w' A n c x.hi h hn
          have cn := fun w' => rnum_any x.seq.toNat w' hsl2
          generalize numL x.seq.toNat = tn at *
          generalize x.seq.toNat = s at *
          generalize textL x.lo = tl at *
          generalize textL x.hi = th at *
          generalize rangesL (sp.take j) = rj at *
          have al := (Below.refl wr.heap.size wr).alloc (Nat.le_refl _) (.cells #[.slice A6 n6 c6, .slice A7 n7 c7, .int .u64 (s : Int)] 72)
          have kB := Bx.fresh wr (.slice A6 n6 c6) (.slice A7 n7 c7) (.int .u64 (s : Int)) 72
          have hne : blk A5 c5 ≠ some wr.heap.size := fun q => by have := (Own.lt ho5 _ q).2; omega
          have s6 := s6.below (by omega) al
          have s7 := s7.below (by omega) al
          have ho5 := Own.below ho5 al
          have hq := hbr2.trans (al.mono hbr2.size)
          generalize hW : (wr.alloc (.cells #[.slice A6 n6 c6, .slice A7 n7 c7, .int .u64 (s : Int)] 72)) = w3 at *
          have Hst := Lib.hid hst2
          have Ct6 := Lib.hid ct6
          have Ct7 := Lib.hid ct7
          have Cn := Lib.hid cn
          have hl5 := OwnB.len' ho5
          have Hl5 := Lib.hid hl5
          obtain ⟨x0, x1, x2, x3⟩ := id kB
          clear hst hst2 al ct6 ct7 cn hxz hsl2 hrl hl5
          go_wp2_with fail
          try rw [hW]
          clear x0 x1 x2 x3 d0 d1 d2 hW
          have bd := (Below.refl w3.heap.size w3).drew
          have hX := kB.drew
          have s6 := s6.drew
          have s7 := s7.drew
          have ho5 := Own.below ho5 bd
          have hq := hq.drew
          clear bd kB
          generalize hW8 : w3.drew = w4 at *
          refine regionF (fun _ wa wb => Bx wa wr.heap.size (.slice A6 n6 c6) (.slice A7 n7 c7) (.int .u64 (s : Int)) → Bx wb wr.heap.size (.slice A6 n6 c6) (.slice A7 n7 c7) (.int .u64 (s : Int))) (by kernel_rfl) ?_
          rw [hW8]
          clear hW8
          have hoR := ho5
          clear ho5
          refine takeT (i := 0) (v := ?_) rfl ?hy ?_
          case hy => intro wS; go_simp; try with_reducible rfl
          refine takeT (i := 1) (v := ?_) rfl ?hy ?_
          case hy => intro wS; go_simp; try with_reducible rfl
          refine takeP (i := 2) (v := ?_) rfl hX ?hy ?_
          case hy =>
            intro wS hSw
            obtain ⟨x0, x1, x2, x3⟩ := id hSw
            clear hSw
            go_simp
            try with_reducible rfl
          refine takeT (i := 5) (v := ?_) rfl ?hy ?_
          case hy => intro wS; go_simp; try with_reducible rfl
          refine takeP (i := 6) (v := ?_) rfl hX ?hy ?_
          case hy =>
            intro wS hSw
            obtain ⟨x0, x1, x2, x3⟩ := id hSw
            clear hSw
            go_simp
            try with_reducible rfl
          refine takeT (i := 9) (v := ?_) rfl ?hy ?_
          case hy => intro wS; go_simp; try with_reducible rfl
          refine takeP (i := 10) (v := ?_) rfl hX ?hy ?_
          case hy =>
            intro wS hSw
            obtain ⟨x0, x1, x2, x3⟩ := id hSw
            clear hSw
            go_simp
            try with_reducible rfl
          try simp only [List.getElem_toArray, List.getElem_cons_succ, List.getElem_cons_zero, Act.put, List.setIfInBounds_toArray, List.set_cons_zero, List.set_cons_succ]
          refine readyF (rs := [3]) (by kernel_rfl) (by simp) ?_
          refine AllF.cons rfl (fun K hK => ?_) AllF.nil
          go_simp
          refine (Ct6.out w4 A6 n6 c6 s6 (by omega)).mono ?_
          rintro e w4_3 ⟨A8, n8, c8, rfl, ho8, hb⟩
          refine hK _ _ (fun h => h.below hb) ?_
          clear hK K
          have hX := hX.below hb
          have hl8 := OwnB.len' ho8
          have hn8 : n8 ≤ 100 := by omega
          clear hl8
          have s7 := s7.below (by omega) hb
          clear s6
          have hoR := Own.below hoR hb
          have hq := hq.trans (hb.mono hq.size)
          have sx := OwnB.sl ho8
          clear ho8 hb
          refine readyF (rs := [4]) (by kernel_rfl) (by simp) ?_
          refine AllF.cons rfl (fun K hK => ?_) AllF.nil
          refine step_appB (by rfl) (.tmp 94) (.tmp 97) (by rfl) w2.heap.size A5 n5 c5 _ (by rfl) hoR A8 n8 c8 _ (by rfl) sx (by omega) hq.size ?_
          intro A9 c9 w4_3_4 hoN hg hx
          refine hK _ _ (fun h => h.grownO hg hne) ?_
          clear hK K
          have hlt := hX.lt
          have hX := hX.grownO hg hne
          have s7 := s7.grown (by omega) hg (fun hn b hb q => by have := l7 b hn hb; have := (Own.lt hoR b q).1; omega)
          have hq := hq.grown hg hq.size (fun b hb => (Own.lt hoR b hb).1)
          have hne := ne_new hne hx hlt
          have hoR := hoN
          clear hoN hg hx sx hlt
          refine readyF (rs := [7]) (by kernel_rfl) (by simp) ?_
          refine AllF.cons rfl (fun K hK => ?_) AllF.nil
          go_simp
          refine (Ct7.out w4_3_4 A7 n7 c7 s7 (by omega)).mono ?_
          rintro e w4_3_4_7 ⟨A10, n10, c10, rfl, ho10, hb⟩
          refine hK _ _ (fun h => h.below hb) ?_
          clear hK K
          have hX := hX.below hb
          have hl10 := OwnB.len' ho10
          have hn10 : n10 ≤ 100 := by omega
          clear hl10
          clear s7
          have hoR := Own.below hoR hb
          have hq := hq.trans (hb.mono hq.size)
          have sx := OwnB.sl ho10
          clear ho10 hb
          refine readyF (rs := [8]) (by kernel_rfl) (by simp) ?_
          refine AllF.cons rfl (fun K hK => ?_) AllF.nil
          refine step_appB (by rfl) (.tmp 98) (.tmp 101) (by rfl) w2.heap.size A9 (n5 + n8) c9 _ (by rfl) hoR A10 n10 c10 _ (by rfl) sx (by omega) hq.size ?_
          intro A11 c11 w4_3_4_7_8 hoN hg hx
          refine hK _ _ (fun h => h.grownO hg hne) ?_
          clear hK K
          have hlt := hX.lt
          have hX := hX.grownO hg hne
          have hq := hq.grown hg hq.size (fun b hb => (Own.lt hoR b hb).1)
          have hne := ne_new hne hx hlt
          have hoR := hoN
          clear hoN hg hx sx hlt
          refine readyF (rs := [11]) (by kernel_rfl) (by simp) ?_
          refine AllF.cons rfl (fun K hK => ?_) AllF.nil
          go_simp
          refine (Cn.out w4_3_4_7_8).mono ?_
          rintro e w4_3_4_7_8_11 ⟨A12, n12, c12, rfl, ho12, hb⟩
          refine hK _ _ (fun h => h.below hb) ?_
          clear hK K
          have hX := hX.below hb
          have hl12 := OwnB.len' ho12
          have hn12 : n12 ≤ 100 := by omega
          clear hl12
          have hoR := Own.below hoR hb
          have hq := hq.trans (hb.mono hq.size)
          have sx := OwnB.sl ho12
          clear ho12 hb
          refine readyF (rs := [12]) (by kernel_rfl) (by simp) ?_
          refine AllF.cons rfl (fun K hK => ?_) AllF.nil
          refine step_appB (by rfl) (.tmp 102) (.tmp 105) (by rfl) w2.heap.size A11 (n5 + n8 + n10) c11 _ (by rfl) hoR A12 n12 c12 _ (by rfl) sx (by omega) hq.size ?_
          intro A13 c13 w4_3_4_7_8_11_12 hoN hg hx
          refine hK _ _ (fun h => h.grownO hg hne) ?_
          clear hK K
          have hlt := hX.lt
          have hX := hX.grownO hg hne
          have hq := hq.grown hg hq.size (fun b hb => (Own.lt hoR b hb).1)
          have hne := ne_new hne hx hlt
          have hoR := hoN
          clear hoN hg hx sx hlt
          refine takeT (i := 13) (v := ?_) rfl ?hy ?_
          case hy => intro wS; go_simp; try with_reducible rfl
          try simp only [List.getElem_toArray, List.getElem_cons_succ, List.getElem_cons_zero, Act.put, List.setIfInBounds_toArray, List.set_cons_zero, List.set_cons_succ]
          refine doneF (by kernel_rfl) ?_ _
          try simp only [List.getElem_toArray, List.getElem_cons_succ, List.getElem_cons_zero, Act.put, List.setIfInBounds_toArray, List.set_cons_zero, List.set_cons_succ]
          go_wp2
          go_roundw
          case rel => exact ⟨j + 1, A13, _, c13, by go_num, rfl, by omega, hq, by rw [Hst.out]; simpa only [List.append_assoc] using hoR⟩
          case measure => simp [intOf]; omega
        obtain rfl : n' = j := by omega
        rw [List.take_of_length_le (by have := Hl'.out; omega)] at ho5
        have ho2 := Own.below ho2 hbr2
        have ho3 := Own.below ho3 hbr2
        have ho4 := ho4.below hbr2
        have hbw := hbw.trans (hbr2.mono hbw.size)
        have hBr : w0.heap.size ≤ wr.heap.size := Nat.le_trans hbr.size hbr2.size
        have hlx := ranges_len C6.out
        obtain ⟨rg, hrg⟩ : ∃ rg, rangesL sp = rg := ⟨_, rfl⟩
        rw [hrg] at ho5 hlx
        have hHlv := leaves_len C4.out (leafCount ls)
        have hHix := index_len C4.out (leafCount ls) (Nat.le_refl _)
        have hlc : leafCount ls ≤ 126 := by unfold leafCount; have := Hl.out; omega
        rw [Hlv.out] at hHlv
        rw [Hix.out] at hHix
        have hlv2 := OwnB.len' ho2
        have hix2 := OwnB.len' ho3
        have hrg2 := OwnB.len' ho5
        have hn2b : n2 ≤ 700000 := by omega
        have hn3b : n3 ≤ 20000 := by omega
        have hn5b : n5 ≤ 160000 := by have := Hl'.out; omega
        have hbl := build_len (usersL ls)
        have hul : (usersL ls).length = n := by unfold usersL; rw [List.length_map]; exact Hl.out
        have hn4b : n4 ≤ 1000 := by have := ho4.lenR; omega
        have hlong : ∀ key ∈ usersL ls, key.length ≤ 4398046511104 := fun key hk => by
          obtain ⟨e, he, rfl⟩ := List.mem_map.1 hk
          have := (checkKey_bounds (C4.out e he).1).2.2.1
          omega
        have hR : R1 = lv ++ closeL ix ++ closeL (buildL 10 (usersL ls)) ++ closeL rg ++ closeL (le4 lv.length ++ le4 (closeL ix).length ++ le4 (closeL (buildL 10 (usersL ls))).length ++ le4 (closeL rg).length ++ [26, 177, 229]) := by
          rw [← HR1.out, ← Hlv.out, ← Hix.out, ← hrg]
          simp [tabBytesL, partsL, footL]
        obtain ⟨us, hus⟩ : ∃ us, usersL ls = us := ⟨_, rfl⟩
        rw [hus] at hR ho4 hlong hbl hul
        rw [hlv2] at hR
        have H2 := Lib.hid hR
        have Hlong := Lib.hid hlong
        have cb : ∀ (w' : World), Below wr.heap.size wr w' → Calls Tryz.prog 54 #[.int .i64 10, .slice A4 n4 c4] w' (NewB w' (buildL 10 us)) := fun w' hb => by
          obtain ⟨vs, hs, hp⟩ := (ho4.below hb).parts
          exact rbuild_any w' 10 _ _ _ vs us hs hp Hlong.out (by omega)
        generalize buildL 10 us = bf at *
        have hcl1 := closeL_len ix
        have hcl2 := closeL_len bf
        have hcl3 := closeL_len rg
        have c1 := fun w' A n c (h : Sl w' 1 A n c (bc ix)) hn => rclose_any w' A n c ix h hn
        have c2 := fun w' A n c (h : Sl w' 1 A n c (bc bf)) hn => rclose_any w' A n c bf h hn
        have c3 := fun w' A n c (h : Sl w' 1 A n c (bc rg)) hn => rclose_any w' A n c rg h hn
        generalize closeL ix = xa at *
        generalize closeL bf = xb at *
        generalize closeL rg = xc at *
        have hxa : xa.length ≤ 21000 := by omega
        have hbfl : bf.length ≤ 3000 := by omega
        have hxb : xb.length ≤ 3000 := by omega
        have hxc : xc.length ≤ 161000 := by omega
        have Cb := Lib.hid cb
        have Cc1 := Lib.hid c1
        have Cc2 := Lib.hid c2
        have Cc3 := Lib.hid c3
        have hZ := Below.refl wr.heap.size wr
        clear cb c1 c2 c3 hR hlong hlx hrg hHlv hHix hlc hlv2 hix2 hrg2 hbl hul hus hcl1 hcl2 hcl3 hlt2 hj2 hbr2
        go_wp2_with fail
        refine (Cc1.out wr A3 n3 c3 (OwnB.sl ho3) (by omega)).mono ?_
        rintro e w4 ⟨A6, n6, c6, rfl, ho6, hb⟩
        have hlr := fun (b : Nat) q => (Own.lt ho2 b q).2
        have hZ := hZ.trans (hb.mono hZ.size)
        have hZ4 := hZ.size
        have hn6 := OwnB.len' ho6
        have s5 := (OwnB.sl ho5).below (by omega) hb
        have ho2 := Own.below ho2 hb
        clear hb ho3 Cc1 ho5
        go_wp2_with fail
        refine (Cb.out w4 hZ).mono ?_
        rintro e w5 ⟨A7, n7, c7, rfl, ho7, hb⟩
        have hZ := hZ.trans (hb.mono hZ.size)
        have hZ5 := hZ.size
        have hn7 : n7 ≤ 3000 := by have := OwnB.len' ho7; omega
        have s5 := s5.below (by omega) hb
        have ho2 := Own.below ho2 hb
        have ho6 := Own.below ho6 hb
        clear hb Cb ho4
        go_wp2_with fail
        refine (Cc2.out w5 A7 n7 c7 (OwnB.sl ho7) (by omega)).mono ?_
        rintro e w6 ⟨A8, n8, c8, rfl, ho8, hb⟩
        have hZ := hZ.trans (hb.mono hZ.size)
        have hZ6 := hZ.size
        have hn8 := OwnB.len' ho8
        have s5 := s5.below (by omega) hb
        have ho2 := Own.below ho2 hb
        have ho6 := Own.below ho6 hb
        clear hb Cc2 ho7
        go_wp2_with fail
        refine (Cc3.out w6 A5 n5 c5 s5 (by omega)).mono ?_
        rintro e w7 ⟨A9, n9, c9, rfl, ho9, hb⟩
        have hZ := hZ.trans (hb.mono hZ.size)
        have hn9 := OwnB.len' ho9
        have ho2 := Own.below ho2 hb
        have s6 := (OwnB.sl ho6).below (by omega) hb
        have s8 := (OwnB.sl ho8).below (by omega) hb
        have s9 := OwnB.sl ho9
        have hz4 : wr.heap.size ≤ w4.heap.size := hZ4
        have hz5 : wr.heap.size ≤ w5.heap.size := hZ5
        have hz6 : wr.heap.size ≤ w6.heap.size := hZ6
        have u6 := fun (b : Nat) (hn : 0 < n6) q => own_at (b := b) ho6 hn q
        have u8 := fun (b : Nat) (hn : 0 < n8) q => Nat.le_trans hz5 (own_at (b := b) ho8 hn q)
        have u9 := fun (b : Nat) (hn : 0 < n9) q => Nat.le_trans hz6 (own_at (b := b) ho9 hn q)
        have m6 := s6.lt (by omega)
        have m8 := s8.lt (by omega)
        have m9 := s9.lt (by omega)
        have hl2 := fun (b : Nat) q => (Own.lt ho2 b q).2
        have hn6l : n6 ≤ 21000 := by omega
        have hn8l : n8 ≤ 3000 := by omega
        have hn9l : n9 ≤ 161000 := by omega
        clear hb Cc3 ho6 ho8 ho9 s5
        have H6 := Lib.hid hn6
        have H8 := Lib.hid hn8
        have H9 := Lib.hid hn9
        clear hn6 hn8 hn9 hxa hxb hxc
        have hZ7 := hZ.size
        go_wp2_with fail
        refine (four_any w7 n2 (by omega)).mono ?_
        rintro e w8 ⟨A10, n10, c10, rfl, ho10, hb⟩
        have hZ := hZ.trans (hb.mono hZ.size)
        have ho2 := Own.below ho2 hb
        have s6 := s6.below (by omega) hb
        have s8 := s8.below (by omega) hb
        have s9 := s9.below (by omega) hb
        obtain rfl : 4 = n10 := OwnB.len' ho10
        have hF7 := hb
        have hoF := ho10
        clear hb ho10
        go_wp2_with fail
        refine (four_any w8 n6 (by omega)).mono ?_
        rintro e w9 ⟨A11, n11, c11, rfl, ho11, hb⟩
        have hZ := hZ.trans (hb.mono hZ.size)
        have ho2 := Own.below ho2 hb
        have s6 := s6.below (by omega) hb
        have s8 := s8.below (by omega) hb
        have s9 := s9.below (by omega) hb
        obtain rfl : 4 = n11 := OwnB.len' ho11
        have hoF := Own.below hoF hb
        have hF7 := hF7.trans (hb.mono hF7.size)
        clear hb
        have sx := OwnB.sl ho11
        clear ho11
        go_wp2_with (at_builtin; refine wpList_appB _ rfl (.tmp 117) (.tmp 120) rfl w7.heap.size A10 4 c10 _ rfl hoF A11 4 c11 _ rfl sx ?_ ?_ ?_)
        · omega
        · exact hF7.size
        intro AF1 cF1 wa hoN hg _
        have hlF := fun (b : Nat) hb => (Own.lt hoF b hb).1
        have hF7 := hF7.grown hg hF7.size hlF
        have hZ := hZ.grown hg hZ.size (fun b hb => Nat.le_trans hZ7 (hlF b hb))
        have ho2 := Own.grown ho2 hg (fun b hb q => by have := hlF b q; have := hl2 b hb; omega)
        have s6 := s6.grown (by omega) hg (fun hn b hb q => by have := hlF b q; have := m6 hn b hb; omega)
        have s8 := s8.grown (by omega) hg (fun hn b hb q => by have := hlF b q; have := m8 hn b hb; omega)
        have s9 := s9.grown (by omega) hg (fun hn b hb q => by have := hlF b q; have := m9 hn b hb; omega)
        have hoF := hoN
        clear hoN hg hlF
        clear sx
        go_wp2_with fail
        refine (four_any wa n8 (by omega)).mono ?_
        rintro e wb ⟨A12, n12, c12, rfl, ho12, hb⟩
        have hZ := hZ.trans (hb.mono hZ.size)
        have ho2 := Own.below ho2 hb
        have s6 := s6.below (by omega) hb
        have s8 := s8.below (by omega) hb
        have s9 := s9.below (by omega) hb
        obtain rfl : 4 = n12 := OwnB.len' ho12
        have hoF := Own.below hoF hb
        have hF7 := hF7.trans (hb.mono hF7.size)
        clear hb
        have sx := OwnB.sl ho12
        clear ho12
        go_wp2_with (at_builtin; refine wpList_appB _ rfl (.tmp 121) (.tmp 124) rfl w7.heap.size AF1 (4 + 4) cF1 _ rfl hoF A12 4 c12 _ rfl sx ?_ ?_ ?_)
        · omega
        · exact hF7.size
        intro AF2 cF2 wc hoN hg _
        have hlF := fun (b : Nat) hb => (Own.lt hoF b hb).1
        have hF7 := hF7.grown hg hF7.size hlF
        have hZ := hZ.grown hg hZ.size (fun b hb => Nat.le_trans hZ7 (hlF b hb))
        have ho2 := Own.grown ho2 hg (fun b hb q => by have := hlF b q; have := hl2 b hb; omega)
        have s6 := s6.grown (by omega) hg (fun hn b hb q => by have := hlF b q; have := m6 hn b hb; omega)
        have s8 := s8.grown (by omega) hg (fun hn b hb q => by have := hlF b q; have := m8 hn b hb; omega)
        have s9 := s9.grown (by omega) hg (fun hn b hb q => by have := hlF b q; have := m9 hn b hb; omega)
        have hoF := hoN
        clear hoN hg hlF
        clear sx
        go_wp2_with fail
        refine (four_any wc n9 (by omega)).mono ?_
        rintro e wd ⟨A13, n13, c13, rfl, ho13, hb⟩
        have hZ := hZ.trans (hb.mono hZ.size)
        have ho2 := Own.below ho2 hb
        have s6 := s6.below (by omega) hb
        have s8 := s8.below (by omega) hb
        have s9 := s9.below (by omega) hb
        obtain rfl : 4 = n13 := OwnB.len' ho13
        have hoF := Own.below hoF hb
        have hF7 := hF7.trans (hb.mono hF7.size)
        clear hb
        have sx := OwnB.sl ho13
        clear ho13
        go_wp2_with (at_builtin; refine wpList_appB _ rfl (.tmp 125) (.tmp 128) rfl w7.heap.size AF2 (4 + 4 + 4) cF2 _ rfl hoF A13 4 c13 _ rfl sx ?_ ?_ ?_)
        · omega
        · exact hF7.size
        intro AF3 cF3 we hoN hg _
        have hlF := fun (b : Nat) hb => (Own.lt hoF b hb).1
        have hF7 := hF7.grown hg hF7.size hlF
        have hZ := hZ.grown hg hZ.size (fun b hb => Nat.le_trans hZ7 (hlF b hb))
        have ho2 := Own.grown ho2 hg (fun b hb q => by have := hlF b q; have := hl2 b hb; omega)
        have s6 := s6.grown (by omega) hg (fun hn b hb q => by have := hlF b q; have := m6 hn b hb; omega)
        have s8 := s8.grown (by omega) hg (fun hn b hb q => by have := hlF b q; have := m8 hn b hb; omega)
        have s9 := s9.grown (by omega) hg (fun hn b hb q => by have := hlF b q; have := m9 hn b hb; omega)
        have hoF := hoN
        clear hoN hg hlF
        clear sx
        have hlit : Sl (we.alloc (.cells #[.int .u8 26, .int .u8 177, .int .u8 229] 5)) 1 (some ⟨we.heap.size, 0, none⟩) 3 3 (bc [26, 177, 229]) := Sl.lit we _ _ 3 _ _ rfl (by unfold maxLen; omega) rfl
        have hb := (Below.refl we.heap.size we).alloc (Nat.le_refl _) (.cells #[.int .u8 26, .int .u8 177, .int .u8 229] 5)
        have hZ := hZ.trans (hb.mono hZ.size)
        have ho2 := Own.below ho2 hb
        have hoF := Own.below hoF hb
        have hF7 := hF7.trans (hb.mono hF7.size)
        have s6 := s6.below (by omega) hb
        have s8 := s8.below (by omega) hb
        have s9 := s9.below (by omega) hb
        generalize hWE : (we.alloc (.cells #[.int .u8 26, .int .u8 177, .int .u8 229] 5)) = wf at *
        clear hb
        go_wp2_with (at_builtin; (try rw [hWE]); refine wpList_appB _ rfl (.tmp 130) (.tmp 131) rfl w7.heap.size AF3 (4 + 4 + 4 + 4) cF3 _ rfl hoF _ 3 3 _ rfl hlit ?_ ?_ ?_)
        · omega
        · exact hF7.size
        intro AF4 cF4 wg hoN hg _
        have hlF := fun (b : Nat) hb => (Own.lt hoF b hb).1
        have hF7 := hF7.grown hg hF7.size hlF
        have hZ := hZ.grown hg hZ.size (fun b hb => Nat.le_trans hZ7 (hlF b hb))
        have ho2 := Own.grown ho2 hg (fun b hb q => by have := hlF b q; have := hl2 b hb; omega)
        have s6 := s6.grown (by omega) hg (fun hn b hb q => by have := hlF b q; have := m6 hn b hb; omega)
        have s8 := s8.grown (by omega) hg (fun hn b hb q => by have := hlF b q; have := m8 hn b hb; omega)
        have s9 := s9.grown (by omega) hg (fun hn b hb q => by have := hlF b q; have := m9 hn b hb; omega)
        have hoF := hoN
        clear hoN hg hlF
        clear hlit hWE
        have sF := OwnB.sl hoF
        clear hoF
        go_wp2_with fail
        refine (rclose_any wg AF4 _ cF4 _ sF (by omega)).mono ?_
        rintro e wh ⟨A14, n14, c14, rfl, ho14, hb⟩
        have hn14 := OwnB.len' ho14
        have hn14l : n14 ≤ 100 := by rw [closeL_len] at hn14; simp [le4] at hn14; omega
        have hZg := hZ.size
        have hZ := hZ.trans (hb.mono hZ.size)
        have ho2 := Own.below ho2 hb
        have u10 := fun (b : Nat) (hn : 0 < n14) q => Nat.le_trans hZg (own_at (b := b) ho14 hn q)
        have s10 := OwnB.sl ho14
        have m10 := s10.lt (by omega)
        have s6 := s6.below (by omega) hb
        have s8 := s8.below (by omega) hb
        have s9 := s9.below (by omega) hb
        have hwf := Nat.le_trans hF7.size hb.size
        have hrow0 : ∀ b, blk A2 c2 = some b → b < wr.heap.size ∨ wh.heap.size ≤ b := fun b q => .inl (hlr b q)
        clear hb ho14 sF hn14 hF7 hl2
        have hV9 : wh.heap.size ≤ wh.heap.size := Nat.le_refl _
        have hb0s : w.heap.size ≤ w0.heap.size := hb0.size
        have hBW := hbw.trans (hZ.mono hbw.size)
        have hB7 := Nat.le_trans hBr hZ.size
        go_wp2_with (at_builtin; refine wpList_appB _ rfl (.tmp 134) (.tmp 135) rfl w0.heap.size A2 n2 c2 _ rfl ho2 A6 n6 c6 _ rfl s6 ?_ ?_ ?_)
        · omega
        · exact hB7
        intro AL0 cL0 wl0 hoN hg hx
        have hBW := hBW.grown hg (Nat.le_trans hb0s hB7) (fun b hb => Nat.le_trans hb0s (Own.lt ho2 b hb).1)
        have hsz := hg.size
        have s8 := s8.grown (by omega) hg (fun hn b hb q => by have := u8 b hn hb; have := m8 hn b hb; have := hrow0 b q; omega)
        have s9 := s9.grown (by omega) hg (fun hn b hb q => by have := u9 b hn hb; have := m9 hn b hb; have := hrow0 b q; omega)
        have s10 := s10.grown (by omega) hg (fun hn b hb q => by have := u10 b hn hb; have := m10 hn b hb; have := hrow0 b q; omega)
        have hrow0 : ∀ b, blk AL0 cL0 = some b → b < wr.heap.size ∨ wh.heap.size ≤ b := fun b q => by
          rcases hx with e | e
          · exact hrow0 b (e ▸ q)
          · rw [e] at q
            have := Option.some.inj q
            omega
        have hV9 := Nat.le_trans hV9 hsz
        have hB7 := Nat.le_trans hB7 hsz
        have ho2 := hoN
        clear hoN hg hx hsz s6
        go_wp2_with (at_builtin; refine wpList_appB _ rfl (.tmp 136) (.tmp 137) rfl w0.heap.size AL0 (n2 + n6) cL0 _ rfl ho2 A8 n8 c8 _ rfl s8 ?_ ?_ ?_)
        · omega
        · exact hB7
        intro AL1 cL1 wl1 hoN hg hx
        have hBW := hBW.grown hg (Nat.le_trans hb0s hB7) (fun b hb => Nat.le_trans hb0s (Own.lt ho2 b hb).1)
        have hsz := hg.size
        have s9 := s9.grown (by omega) hg (fun hn b hb q => by have := u9 b hn hb; have := m9 hn b hb; have := hrow0 b q; omega)
        have s10 := s10.grown (by omega) hg (fun hn b hb q => by have := u10 b hn hb; have := m10 hn b hb; have := hrow0 b q; omega)
        have hrow0 : ∀ b, blk AL1 cL1 = some b → b < wr.heap.size ∨ wh.heap.size ≤ b := fun b q => by
          rcases hx with e | e
          · exact hrow0 b (e ▸ q)
          · rw [e] at q
            have := Option.some.inj q
            omega
        have hV9 := Nat.le_trans hV9 hsz
        have hB7 := Nat.le_trans hB7 hsz
        have ho2 := hoN
        clear hoN hg hx hsz s8
        go_wp2_with (at_builtin; refine wpList_appB _ rfl (.tmp 138) (.tmp 139) rfl w0.heap.size AL1 ((n2 + n6) + n8) cL1 _ rfl ho2 A9 n9 c9 _ rfl s9 ?_ ?_ ?_)
        · omega
        · exact hB7
        intro AL2 cL2 wl2 hoN hg hx
        have hBW := hBW.grown hg (Nat.le_trans hb0s hB7) (fun b hb => Nat.le_trans hb0s (Own.lt ho2 b hb).1)
        have hsz := hg.size
        have s10 := s10.grown (by omega) hg (fun hn b hb q => by have := u10 b hn hb; have := m10 hn b hb; have := hrow0 b q; omega)
        have hrow0 : ∀ b, blk AL2 cL2 = some b → b < wr.heap.size ∨ wh.heap.size ≤ b := fun b q => by
          rcases hx with e | e
          · exact hrow0 b (e ▸ q)
          · rw [e] at q
            have := Option.some.inj q
            omega
        have hV9 := Nat.le_trans hV9 hsz
        have hB7 := Nat.le_trans hB7 hsz
        have ho2 := hoN
        clear hoN hg hx hsz s9
        go_wp2_with (at_builtin; refine wpList_appB _ rfl (.tmp 140) (.tmp 141) rfl w0.heap.size AL2 (((n2 + n6) + n8) + n9) cL2 _ rfl ho2 A14 n14 c14 _ rfl s10 ?_ ?_ ?_)
        · omega
        · exact hB7
        intro AL3 cL3 wl3 hoN hg hx
        have hBW := hBW.grown hg (Nat.le_trans hb0s hB7) (fun b hb => Nat.le_trans hb0s (Own.lt ho2 b hb).1)
        have hsz := hg.size
        have hrow0 : ∀ b, blk AL3 cL3 = some b → b < wr.heap.size ∨ wh.heap.size ≤ b := fun b q => by
          rcases hx with e | e
          · exact hrow0 b (e ▸ q)
          · rw [e] at q
            have := Option.some.inj q
            omega
        have hV9 := Nat.le_trans hV9 hsz
        have hB7 := Nat.le_trans hB7 hsz
        have ho2 := hoN
        clear hoN hg hx hsz s10
        have hR : R1 = _ := H2.out
        rw [H6.out, H8.out, H9.out] at hR
        have ho2 : OwnB wl3 w0.heap.size AL3 (n2 + n6 + n8 + n9 + n14) cL3 R1 := by rw [hR]; simpa only [List.append_assoc] using ho2
        have Ho2 := Lib.hid (Own.mono ho2 hb0s)
        have HBW := Lib.hid hBW
        clear ho2 hBW hR
        go_wp2
        go_ret2
        exact ⟨_, _, _, rfl, Ho2.out, HBW.out⟩
end Go.Proofs.YtpffieogkfndaaaGreatDoor
