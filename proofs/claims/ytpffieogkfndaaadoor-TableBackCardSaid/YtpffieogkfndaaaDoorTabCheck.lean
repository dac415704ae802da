/-
  Whether entries and spans may be a table: the program's check and the reference's. (Printed by gentab1.py.) No condition.
-/
import Derived.Test.YtpffieogkfndaaaDoorLeafBuild
import Derived.Test.YtpffieogkfndaaaDoorLeafCheck
import Derived.Test.YtpffieogkfndaaaDoorSpanCheck
import Derived.Test.YtpffieogkfndaaaDoorJTabOpenP
namespace Go.Proofs.YtpffieogkfndaaaDoor
open Go.RowKit
set_option maxRecDepth 20000
set_option linter.unusedVariables false
set_option linter.unusedSimpArgs false
theorem entRow1 (w : World) (x : EntL) (s k : Nat) (hs : x.key.seq.toNat = s) (hk : x.key.kind.toNat = k) (A3 : Option Addr) (n3 c3 : Nat) (A4 : Option Addr) (n4 c4 : Nat) (s3 : Sl w 1 A3 n3 c3 (bc x.key.user)) (s4 : Sl w 1 A4 n4 c4 (bc x.value)) (e : TypeId) :
    SlR (w.alloc (.cells #[.slice A3 n3 c3, .int .u64 (s : Int), .int .u8 (k : Int), .slice A4 n4 c4] e)) (fun _ => True) (some ⟨w.heap.size, 0, none⟩) 1 1 [x] := by
  subst hs hk
  have al := (Below.refl w.heap.size w).alloc (Nat.le_refl _) (.cells #[.slice A3 n3 c3, .int .u64 (x.key.seq.toNat : Int), .int .u8 (x.key.kind.toNat : Int), .slice A4 n4 c4] e)
  exact ⟨_, ⟨rfl, Nat.le_refl _, by unfold maxLen; omega, fun _ => ⟨w.heap.size, 0, rfl, fun j u hu => by rw [cell_of_row _ _ _ _ _ _ (heap_alloc_new w _)]; simpa [u8v, u64v] using hu⟩⟩, RowC.single ⟨_, _, rfl, ⟨A3, n3, c3, rfl, s3.below (by omega) al, fun _ _ _ => trivial⟩, ⟨A4, n4, c4, rfl, s4.below (by omega) al, fun _ _ _ => trivial⟩⟩, fun _ _ _ => trivial⟩
theorem leaf_one (x : EntL) : checkLeafL [x] = checkEntL x := by
  by_cases h : checkEntL x = 0
  · simp [checkLeafL, firstErr, risesL, h]
  · simp [checkLeafL, firstErr, risesL, h]
theorem leafBE_two (ls : List EntL) : (leafBE ls).2 = checkLeafL ls := by
  unfold leafBE
  split
  · rename_i h; exact h.symm
  · rfl
set_option maxHeartbeats 16000000 in
theorem tcheck_any (w : World) (p : Nat → Prop) (A : Option Addr) (n c : Nat) (ls : List EntL) (h : SlR w p A n c ls) (p' : Nat → Prop) (A' : Option Addr) (n' c' : Nat) (sp : List SpanL) (h' : SlR w p' A' n' c' sp) :
    Calls Tryd.prog 24 #[.slice A n c, .slice A' n' c'] w fun e w' => e = .returned (.int .i64 (checkTabL ls sp : Nat)) ∧ Below w.heap.size w w' := by
  have hl := h.lenR
  have hl' := h'.lenR
  unfold checkTabL
  rw [hl, hl']
  have hcp := h.cap
  have hcp' := h'.cap
  unfold maxLen at hcp hcp'
  by_cases hn1 : 1000 < n
  case pos =>
    have d1 : decide ((1000 : Int) < (n : Int)) = true := decide_eq_true (by omega)
    rw [if_pos (.inl hn1)]
    clear hl hl' h h'
    go_enter Tryd.func24, Tryd.ntmps24
    go_wp2
    go_ret
    exact ⟨rfl, Below.refl _ _⟩
  have d1 : decide ((1000 : Int) < (n : Int)) = false := decide_eq_false (by omega)
  by_cases hn2 : 1000 < n'
  case pos =>
    have d2 : decide ((1000 : Int) < (n' : Int)) = true := decide_eq_true (by omega)
    rw [if_pos (.inr hn2)]
    clear hl hl' h h'
    go_enter Tryd.func24, Tryd.ntmps24
    go_wp2
    go_ret
    exact ⟨rfl, Below.refl _ _⟩
  have d2 : decide ((1000 : Int) < (n' : Int)) = false := decide_eq_false (by omega)
  rw [if_neg (by omega)]
  by_cases hz : n + n' = 0
  case pos =>
    obtain rfl : n = 0 := by omega
    obtain rfl : n' = 0 := by omega
    rw [if_pos rfl]
    clear hl hl' h h'
    go_enter Tryd.func24, Tryd.ntmps24
    go_wp2
    go_ret
    exact ⟨rfl, Below.refl _ _⟩
  rw [if_neg hz]
  have e0 : ((n : Int) + (n' : Int) == 0) = false := by simp; omega
  obtain ⟨r1, hr1⟩ : ∃ r1, firstErr checkEntL ls = r1 := ⟨_, rfl⟩
  obtain ⟨r, hr⟩ : ∃ r, risesL ls = r := ⟨_, rfl⟩
  obtain ⟨r3, hr3⟩ : ∃ r3, firstErr checkSpanL sp = r3 := ⟨_, rfl⟩
  obtain ⟨R, hR⟩ : ∃ R, (if r1 ≠ 0 then r1 else if r = true then r3 else 10) = R := ⟨_, rfl⟩
  rw [hr1, hr, hr3, hR]
  have Hl := Lib.hid hl
  have Hl' := Lib.hid hl'
  have Hr1 := Lib.hid hr1
  have Hr := Lib.hid hr
  have Hr3 := Lib.hid hr3
  have HR := Lib.hid hR
  clear hl hl' hr1 hr hr3 hR
  go_enter Tryd.func24, Tryd.ntmps24
  go_wp2
  go_loopw [31] (fun q wr => ∃ j : Nat, j ≤ n ∧ q = .int .i64 j ∧ Below w.heap.size w wr ∧ Hid (firstErr checkEntL (ls.drop j) = r1)) (fun q _ => n - (intOf q).toNat)
  case atStart => exact ⟨0, Nat.zero_le _, rfl, Below.refl _ _, Lib.hid Hr1.out⟩
  case round =>
    obtain ⟨j, hj, rfl, hbr, He⟩ := hrel
    by_cases hlt : j < n
    case pos =>
      obtain ⟨b, o, A3, n3, c3, A4, n4, c4, hjl, rfl, d0, d1, d2, d3, hs3, hs4⟩ := (h.below hbr).entAt hlt
      have hst : firstErr checkEntL (ls.drop j) = if checkEntL ls[j] ≠ 0 then checkEntL ls[j] else firstErr checkEntL (ls.drop (j + 1)) := by
        rw [List.drop_eq_getElem_cons hjl]
        rfl
      rw [He.out] at hst
      generalize ls[j] = x at *
      have hal := (Below.refl wr.heap.size wr).alloc (Nat.le_refl _) (.cells #[.slice A3 n3 c3, .int .u64 (x.key.seq.toNat : Int), .int .u8 (x.key.kind.toNat : Int), .slice A4 n4 c4] 45)
      have hrow := entRow1 (wr.alloc (.cells #[.slice A3 n3 c3, .int .u64 (x.key.seq.toNat : Int), .int .u8 (x.key.kind.toNat : Int), .slice A4 n4 c4] 45)) x _ _ rfl rfl A3 n3 c3 A4 n4 c4 (hs3.below (by omega) hal) (hs4.below (by omega) hal) 45
      have hcb := build12_any _ _ _ 1 1 [x] hrow
      have hck : checkLeafL [x] = checkEntL x := leaf_one x
      have kE := Bx4.fresh wr (.slice A3 n3 c3) (.int .u64 (x.key.seq.toNat : Int)) (.int .u8 (x.key.kind.toNat : Int)) (.slice A4 n4 c4) 45
      rw [leafBE_two, hck] at hcb
      unfold GotBE at hcb
      generalize checkEntL x = E at *
      generalize x.key.kind.toNat = d at *
      generalize x.key.seq.toNat = s at *
      have Hst := Lib.hid hst
      clear hst hs3 hs4 hck hrow
      have hbr := hbr.trans (hal.mono hbr.size)
      generalize hW : (wr.alloc (.cells #[.slice A3 n3 c3, .int .u64 (s : Int), .int .u8 (d : Int), .slice A4 n4 c4] 45)) = w1 at *
      have hal2 := (Below.refl w1.heap.size w1).alloc (Nat.le_refl _) (.cells #[.slice A3 n3 c3, .int .u64 (s : Int), .int .u8 (d : Int), .slice A4 n4 c4] 45)
      have hbr := hbr.trans (hal2.mono hbr.size)
      generalize hW2 : (w1.alloc (.cells #[.slice A3 n3 c3, .int .u64 (s : Int), .int .u8 (d : Int), .slice A4 n4 c4] 45)) = w2 at *
      have Hcb := Lib.hid hcb
      clear hcb hal hal2
      obtain ⟨x0, x1, x2, x3, x4⟩ := id kE
      go_wp2_with fail
      try rw [hW]
      try rw [hW2]
      refine Hcb.out.mono ?_
      rintro e' w3 ⟨A7, n7, c7, rfl, ho7, hb3⟩
      have hb4 := hbr.trans (hb3.mono hbr.size)
      clear x0 x1 x2 x3 x4 kE d0 d1 d2 d3 hb3 Hcb hW hW2
      by_cases he : E = 0
      case pos =>
        subst he
        go_wp2
        go_roundw
        case rel => exact ⟨j + 1, by omega, by go_num, hb4, Lib.hid (by rw [Hst.out]; simp)⟩
        case measure => simp [intOf]; omega
      have er : R = E := by
        have h2 : r1 = E := by rw [Hst.out, if_pos he]
        rw [← HR.out, h2, if_pos he]
      subst er
      have t1 : ((R : Int) == 0) = false := by simp; omega
      have t2 : ((R : Int) != 0) = true := by simp; omega
      go_wp2
      go_ret
      exact ⟨rfl, hb4⟩
    obtain rfl : n = j := by omega
    have e := He.out
    rw [List.drop_of_length_le (by have := Hl.out; omega)] at e
    obtain rfl : 0 = r1 := e
    have hR2 := HR.out
    simp only [ne_eq, not_true_eq_false, if_false] at hR2
    have h := h.below hbr
    have HR2 := Lib.hid hR2
    clear He hR2 HR hlt
    obtain ⟨wS, hwS⟩ : ∃ wS, wS = wr := ⟨_, rfl⟩
    have hS : Below w.heap.size w wS := by rw [hwS]; exact hbr
    have hSh : SlR wS p A n c ls := by rw [hwS]; exact h
    rw [← hwS]
    clear hwS hbr h Hr1
    go_wp2
    go_loopw [9] (fun q wr => ∃ j : Nat, 1 ≤ j ∧ (j ≤ n ∨ j = 1) ∧ q = .int .i64 j ∧ Below wS.heap.size wS wr ∧ Hid (risesL (ls.drop (j - 1)) = r)) (fun q _ => n - (intOf q).toNat)
    case atStart => exact ⟨1, Nat.le_refl _, .inr rfl, rfl, Below.refl _ _, Lib.hid (by rw [Nat.sub_self, List.drop_zero]; exact Hr.out)⟩
    case round =>
      obtain ⟨j, hj1, hj, rfl, hbS, Hc⟩ := hrel
      have hbr := hS.trans (hbS.mono hS.size)
      by_cases hlt : j < n
      case neg =>
        have e1 : r = true := by
          rw [← Hc.out]
          have hd : (ls.drop (j - 1)).length ≤ 1 := by rw [List.length_drop, Hl.out]; omega
          match hm : ls.drop (j - 1), hd with
          | [], _ => rfl
          | [_], _ => rfl
          | _ :: _ :: _, hd => simp at hd
        subst e1
        have er : r3 = R := by rw [← HR2.out]; rfl
        subst er
        clear HR2
        obtain ⟨wT, hwT⟩ : ∃ wT, wT = wr := ⟨_, rfl⟩
        have hT : Below w.heap.size w wT := by rw [hwT]; exact hbr
        rw [← hwT]
        clear hwT hbr hbS Hc
        go_wp2
        go_loopw [66] (fun q wr => ∃ j : Nat, j ≤ n' ∧ q = .int .i64 j ∧ Below wT.heap.size wT wr ∧ Hid (firstErr checkSpanL (sp.drop j) = r3)) (fun q _ => n' - (intOf q).toNat)
        case atStart => exact ⟨0, Nat.zero_le _, rfl, Below.refl _ _, Lib.hid Hr3.out⟩
        case round =>
          obtain ⟨j, hj3, rfl, hbU, He⟩ := hrel
          have hbr := hT.trans (hbU.mono hT.size)
          by_cases hlt3 : j < n'
          case neg =>
            obtain rfl : n' = j := by omega
            have e := He.out
            rw [List.drop_of_length_le (by have := Hl'.out; omega)] at e
            obtain rfl : 0 = r3 := e
            clear He
            go_wp2
            go_ret
            exact ⟨rfl, hbr⟩
          obtain ⟨b, o, A3, n3, c3, A4, n4, c4, hjl, rfl, d0, d1, d2, s3, _, s4, _⟩ := (h'.below hbr).spanAt hlt3
          have hst : firstErr checkSpanL (sp.drop j) = if checkSpanL sp[j] ≠ 0 then checkSpanL sp[j] else firstErr checkSpanL (sp.drop (j + 1)) := by
            rw [List.drop_eq_getElem_cons hjl]
            rfl
          rw [He.out] at hst
          have h4 : checkSpanL sp[j] ≠ 0 → checkSpanL sp[j] = 4 := fun q => by unfold checkSpanL at *; split at q <;> simp_all
          generalize sp[j] = x at *
          have al := (Below.refl wr.heap.size wr).alloc (Nat.le_refl _) (.cells #[.slice A3 n3 c3, .slice A4 n4 c4, .int .u64 (x.seq.toNat : Int)] 48)
          have ck := scheck_any (wr.alloc (.cells #[.slice A3 n3 c3, .slice A4 n4 c4, .int .u64 (x.seq.toNat : Int)] 48)) A3 n3 c3 A4 n4 c4 x (s3.below (by omega) al) (s4.below (by omega) al)
          have kB := Bx.fresh wr (.slice A3 n3 c3) (.slice A4 n4 c4) (.int .u64 (x.seq.toNat : Int)) 48
          generalize x.seq.toNat = s at *
          generalize checkSpanL x = e at *
          have hbU := hbU.trans (al.mono hbU.size)
          have hbr := hbr.trans (al.mono hbr.size)
          generalize hW : (wr.alloc (.cells #[.slice A3 n3 c3, .slice A4 n4 c4, .int .u64 (s : Int)] 48)) = w1 at *
          have Hst := Lib.hid hst
          have Ck := Lib.hid ck
          have H4 := Lib.hid h4
          clear hst ck al s3 s4 He h4
          obtain ⟨x0, x1, x2, x3⟩ := id kB
          go_wp2_with fail
          try rw [hW]
          refine Ck.out.mono ?_
          rintro e' w3 ⟨rfl, hb3⟩
          have hbU := hbU.trans (hb3.mono hbU.size)
          have hbr := hbr.trans (hb3.mono hbr.size)
          clear x0 x1 x2 x3 kB d0 d1 d2 hb3 Ck hW
          by_cases he : e = 0
          case pos =>
            subst he
            go_wp2
            go_roundw
            case rel => exact ⟨j + 1, by omega, by go_num, hbU, Lib.hid (by rw [Hst.out]; simp)⟩
            case measure => simp [intOf]; omega
          have t1 : ((e : Int) == 0) = false := by simp; omega
          have t2 : ((e : Int) != 0) = true := by simp; omega
          obtain rfl := H4.out he
          have er : r3 = 4 := by rw [Hst.out]; simp
          subst er
          go_wp2
          go_ret
          exact ⟨rfl, hbr⟩
      obtain ⟨q, hq⟩ : ∃ q, j = q + 1 := ⟨j - 1, by omega⟩
      have hqn : q < n := by omega
      have hw1 : IntKind.i64.wrap ((j : Int) - 1) = (q : Int) := by rw [IntKind.wrap_i64]; omega
      have hsw := hSh.below hbS
      obtain ⟨b, o, A3, n3, c3, A4, n4, c4, hql, rfl, d0, d1, d2, d3, g1, _⟩ := hsw.entAt hqn
      obtain ⟨b', o', A5, n5, c5, A6, n6, c6, hjl, hbo, f0, f1, f2, f3, g2, _⟩ := hsw.entAt hlt
      obtain ⟨rfl, rfl⟩ : b = b' ∧ o = o' := by simpa using hbo
      have d0 : (World.drew _).cell? _ = _ := d0
      have d1 : (World.drew _).cell? _ = _ := d1
      have d2 : (World.drew _).cell? _ = _ := d2
      have f0 : (World.drew _).cell? _ = _ := f0
      have f1 : (World.drew _).cell? _ = _ := f1
      have f2 : (World.drew _).cell? _ = _ := f2
      have g1 := g1.drew
      have g2 := g2.drew
      have hst : risesL (ls.drop q) = (lessKey ls[q].key ls[j].key && risesL (ls.drop j)) := by
        rw [List.drop_eq_getElem_cons hql]
        subst hq
        rw [List.drop_eq_getElem_cons hjl]
        rfl
      have hcc := Hc.out
      rw [show j - 1 = q by omega, hst] at hcc
      obtain ⟨lk, hlk⟩ : ∃ lk, lessKey ls[q].key ls[j].key = lk := ⟨_, rfl⟩
      rw [hlk] at hcc
      have Hst := Lib.hid hcc.symm
      have Hq := Lib.hid hq
      have hbr := below_drew hbr
      have hbS := below_drew hbS
      clear hst hcc hq hsw hbo Hc d3 f3
      generalize hW : World.drew _ = w0 at *
      have cm := fun w' (hb : Below w0.heap.size w0 w') => compare_any w' A3 n3 c3 ls[q].key (g1.below (by omega) hb) A5 n5 c5 ls[j].key (g2.below (by omega) hb)
      have hlk : decide (cmpKey ls[q].key ls[j].key < 0) = lk := by rw [cmpKey_less]; exact hlk
      generalize cmpKey ls[q].key ls[j].key = v at *
      have Hlk := Lib.hid hlk
      have Cm := Lib.hid cm
      clear cm hlk g1 g2
      generalize ls[q].key.seq.toNat = s1 at *
      generalize ls[q].key.kind.toNat = k1 at *
      generalize ls[j].key.seq.toNat = s2 at *
      generalize ls[j].key.kind.toNat = k2 at *
      go_wp2_with fail
      by_cases hv : v < 0
      case pos =>
        have hlk : lk = true := by rw [← Hlk.out]; exact decide_eq_true hv
        subst hlk
        have i1 : decide (0 ≤ v) = false := decide_eq_false (by omega)
        clear hv
        refine regionF (fun _ wa wb => Below w0.heap.size w0 wa → Below w0.heap.size w0 wb) (by kernel_rfl) ?_
        rw [hW]
        clear hW
        have hX := Below.refl w0.heap.size w0
        refine takeP (i := 0) (v := ?_) rfl hX ?hy ?_
        case hy =>
          intro wS hSw
          clear hSw
          go_simp
          try with_reducible rfl
        refine takeP (i := 1) (v := ?_) rfl hX ?hy ?_
        case hy =>
          intro wS hSw
          clear hSw
          go_simp
          try with_reducible rfl
        refine takeP (i := 2) (v := ?_) rfl hX ?hy ?_
        case hy =>
          intro wS hSw
          clear hSw
          go_simp
          try with_reducible rfl
        refine takeP (i := 3) (v := ?_) rfl hX ?hy ?_
        case hy =>
          intro wS hSw
          clear hSw
          go_simp
          try with_reducible rfl
        refine takeP (i := 4) (v := ?_) rfl hX ?hy ?_
        case hy =>
          intro wS hSw
          clear hSw
          go_simp
          try with_reducible rfl
        refine takeP (i := 5) (v := ?_) rfl hX ?hy ?_
        case hy =>
          intro wS hSw
          have d0 := stays hSw d0
          have d1 := stays hSw d1
          have d2 := stays hSw d2
          clear hSw
          go_simp
          try with_reducible rfl
        refine takeP (i := 6) (v := ?_) rfl hX ?hy ?_
        case hy =>
          intro wS hSw
          clear hSw
          go_simp
          try with_reducible rfl
        refine takeP (i := 7) (v := ?_) rfl hX ?hy ?_
        case hy =>
          intro wS hSw
          clear hSw
          go_simp
          try with_reducible rfl
        refine takeP (i := 8) (v := ?_) rfl hX ?hy ?_
        case hy =>
          intro wS hSw
          clear hSw
          go_simp
          try with_reducible rfl
        refine takeP (i := 9) (v := ?_) rfl hX ?hy ?_
        case hy =>
          intro wS hSw
          clear hSw
          go_simp
          try with_reducible rfl
        refine takeP (i := 10) (v := ?_) rfl hX ?hy ?_
        case hy =>
          intro wS hSw
          have f0 := stays hSw f0
          have f1 := stays hSw f1
          have f2 := stays hSw f2
          clear hSw
          go_simp
          try with_reducible rfl
        try simp only [List.getElem_toArray, List.getElem_cons_succ, List.getElem_cons_zero, Act.put, List.setIfInBounds_toArray, List.set_cons_zero, List.set_cons_succ]
        refine readyF (rs := [11]) (by kernel_rfl) (by simp) ?_
        refine AllF.cons rfl (fun K hK => ?_) AllF.nil
        go_simp
        refine (Cm.out _ hX).mono ?_
        rintro e w0_11 ⟨rfl, hb⟩
        refine hK _ _ (fun h => h.trans (hb.mono h.size)) ?_
        clear hK K
        have hX := hX.trans (hb.mono hX.size)
        clear hb
        refine takeP (i := 12) (v := ?_) rfl hX ?hy ?_
        case hy =>
          intro wS hSw
          clear hSw
          go_simp
          try with_reducible rfl
        try simp only [List.getElem_toArray, List.getElem_cons_succ, List.getElem_cons_zero, Act.put, List.setIfInBounds_toArray, List.set_cons_zero, List.set_cons_succ]
        refine doneF (by kernel_rfl) ?_ _
        try simp only [List.getElem_toArray, List.getElem_cons_succ, List.getElem_cons_zero, Act.put, List.setIfInBounds_toArray, List.set_cons_zero, List.set_cons_succ]
        go_wp2
        go_roundw
        case rel => exact ⟨j + 1, by omega, by omega, by go_num, hbS.trans (hX.mono hbS.size), Lib.hid (by rw [Hst.out, Nat.add_sub_cancel]; rfl)⟩
        case measure => simp [intOf]; omega
      have hlk : lk = false := by rw [← Hlk.out]; exact decide_eq_false hv
      subst hlk
      have hrr : r = false := Hst.out
      subst hrr
      have i1 : decide (0 ≤ v) = true := decide_eq_true (by omega)
      clear hv
      refine regionF (fun _ wa wb => Below w0.heap.size w0 wa → Below w0.heap.size w0 wb) (by kernel_rfl) ?_
      rw [hW]
      clear hW
      have hX := Below.refl w0.heap.size w0
      refine takeP (i := 0) (v := ?_) rfl hX ?hy ?_
      case hy =>
        intro wS hSw
        clear hSw
        go_simp
        try with_reducible rfl
      refine takeP (i := 1) (v := ?_) rfl hX ?hy ?_
      case hy =>
        intro wS hSw
        clear hSw
        go_simp
        try with_reducible rfl
      refine takeP (i := 2) (v := ?_) rfl hX ?hy ?_
      case hy =>
        intro wS hSw
        clear hSw
        go_simp
        try with_reducible rfl
      refine takeP (i := 3) (v := ?_) rfl hX ?hy ?_
      case hy =>
        intro wS hSw
        clear hSw
        go_simp
        try with_reducible rfl
      refine takeP (i := 4) (v := ?_) rfl hX ?hy ?_
      case hy =>
        intro wS hSw
        clear hSw
        go_simp
        try with_reducible rfl
      refine takeP (i := 5) (v := ?_) rfl hX ?hy ?_
      case hy =>
        intro wS hSw
        have d0 := stays hSw d0
        have d1 := stays hSw d1
        have d2 := stays hSw d2
        clear hSw
        go_simp
        try with_reducible rfl
      refine takeP (i := 6) (v := ?_) rfl hX ?hy ?_
      case hy =>
        intro wS hSw
        clear hSw
        go_simp
        try with_reducible rfl
      refine takeP (i := 7) (v := ?_) rfl hX ?hy ?_
      case hy =>
        intro wS hSw
        clear hSw
        go_simp
        try with_reducible rfl
      refine takeP (i := 8) (v := ?_) rfl hX ?hy ?_
      case hy =>
        intro wS hSw
        clear hSw
        go_simp
        try with_reducible rfl
      refine takeP (i := 9) (v := ?_) rfl hX ?hy ?_
      case hy =>
        intro wS hSw
        clear hSw
        go_simp
        try with_reducible rfl
      refine takeP (i := 10) (v := ?_) rfl hX ?hy ?_
      case hy =>
        intro wS hSw
        have f0 := stays hSw f0
        have f1 := stays hSw f1
        have f2 := stays hSw f2
        clear hSw
        go_simp
        try with_reducible rfl
      try simp only [List.getElem_toArray, List.getElem_cons_succ, List.getElem_cons_zero, Act.put, List.setIfInBounds_toArray, List.set_cons_zero, List.set_cons_succ]
      refine readyF (rs := [11]) (by kernel_rfl) (by simp) ?_
      refine AllF.cons rfl (fun K hK => ?_) AllF.nil
      go_simp
      refine (Cm.out _ hX).mono ?_
      rintro e w0_11 ⟨rfl, hb⟩
      refine hK _ _ (fun h => h.trans (hb.mono h.size)) ?_
      clear hK K
      have hX := hX.trans (hb.mono hX.size)
      clear hb
      refine takeP (i := 12) (v := ?_) rfl hX ?hy ?_
      case hy =>
        intro wS hSw
        clear hSw
        go_simp
        try with_reducible rfl
      try simp only [List.getElem_toArray, List.getElem_cons_succ, List.getElem_cons_zero, Act.put, List.setIfInBounds_toArray, List.set_cons_zero, List.set_cons_succ]
      refine doneF (by kernel_rfl) ?_ _
      try simp only [List.getElem_toArray, List.getElem_cons_succ, List.getElem_cons_zero, Act.put, List.setIfInBounds_toArray, List.set_cons_zero, List.set_cons_succ]
      have er : 10 = R := by rw [← HR2.out]; rfl
      subst er
      clear HR2
      go_wp2
      go_ret
      exact ⟨rfl, hbr.trans (hX.mono hbr.size)⟩
end Go.Proofs.YtpffieogkfndaaaDoor
