/-
  What the reference's Read tells of bytes. No condition but sizes.
-/
import Derived.Test.YtpffieogkfndaaaGreatDoorJLeafPlace
namespace Go.Proofs.YtpffieogkfndaaaGreatDoor
open Go.RowKit
set_option maxRecDepth 20000
set_option linter.unusedVariables false
set_option linter.unusedSimpArgs false
set_option maxHeartbeats 8000000 in
theorem rkread_any (w : World) (A : Option Addr) (n c : Nat) (p : List UInt8) (h : Sl w 1 A n c (bc p)) (hn : n ≤ 1000000) :
    Calls Tryz.prog 70 #[.slice A n c] w (GotRead w (keyReadL p)) := by
  have ct := fun (w' : World) (hb : Below w.heap.size w w') => rtaketext_new w' A n c p (h.below (by omega) hb) (by omega) 64 (by omega)
  have hrl : (takeTextL p 64).2.1.length ≤ 1000000 := by
    have := takeL_len p
    have hl := h.lenb
    unfold takeTextL
    repeat' split
    all_goals simp
    omega
  obtain ⟨res, hres⟩ : ∃ res, keyReadL p = res := ⟨_, rfl⟩
  rw [hres]
  unfold keyReadL at hres
  unfold TookN at ct
  generalize (takeTextL p 64).1 = u at *
  generalize (takeTextL p 64).2.1 = r at *
  generalize (takeTextL p 64).2.2 = q at *
  have Ct := Lib.hid ct
  have Hrl := Lib.hid hrl
  have Hres := Lib.hid hres
  clear ct h hrl hres
  have hk := Bx.fresh w (.slice none 0 0) (.int .u64 0) (.int .u8 0) 67
  have hbA := (Below.refl w.heap.size w).alloc (Nat.le_refl _) (.cells #[.slice none 0 0, .int .u64 0, .int .u8 0] 67)
  go_enter Tryz.func70, Tryz.ntmps70
  go_wp2_with fail
  refine (Ct.out _ hbA).mono ?_
  rintro e w1 ⟨A1, n1, c1, B1, m1, d1, rfl, h1, g1, hb1, N1, _⟩
  have hz0 : (w.alloc (.cells #[.slice none 0 0, .int .u64 0, .int .u8 0] 67)).heap.size = w.heap.size + 1 := by simp
  unfold NewAt at N1
  rw [hz0] at N1
  have N1 := Lib.hid N1
  clear hz0
  have q1 := hbA.trans (hb1.mono hbA.size)
  have hk := hk.below hb1
  clear hbA hb1
  obtain ⟨x0, x1, x2, x3⟩ := id hk
  have hr := g1.lenb
  by_cases hq : q = 0
  · subst hq
    have e1 := Hres.out
    rw [if_neg (by simp), hr] at e1
    by_cases hm : m1 < 8
    · rw [if_pos hm] at e1
      have E1 := Lib.hid e1
      clear e1
      have hm' : decide ((m1 : Int) < 8) = true := by rw [decide_eq_true_eq]; omega
      go_wp2_with fail
      refine bodyPost_ret (v := .tuple #[.agg #[.slice none 0 0, .int .u64 0, .int .u8 0], .slice none 0 0, .int .i64 2]) (by simp [results, Tryz.results70, go_sem, x0, x1, x2]) rfl ?_
      rw [← E1.out]
      refine ⟨none, 0, 0, none, 0, 0, rfl, Sl.nil _ _ _ _ (Nat.zero_le _), Sl.nil _ _ _ _ (Nat.zero_le _), ?_⟩
      iterate 3 refine Below.setCell ?_ (by simp) _
      exact q1
    · -- main
      rw [if_neg hm] at e1
      have E1 := Lib.hid e1
      clear e1
      have hm' : decide ((m1 : Int) < 8) = false := by rw [decide_eq_false_iff_not]; omega
      have hcm := g1.capm
      have hcp := g1.cap
      unfold maxLen at hcm
      obtain ⟨bb, o, y0, eB, hyA, hyl0, hcell0⟩ := g1.byte (k := 0) (by omega)
      have hNA : ∀ b, 0 < n1 → A1.map (·.block) = some b → b < w1.heap.size := fun b hn e => h1.lt (by omega) hn b e
      have hNB : ∀ b, 0 < m1 → B1.map (·.block) = some b → b < w1.heap.size := fun b hn e => g1.lt (by omega) hn b e
      rw [Nat.add_zero] at hcell0
      have h0m : 0 < m1 := by omega
      have Hr := Lib.hid hr
      have Hm := Lib.hid hm
      have HNA := Lib.hid hNA
      have HNB := Lib.hid hNB
      have hy0 : ∀ hp : 0 < r.length, (r[0]'hp).toNat = y0 := fun _ => hyA
      have Hy0 := Lib.hid hy0
      have Hyl0 := Lib.hid hyl0
      have z1 := hk.lt
      clear hy0 hyA hm hr hNA hNB hyl0
      subst eB
      have kB := Bx.fresh w1 (.slice A1 n1 c1) (.int .u64 0) (.int .u8 (y0 : Int)) 67
      have bl := (Below.refl w1.heap.size w1).alloc (Nat.le_refl _) (.cells #[.slice A1 n1 c1, .int .u64 0, .int .u8 (y0 : Int)] 67)
      have hk := hk.below bl
      have h1 := h1.below (by omega) bl
      have g1 := g1.below (by omega) bl
      have q2 := q1.trans (bl.mono q1.size)
      go_wp2
      clear x0 x1 x2 x3 bl q1 hcell0
      generalize (w1.alloc (.cells #[.slice A1 n1 c1, .int .u64 0, .int .u8 (y0 : Int)] 67)) = w2 at *
      generalize w1.heap.size = gB at *
      go_loopw [9] (fun i wr => ∃ (j v : Nat) (z : Int), z = 7 - (j : Int) ∧ j ≤ 7 ∧ i = .int .i64 z ∧ Hid (v = leval ((r.take 8).drop (8 - j))) ∧ Bx wr gB (.slice A1 n1 c1) (.int .u64 (v : Int)) (.int .u8 (y0 : Int)) ∧ Bx wr w.heap.size (.slice none 0 0) (.int .u64 0) (.int .u8 0) ∧ Sl wr 1 A1 n1 c1 (bc u) ∧ Sl wr 1 (some ⟨bb, o, none⟩) m1 d1 (bc r) ∧ Below w.heap.size w wr) (fun i _ => (intOf i + 1).toNat)
      case atStart => exact ⟨0, 0, 7, by omega, by omega, rfl, by unfold Hid; rw [List.drop_of_length_le (by simp; omega)]; rfl, kB, hk, h1, g1, q2⟩
      case round =>
        clear kB hk h1 g1 q2
        obtain ⟨j, v, z, hz, hj, rfl, Hv, kB, hk, h1, g1, qr⟩ := hrel
        by_cases hj8 : j < 7
        · obtain ⟨t, ht⟩ : ∃ t : Nat, t = 7 - j := ⟨_, rfl⟩
          obtain rfl : z = (t : Int) := by omega
          have htl : t < r.length := by have := Hr.out; have := Hm.out; omega
          obtain ⟨bb', o', x, eB, hx, hxl, hcell⟩ := g1.byte htl
          simp only [Option.some.injEq, Addr.mk.injEq, and_true] at eB
          obtain ⟨rfl, rfl⟩ := eB
          have hl8 : (r.take 8).length = 8 := by have := Hr.out; have := Hm.out; rw [List.length_take]; omega
          have hstep := leval_drop (r.take 8) t (by omega)
          rw [List.getElem_take, hx, show t + 1 = 8 - j by omega, ← Hv.out] at hstep
          have hvb : v < 72057594037927936 := by
            rw [Hv.out]
            have h1 := leval_lt ((r.take 8).drop (8 - j))
            have h2 : (256 : Nat) ^ ((r.take 8).drop (8 - j)).length ≤ 256 ^ 7 := Nat.pow_le_pow_right (by omega) (by rw [List.length_drop, hl8]; omega)
            have : (256 : Nat) ^ 7 = 72057594037927936 := rfl
            omega
          have ew1 : IntKind.u64.wrap ((v : Int) * 256) = (v : Int) * 256 := by rw [IntKind.wrap_u64]; omega
          have ew2 : IntKind.u64.wrap ((v : Int) * 256 + (x : Int)) = ((v * 256 + x : Nat) : Int) := by rw [IntKind.wrap_u64]; omega
          have htm : t < m1 := by have := Hr.out; omega
          have ht0 : 0 < t := by omega
          have Hstep := Lib.hid hstep
          have Ht := Lib.hid ht
          have Hj8 := Lib.hid hj8
          have ew0 : IntKind.u64.wrap (x : Int) = (x : Int) := by rw [IntKind.wrap_u64]; omega
          have E0 := Lib.hid ew0
          clear ew0
          have Ev := Lib.hid ew1
          have Ew := Lib.hid ew2
          clear hz hj hj8 ht hstep hx htl hl8 ew1 ew2
          go_wp2_with fail
          have hcd : wr.drew.cell? ⟨bb, o + t, none⟩ = some (.int .u8 (x : Int)) := hcell
          have kB := kB.drew
          have hk := hk.drew
          have h1 := h1.drew
          have g1 := g1.drew
          have qr := qr.drew
          clear hcell
          have hSS := And.intro kB hcd
          refine regionS 10 (fun w' => Bx w' gB (.slice A1 n1 c1) (.int .u64 (v : Int)) (.int .u8 (y0 : Int)) ∧ w'.cell? ⟨bb, o + t, none⟩ = some (.int .u8 (x : Int))) (by kernel_rfl) ?_
          try (change AnyS _ _ _ _ _ _ _ _ _ (World.drew _))
          generalize wr.drew = w4 at *
          refine takeS (i := 0) (v := ?_) rfl (by kernel_rfl) (by kernel_rfl) (by kernel_rfl) (by kernel_rfl) (by kernel_rfl) (fun _ _ _ h => h) (Or.inl ⟨by kernel_rfl, ?_⟩) hSS ?_
          case refine_2 =>
            intro wS hSw
            obtain ⟨⟨x0, x1, x2, x3⟩, hc⟩ := hSw
            go_simp
            try with_reducible rfl
          try simp only [List.getElem_toArray, List.getElem_cons_succ, List.getElem_cons_zero, Act.put, List.setIfInBounds_toArray, List.set_cons_zero, List.set_cons_succ]
          refine takeS (i := 1) (v := ?_) rfl (by kernel_rfl) (by kernel_rfl) (by kernel_rfl) (by kernel_rfl) (by kernel_rfl) (fun _ _ _ h => h) (Or.inl ⟨by kernel_rfl, ?_⟩) hSS ?_
          case refine_2 =>
            intro wS hSw
            obtain ⟨⟨x0, x1, x2, x3⟩, hc⟩ := hSw
            go_simp
            try with_reducible rfl
          try simp only [List.getElem_toArray, List.getElem_cons_succ, List.getElem_cons_zero, Act.put, List.setIfInBounds_toArray, List.set_cons_zero, List.set_cons_succ]
          refine takeS (i := 2) (v := ?_) rfl (by kernel_rfl) (by kernel_rfl) (by kernel_rfl) (by kernel_rfl) (by kernel_rfl) (fun _ _ _ h => h) (Or.inl ⟨by kernel_rfl, ?_⟩) hSS ?_
          case refine_2 =>
            intro wS hSw
            obtain ⟨⟨x0, x1, x2, x3⟩, hc⟩ := hSw
            have ew := Ev.out
            go_simp
            try with_reducible rfl
          try simp only [List.getElem_toArray, List.getElem_cons_succ, List.getElem_cons_zero, Act.put, List.setIfInBounds_toArray, List.set_cons_zero, List.set_cons_succ]
          refine takeS (i := 3) (v := ?_) rfl (by kernel_rfl) (by kernel_rfl) (by kernel_rfl) (by kernel_rfl) (by kernel_rfl) (fun _ _ _ h => h) (Or.inl ⟨by kernel_rfl, ?_⟩) hSS ?_
          case refine_2 =>
            intro wS hSw
            obtain ⟨⟨x0, x1, x2, x3⟩, hc⟩ := hSw
            go_simp
            try with_reducible rfl
          try simp only [List.getElem_toArray, List.getElem_cons_succ, List.getElem_cons_zero, Act.put, List.setIfInBounds_toArray, List.set_cons_zero, List.set_cons_succ]
          refine takeS (i := 4) (v := ?_) rfl (by kernel_rfl) (by kernel_rfl) (by kernel_rfl) (by kernel_rfl) (by kernel_rfl) (fun _ _ _ h => h) (Or.inl ⟨by kernel_rfl, ?_⟩) hSS ?_
          case refine_2 =>
            intro wS hSw
            obtain ⟨⟨x0, x1, x2, x3⟩, hc⟩ := hSw
            go_simp
            try with_reducible rfl
          try simp only [List.getElem_toArray, List.getElem_cons_succ, List.getElem_cons_zero, Act.put, List.setIfInBounds_toArray, List.set_cons_zero, List.set_cons_succ]
          refine takeS (i := 5) (v := ?_) rfl (by kernel_rfl) (by kernel_rfl) (by kernel_rfl) (by kernel_rfl) (by kernel_rfl) (fun _ _ _ h => h) (Or.inl ⟨by kernel_rfl, ?_⟩) hSS ?_
          case refine_2 =>
            intro wS hSw
            obtain ⟨⟨x0, x1, x2, x3⟩, hc⟩ := hSw
            go_simp
            try with_reducible rfl
          try simp only [List.getElem_toArray, List.getElem_cons_succ, List.getElem_cons_zero, Act.put, List.setIfInBounds_toArray, List.set_cons_zero, List.set_cons_succ]
          refine takeS (i := 6) (v := ?_) rfl (by kernel_rfl) (by kernel_rfl) (by kernel_rfl) (by kernel_rfl) (by kernel_rfl) (fun _ _ _ h => h) (Or.inl ⟨by kernel_rfl, ?_⟩) hSS ?_
          case refine_2 =>
            intro wS hSw
            obtain ⟨⟨x0, x1, x2, x3⟩, hc⟩ := hSw
            go_simp
            try with_reducible rfl
          try simp only [List.getElem_toArray, List.getElem_cons_succ, List.getElem_cons_zero, Act.put, List.setIfInBounds_toArray, List.set_cons_zero, List.set_cons_succ]
          refine takeS (i := 7) (v := ?_) rfl (by kernel_rfl) (by kernel_rfl) (by kernel_rfl) (by kernel_rfl) (by kernel_rfl) (fun _ _ _ h => h) (Or.inl ⟨by kernel_rfl, ?_⟩) hSS ?_
          case refine_2 =>
            intro wS hSw
            obtain ⟨⟨x0, x1, x2, x3⟩, hc⟩ := hSw
            have ew := E0.out
            go_simp
            try with_reducible rfl
          try simp only [List.getElem_toArray, List.getElem_cons_succ, List.getElem_cons_zero, Act.put, List.setIfInBounds_toArray, List.set_cons_zero, List.set_cons_succ]
          refine takeS (i := 8) (v := ?_) rfl (by kernel_rfl) (by kernel_rfl) (by kernel_rfl) (by kernel_rfl) (by kernel_rfl) (fun _ _ _ h => h) (Or.inl ⟨by kernel_rfl, ?_⟩) hSS ?_
          case refine_2 =>
            intro wS hSw
            obtain ⟨⟨x0, x1, x2, x3⟩, hc⟩ := hSw
            have ew := Ew.out
            go_simp
            try with_reducible rfl
          try simp only [List.getElem_toArray, List.getElem_cons_succ, List.getElem_cons_zero, Act.put, List.setIfInBounds_toArray, List.set_cons_zero, List.set_cons_succ]
          refine takeS (i := 9) (v := ?_) rfl (by kernel_rfl) (by kernel_rfl) (by kernel_rfl) (by kernel_rfl) (by kernel_rfl) (fun _ _ _ h => h) (Or.inl ⟨by kernel_rfl, ?_⟩) hSS ?_
          case refine_2 =>
            intro wS hSw
            obtain ⟨⟨x0, x1, x2, x3⟩, hc⟩ := hSw
            go_simp
            try with_reducible rfl
          try simp only [List.getElem_toArray, List.getElem_cons_succ, List.getElem_cons_zero, Act.put, List.setIfInBounds_toArray, List.set_cons_zero, List.set_cons_succ]
          obtain ⟨x0, x1, x2, x3⟩ := id kB
          refine tailS (i := 10) (by kernel_rfl) rfl (by kernel_rfl) (fun K hK => ?_)
          go_simp
          obtain ⟨w5, e5⟩ : ∃ w', w' = w4.setCell ⟨gB, 1, none⟩ (.int .u64 ((v : Int) * 256 + (x : Int))) := ⟨_, rfl⟩
          rw [← e5]
          have g5 : w4.grownBy w5 (some gB) := by rw [e5]; exact only_set (World.grownBy.refl _ _) 1 _
          have kB : Bx w5 gB (.slice A1 n1 c1) (.int .u64 ((v * 256 + x : Nat) : Int)) (.int .u8 (y0 : Int)) := by
            rw [e5, show ((v * 256 + x : Nat) : Int) = (v : Int) * 256 + (x : Int) by omega]
            exact ⟨set_other x0 _ (by omega), set_same x1 _, set_other x2 _ (by omega), fun j => by simp [x3]⟩
          clear e5 x0 x1 x2 x3 hSS hcd
          refine hK _ _ ?_
          clear hK K
          refine doneS (by kernel_rfl) ?_ _
          try simp only [List.getElem_toArray, List.getElem_cons_succ, List.getElem_cons_zero, Act.put, List.setIfInBounds_toArray, List.set_cons_zero, List.set_cons_succ]
          go_wp2
          have hk := hk.grown g5 (by omega)
          have h1 := h1.grown (by omega) g5 (fun hn b e q => by have := HNA.out b hn e; simp at q; omega)
          have g1 := g1.grown (by omega) g5 (fun hn b e q => by have := HNB.out b hn e; simp at q; omega)
          have qr := qr.grown g5 qr.size (fun k e => by simp at e; omega)
          go_roundw
          case rel => exact ⟨j + 1, v * 256 + x, (t : Int) - 1, by have := Ht.out; have := Hj8.out; omega, by have := Hj8.out; omega, by simp, by unfold Hid; rw [← Hstep.out]; congr 2; have := Ht.out; omega, kB, hk, h1, g1, qr⟩
          case measure => simp [intOf]
        · obtain rfl : j = 7 := by omega
          obtain rfl : z = 0 := by omega
          have h8m := Hm.out
          have hrm := Hr.out
          have hr0 : 0 < r.length := by omega
          have hN : leval (r.take 8) = v * 256 + y0 := by
            have h := leval_drop (r.take 8) 0 (by rw [List.length_take]; omega)
            rw [List.drop_zero, List.getElem_take, Hy0.out hr0] at h
            rw [h, Hv.out]
          have e2 := E1.out
          rw [hN] at e2
          have hvl : v * 256 + y0 < 18446744073709551616 := by
            rw [← hN]
            have h1 := leval_lt (r.take 8)
            have h2 : (256 : Nat) ^ (r.take 8).length ≤ 256 ^ 8 := Nat.pow_le_pow_right (by omega) (by rw [List.length_take]; omega)
            have : (256 : Nat) ^ 8 = 18446744073709551616 := rfl
            omega
          have hy := Hyl0.out
          have k1 : (keyOfN u (v * 256 + y0)).seq.toNat = v := by
            unfold keyOfN
            rw [UInt64.toNat_ofNat', show (v * 256 + y0) / 256 = v by omega]
            exact Nat.mod_eq_of_lt (by omega)
          have k2 : (keyOfN u (v * 256 + y0)).kind.toNat = y0 := by unfold keyOfN; rw [UInt8.toNat_ofNat']; omega
          have cc := fun (w' : World) (h : Sl w' 1 A1 n1 c1 (bc u)) => rcheck_any w' A1 n1 c1 (keyOfN u (v * 256 + y0)) h
          rw [k1, k2] at cc
          have E2 := Lib.hid e2
          have K1 := Lib.hid k1
          have K2 := Lib.hid k2
          have Cc := Lib.hid cc
          clear hj8 hz hj hN hvl e2 k1 k2 Hv cc h8m hrm hr0 hy
          obtain ⟨x0, x1, x2, x3⟩ := id kB
          go_wp2_with fail
          clear x0 x1 x2 x3
          obtain ⟨cr, hcr⟩ : ∃ cr, checkKey (keyOfN u (v * 256 + y0)) = cr := ⟨_, rfl⟩
          have Hcr := Lib.hid hcr
          have hc1 := Cc.out wr h1
          rw [hcr] at hc1
          clear hcr
          refine hc1.mono ?_
          rintro e w3 ⟨rfl, hb3⟩
          have hk := hk.below hb3
          have kB := kB.below hb3
          have h1 := h1.below (by omega) hb3
          have g1 := g1.below (by omega) hb3
          have q3 := qr.trans (hb3.mono qr.size)
          clear hb3 qr hc1
          by_cases hcr : cr = 0
          · subst hcr
            have e3 := E2.out
            rw [if_neg (by rw [Hcr.out]; simp)] at e3
            have E3 := Lib.hid e3
            clear e3
            obtain ⟨B8, hrun, h8, _⟩ := cutL g1 .i64 8 8 rfl (by have := Hm.out; omega)
            have H8 := Lib.hid h8
            clear h8
            go_wp2_with fail
            have hk := hk.drew
            have kB := kB.drew
            have h1 := h1.drew
            have h8 := H8.out.drew
            have q3 := q3.drew
            refine regionS 7 (fun w' => Bx w' gB (.slice A1 n1 c1) (.int .u64 (v : Int)) (.int .u8 (y0 : Int))) (by kernel_rfl) ?_
            try (change AnyS _ _ _ _ _ _ _ _ _ (World.drew _))
            generalize w3.drew = w4 at *
            refine takeS (i := 0) (v := ?_) rfl (by kernel_rfl) (by kernel_rfl) (by kernel_rfl) (by kernel_rfl) (by kernel_rfl) (fun _ _ _ h => h) (Or.inl ⟨by kernel_rfl, ?_⟩) kB ?_
            case refine_2 =>
              intro wS hSw
              obtain ⟨x0, x1, x2, x3⟩ := hSw
              go_simp
              try with_reducible rfl
            try simp only [List.getElem_toArray, List.getElem_cons_succ, List.getElem_cons_zero, Act.put, List.setIfInBounds_toArray, List.set_cons_zero, List.set_cons_succ]
            refine takeS (i := 1) (v := ?_) rfl (by kernel_rfl) (by kernel_rfl) (by kernel_rfl) (by kernel_rfl) (by kernel_rfl) (fun _ _ _ h => h) (Or.inl ⟨by kernel_rfl, ?_⟩) kB ?_
            case refine_2 =>
              intro wS hSw
              clear hSw
              go_simp
              try with_reducible rfl
            try simp only [List.getElem_toArray, List.getElem_cons_succ, List.getElem_cons_zero, Act.put, List.setIfInBounds_toArray, List.set_cons_zero, List.set_cons_succ]
            refine takeS (i := 2) (v := ?_) rfl (by kernel_rfl) (by kernel_rfl) (by kernel_rfl) (by kernel_rfl) (by kernel_rfl) (fun _ _ _ h => h) (Or.inl ⟨by kernel_rfl, ?_⟩) kB ?_
            case refine_2 =>
              intro wS hSw
              clear hSw
              go_simp
              try with_reducible rfl
            try simp only [List.getElem_toArray, List.getElem_cons_succ, List.getElem_cons_zero, Act.put, List.setIfInBounds_toArray, List.set_cons_zero, List.set_cons_succ]
            refine readyS (i := 3) (by kernel_rfl) rfl (fun K hK => ?_)
            go_simp
            refine (copy_any w4 B8 (m1 - 8) (d1 - 8) _ h8 (by have := Hr.out; have := Hrl.out; omega)).mono ?_
            rintro e w5 ⟨A5, n5, c5, rfl, ho5, hb5⟩
            refine hK _ _ (kB.below hb5) ?_
            clear hK K
            have kB := kB.below hb5
            have zk4 := hk.lt
            have hk := hk.below hb5
            have h1 := h1.below (by omega) hb5
            have h5 := ho5.sl
            have z5 := hb5.size
            have zk := hk.lt
            have q5 := q3.trans (hb5.mono q3.size)
            clear hb5 h8
            obtain ⟨x0, x1, x2, x3⟩ := id hk
            refine readyS (i := 4) (by kernel_rfl) rfl (fun K hK => ?_)
            go_simp
            obtain ⟨w6, e6⟩ : ∃ w', w' = ((w5.setCell ⟨w.heap.size, 0, none⟩ (.slice A1 n1 c1)).setCell ⟨w.heap.size, 1, none⟩ (.int .u64 (v : Int))).setCell ⟨w.heap.size, 2, none⟩ (.int .u8 (y0 : Int)) := ⟨_, rfl⟩
            rw [← e6]
            obtain ⟨hk, g6⟩ := hk.set e6
            clear e6 x0 x1 x2 x3
            have kB := kB.grown g6 (by omega)
            refine hK _ _ kB ?_
            clear hK K
            refine takeS (i := 5) (v := ?_) rfl (by kernel_rfl) (by kernel_rfl) (by kernel_rfl) (by kernel_rfl) (by kernel_rfl) (fun _ _ _ h => h) (Or.inl ⟨by kernel_rfl, ?_⟩) kB ?_
            case refine_2 =>
              intro wS hSw
              clear hSw
              go_simp
              try with_reducible rfl
            try simp only [List.getElem_toArray, List.getElem_cons_succ, List.getElem_cons_zero, Act.put, List.setIfInBounds_toArray, List.set_cons_zero, List.set_cons_succ]
            refine takeS (i := 6) (v := ?_) rfl (by kernel_rfl) (by kernel_rfl) (by kernel_rfl) (by kernel_rfl) (by kernel_rfl) (fun _ _ _ h => h) (Or.inl ⟨by kernel_rfl, ?_⟩) kB ?_
            case refine_2 =>
              intro wS hSw
              clear hSw
              go_simp
              try with_reducible rfl
            try simp only [List.getElem_toArray, List.getElem_cons_succ, List.getElem_cons_zero, Act.put, List.setIfInBounds_toArray, List.set_cons_zero, List.set_cons_succ]
            refine doneS (by kernel_rfl) ?_ _
            try simp only [List.getElem_toArray, List.getElem_cons_succ, List.getElem_cons_zero, Act.put, List.setIfInBounds_toArray, List.set_cons_zero, List.set_cons_succ]
            go_wp2_with fail
            obtain ⟨x0, x1, x2, x3⟩ := id hk
            refine bodyPost_ret (v := .tuple #[.agg #[.slice A1 n1 c1, .int .u64 (v : Int), .int .u8 (y0 : Int)], .slice A5 n5 c5, .int .i64 0]) (by simp [results, Tryz.results70, go_sem, x0, x1, x2]) rfl ?_
            rw [← E3.out]
            refine ⟨A1, n1, c1, A5, n5, c5, (by simp only [K1.out, K2.out] <;> rfl), h1.grown (by omega) g6 (fun hn b e q => by have := N1.out b hn e; simp at q; omega), h5.grown (by omega) g6 (fun hn b e q => by have := own_new (w := w4) ho5 (Nat.le_refl _) b hn e; simp at q; omega), q5.grown g6 q5.size (fun k e => by simp at e; omega)⟩
          · have e3 := E2.out
            rw [if_pos (by rw [Hcr.out]; exact hcr)] at e3
            have E3 := Lib.hid e3
            have hc1 : ((cr : Int) == 0) = false := by rw [beq_eq_false_iff_ne]; omega
            have hc2 : ((cr : Int) != 0) = true := by rw [bne_iff_ne]; omega
            clear e3 hcr
            obtain ⟨x0, x1, x2, x3⟩ := id hk
            go_wp2_with fail
            refine bodyPost_ret (v := .tuple #[.agg #[.slice none 0 0, .int .u64 0, .int .u8 0], .slice none 0 0, .int .i64 4]) (by simp [results, Tryz.results70, go_sem, x0, x1, x2]) rfl ?_
            rw [← E3.out]
            refine ⟨none, 0, 0, none, 0, 0, rfl, Sl.nil _ _ _ _ (Nat.zero_le _), Sl.nil _ _ _ _ (Nat.zero_le _), ?_⟩
            iterate 3 refine Below.setCell ?_ (by simp) _
            exact q3
  · have e1 := Hres.out
    rw [if_pos hq] at e1
    have E1 := Lib.hid e1
    clear e1
    have hq1 : ((q : Int) == 0) = false := by rw [beq_eq_false_iff_ne]; omega
    have hq2 : ((q : Int) != 0) = true := by rw [bne_iff_ne]; omega
    clear hq
    go_wp2_with fail
    refine bodyPost_ret (v := .tuple #[.agg #[.slice none 0 0, .int .u64 0, .int .u8 0], .slice none 0 0, .int .i64 (q : Int)]) (by simp [results, Tryz.results70, go_sem, x0, x1, x2]) rfl ?_
    rw [← E1.out]
    refine ⟨none, 0, 0, none, 0, 0, rfl, Sl.nil _ _ _ _ (Nat.zero_le _), Sl.nil _ _ _ _ (Nat.zero_le _), ?_⟩
    iterate 3 refine Below.setCell ?_ (by simp) _
    exact q1
end Go.Proofs.YtpffieogkfndaaaGreatDoor
