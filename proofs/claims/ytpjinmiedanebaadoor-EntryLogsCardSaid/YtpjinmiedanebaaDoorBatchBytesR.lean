/-
  What the reference's Bytes makes of ops. (Printed by genbatchbytes.py.) No condition.
-/
import Derived.Test.YtpjinmiedanebaaDoorJReelSpoil
import Derived.Test.YtpjinmiedanebaaDoorJFrame
import Derived.Test.YtpjinmiedanebaaDoorBatchFew
import Derived.Test.YtpjinmiedanebaaDoorJOpen
namespace Go.Proofs.YtpjinmiedanebaaDoor
open Go.RowKit
set_option maxRecDepth 20000
set_option maxHeartbeats 8000000 in
theorem rbytes_any (w : World) (p : Nat → Prop) (A : Option Addr) (n c : Nat) (ls : List OpL) (h : SlR w p A n c ls) :
    Calls Tryd.prog 27 #[.slice A n c] w (GotBE w (opsBE ls).1 (opsBE ls).2) := by
  have hcp := h.cap
  unfold maxLen at hcp
  have hl := h.lenR
  have ck := rcheckops_any w p A n c ls h
  have Hl := Lib.hid hl
  by_cases hq : checkOpsL ls = 0
  case neg =>
    have e : opsBE ls = ([], checkOpsL ls) := by unfold opsBE; rw [if_neg hq]
    rw [e]
    generalize checkOpsL ls = q at *
    have hq1 : ((q : Int) == 0) = false := by rw [beq_eq_false_iff_ne]; omega
    have hq2 : ((q : Int) != 0) = true := by rw [bne_iff_ne]; omega
    have Ck := Lib.hid ck
    clear ck hq hl h
    go_enter Tryd.func27, Tryd.ntmps27
    go_wp2_with fail
    refine Ck.out.mono ?_
    rintro e w1 ⟨rfl, hb1⟩
    go_wp2
    go_ret2
    exact ⟨none, 0, 0, rfl, Own.nil _ _ _ _ _, hb1⟩
  have e : opsBE ls = (opsBytesL ls, 0) := by unfold opsBE; rw [if_pos hq]
  have hbd := checkOps_bounds hq
  rw [e]
  rw [hq] at ck
  have hn64 : n ≤ 64 := by omega
  have hfl := opFlat_le ls hbd.2
  have Hfl := Lib.hid hfl
  have Hbd := Lib.hid hbd
  have Ck := Lib.hid ck
  clear ck hq hfl hbd e hl
  have cn := fun w' => rnum_any n w' (by omega)
  have Cn := Lib.hid cn
  clear cn
  go_enter Tryd.func27, Tryd.ntmps27
  go_wp2_with fail
  refine Ck.out.mono ?_
  rintro e w1 ⟨rfl, hb1⟩
  go_wp2_with fail
  refine (Cn.out _).mono ?_
  rintro e w2 ⟨A1, n1, c1, rfl, ho1, hb2⟩
  have q2 := hb1.trans (hb2.mono hb1.size)
  have ho2 : OwnB w2 w.heap.size A1 n1 c1 (numL n ++ ((ls.take 0).map opBytesL).flatten) := by
    rw [List.take_zero, List.map_nil, List.flatten_nil, List.append_nil]
    exact Own.mono ho1 hb1.size
  clear ho1
  go_wp2
  go_loopw [5, 19] (fun s q wr => ∃ j : Nat, j ≤ n ∧ q = .int .i64 j ∧ Below w.heap.size w wr ∧ ∃ A2 n2 c2, s = .slice A2 n2 c2 ∧ OwnB wr w.heap.size A2 n2 c2 (numL n ++ ((ls.take j).map opBytesL).flatten)) (fun _ q _ => n - (intOf q).toNat)
  case atStart => exact ⟨0, Nat.zero_le _, rfl, q2, A1, n1, c1, rfl, ho2⟩
  case round =>
    clear ho2
    obtain ⟨j, hj, rfl, hbr, A2, n2, c2, rfl, ho2⟩ := hrel
    by_cases hlt : j < n
    · obtain ⟨b, o, A3, n3, c3, A4, n4, c4, hjl, rfl, d0, d1, d2, hs3, hs4⟩ := h.opAt hlt
      have d0 := stays hbr d0
      have d1 := stays hbr d1
      have d2 := stays hbr d2
      have hzj := Hbd.out.2 _ (List.getElem_mem hjl)
      have hk256 := ls[j].kind.toNat_lt
      have hfj := opFlat_le (ls.take j) (fun x hx => Hbd.out.2 x (List.mem_of_mem_take hx))
      have hlj : (ls.take j).length ≤ 64 := by rw [List.length_take]; omega
      have hst : ((ls.take (j + 1)).map opBytesL).flatten = ((ls.take j).map opBytesL).flatten ++ (numL ls[j].kind.toNat ++ (textL ls[j].key ++ textL ls[j].value)) := by rw [List.take_succ_eq_append_getElem hjl, List.map_append, List.flatten_append]; simp [opBytesL]
      have hlen : n2 ≤ 50000 := by have h1 := OwnB.len' ho2; rw [List.length_append] at h1; have := numL_le n; omega
      have c1 := fun w' => rnum_any ls[j].kind.toNat w' (by omega)
      have c2 := fun w' (hb : Below w.heap.size w w') => rtext_any w' A3 n3 c3 ls[j].key (hs3.below (by omega) hb) (by rw [hs3.lenb] at hzj; omega)
      have c3' := fun w' (hb : Below w.heap.size w w') => rtext_any w' A4 n4 c4 ls[j].value (hs4.below (by omega) hb) (by rw [hs4.lenb] at hzj; omega)
      have t1 := numL_le ls[j].kind.toNat
      have t2 := textL_le ls[j].key
      have t3 := textL_le ls[j].value
      have t4 := hzj.1
      have t5 := hzj.2.1
      generalize numL ls[j].kind.toNat = a1 at *
      generalize textL ls[j].key = a2 at *
      generalize textL ls[j].value = a3 at *
      generalize ls[j].key.length = k1 at *
      generalize ls[j].value.length = k2 at *
      generalize ls[j].kind.toNat = d at *
      have C1 := Lib.hid c1
      have C2 := Lib.hid c2
      have C3 := Lib.hid c3'
      have Hst := Lib.hid hst
      have T1 := Lib.hid t1
      have T2 := Lib.hid t2
      have T3 := Lib.hid t3
      have T4 := Lib.hid t4
      have T5 := Lib.hid t5
      have Hlen := Lib.hid hlen
      have hwr : IntKind.u64.wrap (d : Int) = (d : Int) := by rw [IntKind.wrap_u64]; omega
      clear c1 c2 c3' hst t1 t2 t3 t4 t5 hs3 hs4 hzj hfj hlj hlen hk256
      have hlt2 : ∀ b, blk A2 c2 = some b → w.heap.size ≤ b ∧ b < wr.heap.size := fun b e => Own.lt ho2 b e
      have al := (Below.refl wr.heap.size wr).alloc (Nat.le_refl _) (.cells #[.int .u8 (d : Int), .slice A3 n3 c3, .slice A4 n4 c4] 88)
      have kB := Bx.fresh wr (.int .u8 (d : Int)) (.slice A3 n3 c3) (.slice A4 n4 c4) 88
      have ho2 := Own.below ho2 al
      have hbr := hbr.trans (al.mono hbr.size)
      go_wp2_with fail
      clear d0 d1 d2 al
      generalize hW : (wr.alloc (.cells #[.int .u8 (d : Int), .slice A3 n3 c3, .slice A4 n4 c4] 88)) = wa at *
      generalize hG : wr.heap.size = g at *
      have hlt2 : ∀ b, blk A2 c2 = some b → w.heap.size ≤ b ∧ (b < g ∨ g < b) := fun b e => by have := hlt2 b e; omega
      have kB := kB.drew
      have ho2 := Own.below ho2 (below_drew (Below.refl _ _))
      have hbr := hbr.drew
      refine regionS 15 (fun w' => Bx w' g (.int .u8 (d : Int)) (.slice A3 n3 c3) (.slice A4 n4 c4)) (by kernel_rfl) ?_
      try (change AnyS _ _ _ _ _ _ _ _ _ (World.drew _))
      generalize wa.drew = wb at *
      refine takeS (i := 0) (v := ?_) rfl (by kernel_rfl) (by kernel_rfl) (by kernel_rfl) (by kernel_rfl) (by kernel_rfl) (fun _ _ _ h => h) (Or.inl ⟨by kernel_rfl, ?_⟩) kB ?_
      case refine_2 =>
        intro wS hSw
        clear hSw
        go_simp
        try with_reducible rfl
      try simp only [List.getElem_toArray, List.getElem_cons_succ, List.getElem_cons_zero, Act.put, List.setIfInBounds_toArray, List.set_cons_zero, List.set_cons_succ]
      refine takeS (i := 1) (v := ?_) rfl (by kernel_rfl) (by kernel_rfl) (by kernel_rfl) (by kernel_rfl) (by kernel_rfl) (fun _ _ _ h => h) (Or.inl ⟨by kernel_rfl, ?_⟩) kB ?_
      case refine_2 =>
        intro wS hSw
        clear hSw
        go_simp
        try with_reducible rfl
      try simp only [List.getElem_toArray, List.getElem_cons_succ, List.getElem_cons_zero, Act.put, List.setIfInBounds_toArray, List.set_cons_zero, List.set_cons_succ]
      refine takeS (i := 2) (v := ?_) rfl (by kernel_rfl) (by kernel_rfl) (by kernel_rfl) (by kernel_rfl) (by kernel_rfl) (fun _ _ _ h => h) (Or.inl ⟨by kernel_rfl, ?_⟩) kB ?_
      case refine_2 =>
        intro wS hSw
        obtain ⟨x0, x1, x2, x3⟩ := hSw
        go_simp
        try with_reducible rfl
      try simp only [List.getElem_toArray, List.getElem_cons_succ, List.getElem_cons_zero, Act.put, List.setIfInBounds_toArray, List.set_cons_zero, List.set_cons_succ]
      refine takeS (i := 3) (v := ?_) rfl (by kernel_rfl) (by kernel_rfl) (by kernel_rfl) (by kernel_rfl) (by kernel_rfl) (fun _ _ _ h => h) (Or.inl ⟨by kernel_rfl, ?_⟩) kB ?_
      case refine_2 =>
        intro wS hSw
        clear hSw
        go_simp
        try with_reducible rfl
      try simp only [List.getElem_toArray, List.getElem_cons_succ, List.getElem_cons_zero, Act.put, List.setIfInBounds_toArray, List.set_cons_zero, List.set_cons_succ]
      refine takeS (i := 6) (v := ?_) rfl (by kernel_rfl) (by kernel_rfl) (by kernel_rfl) (by kernel_rfl) (by kernel_rfl) (fun _ _ _ h => h) (Or.inl ⟨by kernel_rfl, ?_⟩) kB ?_
      case refine_2 =>
        intro wS hSw
        clear hSw
        go_simp
        try with_reducible rfl
      try simp only [List.getElem_toArray, List.getElem_cons_succ, List.getElem_cons_zero, Act.put, List.setIfInBounds_toArray, List.set_cons_zero, List.set_cons_succ]
      refine takeS (i := 7) (v := ?_) rfl (by kernel_rfl) (by kernel_rfl) (by kernel_rfl) (by kernel_rfl) (by kernel_rfl) (fun _ _ _ h => h) (Or.inl ⟨by kernel_rfl, ?_⟩) kB ?_
      case refine_2 =>
        intro wS hSw
        obtain ⟨x0, x1, x2, x3⟩ := hSw
        go_simp
        try with_reducible rfl
      try simp only [List.getElem_toArray, List.getElem_cons_succ, List.getElem_cons_zero, Act.put, List.setIfInBounds_toArray, List.set_cons_zero, List.set_cons_succ]
      refine takeS (i := 10) (v := ?_) rfl (by kernel_rfl) (by kernel_rfl) (by kernel_rfl) (by kernel_rfl) (by kernel_rfl) (fun _ _ _ h => h) (Or.inl ⟨by kernel_rfl, ?_⟩) kB ?_
      case refine_2 =>
        intro wS hSw
        clear hSw
        go_simp
        try with_reducible rfl
      try simp only [List.getElem_toArray, List.getElem_cons_succ, List.getElem_cons_zero, Act.put, List.setIfInBounds_toArray, List.set_cons_zero, List.set_cons_succ]
      refine takeS (i := 11) (v := ?_) rfl (by kernel_rfl) (by kernel_rfl) (by kernel_rfl) (by kernel_rfl) (by kernel_rfl) (fun _ _ _ h => h) (Or.inl ⟨by kernel_rfl, ?_⟩) kB ?_
      case refine_2 =>
        intro wS hSw
        obtain ⟨x0, x1, x2, x3⟩ := hSw
        go_simp
        try with_reducible rfl
      try simp only [List.getElem_toArray, List.getElem_cons_succ, List.getElem_cons_zero, Act.put, List.setIfInBounds_toArray, List.set_cons_zero, List.set_cons_succ]
      refine readyS (i := 4) (by kernel_rfl) rfl (fun K hK => ?_)
      go_simp
      refine (C1.out _).mono ?_
      rintro e w4 ⟨A5, n5, c5, rfl, ho5, hb4⟩
      refine hK _ _ (kB.below hb4) ?_
      clear hK K
      have kB := kB.below hb4
      have ho2 := Own.below ho2 hb4
      have hbr := hbr.trans (hb4.mono hbr.size)
      clear hb4
      have L5 : Hid (n5 ≤ 9) := by have := OwnB.len' ho5; have := T1.out; unfold Hid; omega
      have hkl := kB.lt
      have hsz0 := hbr.size
      refine readyS (i := 5) (by kernel_rfl) rfl (fun K hK => ?_)
      refine step_appB (by rfl) (.tmp 23) (.tmp 27) (by rfl) w.heap.size A2 (n2) c2 _ (by rfl) ho2 A5 n5 c5 _ (by rfl) (OwnB.sl ho5) (by have := Hlen.out; have := L5.out; omega) hbr.size ?_
      intro A8 c8 w6 ho8 hg hx
      have hne : blk A2 c2 ≠ some g := fun e => by have := (hlt2 _ e).2; omega
      refine hK _ _ (Bx.grownO kB hg hne) ?_
      clear hK K
      have kB := Bx.grownO kB hg hne
      have hlt8 : ∀ b, blk A8 c8 = some b → w.heap.size ≤ b ∧ (b < g ∨ g < b) := fun b e => by
        rcases hx with h1 | h1
        · rw [h1] at e
          exact hlt2 b e
        · rw [h1] at e
          simp at e
          omega
      have hbr := hbr.grown hg hbr.size (fun b hb => (hlt2 b hb).1)
      clear hg hx hne hkl hsz0
      clear ho5
      refine readyS (i := 8) (by kernel_rfl) rfl (fun K hK => ?_)
      go_simp
      refine (C2.out _ hbr).mono ?_
      rintro e w4 ⟨A6, n6, c6, rfl, ho6, hb4⟩
      refine hK _ _ (kB.below hb4) ?_
      clear hK K
      have kB := kB.below hb4
      have ho8 := Own.below ho8 hb4
      have hbr := hbr.trans (hb4.mono hbr.size)
      clear hb4
      have L6 : Hid (n6 ≤ k1 + 9) := by have := OwnB.len' ho6; have := T2.out; unfold Hid; omega
      have hkl := kB.lt
      have hsz0 := hbr.size
      refine readyS (i := 9) (by kernel_rfl) rfl (fun K hK => ?_)
      refine step_appB (by rfl) (.tmp 28) (.tmp 31) (by rfl) w.heap.size A8 (n2 + n5) c8 _ (by rfl) ho8 A6 n6 c6 _ (by rfl) (OwnB.sl ho6) (by have := Hlen.out; have := L5.out; have := L6.out; have := T4.out; omega) hbr.size ?_
      intro A10 c10 w6 ho10 hg hx
      have hne : blk A8 c8 ≠ some g := fun e => by have := (hlt8 _ e).2; omega
      refine hK _ _ (Bx.grownO kB hg hne) ?_
      clear hK K
      have kB := Bx.grownO kB hg hne
      have hlt10 : ∀ b, blk A10 c10 = some b → w.heap.size ≤ b ∧ (b < g ∨ g < b) := fun b e => by
        rcases hx with h1 | h1
        · rw [h1] at e
          exact hlt8 b e
        · rw [h1] at e
          simp at e
          omega
      have hbr := hbr.grown hg hbr.size (fun b hb => (hlt8 b hb).1)
      clear hg hx hne hkl hsz0
      clear ho6
      refine readyS (i := 12) (by kernel_rfl) rfl (fun K hK => ?_)
      go_simp
      refine (C3.out _ hbr).mono ?_
      rintro e w4 ⟨A7, n7, c7, rfl, ho7, hb4⟩
      refine hK _ _ (kB.below hb4) ?_
      clear hK K
      have kB := kB.below hb4
      have ho10 := Own.below ho10 hb4
      have hbr := hbr.trans (hb4.mono hbr.size)
      clear hb4
      have L7 : Hid (n7 ≤ k2 + 9) := by have := OwnB.len' ho7; have := T3.out; unfold Hid; omega
      have hkl := kB.lt
      have hsz0 := hbr.size
      refine readyS (i := 13) (by kernel_rfl) rfl (fun K hK => ?_)
      refine step_appB (by rfl) (.tmp 32) (.tmp 35) (by rfl) w.heap.size A10 (n2 + n5 + n6) c10 _ (by rfl) ho10 A7 n7 c7 _ (by rfl) (OwnB.sl ho7) (by have := Hlen.out; have := L5.out; have := L6.out; have := T4.out; have := L7.out; have := T5.out; omega) hbr.size ?_
      intro A11 c11 w6 ho11 hg hx
      have hne : blk A10 c10 ≠ some g := fun e => by have := (hlt10 _ e).2; omega
      refine hK _ _ (Bx.grownO kB hg hne) ?_
      clear hK K
      have kB := Bx.grownO kB hg hne
      have hlt11 : ∀ b, blk A11 c11 = some b → w.heap.size ≤ b ∧ (b < g ∨ g < b) := fun b e => by
        rcases hx with h1 | h1
        · rw [h1] at e
          exact hlt10 b e
        · rw [h1] at e
          simp at e
          omega
      have hbr := hbr.grown hg hbr.size (fun b hb => (hlt10 b hb).1)
      clear hg hx hne hkl hsz0
      refine takeS (i := 14) (v := ?_) rfl (by kernel_rfl) (by kernel_rfl) (by kernel_rfl) (by kernel_rfl) (by kernel_rfl) (fun _ _ _ h => h) (Or.inl ⟨by kernel_rfl, ?_⟩) kB ?_
      case refine_2 =>
        intro wS hSw
        clear hSw
        go_simp
        try with_reducible rfl
      try simp only [List.getElem_toArray, List.getElem_cons_succ, List.getElem_cons_zero, Act.put, List.setIfInBounds_toArray, List.set_cons_zero, List.set_cons_succ]
      refine doneS (by kernel_rfl) ?_ _
      try simp only [List.getElem_toArray, List.getElem_cons_succ, List.getElem_cons_zero, Act.put, List.setIfInBounds_toArray, List.set_cons_zero, List.set_cons_succ]
      go_wp2
      go_roundw
      case rel => exact ⟨j + 1, by omega, by go_num, hbr, A11, _, c11, rfl, by rw [Hst.out]; simp only [List.append_assoc] at ho11 ⊢; exact ho11⟩
      case measure => simp [intOf]; omega
    · obtain rfl : n = j := by omega
      rw [List.take_of_length_le (by have := Hl.out; omega), show numL n ++ (ls.map opBytesL).flatten = opsBytesL ls by unfold opsBytesL; rw [Hl.out]] at ho2
      go_wp2
      go_ret2
      exact ⟨A2, n2, c2, rfl, ho2, hbr⟩
end Go.Proofs.YtpjinmiedanebaaDoor
