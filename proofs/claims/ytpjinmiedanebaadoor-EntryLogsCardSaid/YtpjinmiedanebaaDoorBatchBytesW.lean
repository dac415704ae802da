/-
  What batch.Bytes makes of ops. (Printed by genbatchbytes.py.) No condition.
-/
import Derived.Test.YtpjinmiedanebaaDoorJReelSpoil
import Derived.Test.YtpjinmiedanebaaDoorJFrame
import Derived.Test.YtpjinmiedanebaaDoorBatchFew
import Derived.Test.YtpjinmiedanebaaDoorJOpen
namespace Go.Proofs.YtpjinmiedanebaaDoor
open Go.RowKit
set_option maxRecDepth 20000
theorem ajoin_of {w : World} {A : Option Addr} {n c : Nat} {l : List UInt8} (h : Calls Tryd.prog 55 #[.slice A n c, .slice none 0 0] w (NewB w l)) : Calls Tryd.prog 35 #[.slice A n c] w (NewB w l) := by
  have H := Lib.hid h
  clear h
  go_enter Tryd.func35, Tryd.ntmps35
  go_wp2_with fail
  refine H.out.mono ?_
  rintro e w1 ⟨A1, n1, c1, rfl, ho, hb⟩
  go_wp2
  go_ret
  exact ⟨A1, n1, c1, rfl, ho, hb⟩
set_option maxHeartbeats 8000000 in
theorem bbytes_any (w : World) (p : Nat → Prop) (A : Option Addr) (n c : Nat) (ls : List OpL) (h : SlR w p A n c ls) :
    Calls Tryd.prog 34 #[.slice A n c] w (GotBE w (opsBE ls).1 (opsBE ls).2) := by
  have hcp := h.cap
  unfold maxLen at hcp
  have hl := h.lenR
  have ck := checkops_any w p A n c ls h
  have Hl := Lib.hid hl
  by_cases hq : checkOpsL ls = 0
  case neg =>
    have e : opsBE ls = ([], checkOpsL ls) := by unfold opsBE; rw [if_neg hq]
    rw [e]
    generalize checkOpsL ls = q at *
    have hq1 : ((q : Int) == 0) = false := by rw [beq_eq_false_iff_ne]; omega
    have hq2 : ((q : Int) != 0) = true := by rw [bne_iff_ne]; omega
    have Ck := Lib.hid ck
    clear ck hq hl h
    go_enter Tryd.func34, Tryd.ntmps34
    go_wp2_with fail
    refine Ck.out.mono ?_
    rintro e w1 ⟨rfl, hb1⟩
    go_wp2
    go_ret2
    exact ⟨none, 0, 0, rfl, Own.nil _ _ _ _ _, hb1⟩
  have e : opsBE ls = (opsBytesL ls, 0) := by unfold opsBE; rw [if_pos hq]
  have hbd := checkOps_bounds hq
  rw [e]
  rw [hq] at ck
  have hn64 : n ≤ 64 := by omega
  have hfl := opFlat_le ls hbd.2
  have Hfl := Lib.hid hfl
  have Hbd := Lib.hid hbd
  have Ck := Lib.hid ck
  clear ck hq hfl hbd e hl
  have cn := fun w' => num_any n w' (by omega)
  have Cn := Lib.hid cn
  clear cn
  go_enter Tryd.func34, Tryd.ntmps34
  go_wp2_with fail
  refine Ck.out.mono ?_
  rintro e w1 ⟨rfl, hb1⟩
  go_wp2_with fail
  refine (Cn.out _).mono ?_
  rintro e w2 ⟨A1, n1, c1, rfl, ho1, hb2⟩
  have q2 := hb1.trans (hb2.mono hb1.size)
  have hlit : Own (w2.alloc (.cells #[.slice A1 n1 c1] 22)) w.heap.size 22 1 (some ⟨w2.heap.size, 0, none⟩) 1 1 [.slice A1 n1 c1] := Own.lit w2 _ _ 1 _ _ q2.size rfl (by unfold maxLen; omega) rfl
  have al := (Below.refl w2.heap.size w2).alloc (Nat.le_refl _) (.cells #[.slice A1 n1 c1] 22)
  have ho1' := Own.below ho1 al
  have hrow : OwnR (w2.alloc (.cells #[.slice A1 n1 c1] 22)) w.heap.size 22 (some ⟨w2.heap.size, 0, none⟩) 1 1 (partsL n (ls.take 0)) := ⟨_, hlit, RowC.single ⟨_, rfl, (Bk.ownT (e' := 22) (by decide) ho1').move fun b hb hp => ⟨rfl, .inr hp⟩⟩⟩
  have q3 := q2.trans (al.mono q2.size)
  go_wp2
  generalize (w2.alloc (.cells #[.slice A1 n1 c1] 22)) = w3 at *
  clear hlit ho1 ho1' al
  go_loopw [5, 20] (fun s q wr => ∃ j : Nat, j ≤ n ∧ q = .int .i64 j ∧ Below w.heap.size w wr ∧ ∃ A2 n2 c2, s = .slice A2 n2 c2 ∧ OwnR wr w.heap.size 22 A2 n2 c2 (partsL n (ls.take j))) (fun _ q _ => n - (intOf q).toNat)
  case atStart => exact ⟨0, Nat.zero_le _, rfl, q3, _, 1, 1, rfl, hrow⟩
  case round =>
    obtain ⟨j, hj, rfl, hbr, A2, n2, c2, rfl, ho2⟩ := hrel
    by_cases hlt : j < n
    · obtain ⟨b, o, A3, n3, c3, A4, n4, c4, hjl, rfl, d0, d1, d2, hs3, hs4⟩ := h.opAt hlt
      have d0 := stays hbr d0
      have d1 := stays hbr d1
      have d2 := stays hbr d2
      have hzj := Hbd.out.2 _ (List.getElem_mem hjl)
      have hk256 := ls[j].kind.toNat_lt
      have hfj := opFlat_le (ls.take j) (fun x hx => Hbd.out.2 x (List.mem_of_mem_take hx))
      have hlj : (ls.take j).length ≤ 64 := by rw [List.length_take]; omega
      have hst : partsL n (ls.take (j + 1)) = partsL n (ls.take j) ++ [numL ls[j].kind.toNat, textL ls[j].key, textL ls[j].value] := by rw [List.take_succ_eq_append_getElem hjl, partsL_snoc]
      have hlen : n2 ≤ 200 := by have h1 := ho2.lenR; rw [partsL_len] at h1; omega
      have c1 := fun w' => num_any ls[j].kind.toNat w' (by omega)
      have c2 := fun w' (hb : Below w.heap.size w w') => text_any w' A3 n3 c3 ls[j].key (hs3.below (by omega) hb) (by rw [hs3.lenb] at hzj; omega)
      have c3' := fun w' (hb : Below w.heap.size w w') => text_any w' A4 n4 c4 ls[j].value (hs4.below (by omega) hb) (by rw [hs4.lenb] at hzj; omega)
      have t1 := numL_le ls[j].kind.toNat
      have t2 := textL_le ls[j].key
      have t3 := textL_le ls[j].value
      have t4 := hzj.1
      have t5 := hzj.2.1
      generalize numL ls[j].kind.toNat = a1 at *
      generalize textL ls[j].key = a2 at *
      generalize textL ls[j].value = a3 at *
      generalize ls[j].key.length = k1 at *
      generalize ls[j].value.length = k2 at *
      generalize ls[j].kind.toNat = d at *
      have C1 := Lib.hid c1
      have C2 := Lib.hid c2
      have C3 := Lib.hid c3'
      have Hst := Lib.hid hst
      have T1 := Lib.hid t1
      have T2 := Lib.hid t2
      have T3 := Lib.hid t3
      have T4 := Lib.hid t4
      have T5 := Lib.hid t5
      have Hlen := Lib.hid hlen
      have hwr : IntKind.u64.wrap (d : Int) = (d : Int) := by rw [IntKind.wrap_u64]; omega
      clear c1 c2 c3' hst t1 t2 t3 t4 t5 hs3 hs4 hzj hfj hlj hlen hk256
      have hlt2 : ∀ b, blk A2 c2 = some b → w.heap.size ≤ b ∧ b < wr.heap.size := by
        obtain ⟨xs2, hO2, _⟩ := ho2
        exact fun b e => Own.lt hO2 b e
      have al := (Below.refl wr.heap.size wr).alloc (Nat.le_refl _) (.cells #[.int .u8 (d : Int), .slice A3 n3 c3, .slice A4 n4 c4] 88)
      have kB := Bx.fresh wr (.int .u8 (d : Int)) (.slice A3 n3 c3) (.slice A4 n4 c4) 88
      have ho2 := OwnR.below ho2 al
      have hbr := hbr.trans (al.mono hbr.size)
      go_wp2_with fail
      clear d0 d1 d2 al
      generalize hW : (wr.alloc (.cells #[.int .u8 (d : Int), .slice A3 n3 c3, .slice A4 n4 c4] 88)) = wa at *
      generalize hG : wr.heap.size = g at *
      have kB := kB.drew
      have ho2 := OwnR.below ho2 (below_drew (Below.refl _ _))
      have hbr := hbr.drew
      refine regionS 14 (fun w' => Bx w' g (.int .u8 (d : Int)) (.slice A3 n3 c3) (.slice A4 n4 c4)) (by kernel_rfl) ?_
      try (change AnyS _ _ _ _ _ _ _ _ _ (World.drew _))
      generalize wa.drew = wb at *
      refine takeS (i := 0) (v := ?_) rfl (by kernel_rfl) (by kernel_rfl) (by kernel_rfl) (by kernel_rfl) (by kernel_rfl) (fun _ _ _ h => h) (Or.inl ⟨by kernel_rfl, ?_⟩) kB ?_
      case refine_2 =>
        intro wS hSw
        clear hSw
        go_simp
        try with_reducible rfl
      try simp only [List.getElem_toArray, List.getElem_cons_succ, List.getElem_cons_zero, Act.put, List.setIfInBounds_toArray, List.set_cons_zero, List.set_cons_succ]
      refine takeS (i := 1) (v := ?_) rfl (by kernel_rfl) (by kernel_rfl) (by kernel_rfl) (by kernel_rfl) (by kernel_rfl) (fun _ _ _ h => h) (Or.inl ⟨by kernel_rfl, ?_⟩) kB ?_
      case refine_2 =>
        intro wS hSw
        clear hSw
        go_simp
        try with_reducible rfl
      try simp only [List.getElem_toArray, List.getElem_cons_succ, List.getElem_cons_zero, Act.put, List.setIfInBounds_toArray, List.set_cons_zero, List.set_cons_succ]
      refine takeS (i := 2) (v := ?_) rfl (by kernel_rfl) (by kernel_rfl) (by kernel_rfl) (by kernel_rfl) (by kernel_rfl) (fun _ _ _ h => h) (Or.inl ⟨by kernel_rfl, ?_⟩) kB ?_
      case refine_2 =>
        intro wS hSw
        obtain ⟨x0, x1, x2, x3⟩ := hSw
        go_simp
        try with_reducible rfl
      try simp only [List.getElem_toArray, List.getElem_cons_succ, List.getElem_cons_zero, Act.put, List.setIfInBounds_toArray, List.set_cons_zero, List.set_cons_succ]
      refine takeS (i := 3) (v := ?_) rfl (by kernel_rfl) (by kernel_rfl) (by kernel_rfl) (by kernel_rfl) (by kernel_rfl) (fun _ _ _ h => h) (Or.inl ⟨by kernel_rfl, ?_⟩) kB ?_
      case refine_2 =>
        intro wS hSw
        clear hSw
        go_simp
        try with_reducible rfl
      try simp only [List.getElem_toArray, List.getElem_cons_succ, List.getElem_cons_zero, Act.put, List.setIfInBounds_toArray, List.set_cons_zero, List.set_cons_succ]
      refine takeS (i := 5) (v := ?_) rfl (by kernel_rfl) (by kernel_rfl) (by kernel_rfl) (by kernel_rfl) (by kernel_rfl) (fun _ _ _ h => h) (Or.inl ⟨by kernel_rfl, ?_⟩) kB ?_
      case refine_2 =>
        intro wS hSw
        clear hSw
        go_simp
        try with_reducible rfl
      try simp only [List.getElem_toArray, List.getElem_cons_succ, List.getElem_cons_zero, Act.put, List.setIfInBounds_toArray, List.set_cons_zero, List.set_cons_succ]
      refine takeS (i := 6) (v := ?_) rfl (by kernel_rfl) (by kernel_rfl) (by kernel_rfl) (by kernel_rfl) (by kernel_rfl) (fun _ _ _ h => h) (Or.inl ⟨by kernel_rfl, ?_⟩) kB ?_
      case refine_2 =>
        intro wS hSw
        obtain ⟨x0, x1, x2, x3⟩ := hSw
        go_simp
        try with_reducible rfl
      try simp only [List.getElem_toArray, List.getElem_cons_succ, List.getElem_cons_zero, Act.put, List.setIfInBounds_toArray, List.set_cons_zero, List.set_cons_succ]
      refine takeS (i := 8) (v := ?_) rfl (by kernel_rfl) (by kernel_rfl) (by kernel_rfl) (by kernel_rfl) (by kernel_rfl) (fun _ _ _ h => h) (Or.inl ⟨by kernel_rfl, ?_⟩) kB ?_
      case refine_2 =>
        intro wS hSw
        clear hSw
        go_simp
        try with_reducible rfl
      try simp only [List.getElem_toArray, List.getElem_cons_succ, List.getElem_cons_zero, Act.put, List.setIfInBounds_toArray, List.set_cons_zero, List.set_cons_succ]
      refine takeS (i := 9) (v := ?_) rfl (by kernel_rfl) (by kernel_rfl) (by kernel_rfl) (by kernel_rfl) (by kernel_rfl) (fun _ _ _ h => h) (Or.inl ⟨by kernel_rfl, ?_⟩) kB ?_
      case refine_2 =>
        intro wS hSw
        obtain ⟨x0, x1, x2, x3⟩ := hSw
        go_simp
        try with_reducible rfl
      try simp only [List.getElem_toArray, List.getElem_cons_succ, List.getElem_cons_zero, Act.put, List.setIfInBounds_toArray, List.set_cons_zero, List.set_cons_succ]
      refine readyS (i := 4) (by kernel_rfl) rfl (fun K hK => ?_)
      go_simp
      refine (C1.out _).mono ?_
      rintro e w4 ⟨A5, n5, c5, rfl, ho5, hb4⟩
      refine hK _ _ (kB.below hb4) ?_
      clear hK K
      have kB := kB.below hb4
      have ho2 := OwnR.below ho2 hb4
      have hbr := hbr.trans (hb4.mono hbr.size)
      clear hb4
      refine readyS (i := 7) (by kernel_rfl) rfl (fun K hK => ?_)
      go_simp
      refine (C2.out _ hbr).mono ?_
      rintro e w4 ⟨A6, n6, c6, rfl, ho6, hb4⟩
      refine hK _ _ (kB.below hb4) ?_
      clear hK K
      have kB := kB.below hb4
      have ho2 := OwnR.below ho2 hb4
      have hbr := hbr.trans (hb4.mono hbr.size)
      have ho5 := Own.below ho5 hb4
      clear hb4
      refine readyS (i := 10) (by kernel_rfl) rfl (fun K hK => ?_)
      go_simp
      refine (C3.out _ hbr).mono ?_
      rintro e w4 ⟨A7, n7, c7, rfl, ho7, hb4⟩
      refine hK _ _ (kB.below hb4) ?_
      clear hK K
      have kB := kB.below hb4
      have ho2 := OwnR.below ho2 hb4
      have hbr := hbr.trans (hb4.mono hbr.size)
      have ho5 := Own.below ho5 hb4
      have ho6 := Own.below ho6 hb4
      clear hb4
      refine readyS (i := 11) (by kernel_rfl) rfl (fun K hK => ?_)
      go_simp
      refine hK _ _ (kB.below ((Below.refl _ _).alloc (Nat.le_refl _) _)) ?_
      clear hK K
      have al2 := (Below.refl w4.heap.size w4).alloc (Nat.le_refl _) (.cells #[.slice A5 n5 c5, .slice A6 n6 c6, .slice A7 n7 c7] 22)
      have kB := kB.below al2
      have ho2 := ho2.below al2
      have ho5 := Own.below ho5 al2
      have ho6 := Own.below ho6 al2
      have ho7 := Own.below ho7 al2
      have hbr := hbr.trans (al2.mono hbr.size)
      have hlit : Sl (w4.alloc (.cells #[.slice A5 n5 c5, .slice A6 n6 c6, .slice A7 n7 c7] 22)) 1 (some ⟨w4.heap.size, 0, none⟩) 3 3 [.slice A5 n5 c5, .slice A6 n6 c6, .slice A7 n7 c7] := Sl.lit w4 _ _ 3 _ _ rfl (by unfold maxLen; omega) rfl
      clear al2
      generalize (w4.alloc (.cells #[.slice A5 n5 c5, .slice A6 n6 c6, .slice A7 n7 c7] 22)) = w5 at *
      have hrow : RowC w5 (NotTy w5 22) [.slice A5 n5 c5, .slice A6 n6 c6, .slice A7 n7 c7] [a1, a2, a3] := ⟨[_], _, rfl, ⟨_, rfl, Bk.ownT (by decide) ho5⟩, ⟨[_], _, rfl, ⟨_, rfl, Bk.ownT (by decide) ho6⟩, RowC.single ⟨_, rfl, Bk.ownT (by decide) ho7⟩⟩⟩
      refine readyS (i := 12) (by kernel_rfl) rfl (fun K hK => ?_)
      refine step_appR (α := List UInt8) (by rfl) (.tmp 24) (.tmp 35) 36 (by rfl) w.heap.size 22 _ 24 Tryd.underlying36 infoP rfl A2 n2 c2 _ (by rfl) ho2 _ _ 3 3 _ (by rfl) ⟨_, hlit, hrow⟩ (fun b _ h => .inr h) (by unfold maxLen; have := Hlen.out; omega) (by have := Hlen.out; omega) hbr.size ?_
      intro A8 c8 w6 ho8 hg8 hx8
      have hne : blk A2 c2 ≠ some g := fun e => by have := (hlt2 _ e).2; omega
      have kB8 := Bx.grownO kB hg8 hne
      refine hK _ _ kB8 ?_
      clear hK K
      have hb8 := hbr.grown hg8 hbr.size (fun b hb => (hlt2 b hb).1)
      refine takeS (i := 13) (v := ?_) rfl (by kernel_rfl) (by kernel_rfl) (by kernel_rfl) (by kernel_rfl) (by kernel_rfl) (fun _ _ _ h => h) (Or.inl ⟨by kernel_rfl, ?_⟩) kB8 ?_
      case refine_2 =>
        intro wS hSw
        clear hSw
        go_simp
        try with_reducible rfl
      try simp only [List.getElem_toArray, List.getElem_cons_succ, List.getElem_cons_zero, Act.put, List.setIfInBounds_toArray, List.set_cons_zero, List.set_cons_succ]
      refine doneS (by kernel_rfl) ?_ _
      try simp only [List.getElem_toArray, List.getElem_cons_succ, List.getElem_cons_zero, Act.put, List.setIfInBounds_toArray, List.set_cons_zero, List.set_cons_succ]
      go_wp2
      go_roundw
      case rel => exact ⟨j + 1, by omega, by go_num, hb8, A8, _, c8, rfl, by rw [Hst.out]; exact ho8⟩
      case measure => simp [intOf]; omega
    · obtain rfl : n = j := by omega
      rw [List.take_of_length_le (by have := Hl.out; omega)] at ho2
      have hn2 := ho2.lenR
      rw [partsL_len, Hl.out] at hn2
      obtain ⟨vs, hsl, hpo⟩ := ho2.parts
      have cj := join_any wr A2 n2 c2 vs _ hsl hpo (by omega) (by rw [partsL_flat, List.length_append]; have := numL_le n; have := Hfl.out; have := Hl.out; omega)
      rw [partsL_flat, show numL n ++ (ls.map opBytesL).flatten = opsBytesL ls by unfold opsBytesL; rw [Hl.out]] at cj
      have ca := ajoin_of cj
      have Cj := Lib.hid ca
      clear cj ca hsl hpo
      go_wp2_with fail
      refine Cj.out.mono ?_
      rintro e w9 ⟨A9, n9, c9, rfl, ho9, hb9⟩
      go_wp2
      go_ret2
      exact ⟨A9, n9, c9, rfl, Own.mono ho9 hbr.size, hbr.trans (hb9.mono hbr.size)⟩
end Go.Proofs.YtpjinmiedanebaaDoor
