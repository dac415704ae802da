/-
  What ikey.Read tells of bytes. No condition but sizes.
-/
import Derived.Test.YtiepdafjbblllaaKeyReadP
import Derived.Test.YtiepdafjbblllaaHeld
namespace Go.Proofs.Ytiepdafjbblllaa
open Go.RowKit
set_option maxRecDepth 20000
theorem leval_drop (l : List UInt8) (j : Nat) (hj : j < l.length) : leval (l.drop j) = leval (l.drop (j + 1)) * 256 + (l[j]).toNat := by
  rw [List.drop_eq_getElem_cons hj]
  rfl
set_option maxHeartbeats 8000000 in
theorem kread_any (w : World) (A : Option Addr) (n c : Nat) (p : List UInt8) (h : Sl w 1 A n c (bc p)) (hn : n ≤ 1000000) :
    Calls Try.prog 59 #[.slice A n c] w (GotRead w (keyReadL p)) := by
  have ct := fun (w' : World) (hb : Below w.heap.size w w') => taketext_new w' A n c p (h.below (by omega) hb) (by omega) 64 (by omega)
  have hrl : (takeTextL p 64).2.1.length ≤ 1000000 := by
    have := takeL_len p
    have hl := h.lenb
    unfold takeTextL
    repeat' split
    all_goals simp
    omega
  obtain ⟨res, hres⟩ : ∃ res, keyReadL p = res := ⟨_, rfl⟩
  rw [hres]
  unfold keyReadL at hres
  unfold TookN at ct
  generalize (takeTextL p 64).1 = u at *
  generalize (takeTextL p 64).2.1 = r at *
  generalize (takeTextL p 64).2.2 = q at *
  have Ct := Lib.hid ct
  have Hrl := Lib.hid hrl
  have Hres := Lib.hid hres
  clear ct h hrl hres
  have hk := Bx.fresh w (.slice none 0 0) (.int .u64 0) (.int .u8 0) 25
  have hbA := (Below.refl w.heap.size w).alloc (Nat.le_refl _) (.cells #[.slice none 0 0, .int .u64 0, .int .u8 0] 25)
  go_enter Try.func59, Try.ntmps59
  go_wp2_with fail
  refine (Ct.out _ hbA).mono ?_
  rintro e w1 ⟨A1, n1, c1, B1, m1, d1, rfl, h1, g1, hb1, N1, _⟩
  have hz0 : (w.alloc (.cells #[.slice none 0 0, .int .u64 0, .int .u8 0] 25)).heap.size = w.heap.size + 1 := by simp
  unfold NewAt at N1
  rw [hz0] at N1
  have N1 := Lib.hid N1
  clear hz0
  have q1 := hbA.trans (hb1.mono hbA.size)
  have hk := hk.below hb1
  clear hbA hb1
  obtain ⟨x0, x1, x2, x3⟩ := id hk
  have hr := g1.lenb
  by_cases hq : q = 0
  · subst hq
    have e1 := Hres.out
    rw [if_neg (by simp), hr] at e1
    by_cases hm : m1 < 8
    · rw [if_pos hm] at e1
      have E1 := Lib.hid e1
      clear e1
      have hm' : decide ((m1 : Int) < 8) = true := by rw [decide_eq_true_eq]; omega
      go_wp2_with fail
      refine bodyPost_ret (v := .tuple #[.agg #[.slice none 0 0, .int .u64 0, .int .u8 0], .slice none 0 0, .int .i64 2]) (by simp [results, Try.results59, go_sem, x0, x1, x2]) rfl ?_
      rw [← E1.out]
      refine ⟨none, 0, 0, none, 0, 0, rfl, Sl.nil _ _ _ _ (Nat.zero_le _), Sl.nil _ _ _ _ (Nat.zero_le _), ?_⟩
      iterate 3 refine Below.setCell ?_ (by simp) _
      exact q1
    · -- main
      rw [if_neg hm] at e1
      have E1 := Lib.hid e1
      clear e1
      have hm' : decide ((m1 : Int) < 8) = false := by rw [decide_eq_false_iff_not]; omega
      have hcm := g1.capm
      have hcp := g1.cap
      unfold maxLen at hcm
      have Hr := Lib.hid hr
      have Hm := Lib.hid hm
      clear hm hr
      go_wp2
      go_loopw [8, 9] (fun a i wr => ∃ (j v : Nat) (z : Int), z = 7 - (j : Int) ∧ j ≤ 8 ∧ i = .int .i64 z ∧ a = .int .u64 (v : Int) ∧ Hid (v = leval ((r.take 8).drop (8 - j))) ∧ w1 = wr) (fun _ i _ => (intOf i + 1).toNat)
      case atStart => exact ⟨0, 0, 7, by omega, by omega, rfl, rfl, by unfold Hid; rw [List.drop_of_length_le (by simp; omega)]; rfl, rfl⟩
      case round =>
        obtain ⟨j, v, z, hz, hj, rfl, rfl, Hv, rfl⟩ := hrel
        by_cases hj8 : j < 8
        · obtain ⟨t, ht⟩ : ∃ t : Nat, t = 7 - j := ⟨_, rfl⟩
          obtain rfl : z = (t : Int) := by omega
          have htl : t < r.length := by have := Hr.out; have := Hm.out; omega
          obtain ⟨bb, o, x, rfl, hx, hxl, hcell⟩ := g1.byte htl
          have hl8 : (r.take 8).length = 8 := by have := Hr.out; have := Hm.out; rw [List.length_take]; omega
          have hstep := leval_drop (r.take 8) t (by omega)
          rw [List.getElem_take, hx, show t + 1 = 8 - j by omega, ← Hv.out] at hstep
          have hvb : v < 72057594037927936 := by
            rw [Hv.out]
            have h1 := leval_lt ((r.take 8).drop (8 - j))
            have h2 : (256 : Nat) ^ ((r.take 8).drop (8 - j)).length ≤ 256 ^ 7 := Nat.pow_le_pow_right (by omega) (by rw [List.length_drop, hl8]; omega)
            have : (256 : Nat) ^ 7 = 72057594037927936 := rfl
            omega
          have eo : bits .or .u64 ((v : Int) * 256) (x : Int) = ((v * 256 + x : Nat) : Int) := by
            have h1 := u64_or_nat (v * 256) x (by omega) (by omega)
            rw [nat_join 8 _ _ (by omega) (by omega)] at h1
            rw [← h1]
            simp
          have htm : t < m1 := by have := Hr.out; omega
          have Hstep := Lib.hid hstep
          have Ht := Lib.hid ht
          have Hj8 := Lib.hid hj8
          clear hz hj hj8 ht hstep hx htl hl8
          go_wp2
          go_roundw
          case rel => exact ⟨j + 1, v * 256 + x, (t : Int) - 1, by have := Ht.out; have := Hj8.out; omega, by have := Hj8.out; omega, by simp, by go_num, by unfold Hid; rw [← Hstep.out]; congr 2; have := Ht.out; omega, (by first | rfl | trivial)⟩
          case measure => simp [intOf]
        · obtain rfl : j = 8 := by omega
          obtain rfl : z = -1 := by omega
          have hN := Hv.out
          rw [Nat.sub_self, List.drop_zero] at hN
          have e2 := E1.out
          rw [← hN] at e2
          have hvl : v < 18446744073709551616 := by
            rw [hN]
            have h1 := leval_lt (r.take 8)
            have h2 : (256 : Nat) ^ (r.take 8).length ≤ 256 ^ 8 := Nat.pow_le_pow_right (by omega) (by rw [List.length_take]; omega)
            have : (256 : Nat) ^ 8 = 18446744073709551616 := rfl
            omega
          have k1 : (keyOfN u v).seq.toNat = v / 256 := by
            unfold keyOfN
            rw [UInt64.toNat_ofNat']
            exact Nat.mod_eq_of_lt (by omega)
          have k2 : (keyOfN u v).kind.toNat = v % 256 := by unfold keyOfN; simp
          have cc := fun (w' : World) (h : Sl w' 1 A1 n1 c1 (bc u)) => check_any w' A1 n1 c1 (keyOfN u v) h
          rw [k1, k2] at cc
          have E2 := Lib.hid e2
          have K1 := Lib.hid k1
          have K2 := Lib.hid k2
          clear hj8 hz hj hN hvl e2 k1 k2 Hv
          obtain ⟨ks, eks⟩ : ∃ ks : Nat, v / 256 = ks := ⟨_, rfl⟩
          obtain ⟨kd, ekd⟩ : ∃ kd : Nat, v % 256 = kd := ⟨_, rfl⟩
          have f1 : (v : Int) / 256 = (ks : Int) := by omega
          have f2 : (v : Int) % 256 = (kd : Int) := by omega
          rw [eks, ekd] at cc
          have Cc := Lib.hid cc
          have Eks := Lib.hid eks
          have Ekd := Lib.hid ekd
          clear cc eks ekd
          have z1 := hk.lt
          go_wp2_with fail
          refine nameC ?_
          intro w2 eW
          have bl : Below w1.heap.size w1 w2 := by rw [eW]; exact (Below.refl _ _).alloc (Nat.le_refl _) _
          have kB : Bx w2 w1.heap.size (.slice A1 n1 c1) (.int .u64 (ks : Int)) (.int .u8 (kd : Int)) := by rw [eW]; exact Bx.fresh w1 _ _ _ _
          clear eW x0 x1 x2 x3
          have hk := hk.below bl
          have h1 := h1.below (by omega) bl
          have g1 := g1.below (by omega) bl
          have q2 := q1.trans (bl.mono q1.size)
          obtain ⟨gB, egB⟩ : ∃ gB, gB = w1.heap.size := ⟨_, rfl⟩
          rw [← egB] at kB z1 ⊢
          clear egB bl q1
          obtain ⟨cr, hcr⟩ : ∃ cr, checkKey (keyOfN u v) = cr := ⟨_, rfl⟩
          have Hcr := Lib.hid hcr
          have hc1 := Cc.out w2 h1
          rw [hcr] at hc1
          clear hcr
          refine hc1.mono ?_
          rintro e w3 ⟨rfl, hb3⟩
          have hk := hk.below hb3
          have kB := kB.below hb3
          have h1 := h1.below (by omega) hb3
          have g1 := g1.below (by omega) hb3
          have q3 := q2.trans (hb3.mono q2.size)
          clear hb3 q2 hc1
          by_cases hcr : cr = 0
          · subst hcr
            have e3 := E2.out
            rw [if_neg (by rw [Hcr.out]; simp)] at e3
            have E3 := Lib.hid e3
            clear e3
            obtain ⟨B8, hrun, h8, _⟩ := cutL g1 .i64 8 8 rfl (by have := Hm.out; omega)
            have H8 := Lib.hid h8
            clear h8
            go_wp2_with fail
            have hk := hk.drew
            have kB := kB.drew
            have h1 := h1.drew
            have h8 := H8.out.drew
            have q3 := q3.drew
            refine regionS 7 (fun w' => Bx w' gB (.slice A1 n1 c1) (.int .u64 (ks : Int)) (.int .u8 (kd : Int))) (by kernel_rfl) ?_
            try (change AnyS _ _ _ _ _ _ _ _ _ (World.drew _))
            generalize w3.drew = w4 at *
            refine takeS (i := 0) (v := ?_) rfl (by kernel_rfl) (by kernel_rfl) (by kernel_rfl) (by kernel_rfl) (by kernel_rfl) (fun _ _ _ h => h) (Or.inl ⟨by kernel_rfl, ?_⟩) kB ?_
            case refine_2 =>
              intro wS hSw
              obtain ⟨x0, x1, x2, x3⟩ := hSw
              go_simp
              try with_reducible rfl
            try simp only [List.getElem_toArray, List.getElem_cons_succ, List.getElem_cons_zero, Act.put, List.setIfInBounds_toArray, List.set_cons_zero, List.set_cons_succ]
            refine takeS (i := 1) (v := ?_) rfl (by kernel_rfl) (by kernel_rfl) (by kernel_rfl) (by kernel_rfl) (by kernel_rfl) (fun _ _ _ h => h) (Or.inl ⟨by kernel_rfl, ?_⟩) kB ?_
            case refine_2 =>
              intro wS hSw
              clear hSw
              go_simp
              try with_reducible rfl
            try simp only [List.getElem_toArray, List.getElem_cons_succ, List.getElem_cons_zero, Act.put, List.setIfInBounds_toArray, List.set_cons_zero, List.set_cons_succ]
            refine takeS (i := 2) (v := ?_) rfl (by kernel_rfl) (by kernel_rfl) (by kernel_rfl) (by kernel_rfl) (by kernel_rfl) (fun _ _ _ h => h) (Or.inl ⟨by kernel_rfl, ?_⟩) kB ?_
            case refine_2 =>
              intro wS hSw
              clear hSw
              go_simp
              try with_reducible rfl
            try simp only [List.getElem_toArray, List.getElem_cons_succ, List.getElem_cons_zero, Act.put, List.setIfInBounds_toArray, List.set_cons_zero, List.set_cons_succ]
            refine readyS (i := 3) (by kernel_rfl) rfl (fun K hK => ?_)
            go_simp
            refine (clone_any w4 B8 (m1 - 8) (d1 - 8) _ h8 (by have := Hr.out; have := Hrl.out; omega)).mono ?_
            rintro e w5 ⟨A5, n5, c5, rfl, ho5, hb5⟩
            refine hK _ _ (kB.below hb5) ?_
            clear hK K
            have kB := kB.below hb5
            have zk4 := hk.lt
            have hk := hk.below hb5
            have h1 := h1.below (by omega) hb5
            have h5 := ho5.sl
            have z5 := hb5.size
            have zk := hk.lt
            have q5 := q3.trans (hb5.mono q3.size)
            clear hb5 h8
            obtain ⟨x0, x1, x2, x3⟩ := id hk
            refine readyS (i := 4) (by kernel_rfl) rfl (fun K hK => ?_)
            go_simp
            obtain ⟨w6, e6⟩ : ∃ w', w' = ((w5.setCell ⟨w.heap.size, 0, none⟩ (.slice A1 n1 c1)).setCell ⟨w.heap.size, 1, none⟩ (.int .u64 (ks : Int))).setCell ⟨w.heap.size, 2, none⟩ (.int .u8 (kd : Int)) := ⟨_, rfl⟩
            rw [← e6]
            obtain ⟨hk, g6⟩ := hk.set e6
            clear e6 x0 x1 x2 x3
            have kB := kB.grown g6 (by omega)
            refine hK _ _ kB ?_
            clear hK K
            refine takeS (i := 5) (v := ?_) rfl (by kernel_rfl) (by kernel_rfl) (by kernel_rfl) (by kernel_rfl) (by kernel_rfl) (fun _ _ _ h => h) (Or.inl ⟨by kernel_rfl, ?_⟩) kB ?_
            case refine_2 =>
              intro wS hSw
              clear hSw
              go_simp
              try with_reducible rfl
            try simp only [List.getElem_toArray, List.getElem_cons_succ, List.getElem_cons_zero, Act.put, List.setIfInBounds_toArray, List.set_cons_zero, List.set_cons_succ]
            refine takeS (i := 6) (v := ?_) rfl (by kernel_rfl) (by kernel_rfl) (by kernel_rfl) (by kernel_rfl) (by kernel_rfl) (fun _ _ _ h => h) (Or.inl ⟨by kernel_rfl, ?_⟩) kB ?_
            case refine_2 =>
              intro wS hSw
              clear hSw
              go_simp
              try with_reducible rfl
            try simp only [List.getElem_toArray, List.getElem_cons_succ, List.getElem_cons_zero, Act.put, List.setIfInBounds_toArray, List.set_cons_zero, List.set_cons_succ]
            refine doneS (by kernel_rfl) ?_ _
            try simp only [List.getElem_toArray, List.getElem_cons_succ, List.getElem_cons_zero, Act.put, List.setIfInBounds_toArray, List.set_cons_zero, List.set_cons_succ]
            go_wp2_with fail
            obtain ⟨x0, x1, x2, x3⟩ := id hk
            refine bodyPost_ret (v := .tuple #[.agg #[.slice A1 n1 c1, .int .u64 (ks : Int), .int .u8 (kd : Int)], .slice A5 n5 c5, .int .i64 0]) (by simp [results, Try.results59, go_sem, x0, x1, x2]) rfl ?_
            rw [← E3.out]
            refine ⟨A1, n1, c1, A5, n5, c5, (by simp only [K1.out, K2.out, Eks.out, Ekd.out] <;> rfl), h1.grown (by omega) g6 (fun hn b e q => by have := N1.out b hn e; simp at q; omega), h5.grown (by omega) g6 (fun hn b e q => by have := own_new (w := w4) ho5 (Nat.le_refl _) b hn e; simp at q; omega), q5.grown g6 q5.size (fun k e => by simp at e; omega)⟩
          · have e3 := E2.out
            rw [if_pos (by rw [Hcr.out]; exact hcr)] at e3
            have E3 := Lib.hid e3
            have hc1 : ((cr : Int) == 0) = false := by rw [beq_eq_false_iff_ne]; omega
            have hc2 : ((cr : Int) != 0) = true := by rw [bne_iff_ne]; omega
            clear e3 hcr
            obtain ⟨x0, x1, x2, x3⟩ := id hk
            go_wp2_with fail
            refine bodyPost_ret (v := .tuple #[.agg #[.slice none 0 0, .int .u64 0, .int .u8 0], .slice none 0 0, .int .i64 4]) (by simp [results, Try.results59, go_sem, x0, x1, x2]) rfl ?_
            rw [← E3.out]
            refine ⟨none, 0, 0, none, 0, 0, rfl, Sl.nil _ _ _ _ (Nat.zero_le _), Sl.nil _ _ _ _ (Nat.zero_le _), ?_⟩
            iterate 3 refine Below.setCell ?_ (by simp) _
            exact q3
  · have e1 := Hres.out
    rw [if_pos hq] at e1
    have E1 := Lib.hid e1
    clear e1
    have hq1 : ((q : Int) == 0) = false := by rw [beq_eq_false_iff_ne]; omega
    have hq2 : ((q : Int) != 0) = true := by rw [bne_iff_ne]; omega
    clear hq
    go_wp2_with fail
    refine bodyPost_ret (v := .tuple #[.agg #[.slice none 0 0, .int .u64 0, .int .u8 0], .slice none 0 0, .int .i64 (q : Int)]) (by simp [results, Try.results59, go_sem, x0, x1, x2]) rfl ?_
    rw [← E1.out]
    refine ⟨none, 0, 0, none, 0, 0, rfl, Sl.nil _ _ _ _ (Nat.zero_le _), Sl.nil _ _ _ _ (Nat.zero_le _), ?_⟩
    iterate 3 refine Below.setCell ?_ (by simp) _
    exact q1
end Go.Proofs.Ytiepdafjbblllaa
