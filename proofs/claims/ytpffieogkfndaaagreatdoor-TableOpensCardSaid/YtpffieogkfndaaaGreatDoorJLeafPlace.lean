/-
  KeyReadW, LeafPlace in one text. No condition but sizes.
-/
import Derived.Test.YtpffieogkfndaaaGreatDoorJBloomRef
import Derived.Test.YtpffieogkfndaaaGreatDoorJHeld
import Derived.Test.YtpffieogkfndaaaGreatDoorJSetWalk
import Derived.Test.YtpffieogkfndaaaGreatDoorJKeyWalk
namespace Go.Proofs.YtpffieogkfndaaaGreatDoor
open Go.RowKit
set_option maxRecDepth 20000
set_option linter.unusedVariables false
set_option linter.unusedSimpArgs false
theorem leval_drop (l : List UInt8) (j : Nat) (hj : j < l.length) : leval (l.drop j) = leval (l.drop (j + 1)) * 256 + (l[j]).toNat := by
  rw [List.drop_eq_getElem_cons hj]
  rfl
/-- as GotRead; the version's user lies in new memory -/
def GotReadN (w : World) (r : KeyL × List UInt8 × Nat) (e : Ending) (w' : World) : Prop :=
  ∃ (A : Option Addr) (n c : Nat) (B : Option Addr) (m d : Nat), e = .returned (.tuple #[.agg #[.slice A n c, .int .u64 (r.1.seq.toNat : Int), .int .u8 (r.1.kind.toNat : Int)], .slice B m d, .int .i64 (r.2.2 : Int)]) ∧
    Sl w' 1 A n c (bc r.1.user) ∧ Sl w' 1 B m d (bc r.2.1) ∧ Below w.heap.size w w' ∧ ∀ b, 0 < n → A.map (·.block) = some b → w.heap.size ≤ b
set_option maxHeartbeats 8000000 in
theorem kread_new (w : World) (A : Option Addr) (n c : Nat) (p : List UInt8) (h : Sl w 1 A n c (bc p)) (hn : n ≤ 1000000) :
    Calls Tryz.prog 103 #[.slice A n c] w (GotReadN w (keyReadL p)) := by
  have ct := fun (w' : World) (hb : Below w.heap.size w w') => taketext_new w' A n c p (h.below (by omega) hb) (by omega) 64 (by omega)
  have hrl : (takeTextL p 64).2.1.length ≤ 1000000 := by
    have := takeL_len p
    have hl := h.lenb
    unfold takeTextL
    repeat' split
    all_goals simp
    omega
  obtain ⟨res, hres⟩ : ∃ res, keyReadL p = res := ⟨_, rfl⟩
  rw [hres]
  unfold keyReadL at hres
  unfold TookN at ct
  generalize (takeTextL p 64).1 = u at *
  generalize (takeTextL p 64).2.1 = r at *
  generalize (takeTextL p 64).2.2 = q at *
  have Ct := Lib.hid ct
  have Hrl := Lib.hid hrl
  have Hres := Lib.hid hres
  clear ct h hrl hres
  have hk := Bx.fresh w (.slice none 0 0) (.int .u64 0) (.int .u8 0) 67
  have hbA := (Below.refl w.heap.size w).alloc (Nat.le_refl _) (.cells #[.slice none 0 0, .int .u64 0, .int .u8 0] 67)
  go_enter Tryz.func103, Tryz.ntmps103
  go_wp2_with fail
  refine (Ct.out _ hbA).mono ?_
  rintro e w1 ⟨A1, n1, c1, B1, m1, d1, rfl, h1, g1, hb1, N1, _⟩
  have hz0 : (w.alloc (.cells #[.slice none 0 0, .int .u64 0, .int .u8 0] 67)).heap.size = w.heap.size + 1 := by simp
  unfold NewAt at N1
  rw [hz0] at N1
  have N1 := Lib.hid N1
  clear hz0
  have q1 := hbA.trans (hb1.mono hbA.size)
  have hk := hk.below hb1
  clear hbA hb1
  obtain ⟨x0, x1, x2, x3⟩ := id hk
  have hr := g1.lenb
  by_cases hq : q = 0
  · subst hq
    have e1 := Hres.out
    rw [if_neg (by simp), hr] at e1
    by_cases hm : m1 < 8
    · rw [if_pos hm] at e1
      have E1 := Lib.hid e1
      clear e1
      have hm' : decide ((m1 : Int) < 8) = true := by rw [decide_eq_true_eq]; omega
      go_wp2_with fail
      refine bodyPost_ret (v := .tuple #[.agg #[.slice none 0 0, .int .u64 0, .int .u8 0], .slice none 0 0, .int .i64 2]) (by simp [results, Tryz.results103, go_sem, x0, x1, x2]) rfl ?_
      rw [← E1.out]
      refine ⟨none, 0, 0, none, 0, 0, rfl, Sl.nil _ _ _ _ (Nat.zero_le _), Sl.nil _ _ _ _ (Nat.zero_le _), ?_, fun b hn => absurd hn (by omega)⟩
      iterate 3 refine Below.setCell ?_ (by simp) _
      exact q1
    · -- main
      rw [if_neg hm] at e1
      have E1 := Lib.hid e1
      clear e1
      have hm' : decide ((m1 : Int) < 8) = false := by rw [decide_eq_false_iff_not]; omega
      have hcm := g1.capm
      have hcp := g1.cap
      unfold maxLen at hcm
      have Hr := Lib.hid hr
      have Hm := Lib.hid hm
      clear hm hr
      go_wp2
      go_loopw [8, 9] (fun a i wr => ∃ (j v : Nat) (z : Int), z = 7 - (j : Int) ∧ j ≤ 8 ∧ i = .int .i64 z ∧ a = .int .u64 (v : Int) ∧ Hid (v = leval ((r.take 8).drop (8 - j))) ∧ w1 = wr) (fun _ i _ => (intOf i + 1).toNat)
      case atStart => exact ⟨0, 0, 7, by omega, by omega, rfl, rfl, by unfold Hid; rw [List.drop_of_length_le (by simp; omega)]; rfl, rfl⟩
      case round =>
        obtain ⟨j, v, z, hz, hj, rfl, rfl, Hv, rfl⟩ := hrel
        by_cases hj8 : j < 8
        · obtain ⟨t, ht⟩ : ∃ t : Nat, t = 7 - j := ⟨_, rfl⟩
          obtain rfl : z = (t : Int) := by omega
          have htl : t < r.length := by have := Hr.out; have := Hm.out; omega
          obtain ⟨bb, o, x, rfl, hx, hxl, hcell⟩ := g1.byte htl
          have hl8 : (r.take 8).length = 8 := by have := Hr.out; have := Hm.out; rw [List.length_take]; omega
          have hstep := leval_drop (r.take 8) t (by omega)
          rw [List.getElem_take, hx, show t + 1 = 8 - j by omega, ← Hv.out] at hstep
          have hvb : v < 72057594037927936 := by
            rw [Hv.out]
            have h1 := leval_lt ((r.take 8).drop (8 - j))
            have h2 : (256 : Nat) ^ ((r.take 8).drop (8 - j)).length ≤ 256 ^ 7 := Nat.pow_le_pow_right (by omega) (by rw [List.length_drop, hl8]; omega)
            have : (256 : Nat) ^ 7 = 72057594037927936 := rfl
            omega
          have eo : bits .or .u64 ((v : Int) * 256) (x : Int) = ((v * 256 + x : Nat) : Int) := by
            have h1 := u64_or_nat (v * 256) x (by omega) (by omega)
            rw [nat_join 8 _ _ (by omega) (by omega)] at h1
            rw [← h1]
            simp
          have htm : t < m1 := by have := Hr.out; omega
          have Hstep := Lib.hid hstep
          have Ht := Lib.hid ht
          have Hj8 := Lib.hid hj8
          clear hz hj hj8 ht hstep hx htl hl8
          go_wp2
          go_roundw
          case rel => exact ⟨j + 1, v * 256 + x, (t : Int) - 1, by have := Ht.out; have := Hj8.out; omega, by have := Hj8.out; omega, by simp, by go_num, by unfold Hid; rw [← Hstep.out]; congr 2; have := Ht.out; omega, (by first | rfl | trivial)⟩
          case measure => simp [intOf]
        · obtain rfl : j = 8 := by omega
          obtain rfl : z = -1 := by omega
          have hN := Hv.out
          rw [Nat.sub_self, List.drop_zero] at hN
          have e2 := E1.out
          rw [← hN] at e2
          have hvl : v < 18446744073709551616 := by
            rw [hN]
            have h1 := leval_lt (r.take 8)
            have h2 : (256 : Nat) ^ (r.take 8).length ≤ 256 ^ 8 := Nat.pow_le_pow_right (by omega) (by rw [List.length_take]; omega)
            have : (256 : Nat) ^ 8 = 18446744073709551616 := rfl
            omega
          have k1 : (keyOfN u v).seq.toNat = v / 256 := by
            unfold keyOfN
            rw [UInt64.toNat_ofNat']
            exact Nat.mod_eq_of_lt (by omega)
          have k2 : (keyOfN u v).kind.toNat = v % 256 := by unfold keyOfN; simp
          have cc := fun (w' : World) (h : Sl w' 1 A1 n1 c1 (bc u)) => check_any w' A1 n1 c1 (keyOfN u v) h
          rw [k1, k2] at cc
          have E2 := Lib.hid e2
          have K1 := Lib.hid k1
          have K2 := Lib.hid k2
          clear hj8 hz hj hN hvl e2 k1 k2 Hv
          obtain ⟨ks, eks⟩ : ∃ ks : Nat, v / 256 = ks := ⟨_, rfl⟩
          obtain ⟨kd, ekd⟩ : ∃ kd : Nat, v % 256 = kd := ⟨_, rfl⟩
          have f1 : (v : Int) / 256 = (ks : Int) := by omega
          have f2 : (v : Int) % 256 = (kd : Int) := by omega
          rw [eks, ekd] at cc
          have Cc := Lib.hid cc
          have Eks := Lib.hid eks
          have Ekd := Lib.hid ekd
          clear cc eks ekd
          have z1 := hk.lt
          go_wp2_with fail
          refine nameC ?_
          intro w2 eW
          have bl : Below w1.heap.size w1 w2 := by rw [eW]; exact (Below.refl _ _).alloc (Nat.le_refl _) _
          have kB : Bx w2 w1.heap.size (.slice A1 n1 c1) (.int .u64 (ks : Int)) (.int .u8 (kd : Int)) := by rw [eW]; exact Bx.fresh w1 _ _ _ _
          clear eW x0 x1 x2 x3
          have hk := hk.below bl
          have h1 := h1.below (by omega) bl
          have g1 := g1.below (by omega) bl
          have q2 := q1.trans (bl.mono q1.size)
          obtain ⟨gB, egB⟩ : ∃ gB, gB = w1.heap.size := ⟨_, rfl⟩
          rw [← egB] at kB z1 ⊢
          clear egB bl q1
          obtain ⟨cr, hcr⟩ : ∃ cr, checkKey (keyOfN u v) = cr := ⟨_, rfl⟩
          have Hcr := Lib.hid hcr
          have hc1 := Cc.out w2 h1
          rw [hcr] at hc1
          clear hcr
          refine hc1.mono ?_
          rintro e w3 ⟨rfl, hb3⟩
          have hk := hk.below hb3
          have kB := kB.below hb3
          have h1 := h1.below (by omega) hb3
          have g1 := g1.below (by omega) hb3
          have q3 := q2.trans (hb3.mono q2.size)
          clear hb3 q2 hc1
          by_cases hcr : cr = 0
          · subst hcr
            have e3 := E2.out
            rw [if_neg (by rw [Hcr.out]; simp)] at e3
            have E3 := Lib.hid e3
            clear e3
            obtain ⟨B8, hrun, h8, _⟩ := cutL g1 .i64 8 8 rfl (by have := Hm.out; omega)
            have H8 := Lib.hid h8
            clear h8
            go_wp2_with fail
            have hk := hk.drew
            have kB := kB.drew
            have h1 := h1.drew
            have h8 := H8.out.drew
            have q3 := q3.drew
            refine regionS 7 (fun w' => Bx w' gB (.slice A1 n1 c1) (.int .u64 (ks : Int)) (.int .u8 (kd : Int))) (by kernel_rfl) ?_
            try (change AnyS _ _ _ _ _ _ _ _ _ (World.drew _))
            generalize w3.drew = w4 at *
            refine takeS (i := 0) (v := ?_) rfl (by kernel_rfl) (by kernel_rfl) (by kernel_rfl) (by kernel_rfl) (by kernel_rfl) (fun _ _ _ h => h) (Or.inl ⟨by kernel_rfl, ?_⟩) kB ?_
            case refine_2 =>
              intro wS hSw
              obtain ⟨x0, x1, x2, x3⟩ := hSw
              go_simp
              try with_reducible rfl
            try simp only [List.getElem_toArray, List.getElem_cons_succ, List.getElem_cons_zero, Act.put, List.setIfInBounds_toArray, List.set_cons_zero, List.set_cons_succ]
            refine takeS (i := 1) (v := ?_) rfl (by kernel_rfl) (by kernel_rfl) (by kernel_rfl) (by kernel_rfl) (by kernel_rfl) (fun _ _ _ h => h) (Or.inl ⟨by kernel_rfl, ?_⟩) kB ?_
            case refine_2 =>
              intro wS hSw
              clear hSw
              go_simp
              try with_reducible rfl
            try simp only [List.getElem_toArray, List.getElem_cons_succ, List.getElem_cons_zero, Act.put, List.setIfInBounds_toArray, List.set_cons_zero, List.set_cons_succ]
            refine takeS (i := 2) (v := ?_) rfl (by kernel_rfl) (by kernel_rfl) (by kernel_rfl) (by kernel_rfl) (by kernel_rfl) (fun _ _ _ h => h) (Or.inl ⟨by kernel_rfl, ?_⟩) kB ?_
            case refine_2 =>
              intro wS hSw
              clear hSw
              go_simp
              try with_reducible rfl
            try simp only [List.getElem_toArray, List.getElem_cons_succ, List.getElem_cons_zero, Act.put, List.setIfInBounds_toArray, List.set_cons_zero, List.set_cons_succ]
            refine readyS (i := 3) (by kernel_rfl) rfl (fun K hK => ?_)
            go_simp
            refine (clone_any w4 B8 (m1 - 8) (d1 - 8) _ h8 (by have := Hr.out; have := Hrl.out; omega)).mono ?_
            rintro e w5 ⟨A5, n5, c5, rfl, ho5, hb5⟩
            refine hK _ _ (kB.below hb5) ?_
            clear hK K
            have kB := kB.below hb5
            have zk4 := hk.lt
            have hk := hk.below hb5
            have h1 := h1.below (by omega) hb5
            have h5 := ho5.sl
            have z5 := hb5.size
            have zk := hk.lt
            have q5 := q3.trans (hb5.mono q3.size)
            clear hb5 h8
            obtain ⟨x0, x1, x2, x3⟩ := id hk
            refine readyS (i := 4) (by kernel_rfl) rfl (fun K hK => ?_)
            go_simp
            obtain ⟨w6, e6⟩ : ∃ w', w' = ((w5.setCell ⟨w.heap.size, 0, none⟩ (.slice A1 n1 c1)).setCell ⟨w.heap.size, 1, none⟩ (.int .u64 (ks : Int))).setCell ⟨w.heap.size, 2, none⟩ (.int .u8 (kd : Int)) := ⟨_, rfl⟩
            rw [← e6]
            obtain ⟨hk, g6⟩ := hk.set e6
            clear e6 x0 x1 x2 x3
            have kB := kB.grown g6 (by omega)
            refine hK _ _ kB ?_
            clear hK K
            refine takeS (i := 5) (v := ?_) rfl (by kernel_rfl) (by kernel_rfl) (by kernel_rfl) (by kernel_rfl) (by kernel_rfl) (fun _ _ _ h => h) (Or.inl ⟨by kernel_rfl, ?_⟩) kB ?_
            case refine_2 =>
              intro wS hSw
              clear hSw
              go_simp
              try with_reducible rfl
            try simp only [List.getElem_toArray, List.getElem_cons_succ, List.getElem_cons_zero, Act.put, List.setIfInBounds_toArray, List.set_cons_zero, List.set_cons_succ]
            refine takeS (i := 6) (v := ?_) rfl (by kernel_rfl) (by kernel_rfl) (by kernel_rfl) (by kernel_rfl) (by kernel_rfl) (fun _ _ _ h => h) (Or.inl ⟨by kernel_rfl, ?_⟩) kB ?_
            case refine_2 =>
              intro wS hSw
              clear hSw
              go_simp
              try with_reducible rfl
            try simp only [List.getElem_toArray, List.getElem_cons_succ, List.getElem_cons_zero, Act.put, List.setIfInBounds_toArray, List.set_cons_zero, List.set_cons_succ]
            refine doneS (by kernel_rfl) ?_ _
            try simp only [List.getElem_toArray, List.getElem_cons_succ, List.getElem_cons_zero, Act.put, List.setIfInBounds_toArray, List.set_cons_zero, List.set_cons_succ]
            go_wp2_with fail
            obtain ⟨x0, x1, x2, x3⟩ := id hk
            refine bodyPost_ret (v := .tuple #[.agg #[.slice A1 n1 c1, .int .u64 (ks : Int), .int .u8 (kd : Int)], .slice A5 n5 c5, .int .i64 0]) (by simp [results, Tryz.results103, go_sem, x0, x1, x2]) rfl ?_
            rw [← E3.out]
            refine ⟨A1, n1, c1, A5, n5, c5, (by simp only [K1.out, K2.out, Eks.out, Ekd.out] <;> rfl), h1.grown (by omega) g6 (fun hn b e q => by have := N1.out b hn e; simp at q; omega), h5.grown (by omega) g6 (fun hn b e q => by have := own_new (w := w4) ho5 (Nat.le_refl _) b hn e; simp at q; omega), q5.grown g6 q5.size (fun k e => by simp at e; omega), fun b hn e => by have := N1.out b hn e; omega⟩
          · have e3 := E2.out
            rw [if_pos (by rw [Hcr.out]; exact hcr)] at e3
            have E3 := Lib.hid e3
            have hc1 : ((cr : Int) == 0) = false := by rw [beq_eq_false_iff_ne]; omega
            have hc2 : ((cr : Int) != 0) = true := by rw [bne_iff_ne]; omega
            clear e3 hcr
            obtain ⟨x0, x1, x2, x3⟩ := id hk
            go_wp2_with fail
            refine bodyPost_ret (v := .tuple #[.agg #[.slice none 0 0, .int .u64 0, .int .u8 0], .slice none 0 0, .int .i64 4]) (by simp [results, Tryz.results103, go_sem, x0, x1, x2]) rfl ?_
            rw [← E3.out]
            refine ⟨none, 0, 0, none, 0, 0, rfl, Sl.nil _ _ _ _ (Nat.zero_le _), Sl.nil _ _ _ _ (Nat.zero_le _), ?_, fun b hn => absurd hn (by omega)⟩
            iterate 3 refine Below.setCell ?_ (by simp) _
            exact q3
  · have e1 := Hres.out
    rw [if_pos hq] at e1
    have E1 := Lib.hid e1
    clear e1
    have hq1 : ((q : Int) == 0) = false := by rw [beq_eq_false_iff_ne]; omega
    have hq2 : ((q : Int) != 0) = true := by rw [bne_iff_ne]; omega
    clear hq
    go_wp2_with fail
    refine bodyPost_ret (v := .tuple #[.agg #[.slice none 0 0, .int .u64 0, .int .u8 0], .slice none 0 0, .int .i64 (q : Int)]) (by simp [results, Tryz.results103, go_sem, x0, x1, x2]) rfl ?_
    rw [← E1.out]
    refine ⟨none, 0, 0, none, 0, 0, rfl, Sl.nil _ _ _ _ (Nat.zero_le _), Sl.nil _ _ _ _ (Nat.zero_le _), ?_, fun b hn => absurd hn (by omega)⟩
    iterate 3 refine Below.setCell ?_ (by simp) _
    exact q1
end Go.Proofs.YtpffieogkfndaaaGreatDoor

namespace Go.Proofs.YtpffieogkfndaaaGreatDoor
open Go.RowKit
set_option maxRecDepth 20000
set_option linter.unusedVariables false
set_option linter.unusedSimpArgs false
set_option maxHeartbeats 4000000 in
theorem search_any (w : World) (n : Nat) (hn : n ≤ 1000000) (p1 p2 : Addr) (f : Nat → Bool)
    (hf : ∀ (h : Nat) (w' : World), h < n → Below w.heap.size w w' → Calls Tryz.prog 123 #[.int .i64 (h : Int), .pointer (some p1), .pointer (some p2)] w' fun e w'' => e = .returned (.bool (f h)) ∧ Below w'.heap.size w' w'') :
    Calls Tryz.prog 122 #[.int .i64 (n : Int), .func (.func 123) #[] #[.pointer (some p1), .pointer (some p2)]] w fun e w' => ∃ i : Nat, i ≤ n ∧ (i = 0 ∨ f (i - 1) = false) ∧ (i = n ∨ f i = true) ∧ e = .returned (.int .i64 (i : Int)) ∧ Below w.heap.size w w' := by
  have Hf := Lib.hid hf
  clear hf
  go_enter Tryz.func122, Tryz.ntmps122
  go_wp2
  go_loopw [5, 6] (fun i j wr => ∃ a b : Nat, a ≤ b ∧ b ≤ n ∧ i = .int .i64 (a : Int) ∧ j = .int .i64 (b : Int) ∧ Hid (a = 0 ∨ f (a - 1) = false) ∧ Hid (b = n ∨ f b = true) ∧ Below w.heap.size w wr) (fun i j _ => (intOf j - intOf i).toNat)
  case atStart => exact ⟨0, n, Nat.zero_le _, Nat.le_refl _, rfl, rfl, Lib.hid (.inl rfl), Lib.hid (.inl rfl), Below.refl _ _⟩
  case round =>
    obtain ⟨a, b, hab, hbn, rfl, rfl, Ha, Hb, hbr⟩ := hrel
    by_cases hlt : a < b
    case neg =>
      obtain rfl : a = b := by omega
      go_wp2
      go_ret
      exact ⟨a, hbn, Ha.out, Hb.out, rfl, hbr⟩
    obtain ⟨h, hh⟩ : ∃ h, (a + b) / 2 = h := ⟨_, rfl⟩
    have hah : a ≤ h := by omega
    have hhb : h < b := by omega
    have e1 : ((a : Int) + (b : Int)) / 2 = (h : Int) := by omega
    have e2 : IntKind.u64.wrap ((a : Int) + (b : Int)) = (a : Int) + (b : Int) := by rw [IntKind.wrap_u64]; omega
    have hc := Hf.out h wr (by omega) hbr
    obtain ⟨fh, hfh⟩ : ∃ fh, f h = fh := ⟨_, rfl⟩
    rw [hfh] at hc
    have Hfh := Lib.hid hfh
    have hn1 : h ≤ 1000000 := by omega
    clear hh hfh
    go_wp2_with fail
    refine hc.mono ?_
    rintro e w1 ⟨rfl, hb1⟩
    have hbr := hbr.trans (hb1.mono hbr.size)
    clear hb1 e1 e2 hc
    cases fh
    · go_wp2
      go_roundw
      case rel => exact ⟨h + 1, b, by omega, hbn, by go_num, rfl, Lib.hid (.inr (by rw [Nat.add_sub_cancel]; exact Hfh.out)), Hb, hbr⟩
      case measure => simp [intOf]; omega
    · go_wp2
      go_roundw
      case rel => exact ⟨a, h, hah, by omega, rfl, rfl, Ha, Lib.hid (.inr Hfh.out), hbr⟩
      case measure => simp [intOf]; omega
set_option maxHeartbeats 4000000 in
theorem place1_any (w : World) (p : Nat → Prop) (A : Option Addr) (n c : Nat) (ls : List EntL) (h : SlR w p A n c ls) (g1 g2 : Nat) (kp : w.cell? ⟨g1, 0, none⟩ = some (.slice A n c))
    (A2 : Option Addr) (n2 c2 : Nat) (k : KeyL) (s2 : Sl w 1 A2 n2 c2 (bc k.user)) (s d : Nat) (hs : k.seq.toNat = s) (hd : k.kind.toNat = d) (kK : Bx w g2 (.slice A2 n2 c2) (.int .u64 (s : Int)) (.int .u8 (d : Int))) (i : Nat) (hi : i < n) (hn : n ≤ 1000000) (b : Bool) (hb : ∀ x, ls[i]? = some x → (!lessKey x.key k) = b) :
    Calls Tryz.prog 123 #[.int .i64 (i : Int), .pointer (some ⟨g1, 0, none⟩), .pointer (some ⟨g2, 0, none⟩)] w fun e w'' => e = .returned (.bool b) ∧ Below w.heap.size w w'' := by
  obtain ⟨bb, o, A3, n3, c3, A4, n4, c4, hjl, rfl, d0, d1, d2, d3, g3, g4⟩ := h.entAt hi
  have hbb := hb ls[i] (List.getElem?_eq_getElem hjl)
  have hv : decide (cmpKey ls[i].key k < 0) = !b := by rw [cmpKey_less, ← hbb]; simp
  have kp : (World.drew w).cell? _ = _ := kp
  have kK := kK.drew
  have d0 : (World.drew w).cell? _ = _ := d0
  have d1 : (World.drew w).cell? _ = _ := d1
  have d2 : (World.drew w).cell? _ = _ := d2
  have g3 := g3.drew
  have s2 := s2.drew
  have hq : Below w.heap.size w (World.drew w) := below_drew (Below.refl _ _)
  generalize hW : World.drew w = w0 at *
  have cm := fun w' (hb : Below w0.heap.size w0 w') => compare_any w' A3 n3 c3 ls[i].key (g3.below (by omega) hb) A2 n2 c2 k (s2.below (by omega) hb)
  rw [hs, hd] at cm
  generalize cmpKey ls[i].key k = v at *
  generalize ls[i].key.seq.toNat = s3 at *
  generalize ls[i].key.kind.toNat = d3 at *
  have Cm := Lib.hid cm
  have Hv := Lib.hid hv
  clear cm hv hb hbb g4 s2 hs hd
  go_enter Tryz.func123, Tryz.ntmps123
  go_wp2_with fail
  cases b
  · have hv : decide (v < 0) = true := Hv.out
    have hv := of_decide_eq_true hv
    have i1 : decide (0 ≤ v) = false := decide_eq_false (by omega)
    clear hv
    refine regionF (fun _ wa wb => Below w0.heap.size w0 wa → Below w0.heap.size w0 wb) (by kernel_rfl) ?_
    rw [hW]
    clear hW
    have hX := Below.refl w0.heap.size w0
    refine takeP (i := 0) (v := ?_) rfl hX ?hy ?_
    case hy =>
      intro wS hSw
      have kp := stays hSw kp
      clear hSw
      go_simp
      try with_reducible rfl
    refine takeT (i := 1) (v := ?_) rfl ?hy ?_
    case hy => intro wS; go_simp; try with_reducible rfl
    refine takeT (i := 2) (v := ?_) rfl ?hy ?_
    case hy => intro wS; go_simp; try with_reducible rfl
    refine takeT (i := 3) (v := ?_) rfl ?hy ?_
    case hy => intro wS; go_simp; try with_reducible rfl
    refine takeP (i := 4) (v := ?_) rfl hX ?hy ?_
    case hy =>
      intro wS hSw
      have d0 := stays hSw d0
      have d1 := stays hSw d1
      have d2 := stays hSw d2
      clear hSw
      go_simp
      try with_reducible rfl
    refine takeP (i := 5) (v := ?_) rfl hX ?hy ?_
    case hy =>
      intro wS hSw
      obtain ⟨x0, x1, x2, x3⟩ := kK.below hSw
      clear hSw
      go_simp
      try with_reducible rfl
    try simp only [List.getElem_toArray, List.getElem_cons_succ, List.getElem_cons_zero, Act.put, List.setIfInBounds_toArray, List.set_cons_zero, List.set_cons_succ]
    refine readyF (rs := [6]) (by kernel_rfl) (by simp) ?_
    refine AllF.cons rfl (fun K hK => ?_) AllF.nil
    go_simp
    refine (Cm.out _ hX).mono ?_
    rintro e w0_6 ⟨rfl, hb⟩
    refine hK _ _ (fun h => h.trans (hb.mono h.size)) ?_
    clear hK K
    have hX := hX.trans (hb.mono hX.size)
    clear hb
    refine takeT (i := 7) (v := ?_) rfl ?hy ?_
    case hy => intro wS; go_simp; try with_reducible rfl
    refine takeT (i := 8) (v := ?_) rfl ?hy ?_
    case hy => intro wS; go_simp; try with_reducible rfl
    try simp only [List.getElem_toArray, List.getElem_cons_succ, List.getElem_cons_zero, Act.put, List.setIfInBounds_toArray, List.set_cons_zero, List.set_cons_succ]
    refine doneF (by kernel_rfl) ?_ _
    try simp only [List.getElem_toArray, List.getElem_cons_succ, List.getElem_cons_zero, Act.put, List.setIfInBounds_toArray, List.set_cons_zero, List.set_cons_succ]
    go_wp2
    go_ret
    exact ⟨rfl, hq.trans (hX.mono hq.size)⟩
  · have hv : decide (v < 0) = false := Hv.out
    have hv := of_decide_eq_false hv
    have i1 : decide (0 ≤ v) = true := decide_eq_true (by omega)
    clear hv
    refine regionF (fun _ wa wb => Below w0.heap.size w0 wa → Below w0.heap.size w0 wb) (by kernel_rfl) ?_
    rw [hW]
    clear hW
    have hX := Below.refl w0.heap.size w0
    refine takeP (i := 0) (v := ?_) rfl hX ?hy ?_
    case hy =>
      intro wS hSw
      have kp := stays hSw kp
      clear hSw
      go_simp
      try with_reducible rfl
    refine takeT (i := 1) (v := ?_) rfl ?hy ?_
    case hy => intro wS; go_simp; try with_reducible rfl
    refine takeT (i := 2) (v := ?_) rfl ?hy ?_
    case hy => intro wS; go_simp; try with_reducible rfl
    refine takeT (i := 3) (v := ?_) rfl ?hy ?_
    case hy => intro wS; go_simp; try with_reducible rfl
    refine takeP (i := 4) (v := ?_) rfl hX ?hy ?_
    case hy =>
      intro wS hSw
      have d0 := stays hSw d0
      have d1 := stays hSw d1
      have d2 := stays hSw d2
      clear hSw
      go_simp
      try with_reducible rfl
    refine takeP (i := 5) (v := ?_) rfl hX ?hy ?_
    case hy =>
      intro wS hSw
      obtain ⟨x0, x1, x2, x3⟩ := kK.below hSw
      clear hSw
      go_simp
      try with_reducible rfl
    try simp only [List.getElem_toArray, List.getElem_cons_succ, List.getElem_cons_zero, Act.put, List.setIfInBounds_toArray, List.set_cons_zero, List.set_cons_succ]
    refine readyF (rs := [6]) (by kernel_rfl) (by simp) ?_
    refine AllF.cons rfl (fun K hK => ?_) AllF.nil
    go_simp
    refine (Cm.out _ hX).mono ?_
    rintro e w0_6 ⟨rfl, hb⟩
    refine hK _ _ (fun h => h.trans (hb.mono h.size)) ?_
    clear hK K
    have hX := hX.trans (hb.mono hX.size)
    clear hb
    refine takeT (i := 7) (v := ?_) rfl ?hy ?_
    case hy => intro wS; go_simp; try with_reducible rfl
    refine takeT (i := 8) (v := ?_) rfl ?hy ?_
    case hy => intro wS; go_simp; try with_reducible rfl
    try simp only [List.getElem_toArray, List.getElem_cons_succ, List.getElem_cons_zero, Act.put, List.setIfInBounds_toArray, List.set_cons_zero, List.set_cons_succ]
    refine doneF (by kernel_rfl) ?_ _
    try simp only [List.getElem_toArray, List.getElem_cons_succ, List.getElem_cons_zero, Act.put, List.setIfInBounds_toArray, List.set_cons_zero, List.set_cons_succ]
    go_wp2
    go_ret
    exact ⟨rfl, hq.trans (hX.mono hq.size)⟩
/-- what place gives back: the entries, where the first that isn't ahead stands, the error's number -/
def GotPlace (w : World) (r : Option (List EntL)) (k : KeyL) (e : Ending) (w' : World) : Prop :=
  ∃ (A : Option Addr) (n c i : Nat), e = .returned (.tuple #[.slice A n c, .int .i64 (i : Int), .int .i64 ((if r.isSome then 0 else 4 : Nat) : Int)]) ∧ SlR w' (fun b => w.heap.size ≤ b) A n c (r.getD []) ∧ Below w.heap.size w w' ∧ i ≤ n ∧
    fromL (r.getD []) k = (r.getD [])[i]? ∧ beforeL (r.getD []) k = if i = 0 then none else (r.getD [])[i - 1]?
set_option maxHeartbeats 8000000 in
theorem place_any (w : World) (A : Option Addr) (n c : Nat) (p : List UInt8) (h : Sl w 1 A n c (bc p)) (hn : n ≤ 65536) (A2 : Option Addr) (n2 c2 : Nat) (k : KeyL) (s2 : Sl w 1 A2 n2 c2 (bc k.user)) :
    Calls Tryz.prog 116 #[.slice A n c, .agg #[.slice A2 n2 c2, .int .u64 (k.seq.toNat : Int), .int .u8 (k.kind.toNat : Int)]] w (GotPlace w (readLeafL p) k) := by
  have cr := fun w' (hb : Below w.heap.size w w') => lread_any w' A n c p (h.below (by omega) hb) hn
  have hri := fun l => readLeaf_iff p l
  generalize readLeafL p = r at *
  unfold GotEnts at cr
  unfold GotPlace
  have hrs : Rises (r.getD []) := by
    cases r with
    | none => exact List.Pairwise.nil
    | some l => exact (rises_pair l).1 (checkLeaf_zero ((hri l).1 rfl).1).2.2
  generalize hs : k.seq.toNat = s at *
  generalize hd : k.kind.toNat = d at *
  have hr64 : (r.getD []).length ≤ 64 := by
    cases r with
    | none => simp
    | some l => exact (checkLeaf_zero ((hri l).1 rfl).1).1
  generalize r.getD [] = ls at *
  generalize hq : (if r.isSome then 0 else 4 : Nat) = q at *
  have Cr := Lib.hid cr
  have Hrs := Lib.hid hrs
  have Hr64 := Lib.hid hr64
  have Hq := Lib.hid hq
  have Hs := Lib.hid hs
  have Hd := Lib.hid hd
  clear cr hri hrs hs hd h hr64 hq
  have hb1 := (Below.refl w.heap.size w).alloc (Nat.le_refl _) (.cells #[.slice A2 n2 c2, .int .u64 (s : Int), .int .u8 (d : Int)] 67)
  have kK := Bx.fresh w (.slice A2 n2 c2) (.int .u64 (s : Int)) (.int .u8 (d : Int)) 67
  generalize hW : (w.alloc (.cells #[.slice A2 n2 c2, .int .u64 (s : Int), .int .u8 (d : Int)] 67)) = w1 at *
  go_enter Tryz.func116, Tryz.ntmps116
  go_wp2_with fail
  try rw [hW]
  clear hW
  refine (Cr.out _ hb1).mono ?_
  rintro e w2 ⟨A6, n6, c6, rfl, h6, hb⟩
  have kK := kK.below hb
  have hq := hb1.trans (hb.mono hb1.size)
  have hz1 := hb1.size
  have h6 := h6.mono (q := fun b => w.heap.size ≤ b) fun b _ h => Nat.le_trans hz1 h
  have hn6 := h6.lenR
  have hn6b : n6 ≤ 1000000 := by have := Hr64.out; omega
  have al := (Below.refl w2.heap.size w2).alloc (Nat.le_refl _) (.cells #[.slice A6 n6 c6] 22)
  have bx := boxed (Below.refl _ _) (box1 w2 (.cells #[.slice A6 n6 c6] 22))
  have kp := bx.1 0 _ rfl
  obtain ⟨g1, hg1⟩ : ∃ g1, g1 = w2.heap.size := ⟨_, rfl⟩
  obtain ⟨g2, hg2⟩ : ∃ g2, g2 = w.heap.size := ⟨_, rfl⟩
  rw [← hg1] at kp
  rw [← hg2] at kK
  have kK := kK.below al
  have hq := hq.trans (al.mono hq.size)
  have h6 := h6.below al
  have s2 := s2.below (by omega) hq
  generalize hW : (w2.alloc (.cells #[.slice A6 n6 c6] 22)) = w3 at *
  have Hn6 := Lib.hid hn6
  clear bx al hb hn6 Cr
  go_wp2_with fail
  try rw [← hg1]
  try rw [← hg2]
  try rw [hW]
  clear hW
  have kp : (World.drew w3).cell? _ = _ := kp
  have kK := kK.drew
  have h6 : SlR (World.drew w3) _ _ _ _ _ := h6.below (below_drew (Below.refl _ _))
  have s2 := s2.drew
  have hq := below_drew hq
  generalize hW : World.drew w3 = w0 at *
  have Cp : Hid (∀ (i : Nat) (w' : World), i < n6 → Below w0.heap.size w0 w' → Calls Tryz.prog 123 #[.int .i64 (i : Int), .pointer (some ⟨g1, 0, none⟩), .pointer (some ⟨g2, 0, none⟩)] w' fun e w'' => e = .returned (.bool ((fun i => match ls[i]? with | some x => !lessKey x.key k | none => false) i)) ∧ Below w'.heap.size w' w'') := Lib.hid fun i w' hi hb =>
    place1_any w' _ A6 n6 c6 ls (h6.below hb) g1 g2 (stays hb kp) A2 n2 c2 k (s2.below (by omega) hb) s d Hs.out Hd.out (kK.below hb) i hi hn6b _ (fun x hx => by simp only [hx])
  clear hg1 hg2 kK s2
  refine regionF (fun _ wa wb => Below w0.heap.size w0 wa → Below w0.heap.size w0 wb) (by kernel_rfl) ?_
  rw [hW]
  clear hW
  have hX := Below.refl w0.heap.size w0
  refine takeP (i := 0) (v := ?_) rfl hX ?hy ?_
  case hy =>
    intro wS hSw
    have kp := stays hSw kp
    clear hSw
    go_simp
    try with_reducible rfl
  refine takeP (i := 1) (v := ?_) rfl hX ?hy ?_
  case hy =>
    intro wS hSw
    have kp := stays hSw kp
    clear hSw
    go_simp
    try with_reducible rfl
  refine takeT (i := 2) (v := ?_) rfl ?hy ?_
  case hy => intro wS; go_simp; try with_reducible rfl
  refine takeT (i := 3) (v := ?_) rfl ?hy ?_
  case hy => intro wS; go_simp; try with_reducible rfl
  refine takeT (i := 5) (v := ?_) rfl ?hy ?_
  case hy => intro wS; go_simp; try with_reducible rfl
  try simp only [List.getElem_toArray, List.getElem_cons_succ, List.getElem_cons_zero, Act.put, List.setIfInBounds_toArray, List.set_cons_zero, List.set_cons_succ]
  refine readyF (rs := [4]) (by kernel_rfl) (by simp) ?_
  refine AllF.cons rfl (fun K hK => ?_) AllF.nil
  go_simp
  refine (search_any w0 n6 hn6b ⟨g1, 0, none⟩ ⟨g2, 0, none⟩ _ (fun i w' hi hb => Cp.out i w' hi (hX.trans (hb.mono hX.size)))).mono ?_
  rintro e w0_4 ⟨i, hi, hi1, hi2, rfl, hb⟩
  refine hK _ _ (fun h => h.trans (hb.mono h.size)) ?_
  clear hK K
  have hX := hX.trans (hb.mono hX.size)
  clear hb
  refine takeT (i := 6) (v := ?_) rfl ?hy ?_
  case hy => intro wS; go_simp; try with_reducible rfl
  refine takeT (i := 7) (v := ?_) rfl ?hy ?_
  case hy => intro wS; go_simp; try with_reducible rfl
  refine takeT (i := 8) (v := ?_) rfl ?hy ?_
  case hy => intro wS; go_simp; try with_reducible rfl
  try simp only [List.getElem_toArray, List.getElem_cons_succ, List.getElem_cons_zero, Act.put, List.setIfInBounds_toArray, List.set_cons_zero, List.set_cons_succ]
  refine doneF (by kernel_rfl) ?_ _
  try simp only [List.getElem_toArray, List.getElem_cons_succ, List.getElem_cons_zero, Act.put, List.setIfInBounds_toArray, List.set_cons_zero, List.set_cons_succ]
  go_wp2
  refine bodyPost_ret (v := .tuple #[.slice A6 n6 c6, .int .i64 (i : Int), .int .i64 (q : Int)]) (by simp [results, Tryz.results116, go_sem]) rfl ?_
  have hsp := rises_split Hrs.out k i (by have := Hn6.out; omega) (fun x h0 hx => by
    rcases hi1 with e | e
    · omega
    · simp only [hx] at e
      simpa using e) (fun x hx => by
    rcases hi2 with e | e
    · have := (List.getElem?_eq_some_iff.1 hx).1
      have := Hn6.out
      omega
    · simp only [hx] at e
      simpa using e)
  exact ⟨A6, n6, c6, i, rfl, h6.below hX, hq.trans (hX.mono hq.size), hi, hsp.2.1, hsp.2.2⟩
end Go.Proofs.YtpffieogkfndaaaGreatDoor
