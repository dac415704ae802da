/-
  The walk of ref06.All, and of ReelCuts: it returns true at every input. The table lies in its variable. (Printed by gencuts.py.)
-/
import Derived.Test.YthbmlkdijppkbaaDoorReelBackW
import Derived.Test.YthbmlkdijppkbaaDoorPartsCut
namespace Go.Proofs.YthbmlkdijppkbaaDoor
open Go.RowKit

set_option maxHeartbeats 2000000 in
theorem rall_any (w : World) (A : Option Addr) (n c : Nat) (vs : List Value) (ls : List (List UInt8)) (h : Sl w 1 A n c vs) (hp : PartsOf w vs ls) (hlong : ∀ l ∈ ls, l.length ≤ 300) (hn : n ≤ 20) :
    Calls Tryd.prog 47 #[.slice A n c] w (NewB w (allL ls)) := by
  have Hl : Hid (ls.length = n) := by have h1 := h.len; have h2 := hp.1; unfold Hid; omega
  have hcap := h.cap
  have hcm := h.capm
  unfold maxLen at hcm
  have hall := allL_le 300 ls hlong
  have Hlong := Lib.hid hlong
  have Hall := Lib.hid hall
  clear hlong hall
  go_enter Tryd.func47, Tryd.ntmps47
  go_wp2
  go_loopw [3, 10] (fun pv q wr => ∃ j : Nat, j ≤ n ∧ q = .int .i64 j ∧ Below w.heap.size w wr ∧ ∃ A2 n2 c2, pv = .slice A2 n2 c2 ∧ OwnB wr w.heap.size A2 n2 c2 (allL (ls.take j))) (fun _ q _ => n - (intOf q).toNat)
  case atStart => exact ⟨0, Nat.zero_le _, rfl, Below.refl _ _, none, 0, 0, rfl, (show allL (ls.take 0) = [] from by simp [allL]) ▸ Own.nil _ _ _ _ _⟩
  case round =>
    obtain ⟨j, hj, rfl, hbr, A2, n2, c2, rfl, ho2⟩ := hrel
    by_cases hlt : j < n
    · obtain ⟨b, o, A', n', c', hkl, rfl, hcell, hsl⟩ := (hp.below hbr).get (h.below (by omega) hbr) hlt
      have hn2 := ho2.len'
      have hal := Hall.out j
      have hn2l : n2 ≤ 90000 := by omega
      have hkl2 := Hlong.out ls[j] (List.getElem_mem hkl)
      have hn' := hsl.lenb
      have hst := allL_step ls j hkl
      rw [hn2] at hst
      have Hst := Lib.hid hst
      have hn'l : n' ≤ 300 := by omega
      clear hst hal hn2 hkl2 hn'
      go_wp2_with fail
      refine (rframe_pos wr n2 A' n' c' _ hsl (by omega)).mono ?_
      have hfl := (frameL_length n2 true ls[j]).2
      rw [hsl.lenb] at hfl
      generalize frameL n2 true ls[j] = F at *
      rintro e w3 ⟨A3, n3, c3, rfl, ho3, hb3⟩
      have hn3 := ho3.len'
      have hn3l : n3 ≤ 4300 := by simp only at hn3; split at hfl <;> omega
      clear hn3 hfl
      have ho2' := Own.below ho2 hb3
      have hb13 := hbr.trans (hb3.mono hbr.size)
      go_wp2_with (at_builtin; refine wpList_appB _ rfl (.tmp 21) (.tmp 22) rfl w.heap.size A2 n2 c2 _ rfl ho2' A3 n3 c3 F rfl (OwnB.sl ho3) ?_ ?_ ?_)
      · omega
      · exact hb13.size
      intro A4 c4 w4 ho4 hg4 _
      have hb4 := hb13.grown hg4 hb13.size (fun b hb => (Own.lt ho2 b hb).1)
      go_wp2
      go_roundw
      case rel => exact ⟨j + 1, by omega, by go_num, hb4, A4, _, c4, rfl, by rw [Hst.out]; exact ho4⟩
      case measure => simp [intOf]; omega
    · obtain rfl : n = j := by omega
      rw [List.take_of_length_le (show ls.length ≤ n by have := Hl.out; omega)] at ho2
      have Ho2 := Lib.hid ho2
      clear ho2
      go_wp2
      go_ret
      exact ⟨A2, _, c2, rfl, Ho2.out, hbr⟩
/-- how far the records lie whole ahead of the cut: what is known behind j of them -/
def CutRel (w1 : World) (ks : List (List UInt8)) (cut n1 : Nat) (wv kv iv : Value) (wr : World) : Prop :=
  ∃ j kk : Nat, iv = .int .i64 (j : Int) ∧ kv = .int .i64 (kk : Int) ∧ wv = .int .i64 ((allL (ks.take kk)).length : Int) ∧ j ≤ n1 ∧ kk ≤ j ∧ Below w1.heap.size w1 wr ∧
    Hid ((allL (ks.take kk)).length ≤ cut ∧ ∀ i, kk < i → i ≤ j → cut < (allL (ks.take i)).length)
set_option maxHeartbeats 8000000 in
set_option maxRecDepth 100000 in
theorem reelCuts.walk (w : World) (A : Option Addr) (n c : Nat) (vs : List Value) (ls : List (List UInt8)) (h : Sl w 1 A n c vs) (hp : PartsOf w vs ls) (at_ : Nat) (hat : at_ < 65536) (Ab : Option Addr) (nb cb : Nat) (behind : List UInt8) (hbh : Sl w 1 Ab nb cb (bc behind)) (hq : Quarter w) :
    Calls Tryd.prog 18 #[.slice A n c, .int .u16 (at_ : Int), .slice Ab nb cb] w fun e w' => e = .returned (.bool true) ∧ Below w.heap.size w w' := by
  go_enter Tryd.func18, Tryd.ntmps18
  go_wp2_with fail
  refine (awake06 w hq).mono ?_
  rintro e w0 ⟨rfl, hb0⟩
  go_wp2_with fail
  refine (few_any w0 A n c vs ls 12 200 (h.below (by omega) hb0) (hp.below hb0) (by omega) (by omega)).mono ?_
  rintro e w1 ⟨A1, n1, c1, vs1, rfl, ho1, hp1, hb1⟩
  have hfl := fewL_length ls 12 200
  have hlong := few_le6 ls 12 200
  generalize fewL ls 12 200 = ks at *
  have hn1 : n1 = ks.length := by have h1 := ho1.len; have h2 := hp1.1; omega
  have hn12 : n1 ≤ 12 := by omega
  have hall := allL_le 200 ks hlong
  have Hn1 := Lib.hid hn1
  have Hlong := Lib.hid hlong
  have Hall := Lib.hid hall
  clear hfl hn1 hlong hall h hp
  have hbw1 := hb0.trans (hb1.mono hb0.size)
  have hs1 := Own.sl ho1
  have hps := hp1.parts
  have hq1 := hq.below hbw1
  have hcap1 := hs1.cap
  have hcm1 := hs1.capm
  unfold maxLen at hcm1
  have hbh1 := hbh.below (by omega) hbw1
  clear ho1 hp1 hb0 hb1 hbh
  go_wp2_with fail
  refine (rall_any w1 A1 n1 c1 vs1 ks hs1 hps (fun l hl => by have := Hlong.out l hl; omega) (by omega)).mono ?_
  rintro e w2 ⟨A2, n2, c2, rfl, ho2, hb2⟩
  have hs2 := OwnB.sl ho2
  have hn2 : (allL ks).length = n2 := hs2.lenb
  have hn2l : n2 ≤ 40000 := by have h1 := Hall.out n1; rw [List.take_of_length_le (by have := Hn1.out; omega)] at h1; omega
  have Hn2 := Lib.hid hn2
  have hq2 := hq1.below hb2
  have hcap2 := hs2.cap
  have hcm2 := hs2.capm
  unfold maxLen at hcm2
  clear hn2 ho2
  obtain ⟨cut, hcut, hcutl⟩ : ∃ cut, at_ % (n2 + 1) = cut ∧ cut ≤ n2 := ⟨_, rfl, by have := Nat.mod_lt at_ (show 0 < n2 + 1 by omega); omega⟩
  have ecut : (at_ : Int) % ((n2 : Int) + 1) = (cut : Int) := by rw [← hcut]; simp
  have dn0 : ((n2 : Int) + 1 == 0) = false := by simp; omega
  clear hcut
  go_wp2_with fail
  try rw [ecut]
  clear ecut dn0
  go_loopw [9, 10, 31] (CutRel w2 ks cut n1) (fun _ _ q _ => n1 - (intOf q).toNat)
  case atStart => exact ⟨0, 0, rfl, rfl, by simp [allL], Nat.zero_le _, Nat.le_refl _, Below.refl _ _, ⟨by simp [allL], fun i h1 h2 => absurd h2 (by omega)⟩⟩
  case round =>
    obtain ⟨j, kk, rfl, rfl, rfl, hj, hkk, hbr, HC⟩ := hrel
    have hb1r := hb2.trans (hbr.mono hb2.size)
    by_cases hlt : j < n1
    · obtain ⟨rP, sP⟩ := cutHP hs1 .i64 ((j : Int) + 1) (j + 1) (by omega) (by omega)
      have pP := hps.take (j + 1)
      go_wp2_with fail
      refine (rall_any wr A1 (j + 1) c1 _ _ (sP.below (by omega) hb1r) (pP.below hb1r) (fun l hl => by have := Hlong.out l (List.mem_of_mem_take hl); omega) (by omega)).mono ?_
      rintro e w5 ⟨A5, n5, c5, rfl, ho5, hb5⟩
      have hn5 : (allL (ks.take (j + 1))).length = n5 := OwnB.len' ho5
      have Hn5 := Lib.hid hn5
      have hb6 := hbr.trans (hb5.mono hbr.size)
      clear hn5 ho5
      by_cases hle : n5 ≤ cut
      · have d1 : decide ((n5 : Int) ≤ (cut : Int)) = true := by simp; omega
        have HC2 : Hid ((allL (ks.take (j + 1))).length ≤ cut ∧ ∀ i, j + 1 < i → i ≤ j + 1 → cut < (allL (ks.take i)).length) := ⟨by rw [Hn5.out]; exact hle, fun i h1 h2 => absurd h1 (by omega)⟩
        go_wp2
        go_roundw
        case rel => exact ⟨j + 1, j + 1, by go_num, by go_num, by rw [Hn5.out], by omega, by omega, hb6, HC2⟩
        case measure => simp [intOf]; omega
      · have d1 : decide ((n5 : Int) ≤ (cut : Int)) = false := by simp; omega
        have HC2 : Hid ((allL (ks.take kk)).length ≤ cut ∧ ∀ i, kk < i → i ≤ j + 1 → cut < (allL (ks.take i)).length) := ⟨HC.out.1, fun i h1 h2 => by
          rcases Nat.eq_or_lt_of_le h2 with e | e
          · rw [e, Hn5.out]; omega
          · exact HC.out.2 i h1 (by omega)⟩
        go_wp2
        go_roundw
        case rel => exact ⟨j + 1, kk, by go_num, rfl, rfl, by omega, by omega, hb6, HC2⟩
        case measure => simp [intOf]; omega
    · obtain rfl : n1 = j := by omega
      obtain ⟨wl, hwl⟩ : ∃ wl, (allL (ks.take kk)).length = wl := ⟨_, rfl⟩
      have hcc := HC.out
      have hmax : kk < ks.length → cut < (allL (ks.take (kk + 1))).length := fun q => hcc.2 (kk + 1) (by omega) (by have := Hn1.out; omega)
      have hwlc : wl ≤ cut := by have := hcc.1; omega
      rw [hwl]
      have HWL := Lib.hid hwl
      have HMX := Lib.hid hmax
      clear hcc hmax hwl HC
      obtain ⟨r1, s1⟩ := cutH hs2 .i64 (cut : Int) cut rfl hcutl
      obtain ⟨r2, s2⟩ := cutH hs2 .i64 (wl : Int) wl rfl (by omega)
      obtain ⟨r3, s3⟩ := cutHP hs1 .i64 (kk : Int) kk rfl hkk
      have p3 := hps.take kk
      have hqr := hq2.below hbr
      have hbw := (hbw1.trans (hb2.mono hbw1.size)).trans (hbr.mono (Nat.le_trans hbw1.size hb2.size))
      go_wp2_with fail
      refine (read_at wr A2 cut c2 _ (s1.below (by omega) hbr) hqr (by omega)).mono ?_
      rintro e w5 ⟨rs, z, A5, n5, c5, vs5, hrt, rfl, ho5, hp5, hb5⟩
      obtain ⟨hrs, hz1, hz2⟩ := cut_all ks (fun l hl => by have := Hlong.out l hl; omega) cut kk (by have := Hn2.out; omega) (by have := Hn1.out; omega) (by have := HWL.out; omega) HMX.out hrt
      rw [HWL.out] at hz1
      have e1 : (rs == ks.take kk) = true := by rw [hrs]; simp
      have E1 := Lib.hid e1
      have hb15 := hb1r.trans (hb5.mono hb1r.size)
      have hb25 := hbr.trans (hb5.mono hbr.size)
      have hs5 := Own.sl ho5
      have hp5' := hp5.parts
      have hbw5 := hbw.trans (hb5.mono hbw.size)
      clear hrs e1 hrt ho5 hp5
      go_wp2_with fail
      refine (same6_any w5 A5 n5 c5 vs5 rs hs5 hp5' A1 kk c1 _ _ (s3.below (by omega) hb15) (p3.below hb15)).mono ?_
      rw [E1.out]
      rintro e w6 ⟨rfl, hb6⟩
      have hb26 := hb25.trans (hb6.mono hb25.size)
      have hb16 := hb15.trans (hb6.mono hb15.size)
      have hbw6 := hbw5.trans (hb6.mono hbw5.size)
      have q1 : ¬ ((z : Int) < (wl : Int)) := by omega
      have q2 : decide ((z : Int) < (wl : Int)) = false := by simp; omega
      have q3 : ¬ ((cut : Int) < (z : Int)) := by omega
      have q4 : decide ((cut : Int) < (z : Int)) = false := by simp; omega
      clear hs5 hp5' hb5 hb6 hb25 hb15
      go_wp2_with fail
      refine (copy_any w6 A2 wl c2 _ (s2.below (by omega) hb26) (by omega)).mono ?_
      rintro e w7 ⟨A7, n7, c7, rfl, ho7, hb7⟩
      have hb17 := hb16.trans (hb7.mono hb16.size)
      have hbw7 := hbw6.trans (hb7.mono hbw6.size)
      have hn7 := ho7.len'
      have hn7l : n7 ≤ 40000 := by rw [List.length_take] at hn7; omega
      clear hn7
      go_wp2_with fail
      refine (cut_any w7 Ab nb cb behind 100 (hbh1.below (by omega) hb17) (by omega)).mono ?_
      have ht : (behind.take 100).length ≤ 100 := by simp; omega
      generalize behind.take 100 = t at *
      rintro e w8 ⟨A8, n8, c8, rfl, ho8, hb8⟩
      have hn8 := ho8.len'
      have hn8l : n8 ≤ 100 := by omega
      clear hn8
      have hb18 := hb17.trans (hb8.mono hb17.size)
      have hbw8 := hbw7.trans (hb8.mono hbw7.size)
      have ho7' := Own.below ho7 hb8
      have hb68 := hb7.trans (hb8.mono hb7.size)
      go_wp2_with (at_builtin; refine wpList_appB _ rfl (.tmp 74) (.tmp 76) rfl w6.heap.size A7 n7 c7 _ rfl ho7' A8 n8 c8 t rfl (OwnB.sl ho8) ?_ ?_ ?_)
      · omega
      · exact hb68.size
      intro A9 c9 w9 ho9 hg9 _
      have hb69 := hb68.grown hg9 hb68.size (fun b hb => (Own.lt ho7 b hb).1)
      have hb19 := hb16.trans (hb69.mono hb16.size)
      have hbw9 := hbw6.trans (hb69.mono hbw6.size)
      have hs9 := OwnB.sl ho9
      have hpre : (allL ks).take wl = allL (ks.take kk) := by
        obtain ⟨tt, htt⟩ := allL_take_le ks kk
        rw [← htt, ← HWL.out, List.take_left]
      rw [hpre] at hs9
      clear hpre ho9 hg9 ho7 ho7' ho8 hb68 hb7 hb8
      go_wp2_with fail
      refine (read_at w9 A9 _ c9 _ hs9 (hq1.below hb19) (by omega)).mono ?_
      rintro e wa ⟨rs2, z2, Aa, na, ca, vsa, hrt2, rfl, hoa, hpa, hba⟩
      obtain ⟨hk1, hk2⟩ := more_all ks (fun l hl => by have := Hlong.out l hl; omega) kk (by have := Hn1.out; omega) t hrt2
      have hna : na = rs2.length := by have h1 := hoa.len; have h2 := hpa.1; omega
      have hka : kk ≤ na := by omega
      have e2 : (rs2.take kk == ks.take kk) = true := by rw [hk2]; simp
      have E2 := Lib.hid e2
      have hsa := Own.sl hoa
      have hpa' := hpa.parts
      have hcapa := hsa.cap
      have hcma := hsa.capm
      unfold maxLen at hcma
      obtain ⟨r4, s4⟩ := cutHP hsa .i64 (kk : Int) kk rfl hka
      have p4 := hpa'.take kk
      have hb1a := hb19.trans (hba.mono hb19.size)
      have hbwa := hbw9.trans (hba.mono hbw9.size)
      have g1 : (kk : Int) ≤ (na : Int) := by omega
      have g2 : decide ((kk : Int) ≤ (na : Int)) = true := by simp; omega
      clear hna hk1 hk2 e2 hoa hpa hrt2
      go_wp2_with fail
      refine wp_region_any (by kernel_rfl) ?_
      try (change wpAny _ _ _ _ _ _ _ (World.drew _))
      refine wpAny_take (i := 0) (v := ?_) rfl (by kernel_rfl) (by kernel_rfl) (by kernel_rfl) (fun _ _ _ h => h) (Or.inl ⟨by kernel_rfl, ?_⟩) ?_
      case refine_2 => ((intro w; go_simp); try with_reducible rfl)
      refine wpAny_take (i := 1) (v := ?_) rfl (by kernel_rfl) (by kernel_rfl) (by kernel_rfl) (fun _ _ _ h => h) (Or.inl ⟨by kernel_rfl, ?_⟩) ?_
      case refine_2 => ((intro w; go_simp); try with_reducible rfl)
      refine wpAny_take (i := 2) (v := ?_) rfl (by kernel_rfl) (by kernel_rfl) (by kernel_rfl) (fun _ _ _ h => h) (Or.inl ⟨by kernel_rfl, ?_⟩) ?_
      case refine_2 => ((intro w; go_simp); try with_reducible rfl)
      refine wpAny_take (i := 3) (v := ?_) rfl (by kernel_rfl) (by kernel_rfl) (by kernel_rfl) (fun _ _ _ h => h) (Or.inl ⟨by kernel_rfl, ?_⟩) ?_
      case refine_2 => ((intro w; go_simp); try with_reducible rfl)
      refine wpAny_take (i := 4) (v := ?_) rfl (by kernel_rfl) (by kernel_rfl) (by kernel_rfl) (fun _ _ _ h => h) (Or.inl ⟨by kernel_rfl, ?_⟩) ?_
      case refine_2 => ((intro w; go_simp); try with_reducible rfl)
      refine wpAny_take (i := 5) (v := ?_) rfl (by kernel_rfl) (by kernel_rfl) (by kernel_rfl) (fun _ _ _ h => h) (Or.inl ⟨by kernel_rfl, ?_⟩) ?_
      case refine_2 => ((intro w; go_simp); try with_reducible rfl)
      refine wpAny_take (i := 6) (v := ?_) rfl (by kernel_rfl) (by kernel_rfl) (by kernel_rfl) (fun _ _ _ h => h) (Or.inl ⟨by kernel_rfl, ?_⟩) ?_
      case refine_2 => ((intro w; go_simp); try with_reducible rfl)
      refine wpAny_take (i := 7) (v := ?_) rfl (by kernel_rfl) (by kernel_rfl) (by kernel_rfl) (fun _ _ _ h => h) (Or.inl ⟨by kernel_rfl, ?_⟩) ?_
      case refine_2 => ((intro w; go_simp); try with_reducible rfl)
      refine wpAny_take (i := 8) (v := ?_) rfl (by kernel_rfl) (by kernel_rfl) (by kernel_rfl) (fun _ _ _ h => h) (Or.inl ⟨by kernel_rfl, ?_⟩) ?_
      case refine_2 => ((intro w; go_simp); try with_reducible rfl)
      refine wpAny_take (i := 9) (v := ?_) rfl (by kernel_rfl) (by kernel_rfl) (by kernel_rfl) (fun _ _ _ h => h) (Or.inl ⟨by kernel_rfl, ?_⟩) ?_
      case refine_2 => ((intro w; go_simp); try with_reducible rfl)
      refine wpAny_take (i := 10) (v := ?_) rfl (by kernel_rfl) (by kernel_rfl) (by kernel_rfl) (fun _ _ _ h => h) (Or.inl ⟨by kernel_rfl, ?_⟩) ?_
      case refine_2 => ((intro w; go_simp); try with_reducible rfl)
      refine wpAny_ready (rs := [11]) (by kernel_rfl) (by simp) ?_
      refine AllReady.cons rfl (fun K hK => ?_) AllReady.nil
      go_simp
      refine (same6_any _ Aa kk ca _ _ (Sl.drew s4) (p4.below (Below.drew (Below.refl wa.heap.size wa))) A1 kk c1 _ _ (Sl.drew (s3.below (by omega) hb1a)) ((p3.below hb1a).below (Below.drew (Below.refl wa.heap.size wa)))).mono ?_
      rw [E2.out]
      rintro e wz ⟨rfl, hbz⟩
      go_simp
      refine hK _ _ ?_
      clear hK K
      refine wpAny_take (i := 12) (v := ?_) rfl (by kernel_rfl) (by kernel_rfl) (by kernel_rfl) (fun _ _ _ h => h) (Or.inl ⟨by kernel_rfl, ?_⟩) ?_
      case refine_2 => ((intro w; go_simp); try with_reducible rfl)
      refine wpAny_take (i := 13) (v := ?_) rfl (by kernel_rfl) (by kernel_rfl) (by kernel_rfl) (fun _ _ _ h => h) (Or.inl ⟨by kernel_rfl, ?_⟩) ?_
      case refine_2 => ((intro w; go_simp); try with_reducible rfl)
      refine wpAny_done (by kernel_rfl) ?_ _
      go_wp2
      go_ret
      exact ⟨rfl, (hbwa.drew).trans (hbz.mono hbwa.size)⟩
end Go.Proofs.YthbmlkdijppkbaaDoor
