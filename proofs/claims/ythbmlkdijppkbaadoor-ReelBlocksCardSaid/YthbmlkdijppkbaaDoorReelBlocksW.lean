/-
  The walk of ReelBlocks: it returns true at every input. The table lies in its variable. (Printed by genblocks.py.)
-/
import Derived.Test.YthbmlkdijppkbaaDoorReelPiece
import Derived.Test.YthbmlkdijppkbaaDoorReelChain
import Derived.Test.YthbmlkdijppkbaaDoorReelAwake
import Derived.Test.YthbmlkdijppkbaaDoorFew
namespace Go.Proofs.YthbmlkdijppkbaaDoor
open Go.RowKit

theorem few_le (ls : List (List UInt8)) (k long : Nat) : ∀ l ∈ fewL ls k long, l.length ≤ long := fun _ h => fewL_mem h
set_option maxHeartbeats 8000000 in
theorem reelBlocks.walk (w : World) (A : Option Addr) (n c : Nat) (vs : List Value) (ls : List (List UInt8)) (h : Sl w 1 A n c vs) (hp : PartsOf w vs ls) (hq : Quarter w) :
    Calls Tryd.prog 16 #[.slice A n c] w fun e w' => e = .returned (.bool true) ∧ Below w.heap.size w w' := by
  go_enter Tryd.func16, Tryd.ntmps16
  go_wp2_with fail
  refine (awake06 w hq).mono ?_
  rintro e w0 ⟨rfl, hb0⟩
  go_wp2_with fail
  refine (few_any w0 A n c vs ls 12 250 (h.below (by omega) hb0) (hp.below hb0) (by omega) (by omega)).mono ?_
  rintro e w1 ⟨A1, n1, c1, vs1, rfl, ho1, hp1, hb1⟩
  have hfl := fewL_length ls 12 250
  have hlong := few_le ls 12 250
  generalize fewL ls 12 250 = ks at *
  have hn1 : n1 = ks.length := by have h1 := ho1.len; have h2 := hp1.1; omega
  have hn12 : n1 ≤ 12 := by omega
  have hall := allL_le 250 ks hlong
  have Hn1 := Lib.hid hn1
  have Hlong := Lib.hid hlong
  have Hall := Lib.hid hall
  clear hfl hn1 hlong hall h hp
  have hbw1 := hb0.trans (hb1.mono hb0.size)
  have hs1 := Own.sl ho1
  have hps := hp1.parts
  have hq1 := hq.below hbw1
  clear ho1 hp1 hb0 hb1
  go_wp2
  go_loopw [3, 19] (fun pv q wr => ∃ j : Nat, j ≤ n1 ∧ q = .int .i64 j ∧ Below w1.heap.size w1 wr ∧ ∃ A2 n2 c2, pv = .slice A2 n2 c2 ∧ OwnB wr w1.heap.size A2 n2 c2 (allL (ks.take j))) (fun _ q _ => n1 - (intOf q).toNat)
  case atStart => exact ⟨0, Nat.zero_le _, rfl, Below.refl _ _, none, 0, 0, rfl, (show allL (ks.take 0) = [] from by simp [allL]) ▸ Own.nil _ _ _ _ _⟩
  case round =>
    obtain ⟨j, hj, rfl, hbr, A2, n2, c2, rfl, ho2⟩ := hrel
    by_cases hlt : j < n1
    · obtain ⟨b, o, A', n', c', hkl, rfl, hcell, hsl⟩ := (hps.below hbr).get (hs1.below (by omega) hbr) hlt
      have hn2 := ho2.len'
      have hal := Hall.out j
      have hn2l : n2 ≤ 42240 := by omega
      have hkl2 := Hlong.out ks[j] (List.getElem_mem hkl)
      have hn' := hsl.lenb
      have hst := allL_step ks j hkl
      rw [hn2] at hst
      have Hst := Lib.hid hst
      have hn'l : n' ≤ 250 := by omega
      clear hst hal hn2 hkl2 hn'
      go_wp2_with fail
      refine (frame_pos wr n2 A' n' c' _ hsl (hq1.below hbr) (by omega)).mono ?_
      have hfl := (frameL_length n2 true ks[j]).2
      rw [hsl.lenb] at hfl
      generalize frameL n2 true ks[j] = F at *
      rintro e w3 ⟨A3, n3, c3, rfl, ho3, hb3⟩
      have hn3 := ho3.len'
      have hn3l : n3 ≤ 3600 := by simp only at hn3; split at hfl <;> omega
      clear hn3 hfl
      have ho2' := Own.below ho2 hb3
      have hb13 := hbr.trans (hb3.mono hbr.size)
      go_wp2_with (at_builtin; refine wpList_appB _ rfl (.tmp 32) (.tmp 33) rfl w1.heap.size A2 n2 c2 _ rfl ho2' A3 n3 c3 F rfl (OwnB.sl ho3) ?_ ?_ ?_)
      · omega
      · exact hb13.size
      intro A4 c4 w4 ho4 hg4 _
      have hb4 := hb13.grown hg4 hb13.size (fun b hb => (Own.lt ho2 b hb).1)
      go_wp2
      go_roundw
      case rel => exact ⟨j + 1, by omega, by go_num, hb4, A4, _, c4, rfl, by rw [Hst.out]; exact ho4⟩
      case measure => simp [intOf]; omega
    · obtain rfl : n1 = j := by omega
      rw [List.take_of_length_le (show ks.length ≤ n1 by have := Hn1.out; omega)] at ho2
      have hch := chain_all ks
      have hal := Hall.out n1
      rw [List.take_of_length_le (show ks.length ≤ n1 by have := Hn1.out; omega)] at hal
      generalize allL ks = P at *
      have hs2 := OwnB.sl ho2
      have hn2 : P.length = n2 := hs2.lenb
      have hn2l : n2 ≤ 42240 := by omega
      have hbw := hbw1.trans (hbr.mono hbw1.size)
      have hqr := hq1.below hbr
      have Hn2 := Lib.hid hn2
      have Hch := Lib.hid hch
      have hcap2 := hs2.cap
      have hcm2 := hs2.capm
      unfold maxLen at hcm2
      clear hn2 hch hal ho2
      obtain ⟨wo, rfl⟩ : ∃ wo : World, wo = wr := ⟨_, rfl⟩
      go_wp2
      go_loopw [8] (fun q wx => ∃ a : Nat, q = .int .i64 a ∧ a ≤ n2 ∧ Hid (Chain P a) ∧ Below wo.heap.size wo wx) (fun q _ => n2 - (intOf q).toNat)
      case atStart => exact ⟨0, rfl, Nat.zero_le _, Hch.out, Below.refl _ _⟩
      case round =>
        obtain ⟨a, rfl, ha, HC, hbx⟩ := hrel
        by_cases hlt : a < n2
        · obtain ⟨k, x, z, hpc, hzr, hcz⟩ := HC.out.step (by have := Hn2.out; omega)
          have hz := hpc.le
          obtain ⟨p1, p2, p3, p4, _⟩ := id hpc
          have hpn := padN_le a
          have hzn : z ≤ n2 := by have := Hn2.out; omega
          have Hpc := Lib.hid hpc
          have Hcz := Lib.hid hcz
          have Hzr := Lib.hid hzr
          clear hpc hcz hzr hz
          obtain ⟨L, hL, hL1, hL2⟩ : ∃ L, 64 - a % 64 = L ∧ 1 ≤ L ∧ L ≤ 64 := ⟨_, rfl, by omega, by omega⟩
          have eL : (64 : Int) - (a : Int) % 64 = (L : Int) := by omega
          by_cases h7 : L < 7
          · have hpd : padN a = L := by unfold padN; rw [hL, if_pos h7]
            rw [hpd] at Hpc Hzr p3 p4
            have H4 := Lib.hid p4
            have HL := Lib.hid hL
            clear p4 hL hpd
            obtain ⟨Ap, rp, sp, _⟩ := cutLH hs2 .i64 .i64 (a : Int) ((a : Int) + (L : Int)) a (a + L) (by omega) (by omega) (by omega) (by have := H4.out; omega)
            have ep : a + L - a = L := by omega
            rw [ep, Hzr.out] at sp
            simp only [ep] at rp
            have haL : a + L ≤ n2 := by have := H4.out; omega
            clear ep
            have hw1 : IntKind.i64.wrap ((a : Int) + (L : Int)) = (a : Int) + (L : Int) := by rw [IntKind.wrap_i64]; omega
            go_wp2_with fail
            refine wp_region_any (by kernel_rfl) ?_
            try (change wpAny _ _ _ _ _ _ _ (World.drew _))
            refine wpAny_take (i := 0) (v := ?_) rfl (by kernel_rfl) (by kernel_rfl) (by kernel_rfl) (fun _ _ _ h => h) (Or.inl ⟨by kernel_rfl, ?_⟩) ?_
            case refine_2 => ((intro w; go_simp); try with_reducible rfl)
            refine wpAny_take (i := 1) (v := ?_) rfl (by kernel_rfl) (by kernel_rfl) (by kernel_rfl) (fun _ _ _ h => h) (Or.inl ⟨by kernel_rfl, ?_⟩) ?_
            case refine_2 => ((intro w; go_simp); try with_reducible rfl)
            refine wpAny_take (i := 2) (v := ?_) rfl (by kernel_rfl) (by kernel_rfl) (by kernel_rfl) (fun _ _ _ h => h) (Or.inl ⟨by kernel_rfl, ?_⟩) ?_
            case refine_2 => ((intro w; go_simp); try with_reducible rfl)
            refine wpAny_take (i := 3) (v := ?_) rfl (by kernel_rfl) (by kernel_rfl) (by kernel_rfl) (fun _ _ _ h => h) (Or.inl ⟨by kernel_rfl, ?_⟩) ?_
            case refine_2 => ((intro w; go_simp); try with_reducible rfl)
            refine wpAny_take (i := 4) (v := ?_) rfl (by kernel_rfl) (by kernel_rfl) (by kernel_rfl) (fun _ _ _ h => h) (Or.inl ⟨by kernel_rfl, ?_⟩) ?_
            case refine_2 => ((intro w; go_simp); try with_reducible rfl)
            refine wpAny_take (i := 5) (v := ?_) rfl (by kernel_rfl) (by kernel_rfl) (by kernel_rfl) (fun _ _ _ h => h) (Or.inl ⟨by kernel_rfl, ?_⟩) ?_
            case refine_2 => ((intro w; go_simp); try with_reducible rfl)
            refine wpAny_take (i := 6) (v := ?_) rfl (by kernel_rfl) (by kernel_rfl) (by kernel_rfl) (fun _ _ _ h => h) (Or.inl ⟨by kernel_rfl, ?_⟩) ?_
            case refine_2 => ((intro w; go_simp); try with_reducible rfl)
            refine wpAny_ready (rs := [7]) (by kernel_rfl) (by simp) ?_
            refine AllReady.cons rfl (fun K hK => ?_) AllReady.nil
            go_simp
            obtain ⟨w4, hmk, ho4, hb4⟩ := run_mkB wr.drew 0 L (L : Int) (L : Int) rfl rfl (by omega) (Nat.zero_le _)
            rw [hmk]
            go_simp
            refine hK _ _ ?_
            clear hK K hmk
            refine wpAny_ready (rs := [8]) (by kernel_rfl) (by simp) ?_
            refine AllReady.cons rfl (fun K hK => ?_) AllReady.nil
            go_simp
            refine (same_is _ Ap L _ _ _ L L _ true (by unfold Hid; simp) ((Sl.drew (sp.below (by omega) hbx)).below (by omega) hb4) (OwnB.sl ho4)).mono ?_
            rintro e w' ⟨rfl, rfl⟩
            go_simp
            refine hK _ _ ?_
            clear hK K
            refine wpAny_take (i := 9) (v := ?_) rfl (by kernel_rfl) (by kernel_rfl) (by kernel_rfl) (fun _ _ _ h => h) (Or.inl ⟨by kernel_rfl, ?_⟩) ?_
            case refine_2 => ((intro w; go_simp); try with_reducible rfl)
            refine wpAny_done (by kernel_rfl) ?_ _
            have hbx4 : Below wo.heap.size wo w4 := (hbx.drew).trans (hb4.mono hbx.size)
            go_wp2_with fail
            refine (piece_at w4 (a + L) A2 n2 c2 P (hs2.below (by omega) hbx4) (hqr.below hbx4) (by omega) (by omega)).mono ?_
            rintro e w5 ⟨hb5, (⟨k', x', z', A5, n5, c5, hpa, rfl, ho5⟩ | ⟨hno, rfl⟩)⟩
            · obtain ⟨rfl, rfl, rfl⟩ := hpa.one Hpc.out
              have hn5 := OwnB.len' ho5
              have hz4 := H4.out
              have hb6 := hbx4.trans (hb5.mono hbx4.size)
              have e1 : (((a + L : Nat) : Int) / 64) = (((z' : Nat) : Int) - 1) / 64 := by omega
              have e2 : ((z' : Nat) : Int) - ((a + L : Nat) : Int) - 7 = (n5 : Int) := by omega
              have hz8 : a < z' := by omega
              try simp only [Int.natCast_add] at e1 e2
              clear hn5 hz4 H4
              go_wp2
              go_roundw
              case rel => exact ⟨z', rfl, hzn, Hcz.out, hb6⟩
              case measure => simp [intOf]; omega
            · exact (hno _ _ _ Hpc.out).elim
          · have hpd : padN a = 0 := by unfold padN; rw [hL, if_neg h7]
            rw [hpd, Nat.add_zero] at Hpc p3 p4
            have H4 := Lib.hid p4
            have HL := Lib.hid hL
            clear p4 hL hpd Hzr
            go_wp2_with fail
            refine (piece_at wr (a) A2 n2 c2 P (hs2.below (by omega) hbx) (hqr.below hbx) (by omega) (by omega)).mono ?_
            rintro e w5 ⟨hb5, (⟨k', x', z', A5, n5, c5, hpa, rfl, ho5⟩ | ⟨hno, rfl⟩)⟩
            · obtain ⟨rfl, rfl, rfl⟩ := hpa.one Hpc.out
              have hn5 := OwnB.len' ho5
              have hz4 := H4.out
              have hb6 := hbx.trans (hb5.mono hbx.size)
              have e1 : (((a : Nat) : Int) / 64) = (((z' : Nat) : Int) - 1) / 64 := by omega
              have e2 : ((z' : Nat) : Int) - ((a : Nat) : Int) - 7 = (n5 : Int) := by omega
              have hz8 : a < z' := by omega
              try simp only [Int.natCast_add] at e1 e2
              clear hn5 hz4 H4
              go_wp2
              go_roundw
              case rel => exact ⟨z', rfl, hzn, Hcz.out, hb6⟩
              case measure => simp [intOf]; omega
            · exact (hno _ _ _ Hpc.out).elim
        · have hlt2 : ¬ ((a : Int) < (n2 : Int)) := by omega
          go_wp2
          go_ret
          exact ⟨rfl, hbw.trans (hbx.mono hbw.size)⟩
end Go.Proofs.YthbmlkdijppkbaaDoor
