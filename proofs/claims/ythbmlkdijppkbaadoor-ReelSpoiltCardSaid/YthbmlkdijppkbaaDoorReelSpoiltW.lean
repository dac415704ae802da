/-
  The walk of ReelSpoilt: it returns true at every input. The table lies in its variable. (Printed by genspoilt.py.)
-/
import Derived.Test.YthbmlkdijppkbaaDoorReelRPiece
import Derived.Test.YthbmlkdijppkbaaDoorReelSpoil
namespace Go.Proofs.YthbmlkdijppkbaaDoor
open Go.RowKit

/-- the walk along the pieces: what is known at a place -/
def AlongRel (w1 : World) (P : List UInt8) (cut : Nat) (iv : Value) (wr : World) : Prop :=
  ∃ i : Nat, iv = .int .i64 (i : Int) ∧ i ≤ P.length ∧ Below w1.heap.size w1 wr ∧ Hid (Chain P i) ∧ Hid (Free P cut i → Free P cut 0)
/-- how many records lie ahead of the byte, of the first j ones -/
def AheadRel (w1 : World) (ks : List (List UInt8)) (cut n1 : Nat) (kv iv : Value) (wr : World) : Prop :=
  ∃ j kk : Nat, iv = .int .i64 (j : Int) ∧ kv = .int .i64 (kk : Int) ∧ j ≤ n1 ∧ kk ≤ j ∧ Below w1.heap.size w1 wr ∧
    Hid ((allL (ks.take kk)).length ≤ cut ∧ ∀ i, kk < i → i ≤ j → cut < (allL (ks.take i)).length)
set_option maxHeartbeats 8000000 in
set_option maxRecDepth 100000 in
theorem reelSpoilt.walk (w : World) (A : Option Addr) (n c : Nat) (vs : List Value) (ls : List (List UInt8)) (h : Sl w 1 A n c vs) (hp : PartsOf w vs ls) (at_ : Nat) (hat : at_ < 65536) (by_ : Nat) (hby : by_ < 256) (hq : Quarter w) :
    Calls Tryd.prog 19 #[.slice A n c, .int .u16 (at_ : Int), .int .u8 (by_ : Int)] w fun e w' => e = .returned (.bool true) ∧ Below w.heap.size w w' := by
  by_cases hz : by_ = 0
  · subst hz
    go_enter Tryd.func19, Tryd.ntmps19
    go_wp2_with fail
    refine (awake06 w hq).mono ?_
    rintro e w0 ⟨rfl, hb0⟩
    go_wp2_with fail
    refine (awake06 w0 (hq.below hb0)).mono ?_
    rintro e w1 ⟨rfl, hb1⟩
    go_wp2
    go_ret
    exact ⟨rfl, hb0.trans (hb1.mono hb0.size)⟩
  · have hzb : ((by_ : Int) == 0) = false := by simpa using hz
    go_enter Tryd.func19, Tryd.ntmps19
    go_wp2_with fail
    refine (awake06 w hq).mono ?_
    rintro e w0 ⟨rfl, hb0⟩
    go_wp2_with fail
    refine (few_any w0 A n c vs ls 12 200 (h.below (by omega) hb0) (hp.below hb0) (by omega) (by omega)).mono ?_
    rintro e w1 ⟨A1, n1, c1, vs1, rfl, ho1, hp1, hb1⟩
    have hfl := fewL_length ls 12 200
    have hlong := few_le6 ls 12 200
    generalize fewL ls 12 200 = ks at *
    have hn1 : n1 = ks.length := by have h1 := ho1.len; have h2 := hp1.1; omega
    have hn12 : n1 ≤ 12 := by omega
    have hall := allL_le 200 ks hlong
    have Hn1 := Lib.hid hn1
    have Hlong := Lib.hid hlong
    have Hall := Lib.hid hall
    clear hfl hn1 hlong hall h hp
    have hbw1 := hb0.trans (hb1.mono hb0.size)
    have hs1 := Own.sl ho1
    have hps := hp1.parts
    have hq1 := hq.below hbw1
    have hcap1 := hs1.cap
    have hcm1 := hs1.capm
    unfold maxLen at hcm1
    clear ho1 hp1 hb0 hb1
    go_wp2_with fail
    refine (rall_any w1 A1 n1 c1 vs1 ks hs1 hps (fun l hl => by have := Hlong.out l hl; omega) (by omega)).mono ?_
    rintro e w2 ⟨A2, n2, c2, rfl, ho2, hb2⟩
    have hs2 := OwnB.sl ho2
    have hn2 : (allL ks).length = n2 := hs2.lenb
    have hn2l : n2 ≤ 40000 := by have h1 := Hall.out n1; rw [List.take_of_length_le (by have := Hn1.out; omega)] at h1; omega
    have Hn2 := Lib.hid hn2
    have hq2 := hq1.below hb2
    have hcap2 := hs2.cap
    have hcm2 := hs2.capm
    unfold maxLen at hcm2
    have Ho2 := Lib.hid ho2
    have hbw2 := hbw1.trans (hb2.mono hbw1.size)
    clear hn2 ho2
    by_cases h0 : n2 = 0
    · subst h0
      go_wp2
      go_ret
      exact ⟨rfl, hbw2⟩
    · have dn0 : ((n2 : Int) == 0) = false := by simpa using h0
      have dn1 : (n2 : Int) ≠ 0 := by omega
      obtain ⟨cut, hcut, hcutl⟩ : ∃ cut, at_ % n2 = cut ∧ cut < n2 := ⟨_, rfl, Nat.mod_lt at_ (by omega)⟩
      have ecut : (at_ : Int) % (n2 : Int) = (cut : Int) := by rw [← hcut]; simp
      have hch := chain_all ks
      have Hch := Lib.hid hch
      clear hcut hch
      go_wp2_with fail
      try rw [ecut]
      clear ecut dn0 dn1
      go_loopw [9] (AlongRel w2 (allL ks) cut) (fun q _ => n2 - (intOf q).toNat)
      case atStart => exact ⟨0, rfl, Nat.zero_le _, Below.refl _ _, Hch.out, fun h => h⟩
      case round =>
        obtain ⟨i, rfl, hi, hbr, HC, HF⟩ := hrel
        have hi2 : i ≤ n2 := by have := Hn2.out; omega
        clear hi
        by_cases hlt : i < n2
        · obtain ⟨kd, x, z, hpc, -, hcz⟩ := HC.out.step (by have := Hn2.out; omega)
          have hz := hpc.le
          obtain ⟨p1, p2, p3, p4, _⟩ := id hpc
          have hpn := padN_le i
          have hzn : z ≤ n2 := by have := Hn2.out; omega
          have hf : cut ≠ i + padN i + 4 → cut ≠ i + padN i + 5 → Free (allL ks) cut z → Free (allL ks) cut 0 := fun e4 e5 hz => HF.out (.go i kd x z hpc e4 e5 hz)
          obtain ⟨s, hs⟩ : ∃ s, i + padN i = s := ⟨_, rfl⟩
          rw [hs] at hpc hf p3 p4
          have Hf := Lib.hid hf
          have Hpc := Lib.hid hpc
          have Hcz := Lib.hid hcz
          have hsi : i ≤ s := by omega
          have hsz : s < z := by omega
          clear hpc hcz hf hz p1 p2 p3 p4
          have hp2 := rpiece_good wr s A2 n2 c2 (allL ks) kd z x (hs2.below (by omega) hbr) Hpc.out (by omega)
          have Hp2 := Lib.hid hp2
          clear hp2
          by_cases h7 : 57 < i % 64
          · have hpd : s = i + (64 - i % 64) := by rw [← hs]; unfold padN; rw [if_pos (by omega)]
            have es : (i : Int) + (64 - (i : Int) % 64) = (s : Int) := by omega
            have d7 : decide (57 < (i : Int) % 64) = true := by simp; omega
            have p7 : 57 < (i : Int) % 64 := by omega
            have HS := Lib.hid hs
            clear hs hpd
            go_wp2_with fail
            refine Hp2.out.mono ?_
            rintro e w3 ⟨A3, n3, c3, rfl, ho3, hb3⟩
            have hb4 := hbr.trans (hb3.mono hbr.size)
            by_cases q4 : cut = s + 4
            · have z4 : ((cut : Int) == (s : Int) + 4) = true := by simp; omega
              go_wp2
              go_ret
              exact ⟨rfl, hbw2.trans (hb4.mono hbw2.size)⟩
            · have z4 : ((cut : Int) == (s : Int) + 4) = false := by simp; omega
              by_cases q5 : cut = s + 5
              · have z5 : ((cut : Int) == (s : Int) + 5) = true := by simp; omega
                go_wp2
                go_ret
                exact ⟨rfl, hbw2.trans (hb4.mono hbw2.size)⟩
              · have z5 : ((cut : Int) == (s : Int) + 5) = false := by simp; omega
                have hfz := Hf.out q4 q5
                have Hfz := Lib.hid hfz
                clear hfz
                go_wp2
                go_roundw
                case rel => exact ⟨z, rfl, by have := Hn2.out; omega, hb4, Hcz, Hfz⟩
                case measure => simp [intOf]; omega
          · have hpd : s = i := by rw [← hs]; unfold padN; rw [if_neg (by omega)]; rfl
            subst hpd
            have d7 : decide (57 < (s : Int) % 64) = false := by simp; omega
            have p7 : ¬ (57 < (s : Int) % 64) := by omega
            clear hs
            go_wp2_with fail
            refine Hp2.out.mono ?_
            rintro e w3 ⟨A3, n3, c3, rfl, ho3, hb3⟩
            have hb4 := hbr.trans (hb3.mono hbr.size)
            by_cases q4 : cut = s + 4
            · have z4 : ((cut : Int) == (s : Int) + 4) = true := by simp; omega
              go_wp2
              go_ret
              exact ⟨rfl, hbw2.trans (hb4.mono hbw2.size)⟩
            · have z4 : ((cut : Int) == (s : Int) + 4) = false := by simp; omega
              by_cases q5 : cut = s + 5
              · have z5 : ((cut : Int) == (s : Int) + 5) = true := by simp; omega
                go_wp2
                go_ret
                exact ⟨rfl, hbw2.trans (hb4.mono hbw2.size)⟩
              · have z5 : ((cut : Int) == (s : Int) + 5) = false := by simp; omega
                have hfz := Hf.out q4 q5
                have Hfz := Lib.hid hfz
                clear hfz
                go_wp2
                go_roundw
                case rel => exact ⟨z, rfl, by have := Hn2.out; omega, hb4, Hcz, Hfz⟩
                case measure => simp [intOf]; omega
        · have hfree : Free (allL ks) cut 0 := HF.out (.done i (by have := Hn2.out; omega))
          have Hfree := Lib.hid hfree
          clear hfree HF HC
          obtain ⟨wo, rfl⟩ : ∃ wo : World, wo = wr := ⟨_, rfl⟩
          have hbw3 := hbw2.trans (hbr.mono hbw2.size)
          have hbo := hb2.trans (hbr.mono hb2.size)
          have ho := Own.below Ho2.out hbr
          obtain ⟨g, o, x, hA2, hg, hgl, hx, hcell, hfr⟩ := OwnB.place ho hcutl
          subst hA2
          have hxl := x.toNat_lt
          have hxor := u8_xor_nat x.toNat by_ (by omega) (by omega)
          have hv : x.toNat ^^^ by_ < 256 := Nat.xor_lt_two_pow (n := 8) (by omega) (by omega)
          have hst := OwnB.stored ho hcutl (UInt8.ofNat (x.toNat ^^^ by_))
          rw [UInt8.toNat_ofNat_of_lt' (by simpa using hv)] at hst
          obtain ⟨y, hy⟩ : ∃ y, UInt8.ofNat (x.toNat ^^^ by_) = y := ⟨_, rfl⟩
          have hne : ∀ (q : cut < (allL ks).length), y ≠ (allL ks)[cut] := by
            intro q e
            rw [List.getElem?_eq_getElem q, ← e, ← hy] at hx
            have h2 := congrArg UInt8.toNat (Option.some.inj hx)
            rw [UInt8.toNat_ofNat_of_lt' (by simpa using hv)] at h2
            have h3 : x.toNat ^^^ (x.toNat ^^^ by_) = x.toNat ^^^ x.toNat := by rw [h2]
            rw [← Nat.xor_assoc, Nat.xor_self, Nat.zero_xor] at h3
            exact hz h3
          rw [hy] at hst
          have Hne := Lib.hid hne
          have Hst := Lib.hid hst
          clear hst hne hy hx ho Ho2
          generalize hxe : x.toNat = xn at *
          have hbw4 : Below w.heap.size w (wo.setCell ⟨g, o + cut, none⟩ (.int .u8 ((xn ^^^ by_ : Nat) : Int))) := hbw3.setCell (by have := hbw1.size; simp; omega) _
          have hb14 : Below w1.heap.size w1 (wo.setCell ⟨g, o + cut, none⟩ (.int .u8 ((xn ^^^ by_ : Nat) : Int))) := hbo.setCell (by simp; omega) _
          clear hxe
          go_wp2_with fail
          generalize (wo.setCell ⟨g, o + cut, none⟩ (.int .u8 ((xn ^^^ by_ : Nat) : Int))) = w3 at *
          refine (read_at w3 _ n2 c2 _ (OwnB.sl Hst.out) (hq1.below hb14) (by omega)).mono ?_
          rintro e w5 ⟨rs, z, A5, n5, c5, vs5, hrt, rfl, ho5, hp5, hb5⟩
          have hs5 := Own.sl ho5
          have hp5' := hp5.parts
          have hn5 : n5 = rs.length := by have h1 := ho5.len; have h2 := hp5.1; omega
          have hcap5 := hs5.cap
          have hcm5 := hs5.capm
          unfold maxLen at hcm5
          have hb15 := hb14.trans (hb5.mono hb14.size)
          have hbw5 := hbw4.trans (hb5.mono hbw4.size)
          have Hrt := Lib.hid hrt
          have Hn5 := Lib.hid hn5
          clear hn5 hrt ho5 hp5 hb5 hcell hfr Hst
          go_wp2
          go_loopw [16, 84] (AheadRel w5 ks cut n1) (fun _ q _ => n1 - (intOf q).toNat)
          case atStart => exact ⟨0, 0, rfl, rfl, Nat.zero_le _, Nat.le_refl _, Below.refl _ _, ⟨by simp [allL], fun i h1 h2 => absurd h2 (by omega)⟩⟩
          case round =>
            obtain ⟨j, kk, rfl, rfl, hj, hkk, hbr2, HC⟩ := hrel
            have hb1r := hb15.trans (hbr2.mono hb15.size)
            by_cases hlt : j < n1
            · obtain ⟨rP, sP⟩ := cutHP hs1 .i64 ((j : Int) + 1) (j + 1) (by omega) (by omega)
              have pP := hps.take (j + 1)
              go_wp2_with fail
              refine (rall_any wr A1 (j + 1) c1 _ _ (sP.below (by omega) hb1r) (pP.below hb1r) (fun l hl => by have := Hlong.out l (List.mem_of_mem_take hl); omega) (by omega)).mono ?_
              rintro e w6 ⟨A6, n6, c6, rfl, ho6, hb6⟩
              have hn6 : (allL (ks.take (j + 1))).length = n6 := OwnB.len' ho6
              have Hn6 := Lib.hid hn6
              have hb7 := hbr2.trans (hb6.mono hbr2.size)
              clear hn6 ho6
              by_cases hle : n6 ≤ cut
              · have d1 : decide ((n6 : Int) ≤ (cut : Int)) = true := by simp; omega
                have HC2 : Hid ((allL (ks.take (j + 1))).length ≤ cut ∧ ∀ i, j + 1 < i → i ≤ j + 1 → cut < (allL (ks.take i)).length) := ⟨by rw [Hn6.out]; exact hle, fun i h1 h2 => absurd h1 (by omega)⟩
                go_wp2
                go_roundw
                case rel => exact ⟨j + 1, j + 1, by go_num, by go_num, by omega, by omega, hb7, HC2⟩
                case measure => simp [intOf]; omega
              · have d1 : decide ((n6 : Int) ≤ (cut : Int)) = false := by simp; omega
                have HC2 : Hid ((allL (ks.take kk)).length ≤ cut ∧ ∀ i, kk < i → i ≤ j + 1 → cut < (allL (ks.take i)).length) := ⟨HC.out.1, fun i h1 h2 => by
                  rcases Nat.eq_or_lt_of_le h2 with e | e
                  · rw [e, Hn6.out]; omega
                  · exact HC.out.2 i h1 (by omega)⟩
                go_wp2
                go_roundw
                case rel => exact ⟨j + 1, kk, by go_num, rfl, by omega, by omega, hb7, HC2⟩
                case measure => simp [intOf]; omega
            · obtain rfl : n1 = j := by omega
              have hcc := HC.out
              have hkl : kk < ks.length := by
                have h1 := Hn1.out
                rcases Nat.lt_or_ge kk ks.length with q | q
                · exact q
                · have h2 := hcc.1
                  rw [List.take_of_length_le q, Hn2.out] at h2
                  omega
              obtain ⟨hrs, hzk⟩ := spoilt_all ks (fun l hl => by have := Hlong.out l hl; omega) cut kk _ (by have := Hn2.out; omega) (Hne.out _) Hfree.out hkl hcc.1 (hcc.2 (kk + 1) (by omega) (by have := Hn1.out; omega)) Hrt.out
              have e1 : (rs == ks.take kk) = true := by rw [hrs]; simp
              have e5 : n5 = kk := by rw [Hn5.out, hrs]; simp; omega
              subst e5
              have E1 := Lib.hid e1
              have hzc : decide ((z : Int) ≤ (cut : Int)) = true := by simp; omega
              have hzd : (z : Int) ≤ (cut : Int) := by omega
              obtain ⟨r3, s3⟩ := cutHP hs1 .i64 (n5 : Int) n5 rfl hkk
              have p3 := hps.take n5
              have hbw6 := hbw5.trans (hbr2.mono hbw5.size)
              clear hcc HC hrs e1 hkl
              go_wp2_with fail
              refine (same6_any wr A5 n5 c5 vs5 rs (hs5.below (by omega) hbr2) (hp5'.below hbr2) A1 n5 c1 _ _ (s3.below (by omega) hb1r) (p3.below hb1r)).mono ?_
              rw [E1.out]
              rintro e w6 ⟨rfl, hb6⟩
              go_wp2
              go_ret
              exact ⟨rfl, hbw6.trans (hb6.mono hbw6.size)⟩
end Go.Proofs.YthbmlkdijppkbaaDoor
