/-
  The walk of SealApart: two texts of one length that are apart within 32 bits have unlike sums; true at every input. The table lies in its variable.
-/
import Derived.Test.YthbmlkdijppkbaaDoorSealAwake
import Derived.Test.YthbmlkdijppkbaaDoorSealApartPlain
import Derived.RegionTactic
import Derived.ChangeAlike
import Derived.BigRegion
namespace Go.Proofs.YthbmlkdijppkbaaDoor
open Go.RowKit

theorem pow8_lt (r : Nat) (h : r < 8) : 2 ^ r < 256 := by
  have : 2 ^ r < 2 ^ 8 := Nat.pow_lt_pow_right (by omega) h
  omega
theorem xor_pow (x r : Nat) (hx : x < 256) (hr : r < 8) : bits .xor .u8 (x : Int) ((2 : Int) ^ r % 256) = ((x ^^^ 2 ^ r : Nat) : Int) := by
  have hp := pow8_lt r hr
  have e : (2 : Int) ^ r = ((2 ^ r : Nat) : Int) := by simp
  have e5 : ((2 : Int) ^ r % 256) = ((2 ^ r : Nat) : Int) := by
    rw [e]
    generalize 2 ^ r = q at *
    omega
  rw [e5]
  exact u8_xor_nat x _ hx hp
theorem win_step (P k0 k N j : Nat) : (decide (k0 ≤ j ∧ j < k0 + (k + 1) ∧ j < N) && P.testBit (j - k0)) =
    ((decide (k0 ≤ j ∧ j < k0 + k ∧ j < N) && P.testBit (j - k0)) ^^ (decide (j = k0 + k) && (decide (k0 + k < N) && P.testBit k))) := by
  by_cases e : j = k0 + k
  · subst e
    simp
  · have h1 : (k0 ≤ j ∧ j < k0 + (k + 1) ∧ j < N) ↔ (k0 ≤ j ∧ j < k0 + k ∧ j < N) := by omega
    simp [e, h1]
set_option maxHeartbeats 4000000 in
theorem sealApart.walk (w : World) (A : Option Addr) (n c : Nat) (l : List UInt8) (h : Sl w 1 A n c (bc l)) (at_ : Nat) (hat : at_ < 65536) (pat : Nat) (hpat : pat < 4294967296) (hq : Quarter w) :
    Calls Tryd.prog 4 #[.slice A n c, .int .u16 (at_ : Int), .int .u32 (pat : Int)] w fun e w' => e = .returned (.bool true) ∧ Below w.heap.size w w' := by
  go_enter Tryd.func4, Tryd.ntmps4
  go_wp2_with fail
  refine (cut_any w A n c l 600 h (by omega)).mono ?_
  rintro e w1 ⟨A1, n1, c1, rfl, ho1, hb1⟩
  have ht : (l.take 600).length ≤ 600 := by simp; omega
  generalize l.take 600 = t at *
  have hl1 := ho1.len'
  subst hl1
  clear h
  go_wp2_with fail
  refine (awake02 w1 (hq.below hb1)).mono ?_
  rintro e w2 ⟨rfl, hb2⟩
  have hbw2 := hb1.trans (hb2.mono hb1.size)
  have hq2 := hq.below hbw2
  by_cases h0 : t.length = 0
  · have h0' : ((t.length : Int) == 0) = true := by simp [h0]
    have H0 := Lib.hid h0
    clear h0
    go_wp2_with fail
    refine (awake02 w2 hq2).mono ?_
    rintro e w3 ⟨rfl, hb3⟩
    go_wp2
    go_ret
    exact ⟨rfl, hbw2.trans (hb3.mono hbw2.size)⟩
  · have h0' : ((t.length : Int) == 0) = false := by simpa using h0
    have hpos : 0 < t.length := by omega
    have ho1' := Own.below ho1 hb2
    go_wp2_with fail
    refine (copy_any w2 A1 _ c1 t (OwnB.sl ho1') (by omega)).mono ?_
    rintro e w3 ⟨A3, n3, c3, rfl, ho3, hb3⟩
    have hn3 := OwnB.len' ho3
    subst hn3
    obtain ⟨P, hP, hPl⟩ : ∃ P, pat ||| 1 = P ∧ P < 4294967296 := ⟨_, rfl, Nat.or_lt_two_pow (n := 32) hpat (by omega)⟩
    have e1 : bits .or .u32 (pat : Int) 1 = (P : Int) := by rw [← hP]; exact u32_or_nat pat 1 hpat (by omega)
    have hP0 : P.testBit 0 = true := by rw [← hP]; simp
    obtain ⟨k0, hk0, hk0l⟩ : ∃ k0, at_ % (8 * t.length) = k0 ∧ k0 < 8 * t.length := ⟨_, rfl, Nat.mod_lt _ (by omega)⟩
    have e2 : (at_ : Int) % (8 * (t.length : Int)) = (k0 : Int) := by rw [← hk0]; simp
    have HP := Lib.hid hP
    have HP0 := Lib.hid hP0
    clear hP hP0 hk0 h0
    have hbw3 := hbw2.trans (hb3.mono hbw2.size)
    have hb23 := hb3
    go_wp2
    go_loopw [22] (fun i wr => ∃ k : Nat, k ≤ 32 ∧ i = .int .i64 k ∧ Below w2.heap.size w2 wr ∧ ∃ u, u.length = t.length ∧ OwnB wr w2.heap.size A3 t.length c3 u ∧ Hid (∀ j, mbit u j = (mbit t j ^^ (decide (k0 ≤ j ∧ j < k0 + k ∧ j < 8 * t.length) && P.testBit (j - k0))))) (fun i _ => 32 - (intOf i).toNat)
    case atStart => exact ⟨0, by omega, rfl, hb23, t, rfl, ho3, fun j => by rw [decide_eq_false (show ¬ (k0 ≤ j ∧ j < k0 + 0 ∧ j < 8 * t.length) by omega)]; simp⟩
    case round =>
      clear ho3 hb3 hb23 hbw3
      obtain ⟨k, hk, rfl, hbr, u, hul, hou, Hu⟩ := hrel
      by_cases hlt : k < 32
      · have Hul := Lib.hid hul
        have hdiv : P / 2 ^ k < 4294967296 := Nat.lt_of_le_of_lt (Nat.div_le_self _ _) hPl
        have e3 : bits .and .u32 ((P : Int) / 2 ^ k) 1 = (((P / 2 ^ k) % 2 : Nat) : Int) := by
          rw [← nat_mask1]
          have := u32_and_nat (P / 2 ^ k) 1 hdiv (by omega)
          rw [← this]
          simp
        cases hbit : P.testBit k with
        | false =>
          have hz : P / 2 ^ k % 2 = 0 := by
            rw [Nat.testBit_eq_decide_div_mod_eq] at hbit
            simp at hbit
            omega
          rw [hz] at e3
          have e3' : bits .and .u32 ((P : Int) / 2 ^ k) 1 = 0 := by simpa using e3
          have Hbit := Lib.hid hbit
          have Hou := Lib.hid hou
          clear e3 hz hbit hdiv hul hou
          go_wp2
          go_roundw
          case rel => exact ⟨k + 1, by omega, by go_num, hbr, u, Hul.out, Hou.out, fun j => by rw [win_step, Hbit.out, Hu.out j]; simp⟩
          case measure => simp [intOf]; omega
        | true =>
          have hz : P / 2 ^ k % 2 = 1 := by
            rw [Nat.testBit_eq_decide_div_mod_eq] at hbit
            simpa using hbit
          rw [hz] at e3
          have e3' : bits .and .u32 ((P : Int) / 2 ^ k) 1 = 1 := by simpa using e3
          have Hbit := Lib.hid hbit
          clear e3 hz hbit hdiv
          by_cases hin : k0 + k < 8 * t.length
          · have hidx : (k0 + k) / 8 < t.length := by omega
            obtain ⟨g, o, x, hA3, hg, hgl, hx, hcell, hfr⟩ := hou.place hidx
            subst hA3
            have hv : x.toNat ^^^ 2 ^ ((k0 + k) % 8) < 256 := Nat.xor_lt_two_pow (n := 8) x.toNat_lt (Nat.pow_lt_pow_right (by omega) (by omega))
            have hst := hou.stored hidx (UInt8.ofNat (x.toNat ^^^ 2 ^ ((k0 + k) % 8)))
            rw [UInt8.toNat_ofNat_of_lt' (by simpa using hv)] at hst
            have ev := xor_pow x.toNat ((k0 + k) % 8) x.toNat_lt (by omega)
            have Hst := Lib.hid hst
            have Hou := Lib.hid hou
            have Hx := Lib.hid hx
            have hxl := x.toNat_lt
            clear hul hou hst hx
            go_wp2
            clear hv
            go_region
            go_wp2
            go_roundw
            case rel =>
              refine ⟨k + 1, by omega, by go_num, (hbr.setCell hg _).drew, u.set ((k0 + k) / 8) (UInt8.ofNat (x.toNat ^^^ 2 ^ ((k0 + k) % 8))), by rw [List.length_set]; exact Hul.out, Own.drew Hst.out, fun j => ?_⟩
              have hu8 : (k0 + k) / 8 < u.length := by have := Hul.out; omega
              have e6 : u[(k0 + k) / 8] = x := by
                have := Hx.out
                rw [List.getElem?_eq_getElem hu8] at this
                exact Option.some.inj this
              have h7 := mbit_flip u (k0 + k) j hu8
              rw [e6] at h7
              rw [h7, win_step, Hu.out j, Hbit.out, decide_eq_true hin, Bool.xor_assoc]
              simp
            case measure => simp [intOf]; omega
          · have Hou := Lib.hid hou
            clear hul hou
            go_wp2
            go_roundw
            case rel => exact ⟨k + 1, by omega, by go_num, hbr, u, Hul.out, Hou.out, fun j => by rw [win_step, Hu.out j]; simp [hin]⟩
            case measure => simp [intOf]; omega
      · obtain rfl : k = 32 := by omega
        have hne : sumL u ≠ sumL t := by
          refine sum_apart t u hul k0 hk0l (fun j hj => ?_) ?_ (fun j hj => ?_)
          · rw [Hu.out j, decide_eq_false (by omega)]; simp
          · rw [Hu.out k0]; simp [hk0l, HP0.out]
          · rw [Hu.out j, decide_eq_false (by omega)]; simp
        have hbw4 := hbw2.trans (hbr.mono hbw2.size)
        have ho1r := Own.below ho1' hbr
        obtain ⟨p1, p2⟩ := one_part wr A3 _ c3 u hou.sl 24
        have hba := (Below.refl wr.heap.size wr).alloc (Nat.le_refl _) (.cells #[.slice A3 t.length c3] 24)
        have hbw5 := hbw4.trans (hba.mono hbw4.size)
        have q1 := sum_any _ _ 1 1 _ _ p1 p2 (hq.below hbw5)
        have ho1s := Own.below ho1r hba
        obtain ⟨p3, p4⟩ := one_part _ A1 _ c1 t (OwnB.sl ho1s) 24
        have hbb := (Below.refl _ (wr.alloc (.cells #[.slice A3 t.length c3] 24))).alloc (Nat.le_refl _) (.cells #[.slice A1 t.length c1] 24)
        have hbw6 := hbw5.trans (hbb.mono hbw5.size)
        have q2 := sum_any _ _ 1 1 _ _ p3 p4 (hq.below hbw6)
        simp only [List.flatten_cons, List.flatten_nil, List.append_nil, World.size_alloc] at q1 q2
        have Q1 := Lib.hid q1
        have Q2 := Lib.hid q2
        have hneq : ((sumL u : Int) != (sumL t : Int)) = true := bne_iff_ne.2 (fun e => hne (by omega))
        have Hbw6 := Lib.hid hbw6
        clear p1 p2 p3 p4 q1 q2 hba hbb hbw5 hbw6 hou ho1r ho1s hul hbr hne ho1 ho1' hq hq2
        go_wp2_with fail
        refine (Q1.out).mono ?_
        rintro e wx ⟨rfl, rfl⟩
        go_wp2_with fail
        refine (Q2.out).mono ?_
        rintro e wx ⟨rfl, rfl⟩
        go_wp2
        go_ret
        exact ⟨rfl, Hbw6.out⟩
end Go.Proofs.YthbmlkdijppkbaaDoor
