/-
  What the reference's take, Probes, probe and Has answer. No condition.
-/
import Derived.Test.YthbmlkdijppkbaaDoorSealRef
import Derived.Test.YthbmlkdijppkbaaDoorBloomPlain
namespace Go.Proofs.YthbmlkdijppkbaaDoor
open Go.RowKit

set_option maxHeartbeats 400000 in
theorem rtake_any (w : World) (b : Int) : Calls Tryd.prog 54 #[.int .i64 b] w fun e w' => e = .returned (.int .i64 (takeN b : Nat)) ∧ w = w' := by
  go_enter Tryd.func54, Tryd.ntmps54
  go_wp2
  all_goals go_ret
  all_goals (refine ⟨ret_int ?_, rfl⟩; unfold takeN; split <;> (try split) <;> omega)
set_option maxHeartbeats 400000 in
theorem rprobes_any (w : World) (b : Int) : Calls Tryd.prog 38 #[.int .i64 b] w fun e w' => e = .returned (.int .i64 (probesN b : Nat)) ∧ w = w' := by
  have h1 := takeN_le b
  have ht := rtake_any w b
  have h2 : probesN b = min (max (takeN b * 69 / 100) 1) 30 := by unfold probesN; split <;> (try split) <;> omega
  rw [h2]
  clear h2
  generalize takeN b = t at *
  go_enter Tryd.func38, Tryd.ntmps38
  go_wp2_with fail
  refine ht.mono ?_
  rintro e w' ⟨rfl, rfl⟩
  go_wp2
  all_goals go_ret
  all_goals exact ⟨ret_int (by omega), rfl⟩
set_option maxHeartbeats 1000000 in
theorem rprobe_any (w : World) (A : Option Addr) (nk ck : Nat) (key : List UInt8) (hk : Sl w 1 A nk ck (bc key)) (hn : nk ≤ 4398046511104) (i m : Nat) (hi : i ≤ 30) (hm : 0 < m) (hm2 : m < 4294967296) :
    Calls Tryd.prog 55 #[.slice A nk ck, .int .i64 (i : Int), .int .i64 (m : Int)] w fun e w' => e = .returned (.int .i64 (probeL key m i : Nat)) ∧ Below w.heap.size w w' := by
  have Hl : Hid (key.length = nk) := hk.lenb
  have hcm := hk.capm
  have hcc := hk.cap
  unfold maxLen at hcm
  go_enter Tryd.func55, Tryd.ntmps55
  go_wp2
  go_loop [7, 13] (fun s q => ∃ k : Nat, k ≤ nk ∧ q = .int .i64 k ∧ s = .int .u64 (fnvL 2166136261 (key.take k) : Nat)) (fun _ q => nk - (intOf q).toNat)
  case atStart => exact ⟨0, Nat.zero_le _, rfl, rfl⟩
  case round =>
    obtain ⟨k, hk', rfl, rfl⟩ := hrel
    by_cases hlt : k < nk
    · have hkl : k < key.length := by have := Hl.out; omega
      obtain ⟨g, o, x, rfl, hx, hxl, hcell⟩ := hk.byte hkl
      have hv := fnvL_lt (key.take k) basis_lt
      have hs := fnvL_snoc 2166136261 (key.take k) key[k]
      rw [← take_snoc _ _ hkl, hx] at hs
      have HS := Lib.hid hs
      generalize fnvL 2166136261 (key.take k) = v at *
      obtain ⟨t, hte, htl⟩ : ∃ t : Nat, v ^^^ x = t ∧ t < 4294967296 := ⟨_, rfl, Nat.xor_lt_two_pow (n := 32) hv (by omega)⟩
      have e1 : bits .xor .u64 (v : Int) (x : Int) = (t : Int) := by rw [u64_xor_nat _ _ (by omega) (by omega), hte]
      have HT := Lib.hid hte
      clear hs hx hte
      go_wp2
      go_round
      case rel => exact ⟨k + 1, by omega, by go_num, by rw [HS.out, HT.out]; simp⟩
      case measure => simp [intOf]; omega
    · obtain rfl : k = nk := by omega
      have e1 : key.take k = key := List.take_of_length_le (by have := Hl.out; omega)
      rw [e1]
      obtain ⟨h, hh⟩ : ∃ h, hashL key = h := ⟨_, rfl⟩
      have hhl := hashL_lt key
      have hpr : probeL key m i = (h + i * stepL key) % 4294967296 % m := by rw [← hh]; rfl
      have Hpr := Lib.hid hpr
      rw [show fnvL 2166136261 key = h from hh]
      rw [hh] at hhl
      have hsl := sumL_lt key
      obtain ⟨d, hd⟩ : ∃ d, stepL key = d := ⟨_, rfl⟩
      have hd2 : d = if sumL key % 2 = 0 then sumL key + 1 else sumL key := by rw [← hd]; rfl
      have Hd := Lib.hid hd
      clear hh hpr hd
      go_wp2_with fail
      refine (rsum_any w A k ck key hk hn).mono ?_
      rintro e w1 ⟨rfl, hb1⟩
      have Hb := Lib.hid hb1
      clear hb1
      generalize sumL key = sk at *
      have hdl : d < 4294967296 := by split at hd2 <;> omega
      have hid : i * d ≤ 30 * 4294967296 := Nat.mul_le_mul hi (by omega)
      have hid2 : (i : Int) * d = ((i * d : Nat) : Int) := by simp
      obtain ⟨y, hy⟩ : ∃ y, i * d = y := ⟨_, rfl⟩
      rw [hy] at hid hid2
      have hy2 := Lib.hid hy
      clear hy
      have hm0 : ((m : Int) == 0) = false := by simp; omega
      obtain ⟨z, hz⟩ : ∃ z : Nat, (h + y) % 4294967296 % m = z := ⟨_, rfl⟩
      have hzm : z < m := by rw [← hz]; exact Nat.mod_lt _ hm
      have hzI : ((h : Int) + y) % 4294967296 % (m : Int) = (z : Int) := by rw [← hz]; simp
      have Hz := Lib.hid hz
      have Hfin : Hid (probeL key m i = z) := by have h1 := Hpr.out; rw [Hd.out, hy2.out, Hz.out] at h1; exact h1
      clear hz
      by_cases hpar : sk % 2 = 0
      · rw [if_pos hpar] at hd2
        subst hd2
        have hidI : (i : Int) * ((sk : Int) + 1) = (y : Int) := by rw [← hid2]; simp
        have d1 : ((sk : Int) % 2 == 0) = true := by simp; omega
        go_wp2
        go_ret
        exact ⟨ret_int (by rw [Hfin.out]), Hb.out⟩
      · rw [if_neg hpar] at hd2
        subst hd2
        have d1 : ((d : Int) % 2 == 0) = false := by simp; omega
        go_wp2
        go_ret
        exact ⟨ret_int (by rw [Hfin.out]), Hb.out⟩
theorem bit_ref (y i : Nat) : ((((y : Nat) : Int) / 2 ^ i).tmod 2 == 0) = !(y.testBit i) := by
  have e : ((y : Nat) : Int) / 2 ^ i = ((y / 2 ^ i : Nat) : Int) := by simp
  have e2 : (((y / 2 ^ i : Nat) : Int)).tmod 2 = ((y / 2 ^ i % 2 : Nat) : Int) := by
    rw [Int.tmod_eq_emod_of_nonneg (Int.natCast_nonneg _)]; rfl
  rw [e, e2, Nat.testBit_eq_decide_div_mod_eq, Bool.eq_iff_iff]
  simp only [beq_iff_eq, Bool.not_eq_true', decide_eq_false_iff_not]
  omega
set_option maxHeartbeats 1000000 in
theorem rhas_any (w : World) (A : Option Addr) (n c : Nat) (f : List UInt8) (h : Sl w 1 A n c (bc f)) (Ak : Option Addr) (nk ck : Nat) (key : List UInt8) (hk : Sl w 1 Ak nk ck (bc key)) (hnk : nk ≤ 4398046511104) (hn : n ≤ 100000) :
    Calls Tryd.prog 41 #[.slice A n c, .slice Ak nk ck] w fun e w' => e = .returned (.bool (hasL f key)) ∧ Below w.heap.size w w' := by
  have Hl : Hid (f.length = n) := h.lenb
  have hcm := h.capm
  have hcc := h.cap
  unfold maxLen at hcm
  by_cases h8 : n < 9
  · have e1 : hasL f key = true := by unfold hasL; rw [if_pos (.inl (by have := Hl.out; omega))]
    rw [e1]
    have d1 : decide ((n : Int) - 1 < 8) = true := by simp; omega
    go_enter Tryd.func41, Tryd.ntmps41
    go_wp2
    go_ret
    exact ⟨rfl, Below.refl _ _⟩
  · obtain ⟨k, rfl⟩ : ∃ k, n = k + 1 := ⟨n - 1, by omega⟩
    have d1 : decide ((k : Int) < 8) = false := by simp; omega
    have hn1 : k < f.length := by have := Hl.out; omega
    obtain ⟨g, o, x, rfl, hx, hxl, hcell⟩ := h.byte hn1
    by_cases h1 : x < 1
    · have e1 : hasL f key = true := by
        unfold hasL
        have := Hl.out
        rw [show f.length - 1 = k by omega, List.getElem?_eq_getElem hn1, Option.getD_some, hx]
        exact if_pos (.inr (.inl h1))
      rw [e1]
      obtain rfl : x = 0 := by omega
      clear hx
      go_enter Tryd.func41, Tryd.ntmps41
      go_wp2
      go_ret
      exact ⟨rfl, Below.refl _ _⟩
    by_cases h2 : 30 < x
    · have e1 : hasL f key = true := by
        unfold hasL
        have := Hl.out
        rw [show f.length - 1 = k by omega, List.getElem?_eq_getElem hn1, Option.getD_some, hx]
        exact if_pos (.inr (.inr h2))
      rw [e1]
      have d2 : ((x : Int) == 0) = false := by simp; omega
      have d3 : decide (30 < (x : Int)) = true := by simp; omega
      clear hx
      go_enter Tryd.func41, Tryd.ntmps41
      go_wp2
      go_ret
      exact ⟨rfl, Below.refl _ _⟩
    have e1 : hasL f key = (probesL key (8 * k) x).all (bitL f) := by
      unfold hasL
      have := Hl.out
      rw [show f.length - 1 = k by omega, List.getElem?_eq_getElem hn1]
      simp only [Option.getD_some, hx]
      rw [if_neg (by omega)]
    rw [e1]
    have d2 : ((x : Int) == 0) = false := by simp; omega
    have d3 : decide (30 < (x : Int)) = false := by simp; omega
    have hm : 0 < 8 * k := by omega
    clear hx e1
    go_enter Tryd.func41, Tryd.ntmps41
    go_wp2
    go_loopw [32] (fun q wr => ∃ i : Nat, i ≤ x ∧ q = .int .i64 i ∧ Below w.heap.size w wr ∧ Hid (∀ t, t < i → bitL f (probeL key (8 * k) t) = true)) (fun q _ => x - (intOf q).toNat)
    case atStart => exact ⟨0, Nat.zero_le _, rfl, Below.refl _ _, fun t ht => absurd ht (Nat.not_lt_zero _)⟩
    case round =>
      obtain ⟨i, hi, rfl, hbr, Hall⟩ := hrel
      by_cases hlt : i < x
      · obtain ⟨v, hv⟩ : ∃ v, probeL key (8 * k) i = v := ⟨_, rfl⟩
        have hvl : v < 8 * k := by rw [← hv]; exact probeL_lt key hm i
        have Hv := Lib.hid hv
        clear hv
        go_wp2_with fail
        refine (rprobe_any wr Ak nk ck key (hk.below (by omega) hbr) hnk i (8 * k) (by omega) hm (by omega)).mono ?_
        rw [Hv.out]
        rintro e w1 ⟨rfl, hb1⟩
        have hb2 := hbr.trans (hb1.mono hbr.size)
        have hvf : v / 8 < f.length := by have := Hl.out; omega
        obtain ⟨g', o', y, eA, hy, hyl, hycell⟩ := (h.below (by omega) hb2).byte hvf
        obtain ⟨rfl, rfl⟩ : g = g' ∧ o = o' := by simpa using eA
        have hbit : bitL f v = y.testBit (v % 8) := by unfold bitL; rw [List.getElem?_eq_getElem hvf, Option.getD_some, hy]
        have Hbit := Lib.hid hbit
        have hv8 : v / 8 < k + 1 := by omega
        clear hy hbit eA
        go_wp2
        all_goals rename_i hx
        all_goals rw [bit_ref] at hx
        · have hbf : bitL f v = false := by rw [Hbit.out]; simpa using hx
          have eall : (probesL key (8 * k) x).all (bitL f) = false := by
            rw [List.all_eq_false]
            exact ⟨v, probesL_mem.2 ⟨i, hlt, Hv.out⟩, by rw [hbf]; simp⟩
          go_ret
          exact ⟨ret_bool eall.symm, hb2⟩
        · have hbt : bitL f v = true := by rw [Hbit.out]; simpa using hx
          go_roundw
          case rel =>
            refine ⟨i + 1, by omega, by go_num, hb2, fun t ht => ?_⟩
            by_cases e : t = i
            · rw [e, Hv.out]; exact hbt
            · exact Hall.out t (by omega)
          case measure => simp [intOf]; omega
      · obtain rfl : i = x := by omega
        have eall : (probesL key (8 * k) i).all (bitL f) = true := by
          rw [List.all_eq_true]
          intro u hu
          obtain ⟨t, ht, rfl⟩ := probesL_mem.1 hu
          exact Hall.out t ht
        go_wp2
        go_ret
        exact ⟨ret_bool eall.symm, hbr⟩
end Go.Proofs.YthbmlkdijppkbaaDoor
