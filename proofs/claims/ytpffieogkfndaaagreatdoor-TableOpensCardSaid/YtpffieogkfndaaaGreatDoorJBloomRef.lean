/-
  KeyReadP, BloomRef in one text. No condition but sizes.
-/
import Derived.Test.YtpffieogkfndaaaGreatDoorJKeyAfterW
import Derived.Test.YtpffieogkfndaaaGreatDoorJSealRef
import Derived.Test.YtpffieogkfndaaaGreatDoorJBloomPlain
namespace Go.Proofs.YtpffieogkfndaaaGreatDoor
open Go.RowKit
set_option maxRecDepth 20000
set_option linter.unusedVariables false
set_option linter.unusedSimpArgs false
/-- bytes as a number, the least first -/
def leval : List UInt8 → Nat
  | [] => 0
  | b :: l => leval l * 256 + b.toNat
theorem leval_lt : ∀ l : List UInt8, leval l < 256 ^ l.length
  | [] => by simp [leval]
  | b :: l => by
    have ih := leval_lt l
    have hb := b.toNat_lt
    unfold leval
    rw [List.length_cons, Nat.pow_succ]
    have : leval l + 1 ≤ 256 ^ l.length := ih
    have := Nat.mul_le_mul_right 256 this
    omega
def noKey : KeyL := ⟨[], 0, 0⟩
def keyOfN (u : List UInt8) (n : Nat) : KeyL := ⟨u, UInt64.ofNat (n / 256), UInt8.ofNat n⟩
/-- the version in front, what stands behind, the error's number -/
def keyReadL (p : List UInt8) : KeyL × List UInt8 × Nat :=
  if (takeTextL p 64).2.2 ≠ 0 then (noKey, [], (takeTextL p 64).2.2)
  else if (takeTextL p 64).2.1.length < 8 then (noKey, [], 2)
  else if checkKey (keyOfN (takeTextL p 64).1 (leval ((takeTextL p 64).2.1.take 8))) ≠ 0 then (noKey, [], 4)
  else (keyOfN (takeTextL p 64).1 (leval ((takeTextL p 64).2.1.take 8)), (takeTextL p 64).2.1.drop 8, 0)
theorem leval_le (n : Nat) : ∀ m k : Nat, leval ((List.range m).map fun i => UInt8.ofNat (n / 256 ^ (k + i))) = n / 256 ^ k % 256 ^ m
  | 0, k => by simp [leval, Nat.mod_one]
  | m + 1, k => by
    have ih := leval_le n m (k + 1)
    rw [List.range_succ_eq_map, List.map_cons, List.map_map]
    unfold leval
    have e : (List.range m).map ((fun i => UInt8.ofNat (n / 256 ^ (k + i))) ∘ Nat.succ) = (List.range m).map fun i => UInt8.ofNat (n / 256 ^ (k + 1 + i)) := by
      apply List.map_congr_left
      intro i _
      simp only [Function.comp]
      rw [show k + Nat.succ i = k + 1 + i by omega]
    rw [e, ih]
    have h2 : (UInt8.ofNat (n / 256 ^ (k + 0))).toNat = n / 256 ^ k % 256 := by simp
    have h3 : n / 256 ^ (k + 1) = n / 256 ^ k / 256 := by rw [Nat.pow_succ, ← Nat.div_div_eq_div_mul]
    rw [h2, h3, Nat.pow_succ 256 m, Nat.mul_comm (256 ^ m) 256, Nat.mod_mul]
    omega
theorem leval_le8 (n : Nat) (h : n < 18446744073709551616) : leval (le8 n) = n := by
  have := leval_le n 8 0
  simp only [Nat.zero_add, Nat.pow_zero, Nat.div_one] at this
  unfold le8
  rw [this]
  exact Nat.mod_eq_of_lt h
/-- WHAT A VERSION's BYTES SAY, whatever stands behind -/
theorem keyRead_bytes (k : KeyL) (h : checkKey k = 0) (rest : List UInt8) : keyReadL (keyBytesL k ++ rest) = (k, rest, 0) := by
  have hb0 := h
  unfold checkKey at hb0
  have hs : k.seq.toNat < 72057594037927936 ∧ k.user.length ≤ 64 := by
    repeat' split at hb0
    all_goals omega
  have hd := k.kind.toNat_lt
  have e1 : takeTextL (keyBytesL k ++ rest) 64 = (k.user, le8 (keyN k) ++ rest, 0) := by
    unfold keyBytesL
    rw [List.append_assoc]
    have := take_text k.user (le8 (keyN k) ++ rest) (by omega) 64
    rw [if_pos hs.2] at this
    exact this
  have hn : leval (le8 (keyN k)) = keyN k := leval_le8 _ (by unfold keyN; omega)
  have hk : keyOfN k.user (keyN k) = k := by
    unfold keyOfN keyN
    cases k with | mk u s d =>
    simp only [KeyL.mk.injEq, true_and]
    simp only at hd
    constructor
    · apply UInt64.toNat_inj.1
      rw [UInt64.toNat_ofNat', show (s.toNat * 256 + d.toNat) / 256 = s.toNat by omega]
      exact Nat.mod_eq_of_lt s.toNat_lt
    · apply UInt8.toNat_inj.1
      rw [UInt8.toNat_ofNat']
      omega
  unfold keyReadL
  rw [e1]
  simp only [ne_eq, not_true_eq_false, if_false]
  rw [List.take_left' (le8_len _), List.drop_left' (le8_len _), hn, hk, if_neg (by rw [List.length_append, le8_len]; omega), if_neg (by omega)]
/-- a version, bytes and an error's number that a call gives back -/
def GotRead (w : World) (r : KeyL × List UInt8 × Nat) (e : Ending) (w' : World) : Prop :=
  ∃ (A : Option Addr) (n c : Nat) (B : Option Addr) (m d : Nat), e = .returned (.tuple #[.agg #[.slice A n c, .int .u64 (r.1.seq.toNat : Int), .int .u8 (r.1.kind.toNat : Int)], .slice B m d, .int .i64 (r.2.2 : Int)]) ∧
    Sl w' 1 A n c (bc r.1.user) ∧ Sl w' 1 B m d (bc r.2.1) ∧ Below w.heap.size w w'
end Go.Proofs.YtpffieogkfndaaaGreatDoor

namespace Go.Proofs.YtpffieogkfndaaaGreatDoor
set_option maxRecDepth 20000
set_option linter.unusedVariables false
set_option linter.unusedSimpArgs false
open Go.RowKit

set_option maxHeartbeats 400000 in
theorem rbltake_any (w : World) (b : Int) : Calls Tryz.prog 94 #[.int .i64 b] w fun e w' => e = .returned (.int .i64 (takeN b : Nat)) ∧ w = w' := by
  go_enter Tryz.func94, Tryz.ntmps94
  go_wp2
  all_goals go_ret
  all_goals (refine ⟨ret_int ?_, rfl⟩; unfold takeN; split <;> (try split) <;> omega)
set_option maxHeartbeats 400000 in
theorem rprobes_any (w : World) (b : Int) : Calls Tryz.prog 95 #[.int .i64 b] w fun e w' => e = .returned (.int .i64 (probesN b : Nat)) ∧ w = w' := by
  have h1 := takeN_le b
  have ht := rbltake_any w b
  have h2 : probesN b = min (max (takeN b * 69 / 100) 1) 30 := by unfold probesN; split <;> (try split) <;> omega
  rw [h2]
  clear h2
  generalize takeN b = t at *
  go_enter Tryz.func95, Tryz.ntmps95
  go_wp2_with fail
  refine ht.mono ?_
  rintro e w' ⟨rfl, rfl⟩
  go_wp2
  all_goals go_ret
  all_goals exact ⟨ret_int (by omega), rfl⟩
set_option maxHeartbeats 1000000 in
theorem rprobe_any (w : World) (A : Option Addr) (nk ck : Nat) (key : List UInt8) (hk : Sl w 1 A nk ck (bc key)) (hn : nk ≤ 4398046511104) (i m : Nat) (hi : i ≤ 30) (hm : 0 < m) (hm2 : m < 4294967296) :
    Calls Tryz.prog 96 #[.slice A nk ck, .int .i64 (i : Int), .int .i64 (m : Int)] w fun e w' => e = .returned (.int .i64 (probeL key m i : Nat)) ∧ Below w.heap.size w w' := by
  have Hl : Hid (key.length = nk) := hk.lenb
  have hcm := hk.capm
  have hcc := hk.cap
  unfold maxLen at hcm
  go_enter Tryz.func96, Tryz.ntmps96
  go_wp2
  go_loop [7, 13] (fun s q => ∃ k : Nat, k ≤ nk ∧ q = .int .i64 k ∧ s = .int .u64 (fnvL 2166136261 (key.take k) : Nat)) (fun _ q => nk - (intOf q).toNat)
  case atStart => exact ⟨0, Nat.zero_le _, rfl, rfl⟩
  case round =>
    obtain ⟨k, hk', rfl, rfl⟩ := hrel
    by_cases hlt : k < nk
    · have hkl : k < key.length := by have := Hl.out; omega
      obtain ⟨g, o, x, rfl, hx, hxl, hcell⟩ := hk.byte hkl
      have hv := fnvL_lt (key.take k) basis_lt
      have hs := fnvL_snoc 2166136261 (key.take k) key[k]
      rw [← take_snoc _ _ hkl, hx] at hs
      have HS := Lib.hid hs
      generalize fnvL 2166136261 (key.take k) = v at *
      obtain ⟨t, hte, htl⟩ : ∃ t : Nat, v ^^^ x = t ∧ t < 4294967296 := ⟨_, rfl, Nat.xor_lt_two_pow (n := 32) hv (by omega)⟩
      have e1 : bits .xor .u64 (v : Int) (x : Int) = (t : Int) := by rw [u64_xor_nat _ _ (by omega) (by omega), hte]
      have HT := Lib.hid hte
      clear hs hx hte
      go_wp2
      go_round
      case rel => exact ⟨k + 1, by omega, by go_num, by rw [HS.out, HT.out]; simp⟩
      case measure => simp [intOf]; omega
    · obtain rfl : k = nk := by omega
      have e1 : key.take k = key := List.take_of_length_le (by have := Hl.out; omega)
      rw [e1]
      obtain ⟨h, hh⟩ : ∃ h, hashL key = h := ⟨_, rfl⟩
      have hhl := hashL_lt key
      have hpr : probeL key m i = (h + i * stepL key) % 4294967296 % m := by rw [← hh]; rfl
      have Hpr := Lib.hid hpr
      rw [show fnvL 2166136261 key = h from hh]
      rw [hh] at hhl
      have hsl := sumL_lt key
      obtain ⟨d, hd⟩ : ∃ d, stepL key = d := ⟨_, rfl⟩
      have hd2 : d = if sumL key % 2 = 0 then sumL key + 1 else sumL key := by rw [← hd]; rfl
      have Hd := Lib.hid hd
      clear hh hpr hd
      go_wp2_with fail
      refine (rsum_any w A k ck key hk hn).mono ?_
      rintro e w1 ⟨rfl, hb1⟩
      have Hb := Lib.hid hb1
      clear hb1
      generalize sumL key = sk at *
      have hdl : d < 4294967296 := by split at hd2 <;> omega
      have hid : i * d ≤ 30 * 4294967296 := Nat.mul_le_mul hi (by omega)
      have hid2 : (i : Int) * d = ((i * d : Nat) : Int) := by simp
      obtain ⟨y, hy⟩ : ∃ y, i * d = y := ⟨_, rfl⟩
      rw [hy] at hid hid2
      have hy2 := Lib.hid hy
      clear hy
      have hm0 : ((m : Int) == 0) = false := by simp; omega
      obtain ⟨z, hz⟩ : ∃ z : Nat, (h + y) % 4294967296 % m = z := ⟨_, rfl⟩
      have hzm : z < m := by rw [← hz]; exact Nat.mod_lt _ hm
      have hzI : ((h : Int) + y) % 4294967296 % (m : Int) = (z : Int) := by rw [← hz]; simp
      have Hz := Lib.hid hz
      have Hfin : Hid (probeL key m i = z) := by have h1 := Hpr.out; rw [Hd.out, hy2.out, Hz.out] at h1; exact h1
      clear hz
      by_cases hpar : sk % 2 = 0
      · rw [if_pos hpar] at hd2
        subst hd2
        have hidI : (i : Int) * ((sk : Int) + 1) = (y : Int) := by rw [← hid2]; simp
        have d1 : ((sk : Int) % 2 == 0) = true := by simp; omega
        go_wp2
        go_ret
        exact ⟨ret_int (by rw [Hfin.out]), Hb.out⟩
      · rw [if_neg hpar] at hd2
        subst hd2
        have d1 : ((d : Int) % 2 == 0) = false := by simp; omega
        go_wp2
        go_ret
        exact ⟨ret_int (by rw [Hfin.out]), Hb.out⟩
end Go.Proofs.YtpffieogkfndaaaGreatDoor
