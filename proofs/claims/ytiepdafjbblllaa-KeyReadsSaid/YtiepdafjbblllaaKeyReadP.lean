/-
  How a version is read, plain: what stands in front of bytes, if it is a version. No condition.
-/
import Derived.Test.YtiepdafjbblllaaKeyMake
namespace Go.Proofs.Ytiepdafjbblllaa
open Go.RowKit
set_option maxRecDepth 20000
/-- bytes as a number, the least first -/
def leval : List UInt8 → Nat
  | [] => 0
  | b :: l => leval l * 256 + b.toNat
theorem leval_lt : ∀ l : List UInt8, leval l < 256 ^ l.length
  | [] => by simp [leval]
  | b :: l => by
    have ih := leval_lt l
    have hb := b.toNat_lt
    unfold leval
    rw [List.length_cons, Nat.pow_succ]
    have : leval l + 1 ≤ 256 ^ l.length := ih
    have := Nat.mul_le_mul_right 256 this
    omega
def noKey : KeyL := ⟨[], 0, 0⟩
def keyOfN (u : List UInt8) (n : Nat) : KeyL := ⟨u, UInt64.ofNat (n / 256), UInt8.ofNat n⟩
/-- the version in front, what stands behind, the error's number -/
def keyReadL (p : List UInt8) : KeyL × List UInt8 × Nat :=
  if (takeTextL p 64).2.2 ≠ 0 then (noKey, [], (takeTextL p 64).2.2)
  else if (takeTextL p 64).2.1.length < 8 then (noKey, [], 2)
  else if checkKey (keyOfN (takeTextL p 64).1 (leval ((takeTextL p 64).2.1.take 8))) ≠ 0 then (noKey, [], 4)
  else (keyOfN (takeTextL p 64).1 (leval ((takeTextL p 64).2.1.take 8)), (takeTextL p 64).2.1.drop 8, 0)
theorem leval_le (n : Nat) : ∀ m k : Nat, leval ((List.range m).map fun i => UInt8.ofNat (n / 256 ^ (k + i))) = n / 256 ^ k % 256 ^ m
  | 0, k => by simp [leval, Nat.mod_one]
  | m + 1, k => by
    have ih := leval_le n m (k + 1)
    rw [List.range_succ_eq_map, List.map_cons, List.map_map]
    unfold leval
    have e : (List.range m).map ((fun i => UInt8.ofNat (n / 256 ^ (k + i))) ∘ Nat.succ) = (List.range m).map fun i => UInt8.ofNat (n / 256 ^ (k + 1 + i)) := by
      apply List.map_congr_left
      intro i _
      simp only [Function.comp]
      rw [show k + Nat.succ i = k + 1 + i by omega]
    rw [e, ih]
    have h2 : (UInt8.ofNat (n / 256 ^ (k + 0))).toNat = n / 256 ^ k % 256 := by simp
    have h3 : n / 256 ^ (k + 1) = n / 256 ^ k / 256 := by rw [Nat.pow_succ, ← Nat.div_div_eq_div_mul]
    rw [h2, h3, Nat.pow_succ 256 m, Nat.mul_comm (256 ^ m) 256, Nat.mod_mul]
    omega
theorem leval_le8 (n : Nat) (h : n < 18446744073709551616) : leval (le8 n) = n := by
  have := leval_le n 8 0
  simp only [Nat.zero_add, Nat.pow_zero, Nat.div_one] at this
  unfold le8
  rw [this]
  exact Nat.mod_eq_of_lt h
/-- WHAT A VERSION's BYTES SAY, whatever stands behind -/
theorem keyRead_bytes (k : KeyL) (h : checkKey k = 0) (rest : List UInt8) : keyReadL (keyBytesL k ++ rest) = (k, rest, 0) := by
  have hb0 := h
  unfold checkKey at hb0
  have hs : k.seq.toNat < 72057594037927936 ∧ k.user.length ≤ 64 := by
    repeat' split at hb0
    all_goals omega
  have hd := k.kind.toNat_lt
  have e1 : takeTextL (keyBytesL k ++ rest) 64 = (k.user, le8 (keyN k) ++ rest, 0) := by
    unfold keyBytesL
    rw [List.append_assoc]
    have := take_text k.user (le8 (keyN k) ++ rest) (by omega) 64
    rw [if_pos hs.2] at this
    exact this
  have hn : leval (le8 (keyN k)) = keyN k := leval_le8 _ (by unfold keyN; omega)
  have hk : keyOfN k.user (keyN k) = k := by
    unfold keyOfN keyN
    cases k with | mk u s d =>
    simp only [KeyL.mk.injEq, true_and]
    simp only at hd
    constructor
    · apply UInt64.toNat_inj.1
      rw [UInt64.toNat_ofNat', show (s.toNat * 256 + d.toNat) / 256 = s.toNat by omega]
      exact Nat.mod_eq_of_lt s.toNat_lt
    · apply UInt8.toNat_inj.1
      rw [UInt8.toNat_ofNat']
      omega
  unfold keyReadL
  rw [e1]
  simp only [ne_eq, not_true_eq_false, if_false]
  rw [List.take_left' (le8_len _), List.drop_left' (le8_len _), hn, hk, if_neg (by rw [List.length_append, le8_len]; omega), if_neg (by omega)]
/-- a version, bytes and an error's number that a call gives back -/
def GotRead (w : World) (r : KeyL × List UInt8 × Nat) (e : Ending) (w' : World) : Prop :=
  ∃ (A : Option Addr) (n c : Nat) (B : Option Addr) (m d : Nat), e = .returned (.tuple #[.agg #[.slice A n c, .int .u64 (r.1.seq.toNat : Int), .int .u8 (r.1.kind.toNat : Int)], .slice B m d, .int .i64 (r.2.2 : Int)]) ∧
    Sl w' 1 A n c (bc r.1.user) ∧ Sl w' 1 B m d (bc r.2.1) ∧ Below w.heap.size w w'
end Go.Proofs.Ytiepdafjbblllaa
