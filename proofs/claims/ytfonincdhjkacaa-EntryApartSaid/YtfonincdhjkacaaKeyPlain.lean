/-
  Versions, plain: their order, their check, their bytes, and the laws that hold of these. No program stands here. No condition.
-/
import Derived.Test.YtfonincdhjkacaaRecs
import Derived.Test.YtfonincdhjkacaaCompare
import Derived.Test.YtfonincdhjkacaaAtomText
namespace Go.Proofs.Ytfonincdhjkacaa
set_option maxRecDepth 20000
open Go.RowKit

theorem cmp_val : ∀ l m : List UInt8, Lib.compareBytes l m = -1 ∨ Lib.compareBytes l m = 0 ∨ Lib.compareBytes l m = 1
  | [], [] => .inr (.inl rfl)
  | [], _ :: _ => .inl rfl
  | _ :: _, [] => .inr (.inr rfl)
  | a :: l, b :: m => by
    simp only [Lib.compareBytes]
    split
    · exact .inl rfl
    · split
      · exact .inr (.inr rfl)
      · exact cmp_val l m
theorem cmp_zero : ∀ l m : List UInt8, Lib.compareBytes l m = 0 ↔ l = m
  | [], [] => by simp [Lib.compareBytes]
  | [], _ :: _ => by simp [Lib.compareBytes]
  | _ :: _, [] => by simp [Lib.compareBytes]
  | a :: l, b :: m => by
    simp only [Lib.compareBytes]
    have ih := cmp_zero l m
    by_cases h1 : a < b
    · rw [if_pos h1]
      have : a ≠ b := fun e => by subst e; exact absurd h1 (by simp)
      simp [this]
    · rw [if_neg h1]
      by_cases h2 : b < a
      · rw [if_pos h2]
        have : a ≠ b := fun e => by subst e; exact absurd h2 (by simp)
        simp [this]
      · rw [if_neg h2, ih]
        have : a = b := UInt8.toNat_inj.1 (by rw [UInt8.lt_iff_toNat_lt] at h1 h2; omega)
        simp [this]
theorem cmp_trans : ∀ l m n : List UInt8, Lib.compareBytes l m < 0 → Lib.compareBytes m n < 0 → Lib.compareBytes l n < 0
  | [], m, n, h1, h2 => by
    cases m with
    | nil => simp [Lib.compareBytes] at h1
    | cons b m => cases n with
      | nil => simp [Lib.compareBytes] at h2
      | cons c n => simp [Lib.compareBytes]
  | a :: l, m, n, h1, h2 => by
    cases m with
    | nil => simp [Lib.compareBytes] at h1
    | cons b m => cases n with
      | nil => simp [Lib.compareBytes] at h2
      | cons c n =>
        simp only [Lib.compareBytes] at h1 h2 ⊢
        simp only [UInt8.lt_iff_toNat_lt] at h1 h2 ⊢
        have ih := cmp_trans l m n
        split at h1
        · split at h2
          · rw [if_pos (by omega)]; omega
          · split at h2
            · omega
            · rw [if_pos (by omega)]; omega
        · split at h1
          · omega
          · split at h2
            · rw [if_pos (by omega)]; omega
            · split at h2
              · omega
              · rw [if_neg (by omega), if_neg (by omega)]
                exact ih h1 h2
/-- of two numbers, as cmp.Compare has it -/
def cmpN (a b : Nat) : Int := if a < b then -1 else if b < a then 1 else 0
theorem cmpN_val (a b : Nat) : cmpN a b = -1 ∨ cmpN a b = 0 ∨ cmpN a b = 1 := by
  unfold cmpN
  split
  · exact .inl rfl
  · split
    · exact .inr (.inr rfl)
    · exact .inr (.inl rfl)
theorem cmpN_sgn (a b : Nat) : (cmpN a b < 0 ↔ a < b) ∧ (cmpN a b = 0 ↔ a = b) := by
  unfold cmpN
  repeat' split
  all_goals omega
/-- of two versions -/
def cmpKey (a b : KeyL) : Int :=
  if Lib.compareBytes a.user b.user ≠ 0 then Lib.compareBytes a.user b.user
  else if cmpN b.seq.toNat a.seq.toNat ≠ 0 then cmpN b.seq.toNat a.seq.toNat else cmpN b.kind.toNat a.kind.toNat
def lessKey (a b : KeyL) : Bool :=
  if !(a.user == b.user) then ltL a.user b.user else if !(a.seq == b.seq) then decide (b.seq.toNat < a.seq.toNat) else decide (b.kind.toNat < a.kind.toNat)
theorem cmpKey_val (a b : KeyL) : cmpKey a b = -1 ∨ cmpKey a b = 0 ∨ cmpKey a b = 1 := by
  unfold cmpKey
  split
  · exact cmp_val _ _
  · split
    · exact cmpN_val _ _
    · exact cmpN_val _ _
theorem cmpKey_swap (a b : KeyL) : cmpKey b a = - cmpKey a b := by
  have h1 := cmp_swap a.user b.user
  have h2 : cmpN a.seq.toNat b.seq.toNat = - cmpN b.seq.toNat a.seq.toNat := by unfold cmpN; repeat' split <;> omega
  have h3 : cmpN a.kind.toNat b.kind.toNat = - cmpN b.kind.toNat a.kind.toNat := by unfold cmpN; repeat' split <;> omega
  unfold cmpKey
  rw [h1, h2, h3]
  repeat' split
  all_goals omega
theorem cmpKey_zero (a b : KeyL) : cmpKey a b = 0 ↔ a = b := by
  unfold cmpKey
  have h1 := cmp_zero a.user b.user
  have h2 : cmpN b.seq.toNat a.seq.toNat = 0 ↔ a.seq = b.seq := by
    rw [← UInt64.toNat_inj]
    unfold cmpN
    repeat' split
    all_goals omega
  have h3 : cmpN b.kind.toNat a.kind.toNat = 0 ↔ a.kind = b.kind := by
    rw [← UInt8.toNat_inj]
    unfold cmpN
    repeat' split
    all_goals omega
  cases a with | mk u s k => cases b with | mk u' s' k' =>
  simp only [KeyL.mk.injEq] at *
  split
  · rename_i h
    constructor
    · intro e; exact absurd e h
    · rintro ⟨e, _⟩; exact absurd (h1.2 e) h
  · rename_i h
    have h := h1.1 (by omega)
    split
    · rename_i h'
      constructor
      · intro e; exact absurd e h'
      · rintro ⟨_, e, _⟩; exact absurd (h2.2 e) h'
    · rename_i h'
      have h' := h2.1 (by omega)
      rw [h3]
      simp [h, h']
theorem cmpKey_less (a b : KeyL) : decide (cmpKey a b < 0) = lessKey a b := by
  unfold cmpKey lessKey
  have h1 := cmp_zero a.user b.user
  by_cases hu : a.user = b.user
  · have hu0 := h1.2 hu
    have hub : (!(a.user == b.user)) = false := by rw [hu]; simp
    rw [if_neg (by omega), hub]
    simp only [Bool.false_eq_true, if_false]
    by_cases hs : a.seq = b.seq
    · have hsb : (!(a.seq == b.seq)) = false := by rw [hs]; simp
      have hz : cmpN b.seq.toNat a.seq.toNat = 0 := by rw [hs]; unfold cmpN; simp
      rw [if_neg (by omega), hsb]
      simp only [Bool.false_eq_true, if_false, decide_eq_decide]
      unfold cmpN
      repeat' split
      all_goals omega
    · have hs' : a.seq.toNat ≠ b.seq.toNat := fun e => hs (UInt64.toNat_inj.1 e)
      have hsb : (!(a.seq == b.seq)) = true := by simp [hs]
      have hz : cmpN b.seq.toNat a.seq.toNat ≠ 0 := by
        unfold cmpN
        repeat' split
        all_goals omega
      rw [if_pos hz, hsb]
      simp only [if_true, decide_eq_decide]
      unfold cmpN
      repeat' split
      all_goals omega
  · have hub : (!(a.user == b.user)) = true := by simp [hu]
    rw [if_pos (fun e => hu (h1.1 e)), hub]
    rfl
theorem cmpKey_trans (a b c : KeyL) (h1 : cmpKey a b < 0) (h2 : cmpKey b c < 0) : cmpKey a c < 0 := by
  unfold cmpKey at *
  have t := cmp_trans a.user b.user c.user
  have z1 := cmp_zero a.user b.user
  have z2 := cmp_zero b.user c.user
  have v := cmp_val a.user c.user
  by_cases e1 : a.user = b.user
  · have q1 := z1.2 e1
    rw [if_neg (by omega)] at h1
    by_cases e2 : b.user = c.user
    · have q2 := z2.2 e2
      rw [if_neg (by omega)] at h2
      rw [e1, e2, cmp_self, if_neg (by omega)]
      clear t z1 z2 v e1 e2 q1 q2
      have a1 := cmpN_sgn b.seq.toNat a.seq.toNat
      have a2 := cmpN_sgn c.seq.toNat b.seq.toNat
      have a3 := cmpN_sgn c.seq.toNat a.seq.toNat
      have k1 := cmpN_sgn b.kind.toNat a.kind.toNat
      have k2 := cmpN_sgn c.kind.toNat b.kind.toNat
      have k3 := cmpN_sgn c.kind.toNat a.kind.toNat
      generalize cmpN b.seq.toNat a.seq.toNat = x1 at *
      generalize cmpN c.seq.toNat b.seq.toNat = x2 at *
      generalize cmpN c.seq.toNat a.seq.toNat = x3 at *
      generalize cmpN b.kind.toNat a.kind.toNat = y1 at *
      generalize cmpN c.kind.toNat b.kind.toNat = y2 at *
      generalize cmpN c.kind.toNat a.kind.toNat = y3 at *
      by_cases e1 : x1 = 0
      · rw [if_neg (by omega)] at h1
        by_cases e2 : x2 = 0
        · rw [if_neg (by omega)] at h2
          rw [if_neg (by omega)]
          omega
        · rw [if_pos e2] at h2
          rw [if_pos (by omega)]
          omega
      · rw [if_pos e1] at h1
        by_cases e2 : x2 = 0
        · rw [if_pos (by omega)]
          omega
        · rw [if_pos e2] at h2
          rw [if_pos (by omega)]
          omega
    · rw [if_pos (by rw [ne_eq, z2]; exact e2)] at h2
      rw [e1, if_pos (by rw [ne_eq, z2]; exact e2)]
      exact h2
  · rw [if_pos (by rw [ne_eq, z1]; exact e1)] at h1
    by_cases e2 : b.user = c.user
    · rw [← e2, if_pos (by rw [ne_eq, z1]; exact e1)]
      exact h1
    · rw [if_pos (by rw [ne_eq, z2]; exact e2)] at h2
      have := t h1 h2
      rw [if_pos (by omega)]
      exact this
theorem cmpKey_le_trans (a b c : KeyL) (h1 : cmpKey a b ≤ 0) (h2 : cmpKey b c ≤ 0) : cmpKey a c ≤ 0 := by
  by_cases e1 : cmpKey a b = 0
  · rw [(cmpKey_zero a b).1 e1]; exact h2
  · by_cases e2 : cmpKey b c = 0
    · rw [← (cmpKey_zero b c).1 e2]; exact h1
    · have := cmpKey_trans a b c (by omega) (by omega)
      omega
/-- is a version right? the error's number -/
def checkKey (k : KeyL) : Nat :=
  if k.seq.toNat ≥ 72057594037927936 ∨ k.kind.toNat < 1 ∨ k.kind.toNat > 2 then 1 else if k.user.length = 0 then 2 else if k.user.length > 64 then 3 else 0
/-- eight bytes, the least first -/
def le8 (n : Nat) : List UInt8 := (List.range 8).map fun i => UInt8.ofNat (n / 256 ^ i)
def keyN (k : KeyL) : Nat := k.seq.toNat * 256 + k.kind.toNat
def keyBytesL (k : KeyL) : List UInt8 := textL k.user ++ le8 (keyN k)
def cutKey (k : KeyL) : KeyL := { k with user := k.user.take 80 }
theorem after_lt (a : List UInt8) : Lib.compareBytes a (a ++ [0]) = -1 := by
  induction a with
  | nil => rfl
  | cons x a ih => simp [Lib.compareBytes, ih]
theorem after_next : ∀ a b : List UInt8, Lib.compareBytes a b < 0 → ¬ Lib.compareBytes b (a ++ [0]) < 0
  | [], [], h => by simp [Lib.compareBytes] at h
  | [], y :: b, _ => by
    simp only [List.nil_append, Lib.compareBytes]
    have : ¬ y < 0 := by simp [UInt8.lt_iff_toNat_lt]
    rw [if_neg this]
    split
    · omega
    · cases b with
      | nil => simp [Lib.compareBytes]
      | cons z b => simp [Lib.compareBytes]
  | x :: a, [], h => by simp [Lib.compareBytes] at h
  | x :: a, y :: b, h => by
    have ih := after_next a b
    simp only [List.cons_append, Lib.compareBytes] at h ⊢
    by_cases h1 : x < y
    · have h2 : ¬ y < x := by rw [UInt8.lt_iff_toNat_lt] at *; omega
      rw [if_neg h2, if_pos h1]
      omega
    · rw [if_neg h1] at h
      by_cases h2 : y < x
      · rw [if_pos h2] at h
        omega
      · rw [if_neg h2] at h
        rw [if_neg h2, if_neg h1]
        exact ih h
/-- what a number says behind a key -/
theorem ltL_self (a : List UInt8) : ltL a a = false := by unfold ltL; rw [cmp_self]; rfl
theorem ltL_swap {a b : List UInt8} (h : ltL a b = true) : ltL b a = false := by
  unfold ltL at *
  have := cmp_swap a b
  have h := of_decide_eq_true h
  exact decide_eq_false (by omega)
theorem upto_law (k : KeyL) (user : List UInt8) (seq : UInt64) (hk : checkKey k = 0) :
    (if ltL k.user user then decide (cmpKey k ⟨user, UInt64.ofNat (min seq.toNat 72057594037927935), 2⟩ < 0) else if ltL user k.user then !decide (cmpKey k ⟨user, UInt64.ofNat (min seq.toNat 72057594037927935), 2⟩ < 0)
      else decide (cmpKey k ⟨user, UInt64.ofNat (min seq.toNat 72057594037927935), 2⟩ < 0) == decide (k.seq.toNat > seq.toNat)) = true := by
  have hs : (UInt64.ofNat (min seq.toNat 72057594037927935)).toNat = min seq.toNat 72057594037927935 := by
    have := seq.toNat_lt
    simp
    omega
  unfold checkKey at hk
  split at hk
  · omega
  · rename_i hc
    by_cases h1 : ltL k.user user = true
    · rw [if_pos h1]
      unfold ltL at h1
      have h1 := of_decide_eq_true h1
      unfold cmpKey
      rw [if_pos (by simp only; omega)]
      exact decide_eq_true h1
    · rw [if_neg h1]
      by_cases h2 : ltL user k.user = true
      · rw [if_pos h2]
        unfold ltL at h2
        have h2 := of_decide_eq_true h2
        have h3 := cmp_swap user k.user
        unfold cmpKey
        rw [if_pos (by simp only; omega)]
        simp only [Bool.not_eq_true', decide_eq_false_iff_not]
        omega
      · rw [if_neg h2]
        have h3 := cmp_swap user k.user
        unfold ltL at h1 h2
        have h1 := of_decide_eq_false (Bool.not_eq_true _ ▸ h1)
        have h2 := of_decide_eq_false (Bool.not_eq_true _ ▸ h2)
        have e : Lib.compareBytes k.user user = 0 := by omega
        unfold cmpKey
        simp only [e, ne_eq, not_true_eq_false, if_false, hs]
        have h2k : (2 : UInt8).toNat = 2 := rfl
        rw [h2k]
        simp only [beq_iff_eq, decide_eq_decide]
        unfold cmpN
        have hq := k.seq.toNat_lt
        repeat' split
        all_goals omega
end Go.Proofs.Ytfonincdhjkacaa
