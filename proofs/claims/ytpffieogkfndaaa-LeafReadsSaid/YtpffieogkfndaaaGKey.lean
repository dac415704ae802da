/-
  KeyPlain, KeyWalk, KeyRef, KeyMake, KeyReadP in one text. No condition but sizes.
-/
import Derived.Test.YtpffieogkfndaaaGLib
import Derived.Test.YtpffieogkfndaaaGJoin
import Derived.Test.YtpffieogkfndaaaGAtom
import Derived.StillTailTactics
import Derived.Deep.Light
import Derived.Lib.SlBytesConst
import Derived.Laws.IdiomStrings
namespace Go.Proofs.Ytpffieogkfndaaa
set_option maxRecDepth 20000
open Go.RowKit

theorem cmp_val : ∀ l m : List UInt8, Lib.compareBytes l m = -1 ∨ Lib.compareBytes l m = 0 ∨ Lib.compareBytes l m = 1
  | [], [] => .inr (.inl rfl)
  | [], _ :: _ => .inl rfl
  | _ :: _, [] => .inr (.inr rfl)
  | a :: l, b :: m => by
    simp only [Lib.compareBytes]
    split
    · exact .inl rfl
    · split
      · exact .inr (.inr rfl)
      · exact cmp_val l m
theorem cmp_zero : ∀ l m : List UInt8, Lib.compareBytes l m = 0 ↔ l = m
  | [], [] => by simp [Lib.compareBytes]
  | [], _ :: _ => by simp [Lib.compareBytes]
  | _ :: _, [] => by simp [Lib.compareBytes]
  | a :: l, b :: m => by
    simp only [Lib.compareBytes]
    have ih := cmp_zero l m
    by_cases h1 : a < b
    · rw [if_pos h1]
      have : a ≠ b := fun e => by subst e; exact absurd h1 (by simp)
      simp [this]
    · rw [if_neg h1]
      by_cases h2 : b < a
      · rw [if_pos h2]
        have : a ≠ b := fun e => by subst e; exact absurd h2 (by simp)
        simp [this]
      · rw [if_neg h2, ih]
        have : a = b := UInt8.toNat_inj.1 (by rw [UInt8.lt_iff_toNat_lt] at h1 h2; omega)
        simp [this]
theorem cmp_trans : ∀ l m n : List UInt8, Lib.compareBytes l m < 0 → Lib.compareBytes m n < 0 → Lib.compareBytes l n < 0
  | [], m, n, h1, h2 => by
    cases m with
    | nil => simp [Lib.compareBytes] at h1
    | cons b m => cases n with
      | nil => simp [Lib.compareBytes] at h2
      | cons c n => simp [Lib.compareBytes]
  | a :: l, m, n, h1, h2 => by
    cases m with
    | nil => simp [Lib.compareBytes] at h1
    | cons b m => cases n with
      | nil => simp [Lib.compareBytes] at h2
      | cons c n =>
        simp only [Lib.compareBytes] at h1 h2 ⊢
        simp only [UInt8.lt_iff_toNat_lt] at h1 h2 ⊢
        have ih := cmp_trans l m n
        split at h1
        · split at h2
          · rw [if_pos (by omega)]; omega
          · split at h2
            · omega
            · rw [if_pos (by omega)]; omega
        · split at h1
          · omega
          · split at h2
            · rw [if_pos (by omega)]; omega
            · split at h2
              · omega
              · rw [if_neg (by omega), if_neg (by omega)]
                exact ih h1 h2
/-- of two numbers, as cmp.Compare has it -/
def cmpN (a b : Nat) : Int := if a < b then -1 else if b < a then 1 else 0
theorem cmpN_val (a b : Nat) : cmpN a b = -1 ∨ cmpN a b = 0 ∨ cmpN a b = 1 := by
  unfold cmpN
  split
  · exact .inl rfl
  · split
    · exact .inr (.inr rfl)
    · exact .inr (.inl rfl)
theorem cmpN_sgn (a b : Nat) : (cmpN a b < 0 ↔ a < b) ∧ (cmpN a b = 0 ↔ a = b) := by
  unfold cmpN
  repeat' split
  all_goals omega
/-- of two versions -/
def cmpKey (a b : KeyL) : Int :=
  if Lib.compareBytes a.user b.user ≠ 0 then Lib.compareBytes a.user b.user
  else if cmpN b.seq.toNat a.seq.toNat ≠ 0 then cmpN b.seq.toNat a.seq.toNat else cmpN b.kind.toNat a.kind.toNat
def lessKey (a b : KeyL) : Bool :=
  if !(a.user == b.user) then ltL a.user b.user else if !(a.seq == b.seq) then decide (b.seq.toNat < a.seq.toNat) else decide (b.kind.toNat < a.kind.toNat)
theorem cmpKey_val (a b : KeyL) : cmpKey a b = -1 ∨ cmpKey a b = 0 ∨ cmpKey a b = 1 := by
  unfold cmpKey
  split
  · exact cmp_val _ _
  · split
    · exact cmpN_val _ _
    · exact cmpN_val _ _
theorem cmpKey_swap (a b : KeyL) : cmpKey b a = - cmpKey a b := by
  have h1 := cmp_swap a.user b.user
  have h2 : cmpN a.seq.toNat b.seq.toNat = - cmpN b.seq.toNat a.seq.toNat := by unfold cmpN; repeat' split <;> omega
  have h3 : cmpN a.kind.toNat b.kind.toNat = - cmpN b.kind.toNat a.kind.toNat := by unfold cmpN; repeat' split <;> omega
  unfold cmpKey
  rw [h1, h2, h3]
  repeat' split
  all_goals omega
theorem cmpKey_zero (a b : KeyL) : cmpKey a b = 0 ↔ a = b := by
  unfold cmpKey
  have h1 := cmp_zero a.user b.user
  have h2 : cmpN b.seq.toNat a.seq.toNat = 0 ↔ a.seq = b.seq := by
    rw [← UInt64.toNat_inj]
    unfold cmpN
    repeat' split
    all_goals omega
  have h3 : cmpN b.kind.toNat a.kind.toNat = 0 ↔ a.kind = b.kind := by
    rw [← UInt8.toNat_inj]
    unfold cmpN
    repeat' split
    all_goals omega
  cases a with | mk u s k => cases b with | mk u' s' k' =>
  simp only [KeyL.mk.injEq] at *
  split
  · rename_i h
    constructor
    · intro e; exact absurd e h
    · rintro ⟨e, _⟩; exact absurd (h1.2 e) h
  · rename_i h
    have h := h1.1 (by omega)
    split
    · rename_i h'
      constructor
      · intro e; exact absurd e h'
      · rintro ⟨_, e, _⟩; exact absurd (h2.2 e) h'
    · rename_i h'
      have h' := h2.1 (by omega)
      rw [h3]
      simp [h, h']
theorem cmpKey_less (a b : KeyL) : decide (cmpKey a b < 0) = lessKey a b := by
  unfold cmpKey lessKey
  have h1 := cmp_zero a.user b.user
  by_cases hu : a.user = b.user
  · have hu0 := h1.2 hu
    have hub : (!(a.user == b.user)) = false := by rw [hu]; simp
    rw [if_neg (by omega), hub]
    simp only [Bool.false_eq_true, if_false]
    by_cases hs : a.seq = b.seq
    · have hsb : (!(a.seq == b.seq)) = false := by rw [hs]; simp
      have hz : cmpN b.seq.toNat a.seq.toNat = 0 := by rw [hs]; unfold cmpN; simp
      rw [if_neg (by omega), hsb]
      simp only [Bool.false_eq_true, if_false, decide_eq_decide]
      unfold cmpN
      repeat' split
      all_goals omega
    · have hs' : a.seq.toNat ≠ b.seq.toNat := fun e => hs (UInt64.toNat_inj.1 e)
      have hsb : (!(a.seq == b.seq)) = true := by simp [hs]
      have hz : cmpN b.seq.toNat a.seq.toNat ≠ 0 := by
        unfold cmpN
        repeat' split
        all_goals omega
      rw [if_pos hz, hsb]
      simp only [if_true, decide_eq_decide]
      unfold cmpN
      repeat' split
      all_goals omega
  · have hub : (!(a.user == b.user)) = true := by simp [hu]
    rw [if_pos (fun e => hu (h1.1 e)), hub]
    rfl
theorem cmpKey_trans (a b c : KeyL) (h1 : cmpKey a b < 0) (h2 : cmpKey b c < 0) : cmpKey a c < 0 := by
  unfold cmpKey at *
  have t := cmp_trans a.user b.user c.user
  have z1 := cmp_zero a.user b.user
  have z2 := cmp_zero b.user c.user
  have v := cmp_val a.user c.user
  by_cases e1 : a.user = b.user
  · have q1 := z1.2 e1
    rw [if_neg (by omega)] at h1
    by_cases e2 : b.user = c.user
    · have q2 := z2.2 e2
      rw [if_neg (by omega)] at h2
      rw [e1, e2, cmp_self, if_neg (by omega)]
      clear t z1 z2 v e1 e2 q1 q2
      have a1 := cmpN_sgn b.seq.toNat a.seq.toNat
      have a2 := cmpN_sgn c.seq.toNat b.seq.toNat
      have a3 := cmpN_sgn c.seq.toNat a.seq.toNat
      have k1 := cmpN_sgn b.kind.toNat a.kind.toNat
      have k2 := cmpN_sgn c.kind.toNat b.kind.toNat
      have k3 := cmpN_sgn c.kind.toNat a.kind.toNat
      generalize cmpN b.seq.toNat a.seq.toNat = x1 at *
      generalize cmpN c.seq.toNat b.seq.toNat = x2 at *
      generalize cmpN c.seq.toNat a.seq.toNat = x3 at *
      generalize cmpN b.kind.toNat a.kind.toNat = y1 at *
      generalize cmpN c.kind.toNat b.kind.toNat = y2 at *
      generalize cmpN c.kind.toNat a.kind.toNat = y3 at *
      by_cases e1 : x1 = 0
      · rw [if_neg (by omega)] at h1
        by_cases e2 : x2 = 0
        · rw [if_neg (by omega)] at h2
          rw [if_neg (by omega)]
          omega
        · rw [if_pos e2] at h2
          rw [if_pos (by omega)]
          omega
      · rw [if_pos e1] at h1
        by_cases e2 : x2 = 0
        · rw [if_pos (by omega)]
          omega
        · rw [if_pos e2] at h2
          rw [if_pos (by omega)]
          omega
    · rw [if_pos (by rw [ne_eq, z2]; exact e2)] at h2
      rw [e1, if_pos (by rw [ne_eq, z2]; exact e2)]
      exact h2
  · rw [if_pos (by rw [ne_eq, z1]; exact e1)] at h1
    by_cases e2 : b.user = c.user
    · rw [← e2, if_pos (by rw [ne_eq, z1]; exact e1)]
      exact h1
    · rw [if_pos (by rw [ne_eq, z2]; exact e2)] at h2
      have := t h1 h2
      rw [if_pos (by omega)]
      exact this
theorem cmpKey_le_trans (a b c : KeyL) (h1 : cmpKey a b ≤ 0) (h2 : cmpKey b c ≤ 0) : cmpKey a c ≤ 0 := by
  by_cases e1 : cmpKey a b = 0
  · rw [(cmpKey_zero a b).1 e1]; exact h2
  · by_cases e2 : cmpKey b c = 0
    · rw [← (cmpKey_zero b c).1 e2]; exact h1
    · have := cmpKey_trans a b c (by omega) (by omega)
      omega
/-- is a version right? the error's number -/
def checkKey (k : KeyL) : Nat :=
  if k.seq.toNat ≥ 72057594037927936 ∨ k.kind.toNat < 1 ∨ k.kind.toNat > 2 then 1 else if k.user.length = 0 then 2 else if k.user.length > 64 then 3 else 0
/-- eight bytes, the least first -/
def le8 (n : Nat) : List UInt8 := (List.range 8).map fun i => UInt8.ofNat (n / 256 ^ i)
def keyN (k : KeyL) : Nat := k.seq.toNat * 256 + k.kind.toNat
def keyBytesL (k : KeyL) : List UInt8 := textL k.user ++ le8 (keyN k)
def cutKey (k : KeyL) : KeyL := { k with user := k.user.take 80 }
theorem after_lt (a : List UInt8) : Lib.compareBytes a (a ++ [0]) = -1 := by
  induction a with
  | nil => rfl
  | cons x a ih => simp [Lib.compareBytes, ih]
theorem after_next : ∀ a b : List UInt8, Lib.compareBytes a b < 0 → ¬ Lib.compareBytes b (a ++ [0]) < 0
  | [], [], h => by simp [Lib.compareBytes] at h
  | [], y :: b, _ => by
    simp only [List.nil_append, Lib.compareBytes]
    have : ¬ y < 0 := by simp [UInt8.lt_iff_toNat_lt]
    rw [if_neg this]
    split
    · omega
    · cases b with
      | nil => simp [Lib.compareBytes]
      | cons z b => simp [Lib.compareBytes]
  | x :: a, [], h => by simp [Lib.compareBytes] at h
  | x :: a, y :: b, h => by
    have ih := after_next a b
    simp only [List.cons_append, Lib.compareBytes] at h ⊢
    by_cases h1 : x < y
    · have h2 : ¬ y < x := by rw [UInt8.lt_iff_toNat_lt] at *; omega
      rw [if_neg h2, if_pos h1]
      omega
    · rw [if_neg h1] at h
      by_cases h2 : y < x
      · rw [if_pos h2] at h
        omega
      · rw [if_neg h2] at h
        rw [if_neg h2, if_neg h1]
        exact ih h
/-- what a number says behind a key -/
theorem ltL_self (a : List UInt8) : ltL a a = false := by unfold ltL; rw [cmp_self]; rfl
theorem ltL_swap {a b : List UInt8} (h : ltL a b = true) : ltL b a = false := by
  unfold ltL at *
  have := cmp_swap a b
  have h := of_decide_eq_true h
  exact decide_eq_false (by omega)
theorem upto_law (k : KeyL) (user : List UInt8) (seq : UInt64) (hk : checkKey k = 0) :
    (if ltL k.user user then decide (cmpKey k ⟨user, UInt64.ofNat (min seq.toNat 72057594037927935), 2⟩ < 0) else if ltL user k.user then !decide (cmpKey k ⟨user, UInt64.ofNat (min seq.toNat 72057594037927935), 2⟩ < 0)
      else decide (cmpKey k ⟨user, UInt64.ofNat (min seq.toNat 72057594037927935), 2⟩ < 0) == decide (k.seq.toNat > seq.toNat)) = true := by
  have hs : (UInt64.ofNat (min seq.toNat 72057594037927935)).toNat = min seq.toNat 72057594037927935 := by
    have := seq.toNat_lt
    simp
    omega
  unfold checkKey at hk
  split at hk
  · omega
  · rename_i hc
    by_cases h1 : ltL k.user user = true
    · rw [if_pos h1]
      unfold ltL at h1
      have h1 := of_decide_eq_true h1
      unfold cmpKey
      rw [if_pos (by simp only; omega)]
      exact decide_eq_true h1
    · rw [if_neg h1]
      by_cases h2 : ltL user k.user = true
      · rw [if_pos h2]
        unfold ltL at h2
        have h2 := of_decide_eq_true h2
        have h3 := cmp_swap user k.user
        unfold cmpKey
        rw [if_pos (by simp only; omega)]
        simp only [Bool.not_eq_true', decide_eq_false_iff_not]
        omega
      · rw [if_neg h2]
        have h3 := cmp_swap user k.user
        unfold ltL at h1 h2
        have h1 := of_decide_eq_false (Bool.not_eq_true _ ▸ h1)
        have h2 := of_decide_eq_false (Bool.not_eq_true _ ▸ h2)
        have e : Lib.compareBytes k.user user = 0 := by omega
        unfold cmpKey
        simp only [e, ne_eq, not_true_eq_false, if_false, hs]
        have h2k : (2 : UInt8).toNat = 2 := rfl
        rw [h2k]
        simp only [beq_iff_eq, decide_eq_decide]
        unfold cmpN
        have hq := k.seq.toNat_lt
        repeat' split
        all_goals omega
end Go.Proofs.Ytpffieogkfndaaa

namespace Go.Proofs.Ytpffieogkfndaaa
open Go.RowKit
theorem below_drew {B : Nat} {w w' : World} (h : Below B w w') : Below B w w'.drew := ⟨h.os, h.tape, h.output, h.size, h.block⟩
set_option maxRecDepth 20000

theorem nan64 (w : World) (s : Nat) : Calls Try.prog 56 #[.int .u64 (s : Int)] w fun e w' => e = .returned (.bool false) ∧ w = w' := by
  go_enter Try.func56, Try.ntmps56
  go_wp2
  go_ret
  exact ⟨rfl, rfl⟩
theorem nan8 (w : World) (s : Nat) : Calls Try.prog 57 #[.int .u8 (s : Int)] w fun e w' => e = .returned (.bool false) ∧ w = w' := by
  go_enter Try.func57, Try.ntmps57
  go_wp2
  go_ret
  exact ⟨rfl, rfl⟩
set_option maxHeartbeats 1000000 in
theorem cmp64 (w : World) (s t : Nat) : Calls Try.prog 50 #[.int .u64 (s : Int), .int .u64 (t : Int)] w fun e w' => e = .returned (.int .i64 (cmpN s t)) ∧ w = w' := by
  unfold cmpN
  go_enter Try.func50, Try.ntmps50
  go_wp2_with fail
  refine (nan64 w s).mono ?_
  rintro e w' ⟨rfl, rfl⟩
  go_wp2_with fail
  refine (nan64 w t).mono ?_
  rintro e w' ⟨rfl, rfl⟩
  go_wp2
  all_goals
    go_ret
    refine ⟨ret_int ?_, rfl⟩
    repeat' split
    all_goals omega
set_option maxHeartbeats 1000000 in
theorem cmp8 (w : World) (s t : Nat) : Calls Try.prog 51 #[.int .u8 (s : Int), .int .u8 (t : Int)] w fun e w' => e = .returned (.int .i64 (cmpN s t)) ∧ w = w' := by
  unfold cmpN
  go_enter Try.func51, Try.ntmps51
  go_wp2_with fail
  refine (nan8 w s).mono ?_
  rintro e w' ⟨rfl, rfl⟩
  go_wp2_with fail
  refine (nan8 w t).mono ?_
  rintro e w' ⟨rfl, rfl⟩
  go_wp2
  all_goals
    go_ret
    refine ⟨ret_int ?_, rfl⟩
    repeat' split
    all_goals omega
set_option maxHeartbeats 2000000 in
theorem check_any (w : World) (A : Option Addr) (n c : Nat) (k : KeyL) (h : Sl w 1 A n c (bc k.user)) :
    Calls Try.prog 45 #[.agg #[.slice A n c, .int .u64 (k.seq.toNat : Int), .int .u8 (k.kind.toNat : Int)]] w fun e w' => e = .returned (.int .i64 (checkKey k : Nat)) ∧ Below w.heap.size w w' := by
  have hl := h.lenb
  obtain ⟨r, hr⟩ : ∃ r, checkKey k = r := ⟨_, rfl⟩
  rw [hr]
  unfold checkKey at hr
  rw [hl] at hr
  generalize k.seq.toNat = s at *
  generalize k.kind.toNat = d at *
  have Hr := Lib.hid hr
  clear hl h hr
  go_enter Try.func45, Try.ntmps45
  go_wp2
  all_goals
    go_ret
    refine ⟨ret_int ?_, (Below.refl _ _).alloc (Nat.le_refl _) _⟩
    rw [← Hr.out]
    go_light
    (try simp only [beq_iff_eq, bne_iff_ne, ne_eq, beq_eq_false_iff_ne, bne_eq_false_iff_eq] at *)
    (repeat' split) <;> omega
set_option maxHeartbeats 2000000 in
theorem rcheck_any (w : World) (A : Option Addr) (n c : Nat) (k : KeyL) (h : Sl w 1 A n c (bc k.user)) :
    Calls Try.prog 28 #[.agg #[.slice A n c, .int .u64 (k.seq.toNat : Int), .int .u8 (k.kind.toNat : Int)]] w fun e w' => e = .returned (.int .i64 (checkKey k : Nat)) ∧ Below w.heap.size w w' := by
  have hl := h.lenb
  obtain ⟨r, hr⟩ : ∃ r, checkKey k = r := ⟨_, rfl⟩
  rw [hr]
  unfold checkKey at hr
  rw [hl] at hr
  generalize k.seq.toNat = s at *
  generalize k.kind.toNat = d at *
  have Hr := Lib.hid hr
  clear hl h hr
  obtain ⟨b1, t1⟩ : ∃ b, decide ((d : Int) < 1) = b := ⟨_, rfl⟩
  obtain ⟨b2, t2⟩ : ∃ b, decide ((2 : Int) < (d : Int)) = b := ⟨_, rfl⟩
  obtain ⟨b3, t3⟩ : ∃ b, decide ((72057594037927936 : Int) ≤ (s : Int)) = b := ⟨_, rfl⟩
  cases b1 <;> cases b2 <;> cases b3
  all_goals
    go_enter Try.func28, Try.ntmps28
    go_wp2
    all_goals
      go_ret
      refine ⟨ret_int ?_, (Below.refl _ _).alloc (Nat.le_refl _) _⟩
      rw [← Hr.out]
      go_light
      (try simp only [beq_iff_eq, bne_iff_ne, ne_eq, beq_eq_false_iff_ne, bne_eq_false_iff_eq, decide_eq_true_eq, decide_eq_false_iff_not] at *)
      (repeat' split) <;> omega
/-- three numbers in a row: the first that is no nought -/
def orL (x y z : Int) : Int := if x ≠ 0 then x else if y ≠ 0 then y else z
set_option maxHeartbeats 2000000 in
theorem or_any (w : World) (x y z : Int) : Calls Try.prog 48 #[.slice (some ⟨w.heap.size, 0, none⟩) 3 3] (w.alloc (.cells #[.int .i64 x, .int .i64 y, .int .i64 z] 3)) fun e w' => e = .returned (.int .i64 (orL x y z)) ∧ w.alloc (.cells #[.int .i64 x, .int .i64 y, .int .i64 z] 3) = w' := by
  obtain ⟨r, hr⟩ : ∃ r, orL x y z = r := ⟨_, rfl⟩
  rw [hr]
  unfold orL at hr
  have Hr := Lib.hid hr
  clear hr
  go_enter Try.func48, Try.ntmps48
  go_wp2
  refine wp_loop_rounds 4 ?_
  repeat any_goals (rw [rounds_succ]; go_wp2)
  all_goals (go_ret; refine ⟨ret_int ?_, rfl⟩; rw [← Hr.out]; go_light; (try simp only [beq_iff_eq, bne_iff_ne, ne_eq, beq_eq_false_iff_ne, bne_eq_false_iff_eq] at *); (repeat' split) <;> omega)
theorem cmp_bytes (w : World) (A : Option Addr) (n c : Nat) (l : List UInt8) (h : Sl w 1 A n c (bc l)) (A2 : Option Addr) (n2 c2 : Nat) (m : List UInt8) (h2 : Sl w 1 A2 n2 c2 (bc m)) :
    Calls Try.prog 49 #[.slice A n c, .slice A2 n2 c2] w fun e w' => e = .returned (.int .i64 (Lib.compareBytes l m)) ∧ w = w' := by
  have hcall : (callFunc 55 #[.slice A n c, .slice A2 n2 c2]).run Try.prog w = .ok (.value (.int .i64 (Lib.compareBytes l m))) w := by
    rw [run_callFunc_extern Try.func55 (by kernel_rfl) (by kernel_rfl) (by kernel_rfl) (e := Extern.BytealgCompare.compare) (by kernel_rfl), run_cmp w A n c l h A2 n2 c2 m h2]
    rfl
  generalize Lib.compareBytes l m = z at *
  go_enter Try.func49, Try.ntmps49
  go_wp2
  go_ret
  exact ⟨rfl, rfl⟩
theorem orL_key (a b : KeyL) : orL (Lib.compareBytes a.user b.user) (cmpN b.seq.toNat a.seq.toNat) (cmpN b.kind.toNat a.kind.toNat) = cmpKey a b := rfl
set_option maxHeartbeats 4000000 in
theorem compare_any (w : World) (A : Option Addr) (n c : Nat) (k : KeyL) (h : Sl w 1 A n c (bc k.user)) (A2 : Option Addr) (n2 c2 : Nat) (k2 : KeyL) (h2 : Sl w 1 A2 n2 c2 (bc k2.user)) :
    Calls Try.prog 43 #[.agg #[.slice A n c, .int .u64 (k.seq.toNat : Int), .int .u8 (k.kind.toNat : Int)], .agg #[.slice A2 n2 c2, .int .u64 (k2.seq.toNat : Int), .int .u8 (k2.kind.toNat : Int)]] w
      fun e w' => e = .returned (.int .i64 (cmpKey k k2)) ∧ Below w.heap.size w w' := by
  rw [← orL_key]
  have c1 := fun (w' : World) (hb : Below w.heap.size w w') => cmp_bytes w' A n c k.user (h.below (by omega) hb) A2 n2 c2 k2.user (h2.below (by omega) hb)
  have c2 := fun w' => cmp64 w' k2.seq.toNat k.seq.toNat
  have c3 := fun w' => cmp8 w' k2.kind.toNat k.kind.toNat
  generalize Lib.compareBytes k.user k2.user = x at *
  generalize cmpN k2.seq.toNat k.seq.toNat = y at *
  generalize cmpN k2.kind.toNat k.kind.toNat = z at *
  generalize k.seq.toNat = s at *
  generalize k.kind.toNat = d at *
  generalize k2.seq.toNat = s2 at *
  generalize k2.kind.toNat = d2 at *
  have C1 := Lib.hid c1
  have C2 := Lib.hid c2
  have C3 := Lib.hid c3
  clear c1 c2 c3 h h2
  go_enter Try.func43, Try.ntmps43
  go_wp2_with fail
  have hbb : Below w.heap.size w ((w.alloc (.cells #[.slice A n c, .int .u64 (s : Int), .int .u8 (d : Int)] 25)).alloc (.cells #[.slice A2 n2 c2, .int .u64 (s2 : Int), .int .u8 (d2 : Int)] 25)).drew :=
    below_drew (((Below.refl _ _).alloc (Nat.le_refl _) _).alloc (by simp) _)
  refine stillTail 15 (by kernel_rfl) (by kernel_rfl) ?_
  simp only [List.take_succ_cons, List.take_zero, List.drop_succ_cons, List.drop_zero]
  iterate 4 still_step
  refine wpStill_step (fun K hK => ?_)
  go_simp
  refine ⟨_, still_of (C1.out _ hbb), hK _ ?_⟩
  clear hK K
  iterate 4 still_step
  refine wpStill_step (fun K hK => ?_)
  go_simp
  refine ⟨_, still_of (C2.out _), hK _ ?_⟩
  clear hK K
  iterate 4 still_step
  refine wpStill_step (fun K hK => ?_)
  go_simp
  refine ⟨_, still_of (C3.out _), hK _ ?_⟩
  clear hK K
  refine wpStill_nil ?_
  generalize ((w.alloc (.cells #[.slice A n c, .int .u64 (s : Int), .int .u8 (d : Int)] 25)).alloc (.cells #[.slice A2 n2 c2, .int .u64 (s2 : Int), .int .u8 (d2 : Int)] 25)).drew = w1 at *
  change wpList _ _ _ _ _ w1
  go_wp2_with fail
  refine (or_any w1 x y z).mono ?_
  rintro e w' ⟨rfl, rfl⟩
  go_wp2
  go_ret
  exact ⟨rfl, hbb.alloc hbb.size _⟩
end Go.Proofs.Ytpffieogkfndaaa

namespace Go.Proofs.Ytpffieogkfndaaa
open Go.RowKit
set_option maxRecDepth 20000

theorem beq_cast (a b : Nat) : ((a : Int) == (b : Int)) = (a == b) := by
  rw [Bool.eq_iff_iff, beq_iff_eq, beq_iff_eq]
  omega
theorem bytesLess_eq : ∀ l m : List UInt8, Op.bytesLess l m = ltL l m
  | [], [] => rfl
  | [], _ :: _ => rfl
  | _ :: _, [] => rfl
  | a :: l, b :: m => by
    have ih := bytesLess_eq l m
    rw [Bool.eq_iff_iff] at ih ⊢
    unfold ltL at *
    rw [decide_eq_true_eq] at ih ⊢
    simp only [Op.bytesLess, Lib.compareBytes, Bool.or_eq_true, decide_eq_true_eq, Bool.and_eq_true, beq_iff_eq]
    by_cases h1 : a < b
    · simp [h1]
    · rw [if_neg h1]
      by_cases h2 : b < a
      · rw [if_pos h2]
        have : a ≠ b := fun e => by subst e; exact absurd h2 (by simp)
        simp [h1, this]
      · rw [if_neg h2]
        have : a = b := UInt8.toNat_inj.1 (by rw [UInt8.lt_iff_toNat_lt] at h1 h2; omega)
        subst this
        simp [ih]
set_option maxHeartbeats 400000 in
theorem rless_any (w : World) (A1 : Option Addr) (n1 c1 : Nat) (l1 : List UInt8) (h1 : Sl w 1 A1 n1 c1 (bc l1)) (A2 : Option Addr) (n2 c2 : Nat) (l2 : List UInt8) (h2 : Sl w 1 A2 n2 c2 (bc l2)) :
    Calls Try.prog 44 #[.slice A1 n1 c1, .slice A2 n2 c2] w fun e w' => e = .returned (.bool (ltL l1 l2)) ∧ w = w' := by
  obtain ⟨s1, e1, r1⟩ := run_conv w A1 n1 c1 l1 h1
  obtain ⟨s2, e2, r2⟩ := run_conv w A2 n2 c2 l2 h2
  have E1 := Lib.hid e1
  have E2 := Lib.hid e2
  clear e1 e2 h1 h2
  go_enter Try.func44, Try.ntmps44
  go_wp2
  go_ret
  refine ⟨ret_bool ?_, rfl⟩
  rw [E1.out, E2.out, bytesLess_eq]
theorem rless_is (w : World) (A1 : Option Addr) (n1 c1 : Nat) (l1 : List UInt8) (h1 : Sl w 1 A1 n1 c1 (bc l1)) (A2 : Option Addr) (n2 c2 : Nat) (l2 : List UInt8) (h2 : Sl w 1 A2 n2 c2 (bc l2)) (b : Bool) (hb : Hid (ltL l1 l2 = b)) :
    Calls Try.prog 44 #[.slice A1 n1 c1, .slice A2 n2 c2] w fun e w' => e = .returned (.bool b) ∧ w = w' := by
  rw [← hb.out]
  exact rless_any w A1 n1 c1 l1 h1 A2 n2 c2 l2 h2
set_option maxHeartbeats 4000000 in
theorem klt_any (w : World) (A : Option Addr) (n c : Nat) (k : KeyL) (h : Sl w 1 A n c (bc k.user)) (A2 : Option Addr) (n2 c2 : Nat) (k2 : KeyL) (h2 : Sl w 1 A2 n2 c2 (bc k2.user)) :
    Calls Try.prog 26 #[.agg #[.slice A n c, .int .u64 (k.seq.toNat : Int), .int .u8 (k.kind.toNat : Int)], .agg #[.slice A2 n2 c2, .int .u64 (k2.seq.toNat : Int), .int .u8 (k2.kind.toNat : Int)]] w
      fun e w' => e = .returned (.bool (lessKey k k2)) ∧ Below w.heap.size w w' := by
  obtain ⟨r, hr⟩ : ∃ r, lessKey k k2 = r := ⟨_, rfl⟩
  rw [hr]
  unfold lessKey at hr
  rw [show (k.seq == k2.seq) = (k.seq.toNat == k2.seq.toNat) by rw [Bool.eq_iff_iff]; simp [← UInt64.toNat_inj]] at hr
  have c1 := fun (w' : World) (b : Bool) (hh : Hid ((k.user == k2.user) = b)) (hb : Below w.heap.size w w') => same_is w' A n c k.user A2 n2 c2 k2.user b hh (h.below (by omega) hb) (h2.below (by omega) hb)
  have c2 := fun (w' : World) (b : Bool) (hh : Hid (ltL k.user k2.user = b)) (hb : Below w.heap.size w w') => rless_is w' A n c k.user (h.below (by omega) hb) A2 n2 c2 k2.user (h2.below (by omega) hb) b hh
  obtain ⟨x, hx⟩ : ∃ x, (k.user == k2.user) = x := ⟨_, rfl⟩
  obtain ⟨y, hy⟩ : ∃ y, ltL k.user k2.user = y := ⟨_, rfl⟩
  rw [hx, hy] at hr
  have Hx := Lib.hid hx
  have Hy := Lib.hid hy
  generalize k.seq.toNat = s at *
  generalize k.kind.toNat = d at *
  generalize k2.seq.toNat = s2 at *
  generalize k2.kind.toNat = d2 at *
  have C1 := Lib.hid c1
  have C2 := Lib.hid c2
  have Hr := Lib.hid hr
  clear c1 c2 h h2 hx hy hr
  have hbb : Below w.heap.size w ((w.alloc (.cells #[.slice A n c, .int .u64 (s : Int), .int .u8 (d : Int)] 25)).alloc (.cells #[.slice A2 n2 c2, .int .u64 (s2 : Int), .int .u8 (d2 : Int)] 25)) :=
    (((Below.refl _ _).alloc (Nat.le_refl _) _).alloc (by simp) _)
  go_enter Try.func26, Try.ntmps26
  go_wp2_with fail
  refine (C1.out _ x Hx hbb).mono ?_
  rintro e w' ⟨rfl, rfl⟩
  cases x
  · go_wp2_with fail
    refine (C2.out _ y Hy hbb).mono ?_
    rintro e w' ⟨rfl, rfl⟩
    go_wp2
    go_ret
    refine ⟨ret_bool ?_, hbb⟩
    rw [← Hr.out]
    rfl
  · obtain ⟨b1, t1⟩ : ∃ b, ((s : Int) == (s2 : Int)) = b := ⟨_, rfl⟩
    have T1 := Lib.hid t1
    cases b1
    all_goals
      go_wp2
      go_ret
      refine ⟨ret_bool ?_, hbb⟩
      rw [← Hr.out]
      have q1 := T1.out
      rw [← beq_cast s s2, q1]
      first | rfl | (simp only [Bool.not_true, Bool.not_false, Bool.false_eq_true, if_false, if_true]; rw [decide_eq_decide]; omega)
set_option maxHeartbeats 4000000 in
theorem keq_any (w : World) (A : Option Addr) (n c : Nat) (k : KeyL) (h : Sl w 1 A n c (bc k.user)) (A2 : Option Addr) (n2 c2 : Nat) (k2 : KeyL) (h2 : Sl w 1 A2 n2 c2 (bc k2.user)) :
    Calls Try.prog 27 #[.agg #[.slice A n c, .int .u64 (k.seq.toNat : Int), .int .u8 (k.kind.toNat : Int)], .agg #[.slice A2 n2 c2, .int .u64 (k2.seq.toNat : Int), .int .u8 (k2.kind.toNat : Int)]] w
      fun e w' => e = .returned (.bool (k == k2)) ∧ Below w.heap.size w w' := by
  obtain ⟨r, hr⟩ : ∃ r, (k == k2) = r := ⟨_, rfl⟩
  rw [hr]
  have hr2 : (k == k2) = ((k.user == k2.user) && (k.seq.toNat == k2.seq.toNat) && (k.kind.toNat == k2.kind.toNat)) := by
    rw [Bool.eq_iff_iff]
    cases k
    cases k2
    simp [← UInt64.toNat_inj, ← UInt8.toNat_inj, and_assoc]
  rw [hr2] at hr
  clear hr2
  have c1 := fun (w' : World) (b : Bool) (hh : Hid ((k.user == k2.user) = b)) (hb : Below w.heap.size w w') => same_is w' A n c k.user A2 n2 c2 k2.user b hh (h.below (by omega) hb) (h2.below (by omega) hb)
  obtain ⟨x, hx⟩ : ∃ x, (k.user == k2.user) = x := ⟨_, rfl⟩
  rw [hx] at hr
  have Hx := Lib.hid hx
  generalize k.seq.toNat = s at *
  generalize k.kind.toNat = d at *
  generalize k2.seq.toNat = s2 at *
  generalize k2.kind.toNat = d2 at *
  have C1 := Lib.hid c1
  have Hr := Lib.hid hr
  clear c1 h h2 hx hr
  have hbb : Below w.heap.size w ((w.alloc (.cells #[.slice A n c, .int .u64 (s : Int), .int .u8 (d : Int)] 25)).alloc (.cells #[.slice A2 n2 c2, .int .u64 (s2 : Int), .int .u8 (d2 : Int)] 25)) :=
    (((Below.refl _ _).alloc (Nat.le_refl _) _).alloc (by simp) _)
  obtain ⟨b1, t1⟩ : ∃ b, ((s : Int) == (s2 : Int)) = b := ⟨_, rfl⟩
  obtain ⟨b2, t2⟩ : ∃ b, ((d : Int) == (d2 : Int)) = b := ⟨_, rfl⟩
  have T1 := Lib.hid t1
  have T2 := Lib.hid t2
  cases x <;> cases b1 <;> cases b2
  all_goals
    go_enter Try.func27, Try.ntmps27
    go_wp2_with fail
    refine (C1.out _ _ Hx hbb).mono ?_
    rintro e w' ⟨rfl, rfl⟩
    go_wp2
    all_goals
      go_ret
      refine ⟨ret_bool ?_, hbb⟩
      rw [← Hr.out]
      have q1 := T1.out
      have q2 := T2.out
      rw [← beq_cast s s2, ← beq_cast d d2, q1, q2]
      rfl
/-- a version that a call gives back, its key in memory of its own -/
def GotKey (w : World) (k : KeyL) (e : Ending) (w' : World) : Prop :=
  ∃ (A : Option Addr) (n c : Nat), e = .returned (.agg #[.slice A n c, .int .u64 (k.seq.toNat : Int), .int .u8 (k.kind.toNat : Int)]) ∧ OwnB w' w.heap.size A n c k.user ∧ Below w.heap.size w w'
end Go.Proofs.Ytpffieogkfndaaa

namespace Go.Proofs.Ytpffieogkfndaaa
open Go.RowKit
set_option maxRecDepth 20000

theorem conv_text (w : World) (s : ByteArray) (l : List UInt8) (hl : s.data.toList = l) (hm : l.length ≤ 1000000) : ∃ c w', (convert 9 22 (.string s)).run Try.prog w = .ok (.slice (some ⟨w.heap.size, 0, none⟩) s.size c) w' ∧
    Sl w' 1 (some ⟨w.heap.size, 0, none⟩) s.size c (bc l) ∧ Below w.heap.size w w' := by
  have hsz : s.size = l.length := by rw [← hl]; rfl
  refine ⟨_, _, run_bytes_of_string w 9 22 5 s Try.underlying9 Try.underlying22 Try.underlying5, ⟨?_, ?_, ?_, fun h0 => ⟨w.heap.size, 0, rfl, fun j u hu => ?_⟩⟩, ?_⟩
  · simp [hsz]
  · have := grownCap_ge w s.size 0 5; omega
  · exact grownCap_le_maxLen w s.size 0 5 (by unfold maxLen; omega)
  · have hj : j < l.length := by
      have := (List.getElem?_eq_some_iff.1 hu).1
      simpa using this
    have hj2 : j < s.data.size := by
      have : s.data.size = l.length := hsz
      omega
    have h1 := cell_of_row (w.drew.alloc (.cells (bytesRow s (grownCap w s.size 0 5)) 5 ((bytesRow s (grownCap w s.size 0 5)).size, (bytesRow s (grownCap w s.size 0 5)).size + 1))) w.heap.size j _ _ _ (heap_alloc_new w.drew _)
    rw [Nat.zero_add, h1, bytesRow_at _ _ _ hj2, ← hu, bc_get]
    subst hl
    simp [List.getElem?_eq_getElem hj]
  · exact ((Below.refl _ _).drew).alloc (Nat.le_refl _) _
/-- a version that a call gives back -/
def SomeKey (w : World) (k : KeyL) (e : Ending) (w' : World) : Prop :=
  ∃ (A : Option Addr) (n c : Nat), e = .returned (.agg #[.slice A n c, .int .u64 (k.seq.toNat : Int), .int .u8 (k.kind.toNat : Int)]) ∧ Sl w' 1 A n c (bc k.user) ∧ Below w.heap.size w w'
/-- bytes and an error's number that a call gives back -/
def GotBE (w : World) (l : List UInt8) (q : Nat) (e : Ending) (w' : World) : Prop :=
  ∃ (A : Option Addr) (n c : Nat), e = .returned (.tuple #[.slice A n c, .int .i64 (q : Int)]) ∧ OwnB w' w.heap.size A n c l ∧ Below w.heap.size w w'
theorem le8_take (n i : Nat) (h : i < 8) : (le8 n).take (i + 1) = (le8 n).take i ++ [UInt8.ofNat (n / 256 ^ i)] := by
  have hl : (le8 n).length = 8 := by simp [le8]
  rw [List.take_succ_eq_append_getElem (by omega)]
  simp [le8]
theorem le8_len (n : Nat) : (le8 n).length = 8 := by simp [le8]
/-- what a version's bytes are, or the error -/
def keyBE (k : KeyL) : List UInt8 × Nat := if checkKey k = 0 then (keyBytesL k, 0) else ([], checkKey k)
/-- where one looks -/
def uptoKey (user : List UInt8) (seq : UInt64) : KeyL := ⟨user, UInt64.ofNat (min seq.toNat 72057594037927935), 2⟩
end Go.Proofs.Ytpffieogkfndaaa

namespace Go.Proofs.Ytpffieogkfndaaa
open Go.RowKit
set_option maxRecDepth 20000
/-- bytes as a number, the least first -/
def leval : List UInt8 → Nat
  | [] => 0
  | b :: l => leval l * 256 + b.toNat
theorem leval_lt : ∀ l : List UInt8, leval l < 256 ^ l.length
  | [] => by simp [leval]
  | b :: l => by
    have ih := leval_lt l
    have hb := b.toNat_lt
    unfold leval
    rw [List.length_cons, Nat.pow_succ]
    have : leval l + 1 ≤ 256 ^ l.length := ih
    have := Nat.mul_le_mul_right 256 this
    omega
def noKey : KeyL := ⟨[], 0, 0⟩
def keyOfN (u : List UInt8) (n : Nat) : KeyL := ⟨u, UInt64.ofNat (n / 256), UInt8.ofNat n⟩
/-- the version in front, what stands behind, the error's number -/
def keyReadL (p : List UInt8) : KeyL × List UInt8 × Nat :=
  if (takeTextL p 64).2.2 ≠ 0 then (noKey, [], (takeTextL p 64).2.2)
  else if (takeTextL p 64).2.1.length < 8 then (noKey, [], 2)
  else if checkKey (keyOfN (takeTextL p 64).1 (leval ((takeTextL p 64).2.1.take 8))) ≠ 0 then (noKey, [], 4)
  else (keyOfN (takeTextL p 64).1 (leval ((takeTextL p 64).2.1.take 8)), (takeTextL p 64).2.1.drop 8, 0)
theorem leval_le (n : Nat) : ∀ m k : Nat, leval ((List.range m).map fun i => UInt8.ofNat (n / 256 ^ (k + i))) = n / 256 ^ k % 256 ^ m
  | 0, k => by simp [leval, Nat.mod_one]
  | m + 1, k => by
    have ih := leval_le n m (k + 1)
    rw [List.range_succ_eq_map, List.map_cons, List.map_map]
    unfold leval
    have e : (List.range m).map ((fun i => UInt8.ofNat (n / 256 ^ (k + i))) ∘ Nat.succ) = (List.range m).map fun i => UInt8.ofNat (n / 256 ^ (k + 1 + i)) := by
      apply List.map_congr_left
      intro i _
      simp only [Function.comp]
      rw [show k + Nat.succ i = k + 1 + i by omega]
    rw [e, ih]
    have h2 : (UInt8.ofNat (n / 256 ^ (k + 0))).toNat = n / 256 ^ k % 256 := by simp
    have h3 : n / 256 ^ (k + 1) = n / 256 ^ k / 256 := by rw [Nat.pow_succ, ← Nat.div_div_eq_div_mul]
    rw [h2, h3, Nat.pow_succ 256 m, Nat.mul_comm (256 ^ m) 256, Nat.mod_mul]
    omega
theorem leval_le8 (n : Nat) (h : n < 18446744073709551616) : leval (le8 n) = n := by
  have := leval_le n 8 0
  simp only [Nat.zero_add, Nat.pow_zero, Nat.div_one] at this
  unfold le8
  rw [this]
  exact Nat.mod_eq_of_lt h
/-- WHAT A VERSION's BYTES SAY, whatever stands behind -/
theorem keyRead_bytes (k : KeyL) (h : checkKey k = 0) (rest : List UInt8) : keyReadL (keyBytesL k ++ rest) = (k, rest, 0) := by
  have hb0 := h
  unfold checkKey at hb0
  have hs : k.seq.toNat < 72057594037927936 ∧ k.user.length ≤ 64 := by
    repeat' split at hb0
    all_goals omega
  have hd := k.kind.toNat_lt
  have e1 : takeTextL (keyBytesL k ++ rest) 64 = (k.user, le8 (keyN k) ++ rest, 0) := by
    unfold keyBytesL
    rw [List.append_assoc]
    have := take_text k.user (le8 (keyN k) ++ rest) (by omega) 64
    rw [if_pos hs.2] at this
    exact this
  have hn : leval (le8 (keyN k)) = keyN k := leval_le8 _ (by unfold keyN; omega)
  have hk : keyOfN k.user (keyN k) = k := by
    unfold keyOfN keyN
    cases k with | mk u s d =>
    simp only [KeyL.mk.injEq, true_and]
    simp only at hd
    constructor
    · apply UInt64.toNat_inj.1
      rw [UInt64.toNat_ofNat', show (s.toNat * 256 + d.toNat) / 256 = s.toNat by omega]
      exact Nat.mod_eq_of_lt s.toNat_lt
    · apply UInt8.toNat_inj.1
      rw [UInt8.toNat_ofNat']
      omega
  unfold keyReadL
  rw [e1]
  simp only [ne_eq, not_true_eq_false, if_false]
  rw [List.take_left' (le8_len _), List.drop_left' (le8_len _), hn, hk, if_neg (by rw [List.length_append, le8_len]; omega), if_neg (by omega)]
/-- a version, bytes and an error's number that a call gives back -/
def GotRead (w : World) (r : KeyL × List UInt8 × Nat) (e : Ending) (w' : World) : Prop :=
  ∃ (A : Option Addr) (n c : Nat) (B : Option Addr) (m d : Nat), e = .returned (.tuple #[.agg #[.slice A n c, .int .u64 (r.1.seq.toNat : Int), .int .u8 (r.1.kind.toNat : Int)], .slice B m d, .int .i64 (r.2.2 : Int)]) ∧
    Sl w' 1 A n c (bc r.1.user) ∧ Sl w' 1 B m d (bc r.2.1) ∧ Below w.heap.size w w'
end Go.Proofs.Ytpffieogkfndaaa
