/-
  KeyPlain, KeyWalk in one text. No condition but sizes.
-/
import Derived.Test.YtpffieogkfndaaaGreatDoorJRecs
import Derived.Test.YtpffieogkfndaaaGreatDoorJRowsZ
import Derived.Test.YtpffieogkfndaaaGreatDoorJJoin
import Derived.Test.YtpffieogkfndaaaGreatDoorJHeld
import Derived.StillTailTactics
import Derived.Deep.Light
namespace Go.Proofs.YtpffieogkfndaaaGreatDoor
set_option maxRecDepth 20000
set_option linter.unusedVariables false
set_option linter.unusedSimpArgs false
open Go.RowKit

theorem cmp_val : ∀ l m : List UInt8, Lib.compareBytes l m = -1 ∨ Lib.compareBytes l m = 0 ∨ Lib.compareBytes l m = 1
  | [], [] => .inr (.inl rfl)
  | [], _ :: _ => .inl rfl
  | _ :: _, [] => .inr (.inr rfl)
  | a :: l, b :: m => by
    simp only [Lib.compareBytes]
    split
    · exact .inl rfl
    · split
      · exact .inr (.inr rfl)
      · exact cmp_val l m
theorem cmp_zero : ∀ l m : List UInt8, Lib.compareBytes l m = 0 ↔ l = m
  | [], [] => by simp [Lib.compareBytes]
  | [], _ :: _ => by simp [Lib.compareBytes]
  | _ :: _, [] => by simp [Lib.compareBytes]
  | a :: l, b :: m => by
    simp only [Lib.compareBytes]
    have ih := cmp_zero l m
    by_cases h1 : a < b
    · rw [if_pos h1]
      have : a ≠ b := fun e => by subst e; exact absurd h1 (by simp)
      simp [this]
    · rw [if_neg h1]
      by_cases h2 : b < a
      · rw [if_pos h2]
        have : a ≠ b := fun e => by subst e; exact absurd h2 (by simp)
        simp [this]
      · rw [if_neg h2, ih]
        have : a = b := UInt8.toNat_inj.1 (by rw [UInt8.lt_iff_toNat_lt] at h1 h2; omega)
        simp [this]
theorem cmp_trans : ∀ l m n : List UInt8, Lib.compareBytes l m < 0 → Lib.compareBytes m n < 0 → Lib.compareBytes l n < 0
  | [], m, n, h1, h2 => by
    cases m with
    | nil => simp [Lib.compareBytes] at h1
    | cons b m => cases n with
      | nil => simp [Lib.compareBytes] at h2
      | cons c n => simp [Lib.compareBytes]
  | a :: l, m, n, h1, h2 => by
    cases m with
    | nil => simp [Lib.compareBytes] at h1
    | cons b m => cases n with
      | nil => simp [Lib.compareBytes] at h2
      | cons c n =>
        simp only [Lib.compareBytes] at h1 h2 ⊢
        simp only [UInt8.lt_iff_toNat_lt] at h1 h2 ⊢
        have ih := cmp_trans l m n
        split at h1
        · split at h2
          · rw [if_pos (by omega)]; omega
          · split at h2
            · omega
            · rw [if_pos (by omega)]; omega
        · split at h1
          · omega
          · split at h2
            · rw [if_pos (by omega)]; omega
            · split at h2
              · omega
              · rw [if_neg (by omega), if_neg (by omega)]
                exact ih h1 h2
/-- of two numbers, as cmp.Compare has it -/
def cmpN (a b : Nat) : Int := if a < b then -1 else if b < a then 1 else 0
theorem cmpN_sgn (a b : Nat) : (cmpN a b < 0 ↔ a < b) ∧ (cmpN a b = 0 ↔ a = b) := by
  unfold cmpN
  repeat' split
  all_goals omega
/-- of two versions -/
def cmpKey (a b : KeyL) : Int :=
  if Lib.compareBytes a.user b.user ≠ 0 then Lib.compareBytes a.user b.user
  else if cmpN b.seq.toNat a.seq.toNat ≠ 0 then cmpN b.seq.toNat a.seq.toNat else cmpN b.kind.toNat a.kind.toNat
def lessKey (a b : KeyL) : Bool :=
  if !(a.user == b.user) then ltL a.user b.user else if !(a.seq == b.seq) then decide (b.seq.toNat < a.seq.toNat) else decide (b.kind.toNat < a.kind.toNat)
theorem cmpKey_less (a b : KeyL) : decide (cmpKey a b < 0) = lessKey a b := by
  unfold cmpKey lessKey
  have h1 := cmp_zero a.user b.user
  by_cases hu : a.user = b.user
  · have hu0 := h1.2 hu
    have hub : (!(a.user == b.user)) = false := by rw [hu]; simp
    rw [if_neg (by omega), hub]
    simp only [Bool.false_eq_true, if_false]
    by_cases hs : a.seq = b.seq
    · have hsb : (!(a.seq == b.seq)) = false := by rw [hs]; simp
      have hz : cmpN b.seq.toNat a.seq.toNat = 0 := by rw [hs]; unfold cmpN; simp
      rw [if_neg (by omega), hsb]
      simp only [Bool.false_eq_true, if_false, decide_eq_decide]
      unfold cmpN
      repeat' split
      all_goals omega
    · have hs' : a.seq.toNat ≠ b.seq.toNat := fun e => hs (UInt64.toNat_inj.1 e)
      have hsb : (!(a.seq == b.seq)) = true := by simp [hs]
      have hz : cmpN b.seq.toNat a.seq.toNat ≠ 0 := by
        unfold cmpN
        repeat' split
        all_goals omega
      rw [if_pos hz, hsb]
      simp only [if_true, decide_eq_decide]
      unfold cmpN
      repeat' split
      all_goals omega
  · have hub : (!(a.user == b.user)) = true := by simp [hu]
    rw [if_pos (fun e => hu (h1.1 e)), hub]
    rfl
theorem cmpKey_trans (a b c : KeyL) (h1 : cmpKey a b < 0) (h2 : cmpKey b c < 0) : cmpKey a c < 0 := by
  unfold cmpKey at *
  have t := cmp_trans a.user b.user c.user
  have z1 := cmp_zero a.user b.user
  have z2 := cmp_zero b.user c.user
  have v := cmp_val a.user c.user
  by_cases e1 : a.user = b.user
  · have q1 := z1.2 e1
    rw [if_neg (by omega)] at h1
    by_cases e2 : b.user = c.user
    · have q2 := z2.2 e2
      rw [if_neg (by omega)] at h2
      rw [e1, e2, cmp_self, if_neg (by omega)]
      clear t z1 z2 v e1 e2 q1 q2
      have a1 := cmpN_sgn b.seq.toNat a.seq.toNat
      have a2 := cmpN_sgn c.seq.toNat b.seq.toNat
      have a3 := cmpN_sgn c.seq.toNat a.seq.toNat
      have k1 := cmpN_sgn b.kind.toNat a.kind.toNat
      have k2 := cmpN_sgn c.kind.toNat b.kind.toNat
      have k3 := cmpN_sgn c.kind.toNat a.kind.toNat
      generalize cmpN b.seq.toNat a.seq.toNat = x1 at *
      generalize cmpN c.seq.toNat b.seq.toNat = x2 at *
      generalize cmpN c.seq.toNat a.seq.toNat = x3 at *
      generalize cmpN b.kind.toNat a.kind.toNat = y1 at *
      generalize cmpN c.kind.toNat b.kind.toNat = y2 at *
      generalize cmpN c.kind.toNat a.kind.toNat = y3 at *
      by_cases e1 : x1 = 0
      · rw [if_neg (by omega)] at h1
        by_cases e2 : x2 = 0
        · rw [if_neg (by omega)] at h2
          rw [if_neg (by omega)]
          omega
        · rw [if_pos e2] at h2
          rw [if_pos (by omega)]
          omega
      · rw [if_pos e1] at h1
        by_cases e2 : x2 = 0
        · rw [if_pos (by omega)]
          omega
        · rw [if_pos e2] at h2
          rw [if_pos (by omega)]
          omega
    · rw [if_pos (by rw [ne_eq, z2]; exact e2)] at h2
      rw [e1, if_pos (by rw [ne_eq, z2]; exact e2)]
      exact h2
  · rw [if_pos (by rw [ne_eq, z1]; exact e1)] at h1
    by_cases e2 : b.user = c.user
    · rw [← e2, if_pos (by rw [ne_eq, z1]; exact e1)]
      exact h1
    · rw [if_pos (by rw [ne_eq, z2]; exact e2)] at h2
      have := t h1 h2
      rw [if_pos (by omega)]
      exact this
/-- is a version right? the error's number -/
def checkKey (k : KeyL) : Nat :=
  if k.seq.toNat ≥ 72057594037927936 ∨ k.kind.toNat < 1 ∨ k.kind.toNat > 2 then 1 else if k.user.length = 0 then 2 else if k.user.length > 64 then 3 else 0
/-- eight bytes, the least first -/
def le8 (n : Nat) : List UInt8 := (List.range 8).map fun i => UInt8.ofNat (n / 256 ^ i)
def keyN (k : KeyL) : Nat := k.seq.toNat * 256 + k.kind.toNat
def keyBytesL (k : KeyL) : List UInt8 := textL k.user ++ le8 (keyN k)
theorem after_lt (a : List UInt8) : Lib.compareBytes a (a ++ [0]) = -1 := by
  induction a with
  | nil => rfl
  | cons x a ih => simp [Lib.compareBytes, ih]
theorem after_next : ∀ a b : List UInt8, Lib.compareBytes a b < 0 → ¬ Lib.compareBytes b (a ++ [0]) < 0
  | [], [], h => by simp [Lib.compareBytes] at h
  | [], y :: b, _ => by
    simp only [List.nil_append, Lib.compareBytes]
    have : ¬ y < 0 := by simp [UInt8.lt_iff_toNat_lt]
    rw [if_neg this]
    split
    · omega
    · cases b with
      | nil => simp [Lib.compareBytes]
      | cons z b => simp [Lib.compareBytes]
  | x :: a, [], h => by simp [Lib.compareBytes] at h
  | x :: a, y :: b, h => by
    have ih := after_next a b
    simp only [List.cons_append, Lib.compareBytes] at h ⊢
    by_cases h1 : x < y
    · have h2 : ¬ y < x := by rw [UInt8.lt_iff_toNat_lt] at *; omega
      rw [if_neg h2, if_pos h1]
      omega
    · rw [if_neg h1] at h
      by_cases h2 : y < x
      · rw [if_pos h2] at h
        omega
      · rw [if_neg h2] at h
        rw [if_neg h2, if_neg h1]
        exact ih h
/-- what a number says behind a key -/
theorem ltL_self (a : List UInt8) : ltL a a = false := by unfold ltL; rw [cmp_self]; rfl
theorem ltL_swap {a b : List UInt8} (h : ltL a b = true) : ltL b a = false := by
  unfold ltL at *
  have := cmp_swap a b
  have h := of_decide_eq_true h
  exact decide_eq_false (by omega)
end Go.Proofs.YtpffieogkfndaaaGreatDoor

namespace Go.Proofs.YtpffieogkfndaaaGreatDoor
open Go.RowKit
theorem below_drew {B : Nat} {w w' : World} (h : Below B w w') : Below B w w'.drew := ⟨h.os, h.tape, h.output, h.size, h.block⟩
set_option maxRecDepth 20000
set_option linter.unusedVariables false
set_option linter.unusedSimpArgs false

theorem nan64 (w : World) (s : Nat) : Calls Tryz.prog 120 #[.int .u64 (s : Int)] w fun e w' => e = .returned (.bool false) ∧ w = w' := by
  go_enter Tryz.func120, Tryz.ntmps120
  go_wp2
  go_ret
  exact ⟨rfl, rfl⟩
theorem nan8 (w : World) (s : Nat) : Calls Tryz.prog 121 #[.int .u8 (s : Int)] w fun e w' => e = .returned (.bool false) ∧ w = w' := by
  go_enter Tryz.func121, Tryz.ntmps121
  go_wp2
  go_ret
  exact ⟨rfl, rfl⟩
set_option maxHeartbeats 1000000 in
theorem cmp64 (w : World) (s t : Nat) : Calls Tryz.prog 110 #[.int .u64 (s : Int), .int .u64 (t : Int)] w fun e w' => e = .returned (.int .i64 (cmpN s t)) ∧ w = w' := by
  unfold cmpN
  go_enter Tryz.func110, Tryz.ntmps110
  go_wp2_with fail
  refine (nan64 w s).mono ?_
  rintro e w' ⟨rfl, rfl⟩
  go_wp2_with fail
  refine (nan64 w t).mono ?_
  rintro e w' ⟨rfl, rfl⟩
  go_wp2
  all_goals
    go_ret
    refine ⟨ret_int ?_, rfl⟩
    repeat' split
    all_goals omega
set_option maxHeartbeats 1000000 in
theorem cmp8 (w : World) (s t : Nat) : Calls Tryz.prog 111 #[.int .u8 (s : Int), .int .u8 (t : Int)] w fun e w' => e = .returned (.int .i64 (cmpN s t)) ∧ w = w' := by
  unfold cmpN
  go_enter Tryz.func111, Tryz.ntmps111
  go_wp2_with fail
  refine (nan8 w s).mono ?_
  rintro e w' ⟨rfl, rfl⟩
  go_wp2_with fail
  refine (nan8 w t).mono ?_
  rintro e w' ⟨rfl, rfl⟩
  go_wp2
  all_goals
    go_ret
    refine ⟨ret_int ?_, rfl⟩
    repeat' split
    all_goals omega
set_option maxHeartbeats 2000000 in
theorem check_any (w : World) (A : Option Addr) (n c : Nat) (k : KeyL) (h : Sl w 1 A n c (bc k.user)) :
    Calls Tryz.prog 85 #[.agg #[.slice A n c, .int .u64 (k.seq.toNat : Int), .int .u8 (k.kind.toNat : Int)]] w fun e w' => e = .returned (.int .i64 (checkKey k : Nat)) ∧ Below w.heap.size w w' := by
  have hl := h.lenb
  obtain ⟨r, hr⟩ : ∃ r, checkKey k = r := ⟨_, rfl⟩
  rw [hr]
  unfold checkKey at hr
  rw [hl] at hr
  generalize k.seq.toNat = s at *
  generalize k.kind.toNat = d at *
  have Hr := Lib.hid hr
  clear hl h hr
  go_enter Tryz.func85, Tryz.ntmps85
  go_wp2
  all_goals
    go_ret
    refine ⟨ret_int ?_, (Below.refl _ _).alloc (Nat.le_refl _) _⟩
    rw [← Hr.out]
    go_light
    (try simp only [beq_iff_eq, bne_iff_ne, ne_eq, beq_eq_false_iff_ne, bne_eq_false_iff_eq] at *)
    (repeat' split) <;> omega
set_option maxHeartbeats 2000000 in
theorem rcheck_any (w : World) (A : Option Addr) (n c : Nat) (k : KeyL) (h : Sl w 1 A n c (bc k.user)) :
    Calls Tryz.prog 36 #[.agg #[.slice A n c, .int .u64 (k.seq.toNat : Int), .int .u8 (k.kind.toNat : Int)]] w fun e w' => e = .returned (.int .i64 (checkKey k : Nat)) ∧ Below w.heap.size w w' := by
  have hl := h.lenb
  obtain ⟨r, hr⟩ : ∃ r, checkKey k = r := ⟨_, rfl⟩
  rw [hr]
  unfold checkKey at hr
  rw [hl] at hr
  generalize k.seq.toNat = s at *
  generalize k.kind.toNat = d at *
  have Hr := Lib.hid hr
  clear hl h hr
  obtain ⟨b1, t1⟩ : ∃ b, decide ((d : Int) < 1) = b := ⟨_, rfl⟩
  obtain ⟨b2, t2⟩ : ∃ b, decide ((2 : Int) < (d : Int)) = b := ⟨_, rfl⟩
  obtain ⟨b3, t3⟩ : ∃ b, decide ((72057594037927936 : Int) ≤ (s : Int)) = b := ⟨_, rfl⟩
  cases b1 <;> cases b2 <;> cases b3
  all_goals
    go_enter Tryz.func36, Tryz.ntmps36
    go_wp2
    all_goals
      go_ret
      refine ⟨ret_int ?_, (Below.refl _ _).alloc (Nat.le_refl _) _⟩
      rw [← Hr.out]
      go_light
      (try simp only [beq_iff_eq, bne_iff_ne, ne_eq, beq_eq_false_iff_ne, bne_eq_false_iff_eq, decide_eq_true_eq, decide_eq_false_iff_not] at *)
      (repeat' split) <;> omega
/-- three numbers in a row: the first that is no nought -/
def orL (x y z : Int) : Int := if x ≠ 0 then x else if y ≠ 0 then y else z
set_option maxHeartbeats 2000000 in
theorem or_any (w : World) (x y z : Int) : Calls Tryz.prog 109 #[.slice (some ⟨w.heap.size, 0, none⟩) 3 3] (w.alloc (.cells #[.int .i64 x, .int .i64 y, .int .i64 z] 3)) fun e w' => e = .returned (.int .i64 (orL x y z)) ∧ w.alloc (.cells #[.int .i64 x, .int .i64 y, .int .i64 z] 3) = w' := by
  obtain ⟨r, hr⟩ : ∃ r, orL x y z = r := ⟨_, rfl⟩
  rw [hr]
  unfold orL at hr
  have Hr := Lib.hid hr
  clear hr
  go_enter Tryz.func109, Tryz.ntmps109
  go_wp2
  refine wp_loop_rounds 4 ?_
  repeat any_goals (rw [rounds_succ]; go_wp2)
  all_goals (go_ret; refine ⟨ret_int ?_, rfl⟩; rw [← Hr.out]; go_light; (try simp only [beq_iff_eq, bne_iff_ne, ne_eq, beq_eq_false_iff_ne, bne_eq_false_iff_eq] at *); (repeat' split) <;> omega)
theorem cmp_bytes (w : World) (A : Option Addr) (n c : Nat) (l : List UInt8) (h : Sl w 1 A n c (bc l)) (A2 : Option Addr) (n2 c2 : Nat) (m : List UInt8) (h2 : Sl w 1 A2 n2 c2 (bc m)) :
    Calls Tryz.prog 97 #[.slice A n c, .slice A2 n2 c2] w fun e w' => e = .returned (.int .i64 (Lib.compareBytes l m)) ∧ w = w' := by
  have hcall : (callFunc 115 #[.slice A n c, .slice A2 n2 c2]).run Tryz.prog w = .ok (.value (.int .i64 (Lib.compareBytes l m))) w := by
    rw [run_callFunc_extern Tryz.func115 (by kernel_rfl) (by kernel_rfl) (by kernel_rfl) (e := Extern.BytealgCompare.compare) (by kernel_rfl), run_cmp w A n c l h A2 n2 c2 m h2]
    rfl
  generalize Lib.compareBytes l m = z at *
  go_enter Tryz.func97, Tryz.ntmps97
  go_wp2
  go_ret
  exact ⟨rfl, rfl⟩
theorem orL_key (a b : KeyL) : orL (Lib.compareBytes a.user b.user) (cmpN b.seq.toNat a.seq.toNat) (cmpN b.kind.toNat a.kind.toNat) = cmpKey a b := rfl
set_option maxHeartbeats 4000000 in
theorem compare_any (w : World) (A : Option Addr) (n c : Nat) (k : KeyL) (h : Sl w 1 A n c (bc k.user)) (A2 : Option Addr) (n2 c2 : Nat) (k2 : KeyL) (h2 : Sl w 1 A2 n2 c2 (bc k2.user)) :
    Calls Tryz.prog 76 #[.agg #[.slice A n c, .int .u64 (k.seq.toNat : Int), .int .u8 (k.kind.toNat : Int)], .agg #[.slice A2 n2 c2, .int .u64 (k2.seq.toNat : Int), .int .u8 (k2.kind.toNat : Int)]] w
      fun e w' => e = .returned (.int .i64 (cmpKey k k2)) ∧ Below w.heap.size w w' := by
  rw [← orL_key]
  have c1 := fun (w' : World) (hb : Below w.heap.size w w') => cmp_bytes w' A n c k.user (h.below (by omega) hb) A2 n2 c2 k2.user (h2.below (by omega) hb)
  have c2 := fun w' => cmp64 w' k2.seq.toNat k.seq.toNat
  have c3 := fun w' => cmp8 w' k2.kind.toNat k.kind.toNat
  generalize Lib.compareBytes k.user k2.user = x at *
  generalize cmpN k2.seq.toNat k.seq.toNat = y at *
  generalize cmpN k2.kind.toNat k.kind.toNat = z at *
  generalize k.seq.toNat = s at *
  generalize k.kind.toNat = d at *
  generalize k2.seq.toNat = s2 at *
  generalize k2.kind.toNat = d2 at *
  have C1 := Lib.hid c1
  have C2 := Lib.hid c2
  have C3 := Lib.hid c3
  clear c1 c2 c3 h h2
  go_enter Tryz.func76, Tryz.ntmps76
  go_wp2_with fail
  have hbb : Below w.heap.size w ((w.alloc (.cells #[.slice A n c, .int .u64 (s : Int), .int .u8 (d : Int)] 67)).alloc (.cells #[.slice A2 n2 c2, .int .u64 (s2 : Int), .int .u8 (d2 : Int)] 67)).drew :=
    below_drew (((Below.refl _ _).alloc (Nat.le_refl _) _).alloc (by simp) _)
  refine stillTail 15 (by kernel_rfl) (by kernel_rfl) ?_
  simp only [List.take_succ_cons, List.take_zero, List.drop_succ_cons, List.drop_zero]
  iterate 4 still_step
  refine wpStill_step (fun K hK => ?_)
  go_simp
  refine ⟨_, still_of (C1.out _ hbb), hK _ ?_⟩
  clear hK K
  iterate 4 still_step
  refine wpStill_step (fun K hK => ?_)
  go_simp
  refine ⟨_, still_of (C2.out _), hK _ ?_⟩
  clear hK K
  iterate 4 still_step
  refine wpStill_step (fun K hK => ?_)
  go_simp
  refine ⟨_, still_of (C3.out _), hK _ ?_⟩
  clear hK K
  refine wpStill_nil ?_
  generalize ((w.alloc (.cells #[.slice A n c, .int .u64 (s : Int), .int .u8 (d : Int)] 67)).alloc (.cells #[.slice A2 n2 c2, .int .u64 (s2 : Int), .int .u8 (d2 : Int)] 67)).drew = w1 at *
  change wpList _ _ _ _ _ w1
  go_wp2_with fail
  refine (or_any w1 x y z).mono ?_
  rintro e w' ⟨rfl, rfl⟩
  go_wp2
  go_ret
  exact ⟨rfl, hbb.alloc hbb.size _⟩
end Go.Proofs.YtpffieogkfndaaaGreatDoor
