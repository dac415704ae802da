/-
  What batch.CheckOp and batch.Check, and the reference's, answer of ops. No condition.
-/
import Derived.Test.YtpjinmiedanebaaDoorJReelWalk
import Derived.Test.YtpjinmiedanebaaDoorJFrame
import Derived.Test.YtpjinmiedanebaaDoorJReelPlain
namespace Go.Proofs.YtpjinmiedanebaaDoor
open Go.RowKit
set_option maxRecDepth 20000
set_option maxHeartbeats 4000000 in
theorem checkop_any (w : World) (A : Option Addr) (n c : Nat) (A2 : Option Addr) (n2 c2 : Nat) (o : OpL) (h : Sl w 1 A n c (bc o.key)) (h2 : Sl w 1 A2 n2 c2 (bc o.value)) :
    Calls Tryd.prog 71 #[.agg #[.int .u8 (o.kind.toNat : Int), .slice A n c, .slice A2 n2 c2]] w fun e w' => e = .returned (.int .i64 (checkOpL o : Nat)) ∧ Below w.heap.size w w' := by
  have hl := h.lenb
  have hl2 := h2.lenb
  obtain ⟨x, hx⟩ : ∃ x, ltL o.key o.value = x := ⟨_, rfl⟩
  have c1 := fun (w' : World) (hb : Below w.heap.size w w') => less_is w' A n c o.key (h.below (by omega) hb) A2 n2 c2 o.value (h2.below (by omega) hb) x (Lib.hid hx)
  obtain ⟨r, hr⟩ : ∃ r, checkOpL o = r := ⟨_, rfl⟩
  rw [hr]
  unfold checkOpL at hr
  rw [hl, hl2, hx] at hr
  generalize o.kind.toNat = d at *
  have C1 := Lib.hid c1
  clear c1 hl hl2 hx h h2
  rcases (show d = 1 ∨ d = 2 ∨ d = 3 ∨ (d ≠ 1 ∧ d ≠ 2 ∧ d ≠ 3) by omega) with rfl | rfl | rfl | hd
  · simp at hr
    have Hr := Lib.hid hr
    clear C1 hr
    rw [show ((1 : Nat) : Int) = 1 from rfl]
    go_enter Tryd.func71, Tryd.ntmps71
    go_wp2
    all_goals
      go_ret
      refine ⟨ret_int ?_, (Below.refl _ _).alloc (Nat.le_refl _) _⟩
      rw [← Hr.out]
      go_light
      (try simp only [beq_iff_eq, bne_iff_ne, ne_eq, beq_eq_false_iff_ne, bne_eq_false_iff_eq, decide_eq_true_eq, decide_eq_false_iff_not] at *)
      (repeat' split) <;> omega
  · simp at hr
    have Hr := Lib.hid hr
    clear C1 hr
    rw [show ((2 : Nat) : Int) = 2 from rfl]
    go_enter Tryd.func71, Tryd.ntmps71
    go_wp2
    all_goals
      go_ret
      refine ⟨ret_int ?_, (Below.refl _ _).alloc (Nat.le_refl _) _⟩
      rw [← Hr.out]
      go_light
      (try simp only [beq_iff_eq, bne_iff_ne, ne_eq, beq_eq_false_iff_ne, bne_eq_false_iff_eq, decide_eq_true_eq, decide_eq_false_iff_not] at *)
      (repeat' split) <;> omega
  · simp at hr
    have Hr := Lib.hid hr
    clear hr
    rw [show ((3 : Nat) : Int) = 3 from rfl]
    have h4 : ¬(64 < n ∨ 64 < n2 ∨ n = 0) → (if x = false then 4 else 0) = r := by
      intro q
      have e := Hr.out
      rw [if_neg (show ¬(64 < n ∨ 64 < n2) by omega)] at e
      rw [← e]
      have q0 : ¬n = 0 := by omega
      simp [q0]
    rcases (show (64 < n ∨ 64 < n2 ∨ n = 0) ∨ (n ≤ 64 ∧ n2 ≤ 64 ∧ n ≠ 0) by omega) with hn | hn
    · clear C1 h4
      go_enter Tryd.func71, Tryd.ntmps71
      go_wp2
      all_goals (try omega)
      all_goals
        go_ret
        refine ⟨ret_int ?_, (Below.refl _ _).alloc (Nat.le_refl _) _⟩
        rw [← Hr.out]
        go_light
        (try simp only [beq_iff_eq, bne_iff_ne, ne_eq, beq_eq_false_iff_ne, bne_eq_false_iff_eq, decide_eq_true_eq, decide_eq_false_iff_not] at *)
        (repeat' split) <;> omega
    have h5 := h4 (by omega)
    have t1 : decide ((64 : Int) < (n : Int)) = false := decide_eq_false (by omega)
    have t2 : decide ((64 : Int) < (n2 : Int)) = false := decide_eq_false (by omega)
    have t3 : ((n : Int) == 0) = false := by simp; omega
    clear h4 hn Hr
    go_enter Tryd.func71, Tryd.ntmps71
    go_wp2_with fail
    refine (C1.out _ ((Below.refl _ _).alloc (Nat.le_refl _) _)).mono ?_
    rintro e w' ⟨rfl, rfl⟩
    cases x
    all_goals
      simp at h5
      subst h5
      go_wp2
      go_ret
      exact ⟨rfl, (Below.refl _ _).alloc (Nat.le_refl _) _⟩
  · have e : r = 1 := by
      rw [← hr, if_pos (by omega)]
    subst e
    clear C1 hr
    obtain ⟨q1, q2, q3⟩ := hd
    generalize hz : (d : Int) = z at *
    have q1 : (z == 1) = false := by simp; omega
    have q2 : (z == 2) = false := by simp; omega
    have q3 : (z == 3) = false := by simp; omega
    go_enter Tryd.func71, Tryd.ntmps71
    go_wp2
    all_goals
      go_ret
      exact ⟨rfl, (Below.refl _ _).alloc (Nat.le_refl _) _⟩
set_option maxHeartbeats 4000000 in
theorem rcheckop_any (w : World) (A : Option Addr) (n c : Nat) (A2 : Option Addr) (n2 c2 : Nat) (o : OpL) (h : Sl w 1 A n c (bc o.key)) (h2 : Sl w 1 A2 n2 c2 (bc o.value)) :
    Calls Tryd.prog 68 #[.agg #[.int .u8 (o.kind.toNat : Int), .slice A n c, .slice A2 n2 c2]] w fun e w' => e = .returned (.int .i64 (checkOpL o : Nat)) ∧ Below w.heap.size w w' := by
  have hl := h.lenb
  have hl2 := h2.lenb
  obtain ⟨x, hx⟩ : ∃ x, ltL o.key o.value = x := ⟨_, rfl⟩
  have c1 := fun (w' : World) (hb : Below w.heap.size w w') => rless_is w' A n c o.key (h.below (by omega) hb) A2 n2 c2 o.value (h2.below (by omega) hb) x (Lib.hid hx)
  obtain ⟨r, hr⟩ : ∃ r, checkOpL o = r := ⟨_, rfl⟩
  rw [hr]
  unfold checkOpL at hr
  rw [hl, hl2, hx] at hr
  generalize o.kind.toNat = d at *
  have C1 := Lib.hid c1
  clear c1 hl hl2 hx h h2
  rcases (show d = 1 ∨ d = 2 ∨ d = 3 ∨ (d ≠ 1 ∧ d ≠ 2 ∧ d ≠ 3) by omega) with rfl | rfl | rfl | hd
  · simp at hr
    have Hr := Lib.hid hr
    clear C1 hr
    rw [show ((1 : Nat) : Int) = 1 from rfl]
    go_enter Tryd.func68, Tryd.ntmps68
    go_wp2
    all_goals
      go_ret
      refine ⟨ret_int ?_, (Below.refl _ _).alloc (Nat.le_refl _) _⟩
      rw [← Hr.out]
      go_light
      (try simp only [beq_iff_eq, bne_iff_ne, ne_eq, beq_eq_false_iff_ne, bne_eq_false_iff_eq, decide_eq_true_eq, decide_eq_false_iff_not] at *)
      (repeat' split) <;> omega
  · simp at hr
    have Hr := Lib.hid hr
    clear C1 hr
    rw [show ((2 : Nat) : Int) = 2 from rfl]
    go_enter Tryd.func68, Tryd.ntmps68
    go_wp2
    all_goals
      go_ret
      refine ⟨ret_int ?_, (Below.refl _ _).alloc (Nat.le_refl _) _⟩
      rw [← Hr.out]
      go_light
      (try simp only [beq_iff_eq, bne_iff_ne, ne_eq, beq_eq_false_iff_ne, bne_eq_false_iff_eq, decide_eq_true_eq, decide_eq_false_iff_not] at *)
      (repeat' split) <;> omega
  · simp at hr
    have Hr := Lib.hid hr
    clear hr
    rw [show ((3 : Nat) : Int) = 3 from rfl]
    have h4 : ¬(64 < n ∨ 64 < n2 ∨ n = 0) → (if x = false then 4 else 0) = r := by
      intro q
      have e := Hr.out
      rw [if_neg (show ¬(64 < n ∨ 64 < n2) by omega)] at e
      rw [← e]
      have q0 : ¬n = 0 := by omega
      simp [q0]
    rcases (show (64 < n ∨ 64 < n2 ∨ n = 0) ∨ (n ≤ 64 ∧ n2 ≤ 64 ∧ n ≠ 0) by omega) with hn | hn
    · clear C1 h4
      go_enter Tryd.func68, Tryd.ntmps68
      go_wp2
      all_goals (try omega)
      all_goals
        go_ret
        refine ⟨ret_int ?_, (Below.refl _ _).alloc (Nat.le_refl _) _⟩
        rw [← Hr.out]
        go_light
        (try simp only [beq_iff_eq, bne_iff_ne, ne_eq, beq_eq_false_iff_ne, bne_eq_false_iff_eq, decide_eq_true_eq, decide_eq_false_iff_not] at *)
        (repeat' split) <;> omega
    have h5 := h4 (by omega)
    have t1 : decide ((64 : Int) < (n : Int)) = false := decide_eq_false (by omega)
    have t2 : decide ((64 : Int) < (n2 : Int)) = false := decide_eq_false (by omega)
    have t3 : ((n : Int) == 0) = false := by simp; omega
    clear h4 hn Hr
    go_enter Tryd.func68, Tryd.ntmps68
    go_wp2_with fail
    refine (C1.out _ ((Below.refl _ _).alloc (Nat.le_refl _) _)).mono ?_
    rintro e w' ⟨rfl, rfl⟩
    cases x
    all_goals
      simp at h5
      subst h5
      go_wp2
      go_ret
      exact ⟨rfl, (Below.refl _ _).alloc (Nat.le_refl _) _⟩
  · have e : r = 1 := by
      rw [← hr, if_pos (by omega)]
    subst e
    clear C1 hr
    go_enter Tryd.func68, Tryd.ntmps68
    rcases (show d < 1 ∨ 3 < d by omega) with q | q
    · have t1 : decide ((d : Int) < 1) = true := decide_eq_true (by omega)
      go_wp2
      go_ret
      exact ⟨rfl, (Below.refl _ _).alloc (Nat.le_refl _) _⟩
    · have t1 : decide ((d : Int) < 1) = false := decide_eq_false (by omega)
      have t2 : decide (3 < (d : Int)) = true := decide_eq_true (by omega)
      go_wp2
      go_ret
      exact ⟨rfl, (Below.refl _ _).alloc (Nat.le_refl _) _⟩
end Go.Proofs.YtpjinmiedanebaaDoor
