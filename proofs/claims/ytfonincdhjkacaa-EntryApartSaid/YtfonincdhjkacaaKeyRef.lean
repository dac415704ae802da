/-
  What the references' Less, Same of versions answer, and what small, key, Upto, After make. No condition.
-/
import Derived.Test.YtfonincdhjkacaaKeyWalk
namespace Go.Proofs.Ytfonincdhjkacaa
open Go.RowKit
set_option maxRecDepth 20000

theorem beq_cast (a b : Nat) : ((a : Int) == (b : Int)) = (a == b) := by
  rw [Bool.eq_iff_iff, beq_iff_eq, beq_iff_eq]
  omega
theorem bytesLess_eq : ∀ l m : List UInt8, Op.bytesLess l m = ltL l m
  | [], [] => rfl
  | [], _ :: _ => rfl
  | _ :: _, [] => rfl
  | a :: l, b :: m => by
    have ih := bytesLess_eq l m
    rw [Bool.eq_iff_iff] at ih ⊢
    unfold ltL at *
    rw [decide_eq_true_eq] at ih ⊢
    simp only [Op.bytesLess, Lib.compareBytes, Bool.or_eq_true, decide_eq_true_eq, Bool.and_eq_true, beq_iff_eq]
    by_cases h1 : a < b
    · simp [h1]
    · rw [if_neg h1]
      by_cases h2 : b < a
      · rw [if_pos h2]
        have : a ≠ b := fun e => by subst e; exact absurd h2 (by simp)
        simp [h1, this]
      · rw [if_neg h2]
        have : a = b := UInt8.toNat_inj.1 (by rw [UInt8.lt_iff_toNat_lt] at h1 h2; omega)
        subst this
        simp [ih]
set_option maxHeartbeats 400000 in
theorem rless_any (w : World) (A1 : Option Addr) (n1 c1 : Nat) (l1 : List UInt8) (h1 : Sl w 1 A1 n1 c1 (bc l1)) (A2 : Option Addr) (n2 c2 : Nat) (l2 : List UInt8) (h2 : Sl w 1 A2 n2 c2 (bc l2)) :
    Calls Try.prog 78 #[.slice A1 n1 c1, .slice A2 n2 c2] w fun e w' => e = .returned (.bool (ltL l1 l2)) ∧ w = w' := by
  obtain ⟨s1, e1, r1⟩ := run_conv w A1 n1 c1 l1 h1
  obtain ⟨s2, e2, r2⟩ := run_conv w A2 n2 c2 l2 h2
  have E1 := Lib.hid e1
  have E2 := Lib.hid e2
  clear e1 e2 h1 h2
  go_enter Try.func78, Try.ntmps78
  go_wp2
  go_ret
  refine ⟨ret_bool ?_, rfl⟩
  rw [E1.out, E2.out, bytesLess_eq]
theorem rless_is (w : World) (A1 : Option Addr) (n1 c1 : Nat) (l1 : List UInt8) (h1 : Sl w 1 A1 n1 c1 (bc l1)) (A2 : Option Addr) (n2 c2 : Nat) (l2 : List UInt8) (h2 : Sl w 1 A2 n2 c2 (bc l2)) (b : Bool) (hb : Hid (ltL l1 l2 = b)) :
    Calls Try.prog 78 #[.slice A1 n1 c1, .slice A2 n2 c2] w fun e w' => e = .returned (.bool b) ∧ w = w' := by
  rw [← hb.out]
  exact rless_any w A1 n1 c1 l1 h1 A2 n2 c2 l2 h2
set_option maxHeartbeats 4000000 in
theorem klt_any (w : World) (A : Option Addr) (n c : Nat) (k : KeyL) (h : Sl w 1 A n c (bc k.user)) (A2 : Option Addr) (n2 c2 : Nat) (k2 : KeyL) (h2 : Sl w 1 A2 n2 c2 (bc k2.user)) :
    Calls Try.prog 92 #[.agg #[.slice A n c, .int .u64 (k.seq.toNat : Int), .int .u8 (k.kind.toNat : Int)], .agg #[.slice A2 n2 c2, .int .u64 (k2.seq.toNat : Int), .int .u8 (k2.kind.toNat : Int)]] w
      fun e w' => e = .returned (.bool (lessKey k k2)) ∧ Below w.heap.size w w' := by
  obtain ⟨r, hr⟩ : ∃ r, lessKey k k2 = r := ⟨_, rfl⟩
  rw [hr]
  unfold lessKey at hr
  rw [show (k.seq == k2.seq) = (k.seq.toNat == k2.seq.toNat) by rw [Bool.eq_iff_iff]; simp [← UInt64.toNat_inj]] at hr
  have c1 := fun (w' : World) (b : Bool) (hh : Hid ((k.user == k2.user) = b)) (hb : Below w.heap.size w w') => same_is w' A n c k.user A2 n2 c2 k2.user b hh (h.below (by omega) hb) (h2.below (by omega) hb)
  have c2 := fun (w' : World) (b : Bool) (hh : Hid (ltL k.user k2.user = b)) (hb : Below w.heap.size w w') => rless_is w' A n c k.user (h.below (by omega) hb) A2 n2 c2 k2.user (h2.below (by omega) hb) b hh
  obtain ⟨x, hx⟩ : ∃ x, (k.user == k2.user) = x := ⟨_, rfl⟩
  obtain ⟨y, hy⟩ : ∃ y, ltL k.user k2.user = y := ⟨_, rfl⟩
  rw [hx, hy] at hr
  have Hx := Lib.hid hx
  have Hy := Lib.hid hy
  generalize k.seq.toNat = s at *
  generalize k.kind.toNat = d at *
  generalize k2.seq.toNat = s2 at *
  generalize k2.kind.toNat = d2 at *
  have C1 := Lib.hid c1
  have C2 := Lib.hid c2
  have Hr := Lib.hid hr
  clear c1 c2 h h2 hx hy hr
  have hbb : Below w.heap.size w ((w.alloc (.cells #[.slice A n c, .int .u64 (s : Int), .int .u8 (d : Int)] 40)).alloc (.cells #[.slice A2 n2 c2, .int .u64 (s2 : Int), .int .u8 (d2 : Int)] 40)) :=
    (((Below.refl _ _).alloc (Nat.le_refl _) _).alloc (by simp) _)
  go_enter Try.func92, Try.ntmps92
  go_wp2_with fail
  refine (C1.out _ x Hx hbb).mono ?_
  rintro e w' ⟨rfl, rfl⟩
  cases x
  · go_wp2_with fail
    refine (C2.out _ y Hy hbb).mono ?_
    rintro e w' ⟨rfl, rfl⟩
    go_wp2
    go_ret
    refine ⟨ret_bool ?_, hbb⟩
    rw [← Hr.out]
    rfl
  · obtain ⟨b1, t1⟩ : ∃ b, ((s : Int) == (s2 : Int)) = b := ⟨_, rfl⟩
    have T1 := Lib.hid t1
    cases b1
    all_goals
      go_wp2
      go_ret
      refine ⟨ret_bool ?_, hbb⟩
      rw [← Hr.out]
      have q1 := T1.out
      rw [← beq_cast s s2, q1]
      first | rfl | (simp only [Bool.not_true, Bool.not_false, Bool.false_eq_true, if_false, if_true]; rw [decide_eq_decide]; omega)
set_option maxHeartbeats 4000000 in
theorem keq_any (w : World) (A : Option Addr) (n c : Nat) (k : KeyL) (h : Sl w 1 A n c (bc k.user)) (A2 : Option Addr) (n2 c2 : Nat) (k2 : KeyL) (h2 : Sl w 1 A2 n2 c2 (bc k2.user)) :
    Calls Try.prog 93 #[.agg #[.slice A n c, .int .u64 (k.seq.toNat : Int), .int .u8 (k.kind.toNat : Int)], .agg #[.slice A2 n2 c2, .int .u64 (k2.seq.toNat : Int), .int .u8 (k2.kind.toNat : Int)]] w
      fun e w' => e = .returned (.bool (k == k2)) ∧ Below w.heap.size w w' := by
  obtain ⟨r, hr⟩ : ∃ r, (k == k2) = r := ⟨_, rfl⟩
  rw [hr]
  have hr2 : (k == k2) = ((k.user == k2.user) && (k.seq.toNat == k2.seq.toNat) && (k.kind.toNat == k2.kind.toNat)) := by
    rw [Bool.eq_iff_iff]
    cases k
    cases k2
    simp [← UInt64.toNat_inj, ← UInt8.toNat_inj, and_assoc]
  rw [hr2] at hr
  clear hr2
  have c1 := fun (w' : World) (b : Bool) (hh : Hid ((k.user == k2.user) = b)) (hb : Below w.heap.size w w') => same_is w' A n c k.user A2 n2 c2 k2.user b hh (h.below (by omega) hb) (h2.below (by omega) hb)
  obtain ⟨x, hx⟩ : ∃ x, (k.user == k2.user) = x := ⟨_, rfl⟩
  rw [hx] at hr
  have Hx := Lib.hid hx
  generalize k.seq.toNat = s at *
  generalize k.kind.toNat = d at *
  generalize k2.seq.toNat = s2 at *
  generalize k2.kind.toNat = d2 at *
  have C1 := Lib.hid c1
  have Hr := Lib.hid hr
  clear c1 h h2 hx hr
  have hbb : Below w.heap.size w ((w.alloc (.cells #[.slice A n c, .int .u64 (s : Int), .int .u8 (d : Int)] 40)).alloc (.cells #[.slice A2 n2 c2, .int .u64 (s2 : Int), .int .u8 (d2 : Int)] 40)) :=
    (((Below.refl _ _).alloc (Nat.le_refl _) _).alloc (by simp) _)
  obtain ⟨b1, t1⟩ : ∃ b, ((s : Int) == (s2 : Int)) = b := ⟨_, rfl⟩
  obtain ⟨b2, t2⟩ : ∃ b, ((d : Int) == (d2 : Int)) = b := ⟨_, rfl⟩
  have T1 := Lib.hid t1
  have T2 := Lib.hid t2
  cases x <;> cases b1 <;> cases b2
  all_goals
    go_enter Try.func93, Try.ntmps93
    go_wp2_with fail
    refine (C1.out _ _ Hx hbb).mono ?_
    rintro e w' ⟨rfl, rfl⟩
    go_wp2
    all_goals
      go_ret
      refine ⟨ret_bool ?_, hbb⟩
      rw [← Hr.out]
      have q1 := T1.out
      have q2 := T2.out
      rw [← beq_cast s s2, ← beq_cast d d2, q1, q2]
      rfl
/-- a version that a call gives back, its key in memory of its own -/
def GotKey (w : World) (k : KeyL) (e : Ending) (w' : World) : Prop :=
  ∃ (A : Option Addr) (n c : Nat), e = .returned (.agg #[.slice A n c, .int .u64 (k.seq.toNat : Int), .int .u8 (k.kind.toNat : Int)]) ∧ OwnB w' w.heap.size A n c k.user ∧ Below w.heap.size w w'
end Go.Proofs.Ytfonincdhjkacaa
