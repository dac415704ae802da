/-
  The reference's Form of an entry. No condition.
-/
import Derived.Test.YtpjinmiedanebaaDoorNoteRight
namespace Go.Proofs.YtpjinmiedanebaaDoor
open Go.RowKit
set_option maxRecDepth 20000
theorem form_eq2 (x : NoteL) (n3 n4 : Nat) (h3 : x.name.length = n3) (h4 : x.ops.length = n4) : formL x =
    ((decide (checkOpsL x.ops = 0) && (!decide (72057594037927936 ≤ x.seq.toNat) && !decide (32 < n3))) && (if x.kind.toNat = 1 then !decide (x.seq.toNat = 0) && decide (n3 = 0)
      else if x.kind.toNat = 2 then decide (x.seq.toNat = 0) && !decide (n3 = 0)
      else if x.kind.toNat = 3 then (!decide (x.seq.toNat = 0) && !decide (n3 = 0)) && decide (n4 = 0)
      else if x.kind.toNat = 4 then (decide (x.seq.toNat = 0) && !decide (n3 = 0)) && decide (n4 = 0) else false)) := by
  unfold formL
  rw [h3, h4, Bool.eq_iff_iff]
  generalize x.kind.toNat = d
  generalize x.seq.toNat = s
  generalize checkOpsL x.ops = q
  repeat' split
  all_goals simp only [Bool.and_eq_true, decide_eq_true_eq, Bool.false_eq_true, and_false, false_iff, iff_false, Bool.not_eq_true', decide_eq_false_iff_not]
  all_goals omega
set_option maxHeartbeats 8000000 in
theorem rform_any (w : World) (p : Nat → Prop) (A3 : Option Addr) (n3 c3 : Nat) (A4 : Option Addr) (n4 c4 : Nat) (x : NoteL) (hs3 : Sl w 1 A3 n3 c3 (bc x.name)) (hs4 : SlR w p A4 n4 c4 x.ops) :
    Calls Tryd.prog 26 #[.agg #[.int .u8 (x.kind.toNat : Int), .int .u64 (x.seq.toNat : Int), .slice A3 n3 c3, .slice A4 n4 c4]] w fun e w' => e = .returned (.bool (formL x)) ∧ Below w.heap.size w w' := by
  rw [form_eq2 x n3 n4 hs3.lenb hs4.lenR]
  have ck := fun w' (hb : Below w.heap.size w w') => rcheckops_any w' _ A4 n4 c4 x.ops (hs4.below hb)
  generalize checkOpsL x.ops = q at *
  generalize x.kind.toNat = d at *
  generalize x.seq.toNat = s at *
  have Ck := Lib.hid ck
  clear ck hs3 hs4
  obtain ⟨b1, hb1⟩ : ∃ b, decide (72057594037927936 ≤ s) = b := ⟨_, rfl⟩
  obtain ⟨b2, hb2⟩ : ∃ b, decide (32 < n3) = b := ⟨_, rfl⟩
  obtain ⟨z3, hz3⟩ : ∃ b, decide (n3 = 0) = b := ⟨_, rfl⟩
  obtain ⟨zs, hzs⟩ : ∃ b, decide (s = 0) = b := ⟨_, rfl⟩
  obtain ⟨z4, hz4⟩ : ∃ b, decide (n4 = 0) = b := ⟨_, rfl⟩
  have i1 : decide ((72057594037927936 : Int) ≤ (s : Int)) = b1 := by rw [← hb1, decide_eq_decide]; omega
  have i2 : decide ((32 : Int) < (n3 : Int)) = b2 := by rw [← hb2, decide_eq_decide]; omega
  have j3 : ((n3 : Int) == 0) = z3 := by rw [bne_int0, hz3]
  have js : ((s : Int) == 0) = zs := by rw [bne_int0, hzs]
  have j4 : ((n4 : Int) == 0) = z4 := by rw [bne_int0, hz4]
  have k3 : ((n3 : Int) != 0) = !z3 := by rw [← j3]; rfl
  have ks : ((s : Int) != 0) = !zs := by rw [← js]; rfl
  rw [hb1, hb2, hz3, hzs, hz4]
  obtain ⟨r, hr⟩ : ∃ r, ((decide (q = 0) && (!b1 && !b2)) && (if d = 1 then !zs && z3 else if d = 2 then zs && !z3 else if d = 3 then (!zs && !z3) && z4 else if d = 4 then (zs && !z3) && z4 else false)) = r := ⟨_, rfl⟩
  rw [hr]
  have Hr := Lib.hid hr
  clear hr hb1 hb2 hz3 hzs hz4
  have kB := Bx4.fresh w (.int .u8 (d : Int)) (.int .u64 (s : Int)) (.slice A3 n3 c3) (.slice A4 n4 c4) 41
  have al := (Below.refl w.heap.size w).alloc (Nat.le_refl _) (.cells #[.int .u8 (d : Int), .int .u64 (s : Int), .slice A3 n3 c3, .slice A4 n4 c4] 41)
  obtain ⟨x0, x1, x2, x3, x4⟩ := id kB
  go_enter Tryd.func26, Tryd.ntmps26
  go_wp2_with fail
  refine (Ck.out _ al).mono ?_
  rintro e w3 ⟨rfl, hb3⟩
  have kB := kB.below hb3
  have al2 := al.trans (hb3.mono al.size)
  clear al x0 x1 x2 x3 x4 hb3
  obtain ⟨x0, x1, x2, x3, x4⟩ := id kB
  by_cases hq : q = 0
  case neg =>
    have hq1 : ((q : Int) == 0) = false := by rw [beq_eq_false_iff_ne]; omega
    have hq2 : ((q : Int) != 0) = true := by rw [bne_iff_ne]; omega
    have Hq := Lib.hid hq
    clear hq
    go_wp2
    go_ret
    exact ⟨ret_bool (by rw [← Hr.out, decide_eq_false Hq.out, Bool.false_and, Bool.false_and]), al2⟩
  subst hq
  cases b1
  case true =>
    go_wp2
    go_ret
    exact ⟨ret_bool (by rw [← Hr.out]; simp), al2⟩
  cases b2
  case true =>
    go_wp2
    go_ret
    exact ⟨ret_bool (by rw [← Hr.out]; simp), al2⟩
  rcases (show d = 1 ∨ d = 2 ∨ d = 3 ∨ d = 4 ∨ (d ≠ 1 ∧ d ≠ 2 ∧ d ≠ 3 ∧ d ≠ 4) by omega) with rfl | rfl | rfl | rfl | hd
  · rw [show ((1 : Nat) : Int) = 1 from rfl] at x0
    cases zs <;> cases z3 <;> (simp only [Bool.not_true, Bool.not_false] at k3 ks; go_wp2; go_ret; exact ⟨ret_bool (by rw [← Hr.out]; rfl), al2⟩)
  · rw [show ((2 : Nat) : Int) = 2 from rfl] at x0
    cases zs <;> cases z3 <;> (simp only [Bool.not_true, Bool.not_false] at k3 ks; go_wp2; go_ret; exact ⟨ret_bool (by rw [← Hr.out]; rfl), al2⟩)
  · rw [show ((3 : Nat) : Int) = 3 from rfl] at x0
    cases zs <;> cases z3 <;> cases z4 <;> (simp only [Bool.not_true, Bool.not_false] at k3 ks; go_wp2; go_ret; exact ⟨ret_bool (by rw [← Hr.out]; rfl), al2⟩)
  · rw [show ((4 : Nat) : Int) = 4 from rfl] at x0
    cases zs <;> cases z3 <;> cases z4 <;> (simp only [Bool.not_true, Bool.not_false] at k3 ks; go_wp2; go_ret; exact ⟨ret_bool (by rw [← Hr.out]; rfl), al2⟩)
  · obtain ⟨q1, q2, q3, q4⟩ := hd
    have e1 : ((d : Int) == 1) = false := by simp; omega
    have e2 : ((d : Int) == 2) = false := by simp; omega
    have e3 : ((d : Int) == 3) = false := by simp; omega
    have e4 : ((d : Int) == 4) = false := by simp; omega
    have hr := Hr.out
    rw [if_neg q1, if_neg q2, if_neg q3, if_neg q4, Bool.and_false] at hr
    have Hr2 := Lib.hid hr
    clear hr
    generalize (d : Int) = dz at *
    clear q1 q2 q3 q4
    go_wp2
    go_ret
    exact ⟨ret_bool Hr2.out, al2⟩
end Go.Proofs.YtpjinmiedanebaaDoor
