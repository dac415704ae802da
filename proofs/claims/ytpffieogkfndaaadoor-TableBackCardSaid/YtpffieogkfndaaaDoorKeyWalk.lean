/-
  What cmp.Compare, cmp.Or, ikey.Check, ikey.Compare and the reference's Check, Less, Same answer of versions. No condition.
-/
import Derived.Test.YtpffieogkfndaaaDoorJRowsL
import Derived.Test.YtpffieogkfndaaaDoorJHeldF
import Derived.StillTailTactics
import Derived.Deep.Light
namespace Go.Proofs.YtpffieogkfndaaaDoor
open Go.RowKit
theorem below_drew {B : Nat} {w w' : World} (h : Below B w w') : Below B w w'.drew := ⟨h.os, h.tape, h.output, h.size, h.block⟩
set_option maxRecDepth 20000
set_option linter.unusedVariables false
set_option linter.unusedSimpArgs false

theorem nan64 (w : World) (s : Nat) : Calls Tryd.prog 88 #[.int .u64 (s : Int)] w fun e w' => e = .returned (.bool false) ∧ w = w' := by
  go_enter Tryd.func88, Tryd.ntmps88
  go_wp2
  go_ret
  exact ⟨rfl, rfl⟩
theorem nan8 (w : World) (s : Nat) : Calls Tryd.prog 89 #[.int .u8 (s : Int)] w fun e w' => e = .returned (.bool false) ∧ w = w' := by
  go_enter Tryd.func89, Tryd.ntmps89
  go_wp2
  go_ret
  exact ⟨rfl, rfl⟩
set_option maxHeartbeats 1000000 in
theorem cmp64 (w : World) (s t : Nat) : Calls Tryd.prog 77 #[.int .u64 (s : Int), .int .u64 (t : Int)] w fun e w' => e = .returned (.int .i64 (cmpN s t)) ∧ w = w' := by
  unfold cmpN
  go_enter Tryd.func77, Tryd.ntmps77
  go_wp2_with fail
  refine (nan64 w s).mono ?_
  rintro e w' ⟨rfl, rfl⟩
  go_wp2_with fail
  refine (nan64 w t).mono ?_
  rintro e w' ⟨rfl, rfl⟩
  go_wp2
  all_goals
    go_ret
    refine ⟨ret_int ?_, rfl⟩
    repeat' split
    all_goals omega
set_option maxHeartbeats 1000000 in
theorem cmp8 (w : World) (s t : Nat) : Calls Tryd.prog 78 #[.int .u8 (s : Int), .int .u8 (t : Int)] w fun e w' => e = .returned (.int .i64 (cmpN s t)) ∧ w = w' := by
  unfold cmpN
  go_enter Tryd.func78, Tryd.ntmps78
  go_wp2_with fail
  refine (nan8 w s).mono ?_
  rintro e w' ⟨rfl, rfl⟩
  go_wp2_with fail
  refine (nan8 w t).mono ?_
  rintro e w' ⟨rfl, rfl⟩
  go_wp2
  all_goals
    go_ret
    refine ⟨ret_int ?_, rfl⟩
    repeat' split
    all_goals omega
set_option maxHeartbeats 2000000 in
theorem check_any (w : World) (A : Option Addr) (n c : Nat) (k : KeyL) (h : Sl w 1 A n c (bc k.user)) :
    Calls Tryd.prog 58 #[.agg #[.slice A n c, .int .u64 (k.seq.toNat : Int), .int .u8 (k.kind.toNat : Int)]] w fun e w' => e = .returned (.int .i64 (checkKey k : Nat)) ∧ Below w.heap.size w w' := by
  have hl := h.lenb
  obtain ⟨r, hr⟩ : ∃ r, checkKey k = r := ⟨_, rfl⟩
  rw [hr]
  unfold checkKey at hr
  rw [hl] at hr
  generalize k.seq.toNat = s at *
  generalize k.kind.toNat = d at *
  have Hr := Lib.hid hr
  clear hl h hr
  go_enter Tryd.func58, Tryd.ntmps58
  go_wp2
  all_goals
    go_ret
    refine ⟨ret_int ?_, (Below.refl _ _).alloc (Nat.le_refl _) _⟩
    rw [← Hr.out]
    go_light
    (try simp only [beq_iff_eq, bne_iff_ne, ne_eq, beq_eq_false_iff_ne, bne_eq_false_iff_eq] at *)
    (repeat' split) <;> omega
set_option maxHeartbeats 2000000 in
theorem rcheck_any (w : World) (A : Option Addr) (n c : Nat) (k : KeyL) (h : Sl w 1 A n c (bc k.user)) :
    Calls Tryd.prog 21 #[.agg #[.slice A n c, .int .u64 (k.seq.toNat : Int), .int .u8 (k.kind.toNat : Int)]] w fun e w' => e = .returned (.int .i64 (checkKey k : Nat)) ∧ Below w.heap.size w w' := by
  have hl := h.lenb
  obtain ⟨r, hr⟩ : ∃ r, checkKey k = r := ⟨_, rfl⟩
  rw [hr]
  unfold checkKey at hr
  rw [hl] at hr
  generalize k.seq.toNat = s at *
  generalize k.kind.toNat = d at *
  have Hr := Lib.hid hr
  clear hl h hr
  obtain ⟨b1, t1⟩ : ∃ b, decide ((d : Int) < 1) = b := ⟨_, rfl⟩
  obtain ⟨b2, t2⟩ : ∃ b, decide ((2 : Int) < (d : Int)) = b := ⟨_, rfl⟩
  obtain ⟨b3, t3⟩ : ∃ b, decide ((72057594037927936 : Int) ≤ (s : Int)) = b := ⟨_, rfl⟩
  cases b1 <;> cases b2 <;> cases b3
  all_goals
    go_enter Tryd.func21, Tryd.ntmps21
    go_wp2
    all_goals
      go_ret
      refine ⟨ret_int ?_, (Below.refl _ _).alloc (Nat.le_refl _) _⟩
      rw [← Hr.out]
      go_light
      (try simp only [beq_iff_eq, bne_iff_ne, ne_eq, beq_eq_false_iff_ne, bne_eq_false_iff_eq, decide_eq_true_eq, decide_eq_false_iff_not] at *)
      (repeat' split) <;> omega
/-- three numbers in a row: the first that is no nought -/
def orL (x y z : Int) : Int := if x ≠ 0 then x else if y ≠ 0 then y else z
set_option maxHeartbeats 2000000 in
theorem or_any (w : World) (x y z : Int) : Calls Tryd.prog 76 #[.slice (some ⟨w.heap.size, 0, none⟩) 3 3] (w.alloc (.cells #[.int .i64 x, .int .i64 y, .int .i64 z] 3)) fun e w' => e = .returned (.int .i64 (orL x y z)) ∧ w.alloc (.cells #[.int .i64 x, .int .i64 y, .int .i64 z] 3) = w' := by
  obtain ⟨r, hr⟩ : ∃ r, orL x y z = r := ⟨_, rfl⟩
  rw [hr]
  unfold orL at hr
  have Hr := Lib.hid hr
  clear hr
  go_enter Tryd.func76, Tryd.ntmps76
  go_wp2
  refine wp_loop_rounds 4 ?_
  repeat any_goals (rw [rounds_succ]; go_wp2)
  all_goals (go_ret; refine ⟨ret_int ?_, rfl⟩; rw [← Hr.out]; go_light; (try simp only [beq_iff_eq, bne_iff_ne, ne_eq, beq_eq_false_iff_ne, bne_eq_false_iff_eq] at *); (repeat' split) <;> omega)
theorem cmp_bytes (w : World) (A : Option Addr) (n c : Nat) (l : List UInt8) (h : Sl w 1 A n c (bc l)) (A2 : Option Addr) (n2 c2 : Nat) (m : List UInt8) (h2 : Sl w 1 A2 n2 c2 (bc m)) :
    Calls Tryd.prog 75 #[.slice A n c, .slice A2 n2 c2] w fun e w' => e = .returned (.int .i64 (Lib.compareBytes l m)) ∧ w = w' := by
  have hcall : (callFunc 87 #[.slice A n c, .slice A2 n2 c2]).run Tryd.prog w = .ok (.value (.int .i64 (Lib.compareBytes l m))) w := by
    rw [run_callFunc_extern Tryd.func87 (by kernel_rfl) (by kernel_rfl) (by kernel_rfl) (e := Extern.BytealgCompare.compare) (by kernel_rfl), run_cmp w A n c l h A2 n2 c2 m h2]
    rfl
  generalize Lib.compareBytes l m = z at *
  go_enter Tryd.func75, Tryd.ntmps75
  go_wp2
  go_ret
  exact ⟨rfl, rfl⟩
theorem orL_key (a b : KeyL) : orL (Lib.compareBytes a.user b.user) (cmpN b.seq.toNat a.seq.toNat) (cmpN b.kind.toNat a.kind.toNat) = cmpKey a b := rfl
set_option maxHeartbeats 4000000 in
theorem compare_any (w : World) (A : Option Addr) (n c : Nat) (k : KeyL) (h : Sl w 1 A n c (bc k.user)) (A2 : Option Addr) (n2 c2 : Nat) (k2 : KeyL) (h2 : Sl w 1 A2 n2 c2 (bc k2.user)) :
    Calls Tryd.prog 49 #[.agg #[.slice A n c, .int .u64 (k.seq.toNat : Int), .int .u8 (k.kind.toNat : Int)], .agg #[.slice A2 n2 c2, .int .u64 (k2.seq.toNat : Int), .int .u8 (k2.kind.toNat : Int)]] w
      fun e w' => e = .returned (.int .i64 (cmpKey k k2)) ∧ Below w.heap.size w w' := by
  rw [← orL_key]
  have c1 := fun (w' : World) (hb : Below w.heap.size w w') => cmp_bytes w' A n c k.user (h.below (by omega) hb) A2 n2 c2 k2.user (h2.below (by omega) hb)
  have c2 := fun w' => cmp64 w' k2.seq.toNat k.seq.toNat
  have c3 := fun w' => cmp8 w' k2.kind.toNat k.kind.toNat
  generalize Lib.compareBytes k.user k2.user = x at *
  generalize cmpN k2.seq.toNat k.seq.toNat = y at *
  generalize cmpN k2.kind.toNat k.kind.toNat = z at *
  generalize k.seq.toNat = s at *
  generalize k.kind.toNat = d at *
  generalize k2.seq.toNat = s2 at *
  generalize k2.kind.toNat = d2 at *
  have C1 := Lib.hid c1
  have C2 := Lib.hid c2
  have C3 := Lib.hid c3
  clear c1 c2 c3 h h2
  go_enter Tryd.func49, Tryd.ntmps49
  go_wp2_with fail
  have hbb : Below w.heap.size w ((w.alloc (.cells #[.slice A n c, .int .u64 (s : Int), .int .u8 (d : Int)] 43)).alloc (.cells #[.slice A2 n2 c2, .int .u64 (s2 : Int), .int .u8 (d2 : Int)] 43)).drew :=
    below_drew (((Below.refl _ _).alloc (Nat.le_refl _) _).alloc (by simp) _)
  refine stillTail 15 (by kernel_rfl) (by kernel_rfl) ?_
  simp only [List.take_succ_cons, List.take_zero, List.drop_succ_cons, List.drop_zero]
  iterate 4 still_step
  refine wpStill_step (fun K hK => ?_)
  go_simp
  refine ⟨_, still_of (C1.out _ hbb), hK _ ?_⟩
  clear hK K
  iterate 4 still_step
  refine wpStill_step (fun K hK => ?_)
  go_simp
  refine ⟨_, still_of (C2.out _), hK _ ?_⟩
  clear hK K
  iterate 4 still_step
  refine wpStill_step (fun K hK => ?_)
  go_simp
  refine ⟨_, still_of (C3.out _), hK _ ?_⟩
  clear hK K
  refine wpStill_nil ?_
  generalize ((w.alloc (.cells #[.slice A n c, .int .u64 (s : Int), .int .u8 (d : Int)] 43)).alloc (.cells #[.slice A2 n2 c2, .int .u64 (s2 : Int), .int .u8 (d2 : Int)] 43)).drew = w1 at *
  change wpList _ _ _ _ _ w1
  go_wp2_with fail
  refine (or_any w1 x y z).mono ?_
  rintro e w' ⟨rfl, rfl⟩
  go_wp2
  go_ret
  exact ⟨rfl, hbb.alloc hbb.size _⟩
end Go.Proofs.YtpffieogkfndaaaDoor
