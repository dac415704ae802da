/-
  The walk of BatchBytes: it returns true at every input. (Printed by genbatchlaws2.py.) No condition.
-/
import Derived.Test.YtfonincdhjkacaaBatchLaws1
import Derived.Test.YtfonincdhjkacaaBatchBytesR
import Derived.Test.YtfonincdhjkacaaBatchCopy
import Derived.Test.YtfonincdhjkacaaBatchSame
import Derived.Test.YtfonincdhjkacaaBatchReadX
namespace Go.Proofs.Ytfonincdhjkacaa
open Go.RowKit
set_option maxRecDepth 20000
theorem sameops_is (w : World) (p : Nat → Prop) (A : Option Addr) (n c : Nat) (ls : List OpL) (h : SlR w p A n c ls) (p' : Nat → Prop) (A' : Option Addr) (n' c' : Nat) (h' : SlR w p' A' n' c' ls) :
    Calls Try.prog 40 #[.slice A n c, .slice A' n' c'] w fun e w' => e = .returned (.bool true) ∧ Below w.heap.size w w' := by
  have := rsameops_any w p A n c ls h p' A' n' c' ls h'
  simpa using this
set_option maxHeartbeats 8000000 in
theorem batchBytes.walk (w : World) (A : Option Addr) (n c : Nat) (ls : List OpL) (h : SlR w (fun _ => True) A n c ls) :
    Calls Try.prog 10 #[.slice A n c] w fun e w' => e = .returned (.bool true) ∧ Below w.heap.size w w' := by
  have hq0 := Below.refl w.heap.size w
  go_enter Try.func10, Try.ntmps10
  go_wp2_with fail
  refine (awake04 w).mono ?_
  rintro e w_1 ⟨rfl, hb_1⟩
  have h := h.below hb_1
  have hq0 := hq0.trans (hb_1.mono hq0.size)
  clear hb_1
  go_wp2_with fail
  refine (fewops_any w_1 _ A n c ls 70 h (by omega)).mono ?_
  rintro e w_2 ⟨A2, n2, c2, rfl, ho2, hb_2⟩
  have h := h.below hb_2
  have hq0 := hq0.trans (hb_2.mono hq0.size)
  clear hb_2
  have s2 := ho2.sl
  have hfb := few_bounds ls 70
  generalize fewOps ls 70 = fs at *
  clear h
  clear ho2
  go_wp2_with fail
  refine (rcopyops_any w_2 _ A2 n2 c2 fs s2 (by omega) (fun o ho => by have := hfb.2 o ho; omega)).mono ?_
  rintro e w_3 ⟨A3, n3, c3, rfl, ho3, hb_3⟩
  have hq0 := hq0.trans (hb_3.mono hq0.size)
  have s2 := s2.below hb_3
  clear hb_3
  have s3 := ho3.sl
  clear ho3
  have hrd : (opsBE fs).2 = 0 → readOpsL (opsBE fs).1 = some fs ∧ (opsBE fs).1.length ≤ 100000 := by
    intro e
    unfold opsBE at e ⊢
    split at e
    · rename_i hc
      rw [if_pos hc]
      refine ⟨(readOps_iff _ _).2 ⟨hc, rfl⟩, ?_⟩
      have hb := checkOps_bounds hc
      have h1 := opFlat_le fs hb.2
      have h2 := numL_le fs.length
      simp only [opsBytesL, List.length_append]
      omega
    · rename_i hc
      exact absurd e hc
  have cb := fun w' A n c (h : SlR w' (fun _ => True) A n c fs) => bbytes_any w' _ A n c fs h
  have cr := fun w' A n c (h : SlR w' (fun _ => True) A n c fs) => rbytes_any w' _ A n c fs h
  generalize (opsBE fs).1 = pb at *
  generalize (opsBE fs).2 = q at *
  unfold GotBE at cb cr
  have Hrd := Lib.hid hrd
  have Cb := Lib.hid cb
  have Cr := Lib.hid cr
  clear hrd cb cr hfb
  go_wp2_with fail
  refine (Cb.out _ A3 n3 c3 s3).mono ?_
  rintro e w_4 ⟨A4, n4, c4, rfl, ho4, hb_4⟩
  have hq0 := hq0.trans (hb_4.mono hq0.size)
  have s2 := s2.below hb_4
  have s3 := s3.below hb_4
  clear hb_4
  have hn4 := OwnB.len' (l := pb) ho4
  have s4 := OwnB.sl (l := pb) ho4
  clear ho4
  go_wp2_with fail
  refine (Cr.out _ A2 n2 c2 s2).mono ?_
  rintro e w_5 ⟨A5, n5, c5, rfl, ho5, hb_5⟩
  have hq0 := hq0.trans (hb_5.mono hq0.size)
  have s2 := s2.below hb_5
  have s3 := s3.below hb_5
  have s4 := s4.below (by omega) hb_5
  clear hb_5
  have s5 := OwnB.sl (l := pb) ho5
  clear ho5
  have hsame : Hid ((pb == pb) = true) := by unfold Hid; simp
  have hqq : ((q : Int) != (q : Int)) = false := by simp
  have hqq' : ((q : Int) == (q : Int)) = true := by simp
  go_wp2_with fail
  refine (same_is w_5 A4 n4 c4 _ A5 n5 c5 _ true hsame s4 s5).mono ?_
  rintro e w' ⟨rfl, rfl⟩
  clear s5
  go_wp2_with fail
  refine (sameops_is w_5 _ A3 n3 c3 fs s3 _ A2 n2 c2 s2).mono ?_
  rintro e w_6 ⟨rfl, hb_6⟩
  have hq0 := hq0.trans (hb_6.mono hq0.size)
  have s2 := s2.below hb_6
  have s3 := s3.below hb_6
  have s4 := s4.below (by omega) hb_6
  clear hb_6
  clear s3
  by_cases hq : q = 0
  · subst hq
    obtain ⟨hr1, hr2⟩ := Hrd.out rfl
    have ck := bread_any w_6 A4 n4 c4 pb s4 (by omega)
    rw [hr1] at ck
    have Ck := Lib.hid ck
    clear ck hr1 hr2
    go_wp2_with fail
    refine (Ck.out).mono ?_
    rintro e w_7 ⟨A7, n7, c7, rfl, s7, hb_7⟩
    have s2 := s2.below hb_7
    have hq0 := hq0.trans (hb_7.mono hq0.size)
    clear hb_7
    have s7 : SlR w_7 (fun _ => True) A7 n7 c7 fs := s7
    go_wp2_with fail
    refine (sameops_is w_7 _ A7 n7 c7 fs s7 _ A2 n2 c2 s2).mono ?_
    rintro e w_8 ⟨rfl, hb_8⟩
    have s2 := s2.below hb_8
    have hq0 := hq0.trans (hb_8.mono hq0.size)
    have s7 := s7.below hb_8
    clear hb_8
    go_wp2
    go_ret
    exact ⟨rfl, hq0⟩
  · have hq1 : ((q : Int) == 0) = false := by rw [beq_eq_false_iff_ne]; omega
    have hq2 : ((q : Int) != 0) = true := by rw [bne_iff_ne]; omega
    clear hq
    go_wp2
    go_ret
    exact ⟨rfl, hq0⟩
end Go.Proofs.Ytfonincdhjkacaa
