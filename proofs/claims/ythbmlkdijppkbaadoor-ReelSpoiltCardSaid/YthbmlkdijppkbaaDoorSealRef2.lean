/-
  What the reference of the seal computes, walked once: mask, seal, and opening. No condition but sizes.
-/
import Derived.Test.YthbmlkdijppkbaaDoorSealRef
namespace Go.Proofs.YthbmlkdijppkbaaDoor
open Go.RowKit

set_option maxHeartbeats 400000 in
theorem rmask_any (w : World) (x : Nat) (hx : x < 4294967296) :
    Calls Tryd.prog 26 #[.int .u32 (x : Int)] w fun e w' => e = .returned (.int .u32 (maskL x : Nat)) ∧ w = w' := by
  go_enter Tryd.func26, Tryd.ntmps26
  go_wp2
  go_ret
  refine ⟨ret_int ?_, rfl⟩
  unfold maskL
  omega
set_option maxHeartbeats 1000000 in
theorem rclose_any (w : World) (A : Option Addr) (n c : Nat) (l : List UInt8) (h : Sl w 1 A n c (bc l)) (hn : n ≤ 4398046511104) :
    Calls Tryd.prog 31 #[.slice A n c] w (NewB w (closeL l)) := by
  have hsm := sumL_lt l
  have hml := maskL_lt (sumL l)
  go_enter Tryd.func31, Tryd.ntmps31
  go_wp2_with fail
  refine (rsum_any w A n c l h hn).mono ?_
  rintro e w1 ⟨rfl, hb1⟩
  have h1 := h.below (by omega) hb1
  go_wp2_with fail
  refine (rmask_any _ (sumL l) hsm).mono ?_
  rintro e w' ⟨rfl, rfl⟩
  go_wp2_with fail
  refine (copy_any _ A n c l h1 (by omega)).mono ?_
  rintro e w2 ⟨A2, n2, c2, rfl, ho2, hb2⟩
  generalize hs : maskL (sumL l) = s at *
  have Hs := Lib.hid hs
  clear hs
  go_wp2_with (at_builtin; refine wpList_appB _ rfl (.tmp 8) (.tmp 20) rfl w.heap.size A2 n2 c2 l rfl ?_ _ 4 4 (le4 s) rfl ?_ ?_ ?_ ?_)
  · exact (ho2.mono hb1.size).below ((Below.refl _ _).alloc (Nat.le_refl _) _)
  · refine (Own.lit _ 0 _ 4 _ _ (Nat.zero_le _) rfl (by unfold maxLen; omega) ?_).sl
    simp [bc, le4]
    omega
  · have := ho2.len'; have := h.lenb; omega
  · have := hb1.size; have := hb2.size; simp; omega
  intro A3 c3 w3 ho3 hg3 _
  go_wp2
  go_ret
  refine ⟨A3, _, c3, rfl, ?_, ?_⟩
  · unfold closeL; rw [Hs.out]; exact ho3
  · refine ((hb1.trans (hb2.mono hb1.size)).alloc (Nat.le_trans hb1.size hb2.size) _).grown hg3 ?_ ?_
    · have := hb1.size; have := hb2.size; simp; omega
    · intro k hk
      have := hb1.size
      have := (Own.lt ho2 k hk).1
      omega
set_option maxHeartbeats 1000000 in
theorem ropen_any (w : World) (A : Option Addr) (n c : Nat) (l : List UInt8) (h : Sl w 1 A n c (bc l)) (hn : n ≤ 4398046511104) :
    Calls Tryd.prog 32 #[.slice A n c] w (NewB2 w (openL l).1 (openL l).2) := by
  have hl := h.lenb
  have hc := h.capm
  have hcap := h.cap
  unfold maxLen at hc
  by_cases h4 : n < 4
  · have e1 : openL l = ([], 2) := by unfold openL; rw [if_pos (by omega)]
    rw [e1]
    clear e1 hl
    go_enter Tryd.func32, Tryd.ntmps32
    go_wp2
    go_ret2
    exact ⟨none, 0, 0, rfl, Own.nil _ _ _ _ _, Below.refl _ _⟩
  · obtain ⟨hr, hs⟩ := cutH h .i64 (n - 4 : Nat) (n - 4) rfl (by omega)
    have ec : ((n - 4 : Nat) : Int) = (n : Int) - 4 := by omega
    rw [ec] at hr
    by_cases heq : closeL (l.take (n - 4)) == l
    · have e1 : openL l = (l.take (n - 4), 0) := by unfold openL; rw [hl, if_neg (by omega), if_pos heq]
      rw [e1]
      have Heq := Lib.hid heq
      clear e1 hl heq ec
      go_enter Tryd.func32, Tryd.ntmps32
      go_wp2_with fail
      refine (rclose_any w A (n - 4) c _ hs (by omega)).mono ?_
      rintro e w1 ⟨A1, n1, c1, rfl, ho1, hb1⟩
      have h1 := h.below (by omega) hb1
      have hs1 := hs.below (by omega) hb1
      go_wp2_with fail
      refine (same_is w1 A1 n1 c1 _ A n c l true Heq ho1.sl h1).mono ?_
      rintro e w' ⟨rfl, rfl⟩
      go_wp2_with fail
      refine (copy_any w1 A (n - 4) c _ hs1 (by omega)).mono ?_
      rintro e w2 ⟨A2, n2, c2, rfl, ho2, hb2⟩
      go_wp2
      go_ret2
      exact ⟨A2, n2, c2, rfl, ho2.mono hb1.size, hb1.trans (hb2.mono hb1.size)⟩
    · have e1 : openL l = ([], 5) := by unfold openL; rw [hl, if_neg (by omega), if_neg heq]
      rw [e1]
      have Heq : Hid ((closeL (l.take (n - 4)) == l) = false) := by unfold Hid; simpa using heq
      clear e1 hl heq ec
      go_enter Tryd.func32, Tryd.ntmps32
      go_wp2_with fail
      refine (rclose_any w A (n - 4) c _ hs (by omega)).mono ?_
      rintro e w1 ⟨A1, n1, c1, rfl, ho1, hb1⟩
      have h1 := h.below (by omega) hb1
      go_wp2_with fail
      refine (same_is w1 A1 n1 c1 _ A n c l false Heq ho1.sl h1).mono ?_
      rintro e w' ⟨rfl, rfl⟩
      go_wp2
      go_ret2
      exact ⟨none, 0, 0, rfl, Own.nil _ _ _ _ _, hb1⟩
end Go.Proofs.YthbmlkdijppkbaaDoor
