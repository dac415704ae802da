/-
  SealRef2, AtomRef in one text. No condition but sizes.
-/
import Derived.Test.YtpffieogkfndaaaGreatDoorJSealRef
import Derived.Test.YtpffieogkfndaaaGreatDoorJAtomWalk
namespace Go.Proofs.YtpffieogkfndaaaGreatDoor
set_option maxRecDepth 20000
set_option linter.unusedVariables false
set_option linter.unusedSimpArgs false
open Go.RowKit

set_option maxHeartbeats 400000 in
theorem rmask_any (w : World) (x : Nat) (hx : x < 4294967296) :
    Calls Tryz.prog 92 #[.int .u32 (x : Int)] w fun e w' => e = .returned (.int .u32 (maskL x : Nat)) ∧ w = w' := by
  go_enter Tryz.func92, Tryz.ntmps92
  go_wp2
  go_ret
  refine ⟨ret_int ?_, rfl⟩
  unfold maskL
  omega
set_option maxHeartbeats 1000000 in
theorem rclose_any (w : World) (A : Option Addr) (n c : Nat) (l : List UInt8) (h : Sl w 1 A n c (bc l)) (hn : n ≤ 4398046511104) :
    Calls Tryz.prog 50 #[.slice A n c] w (NewB w (closeL l)) := by
  have hsm := sumL_lt l
  have hml := maskL_lt (sumL l)
  go_enter Tryz.func50, Tryz.ntmps50
  go_wp2_with fail
  refine (rsum_any w A n c l h hn).mono ?_
  rintro e w1 ⟨rfl, hb1⟩
  have h1 := h.below (by omega) hb1
  go_wp2_with fail
  refine (rmask_any _ (sumL l) hsm).mono ?_
  rintro e w' ⟨rfl, rfl⟩
  go_wp2_with fail
  refine (copy_any _ A n c l h1 (by omega)).mono ?_
  rintro e w2 ⟨A2, n2, c2, rfl, ho2, hb2⟩
  generalize hs : maskL (sumL l) = s at *
  have Hs := Lib.hid hs
  clear hs
  go_wp2_with (at_builtin; refine wpList_appB _ rfl (.tmp 8) (.tmp 20) rfl w.heap.size A2 n2 c2 l rfl ?_ _ 4 4 (le4 s) rfl ?_ ?_ ?_ ?_)
  · exact (ho2.mono hb1.size).below ((Below.refl _ _).alloc (Nat.le_refl _) _)
  · refine (Own.lit _ 0 _ 4 _ _ (Nat.zero_le _) rfl (by unfold maxLen; omega) ?_).sl
    simp [bc, le4]
    omega
  · have := ho2.len'; have := h.lenb; omega
  · have := hb1.size; have := hb2.size; simp; omega
  intro A3 c3 w3 ho3 hg3 _
  go_wp2
  go_ret
  refine ⟨A3, _, c3, rfl, ?_, ?_⟩
  · unfold closeL; rw [Hs.out]; exact ho3
  · refine ((hb1.trans (hb2.mono hb1.size)).alloc (Nat.le_trans hb1.size hb2.size) _).grown hg3 ?_ ?_
    · have := hb1.size; have := hb2.size; simp; omega
    · intro k hk
      have := hb1.size
      have := (Own.lt ho2 k hk).1
      omega
set_option maxHeartbeats 1000000 in
theorem ropen_any (w : World) (A : Option Addr) (n c : Nat) (l : List UInt8) (h : Sl w 1 A n c (bc l)) (hn : n ≤ 4398046511104) :
    Calls Tryz.prog 69 #[.slice A n c] w (NewB2 w (openL l).1 (openL l).2) := by
  have hl := h.lenb
  have hc := h.capm
  have hcap := h.cap
  unfold maxLen at hc
  by_cases h4 : n < 4
  · have e1 : openL l = ([], 2) := by unfold openL; rw [if_pos (by omega)]
    rw [e1]
    clear e1 hl
    go_enter Tryz.func69, Tryz.ntmps69
    go_wp2
    go_ret2
    exact ⟨none, 0, 0, rfl, Own.nil _ _ _ _ _, Below.refl _ _⟩
  · obtain ⟨hr, hs⟩ := cutH h .i64 (n - 4 : Nat) (n - 4) rfl (by omega)
    have ec : ((n - 4 : Nat) : Int) = (n : Int) - 4 := by omega
    rw [ec] at hr
    by_cases heq : closeL (l.take (n - 4)) == l
    · have e1 : openL l = (l.take (n - 4), 0) := by unfold openL; rw [hl, if_neg (by omega), if_pos heq]
      rw [e1]
      have Heq := Lib.hid heq
      clear e1 hl heq ec
      go_enter Tryz.func69, Tryz.ntmps69
      go_wp2_with fail
      refine (rclose_any w A (n - 4) c _ hs (by omega)).mono ?_
      rintro e w1 ⟨A1, n1, c1, rfl, ho1, hb1⟩
      have h1 := h.below (by omega) hb1
      have hs1 := hs.below (by omega) hb1
      go_wp2_with fail
      refine (same_is w1 A1 n1 c1 _ A n c l true Heq ho1.sl h1).mono ?_
      rintro e w' ⟨rfl, rfl⟩
      go_wp2_with fail
      refine (copy_any w1 A (n - 4) c _ hs1 (by omega)).mono ?_
      rintro e w2 ⟨A2, n2, c2, rfl, ho2, hb2⟩
      go_wp2
      go_ret2
      exact ⟨A2, n2, c2, rfl, ho2.mono hb1.size, hb1.trans (hb2.mono hb1.size)⟩
    · have e1 : openL l = ([], 5) := by unfold openL; rw [hl, if_neg (by omega), if_neg heq]
      rw [e1]
      have Heq : Hid ((closeL (l.take (n - 4)) == l) = false) := by unfold Hid; simpa using heq
      clear e1 hl heq ec
      go_enter Tryz.func69, Tryz.ntmps69
      go_wp2_with fail
      refine (rclose_any w A (n - 4) c _ hs (by omega)).mono ?_
      rintro e w1 ⟨A1, n1, c1, rfl, ho1, hb1⟩
      have h1 := h.below (by omega) hb1
      go_wp2_with fail
      refine (same_is w1 A1 n1 c1 _ A n c l false Heq ho1.sl h1).mono ?_
      rintro e w' ⟨rfl, rfl⟩
      go_wp2
      go_ret2
      exact ⟨none, 0, 0, rfl, Own.nil _ _ _ _ _, hb1⟩
end Go.Proofs.YtpffieogkfndaaaGreatDoor

namespace Go.Proofs.YtpffieogkfndaaaGreatDoor
set_option maxRecDepth 20000
set_option linter.unusedVariables false
set_option linter.unusedSimpArgs false
open Go.RowKit

/-- how long a slice is -/
def lenOfV : Value → Nat
  | .slice _ n _ => n
  | _ => 0
theorem rnum_small (n : Nat) (w : World) (h : n < 241) : Calls Tryz.prog 52 #[.int .u64 (n : Int)] w (NewB w (numL n)) := by
  have e : numL n = [UInt8.ofNat n] := by unfold numL; rw [if_pos h]
  rw [e]
  clear e
  have hi : (n : Int) < 241 := by omega
  clear h
  go_enter Tryz.func52, Tryz.ntmps52
  go_wp2
  go_ret
  refine new_lit w _ _ 1 rfl (by unfold maxLen; omega) ?_
  simp [bc]
  omega
theorem rnum_two (n : Nat) (w : World) (h1 : 241 ≤ n) (h2 : n < 2288) : Calls Tryz.prog 52 #[.int .u64 (n : Int)] w (NewB w (numL n)) := by
  have e : numL n = [UInt8.ofNat (241 + (n - 240) / 256), UInt8.ofNat (n - 240)] := by unfold numL; rw [if_neg (by omega), if_pos h2]
  rw [e]
  clear e
  have d1 : decide ((n : Int) < 241) = false := by simp; omega
  have d2 : decide ((n : Int) < 2288) = true := by simp; omega
  go_enter Tryz.func52, Tryz.ntmps52
  go_wp2
  go_ret
  refine new_lit w _ _ 2 rfl (by unfold maxLen; omega) ?_
  simp [bc]
  omega
theorem rnum_three (n : Nat) (w : World) (h1 : 2288 ≤ n) (h2 : n < 67824) : Calls Tryz.prog 52 #[.int .u64 (n : Int)] w (NewB w (numL n)) := by
  have e : numL n = [249, UInt8.ofNat ((n - 2288) / 256), UInt8.ofNat (n - 2288)] := by unfold numL; rw [if_neg (by omega), if_neg (by omega), if_pos h2]
  rw [e]
  clear e
  have d1 : decide ((n : Int) < 241) = false := by simp; omega
  have d2 : decide ((n : Int) < 2288) = false := by simp; omega
  have d3 : decide ((n : Int) < 67824) = true := by simp; omega
  go_enter Tryz.func52, Tryz.ntmps52
  go_wp2
  go_ret
  refine new_lit w _ _ 3 rfl (by unfold maxLen; omega) ?_
  simp [bc]
  omega
set_option maxHeartbeats 1000000 in
theorem rnum_long (n : Nat) (w : World) (h1 : 67824 ≤ n) (h2 : n < 18446744073709551616) : Calls Tryz.prog 52 #[.int .u64 (n : Int)] w (NewB w (numL n)) := by
  obtain ⟨k, hk⟩ : ∃ k, nb n = k := ⟨_, rfl⟩
  have hr := nb_range n
  have e : numL n = UInt8.ofNat (247 + k) :: beK k n := by unfold numL; rw [if_neg (by omega), if_neg (by omega), if_neg (by omega), hk]
  rw [e]
  clear e
  have hlt := nb_lt h2
  have hle : 3 < k → 256 ^ (k - 1) ≤ n := fun h => by have := nb_le (n := n) (by omega); rw [hk] at this; exact this
  rw [hk] at hr hlt
  have Hk := Lib.hid hk
  have Hlt := Lib.hid hlt
  have Hle := Lib.hid hle
  clear hk hlt hle
  have d1 : decide ((n : Int) < 241) = false := by simp; omega
  have d2 : decide ((n : Int) < 2288) = false := by simp; omega
  have d3 : decide ((n : Int) < 67824) = false := by simp; omega
  have Hh2 := Lib.hid h2
  clear h1 h2
  go_enter Tryz.func52, Tryz.ntmps52
  go_wp2
  go_loopw [0, 3] (fun a b wr => ∃ (j v : Nat), Hid (v = n / 256 ^ j) ∧ j ≤ k ∧ a = .int .u64 (v : Int) ∧ Below w.heap.size w wr ∧ ∃ (A : Option Addr) (c : Nat), b = .slice A j c ∧ OwnB wr w.heap.size A j c (beK j n)) (fun _ b _ => 9 - lenOfV b)
  case atStart => exact ⟨0, n, by unfold Hid; simp, by omega, rfl, Below.refl _ _, none, 0, rfl, Own.nil _ _ _ _ _⟩
  case round =>
    obtain ⟨j, v, Hv, hj, rfl, hbr, A, c, rfl, ho⟩ := hrel
    have hvl : v < 18446744073709551616 := by rw [Hv.out]; exact Nat.lt_of_le_of_lt (Nat.div_le_self _ _) Hh2.out
    have hsz := hbr.size
    have hlit : Own (wr.alloc (.cells #[.int .u8 ((v : Int) % 256)] 5)) w.heap.size 5 1 (some ⟨wr.heap.size, 0, none⟩) 1 1 (bc [UInt8.ofNat v]) :=
      Own.lit wr _ _ 1 _ _ hsz rfl (by unfold maxLen; omega) (by simp [bc])
    have hoa : OwnB (wr.alloc (.cells #[.int .u8 ((v : Int) % 256)] 5)) w.heap.size A j c (beK j n) := Own.below ho ((Below.refl wr.heap.size wr).alloc (Nat.le_refl _) _)
    have go_on : 0 < v ∨ (v ≤ 0 ∧ j < 3) → j < k := by
      rintro (h | ⟨_, h⟩)
      · rcases Nat.lt_or_ge j k with q | q
        · exact q
        · have : n / 256 ^ j = 0 := Nat.div_eq_of_lt (Nat.lt_of_lt_of_le Hlt.out (Nat.pow_le_pow_right (by omega) q))
          have := Hv.out
          omega
      · omega
    have Hgo := Lib.hid go_on
    have Ho := Lib.hid ho
    clear go_on ho
    by_cases hc : 0 < v ∨ (v ≤ 0 ∧ j < 3)
    · have hjk := Hgo.out hc
      have hc' : 0 < v ∨ (v ≤ 0 ∧ decide ((j : Int) < 3) = true) := by
        rcases hc with hc | ⟨hc, hc3⟩
        · exact Or.inl hc
        · exact Or.inr ⟨hc, by simp; omega⟩
      clear hc
      rcases hc' with hc | ⟨hc, hc3⟩
      all_goals
        go_wp2_with (at_builtin; refine wpList_appB _ rfl (.tmp 42) (.tmp 43) rfl w.heap.size _ 1 1 [UInt8.ofNat v] rfl hlit A j c _ rfl hoa.sl ?_ ?_ ?_)
        · omega
        · simp; omega
        intro A2 c2 w2 ho2 hg2 _
        go_wp2
        go_roundw
        case rel =>
          refine ⟨j + 1, v / 256, ?_, by omega, by simp, (hbr.alloc hsz _).grown hg2 (by simp; omega) (fun q hq => (Own.lt hlit q hq).1), A2, c2, by rw [Nat.add_comm], ?_⟩
          · unfold Hid; rw [Hv.out, Nat.div_div_eq_div_mul, Nat.pow_succ]
          · have e : beK (j + 1) n = [UInt8.ofNat v] ++ beK j n := by rw [Hv.out]; rfl
            rw [e, Nat.add_comm]
            exact ho2
        case measure => simp [lenOfV]; omega
    · have hv0 : v = 0 := by omega
      subst hv0
      have hj3 : ¬ j < 3 := by omega
      have hjk : j = k := by
        rcases Nat.lt_or_ge j k with q | q
        · exfalso
          have h8 := Hle.out (by omega)
          have h9 := Hv.out
          have : 256 ^ j ≤ n := Nat.le_trans (Nat.pow_le_pow_right (by omega) (by omega)) h8
          have h10 : 1 ≤ n / 256 ^ j := (Nat.le_div_iff_mul_le (Nat.pow_pos (by omega))).2 (by omega)
          omega
        · omega
      subst hjk
      have ho := Ho.out
      have d4 : decide ((j : Int) < 3) = false := by simp; omega
      have hlit2 : Own (wr.alloc (.cells #[.int .u8 (247 + (j : Int))] 5)) w.heap.size 5 1 (some ⟨wr.heap.size, 0, none⟩) 1 1 (bc [UInt8.ofNat (247 + j)]) :=
        Own.lit wr _ _ 1 _ _ hsz rfl (by unfold maxLen; omega) (by simp [bc]; omega)
      have hoa2 : OwnB (wr.alloc (.cells #[.int .u8 (247 + (j : Int))] 5)) w.heap.size A j c (beK j n) := Own.below ho ((Below.refl wr.heap.size wr).alloc (Nat.le_refl _) _)
      clear hc hj3 hlit hoa ho
      go_wp2_with (at_builtin; refine wpList_appB _ rfl (.tmp 51) (.tmp 52) rfl w.heap.size _ 1 1 [UInt8.ofNat (247 + j)] rfl hlit2 A j c _ rfl hoa2.sl ?_ ?_ ?_)
      · omega
      · simp; omega
      intro A2 c2 w2 ho2 hg2 _
      go_wp2
      go_ret
      refine ⟨A2, _, c2, rfl, by simpa using ho2, (hbr.alloc hsz _).grown hg2 (by simp; omega) (fun q hq => (Own.lt hlit2 q hq).1)⟩
theorem rnum_any (n : Nat) (w : World) (h : n < 18446744073709551616) : Calls Tryz.prog 52 #[.int .u64 (n : Int)] w (NewB w (numL n)) := by
  rcases Nat.lt_or_ge n 241 with h1 | h1
  · exact rnum_small n w h1
  · rcases Nat.lt_or_ge n 2288 with h2 | h2
    · exact rnum_two n w h1 h2
    · rcases Nat.lt_or_ge n 67824 with h3 | h3
      · exact rnum_three n w h2 h3
      · exact rnum_long n w h3 h
end Go.Proofs.YtpffieogkfndaaaGreatDoor
