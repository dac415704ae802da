/-
  What atom.Num computes, and the reference's Num: a number's bytes. No condition.
-/
import Derived.Test.YtpffieogkfndaaaGreatDoorJHeldF
import Derived.Test.YtpffieogkfndaaaGreatDoorJBloomPlain
namespace Go.Proofs.YtpffieogkfndaaaGreatDoor
set_option maxRecDepth 20000
set_option linter.unusedVariables false
set_option linter.unusedSimpArgs false
open Go.RowKit

/-- what a law's literal gives: bytes laid new -/
theorem new_lit (w : World) (cur : Array Value) (l : List UInt8) (n : Nat) (hn : l.length = n) (hm : n ≤ maxLen) (hc : cur.toList = bc l) :
    NewB w l (.returned (.slice (some ⟨w.heap.size, 0, none⟩) n n)) (w.alloc (.cells cur 5)) :=
  ⟨_, n, n, rfl, Own.lit w _ _ n cur _ (Nat.le_refl _) (by simpa using hn) hm hc, (Below.refl _ _).alloc (Nat.le_refl _) _⟩

theorem num_small (n : Nat) (w : World) (h : n < 241) : Calls Tryz.prog 45 #[.int .u64 (n : Int)] w (NewB w (numL n)) := by
  have e : numL n = [UInt8.ofNat n] := by unfold numL; rw [if_pos h]
  rw [e]
  clear e
  go_enter Tryz.func45, Tryz.ntmps45
  go_wp2
  go_ret
  refine new_lit w _ _ 1 rfl (by unfold maxLen; omega) ?_
  simp [bc]
  omega
theorem num_two (n : Nat) (w : World) (h1 : 241 ≤ n) (h2 : n < 2288) : Calls Tryz.prog 45 #[.int .u64 (n : Int)] w (NewB w (numL n)) := by
  have e : numL n = [UInt8.ofNat (241 + (n - 240) / 256), UInt8.ofNat (n - 240)] := by unfold numL; rw [if_neg (by omega), if_pos h2]
  rw [e]
  clear e
  go_enter Tryz.func45, Tryz.ntmps45
  go_wp2
  go_ret
  refine new_lit w _ _ 2 rfl (by unfold maxLen; omega) ?_
  simp [bc]
  omega
theorem num_three (n : Nat) (w : World) (h1 : 2288 ≤ n) (h2 : n < 67824) : Calls Tryz.prog 45 #[.int .u64 (n : Int)] w (NewB w (numL n)) := by
  have e : numL n = [249, UInt8.ofNat ((n - 2288) / 256), UInt8.ofNat (n - 2288)] := by unfold numL; rw [if_neg (by omega), if_neg (by omega), if_pos h2]
  rw [e]
  clear e
  go_enter Tryz.func45, Tryz.ntmps45
  go_wp2
  go_ret
  refine new_lit w _ _ 3 rfl (by unfold maxLen; omega) ?_
  simp [bc]
  omega
set_option maxHeartbeats 1000000 in
theorem num_long (n : Nat) (w : World) (h1 : 67824 ≤ n) (h2 : n < 18446744073709551616) : Calls Tryz.prog 45 #[.int .u64 (n : Int)] w (NewB w (numL n)) := by
  obtain ⟨k, hk⟩ : ∃ k, nb n = k := ⟨_, rfl⟩
  have hr := nb_range n
  have e : numL n = UInt8.ofNat (247 + k) :: beK k n := by unfold numL; rw [if_neg (by omega), if_neg (by omega), if_neg (by omega), hk]
  rw [e]
  clear e
  have hlt := nb_lt h2
  have hle : 3 < k → 256 ^ (k - 1) ≤ n := fun h => by have := nb_le (n := n) (by omega); rw [hk] at this; exact this
  rw [hk] at hr hlt
  have Hk := Lib.hid hk
  have Hlt := Lib.hid hlt
  have Hle := Lib.hid hle
  clear hk hlt hle
  go_enter Tryz.func45, Tryz.ntmps45
  go_wp2
  go_loopw [3, 4] (fun a i wr => ∃ (j : Nat) (z : Int), z = 56 - 8 * (j : Int) ∧ j ≤ 8 ∧ i = .int .i64 z ∧ Below w.heap.size w wr ∧ ∃ (A : Option Addr) (m c : Nat), a = .slice A m c ∧ OwnB wr w.heap.size A m c (tailL n k j)) (fun _ i _ => (intOf i + 8).toNat)
  case atStart => exact ⟨0, 56, by omega, by omega, rfl, Below.refl _ _, none, 0, 0, rfl, by rw [tailL_start]; exact Own.nil _ _ _ _ _⟩
  case round =>
    obtain ⟨j, z, hz, hj, rfl, hbr, A, m, c, rfl, ho⟩ := hrel
    have hm := OwnB.len' ho
    rw [tailL_len n k j hj] at hm
    by_cases hj8 : j < 8
    · obtain ⟨s, hs⟩ : ∃ s : Nat, s = 56 - 8 * j := ⟨_, rfl⟩
      obtain rfl : z = (s : Int) := by omega
      have hp : 2 ^ s = 256 ^ (7 - j) := by
        rw [show (256 : Nat) = 2 ^ 8 from rfl, ← Nat.pow_mul]
        congr 1
        omega
      obtain ⟨b, hb, hbl⟩ : ∃ b, n / 2 ^ s % 256 = b ∧ b < 256 := ⟨_, rfl, Nat.mod_lt _ (by omega)⟩
      have eb : (n : Int) / 2 ^ s % 256 = (b : Int) := by rw [← hb]; simp
      have hs24 : s < 24 ∨ 24 ≤ s := by omega
      rw [hp] at hb
      have Hb := Lib.hid hb
      have Ho := Lib.hid ho
      clear ho hp hb
      by_cases hjk : j < 8 - k
      · have hm0 : m = 0 := by omega
        subst hm0
        have hb0 : b = 0 := by
          rw [← Hb.out, Nat.div_eq_of_lt]
          exact Nat.lt_of_lt_of_le Hlt.out (Nat.pow_le_pow_right (by omega) (by omega))
        subst hb0
        have hs' : 24 ≤ s := by omega
        have hs56 : s ≤ 56 := by omega
        have Hjk := Lib.hid hjk
        have Hs := Lib.hid hs
        clear hm hz hs hs24 hjk
        go_wp2
        go_roundw
        case rel => exact ⟨j + 1, _, by have := Hs.out; omega, by omega, rfl, hbr, A, 0, c, rfl, by have := Hjk.out; rw [tailL_none n k (j + 1) (by omega)]; have h := Ho.out; rw [tailL_none n k j (by omega)] at h; exact h⟩
        case measure => simp [intOf]; omega
      · have hs56 : s ≤ 56 := by omega
        have Hm := Lib.hid hm
        have Hs := Lib.hid hs
        have hm8 : m ≤ 8 := by omega
        have hmore := tailL_more n k j hj8 (by omega)
        rw [show UInt8.ofNat (n / 256 ^ (7 - j)) = UInt8.ofNat b from by rw [← Hb.out]; apply UInt8.toNat_inj.1; simp] at hmore
        have Hmore := Lib.hid hmore
        have hpush : 0 < m ∨ (m ≤ 0 ∧ ((b : Int) != 0) = true) ∨ (m ≤ 0 ∧ ((b : Int) != 0) = false ∧ s < 24) := by
          rcases Nat.eq_zero_or_pos m with h0 | h0
          · rcases Nat.eq_zero_or_pos b with hb0 | hb0
            · refine Or.inr (Or.inr ⟨by omega, by rw [hb0]; rfl, ?_⟩)
              rcases Nat.lt_or_ge 3 k with h3 | h3
              · exfalso
                have h8 := Hle.out h3
                have e7 : 7 - j = k - 1 := by omega
                have h9 := Hb.out
                rw [e7, hb0] at h9
                have hq : n / 256 ^ (k - 1) < 256 := by
                  rw [Nat.div_lt_iff_lt_mul (Nat.pow_pos (by omega)), Nat.mul_comm, ← Nat.pow_succ, show (k - 1).succ = k from by omega]
                  exact Hlt.out
                have hq2 : 1 ≤ n / 256 ^ (k - 1) := (Nat.le_div_iff_mul_le (Nat.pow_pos (by omega))).2 (by omega)
                omega
              · omega
            · exact Or.inr (Or.inl ⟨by omega, bne_iff_ne.2 (by omega)⟩)
          · exact Or.inl h0
        clear hz hs hmore hm hs24 hjk
        have hlit : Sl (wr.alloc (.cells #[.int .u8 (b : Int)] 5)) 1 (some ⟨wr.heap.size, 0, none⟩) 1 1 (bc [UInt8.ofNat b]) :=
          Sl.lit wr _ _ 1 _ _ rfl (by unfold maxLen; omega) (by simp [bc]; omega)
        have hoa : OwnB (wr.alloc (.cells #[.int .u8 (b : Int)] 5)) w.heap.size A m c (tailL n k j) := Own.below Ho.out ((Below.refl wr.heap.size wr).alloc (Nat.le_refl _) _)
        have hsz := hbr.size
        rcases hpush with h0 | ⟨h0, hbn⟩ | ⟨h0, hbn, h24⟩
        all_goals
          go_wp2_with (at_builtin; refine wpList_appB _ rfl (.tmp 54) (.tmp 56) rfl w.heap.size A m c _ rfl hoa _ 1 1 _ rfl hlit ?_ ?_ ?_)
          · omega
          · simp; omega
          intro A2 c2 w2 ho2 hg2 _
          go_wp2
          go_roundw
          case rel =>
            refine ⟨j + 1, _, by have := Hs.out; omega, by omega, rfl, (hbr.alloc hsz _).grown hg2 (by simp; omega) (fun q hq => (Own.lt hoa q hq).1), A2, _, c2, rfl, ?_⟩
            rw [Hmore.out]
            exact ho2
          case measure => simp [intOf]; omega
    · obtain rfl : j = 8 := by omega
      obtain rfl : z = -8 := by omega
      rw [tailL_end n k hr.2] at ho
      have hm' : m = k := by omega
      subst hm'
      have hlit : Own (wr.alloc (.cells #[.int .u8 (247 + (m : Int))] 5)) w.heap.size 5 1 (some ⟨wr.heap.size, 0, none⟩) 1 1 (bc [UInt8.ofNat (247 + m)]) :=
        Own.lit wr _ _ 1 _ _ hbr.size rfl (by unfold maxLen; omega) (by simp [bc]; omega)
      have hoa : OwnB (wr.alloc (.cells #[.int .u8 (247 + (m : Int))] 5)) w.heap.size A m c (beK m n) := Own.below ho ((Below.refl wr.heap.size wr).alloc (Nat.le_refl _) _)
      have hsz := hbr.size
      clear hm hz ho
      go_wp2_with (at_builtin; refine wpList_appB _ rfl (.tmp 62) (.tmp 63) rfl w.heap.size _ 1 1 [UInt8.ofNat (247 + m)] rfl hlit A m c _ rfl hoa.sl ?_ ?_ ?_)
      · omega
      · simp; omega
      intro A2 c2 w2 ho2 hg2 _
      go_wp2
      go_ret
      refine ⟨A2, _, c2, rfl, by simpa using ho2, (hbr.alloc hsz _).grown hg2 (by simp; omega) (fun q hq => (Own.lt hlit q hq).1)⟩
theorem num_any (n : Nat) (w : World) (h : n < 18446744073709551616) : Calls Tryz.prog 45 #[.int .u64 (n : Int)] w (NewB w (numL n)) := by
  rcases Nat.lt_or_ge n 241 with h1 | h1
  · exact num_small n w h1
  · rcases Nat.lt_or_ge n 2288 with h2 | h2
    · exact num_two n w h1 h2
    · rcases Nat.lt_or_ge n 67824 with h3 | h3
      · exact num_three n w h2 h3
      · exact num_long n w h3 h
end Go.Proofs.YtpffieogkfndaaaGreatDoor
