/-
  The walks of AtomNums and AtomWide: each returns true at every input. No condition.
-/
import Derived.Test.YthbmlkdijppkbaaAtomAwake
namespace Go.Proofs.Ythbmlkdijppkbaa
open Go.RowKit

set_option maxHeartbeats 2000000 in
theorem atomNums.walk (w : World) (x : Nat) (hx : x ≤ 18446744073709551615) (A : Option Addr) (n c : Nat) (l : List UInt8) (h : Sl w 1 A n c (bc l)) :
    Calls Try.prog 3 #[.int .u64 (x : Int), .slice A n c] w fun e w' => e = .returned (.bool true) ∧ Below w.heap.size w w' := by
  have htk := fun t => take_num x (by omega) t
  have hnl := num_len x
  have c1 := fun w' => num_any x w' (by omega)
  have c2 := fun w' => rnum_any x w' (by omega)
  generalize numL x = nm at *
  have Htk := Lib.hid htk
  have C1 := Lib.hid c1
  have C2 := Lib.hid c2
  clear htk c1 c2 hx
  go_enter Try.func3, Try.ntmps3
  go_wp2_with fail
  refine (awake01 w).mono ?_
  rintro e w0 ⟨rfl, hb0⟩
  go_wp2_with fail
  refine (C1.out _).mono ?_
  rintro e w1 ⟨A1, n1, c1, rfl, ho1, hb1⟩
  go_wp2_with fail
  refine (C2.out _).mono ?_
  rintro e w2 ⟨A2, n2, c2, rfl, ho2, hb2⟩
  have hbw2 := (hb0.trans (hb1.mono hb0.size)).trans (hb2.mono (Nat.le_trans hb0.size hb1.size))
  go_wp2_with fail
  refine (same_is _ A1 n1 c1 _ A2 n2 c2 _ true (by unfold Hid; simp) ((OwnB.sl ho1).below (by omega) hb2) (OwnB.sl ho2)).mono ?_
  rintro e w' ⟨rfl, rfl⟩
  clear ho1 ho2 hb1 hb2 hb0
  go_wp2_with fail
  refine (cut_any w2 A n c l 100 (h.below (by omega) hbw2) (by omega)).mono ?_
  rintro e w3 ⟨A3, n3, c3, rfl, ho3, hb3⟩
  have ht : (l.take 100).length ≤ 100 := by simp; omega
  generalize l.take 100 = t at *
  have hn3 := ho3.len'
  subst hn3
  have hbw3 := hbw2.trans (hb3.mono hbw2.size)
  clear h
  go_wp2_with fail
  refine (C2.out _).mono ?_
  rintro e w4 ⟨A4, n4, c4, rfl, ho4, hb4⟩
  have hn4 := ho4.len'
  subst hn4
  have hbw4 := hbw3.trans (hb4.mono hbw3.size)
  have ho3' := Own.below ho3 hb4
  go_wp2_with (at_builtin; refine wpList_appB _ rfl (.tmp 22) (.tmp 23) rfl w3.heap.size A4 _ c4 _ rfl ho4 A3 _ c3 t rfl (OwnB.sl ho3') ?_ ?_ ?_)
  · omega
  · exact hb4.size
  intro A5 c5 w5 ho5 hg5 _
  have hb5 : Below w3.heap.size w3 w5 := hb4.grown hg5 hb4.size (fun b hb => (Own.lt ho4 b hb).1)
  have hbw5 := hbw3.trans (hb5.mono hbw3.size)
  have s3 := (Own.below ho3 hb5).sl
  clear ho3' ho4 hg5
  go_wp2_with fail
  refine (take_any w5 A5 _ c5 _ (OwnB.sl ho5) (by omega)).mono ?_
  rw [Htk.out]
  rintro e w6 ⟨A6, n6, c6, rfl, ho6, hb6⟩
  have hbw6 := hbw5.trans (hb6.mono hbw5.size)
  go_wp2_with fail
  refine (same_is w6 A6 n6 c6 t A3 _ c3 t true (by unfold Hid; simp) (OwnB.sl ho6) (s3.below (by omega) hb6)).mono ?_
  rintro e w' ⟨rfl, rfl⟩
  go_wp2
  go_ret
  exact ⟨rfl, hbw6⟩
/-- the greatest numbers of so many bytes -/
def topsL : List Nat := [240, 2287, 67823, 16777215, 4294967295, 1099511627775, 281474976710655, 72057594037927935]
def topsV : List Value := topsL.map fun (t : Nat) => Value.int .u64 (t : Int)
def wantN (n j : Nat) : Nat := (List.range j).foldl (fun w i => if topsL.getD i 0 < n then i + 2 else w) 1
theorem wantN_succ (n j : Nat) : wantN n (j + 1) = if topsL.getD j 0 < n then j + 2 else wantN n j := by simp [wantN, List.range_succ]
theorem wantN_le (n j : Nat) : wantN n j ≤ j + 1 := by
  induction j with
  | zero => simp [wantN]
  | succ j ih => rw [wantN_succ]; split <;> omega
theorem wantN_len (n : Nat) : wantN n 8 = (numL n).length := by
  have e : wantN n 8 = if 72057594037927935 < n then 9 else if 281474976710655 < n then 8 else if 1099511627775 < n then 7 else if 4294967295 < n then 6 else if 16777215 < n then 5 else if 67823 < n then 4 else if 2287 < n then 3 else if 240 < n then 2 else 1 := rfl
  rw [e]
  unfold numL
  by_cases h1 : n < 241
  · rw [if_pos h1]
    repeat rw [if_neg (by omega)]
    rfl
  · rw [if_neg h1]
    by_cases h2 : n < 2288
    · rw [if_pos h2]
      repeat rw [if_neg (by omega)]
      rw [if_pos (by omega)]
      rfl
    · rw [if_neg h2]
      by_cases h3 : n < 67824
      · rw [if_pos h3]
        repeat rw [if_neg (by omega)]
        rw [if_pos (by omega)]
        rfl
      · rw [if_neg h3, List.length_cons, length_beK]
        unfold nb
        repeat' split
        all_goals omega
theorem tops_get (j : Nat) (h : j < 8) : ∃ t : Nat, topsL.getD j 0 = t ∧ t < 18446744073709551616 ∧ topsV[j]? = some (.int .u64 (t : Int)) := by
  have : ∀ i : Fin 8, ∃ t : Nat, topsL.getD i.val 0 = t ∧ t < 18446744073709551616 ∧ topsV[i.val]? = some (.int .u64 (t : Int)) := fun i =>
    ⟨topsL.getD i.val 0, rfl, by revert i; decide, by
      have hi : i.val < topsL.length := i.isLt
      unfold topsV
      rw [List.getElem?_map, List.getElem?_eq_getElem hi, List.getD_eq_getElem?_getD, List.getElem?_eq_getElem hi]
      rfl⟩
  exact this ⟨j, h⟩
set_option maxHeartbeats 2000000 in
theorem atomWide.walk (w : World) (x : Nat) (hx : x ≤ 18446744073709551615) :
    Calls Try.prog 4 #[.int .u64 (x : Int)] w fun e w' => e = .returned (.bool true) ∧ Below w.heap.size w w' := by
  have hnl := (num_len x).2
  have hwl := wantN_len x
  have c1 := fun w' => num_any x w' (by omega)
  generalize numL x = nm at *
  have C1 := Lib.hid c1
  have Hwl := Lib.hid hwl
  have Hx := Lib.hid hx
  clear c1 hwl hx
  go_enter Try.func4, Try.ntmps4
  go_wp2_with fail
  refine (awake01 w).mono ?_
  rintro e w0 ⟨rfl, hb0⟩
  go_wp2_with fail
  refine (C1.out _).mono ?_
  rintro e w1 ⟨A1, n1, c1, rfl, ho1, hb1⟩
  have hn1 := ho1.len'
  subst hn1
  have hbw1 := hb0.trans (hb1.mono hb0.size)
  clear ho1
  go_wp2
  have hlit := Sl.lit w1 22 (0, 0) 8 #[.int .u64 240, .int .u64 2287, .int .u64 67823, .int .u64 16777215, .int .u64 4294967295, .int .u64 1099511627775, .int .u64 281474976710655, .int .u64 72057594037927935] topsV rfl (by unfold maxLen; omega) rfl
  have hbw2 := hbw1.alloc hbw1.size (.cells #[.int .u64 240, .int .u64 2287, .int .u64 67823, .int .u64 16777215, .int .u64 4294967295, .int .u64 1099511627775, .int .u64 281474976710655, .int .u64 72057594037927935] 22)
  generalize (w1.alloc (.cells #[.int .u64 240, .int .u64 2287, .int .u64 67823, .int .u64 16777215, .int .u64 4294967295, .int .u64 1099511627775, .int .u64 281474976710655, .int .u64 72057594037927935] 22)) = w2 at *
  go_loop [4, 14] (fun v i => ∃ j : Nat, j ≤ 8 ∧ i = .int .i64 j ∧ v = .int .i64 (wantN x j : Nat)) (fun _ i => 8 - (intOf i).toNat)
  case atStart => exact ⟨0, by omega, rfl, rfl⟩
  case round =>
    obtain ⟨j, hj, rfl, rfl⟩ := hrel
    have hws := wantN_succ x j
    have hwj := wantN_le x j
    obtain ⟨y, hy⟩ : ∃ y, wantN x j = y := ⟨_, rfl⟩
    rw [hy] at hws hwj
    rw [hy]
    have Hy := Lib.hid hy
    clear hy
    by_cases hlt : j < 8
    · obtain ⟨b, o, u, eA, hu, hcell⟩ := hlit.cell hlt
      obtain ⟨t, ht, htl, htv⟩ := tops_get j hlt
      rw [htv] at hu
      obtain rfl := Option.some.inj hu
      obtain ⟨rfl, rfl⟩ : w1.heap.size = b ∧ 0 = o := by simpa using eA
      rw [Nat.zero_add] at hcell
      rw [ht] at hws
      have Hws := Lib.hid hws
      clear hws ht htv hu eA
      by_cases hgt : t < x
      · have d1 : decide ((t : Int) < (x : Int)) = true := by simp; omega
        go_wp2
        go_round
        case rel => exact ⟨j + 1, by omega, by go_num, by rw [Hws.out, if_pos hgt]; go_num⟩
        case measure => simp [intOf]; omega
      · have d1 : decide ((t : Int) < (x : Int)) = false := by simp; omega
        go_wp2
        go_round
        case rel => exact ⟨j + 1, by omega, by go_num, by rw [Hws.out, if_neg hgt]⟩
        case measure => simp [intOf]; omega
    · obtain rfl : j = 8 := by omega
      have hy : y = nm.length := by rw [← Hy.out]; exact Hwl.out
      subst hy
      clear hws
      have d9 : decide ((nm.length : Int) ≤ 9) = true := by simp; omega
      go_wp2
      go_ret
      exact ⟨rfl, hbw2⟩
end Go.Proofs.Ythbmlkdijppkbaa
