/-
  What seal.Sum, Mask, Unmask and Close, Open compute, walked once. The table lies in its variable; else no condition.
-/
import Derived.Test.YthbmlkdijppkbaaDoorBytesEq
import Derived.Test.YthbmlkdijppkbaaDoorSealPlain
import Derived.Test.YthbmlkdijppkbaaDoorProg
namespace Go.Proofs.YthbmlkdijppkbaaDoor
open Go.RowKit

/-- the table lies in its variable -/
def Quarter (w : World) : Prop := ∀ i, i < 16 → w.cell? ⟨0, i, none⟩ = some (.int .u32 (quarterL.getD i 0 : Nat))

set_option maxHeartbeats 400000 in
theorem sum_any (w : World) (A : Option Addr) (n c : Nat) (vs : List Value) (ls : List (List UInt8)) (h : Sl w 1 A n c vs) (hp : PartsOf w vs ls) (hq : Quarter w) :
    Calls Tryd.prog 22 #[.slice A n c] w fun e w' => e = .returned (.int .u32 (sumL ls.flatten : Nat)) ∧ w = w' := by
  have hm := h.capm
  have hcap := h.cap
  unfold maxLen at hm
  have hlen := h.len
  have hpl := hp.1
  have Hlen : Hid (ls.length = n) := by unfold Hid; omega
  clear hlen hpl
  go_enter Tryd.func22, Tryd.ntmps22
  go_wp2
  go_loop [3, 10] (fun s i => ∃ k : Nat, k ≤ n ∧ i = .int .i64 k ∧ s = .int .u32 (crcL 4294967295 (ls.take k).flatten : Nat)) (fun _ i => n - (intOf i).toNat)
  case atStart => exact ⟨0, Nat.zero_le _, rfl, rfl⟩
  case round =>
    obtain ⟨k, hk, rfl, rfl⟩ := hrel
    by_cases hlt : k < n
    · obtain ⟨b, o, A', n', c', hkl, rfl, hcell, hsl⟩ := hp.get h hlt
      have Hn' : Hid (ls[k].length = n') := hsl.lenb
      have hm' := hsl.capm
      have hcap' := hsl.cap
      unfold maxLen at hm'
      have hs0 := crcL_lt (c := 4294967295) (by omega) (ls.take k).flatten
      generalize hz : crcL 4294967295 (ls.take k).flatten = z at *
      have Hz := Lib.hid hz
      clear hz
      go_wp2
      go_loop [3, 16] (fun s i => ∃ j : Nat, j ≤ n' ∧ i = .int .i64 j ∧ s = .int .u32 (crcL z (ls[k].take j) : Nat)) (fun _ i => n' - (intOf i).toNat)
      case atStart => exact ⟨0, Nat.zero_le _, rfl, rfl⟩
      case round =>
        obtain ⟨j, hj, rfl, rfl⟩ := hrel
        by_cases hjn : j < n'
        · have hjl : j < ls[k].length := by have := Hn'.out; omega
          obtain ⟨b', o', x, rfl, hxe, hx, hbyte⟩ := hsl.byte hjl
          have hs1 := crcL_lt hs0 (ls[k].take j)
          have Hst := crcL_snoc z (ls[k].take j) ls[k][j]
          rw [← take_snoc _ _ hjl, hxe] at Hst
          clear hxe
          generalize crcL z (ls[k].take j) = y at *
          obtain ⟨t, hte, htl⟩ : ∃ t : Nat, y ^^^ x = t ∧ t < 4294967296 := ⟨_, rfl, Nat.xor_lt_two_pow (n := 32) hs1 (by omega)⟩
          have e1 : bits .xor .u32 (y : Int) (x : Int) = (t : Int) := by rw [u32_xor_nat _ _ hs1 (by omega), hte]
          obtain ⟨t2, hte2, htl2⟩ : ∃ t2 : Nat, nib t = t2 ∧ t2 < 4294967296 := ⟨_, rfl, nib_lt htl⟩
          unfold stepB at Hst
          rw [hte, hte2] at Hst
          have HST := Lib.hid Hst
          clear Hst hte
          have e2 : bits .and .u32 (t : Int) 15 = ((t % 16 : Nat) : Int) := by rw [← nat_mask4]; exact u32_and_nat t 15 htl (by omega)
          have e3 : bits .and .u32 (t2 : Int) 15 = ((t2 % 16 : Nat) : Int) := by rw [← nat_mask4]; exact u32_and_nat t2 15 htl2 (by omega)
          have q1 := hq (t % 16) (by omega)
          have q2 := hq (t2 % 16) (by omega)
          have e4 : bits .xor .u32 ((t : Int) / 16) (quarterL.getD (t % 16) 0 : Nat) = (t2 : Int) := by
            rw [← hte2]; exact u32_xor_nat (t / 16) _ (by omega) (quarter_lt _)
          have e5 : bits .xor .u32 ((t2 : Int) / 16) (quarterL.getD (t2 % 16) 0 : Nat) = (nib t2 : Nat) := by
            exact u32_xor_nat (t2 / 16) _ (by omega) (quarter_lt _)
          clear hte2
          generalize quarterL.getD (t % 16) 0 = qa at *
          generalize quarterL.getD (t2 % 16) 0 = qb at *
          go_wp2
          go_round
          case rel => exact ⟨j + 1, by omega, by go_num, by rw [HST.out]⟩
          case measure => simp [intOf]; omega
        · obtain rfl : j = n' := by omega
          go_wp2
          go_round
          case rel => 
            refine ⟨k + 1, by omega, by go_num, ?_⟩
            rw [take_snoc _ _ hkl, List.flatten_append, crcL_append, Hz.out]
            rw [List.take_of_length_le (show ls[k].length ≤ j by have := Hn'.out; omega)]
            simp
          case measure => simp [intOf]; omega
    · obtain rfl : k = n := by omega
      go_wp2
      go_ret
      have hs := crcL_lt (c := 4294967295) (by omega) ls.flatten
      refine ⟨?_, rfl⟩
      rw [List.take_of_length_le (show ls.length ≤ k by have := Hlen.out; omega)]
      refine ret_int ?_
      unfold sumL
      rw [← xor_ones hs]
      exact u32_xor_nat 4294967295 _ (by omega) hs
set_option maxHeartbeats 400000 in
/-- bits.RotateLeft32 by -15 -/
theorem rot17 (w : World) (x : Nat) (hx : x < 4294967296) :
    Calls Tryd.prog 49 #[.int .u32 (x : Int), .int .i64 (-15)] w fun e w' => e = .returned (.int .u32 (x / 32768 + x % 32768 * 131072 : Nat)) ∧ w = w' := by
  have k1 : bits .and .u64 (IntKind.u64.wrap (-15)) 31 = 17 := by decide +kernel
  go_enter Tryd.func49, Tryd.ntmps49
  go_wp2
  go_ret
  refine ⟨ret_int ?_, rfl⟩
  have e : x / 32768 + x % 32768 * 131072 = (x % 32768 * 131072) ||| (x / 32768) := by
    rw [nat_join 17 _ _ (by omega) (by omega)]; omega
  have h := u32_or_nat (x % 32768 * 131072) (x / 32768) (by omega) (by omega)
  rw [e, ← h]
  congr 1
  omega
set_option maxHeartbeats 400000 in
/-- .. by 15 -/
theorem rot15 (w : World) (x : Nat) (hx : x < 4294967296) :
    Calls Tryd.prog 49 #[.int .u32 (x : Int), .int .i64 15] w fun e w' => e = .returned (.int .u32 (x / 131072 + x % 131072 * 32768 : Nat)) ∧ w = w' := by
  have k1 : bits .and .u64 15 31 = 15 := by decide +kernel
  go_enter Tryd.func49, Tryd.ntmps49
  go_wp2
  go_ret
  refine ⟨ret_int ?_, rfl⟩
  have e : x / 131072 + x % 131072 * 32768 = (x % 131072 * 32768) ||| (x / 131072) := by
    rw [nat_join 15 _ _ (by omega) (by omega)]; omega
  have h := u32_or_nat (x % 131072 * 32768) (x / 131072) (by omega) (by omega)
  rw [e, ← h]
  congr 1
  omega
def maskL (x : Nat) : Nat := (x / 32768 + x % 32768 * 131072 + 2726488792) % 4294967296
def unmaskL (x : Nat) : Nat := (x + 1568478504) % 4294967296 / 131072 + (x + 1568478504) % 4294967296 % 131072 * 32768
theorem maskL_lt (x : Nat) : maskL x < 4294967296 := by unfold maskL; omega
set_option maxHeartbeats 400000 in
theorem mask_any (w : World) (x : Nat) (hx : x < 4294967296) :
    Calls Tryd.prog 25 #[.int .u32 (x : Int)] w fun e w' => e = .returned (.int .u32 (maskL x : Nat)) ∧ w = w' := by
  go_enter Tryd.func25, Tryd.ntmps25
  go_wp2_with ((with_reducible refine (rot17 _ _ hx).mono ?_); rintro e w' ⟨rfl, rfl⟩)
  go_ret
  refine ⟨ret_int ?_, rfl⟩
  unfold maskL
  omega
set_option maxHeartbeats 400000 in
theorem unmask_any (w : World) (x : Nat) (_hx : x < 4294967296) :
    Calls Tryd.prog 27 #[.int .u32 (x : Int)] w fun e w' => e = .returned (.int .u32 (unmaskL x : Nat)) ∧ w = w' := by
  obtain ⟨y, hy, hyl⟩ : ∃ y : Nat, (x + 1568478504) % 4294967296 = y ∧ y < 4294967296 := ⟨_, rfl, Nat.mod_lt _ (by omega)⟩
  have e1 : IntKind.u32.wrap ((x : Int) - 2726488792) = (y : Int) := by rw [IntKind.wrap_u32]; omega
  have e2 : ((x : Int) - 2726488792) % 4294967296 = (y : Int) := by omega
  unfold unmaskL
  rw [hy]
  clear hy
  go_enter Tryd.func27, Tryd.ntmps27
  go_wp2_with ((with_reducible refine (rot15 _ y hyl).mono ?_); rintro e w' ⟨rfl, rfl⟩)
  go_ret
  exact ⟨rfl, rfl⟩
theorem Quarter.below {w w' : World} (h : Quarter w) (hb : Below w.heap.size w w') : Quarter w' := fun i hi => by
  have := h i hi
  rw [hb.cell (p := ⟨0, i, none⟩) (World.block_lt_of_cell? _ _ this)]
  exact this
/-- a number's four bytes, the least first -/
def le4 (s : Nat) : List UInt8 := [UInt8.ofNat s, UInt8.ofNat (s / 256), UInt8.ofNat (s / 65536), UInt8.ofNat (s / 16777216)]
def closeL (l : List UInt8) : List UInt8 := l ++ le4 (maskL (sumL l))
/-- one text in a list of one -/
theorem one_part (w : World) (A : Option Addr) (n c : Nat) (l : List UInt8) (h : Sl w 1 A n c (bc l)) (e : TypeId) :
    Sl (w.alloc (.cells #[.slice A n c] e)) 1 (some ⟨w.heap.size, 0, none⟩) 1 1 [.slice A n c] ∧ PartsOf (w.alloc (.cells #[.slice A n c] e)) [.slice A n c] [l] := by
  constructor
  · exact (Own.fresh w 0 e 1 1 1 #[.slice A n c] [.slice A n c] (Nat.zero_le _) (Nat.le_refl _) (by unfold maxLen; omega) rfl rfl rfl).sl
  · refine ⟨rfl, fun i v x hv hx => ?_⟩
    rcases i with _ | i
    · simp at hv hx
      subst hv
      subst hx
      exact ⟨A, n, c, rfl, h.below (by omega) ((Below.refl _ _).alloc (Nat.le_refl _) _)⟩
    · simp at hv

theorem u8i (t : Nat) : (((UInt8.ofNat t).toNat : Nat) : Int) = (t : Int) % 256 := by simp
theorem set_le4 (l : List UInt8) (n s k : Nat) (hl : l.length = n) (hk : k < 4) :
    (l ++ ((le4 s).take k ++ List.replicate (4 - k) 0)).set (n + k) (UInt8.ofNat (s / 256 ^ k)) = l ++ ((le4 s).take (k + 1) ++ List.replicate (4 - (k + 1)) 0) := by
  subst hl
  rw [List.set_append_right _ _ (by omega)]
  congr 1
  obtain rfl | rfl | rfl | rfl : k = 0 ∨ k = 1 ∨ k = 2 ∨ k = 3 := by omega
  all_goals simp [le4, List.replicate]

set_option maxHeartbeats 1000000 in
theorem close_any (w : World) (A : Option Addr) (n c : Nat) (l : List UInt8) (h : Sl w 1 A n c (bc l)) (hq : Quarter w) (hn : n ≤ 70368744177664) :
    Calls Tryd.prog 28 #[.slice A n c] w (NewB w (closeL l)) := by
  obtain ⟨p1, p2⟩ := one_part w A n c l h 24
  have hb0 := (Below.refl w.heap.size w).alloc (Nat.le_refl _) (.cells #[.slice A n c] 24)
  have hq1 := hq.below hb0
  have h1 := h.below (by omega) hb0
  have Hl : Hid (l.length = n) := h.lenb
  have hsm := sumL_lt l
  have hml := maskL_lt (sumL l)
  have hc := h.capm
  unfold maxLen at hc
  go_enter Tryd.func28, Tryd.ntmps28
  go_wp2_with (first
    | ((with_reducible refine (sum_any _ _ _ _ _ _ p1 p2 hq1).mono ?_); rintro e w' ⟨rfl, rfl⟩)
    | ((with_reducible refine (mask_any _ (sumL l) hsm).mono ?_); rintro e w' ⟨rfl, rfl⟩)
    | (at_make; refine wpList_mkB _ rfl (.tmp 12) (.tmp 12) rfl w.heap.size _ _ _ _ (n + 4) rfl rfl ?_ ?_ ?_ ?_ ?_))
  · omega
  · omega
  · omega
  · simp
  intro w1 hown hb1 hz1
  have hs1 := h1.below (by omega) (by simpa using hb1)
  go_wp2_with (with_reducible refine wpList_cpyB _ rfl (.tmp 14) (.tmp 15) rfl w.heap.size _ _ _ _ rfl hown _ n c l rfl hs1 ?_ ?_)
  · omega
  intro w2 hown2 hg2
  have hb2 : Below w.heap.size w w2 := ((hb0.trans (hb1.mono (by simp)))).grown hg2 (by omega) (by simp [blk])
  clear hg2 hb1 hs1 hown hz1 p1 p2 hq1 h1 hb0
  generalize hs : maskL (sumL l) = s at *
  have Hs := Lib.hid hs
  clear hs
  go_wp2
  go_loopw [17] (fun i wr => ∃ k : Nat, k ≤ 4 ∧ i = .int .i64 k ∧ OwnB wr w.heap.size (some ⟨w.heap.size + 1, 0, none⟩) (n + 4) (n + 4) (l ++ ((le4 s).take k ++ List.replicate (4 - k) 0)) ∧ Below w.heap.size w wr) (fun i _ => 4 - (intOf i).toNat)
  case atStart => exact ⟨0, by omega, rfl, by simpa using hown2, hb2⟩
  case round =>
    obtain ⟨k, hk, rfl, hown3, hb3⟩ := hrel
    by_cases hk4 : k < 4
    · obtain ⟨g, o, x, e1, hg, hgl, hx, hcell, hfr⟩ := hown3.place (k := n + k) (by omega)
      obtain ⟨rfl, rfl⟩ : w.heap.size + 1 = g ∧ 0 = o := by simpa using e1
      simp only [Nat.zero_add] at hcell hfr
      clear hx hg hgl e1 hown2 hb2
      have hst : Hid (∀ x : UInt8, OwnB (wr.setCell ⟨w.heap.size + 1, 0 + (n + k), none⟩ (.int .u8 (x.toNat : Int))) w.heap.size (some ⟨w.heap.size + 1, 0, none⟩) (n + 4) (n + 4) ((l ++ ((le4 s).take k ++ List.replicate (4 - k) 0)).set (n + k) x)) :=
        fun x => hown3.stored (k := n + k) (by omega) x
      clear hown3
      have hst2 : Hid (∀ x : Int, x = (s / 256 ^ k : Nat) → OwnB (wr.setCell ⟨w.heap.size + 1, n + k, none⟩ (.int .u8 (x % 256))) w.heap.size (some ⟨w.heap.size + 1, 0, none⟩) (n + 4) (n + 4) (l ++ ((le4 s).take (k + 1) ++ List.replicate (4 - (k + 1)) 0))) := by
        rintro x rfl
        have h := hst.out (UInt8.ofNat (s / 256 ^ k))
        rw [set_le4 l n s k Hl.out hk4, u8i, Nat.zero_add] at h
        exact h
      clear hst
      obtain rfl | rfl | rfl | rfl : k = 0 ∨ k = 1 ∨ k = 2 ∨ k = 3 := by omega
      · simp only [Nat.add_zero] at hcell hfr
        go_wp2
        go_roundw
        case rel => exact ⟨1, by omega, rfl, by simpa using hst2.out s (by simp), hb3.setCell (by simp) _⟩
        case measure => simp [intOf]
      · go_wp2
        go_roundw
        case rel => exact ⟨2, by omega, rfl, by simpa using hst2.out (s / 256) (by simp), hb3.setCell (by simp) _⟩
        case measure => simp [intOf]
      · go_wp2
        go_roundw
        case rel => exact ⟨3, by omega, rfl, by simpa using hst2.out (s / 65536) (by simp), hb3.setCell (by simp) _⟩
        case measure => simp [intOf]
      · go_wp2
        go_roundw
        case rel =>
          have h4 := hst2.out (s / 16777216) (by simp)
          rw [show ((s : Int) / 16777216 % 256) = (s : Int) / 16777216 from by omega] at h4
          exact ⟨4, by omega, rfl, by simpa using h4, hb3.setCell (by simp) _⟩
        case measure => simp [intOf]
    · obtain rfl : k = 4 := by omega
      go_wp2
      go_ret
      refine ⟨_, _, _, rfl, ?_, hb3⟩
      unfold closeL
      rw [Hs.out]
      simpa [le4] using hown3
/-- what a call gives back that makes bytes of its own, or none, and an error's number -/
def NewB2 (w : World) (l : List UInt8) (q : Nat) (e : Ending) (w' : World) : Prop :=
  ∃ (A : Option Addr) (n c : Nat), e = .returned (.tuple #[.slice A n c, .int .i64 (q : Int)]) ∧ OwnB w' w.heap.size A n c l ∧ Below w.heap.size w w'
def openL (l : List UInt8) : List UInt8 × Nat :=
  if l.length < 4 then ([], 2) else if closeL (l.take (l.length - 4)) == l then (l.take (l.length - 4), 0) else ([], 5)

set_option maxHeartbeats 1000000 in
theorem open_any (w : World) (A : Option Addr) (n c : Nat) (l : List UInt8) (h : Sl w 1 A n c (bc l)) (hq : Quarter w) (hn : n ≤ 70368744177664) :
    Calls Tryd.prog 29 #[.slice A n c] w (NewB2 w (openL l).1 (openL l).2) := by
  have hl := h.lenb
  have hc := h.capm
  have hcap := h.cap
  unfold maxLen at hc
  by_cases h4 : n < 4
  · have e1 : openL l = ([], 2) := by unfold openL; rw [if_pos (by omega)]
    rw [e1]
    clear e1 hl
    go_enter Tryd.func29, Tryd.ntmps29
    go_wp2
    go_ret2
    exact ⟨none, 0, 0, rfl, Own.nil _ _ _ _ _, Below.refl _ _⟩
  · obtain ⟨hr, hs⟩ := cutH h .i64 (n - 4 : Nat) (n - 4) rfl (by omega)
    have ec : ((n - 4 : Nat) : Int) = (n : Int) - 4 := by omega
    rw [ec] at hr
    by_cases heq : closeL (l.take (n - 4)) == l
    · have e1 : openL l = (l.take (n - 4), 0) := by unfold openL; rw [hl, if_neg (by omega), if_pos heq]
      rw [e1]
      have Heq := Lib.hid heq
      clear e1 hl heq ec
      go_enter Tryd.func29, Tryd.ntmps29
      go_wp2_with fail
      refine (close_any w A (n - 4) c _ hs hq (by omega)).mono ?_
      rintro e w1 ⟨A1, n1, c1, rfl, ho1, hb1⟩
      have h1 := h.below (by omega) hb1
      have hs1 := hs.below (by omega) hb1
      go_wp2_with fail
      refine (equal_is w1 A1 n1 c1 _ A n c l true Heq ho1.sl h1).mono ?_
      rintro e w' ⟨rfl, rfl⟩
      go_wp2_with fail
      refine (clone_any w1 A (n - 4) c _ hs1 (by omega)).mono ?_
      rintro e w2 ⟨A2, n2, c2, rfl, ho2, hb2⟩
      go_wp2
      go_ret2
      exact ⟨A2, n2, c2, rfl, ho2.mono hb1.size, hb1.trans (hb2.mono hb1.size)⟩
    · have e1 : openL l = ([], 5) := by unfold openL; rw [hl, if_neg (by omega), if_neg heq]
      rw [e1]
      have Heq : Hid ((closeL (l.take (n - 4)) == l) = false) := by unfold Hid; simpa using heq
      clear e1 hl heq ec
      go_enter Tryd.func29, Tryd.ntmps29
      go_wp2_with fail
      refine (close_any w A (n - 4) c _ hs hq (by omega)).mono ?_
      rintro e w1 ⟨A1, n1, c1, rfl, ho1, hb1⟩
      have h1 := h.below (by omega) hb1
      go_wp2_with fail
      refine (equal_is w1 A1 n1 c1 _ A n c l false Heq ho1.sl h1).mono ?_
      rintro e w' ⟨rfl, rfl⟩
      go_wp2
      go_ret2
      exact ⟨none, 0, 0, rfl, Own.nil _ _ _ _ _, hb1⟩
end Go.Proofs.YthbmlkdijppkbaaDoor
