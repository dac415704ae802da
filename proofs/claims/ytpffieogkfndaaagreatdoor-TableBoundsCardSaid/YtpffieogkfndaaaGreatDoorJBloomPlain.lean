/-
  SealWalk, OpenR, AtomPlain, PartsCut, BloomPlain in one text. No condition but sizes.
-/
import Derived.Test.YtpffieogkfndaaaGreatDoorJZeros
import Derived.Test.YtpffieogkfndaaaGreatDoorJHeldF
import Derived.Test.YtpffieogkfndaaaGreatDoorProg
namespace Go.Proofs.YtpffieogkfndaaaGreatDoor
set_option maxRecDepth 20000
set_option linter.unusedVariables false
set_option linter.unusedSimpArgs false
open Go.RowKit

/-- the table lies in its variable -/
def Quarter (w : World) : Prop := ∀ i, i < 16 → w.cell? ⟨0, i, none⟩ = some (.int .u32 (quarterL.getD i 0 : Nat))

set_option maxHeartbeats 400000 in
theorem sum_any (w : World) (A : Option Addr) (n c : Nat) (vs : List Value) (ls : List (List UInt8)) (h : Sl w 1 A n c vs) (hp : PartsOf w vs ls) (hq : Quarter w) :
    Calls Tryz.prog 84 #[.slice A n c] w fun e w' => e = .returned (.int .u32 (sumL ls.flatten : Nat)) ∧ w = w' := by
  have hm := h.capm
  have hcap := h.cap
  unfold maxLen at hm
  have hlen := h.len
  have hpl := hp.1
  have Hlen : Hid (ls.length = n) := by unfold Hid; omega
  clear hlen hpl
  go_enter Tryz.func84, Tryz.ntmps84
  go_wp2
  go_loop [3, 10] (fun s i => ∃ k : Nat, k ≤ n ∧ i = .int .i64 k ∧ s = .int .u32 (crcL 4294967295 (ls.take k).flatten : Nat)) (fun _ i => n - (intOf i).toNat)
  case atStart => exact ⟨0, Nat.zero_le _, rfl, rfl⟩
  case round =>
    obtain ⟨k, hk, rfl, rfl⟩ := hrel
    by_cases hlt : k < n
    · obtain ⟨b, o, A', n', c', hkl, rfl, hcell, hsl⟩ := hp.get h hlt
      have Hn' : Hid (ls[k].length = n') := hsl.lenb
      have hm' := hsl.capm
      have hcap' := hsl.cap
      unfold maxLen at hm'
      have hs0 := crcL_lt (c := 4294967295) (by omega) (ls.take k).flatten
      generalize hz : crcL 4294967295 (ls.take k).flatten = z at *
      have Hz := Lib.hid hz
      clear hz
      go_wp2
      go_loop [3, 16] (fun s i => ∃ j : Nat, j ≤ n' ∧ i = .int .i64 j ∧ s = .int .u32 (crcL z (ls[k].take j) : Nat)) (fun _ i => n' - (intOf i).toNat)
      case atStart => exact ⟨0, Nat.zero_le _, rfl, rfl⟩
      case round =>
        obtain ⟨j, hj, rfl, rfl⟩ := hrel
        by_cases hjn : j < n'
        · have hjl : j < ls[k].length := by have := Hn'.out; omega
          obtain ⟨b', o', x, rfl, hxe, hx, hbyte⟩ := hsl.byte hjl
          have hs1 := crcL_lt hs0 (ls[k].take j)
          have Hst := crcL_snoc z (ls[k].take j) ls[k][j]
          rw [← take_snoc _ _ hjl, hxe] at Hst
          clear hxe
          generalize crcL z (ls[k].take j) = y at *
          obtain ⟨t, hte, htl⟩ : ∃ t : Nat, y ^^^ x = t ∧ t < 4294967296 := ⟨_, rfl, Nat.xor_lt_two_pow (n := 32) hs1 (by omega)⟩
          have e1 : bits .xor .u32 (y : Int) (x : Int) = (t : Int) := by rw [u32_xor_nat _ _ hs1 (by omega), hte]
          obtain ⟨t2, hte2, htl2⟩ : ∃ t2 : Nat, nib t = t2 ∧ t2 < 4294967296 := ⟨_, rfl, nib_lt htl⟩
          unfold stepB at Hst
          rw [hte, hte2] at Hst
          have HST := Lib.hid Hst
          clear Hst hte
          have e2 : bits .and .u32 (t : Int) 15 = ((t % 16 : Nat) : Int) := by rw [← nat_mask4]; exact u32_and_nat t 15 htl (by omega)
          have e3 : bits .and .u32 (t2 : Int) 15 = ((t2 % 16 : Nat) : Int) := by rw [← nat_mask4]; exact u32_and_nat t2 15 htl2 (by omega)
          have q1 := hq (t % 16) (by omega)
          have q2 := hq (t2 % 16) (by omega)
          have e4 : bits .xor .u32 ((t : Int) / 16) (quarterL.getD (t % 16) 0 : Nat) = (t2 : Int) := by
            rw [← hte2]; exact u32_xor_nat (t / 16) _ (by omega) (quarter_lt _)
          have e5 : bits .xor .u32 ((t2 : Int) / 16) (quarterL.getD (t2 % 16) 0 : Nat) = (nib t2 : Nat) := by
            exact u32_xor_nat (t2 / 16) _ (by omega) (quarter_lt _)
          clear hte2
          generalize quarterL.getD (t % 16) 0 = qa at *
          generalize quarterL.getD (t2 % 16) 0 = qb at *
          go_wp2
          go_round
          case rel => exact ⟨j + 1, by omega, by go_num, by rw [HST.out]⟩
          case measure => simp [intOf]; omega
        · obtain rfl : j = n' := by omega
          go_wp2
          go_round
          case rel => 
            refine ⟨k + 1, by omega, by go_num, ?_⟩
            rw [take_snoc _ _ hkl, List.flatten_append, crcL_append, Hz.out]
            rw [List.take_of_length_le (show ls[k].length ≤ j by have := Hn'.out; omega)]
            simp
          case measure => simp [intOf]; omega
    · obtain rfl : k = n := by omega
      go_wp2
      go_ret
      have hs := crcL_lt (c := 4294967295) (by omega) ls.flatten
      refine ⟨?_, rfl⟩
      rw [List.take_of_length_le (show ls.length ≤ k by have := Hlen.out; omega)]
      refine ret_int ?_
      unfold sumL
      rw [← xor_ones hs]
      exact u32_xor_nat 4294967295 _ (by omega) hs
set_option maxHeartbeats 400000 in
/-- bits.RotateLeft32 by -15 -/
theorem rot17 (w : World) (x : Nat) (hx : x < 4294967296) :
    Calls Tryz.prog 112 #[.int .u32 (x : Int), .int .i64 (-15)] w fun e w' => e = .returned (.int .u32 (x / 32768 + x % 32768 * 131072 : Nat)) ∧ w = w' := by
  have k1 : bits .and .u64 (IntKind.u64.wrap (-15)) 31 = 17 := by decide +kernel
  go_enter Tryz.func112, Tryz.ntmps112
  go_wp2
  go_ret
  refine ⟨ret_int ?_, rfl⟩
  have e : x / 32768 + x % 32768 * 131072 = (x % 32768 * 131072) ||| (x / 32768) := by
    rw [nat_join 17 _ _ (by omega) (by omega)]; omega
  have h := u32_or_nat (x % 32768 * 131072) (x / 32768) (by omega) (by omega)
  rw [e, ← h]
  congr 1
  omega
def maskL (x : Nat) : Nat := (x / 32768 + x % 32768 * 131072 + 2726488792) % 4294967296
def unmaskL (x : Nat) : Nat := (x + 1568478504) % 4294967296 / 131072 + (x + 1568478504) % 4294967296 % 131072 * 32768
theorem maskL_lt (x : Nat) : maskL x < 4294967296 := by unfold maskL; omega
set_option maxHeartbeats 400000 in
theorem mask_any (w : World) (x : Nat) (hx : x < 4294967296) :
    Calls Tryz.prog 83 #[.int .u32 (x : Int)] w fun e w' => e = .returned (.int .u32 (maskL x : Nat)) ∧ w = w' := by
  go_enter Tryz.func83, Tryz.ntmps83
  go_wp2_with ((with_reducible refine (rot17 _ _ hx).mono ?_); rintro e w' ⟨rfl, rfl⟩)
  go_ret
  refine ⟨ret_int ?_, rfl⟩
  unfold maskL
  omega
theorem Quarter.below {w w' : World} (h : Quarter w) (hb : Below w.heap.size w w') : Quarter w' := fun i hi => by
  have := h i hi
  rw [hb.cell (p := ⟨0, i, none⟩) (World.block_lt_of_cell? _ _ this)]
  exact this
/-- a number's four bytes, the least first -/
def le4 (s : Nat) : List UInt8 := [UInt8.ofNat s, UInt8.ofNat (s / 256), UInt8.ofNat (s / 65536), UInt8.ofNat (s / 16777216)]
def closeL (l : List UInt8) : List UInt8 := l ++ le4 (maskL (sumL l))
/-- one text in a list of one -/
theorem one_part (w : World) (A : Option Addr) (n c : Nat) (l : List UInt8) (h : Sl w 1 A n c (bc l)) (e : TypeId) :
    Sl (w.alloc (.cells #[.slice A n c] e)) 1 (some ⟨w.heap.size, 0, none⟩) 1 1 [.slice A n c] ∧ PartsOf (w.alloc (.cells #[.slice A n c] e)) [.slice A n c] [l] := by
  constructor
  · exact (Own.fresh w 0 e 1 1 1 #[.slice A n c] [.slice A n c] (Nat.zero_le _) (Nat.le_refl _) (by unfold maxLen; omega) rfl rfl rfl).sl
  · refine ⟨rfl, fun i v x hv hx => ?_⟩
    rcases i with _ | i
    · simp at hv hx
      subst hv
      subst hx
      exact ⟨A, n, c, rfl, h.below (by omega) ((Below.refl _ _).alloc (Nat.le_refl _) _)⟩
    · simp at hv

theorem u8i (t : Nat) : (((UInt8.ofNat t).toNat : Nat) : Int) = (t : Int) % 256 := by simp
theorem set_le4 (l : List UInt8) (n s k : Nat) (hl : l.length = n) (hk : k < 4) :
    (l ++ ((le4 s).take k ++ List.replicate (4 - k) 0)).set (n + k) (UInt8.ofNat (s / 256 ^ k)) = l ++ ((le4 s).take (k + 1) ++ List.replicate (4 - (k + 1)) 0) := by
  subst hl
  rw [List.set_append_right _ _ (by omega)]
  congr 1
  obtain rfl | rfl | rfl | rfl : k = 0 ∨ k = 1 ∨ k = 2 ∨ k = 3 := by omega
  all_goals simp [le4, List.replicate]

set_option maxHeartbeats 1000000 in
theorem close_any (w : World) (A : Option Addr) (n c : Nat) (l : List UInt8) (h : Sl w 1 A n c (bc l)) (hq : Quarter w) (hn : n ≤ 70368744177664) :
    Calls Tryz.prog 42 #[.slice A n c] w (NewB w (closeL l)) := by
  obtain ⟨p1, p2⟩ := one_part w A n c l h 29
  have hb0 := (Below.refl w.heap.size w).alloc (Nat.le_refl _) (.cells #[.slice A n c] 29)
  have hq1 := hq.below hb0
  have h1 := h.below (by omega) hb0
  have Hl : Hid (l.length = n) := h.lenb
  have hsm := sumL_lt l
  have hml := maskL_lt (sumL l)
  have hc := h.capm
  unfold maxLen at hc
  go_enter Tryz.func42, Tryz.ntmps42
  go_wp2_with (first
    | ((with_reducible refine (sum_any _ _ _ _ _ _ p1 p2 hq1).mono ?_); rintro e w' ⟨rfl, rfl⟩)
    | ((with_reducible refine (mask_any _ (sumL l) hsm).mono ?_); rintro e w' ⟨rfl, rfl⟩)
    | (at_make; refine wpList_mkB _ rfl (.tmp 12) (.tmp 12) rfl w.heap.size _ _ _ _ (n + 4) rfl rfl ?_ ?_ ?_ ?_ ?_))
  · omega
  · omega
  · omega
  · simp
  intro w1 hown hb1 hz1
  have hs1 := h1.below (by omega) (by simpa using hb1)
  go_wp2_with (with_reducible refine wpList_cpyB _ rfl (.tmp 14) (.tmp 15) rfl w.heap.size _ _ _ _ rfl hown _ n c l rfl hs1 ?_ ?_)
  · omega
  intro w2 hown2 hg2
  have hb2 : Below w.heap.size w w2 := ((hb0.trans (hb1.mono (by simp)))).grown hg2 (by omega) (by simp [blk])
  clear hg2 hb1 hs1 hown hz1 p1 p2 hq1 h1 hb0
  generalize hs : maskL (sumL l) = s at *
  have Hs := Lib.hid hs
  clear hs
  go_wp2
  go_loopw [17] (fun i wr => ∃ k : Nat, k ≤ 4 ∧ i = .int .i64 k ∧ OwnB wr w.heap.size (some ⟨w.heap.size + 1, 0, none⟩) (n + 4) (n + 4) (l ++ ((le4 s).take k ++ List.replicate (4 - k) 0)) ∧ Below w.heap.size w wr) (fun i _ => 4 - (intOf i).toNat)
  case atStart => exact ⟨0, by omega, rfl, by simpa using hown2, hb2⟩
  case round =>
    obtain ⟨k, hk, rfl, hown3, hb3⟩ := hrel
    by_cases hk4 : k < 4
    · obtain ⟨g, o, x, e1, hg, hgl, hx, hcell, hfr⟩ := hown3.place (k := n + k) (by omega)
      obtain ⟨rfl, rfl⟩ : w.heap.size + 1 = g ∧ 0 = o := by simpa using e1
      simp only [Nat.zero_add] at hcell hfr
      clear hx hg hgl e1 hown2 hb2
      have hst : Hid (∀ x : UInt8, OwnB (wr.setCell ⟨w.heap.size + 1, 0 + (n + k), none⟩ (.int .u8 (x.toNat : Int))) w.heap.size (some ⟨w.heap.size + 1, 0, none⟩) (n + 4) (n + 4) ((l ++ ((le4 s).take k ++ List.replicate (4 - k) 0)).set (n + k) x)) :=
        fun x => hown3.stored (k := n + k) (by omega) x
      clear hown3
      have hst2 : Hid (∀ x : Int, x = (s / 256 ^ k : Nat) → OwnB (wr.setCell ⟨w.heap.size + 1, n + k, none⟩ (.int .u8 (x % 256))) w.heap.size (some ⟨w.heap.size + 1, 0, none⟩) (n + 4) (n + 4) (l ++ ((le4 s).take (k + 1) ++ List.replicate (4 - (k + 1)) 0))) := by
        rintro x rfl
        have h := hst.out (UInt8.ofNat (s / 256 ^ k))
        rw [set_le4 l n s k Hl.out hk4, u8i, Nat.zero_add] at h
        exact h
      clear hst
      obtain rfl | rfl | rfl | rfl : k = 0 ∨ k = 1 ∨ k = 2 ∨ k = 3 := by omega
      · simp only [Nat.add_zero] at hcell hfr
        go_wp2
        go_roundw
        case rel => exact ⟨1, by omega, rfl, by simpa using hst2.out s (by simp), hb3.setCell (by simp) _⟩
        case measure => simp [intOf]
      · go_wp2
        go_roundw
        case rel => exact ⟨2, by omega, rfl, by simpa using hst2.out (s / 256) (by simp), hb3.setCell (by simp) _⟩
        case measure => simp [intOf]
      · go_wp2
        go_roundw
        case rel => exact ⟨3, by omega, rfl, by simpa using hst2.out (s / 65536) (by simp), hb3.setCell (by simp) _⟩
        case measure => simp [intOf]
      · go_wp2
        go_roundw
        case rel =>
          have h4 := hst2.out (s / 16777216) (by simp)
          rw [show ((s : Int) / 16777216 % 256) = (s : Int) / 16777216 from by omega] at h4
          exact ⟨4, by omega, rfl, by simpa using h4, hb3.setCell (by simp) _⟩
        case measure => simp [intOf]
    · obtain rfl : k = 4 := by omega
      go_wp2
      go_ret
      refine ⟨_, _, _, rfl, ?_, hb3⟩
      unfold closeL
      rw [Hs.out]
      simpa [le4] using hown3
/-- what a call gives back that makes bytes of its own, or none, and an error's number -/
def NewB2 (w : World) (l : List UInt8) (q : Nat) (e : Ending) (w' : World) : Prop :=
  ∃ (A : Option Addr) (n c : Nat), e = .returned (.tuple #[.slice A n c, .int .i64 (q : Int)]) ∧ OwnB w' w.heap.size A n c l ∧ Below w.heap.size w w'
def openL (l : List UInt8) : List UInt8 × Nat :=
  if l.length < 4 then ([], 2) else if closeL (l.take (l.length - 4)) == l then (l.take (l.length - 4), 0) else ([], 5)

set_option maxHeartbeats 1000000 in
theorem open_any (w : World) (A : Option Addr) (n c : Nat) (l : List UInt8) (h : Sl w 1 A n c (bc l)) (hq : Quarter w) (hn : n ≤ 70368744177664) :
    Calls Tryz.prog 62 #[.slice A n c] w (NewB2 w (openL l).1 (openL l).2) := by
  have hl := h.lenb
  have hc := h.capm
  have hcap := h.cap
  unfold maxLen at hc
  by_cases h4 : n < 4
  · have e1 : openL l = ([], 2) := by unfold openL; rw [if_pos (by omega)]
    rw [e1]
    clear e1 hl
    go_enter Tryz.func62, Tryz.ntmps62
    go_wp2
    go_ret2
    exact ⟨none, 0, 0, rfl, Own.nil _ _ _ _ _, Below.refl _ _⟩
  · obtain ⟨hr, hs⟩ := cutH h .i64 (n - 4 : Nat) (n - 4) rfl (by omega)
    have ec : ((n - 4 : Nat) : Int) = (n : Int) - 4 := by omega
    rw [ec] at hr
    by_cases heq : closeL (l.take (n - 4)) == l
    · have e1 : openL l = (l.take (n - 4), 0) := by unfold openL; rw [hl, if_neg (by omega), if_pos heq]
      rw [e1]
      have Heq := Lib.hid heq
      clear e1 hl heq ec
      go_enter Tryz.func62, Tryz.ntmps62
      go_wp2_with fail
      refine (close_any w A (n - 4) c _ hs hq (by omega)).mono ?_
      rintro e w1 ⟨A1, n1, c1, rfl, ho1, hb1⟩
      have h1 := h.below (by omega) hb1
      have hs1 := hs.below (by omega) hb1
      go_wp2_with fail
      refine (equal_is w1 A1 n1 c1 _ A n c l true Heq ho1.sl h1).mono ?_
      rintro e w' ⟨rfl, rfl⟩
      go_wp2_with fail
      refine (clone_any w1 A (n - 4) c _ hs1 (by omega)).mono ?_
      rintro e w2 ⟨A2, n2, c2, rfl, ho2, hb2⟩
      go_wp2
      go_ret2
      exact ⟨A2, n2, c2, rfl, ho2.mono hb1.size, hb1.trans (hb2.mono hb1.size)⟩
    · have e1 : openL l = ([], 5) := by unfold openL; rw [hl, if_neg (by omega), if_neg heq]
      rw [e1]
      have Heq : Hid ((closeL (l.take (n - 4)) == l) = false) := by unfold Hid; simpa using heq
      clear e1 hl heq ec
      go_enter Tryz.func62, Tryz.ntmps62
      go_wp2_with fail
      refine (close_any w A (n - 4) c _ hs hq (by omega)).mono ?_
      rintro e w1 ⟨A1, n1, c1, rfl, ho1, hb1⟩
      have h1 := h.below (by omega) hb1
      go_wp2_with fail
      refine (equal_is w1 A1 n1 c1 _ A n c l false Heq ho1.sl h1).mono ?_
      rintro e w' ⟨rfl, rfl⟩
      go_wp2
      go_ret2
      exact ⟨none, 0, 0, rfl, Own.nil _ _ _ _ _, hb1⟩
end Go.Proofs.YtpffieogkfndaaaGreatDoor

namespace Go.Proofs.YtpffieogkfndaaaGreatDoor
set_option maxRecDepth 20000
set_option linter.unusedVariables false
set_option linter.unusedSimpArgs false
open Go.ChangeShapes Go.WideShapes Go.ChangeAt Go.RowKit Go.Deep

/-- whatever reads as a datum of type t is cells of an α -/
def Opens (P : Program) (t : TypeId) (α : Type) [Rep α] : Prop :=
  ∀ (H : Type) (enc : TypeId × Value → H) (w : World) (base : Nat) (held : Bool) (fuel : Nat) (cs : List Value) (x : DataW H × List MemPlace),
    DataW.trod enc P w base (fun _ => true) held fuel t cs = some x → ∃ a : α, Rep.cells w (fun _ => True) cs a
section
variable {P : Program}
theorem row_of {α : Type} [Rep α] {w : World} : ∀ (n : Nat) (f : Nat → List Value), (∀ i, i < n → ∃ a : α, Rep.cells w (fun _ => True) (f i) a) → ∃ ls : List α, ls.length = n ∧ RowC w (fun _ => True) ((List.range n).flatMap f) ls
  | 0, _, _ => ⟨[], rfl, by simp [RowC]⟩
  | n + 1, f, h => by
    obtain ⟨ls, hl, hr⟩ := row_of n f fun i hi => h i (by omega)
    obtain ⟨a, ha⟩ := h n (by omega)
    refine ⟨ls ++ [a], by simp [hl], ?_⟩
    rw [List.range_succ, List.flatMap_append]
    exact hr.append (by simpa using RowC.single ha)
theorem flat_get {f : Nat → List Value} {s : Nat} : ∀ (n : Nat), (∀ i, i < n → (f i).length = s) → ∀ j, j < n * s → ((List.range n).flatMap f)[j]? = (f (j / s))[j % s]?
  | 0, _, j, hj => by omega
  | n + 1, h, j, hj => by
    have hl : ((List.range n).flatMap f).length = n * s := by
      rw [List.length_flatMap]
      have : (List.range n).map (fun i => (f i).length) = List.replicate n s := by
        rw [List.eq_replicate_iff]
        refine ⟨by simp, fun b hb => ?_⟩
        obtain ⟨i, hi, rfl⟩ := List.mem_map.1 hb
        exact h i (by have := List.mem_range.1 hi; omega)
      rw [this]
      simp
    rw [List.range_succ, List.flatMap_append]
    rcases Nat.lt_or_ge j (n * s) with h1 | h1
    · rw [List.getElem?_append_left (by omega)]
      exact flat_get n (fun i hi => h i (by omega)) j h1
    · rw [List.getElem?_append_right (by omega), hl]
      have hs : 0 < s := by
        rcases Nat.eq_zero_or_pos s with h0 | h0
        · subst h0; omega
        · exact h0
      rw [Nat.add_mul, Nat.one_mul] at hj
      have e1 : j / s = n := by
        rw [Nat.div_eq_iff hs]
        constructor
        · omega
        · omega
      have e2 : j % s = j - n * s := by
        have := Nat.div_add_mod j s
        rw [e1, Nat.mul_comm] at this
        omega
      rw [e1, e2]
      simp
/-- cells of a slice -/
theorem open_rowC {α : Type} [Rep α] {t e : TypeId} (ht : P.underlying t = some (.slice e)) (hc : P.cellsOf e = Rep.size α) (ho : Opens P e α)
    {H : Type} {enc : TypeId × Value → H} {w : World} {base : Nat} {held : Bool} {fuel : Nat} {cs : List Value} {x : DataW H × List MemPlace} (h : DataW.trod enc P w base (fun _ => true) held fuel t cs = some x) :
    ∃ (A : Option Addr) (n c : Nat) (ls : List α), cs = [.slice A n c] ∧ SlR w (fun _ => True) A n c ls := by
  rcases open_slice ht h with ⟨hcs, hx⟩ | ⟨a, len, cap, m, k, D, Pl, hcs, _, hl, hm, hmm, hx, hcell⟩
  · exact ⟨none, 0, 0, [], hcs, SlR.nilnil _ _⟩
  · simp only [↓reduceIte] at hmm
    subst hmm
    obtain ⟨f, hf⟩ := choose_lt (α := List Value) (p := fun i cs' => w.cells? base (a.add (i * P.cellsOf e)) (P.cellsOf e) = some cs' ∧ DataW.trod enc P w base (fun _ => true) held k e cs' = some (D i, Pl i)) hcell
    have hR : ∀ i, i < len → ∃ b : α, Rep.cells w (fun _ => True) (f i) b := fun i hi => ho H enc w base held k (f i) _ (hf i (by omega)).2
    obtain ⟨ls, hls, hrow⟩ := row_of (α := α) len f hR
    refine ⟨_, _, _, ls, hcs, _, ⟨by rw [hrow.len, hls], hl, hm, fun h0 => ?_⟩, hrow, fun _ _ _ => trivial⟩
    have hpos : 0 < Rep.size α := Rep.pos
    have ha : a = ⟨a.block, a.off, none⟩ := by
      have h1 := (hf 0 (by omega)).1
      obtain ⟨_, h2, h3⟩ := World.cells?_some h1
      have h4 := h3 0 (by omega)
      have h5 : 0 < (f 0).length := by omega
      rw [List.getElem?_eq_getElem h5] at h4
      exact addr_plain (by simpa [Addr.add] using h4)
    refine ⟨a.block, a.off, congrArg some ha, fun j u hu => ?_⟩
    have hflen : ∀ i, i < len → (f i).length = Rep.size α := fun i hi => by
      obtain ⟨b, hb⟩ := hR i hi
      exact Rep.len hb
    have hj : j < len * Rep.size α := by
      have h1 := (List.getElem?_eq_some_iff.1 hu).1
      rw [hrow.len, hls] at h1
      exact h1
    rw [flat_get len hflen j hj] at hu
    have hi : j / Rep.size α < len := (Nat.div_lt_iff_lt_mul hpos).2 hj
    obtain ⟨_, h2, h3⟩ := World.cells?_some (hf _ (show j / Rep.size α < m by omega)).1
    have hmod : j % Rep.size α < Rep.size α := Nat.mod_lt _ hpos
    have h4 := h3 (j % Rep.size α) (by omega)
    rw [hu] at h4
    rw [ha, hc] at h4
    rw [Addr.add_lit, Addr.add_lit, Nat.add_assoc] at h4
    have e1 : j / Rep.size α * Rep.size α + j % Rep.size α = j := by
      rw [Nat.mul_comm]
      exact Nat.div_add_mod j _
    rw [e1] at h4
    exact h4
theorem opens_bytes {t e : TypeId} (ht : P.underlying t = some (.slice e)) (he : P.underlying e = some (.int .u8)) (hc : P.cellsOf e = 1) : Opens P t (List UInt8) := by
  intro H enc w base held fuel cs x h
  rcases open_ints ht he hc h with ⟨hcs, hx⟩ | ⟨a, len', cap', zs, hcs, _, hl, hm, hz, hx, hcell, hwz⟩
  · exact ⟨[], _, hcs, none, 0, 0, rfl, Sl.nil _ _ _ _ (Nat.zero_le _), fun _ _ _ => trivial⟩
  · simp only [↓reduceIte] at hz
    obtain ⟨l, hlen, hcl⟩ := byte_cells (n := len') (by omega) (fun i hi => hcell i (by omega)) hwz
    refine ⟨l, _, hcs, some a, len', cap', rfl, ⟨by simp [hlen], hl, hm, fun h0 => ?_⟩, fun _ _ _ => trivial⟩
    obtain ⟨ha, hc'⟩ := hcl h0
    exact ⟨a.block, a.off, congrArg some ha, hc'⟩
section
variable {H : Type} {enc : TypeId × Value → H} {w : World} {base : Nat} {held : Bool} {fuel : Nat} {cs : List Value} {x : DataW H × List MemPlace}
theorem open_u64c {t : TypeId} (ht : P.underlying t = some (.int .u64)) (h : DataW.trod enc P w base (fun _ => true) held fuel t cs = some x) : ∃ n : UInt64, cs = [u64v n] := by
  obtain ⟨z, hcs, _, hw⟩ := DataW.trod_int ht h
  have hb := bounds_u64 hw
  obtain ⟨n, rfl⟩ := Int.eq_ofNat_of_zero_le hb.1
  refine ⟨UInt64.ofNat n, ?_⟩
  rw [hcs]
  unfold u64v
  have : (UInt64.ofNat n).toNat = n := by
    rw [UInt64.toNat_ofNat']
    exact Nat.mod_eq_of_lt (by omega)
  rw [this]
theorem open_u8c {t : TypeId} (ht : P.underlying t = some (.int .u8)) (h : DataW.trod enc P w base (fun _ => true) held fuel t cs = some x) : ∃ n : UInt8, cs = [u8v n] := by
  obtain ⟨z, hcs, _, hw⟩ := DataW.trod_int ht h
  have hb := bounds_u8 hw
  obtain ⟨n, rfl⟩ := Int.eq_ofNat_of_zero_le hb.1
  refine ⟨UInt8.ofNat n, ?_⟩
  rw [hcs]
  unfold u8v
  have : (UInt8.ofNat n).toNat = n := by
    rw [UInt8.toNat_ofNat']
    exact Nat.mod_eq_of_lt (by omega)
  rw [this]
end
/-- a struct's fields: where each lies, its type -/
def laysF (fs : Array Field) : List (Nat × TypeId) := fs.toList.map fun f => (f.offset, f.type)
theorem struct_get {fs : Array Field} {l : List (Nat × TypeId)} (hl : laysF fs = l) (i : Nat) {o : Nat} {t : TypeId} (h : l[i]? = some (o, t)) : ∃ f, fs[i]? = some f ∧ f.offset = o ∧ f.type = t := by
  subst hl
  unfold laysF at h
  rw [List.getElem?_map] at h
  obtain ⟨f, hf, he⟩ := Option.map_eq_some_iff.1 h
  simp only [Prod.mk.injEq] at he
  exact ⟨f, by simpa using hf, he.1, he.2⟩
/-- field i of a struct that was read -/
theorem field_read {t : TypeId} {fs : Array Field} {l : List (Nat × TypeId)} {H : Type} {enc : TypeId × Value → H} {w : World} {base : Nat} {held : Bool} {fuel : Nat} {cs : List Value} {x : DataW H × List MemPlace}
    (ht : P.underlying t = some (.struct fs)) (hl : laysF fs = l) (h : DataW.trod enc P w base (fun _ => true) held fuel t cs = some x) :
    cs.length = P.cellsOf t ∧ ∃ n, ∀ (i o : Nat) (u : TypeId), l[i]? = some (o, u) → ∃ y, DataW.trod enc P w base (fun _ => true) held n u ((cs.drop o).take (P.cellsOf u)) = some y := by
  obtain ⟨xs, n, _, _, hlen, hxl, hf⟩ := DataW.trod_struct ht h
  refine ⟨hlen, n, fun i o u hi => ?_⟩
  obtain ⟨f, hfi, rfl, rfl⟩ := struct_get hl i hi
  have h1 := hf i f hfi
  have h2 : i < xs.length := by
    rw [hxl]
    exact (Array.getElem?_eq_some_iff.1 hfi).1
  rw [List.getElem?_eq_getElem h2] at h1
  exact ⟨_, h1⟩
theorem three_cells {cs : List Value} (h : cs.length = 3) : ∃ a b c, cs = [a, b, c] := by
  match cs, h with
  | [a, b, c], _ => exact ⟨a, b, c, rfl⟩
theorem four_cells {cs : List Value} (h : cs.length = 4) : ∃ a b c d, cs = [a, b, c, d] := by
  match cs, h with
  | [a, b, c, d], _ => exact ⟨a, b, c, d, rfl⟩
theorem opens_key {t tb u64 u8 : TypeId} {fs : Array Field} (ht : P.underlying t = some (.struct fs)) (hl : laysF fs = [(0, tb), (1, u64), (2, u8)]) (hc : P.cellsOf t = 3 ∧ P.cellsOf tb = 1 ∧ P.cellsOf u64 = 1 ∧ P.cellsOf u8 = 1)
    (hb : P.underlying tb = some (.slice u8)) (h64 : P.underlying u64 = some (.int .u64)) (h8 : P.underlying u8 = some (.int .u8)) : Opens P t KeyL := by
  intro H enc w base held fuel cs x h
  obtain ⟨hlen, n, hf⟩ := field_read ht hl h
  obtain ⟨a, b, c, rfl⟩ := three_cells (hlen.trans hc.1)
  obtain ⟨y0, h0⟩ := hf 0 0 tb rfl
  obtain ⟨y1, h1⟩ := hf 1 1 u64 rfl
  obtain ⟨y2, h2⟩ := hf 2 2 u8 rfl
  rw [hc.2.1] at h0
  rw [hc.2.2.1] at h1
  rw [hc.2.2.2] at h2
  simp at h0 h1 h2
  obtain ⟨l, v, e0, hv⟩ := opens_bytes hb h8 hc.2.2.2 H enc w base held n _ _ h0
  obtain ⟨s, e1⟩ := open_u64c h64 h1
  obtain ⟨k, e2⟩ := open_u8c h8 h2
  simp at e0 e1 e2
  subst e0 e1 e2
  exact ⟨⟨l, s, k⟩, a, rfl, hv⟩
theorem opens_span {t tb u64 u8 : TypeId} {fs : Array Field} (ht : P.underlying t = some (.struct fs)) (hl : laysF fs = [(0, tb), (1, tb), (2, u64)]) (hc : P.cellsOf t = 3 ∧ P.cellsOf tb = 1 ∧ P.cellsOf u64 = 1 ∧ P.cellsOf u8 = 1)
    (hb : P.underlying tb = some (.slice u8)) (h64 : P.underlying u64 = some (.int .u64)) (h8 : P.underlying u8 = some (.int .u8)) : Opens P t SpanL := by
  intro H enc w base held fuel cs x h
  obtain ⟨hlen, n, hf⟩ := field_read ht hl h
  obtain ⟨a, b, c, rfl⟩ := three_cells (hlen.trans hc.1)
  obtain ⟨y0, h0⟩ := hf 0 0 tb rfl
  obtain ⟨y1, h1⟩ := hf 1 1 tb rfl
  obtain ⟨y2, h2⟩ := hf 2 2 u64 rfl
  rw [hc.2.1] at h0 h1
  rw [hc.2.2.1] at h2
  simp at h0 h1 h2
  obtain ⟨l1, v1, e1, hv1⟩ := opens_bytes hb h8 hc.2.2.2 H enc w base held n _ _ h0
  obtain ⟨l2, v2, e2, hv2⟩ := opens_bytes hb h8 hc.2.2.2 H enc w base held n _ _ h1
  obtain ⟨s, e3⟩ := open_u64c h64 h2
  simp at e1 e2 e3
  subst e1 e2 e3
  exact ⟨⟨l1, l2, s⟩, a, b, rfl, hv1, hv2⟩
/-- an entry: a version (its three cells), then a value -/
theorem opens_ent {t tk tb u64 u8 : TypeId} {fs ks : Array Field} (ht : P.underlying t = some (.struct fs)) (hl : laysF fs = [(0, tk), (3, tb)]) (htk : P.underlying tk = some (.struct ks)) (hlk : laysF ks = [(0, tb), (1, u64), (2, u8)])
    (hc : P.cellsOf t = 4 ∧ P.cellsOf tk = 3 ∧ P.cellsOf tb = 1 ∧ P.cellsOf u64 = 1 ∧ P.cellsOf u8 = 1)
    (hb : P.underlying tb = some (.slice u8)) (h64 : P.underlying u64 = some (.int .u64)) (h8 : P.underlying u8 = some (.int .u8)) : Opens P t EntL := by
  intro H enc w base held fuel cs x h
  obtain ⟨hlen, n, hf⟩ := field_read ht hl h
  obtain ⟨a, b, c, d, rfl⟩ := four_cells (hlen.trans hc.1)
  obtain ⟨y0, h0⟩ := hf 0 0 tk rfl
  obtain ⟨y1, h1⟩ := hf 1 3 tb rfl
  rw [hc.2.1] at h0
  rw [hc.2.2.1] at h1
  simp at h0 h1
  obtain ⟨⟨u, s, k⟩, v, e, hv⟩ := opens_key htk hlk ⟨hc.2.1, hc.2.2.1, hc.2.2.2.1, hc.2.2.2.2⟩ hb h64 h8 H enc w base held n _ _ h0
  obtain ⟨l2, v2, e2, hv2⟩ := opens_bytes hb h8 hc.2.2.2.2 H enc w base held n _ _ h1
  simp at e e2
  obtain ⟨rfl, rfl, rfl⟩ := e
  subst e2
  exact ⟨⟨⟨u, s, k⟩, l2⟩, a, d, rfl, hv, hv2⟩
/-- a list of records that came in -/
theorem open_recs {α : Type} [Rep α] {t e : TypeId} (ht : P.underlying t = some (.slice e)) (hc : P.cellsOf e = Rep.size α) (ho : Opens P e α) {H : Type} {enc : TypeId × Value → H} {w : World} {base : Nat} {r : Reach} {b0 : Nat} {held : Bool} {v : Value} {d : DataW H} {p : List MemPlace}
    (hv : Value.okWide P w r b0 t v) (h : DataW.Trod enc P w base (fun _ => true) held t v d p) : ∃ (A : Option Addr) (n c : Nat) (ls : List α), v = .slice A n c ∧ SlR w (fun _ => True) A n c ls := by
  obtain ⟨a0, len, cap, rfl⟩ := okWide_slice ht hv
  obtain ⟨fuel, hf⟩ := h
  obtain ⟨A, n, c, ls, e, hs⟩ := open_rowC ht hc ho hf
  simp [Value.cells] at e
  obtain ⟨rfl, rfl, rfl⟩ := e
  exact ⟨_, _, _, ls, rfl, hs⟩
end
end Go.Proofs.YtpffieogkfndaaaGreatDoor

namespace Go.Proofs.YtpffieogkfndaaaGreatDoor
set_option maxRecDepth 20000
set_option linter.unusedVariables false
set_option linter.unusedSimpArgs false

/-- a number's last k bytes, the greatest first -/
def beK : Nat → Nat → List UInt8
  | 0, _ => []
  | k + 1, n => UInt8.ofNat (n / 256 ^ k) :: beK k n
theorem length_beK (k n : Nat) : (beK k n).length = k := by
  induction k with
  | zero => rfl
  | succ k ih => simp [beK, ih]
theorem beK_drop (k m n : Nat) : (beK (m + k) n).drop m = beK k n := by
  induction m with
  | zero => simp
  | succ m ih =>
    rw [show m + 1 + k = (m + k) + 1 by omega]
    simp only [beK, List.drop_succ_cons]
    exact ih
theorem beK_get (k n i : Nat) (h : i < k) : (beK k n)[i]? = some (UInt8.ofNat (n / 256 ^ (k - 1 - i))) := by
  induction k generalizing i with
  | zero => omega
  | succ k ih =>
    rcases i with _ | i
    · simp [beK]
    · simp only [beK, List.getElem?_cons_succ]
      rw [ih i (by omega)]
      congr 4
      omega
/-- what is collected of a number's eight bytes, the noughts in front left out -/
def tailL (n k j : Nat) : List UInt8 := ((beK 8 n).take j).drop (8 - k)
theorem tailL_start (n k : Nat) : tailL n k 0 = [] := by simp [tailL]
theorem tailL_none (n k j : Nat) (h : j ≤ 8 - k) : tailL n k j = [] := by
  unfold tailL
  exact List.drop_eq_nil_of_le (by simp; omega)
theorem tailL_len (n k j : Nat) (hj : j ≤ 8) : (tailL n k j).length = j - (8 - k) := by
  simp [tailL, length_beK]
  omega
theorem tailL_more (n k j : Nat) (hj : j < 8) (h : 8 - k ≤ j) : tailL n k (j + 1) = tailL n k j ++ [UInt8.ofNat (n / 256 ^ (7 - j))] := by
  unfold tailL
  have hl : j < (beK 8 n).length := by rw [length_beK]; omega
  have hg : (beK 8 n)[j] = UInt8.ofNat (n / 256 ^ (7 - j)) := by
    have := beK_get 8 n j hj
    rw [List.getElem?_eq_getElem hl] at this
    rw [Option.some.inj this]
  rw [List.take_succ_eq_append_getElem hl, hg, List.drop_append_of_le_length (by rw [List.length_take, length_beK]; omega)]
theorem tailL_end (n k : Nat) (hk : k ≤ 8) : tailL n k 8 = beK k n := by
  unfold tailL
  rw [List.take_of_length_le (by rw [length_beK]; omega)]
  have := beK_drop k (8 - k) n
  rw [show 8 - k + k = 8 by omega] at this
  exact this
/-- the number of bytes -/
def beval (l : List UInt8) : Nat := l.foldl (fun n b => n * 256 + b.toNat) 0
theorem beval_from (l : List UInt8) (n : Nat) : l.foldl (fun n b => n * 256 + b.toNat) n = n * 256 ^ l.length + beval l := by
  unfold beval
  induction l generalizing n with
  | nil => simp
  | cons b r ih =>
    simp only [List.foldl_cons, List.length_cons]
    rw [ih, ih (0 * 256 + b.toNat), Nat.pow_succ]
    simp only [Nat.zero_mul, Nat.zero_add]
    rw [Nat.add_mul, Nat.mul_assoc, Nat.mul_comm 256, Nat.add_assoc]
theorem beval_cons (b : UInt8) (l : List UInt8) : beval (b :: l) = b.toNat * 256 ^ l.length + beval l := by
  have := beval_from l (0 * 256 + b.toNat)
  simp only [Nat.zero_mul, Nat.zero_add] at this
  rw [← this]
  simp [beval]
theorem beval_snoc (l : List UInt8) (b : UInt8) : beval (l ++ [b]) = beval l * 256 + b.toNat := by simp [beval]
theorem beval_lt (l : List UInt8) : beval l < 256 ^ l.length := by
  induction l with
  | nil => simp [beval]
  | cons b r ih =>
    rw [beval_cons, List.length_cons, Nat.pow_succ]
    have := b.toNat_lt
    have h : b.toNat * 256 ^ r.length + 256 ^ r.length ≤ 256 * 256 ^ r.length := by
      rw [← Nat.succ_mul]
      exact Nat.mul_le_mul_right _ (by omega)
    rw [Nat.mul_comm (256 ^ r.length)]
    omega
theorem beval_beK (k n : Nat) : beval (beK k n) = n % 256 ^ k := by
  induction k with
  | zero => simp [beK, beval, Nat.mod_one]
  | succ k ih =>
    rw [beK, beval_cons, length_beK, ih, Nat.pow_succ, Nat.mod_mul, UInt8.toNat_ofNat']
    have e : (256 : Nat) = 2 ^ 8 := rfl
    rw [← e, Nat.mul_comm (256 ^ k) (n / 256 ^ k % 256), Nat.add_comm]
theorem beval_inj : ∀ (l m : List UInt8), l.length = m.length → beval l = beval m → l = m
  | [], [], _, _ => rfl
  | a :: l, b :: m, h, e => by
    rw [beval_cons, beval_cons] at e
    have hl : l.length = m.length := by simpa using h
    rw [hl] at e
    have h1 := beval_lt l
    have h2 := beval_lt m
    rw [hl] at h1
    have hp : 0 < 256 ^ m.length := Nat.pow_pos (by omega)
    have ea : a.toNat = b.toNat := by
      have e1 : (a.toNat * 256 ^ m.length + beval l) / 256 ^ m.length = a.toNat := by
        rw [Nat.mul_comm, Nat.mul_add_div hp, Nat.div_eq_of_lt h1, Nat.add_zero]
      have e2 : (b.toNat * 256 ^ m.length + beval m) / 256 ^ m.length = b.toNat := by
        rw [Nat.mul_comm, Nat.mul_add_div hp, Nat.div_eq_of_lt h2, Nat.add_zero]
      rw [← e1, e, e2]
    have eb : beval l = beval m := by rw [ea] at e; omega
    rw [UInt8.toNat_inj.1 ea, beval_inj l m hl eb]
  | [], _ :: _, h, _ => by simp at h
  | _ :: _, [], h, _ => by simp at h

/-- how many bytes stand behind the first one of a long number -/
def nb (n : Nat) : Nat := if n < 16777216 then 3 else if n < 4294967296 then 4 else if n < 1099511627776 then 5 else if n < 281474976710656 then 6 else if n < 72057594037927936 then 7 else 8
theorem nb_range (n : Nat) : 3 ≤ nb n ∧ nb n ≤ 8 := by
  unfold nb
  repeat' split
  all_goals omega
theorem nb_lt {n : Nat} (h : n < 18446744073709551616) : n < 256 ^ nb n := by
  unfold nb
  repeat' split
  all_goals simp; omega
theorem nb_le {n : Nat} (h : 3 < nb n) : 256 ^ (nb n - 1) ≤ n := by
  unfold nb at *
  repeat' split at h
  all_goals first | omega | skip
  all_goals simp [*]
  all_goals omega
/-- a number's bytes -/
def numL (n : Nat) : List UInt8 :=
  if n < 241 then [UInt8.ofNat n]
  else if n < 2288 then [UInt8.ofNat (241 + (n - 240) / 256), UInt8.ofNat (n - 240)]
  else if n < 67824 then [249, UInt8.ofNat ((n - 2288) / 256), UInt8.ofNat (n - 2288)]
  else UInt8.ofNat (247 + nb n) :: beK (nb n) n
/-- how many bytes stand behind a first one -/
def lenL (b : Nat) : Nat := if b ≤ 240 then 0 else if b ≤ 248 then 1 else if b = 249 then 2 else b - 247
def valueL (b : Nat) (tail : List UInt8) : Nat := if b ≤ 240 then b else if b ≤ 248 then 240 + (b - 241) * 256 + beval tail else if b = 249 then 2288 + beval tail else beval tail
/-- the number in front, what stands behind, the error's number -/
def takeL (p : List UInt8) : Nat × List UInt8 × Nat :=
  match p with
  | [] => (0, [], 2)
  | b :: r =>
    if (b :: r).length < 1 + lenL b.toNat then (0, [], 2)
    else
      let n := valueL b.toNat (r.take (lenL b.toNat))
      if numL n = b :: r.take (lenL b.toNat) then (n, r.drop (lenL b.toNat), 0) else (0, [], 4)
theorem lenL_le (b : Nat) (h : b < 256) : lenL b ≤ 8 := by
  unfold lenL
  repeat' split
  all_goals omega
/-- a number's bytes say it -/
theorem num_decode (n : Nat) (h : n < 18446744073709551616) : ∃ b t, numL n = b :: t ∧ t.length = lenL b.toNat ∧ valueL b.toNat t = n := by
  by_cases h1 : n < 241
  · refine ⟨UInt8.ofNat n, [], by unfold numL; rw [if_pos h1], ?_, ?_⟩
    · simp [lenL]; omega
    · have : n % 256 = n := by omega
      simp [valueL, this]; omega
  · by_cases h2 : n < 2288
    · have e : (UInt8.ofNat (241 + (n - 240) / 256)).toNat = 241 + (n - 240) / 256 := by simp; omega
      have e2 : (UInt8.ofNat (n - 240)).toNat = (n - 240) % 256 := by simp
      refine ⟨UInt8.ofNat (241 + (n - 240) / 256), [UInt8.ofNat (n - 240)], by unfold numL; rw [if_neg h1, if_pos h2], ?_, ?_⟩
      · rw [e]; unfold lenL; rw [if_neg (by omega), if_pos (by omega)]; rfl
      · rw [e]; unfold valueL; rw [if_neg (by omega), if_pos (by omega)]
        simp only [beval, List.foldl_cons, List.foldl_nil, e2]
        omega
    · by_cases h3 : n < 67824
      · have e : (249 : UInt8).toNat = 249 := rfl
        have e1 : (UInt8.ofNat ((n - 2288) / 256)).toNat = (n - 2288) / 256 := by simp; omega
        have e2 : (UInt8.ofNat (n - 2288)).toNat = (n - 2288) % 256 := by simp
        refine ⟨249, [UInt8.ofNat ((n - 2288) / 256), UInt8.ofNat (n - 2288)], by unfold numL; rw [if_neg h1, if_neg h2, if_pos h3], ?_, ?_⟩
        · rw [e]; rfl
        · rw [e]; unfold valueL; rw [if_neg (by omega), if_neg (by omega), if_pos rfl]
          simp only [beval, List.foldl_cons, List.foldl_nil, e1, e2]
          omega
      · have hr := nb_range n
        have e : (UInt8.ofNat (247 + nb n)).toNat = 247 + nb n := by simp; omega
        refine ⟨UInt8.ofNat (247 + nb n), beK (nb n) n, by unfold numL; rw [if_neg h1, if_neg h2, if_neg h3], ?_, ?_⟩
        · rw [e, length_beK]; unfold lenL; rw [if_neg (by omega), if_neg (by omega), if_neg (by omega)]; omega
        · rw [e]; unfold valueL; rw [if_neg (by omega), if_neg (by omega), if_neg (by omega), beval_beK, Nat.mod_eq_of_lt (nb_lt h)]
theorem value_lt (b : UInt8) (t : List UInt8) (h : t.length = lenL b.toNat) : valueL b.toNat t < 18446744073709551616 := by
  have hb := b.toNat_lt
  have ht := beval_lt t
  unfold valueL
  unfold lenL at h
  by_cases h1 : b.toNat ≤ 240
  · rw [if_pos h1]; omega
  · rw [if_neg h1] at h ⊢
    by_cases h2 : b.toNat ≤ 248
    · rw [if_pos h2] at h ⊢; rw [h] at ht; omega
    · rw [if_neg h2] at h ⊢
      by_cases h3 : b.toNat = 249
      · rw [if_pos h3] at h ⊢; rw [h] at ht; omega
      · rw [if_neg h3] at h ⊢
        have : 256 ^ t.length ≤ 256 ^ 8 := Nat.pow_le_pow_right (by omega) (by omega)
        omega
/-- what has the value has the bytes -/
theorem value_inj (b : UInt8) (t u : List UInt8) (ht : t.length = lenL b.toNat) (hu : u.length = lenL b.toNat) (h : valueL b.toNat t = valueL b.toNat u) : t = u := by
  refine beval_inj t u (by omega) ?_
  unfold valueL at h
  unfold lenL at ht hu
  by_cases h1 : b.toNat ≤ 240
  · rw [if_pos h1] at ht hu
    rw [List.eq_nil_of_length_eq_zero ht, List.eq_nil_of_length_eq_zero hu]
  · rw [if_neg h1, if_neg h1] at h
    by_cases h2 : b.toNat ≤ 248
    · rw [if_pos h2, if_pos h2] at h; omega
    · rw [if_neg h2, if_neg h2] at h
      by_cases h3 : b.toNat = 249
      · rw [if_pos h3, if_pos h3] at h; omega
      · rw [if_neg h3, if_neg h3] at h; exact h
/-- the number of bytes and the first of them tell whether all are right -/
theorem num_check (b : UInt8) (t : List UInt8) (ht : t.length = lenL b.toNat) : numL (valueL b.toNat t) = b :: t ↔ (numL (valueL b.toNat t)).length = 1 + lenL b.toNat ∧ (numL (valueL b.toNat t))[0]? = some b := by
  constructor
  · intro h; rw [h]; simp [ht]; omega
  · rintro ⟨h1, h2⟩
    obtain ⟨b', t', e, hl, hv⟩ := num_decode _ (value_lt b t ht)
    rw [e] at h1 h2
    simp at h2
    subst h2
    rw [e, value_inj b' t' t hl ht hv]
theorem take_num (n : Nat) (h : n < 18446744073709551616) (l : List UInt8) : takeL (numL n ++ l) = (n, l, 0) := by
  obtain ⟨b, t, e, hl, hv⟩ := num_decode n h
  rw [e]
  simp only [List.cons_append, takeL]
  rw [← hl, List.take_left, List.drop_left, hv, if_neg (by simp; omega), if_pos e]
theorem num_len (n : Nat) : 1 ≤ (numL n).length ∧ (numL n).length ≤ 9 := by
  unfold numL
  have := nb_range n
  repeat' split
  all_goals simp [length_beK]
  all_goals omega
end Go.Proofs.YtpffieogkfndaaaGreatDoor

namespace Go.Proofs.YtpffieogkfndaaaGreatDoor
set_option maxRecDepth 20000
set_option linter.unusedVariables false
set_option linter.unusedSimpArgs false
open Go.RowKit

theorem run_sizeP (w : World) : (sizeOf 29).run Tryz.prog w = .ok 1 w := by
  obtain ⟨i, hi, _, hs, _⟩ := info_parts infoP
  simp [sizeOf, typeInfo, hi, hs]
theorem PartsOf.take {w : World} {vs : List Value} {ls : List (List UInt8)} (h : PartsOf w vs ls) (k : Nat) : PartsOf w (vs.take k) (ls.take k) :=
  ⟨by simp [h.1], fun i v l hv hl => by
    rw [List.getElem?_take] at hv hl
    split at hv
    · rename_i hi
      rw [if_pos hi] at hl
      exact h.2 i v l hv hl
    · cases hv⟩
theorem PartsOf.drop {w : World} {vs : List Value} {ls : List (List UInt8)} (h : PartsOf w vs ls) (k : Nat) : PartsOf w (vs.drop k) (ls.drop k) :=
  ⟨by simp [h.1], fun i v l hv hl => by
    rw [List.getElem?_drop] at hv hl
    exact h.2 _ v l hv hl⟩
/-- l[k:] -/
theorem cutLP {w : World} {A : Option Addr} {n c : Nat} {vs : List Value} (h : Sl w 1 A n c vs) (q : IntKind) (i : Int) (lo : Nat) (ei : i = lo) (h2 : lo ≤ n) :
    ∃ A', (∀ w' : World, (Instr.slice 78 (.slice A n c) (some (.int q i)) none none).run Tryz.prog w' = .ok (.slice A' (n - lo) (c - lo)) w') ∧ Sl w 1 A' (n - lo) (c - lo) (vs.drop lo) := by
  have hcap := h.cap
  have hl := h.len
  subst ei
  refine ⟨if c = lo then A else A.map (·.add (lo * 1)), fun w' => ?_, ?_⟩
  · have := run_slice_l (P := Tryz.prog) w' 78 A n c Tryz.underlying78 q lo (by omega) (by omega)
    rw [this]
    show ((sizeOf 29).run Tryz.prog w').andThen _ = _
    rw [run_sizeP]
    simp only [Result.andThen, sliced, Int.toNat_natCast]
  · have := h.cut (lo := lo) (hi := n) (m := c) h2 (Nat.le_refl _) (by omega) (Nat.le_refl _)
    simp only [Nat.mul_one] at this
    rw [List.take_of_length_le (by simp; omega)] at this
    rw [Nat.mul_one]
    exact this
/-- where p[k:] lies -/
def tailA (A : Option Addr) (c k : Nat) : Option Addr := if c = k then A else A.map (·.add (k * 1))
theorem run_tailB (w' : World) (A : Option Addr) (n c : Nat) (q : IntKind) (i : Int) (k : Nat) (ei : i = k) (hk : k ≤ n) :
    (Instr.slice 29 (.slice A n c) (some (.int q i)) none none).run Tryz.prog w' = .ok (.slice (tailA A c k) (n - k) (c - k)) w' := by
  subst ei
  have := run_slice_l (P := Tryz.prog) w' 29 A n c Tryz.underlying29 q k (by omega) (by omega)
  rw [this]
  show ((sizeOf 5).run Tryz.prog w').andThen _ = _
  rw [run_sizeB]
  simp only [Result.andThen, sliced, Int.toNat_natCast]
  rfl
section
variable {P : Program} (w : World)
/-- copy onto the tail of what the call owns -/
theorem run_copy_sub (B : Nat) (t ty e : TypeId) (i : TypeInfo) (ht : P.underlying t = some (.slice e)) (hi : P.info? e = some i) (hsize : i.size = 1)
    (A : Option Addr) (n c : Nat) (xs : List Value) (hown : Own w B e 1 A n c xs) (k : Nat) (hk : k ≤ n)
    (A2 : Option Addr) (m c2 : Nat) (news : List Value) (hs : Sl w 1 A2 m c2 news) (h1 : ∀ u ∈ news, u.oneCell' = true) (hmn : k + m ≤ n) :
    ∃ w', (Builtin.copy_ #[t, t] ty #[.slice (tailA A c k) (n - k) (c - k), .slice A2 m c2]).run P w = .ok (goInt m) w' ∧ Own w' B e 1 A n c (xs.take k ++ news ++ xs.drop (k + m)) ∧ w.grownBy w' (blk A c) := by
  have hf := run_first (P := P) w 1 m c2 A2 news hs
  have hnl : news.length = m := by have := hs.len; omega
  have hxl : xs.length = n := by have := hown.len; omega
  have hmin : Nat.min m (n - k) = m := Nat.min_eq_left (by omega)
  have hcap := hown.cap
  by_cases hck : c = k
  · obtain rfl : n = k := by omega
    obtain rfl : m = 0 := by omega
    obtain rfl : news = [] := List.eq_nil_of_length_eq_zero hnl
    refine ⟨w, ?_, ?_, World.grownBy.refl w _⟩
    · unfold tailA
      rw [if_pos hck]
      cases A <;> simp [Builtin.copy_, run_underlying ht, sizeOf, typeInfo, hi, hsize, Builtin.lenOf, hf, storeCells]
    · have e1 : xs.take n ++ [] ++ xs.drop (n + 0) = xs := by
        rw [List.append_nil, Nat.add_zero, List.take_append_drop]
      rw [e1]
      exact hown
  · obtain ⟨g, o, cur, rfl, hb, hh, hfit, htk⟩ := hown.row (by omega)
    rw [Nat.mul_one] at hfit htk
    have hst := run_storeCells_at P g (o + k) e news 0 cur w hh (by simp; omega) h1
    simp only [Nat.add_zero] at hst
    have eA : tailA (some ⟨g, o, none⟩) c k = some ⟨g, o + k, none⟩ := by
      unfold tailA
      rw [if_neg hck]
      simp [Addr.add_lit]
    rw [eA]
    refine ⟨w.setRow g (cur.toList.take (o + k) ++ news ++ cur.toList.drop (o + k + news.length)).toArray, ?_, ⟨by simp; omega, hcap, hown.capm, fun _ => ⟨g, o, _, rfl, hb, setRow_heap w g cur _ e _ hh, ?_, ?_⟩⟩, ⟨rfl, rfl, rfl, by simp, fun j _ hj => setRow_other w g j _ (fun e => hj (by simp [blk, e]; omega))⟩⟩
    · simp only [Builtin.copy_, List.getElem?_toArray]
      simp [run_underlying ht, sizeOf, typeInfo, hi, hsize, Builtin.lenOf, hmin, hf]
      rw [hst]
      simp [Result.andThen]
    · simp only [List.size_toArray, List.length_append, List.length_take, List.length_drop, Array.length_toList]
      omega
    · have hlo : o + k ≤ cur.toList.length := by simp; omega
      have e1 : cur.toList.take (o + k) = cur.toList.take o ++ xs.take k := by
        rw [List.take_add, ← htk, List.take_take, Nat.min_eq_left hk]
      have e2 : xs.drop (k + m) = ((cur.toList.drop (o + k + news.length)).take (n - (k + m))) := by
        rw [← htk, List.drop_take, List.drop_drop, hnl]
        congr 2
        omega
      rw [e1, e2]
      simp only [List.append_assoc, Nat.mul_one]
      rw [List.drop_left' (by simp; omega), ← List.append_assoc, List.take_append]
      rw [List.take_of_length_le (by simp; omega)]
      rw [List.append_assoc]
      congr 3
      simp
      omega
end
theorem tailA_zero (A : Option Addr) (c : Nat) : tailA A c 0 = A := by
  unfold tailA
  split
  · rfl
  · cases A <;> simp [Addr.add]
/-- copy of bytes into the midst of a row of the call's own, as an equation (the walk stands before it) -/
theorem run_cpySub (w : World) (B : Nat) (A : Option Addr) (n c : Nat) (xs : List Value) (hown : Own w B 5 1 A n c xs) (k : Nat) (hk : k ≤ n)
    (A2 : Option Addr) (m c2 : Nat) (l2 : List UInt8) (hs : Sl w 1 A2 m c2 (bc l2)) (hmn : k + m ≤ n) :
    ∃ w', (Builtin.copy_ #[29, 29] 3 #[.slice (tailA A c k) (n - k) (c - k), .slice A2 m c2]).run Tryz.prog w = .ok (.int .i64 (m : Int)) w' ∧ Own w' B 5 1 A n c (xs.take k ++ bc l2 ++ xs.drop (k + m)) ∧ w.grownBy w' (blk A c) := by
  obtain ⟨i, hi, hz, hs1, hb1⟩ := info_parts infoB
  exact run_copy_sub (P := Tryz.prog) w B 29 3 _ i Tryz.underlying29 hi hs1 A n c xs hown k hk A2 m c2 (bc l2) hs (bc_one _) hmn
theorem run_cpyHead (w : World) (B : Nat) (A : Option Addr) (n c : Nat) (xs : List Value) (hown : Own w B 5 1 A n c xs)
    (A2 : Option Addr) (m c2 : Nat) (l2 : List UInt8) (hs : Sl w 1 A2 m c2 (bc l2)) (hmn : m ≤ n) :
    ∃ w', (Builtin.copy_ #[29, 29] 3 #[.slice A n c, .slice A2 m c2]).run Tryz.prog w = .ok (.int .i64 (m : Int)) w' ∧ Own w' B 5 1 A n c (bc l2 ++ xs.drop m) ∧ w.grownBy w' (blk A c) := by
  obtain ⟨w', h1, h2, h3⟩ := run_cpySub w B A n c xs hown 0 (Nat.zero_le _) A2 m c2 l2 hs (by omega)
  rw [tailA_zero] at h1
  exact ⟨w', h1, by simpa using h2, h3⟩
end Go.Proofs.YtpffieogkfndaaaGreatDoor

namespace Go.Proofs.YtpffieogkfndaaaGreatDoor
set_option maxRecDepth 20000
set_option linter.unusedVariables false
set_option linter.unusedSimpArgs false

def takeN (bits : Int) : Nat := if bits < 1 then 1 else if bits > 100 then 100 else bits.toNat
theorem takeN_pos (b : Int) : 1 ≤ takeN b := by unfold takeN; split <;> (try split) <;> omega
theorem takeN_le (b : Int) : takeN b ≤ 100 := by unfold takeN; split <;> (try split) <;> omega
def probesN (bits : Int) : Nat := if takeN bits * 69 / 100 < 1 then 1 else if takeN bits * 69 / 100 > 30 then 30 else takeN bits * 69 / 100
theorem probesN_pos (b : Int) : 1 ≤ probesN b := by unfold probesN; split <;> (try split) <;> omega
theorem probesN_le (b : Int) : probesN b ≤ 30 := by unfold probesN; split <;> (try split) <;> omega

/-- a key's first hash, from h on -/
def fnvL (h : Nat) (key : List UInt8) : Nat := key.foldl (fun h b => (h ^^^ b.toNat) * 16777619 % 4294967296) h
theorem fnvL_lt (key : List UInt8) {h : Nat} (hh : h < 4294967296) : fnvL h key < 4294967296 := by
  induction key generalizing h with
  | nil => exact hh
  | cons b t ih =>
    have h1 : (h ^^^ b.toNat) * 16777619 % 4294967296 < 4294967296 := Nat.mod_lt _ (by decide)
    unfold fnvL
    rw [List.foldl_cons]
    generalize (h ^^^ b.toNat) * 16777619 % 4294967296 = z at *
    exact ih h1
theorem fnvL_snoc (h : Nat) (l : List UInt8) (b : UInt8) : fnvL h (l ++ [b]) = (fnvL h l ^^^ b.toNat) * 16777619 % 4294967296 := by
  unfold fnvL
  rw [List.foldl_append, List.foldl_cons, List.foldl_nil]
theorem basis_lt : (2166136261 : Nat) < 4294967296 := by decide
def hashL (key : List UInt8) : Nat := fnvL 2166136261 key
theorem hashL_lt (key : List UInt8) : hashL key < 4294967296 := fnvL_lt key basis_lt
def stepL (key : List UInt8) : Nat := if sumL key % 2 = 0 then sumL key + 1 else sumL key
/-- the i-th probe of so many bits -/
def probeL (key : List UInt8) (m i : Nat) : Nat := (hashL key + i * stepL key) % 4294967296 % m
theorem probeL_lt (key : List UInt8) {m : Nat} (hm : 0 < m) (i : Nat) : probeL key m i < m := Nat.mod_lt _ hm
theorem or_one (x : Nat) : x ||| 1 = if x % 2 = 0 then x + 1 else x := by
  apply Nat.eq_of_testBit_eq
  intro i
  cases i with
  | zero => split <;> simp [Nat.testBit_zero] <;> omega
  | succ i =>
    have h1 : (1 : Nat).testBit (i + 1) = false := by simp [Nat.testBit_succ]
    rw [Nat.testBit_or, h1, Bool.or_false, Nat.testBit_succ, Nat.testBit_succ]
    congr 1
    split <;> omega

/-- the bits that are set -/
def setAll (s : List Bool) (ks : List Nat) : List Bool := ks.foldl (fun s k => s.set k true) s
@[simp] theorem setAll_length (s : List Bool) (ks : List Nat) : (setAll s ks).length = s.length := by
  induction ks generalizing s with
  | nil => rfl
  | cons k t ih => simp [setAll] at ih ⊢; rw [ih]; simp
theorem setAll_append (s : List Bool) (a b : List Nat) : setAll s (a ++ b) = setAll (setAll s a) b := by simp [setAll]
theorem setAll_snoc (s : List Bool) (a : List Nat) (k : Nat) : setAll s (a ++ [k]) = (setAll s a).set k true := by simp [setAll]
def probesL (key : List UInt8) (m p : Nat) : List Nat := (List.range p).map (probeL key m)
theorem probesL_mem {key : List UInt8} {m p k : Nat} : k ∈ probesL key m p ↔ ∃ i, i < p ∧ probeL key m i = k := by simp [probesL]
def bitsL (keys : List (List UInt8)) (m p : Nat) : List Bool := setAll (List.replicate m false) (keys.flatMap fun key => probesL key m p)
@[simp] theorem bitsL_length (keys : List (List UInt8)) (m p : Nat) : (bitsL keys m p).length = m := by simp [bitsL]
/-- the byte j of the bits -/
def byteN (s : List Bool) (j : Nat) : Nat := (List.range 8).foldr (fun k acc => (s[8 * j + k]?.getD false).toNat + 2 * acc) 0
theorem foldr_bits (f : Nat → Bool) (n lo i : Nat) : ((List.range' lo n).foldr (fun k acc => (f k).toNat + 2 * acc) 0).testBit i = (decide (i < n) && f (lo + i)) := by
  induction n generalizing lo i with
  | zero => simp
  | succ n ih =>
    rw [List.range'_succ, List.foldr_cons]
    cases i with
    | zero =>
      rw [Nat.testBit_zero]
      cases f lo <;> simp <;> omega
    | succ i =>
      rw [Nat.testBit_succ]
      have e : ∀ y : Nat, ((f lo).toNat + 2 * y) / 2 = y := by intro y; cases f lo <;> simp <;> omega
      rw [e, ih]
      simp [Nat.add_comm, Nat.add_left_comm]
theorem byteN_bit (s : List Bool) (j i : Nat) : (byteN s j).testBit i = (decide (i < 8) && (s[8 * j + i]?.getD false)) := by
  have := foldr_bits (fun k => s[8 * j + k]?.getD false) 8 0 i
  rw [← List.range_eq_range', Nat.zero_add] at this
  exact this
theorem byteN_lt (s : List Bool) (j : Nat) : byteN s j < 256 := by
  refine Nat.lt_pow_two_of_testBit (n := 8) _ fun i hi => ?_
  rw [byteN_bit]
  have h1 : ¬ i < 8 := by omega
  simp [h1]
def bytesN (s : List Bool) (n : Nat) : List UInt8 := (List.range n).map fun j => (byteN s j).toUInt8
@[simp] theorem bytesN_length (s : List Bool) (n : Nat) : (bytesN s n).length = n := by simp [bytesN]
theorem bytesN_get (s : List Bool) (n j : Nat) (h : j < (bytesN s n).length) : (bytesN s n)[j].toNat = byteN s j := by
  simp [bytesN]
  exact byteN_lt s j
theorem byteN_set_other (s : List Bool) (k j : Nat) (h : j ≠ k / 8) : byteN (s.set k true) j = byteN s j := by
  apply Nat.eq_of_testBit_eq
  intro i
  rw [byteN_bit, byteN_bit]
  by_cases hi : i < 8
  · rw [List.getElem?_set, if_neg (by omega)]
  · simp [hi]
theorem byteN_set (s : List Bool) (k : Nat) (h : k < s.length) : byteN (s.set k true) (k / 8) = byteN s (k / 8) ||| 2 ^ (k % 8) := by
  apply Nat.eq_of_testBit_eq
  intro i
  rw [Nat.testBit_or, byteN_bit, byteN_bit, Nat.testBit_two_pow]
  by_cases hi : i < 8
  · rw [List.getElem?_set]
    by_cases hk : k = 8 * (k / 8) + i
    · have h2 : k % 8 = i := by omega
      rw [if_pos hk]
      simp [hi, h2, ← hk, h]
    · have h2 : ¬ k % 8 = i := by omega
      rw [if_neg hk]
      simp [hi, h2]
  · have h2 : ¬ k % 8 = i := by omega
    simp [hi, h2]
theorem bytesN_set (s : List Bool) (n k : Nat) (h : k < s.length) (_hn : k / 8 < n) : bytesN (s.set k true) n = (bytesN s n).set (k / 8) (byteN s (k / 8) ||| 2 ^ (k % 8)).toUInt8 := by
  apply List.ext_getElem
  · simp
  · intro j h1 h2
    rw [List.getElem_set]
    by_cases hj : k / 8 = j
    · rw [if_pos hj]
      subst hj
      simp [bytesN, byteN_set s k h]
    · rw [if_neg hj]
      simp [bytesN, byteN_set_other s k j (fun e => hj e.symm)]
theorem bytesN_none (m n : Nat) : bytesN (List.replicate m false) n = List.replicate n 0 := by
  apply List.ext_getElem
  · simp
  · intro j h1 h2
    have : byteN (List.replicate m false) j = 0 := by
      apply Nat.eq_of_testBit_eq
      intro i
      rw [byteN_bit]
      simp [List.getElem?_replicate]
      intro _ 
      split <;> rfl
    simp [bytesN, this]

def sizeN (bits : Int) (k : Nat) : Nat := max ((takeN bits * k + 7) / 8) 8
def buildL (bits : Int) (keys : List (List UInt8)) : List UInt8 :=
  bytesN (bitsL keys (8 * sizeN bits keys.length) (probesN bits)) (sizeN bits keys.length) ++ [(probesN bits).toUInt8]
/-- is the bit k of a text set? -/
def bitL (f : List UInt8) (k : Nat) : Bool := (f[k / 8]?.getD 0).toNat.testBit (k % 8)
def hasL (f key : List UInt8) : Bool :=
  if f.length < 9 ∨ (f[f.length - 1]?.getD 0).toNat < 1 ∨ 30 < (f[f.length - 1]?.getD 0).toNat then true
  else (probesL key (8 * (f.length - 1)) (f[f.length - 1]?.getD 0).toNat).all (bitL f)
end Go.Proofs.YtpffieogkfndaaaGreatDoor
