/-
  SealWalk, SealRef in one text. No condition but sizes.
-/
import Derived.Test.YtpffieogkfndaaaGreatDoorJParts
import Derived.Test.YtpffieogkfndaaaGreatDoorProg
import Derived.Test.YtpffieogkfndaaaGreatDoorJHeld
namespace Go.Proofs.YtpffieogkfndaaaGreatDoor
set_option maxRecDepth 20000
set_option linter.unusedVariables false
set_option linter.unusedSimpArgs false
open Go.RowKit

/-- the table lies in its variable -/
def Quarter (w : World) : Prop := ∀ i, i < 16 → w.cell? ⟨0, i, none⟩ = some (.int .u32 (quarterL.getD i 0 : Nat))

set_option maxHeartbeats 400000 in
theorem sum_any (w : World) (A : Option Addr) (n c : Nat) (vs : List Value) (ls : List (List UInt8)) (h : Sl w 1 A n c vs) (hp : PartsOf w vs ls) (hq : Quarter w) :
    Calls Tryz.prog 84 #[.slice A n c] w fun e w' => e = .returned (.int .u32 (sumL ls.flatten : Nat)) ∧ w = w' := by
  have hm := h.capm
  have hcap := h.cap
  unfold maxLen at hm
  have hlen := h.len
  have hpl := hp.1
  have Hlen : Hid (ls.length = n) := by unfold Hid; omega
  clear hlen hpl
  go_enter Tryz.func84, Tryz.ntmps84
  go_wp2
  go_loop [3, 10] (fun s i => ∃ k : Nat, k ≤ n ∧ i = .int .i64 k ∧ s = .int .u32 (crcL 4294967295 (ls.take k).flatten : Nat)) (fun _ i => n - (intOf i).toNat)
  case atStart => exact ⟨0, Nat.zero_le _, rfl, rfl⟩
  case round =>
    obtain ⟨k, hk, rfl, rfl⟩ := hrel
    by_cases hlt : k < n
    · obtain ⟨b, o, A', n', c', hkl, rfl, hcell, hsl⟩ := hp.get h hlt
      have Hn' : Hid (ls[k].length = n') := hsl.lenb
      have hm' := hsl.capm
      have hcap' := hsl.cap
      unfold maxLen at hm'
      have hs0 := crcL_lt (c := 4294967295) (by omega) (ls.take k).flatten
      generalize hz : crcL 4294967295 (ls.take k).flatten = z at *
      have Hz := Lib.hid hz
      clear hz
      go_wp2
      go_loop [3, 16] (fun s i => ∃ j : Nat, j ≤ n' ∧ i = .int .i64 j ∧ s = .int .u32 (crcL z (ls[k].take j) : Nat)) (fun _ i => n' - (intOf i).toNat)
      case atStart => exact ⟨0, Nat.zero_le _, rfl, rfl⟩
      case round =>
        obtain ⟨j, hj, rfl, rfl⟩ := hrel
        by_cases hjn : j < n'
        · have hjl : j < ls[k].length := by have := Hn'.out; omega
          obtain ⟨b', o', x, rfl, hxe, hx, hbyte⟩ := hsl.byte hjl
          have hs1 := crcL_lt hs0 (ls[k].take j)
          have Hst := crcL_snoc z (ls[k].take j) ls[k][j]
          rw [← take_snoc _ _ hjl, hxe] at Hst
          clear hxe
          generalize crcL z (ls[k].take j) = y at *
          obtain ⟨t, hte, htl⟩ : ∃ t : Nat, y ^^^ x = t ∧ t < 4294967296 := ⟨_, rfl, Nat.xor_lt_two_pow (n := 32) hs1 (by omega)⟩
          have e1 : bits .xor .u32 (y : Int) (x : Int) = (t : Int) := by rw [u32_xor_nat _ _ hs1 (by omega), hte]
          obtain ⟨t2, hte2, htl2⟩ : ∃ t2 : Nat, nib t = t2 ∧ t2 < 4294967296 := ⟨_, rfl, nib_lt htl⟩
          unfold stepB at Hst
          rw [hte, hte2] at Hst
          have HST := Lib.hid Hst
          clear Hst hte
          have e2 : bits .and .u32 (t : Int) 15 = ((t % 16 : Nat) : Int) := by rw [← nat_mask4]; exact u32_and_nat t 15 htl (by omega)
          have e3 : bits .and .u32 (t2 : Int) 15 = ((t2 % 16 : Nat) : Int) := by rw [← nat_mask4]; exact u32_and_nat t2 15 htl2 (by omega)
          have q1 := hq (t % 16) (by omega)
          have q2 := hq (t2 % 16) (by omega)
          have e4 : bits .xor .u32 ((t : Int) / 16) (quarterL.getD (t % 16) 0 : Nat) = (t2 : Int) := by
            rw [← hte2]; exact u32_xor_nat (t / 16) _ (by omega) (quarter_lt _)
          have e5 : bits .xor .u32 ((t2 : Int) / 16) (quarterL.getD (t2 % 16) 0 : Nat) = (nib t2 : Nat) := by
            exact u32_xor_nat (t2 / 16) _ (by omega) (quarter_lt _)
          clear hte2
          generalize quarterL.getD (t % 16) 0 = qa at *
          generalize quarterL.getD (t2 % 16) 0 = qb at *
          go_wp2
          go_round
          case rel => exact ⟨j + 1, by omega, by go_num, by rw [HST.out]⟩
          case measure => simp [intOf]; omega
        · obtain rfl : j = n' := by omega
          go_wp2
          go_round
          case rel => 
            refine ⟨k + 1, by omega, by go_num, ?_⟩
            rw [take_snoc _ _ hkl, List.flatten_append, crcL_append, Hz.out]
            rw [List.take_of_length_le (show ls[k].length ≤ j by have := Hn'.out; omega)]
            simp
          case measure => simp [intOf]; omega
    · obtain rfl : k = n := by omega
      go_wp2
      go_ret
      have hs := crcL_lt (c := 4294967295) (by omega) ls.flatten
      refine ⟨?_, rfl⟩
      rw [List.take_of_length_le (show ls.length ≤ k by have := Hlen.out; omega)]
      refine ret_int ?_
      unfold sumL
      rw [← xor_ones hs]
      exact u32_xor_nat 4294967295 _ (by omega) hs
set_option maxHeartbeats 400000 in
/-- bits.RotateLeft32 by -15 -/
theorem rot17 (w : World) (x : Nat) (hx : x < 4294967296) :
    Calls Tryz.prog 112 #[.int .u32 (x : Int), .int .i64 (-15)] w fun e w' => e = .returned (.int .u32 (x / 32768 + x % 32768 * 131072 : Nat)) ∧ w = w' := by
  have k1 : bits .and .u64 (IntKind.u64.wrap (-15)) 31 = 17 := by decide +kernel
  go_enter Tryz.func112, Tryz.ntmps112
  go_wp2
  go_ret
  refine ⟨ret_int ?_, rfl⟩
  have e : x / 32768 + x % 32768 * 131072 = (x % 32768 * 131072) ||| (x / 32768) := by
    rw [nat_join 17 _ _ (by omega) (by omega)]; omega
  have h := u32_or_nat (x % 32768 * 131072) (x / 32768) (by omega) (by omega)
  rw [e, ← h]
  congr 1
  omega
def maskL (x : Nat) : Nat := (x / 32768 + x % 32768 * 131072 + 2726488792) % 4294967296
theorem maskL_lt (x : Nat) : maskL x < 4294967296 := by unfold maskL; omega
set_option maxHeartbeats 400000 in
theorem mask_any (w : World) (x : Nat) (hx : x < 4294967296) :
    Calls Tryz.prog 83 #[.int .u32 (x : Int)] w fun e w' => e = .returned (.int .u32 (maskL x : Nat)) ∧ w = w' := by
  go_enter Tryz.func83, Tryz.ntmps83
  go_wp2_with ((with_reducible refine (rot17 _ _ hx).mono ?_); rintro e w' ⟨rfl, rfl⟩)
  go_ret
  refine ⟨ret_int ?_, rfl⟩
  unfold maskL
  omega
theorem Quarter.below {w w' : World} (h : Quarter w) (hb : Below w.heap.size w w') : Quarter w' := fun i hi => by
  have := h i hi
  rw [hb.cell (p := ⟨0, i, none⟩) (World.block_lt_of_cell? _ _ this)]
  exact this
/-- a number's four bytes, the least first -/
def le4 (s : Nat) : List UInt8 := [UInt8.ofNat s, UInt8.ofNat (s / 256), UInt8.ofNat (s / 65536), UInt8.ofNat (s / 16777216)]
def closeL (l : List UInt8) : List UInt8 := l ++ le4 (maskL (sumL l))
/-- one text in a list of one -/
theorem one_part (w : World) (A : Option Addr) (n c : Nat) (l : List UInt8) (h : Sl w 1 A n c (bc l)) (e : TypeId) :
    Sl (w.alloc (.cells #[.slice A n c] e)) 1 (some ⟨w.heap.size, 0, none⟩) 1 1 [.slice A n c] ∧ PartsOf (w.alloc (.cells #[.slice A n c] e)) [.slice A n c] [l] := by
  constructor
  · exact (Own.fresh w 0 e 1 1 1 #[.slice A n c] [.slice A n c] (Nat.zero_le _) (Nat.le_refl _) (by unfold maxLen; omega) rfl rfl rfl).sl
  · refine ⟨rfl, fun i v x hv hx => ?_⟩
    rcases i with _ | i
    · simp at hv hx
      subst hv
      subst hx
      exact ⟨A, n, c, rfl, h.below (by omega) ((Below.refl _ _).alloc (Nat.le_refl _) _)⟩
    · simp at hv

theorem u8i (t : Nat) : (((UInt8.ofNat t).toNat : Nat) : Int) = (t : Int) % 256 := by simp
theorem set_le4 (l : List UInt8) (n s k : Nat) (hl : l.length = n) (hk : k < 4) :
    (l ++ ((le4 s).take k ++ List.replicate (4 - k) 0)).set (n + k) (UInt8.ofNat (s / 256 ^ k)) = l ++ ((le4 s).take (k + 1) ++ List.replicate (4 - (k + 1)) 0) := by
  subst hl
  rw [List.set_append_right _ _ (by omega)]
  congr 1
  obtain rfl | rfl | rfl | rfl : k = 0 ∨ k = 1 ∨ k = 2 ∨ k = 3 := by omega
  all_goals simp [le4, List.replicate]

set_option maxHeartbeats 1000000 in
theorem close_any (w : World) (A : Option Addr) (n c : Nat) (l : List UInt8) (h : Sl w 1 A n c (bc l)) (hq : Quarter w) (hn : n ≤ 70368744177664) :
    Calls Tryz.prog 42 #[.slice A n c] w (NewB w (closeL l)) := by
  obtain ⟨p1, p2⟩ := one_part w A n c l h 29
  have hb0 := (Below.refl w.heap.size w).alloc (Nat.le_refl _) (.cells #[.slice A n c] 29)
  have hq1 := hq.below hb0
  have h1 := h.below (by omega) hb0
  have Hl : Hid (l.length = n) := h.lenb
  have hsm := sumL_lt l
  have hml := maskL_lt (sumL l)
  have hc := h.capm
  unfold maxLen at hc
  go_enter Tryz.func42, Tryz.ntmps42
  go_wp2_with (first
    | ((with_reducible refine (sum_any _ _ _ _ _ _ p1 p2 hq1).mono ?_); rintro e w' ⟨rfl, rfl⟩)
    | ((with_reducible refine (mask_any _ (sumL l) hsm).mono ?_); rintro e w' ⟨rfl, rfl⟩)
    | (at_make; refine wpList_mkB _ rfl (.tmp 12) (.tmp 12) rfl w.heap.size _ _ _ _ (n + 4) rfl rfl ?_ ?_ ?_ ?_ ?_))
  · omega
  · omega
  · omega
  · simp
  intro w1 hown hb1 hz1
  have hs1 := h1.below (by omega) (by simpa using hb1)
  go_wp2_with (with_reducible refine wpList_cpyB _ rfl (.tmp 14) (.tmp 15) rfl w.heap.size _ _ _ _ rfl hown _ n c l rfl hs1 ?_ ?_)
  · omega
  intro w2 hown2 hg2
  have hb2 : Below w.heap.size w w2 := ((hb0.trans (hb1.mono (by simp)))).grown hg2 (by omega) (by simp [blk])
  clear hg2 hb1 hs1 hown hz1 p1 p2 hq1 h1 hb0
  generalize hs : maskL (sumL l) = s at *
  have Hs := Lib.hid hs
  clear hs
  go_wp2
  go_loopw [17] (fun i wr => ∃ k : Nat, k ≤ 4 ∧ i = .int .i64 k ∧ OwnB wr w.heap.size (some ⟨w.heap.size + 1, 0, none⟩) (n + 4) (n + 4) (l ++ ((le4 s).take k ++ List.replicate (4 - k) 0)) ∧ Below w.heap.size w wr) (fun i _ => 4 - (intOf i).toNat)
  case atStart => exact ⟨0, by omega, rfl, by simpa using hown2, hb2⟩
  case round =>
    obtain ⟨k, hk, rfl, hown3, hb3⟩ := hrel
    by_cases hk4 : k < 4
    · obtain ⟨g, o, x, e1, hg, hgl, hx, hcell, hfr⟩ := hown3.place (k := n + k) (by omega)
      obtain ⟨rfl, rfl⟩ : w.heap.size + 1 = g ∧ 0 = o := by simpa using e1
      simp only [Nat.zero_add] at hcell hfr
      clear hx hg hgl e1 hown2 hb2
      have hst : Hid (∀ x : UInt8, OwnB (wr.setCell ⟨w.heap.size + 1, 0 + (n + k), none⟩ (.int .u8 (x.toNat : Int))) w.heap.size (some ⟨w.heap.size + 1, 0, none⟩) (n + 4) (n + 4) ((l ++ ((le4 s).take k ++ List.replicate (4 - k) 0)).set (n + k) x)) :=
        fun x => hown3.stored (k := n + k) (by omega) x
      clear hown3
      have hst2 : Hid (∀ x : Int, x = (s / 256 ^ k : Nat) → OwnB (wr.setCell ⟨w.heap.size + 1, n + k, none⟩ (.int .u8 (x % 256))) w.heap.size (some ⟨w.heap.size + 1, 0, none⟩) (n + 4) (n + 4) (l ++ ((le4 s).take (k + 1) ++ List.replicate (4 - (k + 1)) 0))) := by
        rintro x rfl
        have h := hst.out (UInt8.ofNat (s / 256 ^ k))
        rw [set_le4 l n s k Hl.out hk4, u8i, Nat.zero_add] at h
        exact h
      clear hst
      obtain rfl | rfl | rfl | rfl : k = 0 ∨ k = 1 ∨ k = 2 ∨ k = 3 := by omega
      · simp only [Nat.add_zero] at hcell hfr
        go_wp2
        go_roundw
        case rel => exact ⟨1, by omega, rfl, by simpa using hst2.out s (by simp), hb3.setCell (by simp) _⟩
        case measure => simp [intOf]
      · go_wp2
        go_roundw
        case rel => exact ⟨2, by omega, rfl, by simpa using hst2.out (s / 256) (by simp), hb3.setCell (by simp) _⟩
        case measure => simp [intOf]
      · go_wp2
        go_roundw
        case rel => exact ⟨3, by omega, rfl, by simpa using hst2.out (s / 65536) (by simp), hb3.setCell (by simp) _⟩
        case measure => simp [intOf]
      · go_wp2
        go_roundw
        case rel =>
          have h4 := hst2.out (s / 16777216) (by simp)
          rw [show ((s : Int) / 16777216 % 256) = (s : Int) / 16777216 from by omega] at h4
          exact ⟨4, by omega, rfl, by simpa using h4, hb3.setCell (by simp) _⟩
        case measure => simp [intOf]
    · obtain rfl : k = 4 := by omega
      go_wp2
      go_ret
      refine ⟨_, _, _, rfl, ?_, hb3⟩
      unfold closeL
      rw [Hs.out]
      simpa [le4] using hown3
/-- what a call gives back that makes bytes of its own, or none, and an error's number -/
def NewB2 (w : World) (l : List UInt8) (q : Nat) (e : Ending) (w' : World) : Prop :=
  ∃ (A : Option Addr) (n c : Nat), e = .returned (.tuple #[.slice A n c, .int .i64 (q : Int)]) ∧ OwnB w' w.heap.size A n c l ∧ Below w.heap.size w w'
def openL (l : List UInt8) : List UInt8 × Nat :=
  if l.length < 4 then ([], 2) else if closeL (l.take (l.length - 4)) == l then (l.take (l.length - 4), 0) else ([], 5)

set_option maxHeartbeats 1000000 in
theorem open_any (w : World) (A : Option Addr) (n c : Nat) (l : List UInt8) (h : Sl w 1 A n c (bc l)) (hq : Quarter w) (hn : n ≤ 70368744177664) :
    Calls Tryz.prog 62 #[.slice A n c] w (NewB2 w (openL l).1 (openL l).2) := by
  have hl := h.lenb
  have hc := h.capm
  have hcap := h.cap
  unfold maxLen at hc
  by_cases h4 : n < 4
  · have e1 : openL l = ([], 2) := by unfold openL; rw [if_pos (by omega)]
    rw [e1]
    clear e1 hl
    go_enter Tryz.func62, Tryz.ntmps62
    go_wp2
    go_ret2
    exact ⟨none, 0, 0, rfl, Own.nil _ _ _ _ _, Below.refl _ _⟩
  · obtain ⟨hr, hs⟩ := cutH h .i64 (n - 4 : Nat) (n - 4) rfl (by omega)
    have ec : ((n - 4 : Nat) : Int) = (n : Int) - 4 := by omega
    rw [ec] at hr
    by_cases heq : closeL (l.take (n - 4)) == l
    · have e1 : openL l = (l.take (n - 4), 0) := by unfold openL; rw [hl, if_neg (by omega), if_pos heq]
      rw [e1]
      have Heq := Lib.hid heq
      clear e1 hl heq ec
      go_enter Tryz.func62, Tryz.ntmps62
      go_wp2_with fail
      refine (close_any w A (n - 4) c _ hs hq (by omega)).mono ?_
      rintro e w1 ⟨A1, n1, c1, rfl, ho1, hb1⟩
      have h1 := h.below (by omega) hb1
      have hs1 := hs.below (by omega) hb1
      go_wp2_with fail
      refine (equal_is w1 A1 n1 c1 _ A n c l true Heq ho1.sl h1).mono ?_
      rintro e w' ⟨rfl, rfl⟩
      go_wp2_with fail
      refine (clone_any w1 A (n - 4) c _ hs1 (by omega)).mono ?_
      rintro e w2 ⟨A2, n2, c2, rfl, ho2, hb2⟩
      go_wp2
      go_ret2
      exact ⟨A2, n2, c2, rfl, ho2.mono hb1.size, hb1.trans (hb2.mono hb1.size)⟩
    · have e1 : openL l = ([], 5) := by unfold openL; rw [hl, if_neg (by omega), if_neg heq]
      rw [e1]
      have Heq : Hid ((closeL (l.take (n - 4)) == l) = false) := by unfold Hid; simpa using heq
      clear e1 hl heq ec
      go_enter Tryz.func62, Tryz.ntmps62
      go_wp2_with fail
      refine (close_any w A (n - 4) c _ hs hq (by omega)).mono ?_
      rintro e w1 ⟨A1, n1, c1, rfl, ho1, hb1⟩
      have h1 := h.below (by omega) hb1
      go_wp2_with fail
      refine (equal_is w1 A1 n1 c1 _ A n c l false Heq ho1.sl h1).mono ?_
      rintro e w' ⟨rfl, rfl⟩
      go_wp2
      go_ret2
      exact ⟨none, 0, 0, rfl, Own.nil _ _ _ _ _, hb1⟩
end Go.Proofs.YtpffieogkfndaaaGreatDoor

namespace Go.Proofs.YtpffieogkfndaaaGreatDoor
set_option maxRecDepth 20000
set_option linter.unusedVariables false
set_option linter.unusedSimpArgs false
open Go.RowKit

/-- a row of bits of the call's own -/
def bools (N : Nat) (f : Nat → Bool) : List Value := (List.range N).map fun i => Value.bool (f i)
def OwnF (w : World) (B : Nat) (A : Option Addr) (N : Nat) (f : Nat → Bool) : Prop := Own w B 4 1 A N N (bools N f)
theorem bools_get (N : Nat) (f : Nat → Bool) (k : Nat) (h : k < N) : (bools N f)[k]? = some (.bool (f k)) := by simp [bools, h]
theorem bools_set (N : Nat) (f : Nat → Bool) (k : Nat) (v : Bool) : (bools N f).set k (.bool v) = bools N (fun j => if j = k then v else f j) := by
  apply List.ext_getElem?
  intro j
  simp only [bools, List.getElem?_set, List.getElem?_map, List.length_map, List.length_range]
  by_cases h : k = j
  · subst h
    by_cases hk : k < N
    · simp [hk]
    · simp [hk]
  · by_cases hj : j < N
    · simp [h, hj, Ne.symm h]
    · simp [h, hj]
theorem OwnF.place {w : World} {B : Nat} {g N : Nat} {f : Nat → Bool} (h : OwnF w B (some ⟨g, 0, none⟩) N f) {k : Nat} (hk : k < N) :
    w.cell? ⟨g, k, none⟩ = some (.bool (f k)) ∧ w.frozen? ⟨g, k, none⟩ = false := by
  obtain ⟨g', o, u, e, _, _, hu, hc, hf⟩ := Own.place h hk
  obtain ⟨rfl, rfl⟩ : g = g' ∧ 0 = o := by simpa using e
  rw [bools_get N f k hk] at hu
  obtain rfl := Option.some.inj hu
  rw [Nat.zero_add] at hc hf
  exact ⟨hc, hf⟩
theorem OwnF.stored {w : World} {B : Nat} {g N : Nat} {f : Nat → Bool} (h : OwnF w B (some ⟨g, 0, none⟩) N f) {k : Nat} (hk : k < N) (v : Bool) (f' : Nat → Bool) (hf : ∀ j, j < N → f' j = if j = k then v else f j) :
    OwnF (w.setCell ⟨g, k, none⟩ (.bool v)) B (some ⟨g, 0, none⟩) N f' := by
  have := Own.stored h hk (.bool v)
  rw [Nat.zero_add, bools_set] at this
  unfold OwnF
  have e : bools N f' = bools N (fun j => if j = k then v else f j) := by
    unfold bools
    apply List.map_congr_left
    intro j hj
    rw [hf j (by simpa using hj)]
  rw [e]
  exact this
theorem OwnF.congr {w : World} {B : Nat} {A : Option Addr} {N : Nat} {f f' : Nat → Bool} (h : OwnF w B A N f) (hf : ∀ j, j < N → f' j = f j) : OwnF w B A N f' := by
  unfold OwnF
  have e : bools N f' = bools N f := by
    unfold bools
    apply List.map_congr_left
    intro j hj
    rw [hf j (by simpa using hj)]
  rw [e]
  exact h
/-- the powers in memory -/
def byV : List Value := byL.map fun (k : Nat) => Value.int .i64 (k : Int)
theorem byV_get (t : Nat) (h : t < 17) : ∃ k, byL[t]? = some k ∧ k ≤ 28 ∧ byV[t]? = some (.int .i64 (k : Int)) := by
  have hl : t < byL.length := h
  refine ⟨byL[t], List.getElem?_eq_getElem hl, by_small _ (List.getElem_mem hl), ?_⟩
  simp [byV, List.getElem?_eq_getElem hl]
theorem infoF : (Tryz.prog.info? 4).map (fun i => (i.zero, i.size, i.bytes)) = some (some (.bool false), 1, 1) := by kernel_rfl

set_option maxHeartbeats 2000000 in
theorem rsum_any (w : World) (A : Option Addr) (n c : Nat) (l : List UInt8) (h : Sl w 1 A n c (bc l)) (hn : n ≤ 4398046511104) :
    Calls Tryz.prog 93 #[.slice A n c] w fun e w' => e = .returned (.int .u32 (sumL l : Nat)) ∧ Below w.heap.size w w' := by
  have Hl : Hid (l.length = n) := h.lenb
  obtain ⟨i0, hi0, hz, hs1, hb1⟩ := info_parts infoF
  obtain ⟨N, hN⟩ : ∃ N, N = 8 * n + 32 := ⟨_, rfl⟩
  have HN := Lib.hid hN
  have hN1 : 32 ≤ N := by omega
  have hN2 : N ≤ 35184372088864 := by omega
  clear hN
  go_enter Tryz.func93, Tryz.ntmps93
  go_wp2_with (at_make; refine wpList_mk _ rfl (.tmp 15) (.tmp 15) _ rfl w.heap.size 4 i0 (.bool false) 1 Tryz.underlying137 hi0 hz hs1 hb1 rfl _ _ _ _ N rfl rfl ?_ ?_ ?_ ?_ ?_ ?_)
  · have := HN.out; omega
  · have := HN.out; omega
  · omega
  · unfold maxLen; omega
  · exact Nat.le_refl _
  intro w1 hown1 hb1 _
  have hown1 : OwnF w1 w.heap.size (some ⟨w.heap.size, 0, none⟩) N (fun _ => false) := by
    unfold OwnF bools
    have e : (List.range N).map (fun _ => Value.bool false) = List.replicate N (.bool false) := by
      apply List.ext_getElem?
      intro j
      by_cases hj : j < N <;> simp [hj]
    rw [e]
    exact hown1
  clear hi0 hz hs1
  have h1 := h.below (by omega) hb1
  have hc := h.capm
  unfold maxLen at hc
  go_wp2
  go_loopw [20] (fun i wr => ∃ k : Nat, k ≤ 8 * n ∧ i = .int .i64 k ∧ Below w.heap.size w wr ∧ ∃ f, OwnF wr w.heap.size (some ⟨w.heap.size, 0, none⟩) N f ∧ Hid (∀ j, j < N → f j = (mbit l j && decide (j < k)))) (fun i _ => 8 * n - (intOf i).toNat)
  case atStart => exact ⟨0, Nat.zero_le _, rfl, hb1, _, hown1, by intro j _; simp⟩
  case round =>
    obtain ⟨k, hk, rfl, hbr, f, hof, Hf⟩ := hrel
    by_cases hlt : k < 8 * n
    · obtain ⟨b, o, x, rfl, hx, hxl, hbyte⟩ := (h.below (by omega) hbr).byte (k := k / 8) (by have := Hl.out; omega)
      have HX := Lib.hid hx
      obtain ⟨hcell, hfr⟩ := hof.place (k := k) (by have := HN.out; omega)
      have Hof := Lib.hid hof
      clear hx hof
      have hkN : k < N := by have := HN.out; omega
      go_wp2
      go_roundw
      case rel =>
        refine ⟨k + 1, by omega, by go_num, hbr.setCell (Nat.le_refl _) _, fun j => mbit l j && decide (j < k + 1), ?_, fun j _ => rfl⟩
        refine Hof.out.stored hkN _ _ (fun j hj => ?_)
        rw [bit_spelt, ← HX.out, Hf.out j hj]
        by_cases e : j = k
        · subst e
          simp only [↓reduceIte]
          have hkl : j / 8 < l.length := by have := Hl.out; omega
          simp [mbit, List.getD_eq_getElem?_getD, List.getElem?_eq_getElem hkl]
        · rw [if_neg e]
          by_cases e2 : j < k
          · simp [e2, show j < k + 1 by omega]
          · simp [e2, show ¬ j < k + 1 by omega]
      case measure => simp [intOf]; omega
    · obtain rfl : k = 8 * n := by omega
      have hof2 : OwnF wr w.heap.size (some ⟨w.heap.size, 0, none⟩) N (mbit l) := hof.congr fun j hj => by
        rw [Hf.out j hj]
        by_cases e : j < 8 * n
        · simp [e]
        · simp [e, mbit_past l j (by have := Hl.out; omega)]
      clear hof Hf h hown1 hb1 h1
      go_wp2
      go_loopw [38] (fun i wr => ∃ k : Nat, k ≤ 32 ∧ i = .int .i64 k ∧ Below w.heap.size w wr ∧ ∃ f, OwnF wr w.heap.size (some ⟨w.heap.size, 0, none⟩) N f ∧ Hid (∀ j, j < N → f j = (mbit l j ^^ decide (j < k)))) (fun i _ => 32 - (intOf i).toNat)
      case atStart => exact ⟨0, Nat.zero_le _, rfl, hbr, _, hof2, by intro j _; simp⟩
      case round =>
        clear hof2 hbr
        obtain ⟨k, hk, rfl, hbr, f, hof, Hf⟩ := hrel
        by_cases hlt : k < 32
        · obtain ⟨hcell, hfr⟩ := hof.place (k := k) (by omega)
          have Hof := Lib.hid hof
          clear hof
          have hkN : k < N := by omega
          go_wp2
          go_roundw
          case rel =>
            refine ⟨k + 1, by omega, by go_num, hbr.setCell (Nat.le_refl _) _, fun j => (mbit l j ^^ decide (j < k + 1)), ?_, fun j _ => rfl⟩
            refine Hof.out.stored hkN _ _ (fun j hj => ?_)
            rw [Hf.out k hkN, Hf.out j hj]
            by_cases e : j = k
            · subst e
              simp
            · rw [if_neg e]
              by_cases e2 : j < k
              · simp [e2, show j < k + 1 by omega]
              · simp [e2, show ¬ j < k + 1 by omega]
          case measure => simp [intOf]; omega
        · obtain rfl : k = 32 := by omega
          have hof2 := hof
          obtain ⟨wo, rfl⟩ : ∃ wo : World, wo = wr := ⟨_, rfl⟩
          have hgb : w.heap.size < wo.heap.size := (Own.lt hof _ (by simp [blk]; omega)).2
          have hba := (Below.refl wo.heap.size wo).alloc (Nat.le_refl _) (.cells byV.toArray 3)
          have hby : Own (wo.alloc (.cells byV.toArray 3)) 0 3 1 (some ⟨wo.heap.size, 0, none⟩) 17 17 byV :=
            Own.fresh wo 0 3 1 17 17 _ _ (Nat.zero_le _) (Nat.le_refl _) (by unfold maxLen; omega) rfl rfl rfl
          have hof3 := Own.below hof hba
          have hw3 : Win N (mbit l) 0 f := Win.start N _ _ (fun j hj => Hf.out j hj) hN1
          have hbr3 := hbr.trans (hba.mono hbr.size)
          clear hof Hf hba hbr hof2
          go_wp2
          go_loopw [7] (fun i wr => ∃ k : Nat, k ≤ 8 * n ∧ i = .int .i64 k ∧ Below w.heap.size w wr ∧ Own wr 0 3 1 (some ⟨wo.heap.size, 0, none⟩) 17 17 byV ∧ ∃ f, OwnF wr w.heap.size (some ⟨w.heap.size, 0, none⟩) N f ∧ Win N (mbit l) k f) (fun i _ => 8 * n - (intOf i).toNat)
          case atStart => exact ⟨0, Nat.zero_le _, rfl, hbr3, hby, f, hof3, hw3⟩
          case round =>
            clear hof3 hbr3 hby hw3
            obtain ⟨k, hk, rfl, hbr, hby, f, hof, hw⟩ := hrel
            by_cases hlt : k < 8 * n
            · have hkN : k + 32 < N := by have := HN.out; omega
              obtain ⟨hcell, hfr⟩ := hof.place (k := k) (by omega)
              have Hof := Lib.hid hof
              cases hfk : f k with
              | false =>
                rw [hfk] at hcell
                have Hw := Lib.hid (hw.zero hfk hkN)
                clear hof hw hfk
                go_wp2
                go_roundw
                case rel => exact ⟨k + 1, by omega, by go_num, hbr, hby, f, Hof.out, Hw.out⟩
                case measure => simp [intOf]; omega
              | true =>
                rw [hfk] at hcell
                have Hw := Lib.hid hw
                have Hfk := Lib.hid hfk
                clear hof hw hfk
                go_wp2
                obtain ⟨wi, rfl⟩ : ∃ wi : World, wi = wr := ⟨_, rfl⟩
                go_loopw [64] (fun i wr => ∃ t : Nat, t ≤ 17 ∧ i = .int .i64 t ∧ Below w.heap.size w wr ∧ Own wr 0 3 1 (some ⟨wo.heap.size, 0, none⟩) 17 17 byV ∧ ∃ f', OwnF wr w.heap.size (some ⟨w.heap.size, 0, none⟩) N f' ∧ Hid (∀ j, j < N → f' j = (f j ^^ hits (byL.take t) (fun b => decide (k + 32 - b = j))))) (fun i _ => 17 - (intOf i).toNat)
                case atStart => exact ⟨0, Nat.zero_le _, rfl, hbr, hby, f, Hof.out, fun j _ => by simp [hits]⟩
                case round =>
                  clear hcell hfr hbr hby
                  obtain ⟨t, ht, rfl, hbr, hby, f', hof', Hf'⟩ := hrel
                  by_cases htl : t < 17
                  · obtain ⟨bk, hbk, hb28, hbv⟩ := byV_get t htl
                    obtain ⟨gb, ob, ub, eb, _, _, hub, hcb, _⟩ := Own.place hby htl
                    obtain ⟨rfl, rfl⟩ : wo.heap.size = gb ∧ 0 = ob := by simpa using eb
                    rw [hbv] at hub
                    obtain rfl := Option.some.inj hub
                    rw [Nat.zero_add] at hcb
                    obtain ⟨hcell, hfr⟩ := hof'.place (k := k + 32 - bk) (by omega)
                    have Hof' := Lib.hid hof'
                    have Hbk := Lib.hid hbk
                    have hidx : k + 32 - bk < N := by omega
                    have Hby := Lib.hid hby
                    clear hof' eb hub hbv hbk hby
                    go_wp2
                    go_roundw
                    case rel =>
                      refine ⟨t + 1, by omega, by go_num, hbr.setCell (Nat.le_refl _) _, Hby.out.keep (fun b e => Below.heap_setCell _ _ _ _ (by simp [blk] at e; simp; omega)), fun j => (f j ^^ hits (byL.take (t + 1)) (fun b => decide (k + 32 - b = j))), ?_, fun j _ => rfl⟩
                      refine Hof'.out.stored hidx _ _ (fun j hj => ?_)
                      have hl : t < byL.length := htl
                      have e1 : byL[t] = bk := by have := Hbk.out; rw [List.getElem?_eq_getElem hl] at this; exact Option.some.inj this
                      rw [take_snoc byL t hl, hits_snoc, e1, ← Bool.xor_assoc, ← Hf'.out j hj]
                      by_cases e : j = k + 32 - bk
                      · subst e
                        simp
                      · rw [if_neg e]
                        simp [Ne.symm e]
                    case measure => simp [intOf]; omega
                  · obtain rfl : t = 17 := by omega
                    have hw2 := Hw.out.one Hfk.out (f' := f') (fun j hj => by rw [Hf'.out j hj]; rfl) hkN
                    have Hw2 := Lib.hid hw2
                    have Hof' := Lib.hid hof'
                    have Hby := Lib.hid hby
                    clear hw2 hof' hby
                    go_wp2
                    go_roundw
                    case rel => exact ⟨k + 1, by omega, by go_num, hbr, Hby.out, f', Hof'.out, Hw2.out⟩
                    case measure => simp [intOf]; omega
            · obtain rfl : k = 8 * n := by omega
              have hNN : ¬ 8 * n + 32 < N := by have := HN.out; omega
              have hbit : ∀ j, j < 32 → (!f (8 * n + j)) = (sumL l).testBit j := fun j hj => by
                have hl := Hl.out
                subst hl
                have e : N = 8 * l.length + 32 := HN.out
                subst e
                rw [hw.last (mbit_past l) j hj, sum_reg]
              have Hbit := Lib.hid hbit
              have hS := sumL_lt l
              clear hbit hw hby
              generalize hSe : sumL l = S at *
              have HSe := Lib.hid hSe
              clear hSe
              go_wp2
              go_loop [10, 11] (fun s i => ∃ (z : Int) (j : Nat), z = (j : Int) - 1 ∧ j ≤ 32 ∧ i = .int .i64 z ∧ s = .int .u32 (S / 2 ^ j : Nat)) (fun _ i => (intOf i + 1).toNat)
              case atStart => exact ⟨31, 32, by omega, by omega, rfl, by simp; omega⟩
              case round =>
                obtain ⟨z, j, hz, hj, rfl, rfl⟩ := hrel
                rcases Nat.eq_zero_or_pos j with h0 | h0
                · subst h0
                  obtain rfl : z = -1 := by omega
                  clear hz
                  go_wp2
                  go_ret
                  exact ⟨ret_int (by rw [HSe.out]), hbr⟩
                · obtain ⟨j, rfl⟩ : ∃ i, j = i + 1 := ⟨j - 1, by omega⟩
                  obtain rfl : z = (j : Int) := by omega
                  clear hz
                  obtain ⟨hcell, hfr⟩ := hof.place (k := 8 * n + j) (by have := HN.out; omega)
                  have hst := high_step S j
                  rw [← Hbit.out j (by omega)] at hst
                  have hlt : S / 2 ^ j < 4294967296 := Nat.lt_of_le_of_lt (Nat.div_le_self _ _) hS
                  have hNN2 : N = 8 * n + 32 := HN.out
                  generalize S / 2 ^ (j + 1) = s1 at *
                  generalize hs2 : S / 2 ^ j = s2 at *
                  have Hs2 := Lib.hid hs2
                  have Hof := Lib.hid hof
                  clear hof hs2
                  have hNi : (N : Int) - 32 + j = ((8 * n + j : Nat) : Int) := by omega
                  have hNj : 8 * n + j < N := by omega
                  clear hNN2
                  cases hfb : f (8 * n + j)
                  all_goals
                    rw [hfb] at hcell hst
                    have hst2 : s2 = 2 * s1 ∨ s2 = 2 * s1 + 1 := by simp at hst; omega
                    have Hst := Lib.hid hst
                    clear hst hfb
                    go_wp2
                    go_round
                    case rel =>
                      refine ⟨_, j, rfl, by omega, rfl, ?_⟩
                      rw [Hs2.out]
                      congr 1
                      have := Hst.out
                      simp at this
                      omega
                    case measure => simp [intOf]
end Go.Proofs.YtpffieogkfndaaaGreatDoor
