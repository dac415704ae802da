/-
  SealBits, SealWalk, TabPlain, TabOpenP in one text. No condition but sizes.
-/
import Derived.Test.YtpffieogkfndaaaDoorJBridge
import Derived.Test.YtpffieogkfndaaaDoorJKeyReadW
import Derived.Test.YtpffieogkfndaaaDoorProg
namespace Go.Proofs.YtpffieogkfndaaaDoor
set_option maxRecDepth 20000
set_option linter.unusedVariables false
set_option linter.unusedSimpArgs false

/-- the polynomial, turned -/
def polyN : Nat := 0x82f63b78
def step0 (c : Nat) : Nat := (c / 2) ^^^ (if c % 2 = 1 then polyN else 0)

theorem testBit_half (c j : Nat) : (c / 2).testBit j = c.testBit (j + 1) := by
  rw [Nat.testBit_succ]
theorem testBit_step0 (c j : Nat) : (step0 c).testBit j = (c.testBit (j + 1) ^^ (c.testBit 0 && polyN.testBit j)) := by
  unfold step0
  rw [Nat.testBit_xor, testBit_half, Nat.testBit_zero]
  by_cases h : c % 2 = 1 <;> simp [h]
theorem step0_lt {c : Nat} (h : c < 4294967296) : step0 c < 4294967296 := by
  unfold step0
  refine Nat.xor_lt_two_pow (n := 32) (by omega) ?_
  split <;> decide
/-- the register behind i bits -/
def reg (c : Nat) (m : Nat → Bool) : Nat → Nat
  | 0 => c
  | i + 1 => step0 (reg c m i ^^^ (m i).toNat)
theorem reg_lt {c : Nat} (h : c < 4294967296) (m : Nat → Bool) (i : Nat) : reg c m i < 4294967296 := by
  induction i with
  | zero => exact h
  | succ i ih => exact step0_lt (Nat.xor_lt_two_pow (n := 32) ih (by cases m i <;> decide))
/-- the powers, as the reference lists them -/
def byL : List Nat := [0, 6, 8, 9, 10, 11, 13, 14, 18, 19, 20, 22, 23, 25, 26, 27, 28]
/-- how often, odd or even -/
def hits (l : List Nat) (p : Nat → Bool) : Bool := l.foldr (fun k b => p k ^^ b) false
theorem by_poly : ∀ j : Fin 32, hits byL (fun k => decide (31 - k = j.val)) = polyN.testBit j.val := by decide
theorem by_small : ∀ k ∈ byL, k ≤ 28 := by decide
theorem any_same {p q : Nat → Bool} (l : List Nat) (h : ∀ x ∈ l, p x = q x) : hits l p = hits l q := by
  induction l with
  | nil => rfl
  | cons x r ih =>
    have e : ∀ p, hits (x :: r) p = (p x ^^ hits r p) := fun _ => rfl
    rw [e, e, h x (by simp), ih fun y hy => h y (by simp [hy])]
theorem hits_none (l : List Nat) : hits l (fun _ => false) = false := by
  induction l with
  | nil => rfl
  | cons x r ih => show (false ^^ hits r _) = false; rw [ih]; rfl
/-- what the division's list of bits holds when the first i of them are done -/
def Win (N : Nat) (m : Nat → Bool) (i : Nat) (f : Nat → Bool) : Prop :=
  (∀ j, j < 32 → f (i + j) = ((reg 4294967295 m i).testBit j ^^ m (i + j))) ∧ ∀ j, i + 32 ≤ j → j < N → f j = m j
/-- a bit that is set: the polynomial goes off -/
theorem Win.one {N : Nat} {m : Nat → Bool} {i : Nat} {f f' : Nat → Bool} (h : Win N m i f) (hi : f i = true) (hf : ∀ j, j < N → f' j = (f j ^^ hits byL (fun k => decide (i + 32 - k = j)))) (hN : i + 32 < N) : Win N m (i + 1) f' := by
  have h0 := h.1 0 (by omega)
  rw [Nat.add_zero, hi] at h0
  have hx : ((reg 4294967295 m i ^^^ (m i).toNat).testBit 0) = true := by
    rw [Nat.testBit_xor, h0]
    cases m i <;> rfl
  have hb : ∀ j, j < 32 → hits byL (fun k => decide (i + 32 - k = i + 1 + j)) = polyN.testBit j := by
    intro j hj
    rw [← by_poly ⟨j, hj⟩]
    apply any_same
    intro k hk
    have := by_small k hk
    simp only [decide_eq_decide]
    omega
  constructor
  · intro j hj
    rw [hf _ (by omega), hb j hj]
    simp only [reg, testBit_step0]
    rw [hx]
    rcases Nat.lt_or_ge j 31 with hj1 | hj1
    · have := h.1 (j + 1) (by omega)
      rw [show i + 1 + j = i + (j + 1) by omega, this, Nat.testBit_xor]
      have : ((m i).toNat).testBit (j + 1) = false := by cases m i <;> simp [Nat.testBit_succ]
      rw [this]
      cases (reg 4294967295 m i).testBit (j + 1) <;> cases m (i + (j + 1)) <;> cases polyN.testBit j <;> rfl
    · obtain rfl : j = 31 := by omega
      have := h.2 (i + 1 + 31) (by omega) (by omega)
      rw [this]
      have : (reg 4294967295 m i ^^^ (m i).toNat).testBit (31 + 1) = false := by
        apply Nat.testBit_lt_two_pow
        exact Nat.xor_lt_two_pow (n := 32) (reg_lt (by omega) m i) (by cases m i <;> decide)
      rw [this]
      cases m (i + 1 + 31) <;> cases polyN.testBit 31 <;> rfl
  · intro j h1 h2
    rw [hf j h2, h.2 j (by omega) h2]
    have : hits byL (fun k => decide (i + 32 - k = j)) = false := by
      rw [any_same byL (q := fun _ => false) (fun k _ => by simp; omega), hits_none]
    rw [this]
    simp
/-- one that is not -/
theorem Win.zero {N : Nat} {m : Nat → Bool} {i : Nat} {f : Nat → Bool} (h : Win N m i f) (hi : f i = false) (hN : i + 32 < N) : Win N m (i + 1) f := by
  have h0 := h.1 0 (by omega)
  rw [Nat.add_zero, hi] at h0
  have hx : ((reg 4294967295 m i ^^^ (m i).toNat).testBit 0) = false := by
    rw [Nat.testBit_xor]
    cases hm : m i <;> rw [hm] at h0 <;> simp at h0 <;> simp [h0]
  constructor
  · intro j hj
    simp only [reg, testBit_step0]
    rw [hx]
    rcases Nat.lt_or_ge j 31 with hj1 | hj1
    · have := h.1 (j + 1) (by omega)
      rw [show i + 1 + j = i + (j + 1) by omega, this, Nat.testBit_xor]
      have : ((m i).toNat).testBit (j + 1) = false := by cases m i <;> simp [Nat.testBit_succ]
      rw [this]
      simp
    · obtain rfl : j = 31 := by omega
      have := h.2 (i + 1 + 31) (by omega) (by omega)
      rw [this]
      have : (reg 4294967295 m i ^^^ (m i).toNat).testBit (31 + 1) = false := by
        apply Nat.testBit_lt_two_pow
        exact Nat.xor_lt_two_pow (n := 32) (reg_lt (by omega) m i) (by cases m i <;> decide)
      rw [this]
      simp
  · intro j h1 h2
    exact h.2 j (by omega) h2
/-- the bits that are left are the sum's, turned -/
theorem Win.last {m : Nat → Bool} {i : Nat} {f : Nat → Bool} (h : Win (i + 32) m i f) (hm : ∀ j, i ≤ j → m j = false) (j : Nat) (hj : j < 32) : (!f (i + j)) = (4294967295 - reg 4294967295 m i).testBit j := by
  rw [h.1 j hj, hm _ (by omega), ← xor_ones (reg_lt (by omega) m i), Nat.testBit_xor]
  have : (4294967295 : Nat).testBit j = true := by
    have := Nat.testBit_two_pow_sub_one 32 j
    simp at this
    rw [this]
    simpa using hj
  rw [this]
  simp
end Go.Proofs.YtpffieogkfndaaaDoor

namespace Go.Proofs.YtpffieogkfndaaaDoor
set_option maxRecDepth 20000
set_option linter.unusedVariables false
set_option linter.unusedSimpArgs false
open Go.RowKit

/-- the table lies in its variable -/
def Quarter (w : World) : Prop := ∀ i, i < 16 → w.cell? ⟨0, i, none⟩ = some (.int .u32 (quarterL.getD i 0 : Nat))

set_option maxHeartbeats 400000 in
theorem sum_any (w : World) (A : Option Addr) (n c : Nat) (vs : List Value) (ls : List (List UInt8)) (h : Sl w 1 A n c vs) (hp : PartsOf w vs ls) (hq : Quarter w) :
    Calls Tryd.prog 57 #[.slice A n c] w fun e w' => e = .returned (.int .u32 (sumL ls.flatten : Nat)) ∧ w = w' := by
  have hm := h.capm
  have hcap := h.cap
  unfold maxLen at hm
  have hlen := h.len
  have hpl := hp.1
  have Hlen : Hid (ls.length = n) := by unfold Hid; omega
  clear hlen hpl
  go_enter Tryd.func57, Tryd.ntmps57
  go_wp2
  go_loop [3, 10] (fun s i => ∃ k : Nat, k ≤ n ∧ i = .int .i64 k ∧ s = .int .u32 (crcL 4294967295 (ls.take k).flatten : Nat)) (fun _ i => n - (intOf i).toNat)
  case atStart => exact ⟨0, Nat.zero_le _, rfl, rfl⟩
  case round =>
    obtain ⟨k, hk, rfl, rfl⟩ := hrel
    by_cases hlt : k < n
    · obtain ⟨b, o, A', n', c', hkl, rfl, hcell, hsl⟩ := hp.get h hlt
      have Hn' : Hid (ls[k].length = n') := hsl.lenb
      have hm' := hsl.capm
      have hcap' := hsl.cap
      unfold maxLen at hm'
      have hs0 := crcL_lt (c := 4294967295) (by omega) (ls.take k).flatten
      generalize hz : crcL 4294967295 (ls.take k).flatten = z at *
      have Hz := Lib.hid hz
      clear hz
      go_wp2
      go_loop [3, 16] (fun s i => ∃ j : Nat, j ≤ n' ∧ i = .int .i64 j ∧ s = .int .u32 (crcL z (ls[k].take j) : Nat)) (fun _ i => n' - (intOf i).toNat)
      case atStart => exact ⟨0, Nat.zero_le _, rfl, rfl⟩
      case round =>
        obtain ⟨j, hj, rfl, rfl⟩ := hrel
        by_cases hjn : j < n'
        · have hjl : j < ls[k].length := by have := Hn'.out; omega
          obtain ⟨b', o', x, rfl, hxe, hx, hbyte⟩ := hsl.byte hjl
          have hs1 := crcL_lt hs0 (ls[k].take j)
          have Hst := crcL_snoc z (ls[k].take j) ls[k][j]
          rw [← take_snoc _ _ hjl, hxe] at Hst
          clear hxe
          generalize crcL z (ls[k].take j) = y at *
          obtain ⟨t, hte, htl⟩ : ∃ t : Nat, y ^^^ x = t ∧ t < 4294967296 := ⟨_, rfl, Nat.xor_lt_two_pow (n := 32) hs1 (by omega)⟩
          have e1 : bits .xor .u32 (y : Int) (x : Int) = (t : Int) := by rw [u32_xor_nat _ _ hs1 (by omega), hte]
          obtain ⟨t2, hte2, htl2⟩ : ∃ t2 : Nat, nib t = t2 ∧ t2 < 4294967296 := ⟨_, rfl, nib_lt htl⟩
          unfold stepB at Hst
          rw [hte, hte2] at Hst
          have HST := Lib.hid Hst
          clear Hst hte
          have e2 : bits .and .u32 (t : Int) 15 = ((t % 16 : Nat) : Int) := by rw [← nat_mask4]; exact u32_and_nat t 15 htl (by omega)
          have e3 : bits .and .u32 (t2 : Int) 15 = ((t2 % 16 : Nat) : Int) := by rw [← nat_mask4]; exact u32_and_nat t2 15 htl2 (by omega)
          have q1 := hq (t % 16) (by omega)
          have q2 := hq (t2 % 16) (by omega)
          have e4 : bits .xor .u32 ((t : Int) / 16) (quarterL.getD (t % 16) 0 : Nat) = (t2 : Int) := by
            rw [← hte2]; exact u32_xor_nat (t / 16) _ (by omega) (quarter_lt _)
          have e5 : bits .xor .u32 ((t2 : Int) / 16) (quarterL.getD (t2 % 16) 0 : Nat) = (nib t2 : Nat) := by
            exact u32_xor_nat (t2 / 16) _ (by omega) (quarter_lt _)
          clear hte2
          generalize quarterL.getD (t % 16) 0 = qa at *
          generalize quarterL.getD (t2 % 16) 0 = qb at *
          go_wp2
          go_round
          case rel => exact ⟨j + 1, by omega, by go_num, by rw [HST.out]⟩
          case measure => simp [intOf]; omega
        · obtain rfl : j = n' := by omega
          go_wp2
          go_round
          case rel => 
            refine ⟨k + 1, by omega, by go_num, ?_⟩
            rw [take_snoc _ _ hkl, List.flatten_append, crcL_append, Hz.out]
            rw [List.take_of_length_le (show ls[k].length ≤ j by have := Hn'.out; omega)]
            simp
          case measure => simp [intOf]; omega
    · obtain rfl : k = n := by omega
      go_wp2
      go_ret
      have hs := crcL_lt (c := 4294967295) (by omega) ls.flatten
      refine ⟨?_, rfl⟩
      rw [List.take_of_length_le (show ls.length ≤ k by have := Hlen.out; omega)]
      refine ret_int ?_
      unfold sumL
      rw [← xor_ones hs]
      exact u32_xor_nat 4294967295 _ (by omega) hs
set_option maxHeartbeats 400000 in
/-- bits.RotateLeft32 by -15 -/
theorem rot17 (w : World) (x : Nat) (hx : x < 4294967296) :
    Calls Tryd.prog 79 #[.int .u32 (x : Int), .int .i64 (-15)] w fun e w' => e = .returned (.int .u32 (x / 32768 + x % 32768 * 131072 : Nat)) ∧ w = w' := by
  have k1 : bits .and .u64 (IntKind.u64.wrap (-15)) 31 = 17 := by decide +kernel
  go_enter Tryd.func79, Tryd.ntmps79
  go_wp2
  go_ret
  refine ⟨ret_int ?_, rfl⟩
  have e : x / 32768 + x % 32768 * 131072 = (x % 32768 * 131072) ||| (x / 32768) := by
    rw [nat_join 17 _ _ (by omega) (by omega)]; omega
  have h := u32_or_nat (x % 32768 * 131072) (x / 32768) (by omega) (by omega)
  rw [e, ← h]
  congr 1
  omega
def maskL (x : Nat) : Nat := (x / 32768 + x % 32768 * 131072 + 2726488792) % 4294967296
theorem maskL_lt (x : Nat) : maskL x < 4294967296 := by unfold maskL; omega
set_option maxHeartbeats 400000 in
theorem mask_any (w : World) (x : Nat) (hx : x < 4294967296) :
    Calls Tryd.prog 56 #[.int .u32 (x : Int)] w fun e w' => e = .returned (.int .u32 (maskL x : Nat)) ∧ w = w' := by
  go_enter Tryd.func56, Tryd.ntmps56
  go_wp2_with ((with_reducible refine (rot17 _ _ hx).mono ?_); rintro e w' ⟨rfl, rfl⟩)
  go_ret
  refine ⟨ret_int ?_, rfl⟩
  unfold maskL
  omega
theorem Quarter.below {w w' : World} (h : Quarter w) (hb : Below w.heap.size w w') : Quarter w' := fun i hi => by
  have := h i hi
  rw [hb.cell (p := ⟨0, i, none⟩) (World.block_lt_of_cell? _ _ this)]
  exact this
/-- a number's four bytes, the least first -/
def le4 (s : Nat) : List UInt8 := [UInt8.ofNat s, UInt8.ofNat (s / 256), UInt8.ofNat (s / 65536), UInt8.ofNat (s / 16777216)]
def closeL (l : List UInt8) : List UInt8 := l ++ le4 (maskL (sumL l))
/-- one text in a list of one -/
theorem one_part (w : World) (A : Option Addr) (n c : Nat) (l : List UInt8) (h : Sl w 1 A n c (bc l)) (e : TypeId) :
    Sl (w.alloc (.cells #[.slice A n c] e)) 1 (some ⟨w.heap.size, 0, none⟩) 1 1 [.slice A n c] ∧ PartsOf (w.alloc (.cells #[.slice A n c] e)) [.slice A n c] [l] := by
  constructor
  · exact (Own.fresh w 0 e 1 1 1 #[.slice A n c] [.slice A n c] (Nat.zero_le _) (Nat.le_refl _) (by unfold maxLen; omega) rfl rfl rfl).sl
  · refine ⟨rfl, fun i v x hv hx => ?_⟩
    rcases i with _ | i
    · simp at hv hx
      subst hv
      subst hx
      exact ⟨A, n, c, rfl, h.below (by omega) ((Below.refl _ _).alloc (Nat.le_refl _) _)⟩
    · simp at hv

theorem u8i (t : Nat) : (((UInt8.ofNat t).toNat : Nat) : Int) = (t : Int) % 256 := by simp
theorem set_le4 (l : List UInt8) (n s k : Nat) (hl : l.length = n) (hk : k < 4) :
    (l ++ ((le4 s).take k ++ List.replicate (4 - k) 0)).set (n + k) (UInt8.ofNat (s / 256 ^ k)) = l ++ ((le4 s).take (k + 1) ++ List.replicate (4 - (k + 1)) 0) := by
  subst hl
  rw [List.set_append_right _ _ (by omega)]
  congr 1
  obtain rfl | rfl | rfl | rfl : k = 0 ∨ k = 1 ∨ k = 2 ∨ k = 3 := by omega
  all_goals simp [le4, List.replicate]

set_option maxHeartbeats 1000000 in
theorem close_any (w : World) (A : Option Addr) (n c : Nat) (l : List UInt8) (h : Sl w 1 A n c (bc l)) (hq : Quarter w) (hn : n ≤ 70368744177664) :
    Calls Tryd.prog 27 #[.slice A n c] w (NewB w (closeL l)) := by
  obtain ⟨p1, p2⟩ := one_part w A n c l h 29
  have hb0 := (Below.refl w.heap.size w).alloc (Nat.le_refl _) (.cells #[.slice A n c] 29)
  have hq1 := hq.below hb0
  have h1 := h.below (by omega) hb0
  have Hl : Hid (l.length = n) := h.lenb
  have hsm := sumL_lt l
  have hml := maskL_lt (sumL l)
  have hc := h.capm
  unfold maxLen at hc
  go_enter Tryd.func27, Tryd.ntmps27
  go_wp2_with (first
    | ((with_reducible refine (sum_any _ _ _ _ _ _ p1 p2 hq1).mono ?_); rintro e w' ⟨rfl, rfl⟩)
    | ((with_reducible refine (mask_any _ (sumL l) hsm).mono ?_); rintro e w' ⟨rfl, rfl⟩)
    | (at_make; refine wpList_mkB _ rfl (.tmp 12) (.tmp 12) rfl w.heap.size _ _ _ _ (n + 4) rfl rfl ?_ ?_ ?_ ?_ ?_))
  · omega
  · omega
  · omega
  · simp
  intro w1 hown hb1 hz1
  have hs1 := h1.below (by omega) (by simpa using hb1)
  go_wp2_with (with_reducible refine wpList_cpyB _ rfl (.tmp 14) (.tmp 15) rfl w.heap.size _ _ _ _ rfl hown _ n c l rfl hs1 ?_ ?_)
  · omega
  intro w2 hown2 hg2
  have hb2 : Below w.heap.size w w2 := ((hb0.trans (hb1.mono (by simp)))).grown hg2 (by omega) (by simp [blk])
  clear hg2 hb1 hs1 hown hz1 p1 p2 hq1 h1 hb0
  generalize hs : maskL (sumL l) = s at *
  have Hs := Lib.hid hs
  clear hs
  go_wp2
  go_loopw [17] (fun i wr => ∃ k : Nat, k ≤ 4 ∧ i = .int .i64 k ∧ OwnB wr w.heap.size (some ⟨w.heap.size + 1, 0, none⟩) (n + 4) (n + 4) (l ++ ((le4 s).take k ++ List.replicate (4 - k) 0)) ∧ Below w.heap.size w wr) (fun i _ => 4 - (intOf i).toNat)
  case atStart => exact ⟨0, by omega, rfl, by simpa using hown2, hb2⟩
  case round =>
    obtain ⟨k, hk, rfl, hown3, hb3⟩ := hrel
    by_cases hk4 : k < 4
    · obtain ⟨g, o, x, e1, hg, hgl, hx, hcell, hfr⟩ := hown3.place (k := n + k) (by omega)
      obtain ⟨rfl, rfl⟩ : w.heap.size + 1 = g ∧ 0 = o := by simpa using e1
      simp only [Nat.zero_add] at hcell hfr
      clear hx hg hgl e1 hown2 hb2
      have hst : Hid (∀ x : UInt8, OwnB (wr.setCell ⟨w.heap.size + 1, 0 + (n + k), none⟩ (.int .u8 (x.toNat : Int))) w.heap.size (some ⟨w.heap.size + 1, 0, none⟩) (n + 4) (n + 4) ((l ++ ((le4 s).take k ++ List.replicate (4 - k) 0)).set (n + k) x)) :=
        fun x => hown3.stored (k := n + k) (by omega) x
      clear hown3
      have hst2 : Hid (∀ x : Int, x = (s / 256 ^ k : Nat) → OwnB (wr.setCell ⟨w.heap.size + 1, n + k, none⟩ (.int .u8 (x % 256))) w.heap.size (some ⟨w.heap.size + 1, 0, none⟩) (n + 4) (n + 4) (l ++ ((le4 s).take (k + 1) ++ List.replicate (4 - (k + 1)) 0))) := by
        rintro x rfl
        have h := hst.out (UInt8.ofNat (s / 256 ^ k))
        rw [set_le4 l n s k Hl.out hk4, u8i, Nat.zero_add] at h
        exact h
      clear hst
      obtain rfl | rfl | rfl | rfl : k = 0 ∨ k = 1 ∨ k = 2 ∨ k = 3 := by omega
      · simp only [Nat.add_zero] at hcell hfr
        go_wp2
        go_roundw
        case rel => exact ⟨1, by omega, rfl, by simpa using hst2.out s (by simp), hb3.setCell (by simp) _⟩
        case measure => simp [intOf]
      · go_wp2
        go_roundw
        case rel => exact ⟨2, by omega, rfl, by simpa using hst2.out (s / 256) (by simp), hb3.setCell (by simp) _⟩
        case measure => simp [intOf]
      · go_wp2
        go_roundw
        case rel => exact ⟨3, by omega, rfl, by simpa using hst2.out (s / 65536) (by simp), hb3.setCell (by simp) _⟩
        case measure => simp [intOf]
      · go_wp2
        go_roundw
        case rel =>
          have h4 := hst2.out (s / 16777216) (by simp)
          rw [show ((s : Int) / 16777216 % 256) = (s : Int) / 16777216 from by omega] at h4
          exact ⟨4, by omega, rfl, by simpa using h4, hb3.setCell (by simp) _⟩
        case measure => simp [intOf]
    · obtain rfl : k = 4 := by omega
      go_wp2
      go_ret
      refine ⟨_, _, _, rfl, ?_, hb3⟩
      unfold closeL
      rw [Hs.out]
      simpa [le4] using hown3
/-- what a call gives back that makes bytes of its own, or none, and an error's number -/
def NewB2 (w : World) (l : List UInt8) (q : Nat) (e : Ending) (w' : World) : Prop :=
  ∃ (A : Option Addr) (n c : Nat), e = .returned (.tuple #[.slice A n c, .int .i64 (q : Int)]) ∧ OwnB w' w.heap.size A n c l ∧ Below w.heap.size w w'
def openL (l : List UInt8) : List UInt8 × Nat :=
  if l.length < 4 then ([], 2) else if closeL (l.take (l.length - 4)) == l then (l.take (l.length - 4), 0) else ([], 5)

set_option maxHeartbeats 1000000 in
theorem open_any (w : World) (A : Option Addr) (n c : Nat) (l : List UInt8) (h : Sl w 1 A n c (bc l)) (hq : Quarter w) (hn : n ≤ 70368744177664) :
    Calls Tryd.prog 34 #[.slice A n c] w (NewB2 w (openL l).1 (openL l).2) := by
  have hl := h.lenb
  have hc := h.capm
  have hcap := h.cap
  unfold maxLen at hc
  by_cases h4 : n < 4
  · have e1 : openL l = ([], 2) := by unfold openL; rw [if_pos (by omega)]
    rw [e1]
    clear e1 hl
    go_enter Tryd.func34, Tryd.ntmps34
    go_wp2
    go_ret2
    exact ⟨none, 0, 0, rfl, Own.nil _ _ _ _ _, Below.refl _ _⟩
  · obtain ⟨hr, hs⟩ := cutH h .i64 (n - 4 : Nat) (n - 4) rfl (by omega)
    have ec : ((n - 4 : Nat) : Int) = (n : Int) - 4 := by omega
    rw [ec] at hr
    by_cases heq : closeL (l.take (n - 4)) == l
    · have e1 : openL l = (l.take (n - 4), 0) := by unfold openL; rw [hl, if_neg (by omega), if_pos heq]
      rw [e1]
      have Heq := Lib.hid heq
      clear e1 hl heq ec
      go_enter Tryd.func34, Tryd.ntmps34
      go_wp2_with fail
      refine (close_any w A (n - 4) c _ hs hq (by omega)).mono ?_
      rintro e w1 ⟨A1, n1, c1, rfl, ho1, hb1⟩
      have h1 := h.below (by omega) hb1
      have hs1 := hs.below (by omega) hb1
      go_wp2_with fail
      refine (equal_is w1 A1 n1 c1 _ A n c l true Heq ho1.sl h1).mono ?_
      rintro e w' ⟨rfl, rfl⟩
      go_wp2_with fail
      refine (clone_any w1 A (n - 4) c _ hs1 (by omega)).mono ?_
      rintro e w2 ⟨A2, n2, c2, rfl, ho2, hb2⟩
      go_wp2
      go_ret2
      exact ⟨A2, n2, c2, rfl, ho2.mono hb1.size, hb1.trans (hb2.mono hb1.size)⟩
    · have e1 : openL l = ([], 5) := by unfold openL; rw [hl, if_neg (by omega), if_neg heq]
      rw [e1]
      have Heq : Hid ((closeL (l.take (n - 4)) == l) = false) := by unfold Hid; simpa using heq
      clear e1 hl heq ec
      go_enter Tryd.func34, Tryd.ntmps34
      go_wp2_with fail
      refine (close_any w A (n - 4) c _ hs hq (by omega)).mono ?_
      rintro e w1 ⟨A1, n1, c1, rfl, ho1, hb1⟩
      have h1 := h.below (by omega) hb1
      go_wp2_with fail
      refine (equal_is w1 A1 n1 c1 _ A n c l false Heq ho1.sl h1).mono ?_
      rintro e w' ⟨rfl, rfl⟩
      go_wp2
      go_ret2
      exact ⟨none, 0, 0, rfl, Own.nil _ _ _ _ _, hb1⟩
end Go.Proofs.YtpffieogkfndaaaDoor

namespace Go.Proofs.YtpffieogkfndaaaDoor
set_option maxRecDepth 20000
set_option linter.unusedVariables false
set_option linter.unusedSimpArgs false
def checkSpanL (s : SpanL) : Nat := if 1 ≤ s.lo.length ∧ s.lo.length ≤ 64 ∧ s.hi.length ≤ 64 ∧ ltL s.lo s.hi = true ∧ 1 ≤ s.seq.toNat ∧ s.seq.toNat < 72057594037927936 then 0 else 4
theorem checkSpan_zero {s : SpanL} (h : checkSpanL s = 0) : 1 ≤ s.lo.length ∧ s.lo.length ≤ 64 ∧ s.hi.length ≤ 64 ∧ ltL s.lo s.hi = true ∧ 1 ≤ s.seq.toNat ∧ s.seq.toNat < 72057594037927936 := by
  unfold checkSpanL at h
  split at h
  · assumption
  · omega
def coversS (s : SpanL) (key : List UInt8) : Bool := !ltL key s.lo && ltL key s.hi
def covStep (key : List UInt8) (seq : Nat) (best : Nat) (s : SpanL) : Nat := if s.seq.toNat ≤ seq ∧ coversS s key = true then max best s.seq.toNat else best
def coverL (sp : List SpanL) (key : List UInt8) (seq : Nat) : Nat := sp.foldl (covStep key seq) 0
def checkTabL (l : List EntL) (sp : List SpanL) : Nat :=
  if 1000 < l.length ∨ 1000 < sp.length then 3 else if l.length + sp.length = 0 then 2 else if firstErr checkEntL l ≠ 0 then firstErr checkEntL l else if risesL l = true then firstErr checkSpanL sp else 10
theorem checkTab_zero {l : List EntL} {sp : List SpanL} (h : checkTabL l sp = 0) : l.length ≤ 1000 ∧ sp.length ≤ 1000 ∧ 0 < l.length + sp.length ∧ (∀ e ∈ l, checkKey e.key = 0 ∧ e.value.length ≤ 512) ∧ risesL l = true ∧ ∀ s ∈ sp, checkSpanL s = 0 := by
  unfold checkTabL at h
  split at h
  · omega
  · rename_i h1
    split at h
    · omega
    · rename_i h2
      split at h
      · rename_i h3; exact absurd h h3
      · rename_i h3
        split at h
        · rename_i h4
          refine ⟨by omega, by omega, by omega, fun e he => checkEnt_zero ((firstErr_zero checkEntL l).1 (by omega) e he), h4, (firstErr_zero checkSpanL sp).1 h⟩
        · omega
/-- the entries of leaf i -/
def chunkL (l : List EntL) (i : Nat) : List EntL := (l.drop (8 * i)).take 8
def lastKey (c : List EntL) : KeyL := ((c[c.length - 1]?).map (·.key)).getD noKey
def sealedL (l : List EntL) (i : Nat) : List UInt8 := closeL (leafBytesL (chunkL l i))
/-- of the first j leaves: their bytes, their lines of the index, their pages -/
def leavesN (l : List EntL) (j : Nat) : List UInt8 := (List.range j).flatMap (sealedL l)
def lineL (l : List EntL) (i : Nat) : List UInt8 := keyBytesL (lastKey (chunkL l i)) ++ numL (sealedL l i).length
def indexN (l : List EntL) (j : Nat) : List UInt8 := (List.range j).flatMap (lineL l)
structure PageL where
  last : KeyL
  lo : Nat
  hi : Nat
def pageL (l : List EntL) (i : Nat) : PageL := ⟨lastKey (chunkL l i), (leavesN l i).length, (leavesN l (i + 1)).length⟩
def pagesN (l : List EntL) (j : Nat) : List PageL := (List.range j).map (pageL l)
def leafCount (l : List EntL) : Nat := (l.length + 7) / 8
def rangeL (s : SpanL) : List UInt8 := textL s.lo ++ (textL s.hi ++ numL s.seq.toNat)
def rangesL (sp : List SpanL) : List UInt8 := sp.flatMap rangeL
def usersL (l : List EntL) : List (List UInt8) := l.map (·.key.user)
def partsL (l : List EntL) (sp : List SpanL) : List (List UInt8) := [leavesN l (leafCount l), closeL (indexN l (leafCount l)), closeL (buildL 10 (usersL l)), closeL (rangesL sp)]
def footL (ps : List (List UInt8)) : List UInt8 := closeL (ps.flatMap (fun p => le4 p.length) ++ [26, 177, 229])
def tabBytesL (l : List EntL) (sp : List SpanL) : List UInt8 := (partsL l sp).flatten ++ footL (partsL l sp)
def tabBE (l : List EntL) (sp : List SpanL) : List UInt8 × Nat := if checkTabL l sp = 0 then (tabBytesL l sp, 0) else ([], checkTabL l sp)
theorem leavesN_succ (l : List EntL) (j : Nat) : leavesN l (j + 1) = leavesN l j ++ sealedL l j := by simp [leavesN, List.range_succ]
theorem closeL_len (p : List UInt8) : (closeL p).length = p.length + 4 := by simp [closeL, le4]
theorem open_shut (p : List UInt8) : openL (closeL p) = (p, 0) := by
  unfold openL
  have h : (closeL p).take ((closeL p).length - 4) = p := by
    rw [closeL_len, Nat.add_sub_cancel]
    unfold closeL
    exact List.take_left
  rw [if_neg (by rw [closeL_len]; omega), h, if_pos (by simp)]
theorem open_inv {p q : List UInt8} (h : openL p = (q, 0)) : p = closeL q := by
  unfold openL at h
  split at h
  · simp at h
  · split at h
    · rename_i h2
      obtain ⟨rfl, -⟩ := Prod.mk.inj h
      exact (eq_of_beq h2).symm
    · simp at h
/-- a leaf of right entries is right -/
theorem rises_chunk (l : List EntL) (h : risesL l = true) (i : Nat) : risesL (chunkL l i) = true := by
  rw [risesL_iff] at h ⊢
  intro k hk
  unfold chunkL at hk ⊢
  simp only [List.length_take, List.length_drop] at hk
  simp only [List.getElem_take, List.getElem_drop]
  exact h (8 * i + k) (by omega)
theorem chunk_check {l : List EntL} (h1 : ∀ e ∈ l, checkKey e.key = 0 ∧ e.value.length ≤ 512) (h2 : risesL l = true) (i : Nat) : checkLeafL (chunkL l i) = 0 := by
  have hl : (chunkL l i).length ≤ 8 := by unfold chunkL; simp; omega
  have hf : firstErr checkEntL (chunkL l i) = 0 := (firstErr_zero _ _).2 fun e he => by
    obtain ⟨g1, g2⟩ := h1 e (List.mem_of_mem_drop (List.mem_of_mem_take he))
    unfold checkEntL
    rw [if_neg (by omega), if_neg (by omega)]
  unfold checkLeafL
  rw [if_neg (by omega), hf, if_neg (by omega), if_pos (rises_chunk l h2 i)]
theorem chunk_len (l : List EntL) (i : Nat) : (chunkL l i).length = min 8 (l.length - 8 * i) := by unfold chunkL; simp
theorem lastKey_mem {l : List EntL} {i : Nat} (h : i < leafCount l) : ∃ e ∈ l, e.key = lastKey (chunkL l i) := by
  have hl := chunk_len l i
  unfold leafCount at h
  have h0 : (chunkL l i).length - 1 < (chunkL l i).length := by omega
  refine ⟨(chunkL l i)[(chunkL l i).length - 1], List.mem_of_mem_drop (List.mem_of_mem_take (List.getElem_mem h0)), ?_⟩
  unfold lastKey
  rw [List.getElem?_eq_getElem h0]
  rfl
theorem chunks_all (l : List EntL) : (List.range (leafCount l)).flatMap (chunkL l) = l := by
  have : ∀ j, j ≤ leafCount l → (List.range j).flatMap (chunkL l) = l.take (8 * j) := by
    intro j
    induction j with
    | zero => intro _; simp
    | succ j ih =>
      intro hj
      rw [List.range_succ, List.flatMap_append, ih (by omega)]
      simp only [List.flatMap_cons, List.flatMap_nil, List.append_nil]
      unfold chunkL
      rw [show 8 * (j + 1) = 8 * j + 8 by omega, List.take_add]
  rw [this _ (Nat.le_refl _)]
  unfold leafCount
  rw [List.take_of_length_le (by omega)]
-- WHAT THE PARTS SAY
/-- the pages of an index -/
def parseP : Nat → Nat → List UInt8 → Option (List PageL)
  | 0, _, p => if p = [] then some [] else none
  | m + 1, at_, p => if p = [] then some [] else
      if (keyReadL p).2.2 ≠ 0 ∨ (takeL (keyReadL p).2.1).2.2 ≠ 0 ∨ 1048576 < (takeL (keyReadL p).2.1).1 then none
      else (parseP m (at_ + (takeL (keyReadL p).2.1).1) (takeL (keyReadL p).2.1).2.1).map (⟨(keyReadL p).1, at_, at_ + (takeL (keyReadL p).2.1).1⟩ :: ·)
def pagesL (p : List UInt8) : Option (List PageL) := parseP p.length 0 p
/-- the spans of a part -/
def parseS : Nat → List UInt8 → Option (List SpanL)
  | 0, p => if p = [] then some [] else none
  | m + 1, p => if p = [] then some [] else
      if (takeTextL p 64).2.2 ≠ 0 ∨ (takeTextL (takeTextL p 64).2.1 64).2.2 ≠ 0 ∨ (takeL (takeTextL (takeTextL p 64).2.1 64).2.1).2.2 ≠ 0 then none
      else (parseS m (takeL (takeTextL (takeTextL p 64).2.1 64).2.1).2.1).map (⟨(takeTextL p 64).1, (takeTextL (takeTextL p 64).2.1 64).1, UInt64.ofNat (takeL (takeTextL (takeTextL p 64).2.1 64).2.1).1⟩ :: ·)
def spansL (p : List UInt8) : Option (List SpanL) := parseS p.length p
/-- the entries of one leaf, of some leaves -/
def leafAtL (p : List UInt8) (x : PageL) : Option (List EntL) :=
  if p.length < x.hi then none else if (openL ((p.drop x.lo).take (x.hi - x.lo))).2 ≠ 0 then none else readLeafL (openL ((p.drop x.lo).take (x.hi - x.lo))).1
def entriesL (p : List UInt8) : List PageL → Option (List EntL)
  | [] => some []
  | x :: xs => match leafAtL p x with
    | none => none
    | some l => (entriesL p xs).map (l ++ ·)
/-- a section's length in the foot -/
def secN (e : List UInt8) (i : Nat) : Nat := (e.getD (4 * i) 0).toNat + 256 * (e.getD (4 * i + 1) 0).toNat + 65536 * (e.getD (4 * i + 2) 0).toNat + 16777216 * (e.getD (4 * i + 3) 0).toNat
def secAt (e : List UInt8) (i : Nat) : Nat := ((List.range i).map (secN e)).sum
def sectionsL (p : List UInt8) : Option (List (List UInt8)) :=
  if p.length < 23 then none else
  if (openL (p.drop (p.length - 23))).2 ≠ 0 then none else
  if secAt (openL (p.drop (p.length - 23))).1 4 = p.length - 23 then
    some ((List.range 4).map fun i => (p.drop (secAt (openL (p.drop (p.length - 23))).1 i)).take (secN (openL (p.drop (p.length - 23))).1 i)) else none
theorem secAt_succ (e : List UInt8) (i : Nat) : secAt e (i + 1) = secAt e i + secN e i := by simp [secAt, List.range_succ]
theorem le4_val (n : Nat) (h : n < 4294967296) : (UInt8.ofNat n).toNat + 256 * (UInt8.ofNat (n / 256)).toNat + 65536 * (UInt8.ofNat (n / 65536)).toNat + 16777216 * (UInt8.ofNat (n / 16777216)).toNat = n := by
  simp only [UInt8.toNat_ofNat']
  omega
theorem footL_len (a b c d : List UInt8) : (footL [a, b, c, d]).length = 23 := by simp [footL, closeL_len, le4]
theorem secN_foot (a b c d : List UInt8) (ha : a.length < 4294967296) (hb : b.length < 4294967296) (hc : c.length < 4294967296) (hd : d.length < 4294967296) :
    secN (([a, b, c, d].flatMap (fun p => le4 p.length)) ++ [26, 177, 229]) 0 = a.length ∧ secN (([a, b, c, d].flatMap (fun p => le4 p.length)) ++ [26, 177, 229]) 1 = b.length ∧
    secN (([a, b, c, d].flatMap (fun p => le4 p.length)) ++ [26, 177, 229]) 2 = c.length ∧ secN (([a, b, c, d].flatMap (fun p => le4 p.length)) ++ [26, 177, 229]) 3 = d.length := by
  refine ⟨le4_val _ ha, le4_val _ hb, le4_val _ hc, le4_val _ hd⟩
theorem sections_of (a b c d : List UInt8) (ha : a.length < 4294967296) (hb : b.length < 4294967296) (hc : c.length < 4294967296) (hd : d.length < 4294967296) :
    sectionsL ([a, b, c, d].flatten ++ footL [a, b, c, d]) = some [a, b, c, d] := by
  have hf := footL_len a b c d
  have hl : ([a, b, c, d].flatten ++ footL [a, b, c, d]).length - 23 = [a, b, c, d].flatten.length := by rw [List.length_append, hf]; omega
  have hdr : ([a, b, c, d].flatten ++ footL [a, b, c, d]).drop (([a, b, c, d].flatten ++ footL [a, b, c, d]).length - 23) = footL [a, b, c, d] := by rw [hl]; exact List.drop_left
  have ho : openL (([a, b, c, d].flatten ++ footL [a, b, c, d]).drop (([a, b, c, d].flatten ++ footL [a, b, c, d]).length - 23)) = (([a, b, c, d].flatMap (fun p => le4 p.length)) ++ [26, 177, 229], 0) := by
    rw [hdr]
    exact open_shut _
  obtain ⟨s0, s1, s2, s3⟩ := secN_foot a b c d ha hb hc hd
  unfold sectionsL
  rw [if_neg (by rw [List.length_append, hf]; omega), ho, hl]
  simp only [ne_eq, not_true_eq_false, if_false]
  generalize ([a, b, c, d].flatMap (fun p => le4 p.length)) ++ [26, 177, 229] = E at *
  have t0 : secAt E 0 = 0 := rfl
  have t1 : secAt E 1 = a.length := by rw [secAt_succ, t0, s0]; omega
  have t2 : secAt E 2 = a.length + b.length := by rw [secAt_succ, t1, s1]
  have t3 : secAt E 3 = a.length + b.length + c.length := by rw [secAt_succ, t2, s2]
  have t4 : secAt E 4 = a.length + b.length + c.length + d.length := by rw [secAt_succ, t3, s3]
  have hall : [a, b, c, d].flatten.length = a.length + b.length + c.length + d.length := by simp; omega
  rw [if_pos (by rw [hall]; exact t4)]
  have hF : [a, b, c, d].flatten = a ++ (b ++ (c ++ d)) := by simp
  rw [show List.range 4 = [0, 1, 2, 3] from rfl]
  simp only [List.map_cons, List.map_nil, t0, t1, t2, t3, s0, s1, s2, s3, hF, List.append_assoc]
  congr 1
  refine List.cons_eq_cons.2 ⟨?_, List.cons_eq_cons.2 ⟨?_, List.cons_eq_cons.2 ⟨?_, List.cons_eq_cons.2 ⟨?_, rfl⟩⟩⟩⟩
  · rw [List.drop_zero, List.take_left]
  · rw [List.drop_left, List.take_left]
  · rw [← List.append_assoc a b, List.drop_left' (by simp), List.take_left]
  · rw [← List.append_assoc b c, ← List.append_assoc a (b ++ c), List.drop_left' (by simp; omega), List.take_left]
theorem sealed_len (l : List EntL) (h : ∀ e ∈ l, checkKey e.key = 0 ∧ e.value.length ≤ 512) (i : Nat) : (sealedL l i).length ≤ 5000 := by
  have h1 := leafBody_len (chunkL l i) 0 [] fun e he => h e (List.mem_of_mem_drop (List.mem_of_mem_take he))
  have h2 := chunk_len l i
  unfold sealedL
  rw [closeL_len]
  unfold leafBytesL
  simp only [List.length_append, twosL_len, starts_len]
  have h3 : (twoL ((chunkL l i).length + 3) ).length = 2 := rfl
  have : (twoL (((chunkL l i).length + 3) / 4)).length = 2 := rfl
  omega
theorem parseP_of {l : List EntL} (h1 : ∀ e ∈ l, checkKey e.key = 0 ∧ e.value.length ≤ 512) : ∀ (d j m : Nat), j + d = leafCount l → d ≤ m →
    parseP m (leavesN l j).length ((List.range' j d).flatMap (lineL l)) = some ((List.range' j d).map (pageL l))
  | 0, j, m, _, _ => by cases m <;> simp [parseP]
  | d + 1, j, 0, _, h => by omega
  | d + 1, j, m + 1, hj, hm => by
    have ih := parseP_of h1 d (j + 1) m (by omega) (by omega)
    obtain ⟨e, he, hk⟩ := lastKey_mem (l := l) (i := j) (by omega)
    have hck : checkKey (lastKey (chunkL l j)) = 0 := by rw [← hk]; exact (h1 e he).1
    rw [List.range'_succ, List.flatMap_cons, List.map_cons]
    unfold parseP
    have hs := sealed_len l h1 j
    have e1 : keyReadL (lineL l j ++ (List.range' (j + 1) d).flatMap (lineL l)) = (lastKey (chunkL l j), numL (sealedL l j).length ++ (List.range' (j + 1) d).flatMap (lineL l), 0) := by
      unfold lineL
      rw [List.append_assoc]
      exact keyRead_bytes _ hck _
    have e2 := take_num (sealedL l j).length (by omega) ((List.range' (j + 1) d).flatMap (lineL l))
    have hne : lineL l j ++ (List.range' (j + 1) d).flatMap (lineL l) ≠ [] := by
      intro q
      have := congrArg List.length q
      simp only [List.length_append, List.length_nil] at this
      have h3 := num_len (sealedL l j).length
      unfold lineL at this
      simp only [List.length_append] at this
      omega
    rw [if_neg hne, e1]
    simp only [e2]
    rw [if_neg (by omega)]
    have e3 : (leavesN l j).length + (sealedL l j).length = (leavesN l (j + 1)).length := by rw [leavesN_succ, List.length_append]
    rw [e3, ih]
    simp [pageL]
theorem line_pos (l : List EntL) (i : Nat) : 1 ≤ (lineL l i).length := by
  have := num_len (sealedL l i).length
  unfold lineL
  rw [List.length_append]
  omega
theorem flat_ge {f : Nat → List UInt8} (h : ∀ i, 1 ≤ (f i).length) : ∀ (d j : Nat), d ≤ ((List.range' j d).flatMap f).length
  | 0, _ => by simp
  | d + 1, j => by
    have := flat_ge h d (j + 1)
    rw [List.range'_succ, List.flatMap_cons, List.length_append]
    have := h j
    omega
theorem pages_of {l : List EntL} (h1 : ∀ e ∈ l, checkKey e.key = 0 ∧ e.value.length ≤ 512) : pagesL (indexN l (leafCount l)) = some (pagesN l (leafCount l)) := by
  have h := parseP_of h1 (leafCount l) 0 (indexN l (leafCount l)).length (by omega) (by
    have := flat_ge (line_pos l) (leafCount l) 0
    unfold indexN
    rw [List.range_eq_range']
    exact this)
  unfold pagesL
  unfold indexN pagesN at *
  rw [List.range_eq_range']
  simpa [leavesN, List.range_eq_range'] using h
theorem text_span (t : List UInt8) (h : t.length ≤ 64) (rest : List UInt8) : takeTextL (textL t ++ rest) 64 = (t, rest, 0) := by
  unfold takeTextL textL
  rw [List.append_assoc, take_num t.length (by omega)]
  simp only [ne_eq, not_true_eq_false, if_false]
  rw [if_neg (by omega), if_neg (by simp), List.take_left, List.drop_left]
theorem parseS_of : ∀ (sp : List SpanL) (m : Nat), sp.length ≤ m → (∀ s ∈ sp, checkSpanL s = 0) → parseS m (rangesL sp) = some sp
  | [], m, _, _ => by cases m <;> simp [parseS, rangesL]
  | s :: sp, 0, h, _ => by simp at h
  | s :: sp, m + 1, h, hc => by
    have ih := parseS_of sp m (by simpa using h) fun x hx => hc x (List.mem_cons_of_mem _ hx)
    obtain ⟨g1, g2, g3, g4, g5, g6⟩ := checkSpan_zero (hc s (List.mem_cons_self ..))
    unfold parseS
    have e0 : rangesL (s :: sp) = textL s.lo ++ (textL s.hi ++ (numL s.seq.toNat ++ rangesL sp)) := by simp [rangesL, rangeL]
    have hne : rangesL (s :: sp) ≠ [] := by
      intro q
      have := congrArg List.length q
      rw [e0] at this
      have h3 := num_len s.seq.toNat
      simp only [List.length_append, List.length_nil] at this
      omega
    rw [if_neg hne, e0, text_span _ g2]
    simp only [text_span _ g3, take_num s.seq.toNat (by omega)]
    rw [if_neg (by omega), ih]
    have : UInt64.ofNat s.seq.toNat = s.seq := UInt64.ofNat_toNat
    simp [this]
theorem spans_of (sp : List SpanL) (h : ∀ s ∈ sp, checkSpanL s = 0) : spansL (rangesL sp) = some sp := by
  refine parseS_of sp _ ?_ h
  clear h
  induction sp with
  | nil => simp
  | cons s sp ih =>
    have e0 : rangesL (s :: sp) = rangeL s ++ rangesL sp := by simp [rangesL]
    have h3 := num_len s.seq.toNat
    rw [e0]
    unfold rangeL
    simp only [List.length_append, List.length_cons]
    omega
/-- leaf i of a table's bytes -/
theorem leafAt_of {l : List EntL} (h1 : ∀ e ∈ l, checkKey e.key = 0 ∧ e.value.length ≤ 512) (h2 : risesL l = true) (rest : List UInt8) (i : Nat) (hi : i < leafCount l) : leafAtL (leavesN l (leafCount l) ++ rest) (pageL l i) = some (chunkL l i) := by
  have hle : ∀ d, (leavesN l (i + 1)).length ≤ (leavesN l (i + 1 + d)).length := by
    intro d
    induction d with
    | zero => exact Nat.le_refl _
    | succ d ih => rw [← Nat.add_assoc, leavesN_succ l (i + 1 + d), List.length_append]; omega
  have hpre : ∀ d, leavesN l (i + 1) <+: leavesN l (i + 1 + d) := by
    intro d
    induction d with
    | zero => exact List.prefix_rfl
    | succ d ih => rw [← Nat.add_assoc, leavesN_succ l (i + 1 + d)]; exact ih.trans (List.prefix_append _ _)
  have hd : i + 1 + (leafCount l - (i + 1)) = leafCount l := by omega
  have h3 := hle (leafCount l - (i + 1))
  obtain ⟨t, ht⟩ := hpre (leafCount l - (i + 1))
  rw [hd] at h3 ht
  unfold leafAtL
  have e1 : ((leavesN l (leafCount l) ++ rest).drop (pageL l i).lo).take ((pageL l i).hi - (pageL l i).lo) = sealedL l i := by
    show ((leavesN l (leafCount l) ++ rest).drop (leavesN l i).length).take ((leavesN l (i + 1)).length - (leavesN l i).length) = sealedL l i
    rw [← ht, leavesN_succ, List.append_assoc, List.append_assoc, List.drop_left, List.length_append, Nat.add_sub_cancel_left, List.take_left]
  rw [if_neg (by show ¬ (leavesN l (leafCount l) ++ rest).length < (leavesN l (i + 1)).length; rw [List.length_append]; omega), e1]
  unfold sealedL
  rw [open_shut]
  simp only [ne_eq, not_true_eq_false, if_false]
  exact (readLeaf_iff _ _).2 ⟨chunk_check h1 h2 i, rfl⟩
theorem entries_of {l : List EntL} (h1 : ∀ e ∈ l, checkKey e.key = 0 ∧ e.value.length ≤ 512) (h2 : risesL l = true) (rest : List UInt8) : entriesL (leavesN l (leafCount l) ++ rest) (pagesN l (leafCount l)) = some l := by
  have : ∀ (d j : Nat), j + d = leafCount l → entriesL (leavesN l (leafCount l) ++ rest) ((List.range' j d).map (pageL l)) = some ((List.range' j d).flatMap (chunkL l)) := by
    intro d
    induction d with
    | zero => intro j _; simp [entriesL]
    | succ d ih =>
      intro j hj
      rw [List.range'_succ, List.map_cons, List.flatMap_cons]
      unfold entriesL
      rw [leafAt_of h1 h2 rest j (by omega)]
      simp only [ih (j + 1) (by omega), Option.map_some]
  have h := this (leafCount l) 0 (by omega)
  rw [← List.range_eq_range', chunks_all] at h
  exact h
theorem build_len (keys : List (List UInt8)) : (buildL 10 keys).length ≤ 2 * keys.length + 20 := by
  unfold buildL bytesN sizeN
  have : takeN 10 = 10 := by decide
  simp only [List.length_append, List.length_map, List.length_range, List.length_cons, List.length_nil, this]
  omega
theorem flat_len {α : Type} (f : α → List UInt8) (m : Nat) : ∀ l : List α, (∀ x ∈ l, (f x).length ≤ m) → (l.flatMap f).length ≤ m * l.length
  | [], _ => by simp
  | x :: l, h => by
    have := flat_len f m l fun y hy => h y (List.mem_cons_of_mem _ hy)
    have := h x (List.mem_cons_self ..)
    rw [List.flatMap_cons, List.length_append, List.length_cons, Nat.mul_add]
    omega
theorem leaves_len {l : List EntL} (h1 : ∀ e ∈ l, checkKey e.key = 0 ∧ e.value.length ≤ 512) (j : Nat) : (leavesN l j).length ≤ 5000 * j := by
  have := flat_len (sealedL l) 5000 (List.range j) fun i _ => sealed_len l h1 i
  rw [List.length_range] at this
  exact this
theorem index_len {l : List EntL} (h1 : ∀ e ∈ l, checkKey e.key = 0 ∧ e.value.length ≤ 512) (j : Nat) (hj : j ≤ leafCount l) : (indexN l j).length ≤ 90 * j := by
  have := flat_len (lineL l) 90 (List.range j) fun i hi => by
    obtain ⟨e, he, hk⟩ := lastKey_mem (l := l) (i := i) (by have := List.mem_range.1 hi; omega)
    have h2 := checkKey_bounds (h1 e he).1
    rw [hk] at h2
    have h3 := num_len (sealedL l i).length
    have h4 := num_len (lastKey (chunkL l i)).user.length
    unfold lineL keyBytesL textL
    simp only [List.length_append, le8_len]
    omega
  rw [List.length_range] at this
  exact this
theorem ranges_len {sp : List SpanL} (h : ∀ s ∈ sp, checkSpanL s = 0) : (rangesL sp).length ≤ 160 * sp.length :=
  flat_len rangeL 160 sp fun s hs => by
    have h2 := checkSpan_zero (h s hs)
    have h3 := num_len s.lo.length
    have h4 := num_len s.hi.length
    have h5 := num_len s.seq.toNat
    unfold rangeL textL
    simp only [List.length_append]
    omega
/-- WHAT A TABLE's BYTES SAY -/
theorem tab_fwd {l : List EntL} {sp : List SpanL} {p : List UInt8} (hc : checkTabL l sp = 0) (hp : tabBytesL l sp = p) :
    ∃ a b c d, sectionsL p = some [a, b, c, d] ∧ openL b = (indexN l (leafCount l), 0) ∧ openL c = (buildL 10 (usersL l), 0) ∧ openL d = (rangesL sp, 0) ∧
      pagesL (indexN l (leafCount l)) = some (pagesN l (leafCount l)) ∧ spansL (rangesL sp) = some sp ∧ entriesL p (pagesN l (leafCount l)) = some l := by
  obtain ⟨c1, c2, c3, c4, c5, c6⟩ := checkTab_zero hc
  have hn : leafCount l ≤ 126 := by unfold leafCount; omega
  have b1 := leaves_len c4 (leafCount l)
  have b2 := index_len c4 (leafCount l) (Nat.le_refl _)
  have b3 := build_len (usersL l)
  have b4 := ranges_len c6
  have b5 : (usersL l).length = l.length := by simp [usersL]
  refine ⟨leavesN l (leafCount l), closeL (indexN l (leafCount l)), closeL (buildL 10 (usersL l)), closeL (rangesL sp), ?_, open_shut _, open_shut _, open_shut _, pages_of c4, spans_of sp c6, ?_⟩
  · rw [← hp]
    exact sections_of _ _ _ _ (by omega) (by rw [closeL_len]; omega) (by rw [closeL_len]; omega) (by rw [closeL_len]; omega)
  · rw [← hp]
    have : tabBytesL l sp = leavesN l (leafCount l) ++ ([closeL (indexN l (leafCount l)), closeL (buildL 10 (usersL l)), closeL (rangesL sp)].flatten ++ footL (partsL l sp)) := by
      unfold tabBytesL partsL
      rw [List.flatten_cons, List.append_assoc]
    rw [this]
    exact entries_of c4 c5 _
/-- two tables with the same bytes are one -/
theorem tab_one {l l' : List EntL} {sp sp' : List SpanL} (hc : checkTabL l sp = 0) (hc' : checkTabL l' sp' = 0) (h : tabBytesL l' sp' = tabBytesL l sp) : l' = l ∧ sp' = sp := by
  obtain ⟨a, b, c, d, h1, h2, h3, h4, h5, h6, h7⟩ := tab_fwd hc rfl
  obtain ⟨a', b', c', d', g1, g2, g3, g4, g5, g6, g7⟩ := tab_fwd hc' h
  rw [h1] at g1
  injection g1 with g1
  injection g1 with e1 g1
  injection g1 with e2 g1
  injection g1 with e3 g1
  injection g1 with e4 _
  subst e1 e2 e3 e4
  rw [h2] at g2
  rw [h4] at g4
  have i2 := (Prod.mk.inj g2).1
  have i4 := (Prod.mk.inj g4).1
  rw [← i2, h5] at g5
  rw [← i4, h6] at g6
  have j5 := Option.some.inj g5
  rw [← j5, h7] at g7
  exact ⟨(Option.some.inj g7).symm, (Option.some.inj g6).symm⟩
end Go.Proofs.YtpffieogkfndaaaDoor

namespace Go.Proofs.YtpffieogkfndaaaDoor
set_option maxRecDepth 20000
set_option linter.unusedVariables false
set_option linter.unusedSimpArgs false
def NoTab (p : List UInt8) : Prop := ∀ l sp, checkTabL l sp = 0 → tabBytesL l sp ≠ p
theorem noTab_secs {p : List UInt8} (h : sectionsL p = none) : NoTab p := fun l sp hc hp => by
  obtain ⟨a, b, c, d, h1, _⟩ := tab_fwd hc hp
  rw [h] at h1
  cases h1
section
variable {p a b c d : List UInt8} (h : sectionsL p = some [a, b, c, d])
include h
theorem tab_same {l : List EntL} {sp : List SpanL} (hc : checkTabL l sp = 0) (hp : tabBytesL l sp = p) : openL b = (indexN l (leafCount l), 0) ∧ openL c = (buildL 10 (usersL l), 0) ∧ openL d = (rangesL sp, 0) ∧
    pagesL (openL b).1 = some (pagesN l (leafCount l)) ∧ spansL (openL d).1 = some sp ∧ entriesL p (pagesN l (leafCount l)) = some l := by
  obtain ⟨a', b', c', d', h1, h2, h3, h4, h5, h6, h7⟩ := tab_fwd hc hp
  rw [h] at h1
  injection h1 with h1
  injection h1 with e1 h1
  injection h1 with e2 h1
  injection h1 with e3 h1
  injection h1 with e4 _
  subst e1 e2 e3 e4
  refine ⟨h2, h3, h4, ?_, ?_, h7⟩
  · rw [h2]; exact h5
  · rw [h4]; exact h6
theorem noTab_open (hz : (openL b).2 ≠ 0 ∨ (openL c).2 ≠ 0 ∨ (openL d).2 ≠ 0) : NoTab p := fun l sp hc hp => by
  obtain ⟨h2, h3, h4, _⟩ := tab_same h hc hp
  rw [h2, h3, h4] at hz
  simp at hz
theorem noTab_parse (hz : pagesL (openL b).1 = none ∨ spansL (openL d).1 = none ∨ entriesL p ((pagesL (openL b).1).getD []) = none) : NoTab p := fun l sp hc hp => by
  obtain ⟨_, _, _, h5, h6, h7⟩ := tab_same h hc hp
  rw [h5, h6] at hz
  simp only [Option.getD_some] at hz
  rw [h7] at hz
  rcases hz with q | q | q <;> cases q
theorem noTab_build {pg : List PageL} {sp : List SpanL} {l : List EntL} (hp : pagesL (openL b).1 = some pg) (hs : spansL (openL d).1 = some sp) (he : entriesL p pg = some l) (hz : (tabBE l sp).2 ≠ 0 ∨ (tabBE l sp).1 ≠ p) : NoTab p := fun l' sp' hc hb => by
  obtain ⟨_, _, _, h5, h6, h7⟩ := tab_same h hc hb
  rw [hp] at h5
  rw [hs] at h6
  have e1 := Option.some.inj h5
  have e2 := Option.some.inj h6
  rw [← e1, he] at h7
  have e3 := Option.some.inj h7
  rw [← e2, ← e3] at hc hb
  unfold tabBE at hz
  rw [if_pos hc] at hz
  rcases hz with q | q
  · exact q rfl
  · exact q hb
theorem tab_yes {pg : List PageL} {sp : List SpanL} {l : List EntL} (hp : pagesL (openL b).1 = some pg) (h0 : (tabBE l sp).2 = 0) (h1 : (tabBE l sp).1 = p) :
    checkTabL l sp = 0 ∧ tabBytesL l sp = p ∧ pg = pagesN l (leafCount l) ∧ (openL c).1 = buildL 10 (usersL l) ∧ rangesL sp = (openL d).1 ∧ ∀ s ∈ sp, checkSpanL s = 0 := by
  have hc : checkTabL l sp = 0 := by
    unfold tabBE at h0
    split at h0
    · assumption
    · exact h0
  have hb : tabBytesL l sp = p := by
    unfold tabBE at h1
    rw [if_pos hc] at h1
    exact h1
  obtain ⟨_, h3, h4, h5, _, _⟩ := tab_same h hc hb
  rw [hp] at h5
  obtain ⟨_, _, _, _, _, c6⟩ := checkTab_zero hc
  refine ⟨hc, hb, Option.some.inj h5, ?_, ?_, c6⟩
  · rw [h3]
  · rw [h4]
end
theorem sections_four {p : List UInt8} {ls : List (List UInt8)} (h : sectionsL p = some ls) : ∃ a b c d, ls = [a, b, c, d] ∧ b.length ≤ p.length ∧ c.length ≤ p.length ∧ d.length ≤ p.length := by
  unfold sectionsL at h
  split at h
  · cases h
  · split at h
    · cases h
    · split at h
      · injection h with h
        rw [show List.range 4 = [0, 1, 2, 3] from rfl] at h
        refine ⟨_, _, _, _, h.symm, ?_, ?_, ?_⟩
        all_goals
          rw [List.length_take, List.length_drop]
          omega
      · cases h
theorem takeText_64 (p : List UInt8) : (takeTextL p 64).1.length ≤ 64 := by
  unfold takeTextL
  split
  · simp
  · split
    · simp
    · split
      · simp
      · simp only [List.length_take]
        omega
theorem parseS_bounds : ∀ (m : Nat) (p : List UInt8) (sp : List SpanL), parseS m p = some sp → (∀ s ∈ sp, s.lo.length ≤ 64 ∧ s.hi.length ≤ 64) ∧ sp.length ≤ m
  | 0, p, sp, h => by
    unfold parseS at h
    split at h
    · injection h with h
      subst h
      simp
    · cases h
  | m + 1, p, sp, h => by
    unfold parseS at h
    split at h
    · injection h with h
      subst h
      simp
    · split at h
      · cases h
      · obtain ⟨r, hr, rfl⟩ := Option.map_eq_some_iff.1 h
        obtain ⟨i1, i2⟩ := parseS_bounds m _ r hr
        refine ⟨fun s hs => ?_, by simp; omega⟩
        rcases List.mem_cons.1 hs with rfl | hs
        · exact ⟨takeText_64 _, takeText_64 _⟩
        · exact i1 s hs
theorem parseP_bounds : ∀ (m at_ : Nat) (p : List UInt8) (ps : List PageL), parseP m at_ p = some ps → (∀ x ∈ ps, x.lo ≤ x.hi ∧ x.hi ≤ at_ + 1048576 * m) ∧ ps.length ≤ m
  | 0, at_, p, ps, h => by
    unfold parseP at h
    split at h
    · injection h with h
      subst h
      simp
    · cases h
  | m + 1, at_, p, ps, h => by
    unfold parseP at h
    split at h
    · injection h with h
      subst h
      simp
    · split at h
      · cases h
      · rename_i hn
        obtain ⟨r, hr, rfl⟩ := Option.map_eq_some_iff.1 h
        obtain ⟨i1, i2⟩ := parseP_bounds m _ _ r hr
        generalize (takeL (keyReadL p).2.1).1 = k at *
        refine ⟨fun s hs => ?_, by simp; omega⟩
        rcases List.mem_cons.1 hs with rfl | hs
        · show at_ ≤ at_ + k ∧ at_ + k ≤ at_ + 1048576 * (m + 1)
          omega
        · have := i1 s hs
          omega
theorem pages_bounds {p : List UInt8} (hp : p.length ≤ 65536) : (∀ x ∈ (pagesL p).getD [], x.lo ≤ x.hi ∧ x.hi ≤ 1000000000000000) ∧ ((pagesL p).getD []).length ≤ 65536 := by
  cases h : pagesL p with
  | none => simp
  | some ps =>
    obtain ⟨h1, h2⟩ := parseP_bounds _ _ _ _ h
    refine ⟨fun x hx => ?_, by show ps.length ≤ 65536; omega⟩
    have := h1 x hx
    omega
theorem spans_bounds {p : List UInt8} (hp : p.length ≤ 65536) : (∀ s ∈ (spansL p).getD [], s.lo.length ≤ 1000000 ∧ s.hi.length ≤ 1000000) ∧ ((spansL p).getD []).length ≤ 65536 := by
  cases h : spansL p with
  | none => simp
  | some sp =>
    obtain ⟨h1, h2⟩ := parseS_bounds _ _ _ h
    refine ⟨fun x hx => ?_, by show sp.length ≤ 65536; omega⟩
    have := h1 x hx
    omega
end Go.Proofs.YtpffieogkfndaaaDoor
