/-
  SealBits, KeyReadP, LeafPlain, EntSame, RowsZ in one text. No condition but sizes.
-/
import Derived.Test.YtpffieogkfndaaaGreatDoorJHeldF
import Derived.Test.YtpffieogkfndaaaGreatDoorJKeyAfterW
import Derived.Test.YtpffieogkfndaaaGreatDoorJRowsL
namespace Go.Proofs.YtpffieogkfndaaaGreatDoor
set_option maxRecDepth 20000
set_option linter.unusedVariables false
set_option linter.unusedSimpArgs false

/-- the polynomial, turned -/
def polyN : Nat := 0x82f63b78
def step0 (c : Nat) : Nat := (c / 2) ^^^ (if c % 2 = 1 then polyN else 0)

theorem testBit_half (c j : Nat) : (c / 2).testBit j = c.testBit (j + 1) := by
  rw [Nat.testBit_succ]
theorem testBit_step0 (c j : Nat) : (step0 c).testBit j = (c.testBit (j + 1) ^^ (c.testBit 0 && polyN.testBit j)) := by
  unfold step0
  rw [Nat.testBit_xor, testBit_half, Nat.testBit_zero]
  by_cases h : c % 2 = 1 <;> simp [h]
theorem step0_xor (a b : Nat) : step0 (a ^^^ b) = step0 a ^^^ step0 b := by
  apply Nat.eq_of_testBit_eq
  intro j
  simp only [testBit_step0, Nat.testBit_xor]
  cases a.testBit (j + 1) <;> cases b.testBit (j + 1) <;> cases a.testBit 0 <;> cases b.testBit 0 <;> cases polyN.testBit j <;> rfl
theorem step0_double (y : Nat) : step0 (2 * y) = y := by
  unfold step0
  have h1 : 2 * y / 2 = y := by omega
  have h2 : 2 * y % 2 = 0 := by omega
  rw [h1, h2]
  simp
theorem step0_lt {c : Nat} (h : c < 4294967296) : step0 c < 4294967296 := by
  unfold step0
  refine Nat.xor_lt_two_pow (n := 32) (by omega) ?_
  split <;> decide
theorem four_zero (h : Nat) : step0 (step0 (step0 (step0 (16 * h)))) = h := by
  have e : 16 * h = 2 * (2 * (2 * (2 * h))) := by omega
  rw [e, step0_double, step0_double, step0_double, step0_double]
theorem four_low : ∀ i : Fin 16, step0 (step0 (step0 (step0 i.val))) = quarterL.getD i.val 0 := by decide
theorem split16 (c : Nat) : c = (16 * (c / 16)) ^^^ (c % 16) := by
  have h1 : 16 * (c / 16) = (c / 16) <<< 4 := by rw [Nat.shiftLeft_eq]; omega
  apply Nat.eq_of_testBit_eq
  intro j
  rw [Nat.testBit_xor, h1, Nat.testBit_shiftLeft, show c % 16 = c % 2 ^ 4 from rfl, Nat.testBit_mod_two_pow, show c / 16 = c / 2 ^ 4 from rfl, Nat.testBit_div_two_pow]
  by_cases h : 4 ≤ j
  · simp [h, show ¬ j < 4 by omega, show j - 4 + 4 = j by omega]
  · simp [h, show j < 4 by omega]
/-- four bits off the table are four steps -/
theorem nib_steps (c : Nat) : nib c = step0 (step0 (step0 (step0 c))) := by
  conv => rhs; rw [split16 c]
  simp only [step0_xor]
  rw [four_zero]
  have := four_low ⟨c % 16, Nat.mod_lt _ (by omega)⟩
  simp only at this
  rw [this]
  rfl

/-- bit i of bytes -/
def mbit (p : List UInt8) (i : Nat) : Bool := (p.getD (i / 8) 0).toNat.testBit (i % 8)
/-- the register behind i bits -/
def reg (c : Nat) (m : Nat → Bool) : Nat → Nat
  | 0 => c
  | i + 1 => step0 (reg c m i ^^^ (m i).toNat)
theorem reg_lt {c : Nat} (h : c < 4294967296) (m : Nat → Bool) (i : Nat) : reg c m i < 4294967296 := by
  induction i with
  | zero => exact h
  | succ i ih => exact step0_lt (Nat.xor_lt_two_pow (n := 32) ih (by cases m i <;> decide))
theorem reg_add (c : Nat) (m : Nat → Bool) (i j : Nat) : reg c m (i + j) = reg (reg c m i) (fun k => m (i + k)) j := by
  induction j with
  | zero => rfl
  | succ j ih => rw [← Nat.add_assoc]; simp only [reg]; rw [ih]
theorem reg_congr (c : Nat) {m m' : Nat → Bool} (n : Nat) (h : ∀ i, i < n → m i = m' i) : reg c m n = reg c m' n := by
  induction n with
  | zero => rfl
  | succ n ih => simp only [reg]; rw [ih fun i hi => h i (by omega), h n (by omega)]
/-- a number's bits are taken in one by one -/
theorem bits_in (c x : Nat) : c ^^^ x = (c ^^^ (x.testBit 0).toNat) ^^^ (2 * (x / 2)) := by
  apply Nat.eq_of_testBit_eq
  intro j
  rw [Nat.testBit_xor, Nat.testBit_xor, Nat.testBit_xor]
  rcases j with _ | j
  · have h1 : (2 * (x / 2)).testBit 0 = false := by rw [Nat.testBit_zero]; simp
    rw [h1]
    cases hx : x.testBit 0 <;> simp
  · have h1 : (2 * (x / 2)).testBit (j + 1) = x.testBit (j + 1) := by
      rw [Nat.testBit_succ, Nat.testBit_succ]; congr 1; omega
    rw [h1]
    cases hx : x.testBit 0 <;> simp [Nat.testBit_succ]
theorem reg_bits (n : Nat) : ∀ c x, x < 2 ^ n → reg c (fun i => x.testBit i) n = Nat.rec (c ^^^ x) (fun _ r => step0 r) n := by
  induction n with
  | zero =>
    intro c x hx
    have : x = 0 := by simpa using hx
    subst this
    show c = c ^^^ 0
    simp
  | succ n ih =>
    intro c x hx
    have e : n + 1 = 1 + n := by omega
    have h1 := reg_add c (fun i => x.testBit i) 1 n
    rw [← e] at h1
    rw [h1]
    have h2 : (fun k => x.testBit (1 + k)) = fun k => (x / 2).testBit k := by
      funext k
      rw [testBit_half, Nat.add_comm]
    rw [h2, ih _ _ (by rw [Nat.pow_succ] at hx; omega)]
    have h3 : reg c (fun i => x.testBit i) 1 ^^^ (x / 2) = step0 (c ^^^ x) := by
      rw [bits_in c x, step0_xor, step0_double]
      rfl
    rw [h3]
    have shift : ∀ k (r : Nat), (Nat.rec (step0 r) (fun _ r => step0 r) k : Nat) = step0 (Nat.rec r (fun _ r => step0 r) k) := by
      intro k r
      induction k with
      | zero => rfl
      | succ k ihk => simp only; rw [ihk]
    rw [shift]
theorem reg_byte (c x : Nat) (hx : x < 256) : reg c (fun i => x.testBit i) 8 = stepB c x := by
  rw [reg_bits 8 c x (by omega)]
  unfold stepB
  rw [nib_steps, nib_steps]
  rfl
/-- THE TWO WAYS MEET -/
theorem reg_crc (c : Nat) (p : List UInt8) : reg c (mbit p) (8 * p.length) = crcL c p := by
  induction p generalizing c with
  | nil => rfl
  | cons b r ih =>
    have e : 8 * (b :: r).length = 8 + 8 * r.length := by simp; omega
    rw [e, reg_add]
    have h1 : reg c (mbit (b :: r)) 8 = stepB c b.toNat := by
      rw [← reg_byte c b.toNat b.toNat_lt]
      apply reg_congr
      intro i hi
      simp [mbit, show i / 8 = 0 by omega, show i % 8 = i by omega]
    have h2 : (fun k => mbit (b :: r) (8 + k)) = mbit r := by
      funext k
      simp [mbit, show (8 + k) / 8 = k / 8 + 1 by omega, show (8 + k) % 8 = k % 8 by omega]
    rw [h1, h2, ih]
    rfl
/-- the powers, as the reference lists them -/
def byL : List Nat := [0, 6, 8, 9, 10, 11, 13, 14, 18, 19, 20, 22, 23, 25, 26, 27, 28]
/-- how often, odd or even -/
def hits (l : List Nat) (p : Nat → Bool) : Bool := l.foldr (fun k b => p k ^^ b) false
theorem hits_snoc (l : List Nat) (x : Nat) (p : Nat → Bool) : hits (l ++ [x]) p = (hits l p ^^ p x) := by
  induction l with
  | nil => simp [hits]
  | cons y r ih =>
    have h : hits (y :: r ++ [x]) p = (p y ^^ hits (r ++ [x]) p) := rfl
    have h' : hits (y :: r) p = (p y ^^ hits r p) := rfl
    rw [h, h', ih, Bool.xor_assoc]
theorem by_poly : ∀ j : Fin 32, hits byL (fun k => decide (31 - k = j.val)) = polyN.testBit j.val := by decide
theorem by_small : ∀ k ∈ byL, k ≤ 28 := by decide
theorem any_same {p q : Nat → Bool} (l : List Nat) (h : ∀ x ∈ l, p x = q x) : hits l p = hits l q := by
  induction l with
  | nil => rfl
  | cons x r ih =>
    have e : ∀ p, hits (x :: r) p = (p x ^^ hits r p) := fun _ => rfl
    rw [e, e, h x (by simp), ih fun y hy => h y (by simp [hy])]
theorem hits_none (l : List Nat) : hits l (fun _ => false) = false := by
  induction l with
  | nil => rfl
  | cons x r ih => show (false ^^ hits r _) = false; rw [ih]; rfl
/-- what the division's list of bits holds when the first i of them are done -/
def Win (N : Nat) (m : Nat → Bool) (i : Nat) (f : Nat → Bool) : Prop :=
  (∀ j, j < 32 → f (i + j) = ((reg 4294967295 m i).testBit j ^^ m (i + j))) ∧ ∀ j, i + 32 ≤ j → j < N → f j = m j
theorem Win.start (N : Nat) (m f : Nat → Bool) (h : ∀ j, j < N → f j = (m j ^^ decide (j < 32))) (hN : 32 ≤ N) : Win N m 0 f := by
  constructor
  · intro j hj
    rw [Nat.zero_add, h j (by omega)]
    have : (4294967295 : Nat).testBit j = true := by
      have := Nat.testBit_two_pow_sub_one 32 j
      simp at this
      rw [this]
      simpa using hj
    simp only [reg]
    rw [this]
    simp [hj, Bool.xor_comm]
  · intro j h1 h2
    rw [h j h2]
    simp [show ¬ j < 32 by omega]
/-- a bit that is set: the polynomial goes off -/
theorem Win.one {N : Nat} {m : Nat → Bool} {i : Nat} {f f' : Nat → Bool} (h : Win N m i f) (hi : f i = true) (hf : ∀ j, j < N → f' j = (f j ^^ hits byL (fun k => decide (i + 32 - k = j)))) (hN : i + 32 < N) : Win N m (i + 1) f' := by
  have h0 := h.1 0 (by omega)
  rw [Nat.add_zero, hi] at h0
  have hx : ((reg 4294967295 m i ^^^ (m i).toNat).testBit 0) = true := by
    rw [Nat.testBit_xor, h0]
    cases m i <;> rfl
  have hb : ∀ j, j < 32 → hits byL (fun k => decide (i + 32 - k = i + 1 + j)) = polyN.testBit j := by
    intro j hj
    rw [← by_poly ⟨j, hj⟩]
    apply any_same
    intro k hk
    have := by_small k hk
    simp only [decide_eq_decide]
    omega
  constructor
  · intro j hj
    rw [hf _ (by omega), hb j hj]
    simp only [reg, testBit_step0]
    rw [hx]
    rcases Nat.lt_or_ge j 31 with hj1 | hj1
    · have := h.1 (j + 1) (by omega)
      rw [show i + 1 + j = i + (j + 1) by omega, this, Nat.testBit_xor]
      have : ((m i).toNat).testBit (j + 1) = false := by cases m i <;> simp [Nat.testBit_succ]
      rw [this]
      cases (reg 4294967295 m i).testBit (j + 1) <;> cases m (i + (j + 1)) <;> cases polyN.testBit j <;> rfl
    · obtain rfl : j = 31 := by omega
      have := h.2 (i + 1 + 31) (by omega) (by omega)
      rw [this]
      have : (reg 4294967295 m i ^^^ (m i).toNat).testBit (31 + 1) = false := by
        apply Nat.testBit_lt_two_pow
        exact Nat.xor_lt_two_pow (n := 32) (reg_lt (by omega) m i) (by cases m i <;> decide)
      rw [this]
      cases m (i + 1 + 31) <;> cases polyN.testBit 31 <;> rfl
  · intro j h1 h2
    rw [hf j h2, h.2 j (by omega) h2]
    have : hits byL (fun k => decide (i + 32 - k = j)) = false := by
      rw [any_same byL (q := fun _ => false) (fun k _ => by simp; omega), hits_none]
    rw [this]
    simp
/-- one that is not -/
theorem Win.zero {N : Nat} {m : Nat → Bool} {i : Nat} {f : Nat → Bool} (h : Win N m i f) (hi : f i = false) (hN : i + 32 < N) : Win N m (i + 1) f := by
  have h0 := h.1 0 (by omega)
  rw [Nat.add_zero, hi] at h0
  have hx : ((reg 4294967295 m i ^^^ (m i).toNat).testBit 0) = false := by
    rw [Nat.testBit_xor]
    cases hm : m i <;> rw [hm] at h0 <;> simp at h0 <;> simp [h0]
  constructor
  · intro j hj
    simp only [reg, testBit_step0]
    rw [hx]
    rcases Nat.lt_or_ge j 31 with hj1 | hj1
    · have := h.1 (j + 1) (by omega)
      rw [show i + 1 + j = i + (j + 1) by omega, this, Nat.testBit_xor]
      have : ((m i).toNat).testBit (j + 1) = false := by cases m i <;> simp [Nat.testBit_succ]
      rw [this]
      simp
    · obtain rfl : j = 31 := by omega
      have := h.2 (i + 1 + 31) (by omega) (by omega)
      rw [this]
      have : (reg 4294967295 m i ^^^ (m i).toNat).testBit (31 + 1) = false := by
        apply Nat.testBit_lt_two_pow
        exact Nat.xor_lt_two_pow (n := 32) (reg_lt (by omega) m i) (by cases m i <;> decide)
      rw [this]
      simp
  · intro j h1 h2
    exact h.2 j (by omega) h2
/-- the bits that are left are the sum's, turned -/
theorem Win.last {m : Nat → Bool} {i : Nat} {f : Nat → Bool} (h : Win (i + 32) m i f) (hm : ∀ j, i ≤ j → m j = false) (j : Nat) (hj : j < 32) : (!f (i + j)) = (4294967295 - reg 4294967295 m i).testBit j := by
  rw [h.1 j hj, hm _ (by omega), ← xor_ones (reg_lt (by omega) m i), Nat.testBit_xor]
  have : (4294967295 : Nat).testBit j = true := by
    have := Nat.testBit_two_pow_sub_one 32 j
    simp at this
    rw [this]
    simpa using hj
  rw [this]
  simp
theorem mbit_past (p : List UInt8) (j : Nat) (h : 8 * p.length ≤ j) : mbit p j = false := by
  have : p.length ≤ j / 8 := by omega
  simp [mbit, List.getD_eq_getElem?_getD, List.getElem?_eq_none this]
/-- the number of the bits from place i up, bit by bit from above -/
theorem high_step (s i : Nat) : s / 2 ^ i = 2 * (s / 2 ^ (i + 1)) + (s.testBit i).toNat := by
  rw [Nat.testBit, Nat.shiftRight_eq_div_pow, Nat.pow_succ, ← Nat.div_div_eq_div_mul]
  have h : 1 &&& s / 2 ^ i = s / 2 ^ i % 2 := by rw [Nat.and_comm]; exact Nat.and_two_pow_sub_one_eq_mod _ 1
  rw [h]
  have : s / 2 ^ i % 2 = 0 ∨ s / 2 ^ i % 2 = 1 := by omega
  rcases this with e | e <;> rw [e] <;> simp <;> omega
theorem sum_reg (p : List UInt8) : 4294967295 - reg 4294967295 (mbit p) (8 * p.length) = sumL p := by rw [reg_crc]; rfl
/-- a bit as the walk spells it -/
theorem bit_spelt (x i : Nat) : ((((x : Nat) : Int) / 2 ^ i).tmod 2 == 1) = x.testBit i := by
  have e : ((x : Nat) : Int) / 2 ^ i = ((x / 2 ^ i : Nat) : Int) := by simp
  rw [e, Nat.testBit_eq_decide_div_mod_eq]
  have e2 : (((x / 2 ^ i : Nat) : Int)).tmod 2 = ((x / 2 ^ i % 2 : Nat) : Int) := by
    rw [Int.tmod_eq_emod_of_nonneg (Int.natCast_nonneg _)]; rfl
  rw [e2, Bool.eq_iff_iff]
  simp only [beq_iff_eq, decide_eq_true_eq]
  omega
end Go.Proofs.YtpffieogkfndaaaGreatDoor

namespace Go.Proofs.YtpffieogkfndaaaGreatDoor
open Go.RowKit
set_option maxRecDepth 20000
set_option linter.unusedVariables false
set_option linter.unusedSimpArgs false
/-- bytes as a number, the least first -/
def leval : List UInt8 → Nat
  | [] => 0
  | b :: l => leval l * 256 + b.toNat
theorem leval_lt : ∀ l : List UInt8, leval l < 256 ^ l.length
  | [] => by simp [leval]
  | b :: l => by
    have ih := leval_lt l
    have hb := b.toNat_lt
    unfold leval
    rw [List.length_cons, Nat.pow_succ]
    have : leval l + 1 ≤ 256 ^ l.length := ih
    have := Nat.mul_le_mul_right 256 this
    omega
def noKey : KeyL := ⟨[], 0, 0⟩
def keyOfN (u : List UInt8) (n : Nat) : KeyL := ⟨u, UInt64.ofNat (n / 256), UInt8.ofNat n⟩
/-- the version in front, what stands behind, the error's number -/
def keyReadL (p : List UInt8) : KeyL × List UInt8 × Nat :=
  if (takeTextL p 64).2.2 ≠ 0 then (noKey, [], (takeTextL p 64).2.2)
  else if (takeTextL p 64).2.1.length < 8 then (noKey, [], 2)
  else if checkKey (keyOfN (takeTextL p 64).1 (leval ((takeTextL p 64).2.1.take 8))) ≠ 0 then (noKey, [], 4)
  else (keyOfN (takeTextL p 64).1 (leval ((takeTextL p 64).2.1.take 8)), (takeTextL p 64).2.1.drop 8, 0)
theorem leval_le (n : Nat) : ∀ m k : Nat, leval ((List.range m).map fun i => UInt8.ofNat (n / 256 ^ (k + i))) = n / 256 ^ k % 256 ^ m
  | 0, k => by simp [leval, Nat.mod_one]
  | m + 1, k => by
    have ih := leval_le n m (k + 1)
    rw [List.range_succ_eq_map, List.map_cons, List.map_map]
    unfold leval
    have e : (List.range m).map ((fun i => UInt8.ofNat (n / 256 ^ (k + i))) ∘ Nat.succ) = (List.range m).map fun i => UInt8.ofNat (n / 256 ^ (k + 1 + i)) := by
      apply List.map_congr_left
      intro i _
      simp only [Function.comp]
      rw [show k + Nat.succ i = k + 1 + i by omega]
    rw [e, ih]
    have h2 : (UInt8.ofNat (n / 256 ^ (k + 0))).toNat = n / 256 ^ k % 256 := by simp
    have h3 : n / 256 ^ (k + 1) = n / 256 ^ k / 256 := by rw [Nat.pow_succ, ← Nat.div_div_eq_div_mul]
    rw [h2, h3, Nat.pow_succ 256 m, Nat.mul_comm (256 ^ m) 256, Nat.mod_mul]
    omega
theorem leval_le8 (n : Nat) (h : n < 18446744073709551616) : leval (le8 n) = n := by
  have := leval_le n 8 0
  simp only [Nat.zero_add, Nat.pow_zero, Nat.div_one] at this
  unfold le8
  rw [this]
  exact Nat.mod_eq_of_lt h
/-- WHAT A VERSION's BYTES SAY, whatever stands behind -/
theorem keyRead_bytes (k : KeyL) (h : checkKey k = 0) (rest : List UInt8) : keyReadL (keyBytesL k ++ rest) = (k, rest, 0) := by
  have hb0 := h
  unfold checkKey at hb0
  have hs : k.seq.toNat < 72057594037927936 ∧ k.user.length ≤ 64 := by
    repeat' split at hb0
    all_goals omega
  have hd := k.kind.toNat_lt
  have e1 : takeTextL (keyBytesL k ++ rest) 64 = (k.user, le8 (keyN k) ++ rest, 0) := by
    unfold keyBytesL
    rw [List.append_assoc]
    have := take_text k.user (le8 (keyN k) ++ rest) (by omega) 64
    rw [if_pos hs.2] at this
    exact this
  have hn : leval (le8 (keyN k)) = keyN k := leval_le8 _ (by unfold keyN; omega)
  have hk : keyOfN k.user (keyN k) = k := by
    unfold keyOfN keyN
    cases k with | mk u s d =>
    simp only [KeyL.mk.injEq, true_and]
    simp only at hd
    constructor
    · apply UInt64.toNat_inj.1
      rw [UInt64.toNat_ofNat', show (s.toNat * 256 + d.toNat) / 256 = s.toNat by omega]
      exact Nat.mod_eq_of_lt s.toNat_lt
    · apply UInt8.toNat_inj.1
      rw [UInt8.toNat_ofNat']
      omega
  unfold keyReadL
  rw [e1]
  simp only [ne_eq, not_true_eq_false, if_false]
  rw [List.take_left' (le8_len _), List.drop_left' (le8_len _), hn, hk, if_neg (by rw [List.length_append, le8_len]; omega), if_neg (by omega)]
/-- a version, bytes and an error's number that a call gives back -/
def GotRead (w : World) (r : KeyL × List UInt8 × Nat) (e : Ending) (w' : World) : Prop :=
  ∃ (A : Option Addr) (n c : Nat) (B : Option Addr) (m d : Nat), e = .returned (.tuple #[.agg #[.slice A n c, .int .u64 (r.1.seq.toNat : Int), .int .u8 (r.1.kind.toNat : Int)], .slice B m d, .int .i64 (r.2.2 : Int)]) ∧
    Sl w' 1 A n c (bc r.1.user) ∧ Sl w' 1 B m d (bc r.2.1) ∧ Below w.heap.size w w'
end Go.Proofs.YtpffieogkfndaaaGreatDoor

namespace Go.Proofs.YtpffieogkfndaaaGreatDoor
open Go.RowKit
set_option maxRecDepth 20000
set_option linter.unusedVariables false
set_option linter.unusedSimpArgs false

/-- a version's form -/
def fullL (k : KeyL) : List UInt8 := k.user ++ le8 (keyN k)
theorem fullL_len (k : KeyL) : (fullL k).length = k.user.length + 8 := by simp [fullL, le8_len]
/-- how many first bytes two have in common -/
def commonL : List UInt8 → List UInt8 → Nat
  | a :: l, b :: m => if a = b then commonL l m + 1 else 0
  | [], _ => 0
  | _ :: _, [] => 0
theorem commonL_le : ∀ a b : List UInt8, commonL a b ≤ a.length ∧ commonL a b ≤ b.length
  | [], _ => by simp [commonL]
  | _ :: _, [] => by simp [commonL]
  | a :: l, b :: m => by
    have ih := commonL_le l m
    unfold commonL
    split <;> simp <;> omega
theorem commonL_take : ∀ a b : List UInt8, a.take (commonL a b) = b.take (commonL a b)
  | [], _ => by simp [commonL]
  | _ :: _, [] => by simp [commonL]
  | a :: l, b :: m => by
    have ih := commonL_take l m
    unfold commonL
    split
    · rename_i h
      subst h
      simp [ih]
    · simp
theorem commonL_step (a b : List UInt8) (n : Nat) (ha : n < a.length) (hb : n < b.length) :
    commonL (a.drop n) (b.drop n) = if a[n] = b[n] then commonL (a.drop (n + 1)) (b.drop (n + 1)) + 1 else 0 := by
  rw [List.drop_eq_getElem_cons ha, List.drop_eq_getElem_cons hb]
  rfl
theorem commonL_nil (a b : List UInt8) (n : Nat) (h : a.length ≤ n ∨ b.length ≤ n) : commonL (a.drop n) (b.drop n) = 0 := by
  rcases h with h | h
  · rw [List.drop_eq_nil_of_le h]
    simp [commonL]
  · rw [List.drop_eq_nil_of_le h]
    cases a.drop n <;> simp [commonL]
/-- how many bytes of the form ahead entry number i takes over -/
def leafN (i : Nat) (a f : List UInt8) : Nat := if i % 4 = 0 then 0 else commonL a f
theorem leafN_le (i : Nat) (a f : List UInt8) : leafN i a f ≤ a.length ∧ leafN i a f ≤ f.length := by
  unfold leafN
  split
  · omega
  · exact commonL_le a f
theorem leafN_take (i : Nat) (a f : List UInt8) : a.take (leafN i a f) = f.take (leafN i a f) := by
  unfold leafN
  split
  · simp
  · exact commonL_take a f
def leafEntL (n : Nat) (f v : List UInt8) : List UInt8 := numL n ++ (numL (f.length - n) ++ (numL v.length ++ (f.drop n ++ v)))
def leafBodyL : Nat → List UInt8 → List EntL → List UInt8
  | _, _, [] => []
  | i, a, e :: l => leafEntL (leafN i a (fullL e.key)) (fullL e.key) e.value ++ leafBodyL (i + 1) (fullL e.key) l
/-- the form of the last one -/
def lastF (a : List UInt8) : List EntL → List UInt8
  | [] => a
  | e :: l => lastF (fullL e.key) l
theorem lastF_snoc (e : EntL) : ∀ (l : List EntL) (a : List UInt8), lastF a (l ++ [e]) = fullL e.key
  | [], _ => rfl
  | x :: l, _ => lastF_snoc e l (fullL x.key)
theorem leafBody_app (m : List EntL) : ∀ (l : List EntL) (i : Nat) (a : List UInt8), leafBodyL i a (l ++ m) = leafBodyL i a l ++ leafBodyL (i + l.length) (lastF a l) m
  | [], i, a => by simp [leafBodyL, lastF]
  | e :: l, i, a => by
    have ih := leafBody_app m l (i + 1) (fullL e.key)
    simp only [List.cons_append, leafBodyL, lastF, List.length_cons, List.append_assoc]
    rw [ih, show i + 1 + l.length = i + (l.length + 1) by omega]
theorem leafBody_snoc (l : List EntL) (e : EntL) (i : Nat) (a : List UInt8) : leafBodyL i a (l ++ [e]) = leafBodyL i a l ++ leafEntL (leafN (i + l.length) (lastF a l) (fullL e.key)) (fullL e.key) e.value := by
  rw [leafBody_app]
  simp [leafBodyL]
/-- where the entries stand that are written whole -/
def startsL (l : List EntL) : List Nat := ((List.range l.length).filter fun i => decide (i % 4 = 0)).map fun i => (leafBodyL 0 [] (l.take i)).length
def twoL (n : Nat) : List UInt8 := [UInt8.ofNat n, UInt8.ofNat (n / 256)]
def twosL (l : List Nat) : List UInt8 := (l.map twoL).flatten
theorem twosL_snoc (l : List Nat) (n : Nat) : twosL (l ++ [n]) = twosL l ++ twoL n := by simp [twosL]
theorem twosL_len (l : List Nat) : (twosL l).length = 2 * l.length := by
  unfold twosL
  induction l with
  | nil => rfl
  | cons a l ih => simp [ih, twoL]; omega
def leafBytesL (l : List EntL) : List UInt8 := leafBodyL 0 [] l ++ (twosL (startsL l) ++ twoL (startsL l).length)
theorem starts_step (l : List EntL) (j : Nat) (hj : j < l.length) : startsL (l.take (j + 1)) = startsL (l.take j) ++ (if j % 4 = 0 then [(leafBodyL 0 [] (l.take j)).length] else []) := by
  unfold startsL
  rw [List.length_take, List.length_take, Nat.min_eq_left (by omega), Nat.min_eq_left (by omega), List.range_succ, List.filter_append, List.map_append]
  congr 1
  · apply List.map_congr_left
    intro i hi
    have : i < j := by simpa using (List.mem_filter.1 hi).1
    rw [List.take_take, List.take_take, Nat.min_eq_left (by omega), Nat.min_eq_left (by omega)]
  · by_cases h : j % 4 = 0
    · rw [if_pos h]
      simp [h, List.take_take]
    · rw [if_neg h]
      simp [h]
theorem starts_len' (l : List EntL) : ∀ j : Nat, j ≤ l.length → (startsL (l.take j)).length = (j + 3) / 4
  | 0, _ => by simp [startsL]
  | j + 1, h => by
    rw [starts_step l j (by omega), List.length_append, starts_len' l j (by omega)]
    split
    · simp; omega
    · simp; omega
theorem starts_len (l : List EntL) : (startsL l).length = (l.length + 3) / 4 := by
  have := starts_len' l l.length (Nat.le_refl _)
  rwa [List.take_length] at this

def checkEntL (e : EntL) : Nat := if checkKey e.key ≠ 0 then checkKey e.key else if 512 < e.value.length then 3 else 0
def risesL : List EntL → Bool
  | [] => true
  | [_] => true
  | a :: b :: l => lessKey a.key b.key && risesL (b :: l)
theorem risesL_iff : ∀ l : List EntL, risesL l = true ↔ ∀ (i : Nat) (h : i + 1 < l.length), lessKey l[i].key l[i + 1].key = true
  | [] => by simp [risesL]
  | [a] => by simp [risesL]
  | a :: b :: l => by
    have ih := risesL_iff (b :: l)
    simp only [risesL, Bool.and_eq_true]
    rw [ih]
    constructor
    · rintro ⟨h1, h2⟩ i hi
      cases i with
      | zero => exact h1
      | succ i => exact h2 i (by simpa using hi)
    · intro h
      refine ⟨h 0 (by simp), fun i hi => ?_⟩
      exact h (i + 1) (by simpa using hi)
def checkLeafL (l : List EntL) : Nat := if 64 < l.length then 3 else if firstErr checkEntL l ≠ 0 then firstErr checkEntL l else if risesL l = true then 0 else 10
theorem checkEnt_zero {e : EntL} (h : checkEntL e = 0) : checkKey e.key = 0 ∧ e.value.length ≤ 512 := by
  unfold checkEntL at h
  repeat' split at h
  all_goals omega
theorem checkKey_bounds {k : KeyL} (h : checkKey k = 0) : k.seq.toNat < 72057594037927936 ∧ 1 ≤ k.user.length ∧ k.user.length ≤ 64 ∧ 1 ≤ k.kind.toNat ∧ k.kind.toNat ≤ 2 := by
  unfold checkKey at h
  repeat' split at h
  all_goals omega
theorem checkLeaf_zero {l : List EntL} (h : checkLeafL l = 0) : l.length ≤ 64 ∧ (∀ e ∈ l, checkKey e.key = 0 ∧ e.value.length ≤ 512) ∧ risesL l = true := by
  unfold checkLeafL at h
  split at h
  · omega
  · split at h
    · omega
    · rename_i h1 h2
      split at h
      · rename_i h3
        exact ⟨by omega, fun e he => checkEnt_zero ((firstErr_zero _ _).1 (by omega) e he), h3⟩
      · omega
theorem leafEnt_len (n : Nat) (f v : List UInt8) : (leafEntL n f v).length ≤ 27 + f.length + v.length ∧ 0 < (leafEntL n f v).length := by
  unfold leafEntL
  have h1 := num_len n
  have h2 := num_len (f.length - n)
  have h3 := num_len v.length
  simp only [List.length_append, List.length_drop]
  omega
theorem leafBody_len : ∀ (l : List EntL) (i : Nat) (a : List UInt8), (∀ e ∈ l, checkKey e.key = 0 ∧ e.value.length ≤ 512) → (leafBodyL i a l).length ≤ 611 * l.length
  | [], _, _, _ => by simp [leafBodyL]
  | e :: l, i, a, h => by
    have ih := leafBody_len l (i + 1) (fullL e.key) fun x hx => h x (by simp [hx])
    have h1 := h e (by simp)
    have h2 := checkKey_bounds h1.1
    have h3 := leafEnt_len (leafN i a (fullL e.key)) (fullL e.key) e.value
    rw [fullL_len] at h3
    simp only [leafBodyL, List.length_append, List.length_cons]
    omega
/-- the version of a form -/
def verL (f : List UInt8) : KeyL := keyOfN (f.take (f.length - 8)) (leval (f.drop (f.length - 8)))
theorem key_ofN (k : KeyL) : keyOfN k.user (keyN k) = k := by
  have hd := k.kind.toNat_lt
  unfold keyOfN keyN
  cases k with | mk u s d =>
  simp only [KeyL.mk.injEq, true_and]
  simp only at hd
  constructor
  · apply UInt64.toNat_inj.1
    rw [UInt64.toNat_ofNat', show (s.toNat * 256 + d.toNat) / 256 = s.toNat by omega]
    exact Nat.mod_eq_of_lt s.toNat_lt
  · apply UInt8.toNat_inj.1
    rw [UInt8.toNat_ofNat']
    omega
theorem ver_full (k : KeyL) (h : k.seq.toNat < 72057594037927936) : verL (fullL k) = k := by
  have hd := k.kind.toNat_lt
  unfold verL
  rw [fullL_len, Nat.add_sub_cancel]
  unfold fullL
  rw [List.take_left' rfl, List.drop_left' rfl, leval_le8 _ (by unfold keyN; omega), key_ofN]
/-- the entry in front, behind a form; its own form, and what stands behind -/
def entryL (a p : List UInt8) : Option (EntL × List UInt8 × List UInt8) :=
  let x := takeL p
  let y := takeL x.2.1
  let z := takeL y.2.1
  if x.2.2 = 0 ∧ y.2.2 = 0 ∧ z.2.2 = 0 ∧ x.1 ≤ a.length ∧ y.1 + z.1 ≤ z.2.1.length ∧ 8 ≤ x.1 + y.1 then
    some (⟨verL (a.take x.1 ++ z.2.1.take y.1), (z.2.1.drop y.1).take z.1⟩, a.take x.1 ++ z.2.1.take y.1, z.2.1.drop (y.1 + z.1))
  else none
theorem entry_of (i : Nat) (a rest : List UInt8) (e : EntL) (h1 : checkKey e.key = 0) (h2 : e.value.length ≤ 512) :
    entryL a (leafEntL (leafN i a (fullL e.key)) (fullL e.key) e.value ++ rest) = some (e, fullL e.key, rest) := by
  have hb := checkKey_bounds h1
  have hl := fullL_len e.key
  have hn := leafN_le i a (fullL e.key)
  have ht := leafN_take i a (fullL e.key)
  have hv := ver_full e.key hb.1
  generalize leafN i a (fullL e.key) = n at *
  generalize fullL e.key = f at *
  have e1 : takeL (leafEntL n f e.value ++ rest) = (n, numL (f.length - n) ++ (numL e.value.length ++ (f.drop n ++ (e.value ++ rest))), 0) := by
    unfold leafEntL
    simp only [List.append_assoc]
    exact take_num n (by omega) _
  have e2 : takeL (numL (f.length - n) ++ (numL e.value.length ++ (f.drop n ++ (e.value ++ rest)))) = (f.length - n, numL e.value.length ++ (f.drop n ++ (e.value ++ rest)), 0) := take_num _ (by omega) _
  have e3 : takeL (numL e.value.length ++ (f.drop n ++ (e.value ++ rest))) = (e.value.length, f.drop n ++ (e.value ++ rest), 0) := take_num _ (by omega) _
  have hd : (f.drop n).length = f.length - n := by simp
  unfold entryL
  simp only [e1, e2, e3]
  rw [if_pos ⟨trivial, trivial, trivial, hn.1, by simp only [List.length_append, hd]; omega, by omega⟩]
  rw [List.take_left' hd, List.drop_left' hd, ht, List.take_append_drop, hv, List.take_left, ← List.drop_drop, List.drop_left' hd, List.drop_left]
theorem entry_len {a p f q : List UInt8} {e : EntL} (h : entryL a p = some (e, f, q)) : q.length < p.length ∧ f.length + q.length ≤ a.length + p.length := by
  unfold entryL at h
  simp only at h
  split at h
  · rename_i hc
    obtain ⟨c1, c2, c3, c4, c5, c6⟩ := hc
    simp only [Option.some.injEq, Prod.mk.injEq] at h
    obtain ⟨_, rfl, rfl⟩ := h
    have h1 := takeL_len p
    have h2 := takeL_len (takeL p).2.1
    have h3 := takeL_len (takeL (takeL p).2.1).2.1
    have i1 := congrArg List.length (take_inv p c1)
    have n1 := num_len (takeL p).1
    simp only [List.length_append] at i1
    simp only [List.length_drop, List.length_append, List.length_take]
    omega
  · cases h
def parseL (d : Bool) : Nat → List UInt8 → List UInt8 → Option (List EntL)
  | 0, _, p => if p.length = 0 ∨ d = true then some [] else none
  | m + 1, a, p => if p.length = 0 then some [] else match entryL a p with
    | none => none
    | some (e, f, q) => (parseL d m f q).map (e :: ·)
theorem parse_of (d : Bool) : ∀ (l : List EntL) (m i : Nat) (a : List UInt8), l.length ≤ m → (∀ e ∈ l, checkKey e.key = 0 ∧ e.value.length ≤ 512) → parseL d m a (leafBodyL i a l) = some l
  | [], m, i, a, _, _ => by cases m <;> simp [parseL, leafBodyL]
  | e :: l, 0, i, a, h, _ => by simp at h
  | e :: l, m + 1, i, a, h, hc => by
    have ih := parse_of d l m (i + 1) (fullL e.key) (by simpa using h) fun x hx => hc x (by simp [hx])
    have h1 := hc e (by simp)
    have h2 := leafEnt_len (leafN i a (fullL e.key)) (fullL e.key) e.value
    rw [show leafBodyL i a (e :: l) = leafEntL (leafN i a (fullL e.key)) (fullL e.key) e.value ++ leafBodyL (i + 1) (fullL e.key) l from rfl]
    unfold parseL
    rw [if_neg (by rw [List.length_append]; omega), entry_of i a _ e h1.1 h1.2]
    simp only [ih, Option.map_some]
def endN (p : List UInt8) : Nat := (p.getD (p.length - 2) 0).toNat + 256 * (p.getD (p.length - 1) 0).toNat
/-- the leaf of bytes: what stands there, if it makes just these bytes -/
def readLeafX (d : Bool) (m : Nat) (p : List UInt8) : Option (List EntL) :=
  if p.length < 2 ∨ p.length < 2 + 2 * endN p ∨ 16 < endN p then none
  else match parseL d m [] (p.take (p.length - 2 - 2 * endN p)) with
    | none => none
    | some l => if checkLeafL l = 0 ∧ leafBytesL l = p then some l else none
theorem readLeafX_iff (d : Bool) (m : Nat) (hm : 64 ≤ m) (p : List UInt8) (l : List EntL) : readLeafX d m p = some l ↔ checkLeafL l = 0 ∧ leafBytesL l = p := by
  constructor
  · intro h
    unfold readLeafX at h
    split at h
    · cases h
    · split at h
      · cases h
      · split at h
        · rename_i hc
          obtain rfl := Option.some.inj h
          exact hc
        · cases h
  · rintro ⟨h1, rfl⟩
    obtain ⟨hb1, hb2, hb3⟩ := checkLeaf_zero h1
    have hk : (startsL l).length ≤ 16 := by rw [starts_len]; omega
    have ht := twosL_len (startsL l)
    have hp := parse_of d l m 0 [] (by omega) hb2
    generalize hB : leafBodyL 0 [] l = B at *
    generalize hS : startsL l = S at *
    have eq : leafBytesL l = B ++ (twosL S ++ twoL S.length) := by unfold leafBytesL; rw [hB, hS]
    have hlen : (leafBytesL l).length = B.length + 2 * S.length + 2 := by rw [eq]; simp [ht, twoL]; omega
    have g1 : (leafBytesL l).getD ((leafBytesL l).length - 2) 0 = UInt8.ofNat S.length := by
      rw [hlen, eq, ← List.append_assoc, List.getD_eq_getElem?_getD, List.getElem?_append_right (by simp [ht])]
      have e0 : B.length + 2 * S.length + 2 - 2 - (B ++ twosL S).length = 0 := by simp [ht]
      rw [e0]
      rfl
    have g2 : (leafBytesL l).getD ((leafBytesL l).length - 1) 0 = UInt8.ofNat (S.length / 256) := by
      rw [hlen, eq, ← List.append_assoc, List.getD_eq_getElem?_getD, List.getElem?_append_right (by simp [ht])]
      have e0 : B.length + 2 * S.length + 2 - 1 - (B ++ twosL S).length = 1 := by simp [ht]
      rw [e0]
      rfl
    have hn : endN (leafBytesL l) = S.length := by
      unfold endN
      rw [g1, g2, UInt8.toNat_ofNat', UInt8.toNat_ofNat']
      omega
    have htk : (leafBytesL l).take ((leafBytesL l).length - 2 - 2 * S.length) = B := by
      rw [hlen, eq, show B.length + 2 * S.length + 2 - 2 - 2 * S.length = B.length by omega, List.take_left]
    unfold readLeafX
    rw [hn, if_neg (by rw [hlen]; omega), htk, hp]
    simp only [h1, true_and, if_true]
def readLeafL (p : List UInt8) : Option (List EntL) := readLeafX false 64 p
theorem readLeaf_iff (p : List UInt8) (l : List EntL) : readLeafL p = some l ↔ checkLeafL l = 0 ∧ leafBytesL l = p := readLeafX_iff false 64 (Nat.le_refl _) p l
/-- a leaf's bytes, or the error's number -/
def leafBE (l : List EntL) : List UInt8 × Nat := if checkLeafL l = 0 then (leafBytesL l, 0) else ([], checkLeafL l)
end Go.Proofs.YtpffieogkfndaaaGreatDoor

namespace Go.Proofs.YtpffieogkfndaaaGreatDoor
open Go.RowKit
set_option maxRecDepth 20000
set_option linter.unusedVariables false
set_option linter.unusedSimpArgs false
set_option maxHeartbeats 8000000 in
theorem sent_any (w : World) (A : Option Addr) (n c : Nat) (B : Option Addr) (m d : Nat) (x : EntL) (h1 : Sl w 1 A n c (bc x.key.user)) (h2 : Sl w 1 B m d (bc x.value)) (A' : Option Addr) (n' c' : Nat) (B' : Option Addr) (m' d' : Nat) (y : EntL) (h1' : Sl w 1 A' n' c' (bc y.key.user)) (h2' : Sl w 1 B' m' d' (bc y.value)) :
    Calls Tryz.prog 56 #[.agg #[.slice A n c, .int .u64 (x.key.seq.toNat : Int), .int .u8 (x.key.kind.toNat : Int), .slice B m d], .agg #[.slice A' n' c', .int .u64 (y.key.seq.toNat : Int), .int .u8 (y.key.kind.toNat : Int), .slice B' m' d']] w fun e w' => e = .returned (.bool (decide (x = y))) ∧ Below w.heap.size w w' := by
  have ck := fun w' (hb : Below w.heap.size w w') => keq_any w' A n c x.key (h1.below (by omega) hb) A' n' c' y.key (h1'.below (by omega) hb)
  have cs := fun w' (hb : Below w.heap.size w w') => same_any w' B m d x.value B' m' d' y.value (h2.below (by omega) hb) (h2'.below (by omega) hb)
  have he : decide (x = y) = ((x.key == y.key) && (x.value == y.value)) := by
    cases x with | mk k v =>
    cases y with | mk k' v' =>
    rw [Bool.eq_iff_iff]
    simp
  rw [he]
  generalize (x.key == y.key) = b1 at *
  generalize (x.value == y.value) = b2 at *
  generalize x.key.seq.toNat = s at *
  generalize x.key.kind.toNat = k at *
  generalize y.key.seq.toNat = s' at *
  generalize y.key.kind.toNat = k' at *
  have Ck := Lib.hid ck
  have Cs := Lib.hid cs
  clear ck cs he h1 h2 h1' h2'
  have a1 := (Below.refl w.heap.size w).alloc (Nat.le_refl _) (.cells #[.slice A n c, .int .u64 (s : Int), .int .u8 (k : Int), .slice B m d] 69)
  have k1 := Bx4.fresh w (.slice A n c) (.int .u64 (s : Int)) (.int .u8 (k : Int)) (.slice B m d) 69
  generalize hW1 : (w.alloc (.cells #[.slice A n c, .int .u64 (s : Int), .int .u8 (k : Int), .slice B m d] 69)) = w1 at *
  have a2 := (Below.refl w1.heap.size w1).alloc (Nat.le_refl _) (.cells #[.slice A' n' c', .int .u64 (s' : Int), .int .u8 (k' : Int), .slice B' m' d'] 69)
  have k2 := Bx4.fresh w1 (.slice A' n' c') (.int .u64 (s' : Int)) (.int .u8 (k' : Int)) (.slice B' m' d') 69
  have k1 := k1.below a2
  have hq := a1.trans (a2.mono a1.size)
  generalize hW2 : (w1.alloc (.cells #[.slice A' n' c', .int .u64 (s' : Int), .int .u8 (k' : Int), .slice B' m' d'] 69)) = w2 at *
  clear a1 a2
  obtain ⟨x0, x1, x2, x3, x4⟩ := id k1
  obtain ⟨y0, y1, y2, y3, y4⟩ := id k2
  go_enter Tryz.func56, Tryz.ntmps56
  go_wp2_with fail
  try rw [hW1]
  try rw [hW2]
  clear hW1 hW2
  refine (Ck.out _ hq).mono ?_
  rintro e w3 ⟨rfl, hb3⟩
  have k1 := k1.below hb3
  have k2 := k2.below hb3
  have hq := hq.trans (hb3.mono hq.size)
  clear hb3 x0 x1 x2 x3 x4 y0 y1 y2 y3 y4
  obtain ⟨x0, x1, x2, x3, x4⟩ := id k1
  obtain ⟨y0, y1, y2, y3, y4⟩ := id k2
  cases b1
  · go_wp2
    go_ret
    exact ⟨rfl, hq⟩
  · go_wp2_with fail
    refine (Cs.out _ hq).mono ?_
    rintro e w' ⟨rfl, rfl⟩
    go_wp2
    go_ret
    exact ⟨rfl, hq⟩
set_option maxHeartbeats 8000000 in
theorem sents_any (w : World) (p : Nat → Prop) (A : Option Addr) (n c : Nat) (ls : List EntL) (h : SlR w p A n c ls) (p' : Nat → Prop) (A' : Option Addr) (n' c' : Nat) (ms : List EntL) (h' : SlR w p' A' n' c' ms) :
    Calls Tryz.prog 16 #[.slice A n c, .slice A' n' c'] w fun e w' => e = .returned (.bool (decide (ls = ms))) ∧ Below w.heap.size w w' := by
  have hcp := h.cap
  unfold maxLen at hcp
  have hl := h.lenR
  have hl' := h'.lenR
  obtain ⟨r, hr⟩ : ∃ r, decide (ls = ms) = r := ⟨_, rfl⟩
  rw [hr]
  by_cases hnn : n = n'
  case neg =>
    have e1 : ((n : Int) != (n' : Int)) = true := by rw [bne_iff_ne]; omega
    have e2 : ((n : Int) == (n' : Int)) = false := by rw [beq_eq_false_iff_ne]; omega
    have er : r = false := by rw [← hr, decide_eq_false_iff_not]; rintro rfl; omega
    subst er
    clear hr hl hl' h h'
    go_enter Tryz.func16, Tryz.ntmps16
    go_wp2
    go_ret
    exact ⟨rfl, Below.refl _ _⟩
  subst hnn
  have Hl := Lib.hid hl
  have Hl' := Lib.hid hl'
  have e1 : ((n : Int) != (n : Int)) = false := by simp
  have Hr : Hid (decide (ls.drop 0 = ms.drop 0) = r) := Lib.hid (by rw [List.drop_zero, List.drop_zero]; exact hr)
  clear hr hl hl'
  go_enter Tryz.func16, Tryz.ntmps16
  go_wp2
  clear e1
  go_loopw [13] (fun q wr => ∃ j : Nat, j ≤ n ∧ q = .int .i64 j ∧ Below w.heap.size w wr ∧ Hid (decide (ls.drop j = ms.drop j) = r)) (fun q _ => n - (intOf q).toNat)
  case atStart => exact ⟨0, Nat.zero_le _, rfl, Below.refl _ _, Hr⟩
  case round =>
    obtain ⟨j, hj, rfl, hbr, He⟩ := hrel
    by_cases hlt : j < n
    case neg =>
      obtain rfl : n = j := by omega
      have e := He.out
      rw [List.drop_of_length_le (by have := Hl.out; omega), List.drop_of_length_le (by have := Hl'.out; omega)] at e
      obtain rfl : true = r := by simpa using e
      go_wp2
      go_ret
      exact ⟨rfl, hbr⟩
    obtain ⟨b, o, A3, n3, c3, A4, n4, c4, hjl, rfl, d0, d1, d2, d3, g3, g4⟩ := h.entAt hlt
    obtain ⟨b', o', A5, n5, c5, A6, n6, c6, hjm, rfl, f0, f1, f2, f3, g5, g6⟩ := h'.entAt hlt
    have hbr := below_drew hbr
    have d0 := stays hbr d0
    have d1 := stays hbr d1
    have d2 := stays hbr d2
    have d3 := stays hbr d3
    have f0 := stays hbr f0
    have f1 := stays hbr f1
    have f2 := stays hbr f2
    have f3 := stays hbr f3
    have hst : decide (ls.drop j = ms.drop j) = (decide (ls[j] = ms[j]) && decide (ls.drop (j + 1) = ms.drop (j + 1))) := by
      rw [List.drop_eq_getElem_cons hjl, List.drop_eq_getElem_cons hjm, Bool.eq_iff_iff]
      simp only [decide_eq_true_eq, Bool.and_eq_true, List.cons.injEq]
    rw [He.out] at hst
    generalize hW : World.drew _ = w0 at *
    have cm := fun w' (hb : Below w0.heap.size w0 w') => sent_any w' A3 n3 c3 A4 n4 c4 ls[j] (g3.below (by omega) (hbr.trans (hb.mono hbr.size))) (g4.below (by omega) (hbr.trans (hb.mono hbr.size))) A5 n5 c5 A6 n6 c6 ms[j] (g5.below (by omega) (hbr.trans (hb.mono hbr.size))) (g6.below (by omega) (hbr.trans (hb.mono hbr.size)))
    generalize decide (ls[j] = ms[j]) = b1 at *
    generalize ls[j].key.seq.toNat = s1 at *
    generalize ls[j].key.kind.toNat = k1 at *
    generalize ms[j].key.seq.toNat = s2 at *
    generalize ms[j].key.kind.toNat = k2 at *
    have Cm := Lib.hid cm
    have Hst := Lib.hid hst.symm
    clear cm hst g3 g4 g5 g6 He hjl hjm
    go_wp2_with fail
    cases b1
    case false =>
      obtain rfl : false = r := Hst.out
      refine regionF (fun _ wa wb => Below w0.heap.size w0 wa → Below w0.heap.size w0 wb) (by kernel_rfl) ?_
      rw [hW]
      clear hW
      have hX := Below.refl w0.heap.size w0
      refine takeP (i := 0) (v := ?_) rfl hX ?hy ?_
      case hy =>
        intro wS hSw
        clear hSw
        go_simp
        try with_reducible rfl
      refine takeP (i := 1) (v := ?_) rfl hX ?hy ?_
      case hy =>
        intro wS hSw
        clear hSw
        go_simp
        try with_reducible rfl
      refine takeP (i := 2) (v := ?_) rfl hX ?hy ?_
      case hy =>
        intro wS hSw
        clear hSw
        go_simp
        try with_reducible rfl
      refine takeP (i := 3) (v := ?_) rfl hX ?hy ?_
      case hy =>
        intro wS hSw
        have d0 := stays hSw d0
        have d1 := stays hSw d1
        have d2 := stays hSw d2
        have d3 := stays hSw d3
        clear hSw
        go_simp
        try with_reducible rfl
      refine takeP (i := 4) (v := ?_) rfl hX ?hy ?_
      case hy =>
        intro wS hSw
        clear hSw
        go_simp
        try with_reducible rfl
      refine takeP (i := 5) (v := ?_) rfl hX ?hy ?_
      case hy =>
        intro wS hSw
        clear hSw
        go_simp
        try with_reducible rfl
      refine takeP (i := 6) (v := ?_) rfl hX ?hy ?_
      case hy =>
        intro wS hSw
        clear hSw
        go_simp
        try with_reducible rfl
      refine takeP (i := 7) (v := ?_) rfl hX ?hy ?_
      case hy =>
        intro wS hSw
        have f0 := stays hSw f0
        have f1 := stays hSw f1
        have f2 := stays hSw f2
        have f3 := stays hSw f3
        clear hSw
        go_simp
        try with_reducible rfl
      try simp only [List.getElem_toArray, List.getElem_cons_succ, List.getElem_cons_zero, Act.put, List.setIfInBounds_toArray, List.set_cons_zero, List.set_cons_succ]
      refine readyF (rs := [8]) (by kernel_rfl) (by simp) ?_
      refine AllF.cons rfl (fun K hK => ?_) AllF.nil
      go_simp
      refine (Cm.out _ hX).mono ?_
      rintro e w0_8 ⟨rfl, hb⟩
      refine hK _ _ (fun h => h.trans (hb.mono h.size)) ?_
      clear hK K
      have hX := hX.trans (hb.mono hX.size)
      clear hb
      refine takeP (i := 9) (v := ?_) rfl hX ?hy ?_
      case hy =>
        intro wS hSw
        clear hSw
        go_simp
        try with_reducible rfl
      try simp only [List.getElem_toArray, List.getElem_cons_succ, List.getElem_cons_zero, Act.put, List.setIfInBounds_toArray, List.set_cons_zero, List.set_cons_succ]
      refine doneF (by kernel_rfl) ?_ _
      try simp only [List.getElem_toArray, List.getElem_cons_succ, List.getElem_cons_zero, Act.put, List.setIfInBounds_toArray, List.set_cons_zero, List.set_cons_succ]
      go_wp2
      go_ret
      exact ⟨rfl, hbr.trans (hX.mono hbr.size)⟩
    case true =>
      refine regionF (fun _ wa wb => Below w0.heap.size w0 wa → Below w0.heap.size w0 wb) (by kernel_rfl) ?_
      rw [hW]
      clear hW
      have hX := Below.refl w0.heap.size w0
      refine takeP (i := 0) (v := ?_) rfl hX ?hy ?_
      case hy =>
        intro wS hSw
        clear hSw
        go_simp
        try with_reducible rfl
      refine takeP (i := 1) (v := ?_) rfl hX ?hy ?_
      case hy =>
        intro wS hSw
        clear hSw
        go_simp
        try with_reducible rfl
      refine takeP (i := 2) (v := ?_) rfl hX ?hy ?_
      case hy =>
        intro wS hSw
        clear hSw
        go_simp
        try with_reducible rfl
      refine takeP (i := 3) (v := ?_) rfl hX ?hy ?_
      case hy =>
        intro wS hSw
        have d0 := stays hSw d0
        have d1 := stays hSw d1
        have d2 := stays hSw d2
        have d3 := stays hSw d3
        clear hSw
        go_simp
        try with_reducible rfl
      refine takeP (i := 4) (v := ?_) rfl hX ?hy ?_
      case hy =>
        intro wS hSw
        clear hSw
        go_simp
        try with_reducible rfl
      refine takeP (i := 5) (v := ?_) rfl hX ?hy ?_
      case hy =>
        intro wS hSw
        clear hSw
        go_simp
        try with_reducible rfl
      refine takeP (i := 6) (v := ?_) rfl hX ?hy ?_
      case hy =>
        intro wS hSw
        clear hSw
        go_simp
        try with_reducible rfl
      refine takeP (i := 7) (v := ?_) rfl hX ?hy ?_
      case hy =>
        intro wS hSw
        have f0 := stays hSw f0
        have f1 := stays hSw f1
        have f2 := stays hSw f2
        have f3 := stays hSw f3
        clear hSw
        go_simp
        try with_reducible rfl
      try simp only [List.getElem_toArray, List.getElem_cons_succ, List.getElem_cons_zero, Act.put, List.setIfInBounds_toArray, List.set_cons_zero, List.set_cons_succ]
      refine readyF (rs := [8]) (by kernel_rfl) (by simp) ?_
      refine AllF.cons rfl (fun K hK => ?_) AllF.nil
      go_simp
      refine (Cm.out _ hX).mono ?_
      rintro e w0_8 ⟨rfl, hb⟩
      refine hK _ _ (fun h => h.trans (hb.mono h.size)) ?_
      clear hK K
      have hX := hX.trans (hb.mono hX.size)
      clear hb
      refine takeP (i := 9) (v := ?_) rfl hX ?hy ?_
      case hy =>
        intro wS hSw
        clear hSw
        go_simp
        try with_reducible rfl
      try simp only [List.getElem_toArray, List.getElem_cons_succ, List.getElem_cons_zero, Act.put, List.setIfInBounds_toArray, List.set_cons_zero, List.set_cons_succ]
      refine doneF (by kernel_rfl) ?_ _
      try simp only [List.getElem_toArray, List.getElem_cons_succ, List.getElem_cons_zero, Act.put, List.setIfInBounds_toArray, List.set_cons_zero, List.set_cons_succ]
      go_wp2
      go_roundw
      case rel => exact ⟨j + 1, by omega, by go_num, hbr.trans (hX.mono hbr.size), Lib.hid (by have := Hst.out; simpa using this)⟩
      case measure => simp [intOf]; omega
end Go.Proofs.YtpffieogkfndaaaGreatDoor

namespace Go.Proofs.YtpffieogkfndaaaGreatDoor
open Go.RowKit
set_option maxRecDepth 20000
set_option linter.unusedVariables false
set_option linter.unusedSimpArgs false
section
variable {α : Type} [Rep α] {w w' : World} {B : Nat} {e : TypeId} {A : Option Addr} {n c : Nat} {ls : List α}
def OwnZ (w : World) (B : Nat) (e : TypeId) (A : Option Addr) (n c : Nat) (ls : List α) : Prop :=
  ∃ xs, Own w B e (Rep.size α) A n c xs ∧ RowC w (fun b => blk A c ≠ some b ∧ B ≤ b) xs ls
theorem OwnZ.nil (w : World) (B : Nat) (e : TypeId) (A : Option Addr) : OwnZ w B e A 0 0 ([] : List α) := ⟨[], Own.nil _ _ _ _ _, rfl⟩
theorem OwnZ.slB (h : OwnZ w B e A n c ls) : SlR w (fun b => B ≤ b) A n c ls := by
  obtain ⟨xs, ho, hr⟩ := h
  refine ⟨xs, ho.sl, hr.move fun _ _ h => ⟨rfl, h.2⟩, fun b hn e => (ho.lt b ?_).1⟩
  have := ho.cap
  unfold blk
  rw [if_neg (by omega)]
  exact e
theorem OwnZ.sl (h : OwnZ w B e A n c ls) : SlR w (fun _ => True) A n c ls := h.slB.mono fun _ _ _ => trivial
theorem OwnZ.lenR (h : OwnZ w B e A n c ls) : ls.length = n := h.sl.lenR
theorem OwnZ.lt (h : OwnZ w B e A n c ls) : ∀ b, blk A c = some b → B ≤ b ∧ b < w.heap.size := by
  obtain ⟨xs, ho, _⟩ := h
  exact fun b hb => Own.lt ho b hb
theorem OwnZ.below (h : OwnZ w B e A n c ls) (hb : Below w.heap.size w w') : OwnZ w' B e A n c ls := by
  obtain ⟨xs, ho, hr⟩ := h
  exact ⟨xs, ho.below hb, hr.move fun b hl hp => ⟨hb.block b hl, hp⟩⟩
theorem OwnZ.mono {B' : Nat} (h : OwnZ w B e A n c ls) (hB : B' ≤ B) : OwnZ w B' e A n c ls := by
  obtain ⟨xs, ho, hr⟩ := h
  exact ⟨xs, ho.mono hB, hr.move fun b _ hp => ⟨rfl, hp.1, Nat.le_trans hB hp.2⟩⟩
/-- another block was written -/
theorem OwnZ.grown {g : Nat} {row : Option Nat} (h : OwnZ w B e A n c ls) (hg : w.grownBy w' row) (h1 : ∀ b, row = some b → g ≤ b) (h2 : w.heap.size ≤ g) : OwnZ w' B e A n c ls := by
  obtain ⟨xs, ho, hr⟩ := h
  refine ⟨xs, ho.grown hg fun b hb q => ?_, hr.move fun b hl hp => ⟨hg.block b hl fun q => ?_, hp⟩⟩
  · have := (ho.lt b hb).2
    have := h1 b q
    omega
  · have := h1 b q.symm
    omega
theorem row_appZ (P : Program) (w : World) (t ty : TypeId) (z : Value) (bytes : Nat) (ht : P.underlying t = some (.slice e)) (hi : (P.info? e).map (fun i => (i.zero, i.size, i.bytes)) = some (some z, Rep.size α, bytes))
    (hzs : z.cells.size = Rep.size α) (hown : OwnZ w B e A n c ls)
    (A2 : Option Addr) (m c2 : Nat) (ms : List α) (hs : ∃ xs, Sl w (Rep.size α) A2 m c2 xs ∧ RowC w (fun b => blk A c ≠ some b ∧ B ≤ b) xs ms)
    (h63 : n + m ≤ maxLen) (hbytes : (n + m) * bytes ≤ 140737488355328) (hB : B ≤ w.heap.size) :
    ∃ A' c' w', (Builtin.append_ #[t, t] ty #[.slice A n c, .slice A2 m c2]).run P w = .ok (.slice A' (n + m) c') w' ∧ OwnZ w' B e A' (n + m) c' (ls ++ ms) ∧ w.grownBy w' (blk A c) ∧ (blk A' c' = blk A c ∨ blk A' c' = some w.heap.size) := by
  obtain ⟨i, hi1, hz, hs1, hb1⟩ := info_parts hi
  obtain ⟨xs, hO, hR⟩ := hown
  obtain ⟨ys, hS, hR2⟩ := hs
  obtain ⟨A', c', w', hrun, h2, h3, h4⟩ := run_append_own2 (P := P) w B t ty e i z (Rep.size α) bytes ht hi1 hz hs1 hb1 hzs A n c xs hO A2 m c2 ys hS hR2.one h63 hbytes hB
  have mv : ∀ b, b < w.heap.size → (blk A c ≠ some b ∧ B ≤ b) → w'.heap[b]? = w.heap[b]? ∧ blk A' c' ≠ some b ∧ B ≤ b := fun b hl hp2 => by
    obtain ⟨hp, hBb⟩ := hp2
    refine ⟨h3.block b hl (fun q => hp q.symm), ?_, hBb⟩
    rcases h4 with q | q
    · rw [q]; exact hp
    · rw [q]
      intro r
      simp at r
      omega
  exact ⟨A', c', w', hrun, ⟨_, h2, (hR.move mv).append (hR2.move mv)⟩, h3, h4⟩
theorem wpList_appZ {P : Program} (w : World) {ops : Array Oper} {rest : List Oper} {o : Oper} {a : Act} {Q : Exit → Act → World → Prop} (hgd : o.guard = none) (s x : Operand) (t : TypeId)
    (ho : o.op = .call { callee := .builtin .append, args := #[s, x], argTypes := #[t, t] })
    (B : Nat) (e : TypeId) (z : Value) (bytes : Nat) (ht : P.underlying t = some (.slice e)) (hi : (P.info? e).map (fun i => (i.zero, i.size, i.bytes)) = some (some z, Rep.size α, bytes))
    (hzs : z.cells.size = Rep.size α)
    (A : Option Addr) (n c : Nat) (ls : List α) (hsv : a.eval s = .slice A n c) (hown : OwnZ w B e A n c ls)
    (A2 : Option Addr) (m c2 : Nat) (ms : List α) (hx : a.eval x = .slice A2 m c2) (hs : ∃ xs, Sl w (Rep.size α) A2 m c2 xs ∧ RowC w (fun b => blk A c ≠ some b ∧ B ≤ b) xs ms)
    (h63 : n + m ≤ maxLen) (hbytes : (n + m) * bytes ≤ 140737488355328) (hB : B ≤ w.heap.size)
    (h : ∀ A' c' w', OwnZ w' B e A' (n + m) c' (ls ++ ms) → w.grownBy w' (blk A c) → (blk A' c' = blk A c ∨ blk A' c' = some w.heap.size) → wpList P ops Q rest (a.put o.dst (.slice A' (n + m) c')) w') : wpList P ops Q (o :: rest) a w := by
  obtain ⟨A', c', w', hrun, h2, h3, h4⟩ := row_appZ P w t o.type z bytes ht hi hzs hown A2 m c2 ms hs h63 hbytes hB
  refine wpList_plain hgd fun _ hK => ?_
  unfold Oper.wp execOp
  simp only [ho, resolve, invoke, builtin, Sem.run_bind, Sem.run_pure, Result.andThen_ok, List.map_toArray, List.map_cons, List.map_nil, hsv, hx, hrun]
  exact hK _ _ (h A' c' w' h2 h3 h4)
end
end Go.Proofs.YtpffieogkfndaaaGreatDoor
