/-
  The seal's sum by dividing polynomials bit by bit is the sum that goes by the table. Plain numbers and bits; nothing of the program. No condition.
-/
import Derived.Test.YthbmlkdijppkbaaDoorSealPlain
namespace Go.Proofs.YthbmlkdijppkbaaDoor

/-- the polynomial, turned -/
def polyN : Nat := 0x82f63b78
def step0 (c : Nat) : Nat := (c / 2) ^^^ (if c % 2 = 1 then polyN else 0)

theorem testBit_half (c j : Nat) : (c / 2).testBit j = c.testBit (j + 1) := by
  rw [Nat.testBit_succ]
theorem testBit_step0 (c j : Nat) : (step0 c).testBit j = (c.testBit (j + 1) ^^ (c.testBit 0 && polyN.testBit j)) := by
  unfold step0
  rw [Nat.testBit_xor, testBit_half, Nat.testBit_zero]
  by_cases h : c % 2 = 1 <;> simp [h]
theorem step0_xor (a b : Nat) : step0 (a ^^^ b) = step0 a ^^^ step0 b := by
  apply Nat.eq_of_testBit_eq
  intro j
  simp only [testBit_step0, Nat.testBit_xor]
  cases a.testBit (j + 1) <;> cases b.testBit (j + 1) <;> cases a.testBit 0 <;> cases b.testBit 0 <;> cases polyN.testBit j <;> rfl
theorem step0_double (y : Nat) : step0 (2 * y) = y := by
  unfold step0
  have h1 : 2 * y / 2 = y := by omega
  have h2 : 2 * y % 2 = 0 := by omega
  rw [h1, h2]
  simp
theorem step0_lt {c : Nat} (h : c < 4294967296) : step0 c < 4294967296 := by
  unfold step0
  refine Nat.xor_lt_two_pow (n := 32) (by omega) ?_
  split <;> decide
theorem four_zero (h : Nat) : step0 (step0 (step0 (step0 (16 * h)))) = h := by
  have e : 16 * h = 2 * (2 * (2 * (2 * h))) := by omega
  rw [e, step0_double, step0_double, step0_double, step0_double]
theorem four_low : ∀ i : Fin 16, step0 (step0 (step0 (step0 i.val))) = quarterL.getD i.val 0 := by decide
theorem split16 (c : Nat) : c = (16 * (c / 16)) ^^^ (c % 16) := by
  have h1 : 16 * (c / 16) = (c / 16) <<< 4 := by rw [Nat.shiftLeft_eq]; omega
  apply Nat.eq_of_testBit_eq
  intro j
  rw [Nat.testBit_xor, h1, Nat.testBit_shiftLeft, show c % 16 = c % 2 ^ 4 from rfl, Nat.testBit_mod_two_pow, show c / 16 = c / 2 ^ 4 from rfl, Nat.testBit_div_two_pow]
  by_cases h : 4 ≤ j
  · simp [h, show ¬ j < 4 by omega, show j - 4 + 4 = j by omega]
  · simp [h, show j < 4 by omega]
/-- four bits off the table are four steps -/
theorem nib_steps (c : Nat) : nib c = step0 (step0 (step0 (step0 c))) := by
  conv => rhs; rw [split16 c]
  simp only [step0_xor]
  rw [four_zero]
  have := four_low ⟨c % 16, Nat.mod_lt _ (by omega)⟩
  simp only at this
  rw [this]
  rfl

/-- bit i of bytes -/
def mbit (p : List UInt8) (i : Nat) : Bool := (p.getD (i / 8) 0).toNat.testBit (i % 8)
/-- the register behind i bits -/
def reg (c : Nat) (m : Nat → Bool) : Nat → Nat
  | 0 => c
  | i + 1 => step0 (reg c m i ^^^ (m i).toNat)
theorem reg_lt {c : Nat} (h : c < 4294967296) (m : Nat → Bool) (i : Nat) : reg c m i < 4294967296 := by
  induction i with
  | zero => exact h
  | succ i ih => exact step0_lt (Nat.xor_lt_two_pow (n := 32) ih (by cases m i <;> decide))
theorem reg_add (c : Nat) (m : Nat → Bool) (i j : Nat) : reg c m (i + j) = reg (reg c m i) (fun k => m (i + k)) j := by
  induction j with
  | zero => rfl
  | succ j ih => rw [← Nat.add_assoc]; simp only [reg]; rw [ih]
theorem reg_congr (c : Nat) {m m' : Nat → Bool} (n : Nat) (h : ∀ i, i < n → m i = m' i) : reg c m n = reg c m' n := by
  induction n with
  | zero => rfl
  | succ n ih => simp only [reg]; rw [ih fun i hi => h i (by omega), h n (by omega)]
/-- a number's bits are taken in one by one -/
theorem bits_in (c x : Nat) : c ^^^ x = (c ^^^ (x.testBit 0).toNat) ^^^ (2 * (x / 2)) := by
  apply Nat.eq_of_testBit_eq
  intro j
  rw [Nat.testBit_xor, Nat.testBit_xor, Nat.testBit_xor]
  rcases j with _ | j
  · have h1 : (2 * (x / 2)).testBit 0 = false := by rw [Nat.testBit_zero]; simp
    rw [h1]
    cases hx : x.testBit 0 <;> simp
  · have h1 : (2 * (x / 2)).testBit (j + 1) = x.testBit (j + 1) := by
      rw [Nat.testBit_succ, Nat.testBit_succ]; congr 1; omega
    rw [h1]
    cases hx : x.testBit 0 <;> simp [Nat.testBit_succ]
theorem reg_bits (n : Nat) : ∀ c x, x < 2 ^ n → reg c (fun i => x.testBit i) n = Nat.rec (c ^^^ x) (fun _ r => step0 r) n := by
  induction n with
  | zero =>
    intro c x hx
    have : x = 0 := by simpa using hx
    subst this
    show c = c ^^^ 0
    simp
  | succ n ih =>
    intro c x hx
    have e : n + 1 = 1 + n := by omega
    have h1 := reg_add c (fun i => x.testBit i) 1 n
    rw [← e] at h1
    rw [h1]
    have h2 : (fun k => x.testBit (1 + k)) = fun k => (x / 2).testBit k := by
      funext k
      rw [testBit_half, Nat.add_comm]
    rw [h2, ih _ _ (by rw [Nat.pow_succ] at hx; omega)]
    have h3 : reg c (fun i => x.testBit i) 1 ^^^ (x / 2) = step0 (c ^^^ x) := by
      rw [bits_in c x, step0_xor, step0_double]
      rfl
    rw [h3]
    have shift : ∀ k (r : Nat), (Nat.rec (step0 r) (fun _ r => step0 r) k : Nat) = step0 (Nat.rec r (fun _ r => step0 r) k) := by
      intro k r
      induction k with
      | zero => rfl
      | succ k ihk => simp only; rw [ihk]
    rw [shift]
theorem reg_byte (c x : Nat) (hx : x < 256) : reg c (fun i => x.testBit i) 8 = stepB c x := by
  rw [reg_bits 8 c x (by omega)]
  unfold stepB
  rw [nib_steps, nib_steps]
  rfl
/-- THE TWO WAYS MEET -/
theorem reg_crc (c : Nat) (p : List UInt8) : reg c (mbit p) (8 * p.length) = crcL c p := by
  induction p generalizing c with
  | nil => rfl
  | cons b r ih =>
    have e : 8 * (b :: r).length = 8 + 8 * r.length := by simp; omega
    rw [e, reg_add]
    have h1 : reg c (mbit (b :: r)) 8 = stepB c b.toNat := by
      rw [← reg_byte c b.toNat b.toNat_lt]
      apply reg_congr
      intro i hi
      simp [mbit, show i / 8 = 0 by omega, show i % 8 = i by omega]
    have h2 : (fun k => mbit (b :: r) (8 + k)) = mbit r := by
      funext k
      simp [mbit, show (8 + k) / 8 = k / 8 + 1 by omega, show (8 + k) % 8 = k % 8 by omega]
    rw [h1, h2, ih]
    rfl
/-- the powers, as the reference lists them -/
def byL : List Nat := [0, 6, 8, 9, 10, 11, 13, 14, 18, 19, 20, 22, 23, 25, 26, 27, 28]
/-- how often, odd or even -/
def hits (l : List Nat) (p : Nat → Bool) : Bool := l.foldr (fun k b => p k ^^ b) false
theorem hits_snoc (l : List Nat) (x : Nat) (p : Nat → Bool) : hits (l ++ [x]) p = (hits l p ^^ p x) := by
  induction l with
  | nil => simp [hits]
  | cons y r ih =>
    have h : hits (y :: r ++ [x]) p = (p y ^^ hits (r ++ [x]) p) := rfl
    have h' : hits (y :: r) p = (p y ^^ hits r p) := rfl
    rw [h, h', ih, Bool.xor_assoc]
theorem by_poly : ∀ j : Fin 32, hits byL (fun k => decide (31 - k = j.val)) = polyN.testBit j.val := by decide
theorem by_small : ∀ k ∈ byL, k ≤ 28 := by decide
theorem any_same {p q : Nat → Bool} (l : List Nat) (h : ∀ x ∈ l, p x = q x) : hits l p = hits l q := by
  induction l with
  | nil => rfl
  | cons x r ih =>
    have e : ∀ p, hits (x :: r) p = (p x ^^ hits r p) := fun _ => rfl
    rw [e, e, h x (by simp), ih fun y hy => h y (by simp [hy])]
theorem hits_none (l : List Nat) : hits l (fun _ => false) = false := by
  induction l with
  | nil => rfl
  | cons x r ih => show (false ^^ hits r _) = false; rw [ih]; rfl
/-- what the division's list of bits holds when the first i of them are done -/
def Win (N : Nat) (m : Nat → Bool) (i : Nat) (f : Nat → Bool) : Prop :=
  (∀ j, j < 32 → f (i + j) = ((reg 4294967295 m i).testBit j ^^ m (i + j))) ∧ ∀ j, i + 32 ≤ j → j < N → f j = m j
theorem Win.start (N : Nat) (m f : Nat → Bool) (h : ∀ j, j < N → f j = (m j ^^ decide (j < 32))) (hN : 32 ≤ N) : Win N m 0 f := by
  constructor
  · intro j hj
    rw [Nat.zero_add, h j (by omega)]
    have : (4294967295 : Nat).testBit j = true := by
      have := Nat.testBit_two_pow_sub_one 32 j
      simp at this
      rw [this]
      simpa using hj
    simp only [reg]
    rw [this]
    simp [hj, Bool.xor_comm]
  · intro j h1 h2
    rw [h j h2]
    simp [show ¬ j < 32 by omega]
/-- a bit that is set: the polynomial goes off -/
theorem Win.one {N : Nat} {m : Nat → Bool} {i : Nat} {f f' : Nat → Bool} (h : Win N m i f) (hi : f i = true) (hf : ∀ j, j < N → f' j = (f j ^^ hits byL (fun k => decide (i + 32 - k = j)))) (hN : i + 32 < N) : Win N m (i + 1) f' := by
  have h0 := h.1 0 (by omega)
  rw [Nat.add_zero, hi] at h0
  have hx : ((reg 4294967295 m i ^^^ (m i).toNat).testBit 0) = true := by
    rw [Nat.testBit_xor, h0]
    cases m i <;> rfl
  have hb : ∀ j, j < 32 → hits byL (fun k => decide (i + 32 - k = i + 1 + j)) = polyN.testBit j := by
    intro j hj
    rw [← by_poly ⟨j, hj⟩]
    apply any_same
    intro k hk
    have := by_small k hk
    simp only [decide_eq_decide]
    omega
  constructor
  · intro j hj
    rw [hf _ (by omega), hb j hj]
    simp only [reg, testBit_step0]
    rw [hx]
    rcases Nat.lt_or_ge j 31 with hj1 | hj1
    · have := h.1 (j + 1) (by omega)
      rw [show i + 1 + j = i + (j + 1) by omega, this, Nat.testBit_xor]
      have : ((m i).toNat).testBit (j + 1) = false := by cases m i <;> simp [Nat.testBit_succ]
      rw [this]
      cases (reg 4294967295 m i).testBit (j + 1) <;> cases m (i + (j + 1)) <;> cases polyN.testBit j <;> rfl
    · obtain rfl : j = 31 := by omega
      have := h.2 (i + 1 + 31) (by omega) (by omega)
      rw [this]
      have : (reg 4294967295 m i ^^^ (m i).toNat).testBit (31 + 1) = false := by
        apply Nat.testBit_lt_two_pow
        exact Nat.xor_lt_two_pow (n := 32) (reg_lt (by omega) m i) (by cases m i <;> decide)
      rw [this]
      cases m (i + 1 + 31) <;> cases polyN.testBit 31 <;> rfl
  · intro j h1 h2
    rw [hf j h2, h.2 j (by omega) h2]
    have : hits byL (fun k => decide (i + 32 - k = j)) = false := by
      rw [any_same byL (q := fun _ => false) (fun k _ => by simp; omega), hits_none]
    rw [this]
    simp
/-- one that is not -/
theorem Win.zero {N : Nat} {m : Nat → Bool} {i : Nat} {f : Nat → Bool} (h : Win N m i f) (hi : f i = false) (hN : i + 32 < N) : Win N m (i + 1) f := by
  have h0 := h.1 0 (by omega)
  rw [Nat.add_zero, hi] at h0
  have hx : ((reg 4294967295 m i ^^^ (m i).toNat).testBit 0) = false := by
    rw [Nat.testBit_xor]
    cases hm : m i <;> rw [hm] at h0 <;> simp at h0 <;> simp [h0]
  constructor
  · intro j hj
    simp only [reg, testBit_step0]
    rw [hx]
    rcases Nat.lt_or_ge j 31 with hj1 | hj1
    · have := h.1 (j + 1) (by omega)
      rw [show i + 1 + j = i + (j + 1) by omega, this, Nat.testBit_xor]
      have : ((m i).toNat).testBit (j + 1) = false := by cases m i <;> simp [Nat.testBit_succ]
      rw [this]
      simp
    · obtain rfl : j = 31 := by omega
      have := h.2 (i + 1 + 31) (by omega) (by omega)
      rw [this]
      have : (reg 4294967295 m i ^^^ (m i).toNat).testBit (31 + 1) = false := by
        apply Nat.testBit_lt_two_pow
        exact Nat.xor_lt_two_pow (n := 32) (reg_lt (by omega) m i) (by cases m i <;> decide)
      rw [this]
      simp
  · intro j h1 h2
    exact h.2 j (by omega) h2
/-- the bits that are left are the sum's, turned -/
theorem Win.last {m : Nat → Bool} {i : Nat} {f : Nat → Bool} (h : Win (i + 32) m i f) (hm : ∀ j, i ≤ j → m j = false) (j : Nat) (hj : j < 32) : (!f (i + j)) = (4294967295 - reg 4294967295 m i).testBit j := by
  rw [h.1 j hj, hm _ (by omega), ← xor_ones (reg_lt (by omega) m i), Nat.testBit_xor]
  have : (4294967295 : Nat).testBit j = true := by
    have := Nat.testBit_two_pow_sub_one 32 j
    simp at this
    rw [this]
    simpa using hj
  rw [this]
  simp
theorem mbit_past (p : List UInt8) (j : Nat) (h : 8 * p.length ≤ j) : mbit p j = false := by
  have : p.length ≤ j / 8 := by omega
  simp [mbit, List.getD_eq_getElem?_getD, List.getElem?_eq_none this]
/-- the number of the bits from place i up, bit by bit from above -/
theorem high_step (s i : Nat) : s / 2 ^ i = 2 * (s / 2 ^ (i + 1)) + (s.testBit i).toNat := by
  rw [Nat.testBit, Nat.shiftRight_eq_div_pow, Nat.pow_succ, ← Nat.div_div_eq_div_mul]
  have h : 1 &&& s / 2 ^ i = s / 2 ^ i % 2 := by rw [Nat.and_comm]; exact Nat.and_two_pow_sub_one_eq_mod _ 1
  rw [h]
  have : s / 2 ^ i % 2 = 0 ∨ s / 2 ^ i % 2 = 1 := by omega
  rcases this with e | e <;> rw [e] <;> simp <;> omega
theorem sum_reg (p : List UInt8) : 4294967295 - reg 4294967295 (mbit p) (8 * p.length) = sumL p := by rw [reg_crc]; rfl
/-- a bit as the walk spells it -/
theorem bit_spelt (x i : Nat) : ((((x : Nat) : Int) / 2 ^ i).tmod 2 == 1) = x.testBit i := by
  have e : ((x : Nat) : Int) / 2 ^ i = ((x / 2 ^ i : Nat) : Int) := by simp
  rw [e, Nat.testBit_eq_decide_div_mod_eq]
  have e2 : (((x / 2 ^ i : Nat) : Int)).tmod 2 = ((x / 2 ^ i % 2 : Nat) : Int) := by
    rw [Int.tmod_eq_emod_of_nonneg (Int.natCast_nonneg _)]; rfl
  rw [e2, Bool.eq_iff_iff]
  simp only [beq_iff_eq, decide_eq_true_eq]
  omega
end Go.Proofs.YthbmlkdijppkbaaDoor
