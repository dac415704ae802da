/-
  SealBits, Held in one text. No condition but sizes.
-/
import Derived.Test.YtpffieogkfndaaaGreatDoorJParts
import Derived.Test.YtpffieogkfndaaaGreatDoorJBytes
import Derived.OrdersHeld
import Derived.RegionTactic
import Derived.StillTailTactics
namespace Go.Proofs.YtpffieogkfndaaaGreatDoor
set_option maxRecDepth 20000
set_option linter.unusedVariables false
set_option linter.unusedSimpArgs false

/-- the polynomial, turned -/
def polyN : Nat := 0x82f63b78
def step0 (c : Nat) : Nat := (c / 2) ^^^ (if c % 2 = 1 then polyN else 0)

theorem testBit_half (c j : Nat) : (c / 2).testBit j = c.testBit (j + 1) := by
  rw [Nat.testBit_succ]
theorem testBit_step0 (c j : Nat) : (step0 c).testBit j = (c.testBit (j + 1) ^^ (c.testBit 0 && polyN.testBit j)) := by
  unfold step0
  rw [Nat.testBit_xor, testBit_half, Nat.testBit_zero]
  by_cases h : c % 2 = 1 <;> simp [h]
theorem step0_xor (a b : Nat) : step0 (a ^^^ b) = step0 a ^^^ step0 b := by
  apply Nat.eq_of_testBit_eq
  intro j
  simp only [testBit_step0, Nat.testBit_xor]
  cases a.testBit (j + 1) <;> cases b.testBit (j + 1) <;> cases a.testBit 0 <;> cases b.testBit 0 <;> cases polyN.testBit j <;> rfl
theorem step0_double (y : Nat) : step0 (2 * y) = y := by
  unfold step0
  have h1 : 2 * y / 2 = y := by omega
  have h2 : 2 * y % 2 = 0 := by omega
  rw [h1, h2]
  simp
theorem step0_lt {c : Nat} (h : c < 4294967296) : step0 c < 4294967296 := by
  unfold step0
  refine Nat.xor_lt_two_pow (n := 32) (by omega) ?_
  split <;> decide
theorem four_zero (h : Nat) : step0 (step0 (step0 (step0 (16 * h)))) = h := by
  have e : 16 * h = 2 * (2 * (2 * (2 * h))) := by omega
  rw [e, step0_double, step0_double, step0_double, step0_double]
theorem four_low : ∀ i : Fin 16, step0 (step0 (step0 (step0 i.val))) = quarterL.getD i.val 0 := by decide
theorem split16 (c : Nat) : c = (16 * (c / 16)) ^^^ (c % 16) := by
  have h1 : 16 * (c / 16) = (c / 16) <<< 4 := by rw [Nat.shiftLeft_eq]; omega
  apply Nat.eq_of_testBit_eq
  intro j
  rw [Nat.testBit_xor, h1, Nat.testBit_shiftLeft, show c % 16 = c % 2 ^ 4 from rfl, Nat.testBit_mod_two_pow, show c / 16 = c / 2 ^ 4 from rfl, Nat.testBit_div_two_pow]
  by_cases h : 4 ≤ j
  · simp [h, show ¬ j < 4 by omega, show j - 4 + 4 = j by omega]
  · simp [h, show j < 4 by omega]
/-- four bits off the table are four steps -/
theorem nib_steps (c : Nat) : nib c = step0 (step0 (step0 (step0 c))) := by
  conv => rhs; rw [split16 c]
  simp only [step0_xor]
  rw [four_zero]
  have := four_low ⟨c % 16, Nat.mod_lt _ (by omega)⟩
  simp only at this
  rw [this]
  rfl

/-- bit i of bytes -/
def mbit (p : List UInt8) (i : Nat) : Bool := (p.getD (i / 8) 0).toNat.testBit (i % 8)
/-- the register behind i bits -/
def reg (c : Nat) (m : Nat → Bool) : Nat → Nat
  | 0 => c
  | i + 1 => step0 (reg c m i ^^^ (m i).toNat)
theorem reg_lt {c : Nat} (h : c < 4294967296) (m : Nat → Bool) (i : Nat) : reg c m i < 4294967296 := by
  induction i with
  | zero => exact h
  | succ i ih => exact step0_lt (Nat.xor_lt_two_pow (n := 32) ih (by cases m i <;> decide))
theorem reg_add (c : Nat) (m : Nat → Bool) (i j : Nat) : reg c m (i + j) = reg (reg c m i) (fun k => m (i + k)) j := by
  induction j with
  | zero => rfl
  | succ j ih => rw [← Nat.add_assoc]; simp only [reg]; rw [ih]
theorem reg_congr (c : Nat) {m m' : Nat → Bool} (n : Nat) (h : ∀ i, i < n → m i = m' i) : reg c m n = reg c m' n := by
  induction n with
  | zero => rfl
  | succ n ih => simp only [reg]; rw [ih fun i hi => h i (by omega), h n (by omega)]
/-- a number's bits are taken in one by one -/
theorem bits_in (c x : Nat) : c ^^^ x = (c ^^^ (x.testBit 0).toNat) ^^^ (2 * (x / 2)) := by
  apply Nat.eq_of_testBit_eq
  intro j
  rw [Nat.testBit_xor, Nat.testBit_xor, Nat.testBit_xor]
  rcases j with _ | j
  · have h1 : (2 * (x / 2)).testBit 0 = false := by rw [Nat.testBit_zero]; simp
    rw [h1]
    cases hx : x.testBit 0 <;> simp
  · have h1 : (2 * (x / 2)).testBit (j + 1) = x.testBit (j + 1) := by
      rw [Nat.testBit_succ, Nat.testBit_succ]; congr 1; omega
    rw [h1]
    cases hx : x.testBit 0 <;> simp [Nat.testBit_succ]
theorem reg_bits (n : Nat) : ∀ c x, x < 2 ^ n → reg c (fun i => x.testBit i) n = Nat.rec (c ^^^ x) (fun _ r => step0 r) n := by
  induction n with
  | zero =>
    intro c x hx
    have : x = 0 := by simpa using hx
    subst this
    show c = c ^^^ 0
    simp
  | succ n ih =>
    intro c x hx
    have e : n + 1 = 1 + n := by omega
    have h1 := reg_add c (fun i => x.testBit i) 1 n
    rw [← e] at h1
    rw [h1]
    have h2 : (fun k => x.testBit (1 + k)) = fun k => (x / 2).testBit k := by
      funext k
      rw [testBit_half, Nat.add_comm]
    rw [h2, ih _ _ (by rw [Nat.pow_succ] at hx; omega)]
    have h3 : reg c (fun i => x.testBit i) 1 ^^^ (x / 2) = step0 (c ^^^ x) := by
      rw [bits_in c x, step0_xor, step0_double]
      rfl
    rw [h3]
    have shift : ∀ k (r : Nat), (Nat.rec (step0 r) (fun _ r => step0 r) k : Nat) = step0 (Nat.rec r (fun _ r => step0 r) k) := by
      intro k r
      induction k with
      | zero => rfl
      | succ k ihk => simp only; rw [ihk]
    rw [shift]
theorem reg_byte (c x : Nat) (hx : x < 256) : reg c (fun i => x.testBit i) 8 = stepB c x := by
  rw [reg_bits 8 c x (by omega)]
  unfold stepB
  rw [nib_steps, nib_steps]
  rfl
/-- THE TWO WAYS MEET -/
theorem reg_crc (c : Nat) (p : List UInt8) : reg c (mbit p) (8 * p.length) = crcL c p := by
  induction p generalizing c with
  | nil => rfl
  | cons b r ih =>
    have e : 8 * (b :: r).length = 8 + 8 * r.length := by simp; omega
    rw [e, reg_add]
    have h1 : reg c (mbit (b :: r)) 8 = stepB c b.toNat := by
      rw [← reg_byte c b.toNat b.toNat_lt]
      apply reg_congr
      intro i hi
      simp [mbit, show i / 8 = 0 by omega, show i % 8 = i by omega]
    have h2 : (fun k => mbit (b :: r) (8 + k)) = mbit r := by
      funext k
      simp [mbit, show (8 + k) / 8 = k / 8 + 1 by omega, show (8 + k) % 8 = k % 8 by omega]
    rw [h1, h2, ih]
    rfl
/-- the powers, as the reference lists them -/
def byL : List Nat := [0, 6, 8, 9, 10, 11, 13, 14, 18, 19, 20, 22, 23, 25, 26, 27, 28]
/-- how often, odd or even -/
def hits (l : List Nat) (p : Nat → Bool) : Bool := l.foldr (fun k b => p k ^^ b) false
theorem hits_snoc (l : List Nat) (x : Nat) (p : Nat → Bool) : hits (l ++ [x]) p = (hits l p ^^ p x) := by
  induction l with
  | nil => simp [hits]
  | cons y r ih =>
    have h : hits (y :: r ++ [x]) p = (p y ^^ hits (r ++ [x]) p) := rfl
    have h' : hits (y :: r) p = (p y ^^ hits r p) := rfl
    rw [h, h', ih, Bool.xor_assoc]
theorem by_poly : ∀ j : Fin 32, hits byL (fun k => decide (31 - k = j.val)) = polyN.testBit j.val := by decide
theorem by_small : ∀ k ∈ byL, k ≤ 28 := by decide
theorem any_same {p q : Nat → Bool} (l : List Nat) (h : ∀ x ∈ l, p x = q x) : hits l p = hits l q := by
  induction l with
  | nil => rfl
  | cons x r ih =>
    have e : ∀ p, hits (x :: r) p = (p x ^^ hits r p) := fun _ => rfl
    rw [e, e, h x (by simp), ih fun y hy => h y (by simp [hy])]
theorem hits_none (l : List Nat) : hits l (fun _ => false) = false := by
  induction l with
  | nil => rfl
  | cons x r ih => show (false ^^ hits r _) = false; rw [ih]; rfl
/-- what the division's list of bits holds when the first i of them are done -/
def Win (N : Nat) (m : Nat → Bool) (i : Nat) (f : Nat → Bool) : Prop :=
  (∀ j, j < 32 → f (i + j) = ((reg 4294967295 m i).testBit j ^^ m (i + j))) ∧ ∀ j, i + 32 ≤ j → j < N → f j = m j
theorem Win.start (N : Nat) (m f : Nat → Bool) (h : ∀ j, j < N → f j = (m j ^^ decide (j < 32))) (hN : 32 ≤ N) : Win N m 0 f := by
  constructor
  · intro j hj
    rw [Nat.zero_add, h j (by omega)]
    have : (4294967295 : Nat).testBit j = true := by
      have := Nat.testBit_two_pow_sub_one 32 j
      simp at this
      rw [this]
      simpa using hj
    simp only [reg]
    rw [this]
    simp [hj, Bool.xor_comm]
  · intro j h1 h2
    rw [h j h2]
    simp [show ¬ j < 32 by omega]
/-- a bit that is set: the polynomial goes off -/
theorem Win.one {N : Nat} {m : Nat → Bool} {i : Nat} {f f' : Nat → Bool} (h : Win N m i f) (hi : f i = true) (hf : ∀ j, j < N → f' j = (f j ^^ hits byL (fun k => decide (i + 32 - k = j)))) (hN : i + 32 < N) : Win N m (i + 1) f' := by
  have h0 := h.1 0 (by omega)
  rw [Nat.add_zero, hi] at h0
  have hx : ((reg 4294967295 m i ^^^ (m i).toNat).testBit 0) = true := by
    rw [Nat.testBit_xor, h0]
    cases m i <;> rfl
  have hb : ∀ j, j < 32 → hits byL (fun k => decide (i + 32 - k = i + 1 + j)) = polyN.testBit j := by
    intro j hj
    rw [← by_poly ⟨j, hj⟩]
    apply any_same
    intro k hk
    have := by_small k hk
    simp only [decide_eq_decide]
    omega
  constructor
  · intro j hj
    rw [hf _ (by omega), hb j hj]
    simp only [reg, testBit_step0]
    rw [hx]
    rcases Nat.lt_or_ge j 31 with hj1 | hj1
    · have := h.1 (j + 1) (by omega)
      rw [show i + 1 + j = i + (j + 1) by omega, this, Nat.testBit_xor]
      have : ((m i).toNat).testBit (j + 1) = false := by cases m i <;> simp [Nat.testBit_succ]
      rw [this]
      cases (reg 4294967295 m i).testBit (j + 1) <;> cases m (i + (j + 1)) <;> cases polyN.testBit j <;> rfl
    · obtain rfl : j = 31 := by omega
      have := h.2 (i + 1 + 31) (by omega) (by omega)
      rw [this]
      have : (reg 4294967295 m i ^^^ (m i).toNat).testBit (31 + 1) = false := by
        apply Nat.testBit_lt_two_pow
        exact Nat.xor_lt_two_pow (n := 32) (reg_lt (by omega) m i) (by cases m i <;> decide)
      rw [this]
      cases m (i + 1 + 31) <;> cases polyN.testBit 31 <;> rfl
  · intro j h1 h2
    rw [hf j h2, h.2 j (by omega) h2]
    have : hits byL (fun k => decide (i + 32 - k = j)) = false := by
      rw [any_same byL (q := fun _ => false) (fun k _ => by simp; omega), hits_none]
    rw [this]
    simp
/-- one that is not -/
theorem Win.zero {N : Nat} {m : Nat → Bool} {i : Nat} {f : Nat → Bool} (h : Win N m i f) (hi : f i = false) (hN : i + 32 < N) : Win N m (i + 1) f := by
  have h0 := h.1 0 (by omega)
  rw [Nat.add_zero, hi] at h0
  have hx : ((reg 4294967295 m i ^^^ (m i).toNat).testBit 0) = false := by
    rw [Nat.testBit_xor]
    cases hm : m i <;> rw [hm] at h0 <;> simp at h0 <;> simp [h0]
  constructor
  · intro j hj
    simp only [reg, testBit_step0]
    rw [hx]
    rcases Nat.lt_or_ge j 31 with hj1 | hj1
    · have := h.1 (j + 1) (by omega)
      rw [show i + 1 + j = i + (j + 1) by omega, this, Nat.testBit_xor]
      have : ((m i).toNat).testBit (j + 1) = false := by cases m i <;> simp [Nat.testBit_succ]
      rw [this]
      simp
    · obtain rfl : j = 31 := by omega
      have := h.2 (i + 1 + 31) (by omega) (by omega)
      rw [this]
      have : (reg 4294967295 m i ^^^ (m i).toNat).testBit (31 + 1) = false := by
        apply Nat.testBit_lt_two_pow
        exact Nat.xor_lt_two_pow (n := 32) (reg_lt (by omega) m i) (by cases m i <;> decide)
      rw [this]
      simp
  · intro j h1 h2
    exact h.2 j (by omega) h2
/-- the bits that are left are the sum's, turned -/
theorem Win.last {m : Nat → Bool} {i : Nat} {f : Nat → Bool} (h : Win (i + 32) m i f) (hm : ∀ j, i ≤ j → m j = false) (j : Nat) (hj : j < 32) : (!f (i + j)) = (4294967295 - reg 4294967295 m i).testBit j := by
  rw [h.1 j hj, hm _ (by omega), ← xor_ones (reg_lt (by omega) m i), Nat.testBit_xor]
  have : (4294967295 : Nat).testBit j = true := by
    have := Nat.testBit_two_pow_sub_one 32 j
    simp at this
    rw [this]
    simpa using hj
  rw [this]
  simp
theorem mbit_past (p : List UInt8) (j : Nat) (h : 8 * p.length ≤ j) : mbit p j = false := by
  have : p.length ≤ j / 8 := by omega
  simp [mbit, List.getD_eq_getElem?_getD, List.getElem?_eq_none this]
/-- the number of the bits from place i up, bit by bit from above -/
theorem high_step (s i : Nat) : s / 2 ^ i = 2 * (s / 2 ^ (i + 1)) + (s.testBit i).toNat := by
  rw [Nat.testBit, Nat.shiftRight_eq_div_pow, Nat.pow_succ, ← Nat.div_div_eq_div_mul]
  have h : 1 &&& s / 2 ^ i = s / 2 ^ i % 2 := by rw [Nat.and_comm]; exact Nat.and_two_pow_sub_one_eq_mod _ 1
  rw [h]
  have : s / 2 ^ i % 2 = 0 ∨ s / 2 ^ i % 2 = 1 := by omega
  rcases this with e | e <;> rw [e] <;> simp <;> omega
theorem sum_reg (p : List UInt8) : 4294967295 - reg 4294967295 (mbit p) (8 * p.length) = sumL p := by rw [reg_crc]; rfl
/-- a bit as the walk spells it -/
theorem bit_spelt (x i : Nat) : ((((x : Nat) : Int) / 2 ^ i).tmod 2 == 1) = x.testBit i := by
  have e : ((x : Nat) : Int) / 2 ^ i = ((x / 2 ^ i : Nat) : Int) := by simp
  rw [e, Nat.testBit_eq_decide_div_mod_eq]
  have e2 : (((x / 2 ^ i : Nat) : Int)).tmod 2 = ((x / 2 ^ i % 2 : Nat) : Int) := by
    rw [Int.tmod_eq_emod_of_nonneg (Int.natCast_nonneg _)]; rfl
  rw [e2, Bool.eq_iff_iff]
  simp only [beq_iff_eq, decide_eq_true_eq]
  omega
end Go.Proofs.YtpffieogkfndaaaGreatDoor

namespace Go.Proofs.YtpffieogkfndaaaGreatDoor
open Go.RowKit
set_option maxRecDepth 20000
set_option linter.unusedVariables false
set_option linter.unusedSimpArgs false
section
variable {P : Program} {ops : Array Oper} {Q : Exit → Act → World → Prop} {md : Region.Mode} {m : Nat} {S : World → Prop}

/-- whatever order is picked from here on; S holds behind each of the first m operations -/
def AnyS (P : Program) (md : Region.Mode) (ops : Array Oper) (Q : Exit → Act → World → Prop) (m : Nat) (S : World → Prop) : Nat → Array Bool → Act → World → Prop
  | 0, listed, a, w => Region.ready md ops listed = [] ∧ Q .normal a w
  | fuel + 1, listed, a, w =>
    (Region.ready md ops listed = [] → Q .normal a w) ∧
    ∀ j ∈ Region.ready md ops listed, wpOp P ops Q j (fun a' w' => (j < m → S w') ∧ AnyS P md ops Q m S fuel (listed.setIfInBounds j true) a' w') a w
theorem any_of_S : ∀ (fuel : Nat) (listed : Array Bool) (a : Act) (w : World), AnyS P md ops Q m S fuel listed a w → wpAny P md ops Q fuel listed a w
  | 0, _, _, _, h => h
  | fuel + 1, _, _, _, h => ⟨h.1, fun j hj => wpOp_mono (fun a' w' q => any_of_S fuel _ a' w' q.2) (h.2 j hj)⟩
/-- every operation from number m on waits for number i -/
def tailWaits (md : Region.Mode) (ops : Array Oper) (m i : Nat) : Bool :=
  (List.range ops.size).all fun t => decide (t < m) || match ops[t]? with
    | some o => o.after.any fun e => Region.binds md e && e.on == i
    | none => true
theorem tailWaits_spec {i : Nat} (h : tailWaits md ops m i = true) {t : Nat} {ot : Oper} (ht : ops[t]? = some ot) (hm : m ≤ t) : ∃ e ∈ ot.after, Region.binds md e = true ∧ e.on = i := by
  have h1 := List.all_eq_true.1 h t (List.mem_range.2 (Array.getElem?_eq_some_iff.1 ht).1)
  rw [ht] at h1
  simp only [Bool.or_eq_true, decide_eq_true_eq] at h1
  rcases h1 with h1 | h1
  · omega
  · obtain ⟨e, he, hb⟩ := Array.any_eq_true'.1 h1
    simp only [Bool.and_eq_true, beq_iff_eq] at hb
    exact ⟨e, he, hb.1, hb.2⟩
theorem unlisted {listed : Array Bool} {i : Nat} (h : listed.getD i true = false) : listed.getD i false = false := by
  rcases Nat.lt_or_ge i listed.size with hl | hl
  · simp [hl] at h ⊢; exact h
  · simp [Array.getElem?_eq_none hl] at h
theorem AnyS_first {i : Nat} {oi : Oper} {v : Value} (hi : ops[i]? = some oi) (hsel : ∀ (j : Nat) (o : Oper) cs b, ops[j]? = some o → o.op ≠ .select cs b)
    (hQ : ∀ c a w, Q (.panic c) (a.put oi.dst v) w → Q (.panic c) a w) (ht : tailWaits md ops m i = true) (him : i < m) :
    ∀ (fuel : Nat) (listed : Array Bool) (a : Act) (w : World),
      (∀ j oj, ops[j]? = some oj → j ≠ i → listed.getD j true = false → (∀ e ∈ oj.after, Region.binds md e = true → e.on ≠ i) → oi.apart ops oj = true) →
      i ∈ Region.ready md ops listed → YieldsIf P ops S oi v a → S w →
      AnyS P md ops Q m S fuel (listed.setIfInBounds i true) (a.put oi.dst v) w → AnyS P md ops Q m S (fuel + 1) listed a w
  | fuel, listed, a, w, hfree, hr, hy, hS, H => by
    have hun := (mem_ready.1 hr).1
    refine ⟨fun h => (by rw [h] at hr; cases hr), fun j hj => ?_⟩
    by_cases hji : j = i
    · subst hji
      exact hy.wpOp hi hS ⟨fun _ => hS, H⟩
    · obtain ⟨hjun, oj, hoj, hall⟩ := mem_ready.1 hj
      have hnot : ∀ e ∈ oj.after, Region.binds md e = true → e.on ≠ i := fun e he hb heq => by
        have h1 := hall e he hb
        rw [heq, unlisted hun] at h1
        cases h1
      have hjm : j < m := by
        rcases Nat.lt_or_ge j m with h | h
        · exact h
        · obtain ⟨e, he, hb, hon⟩ := tailWaits_spec ht hoj h
          exact absurd hon (hnot e he hb)
      match fuel, H with
      | 0, H =>
        have := ready_mono hj hji
        rw [H.1] at this
        cases this
      | fuel + 1, H =>
        have h2 := wpOp_putIf hoj (hfree j oj hoj hji hjun hnot) (fun cs b => hsel i oi cs b hi) (fun cs b => hsel j oj cs b hoj) hQ hy (H.2 j (ready_mono hj hji))
        refine wpOp_mono (fun a' w' h3 => ⟨h3.2.1, ?_⟩) h2
        refine AnyS_first hi hsel hQ ht him fuel (listed.setIfInBounds j true) a' w' (fun k ok hk hki hkun hkno => hfree k ok hk hki ?_ hkno) (ready_mono hr (Ne.symm hji)) h3.1 (h3.2.1 hjm) ?_
        · by_cases hjk : j = k
          · subst hjk; exact hjun
          · rw [getD_set_ne true hjk] at hkun
            exact hkun
        · rw [Array.setIfInBounds_comm _ _ hji]
          exact h3.2.2
/-- number i is taken first -/
theorem takeS {i : Nat} {oi : Oper} {v : Value} {fuel : Nat} {listed : Array Bool} {a : Act} {w : World} (hi : ops[i]? = some oi)
    (hs : Region.noSelect ops = true) (hf : Region.free md ops listed i = true) (hr : (Region.ready md ops listed).contains i = true) (ht : tailWaits md ops m i = true) (him : decide (i < m) = true)
    (hQ : ∀ c a w, Q (.panic c) (a.put oi.dst v) w → Q (.panic c) a w) (hy : YieldsIf P ops S oi v a) (hS : S w)
    (h : AnyS P md ops Q m S fuel (listed.setIfInBounds i true) (a.put oi.dst v) w) : AnyS P md ops Q m S (fuel + 1) listed a w :=
  AnyS_first hi (Region.noSelect_spec hs) hQ ht (of_decide_eq_true him) fuel listed a w (Region.free_spec hi hf) (by simpa using hr) hy hS h
/-- number i alone may come up, and it is one of the first m: behind it S is shown -/
theorem readyS {i : Nat} {o : Oper} {fuel : Nat} {listed : Array Bool} {a : Act} {w : World} (hr : Region.ready md ops listed = [i]) (ho : ops[i]? = some o)
    (h : ∀ K : Act → World → Prop, (∀ a w, S w → AnyS P md ops Q m S fuel (listed.setIfInBounds i true) a w → K a w) → if Region.wanted o (yielded ops a.tmps) = true then Oper.wp P o a w K Q else K (a.put o.dst undef) w) :
    AnyS P md ops Q m S (fuel + 1) listed a w :=
  ⟨fun h0 => (by rw [hr] at h0; cases h0), fun j hj => by
    rw [hr] at hj
    obtain rfl : j = i := by simpa using hj
    exact wpOp_step ho fun K hK => h K fun a w hS hA => hK a w ⟨fun _ => hS, hA⟩⟩
/-- .. and it is one of the last -/
theorem tailS {i : Nat} {o : Oper} {fuel : Nat} {listed : Array Bool} {a : Act} {w : World} (hr : Region.ready md ops listed = [i]) (ho : ops[i]? = some o) (hm : decide (m ≤ i) = true)
    (h : ∀ K : Act → World → Prop, (∀ a w, AnyS P md ops Q m S fuel (listed.setIfInBounds i true) a w → K a w) → if Region.wanted o (yielded ops a.tmps) = true then Oper.wp P o a w K Q else K (a.put o.dst undef) w) :
    AnyS P md ops Q m S (fuel + 1) listed a w :=
  ⟨fun h0 => (by rw [hr] at h0; cases h0), fun j hj => by
    rw [hr] at hj
    obtain rfl : j = i := by simpa using hj
    exact wpOp_step ho fun K hK => h K fun a w hA => hK a w ⟨fun q => by have := of_decide_eq_true hm; omega, hA⟩⟩
theorem doneS {listed : Array Bool} {a : Act} {w : World} (hr : Region.ready md ops listed = []) (h : Q .normal a w) : ∀ fuel, AnyS P md ops Q m S fuel listed a w
  | 0 => ⟨hr, h⟩
  | _ + 1 => ⟨fun _ => h, by rw [hr]; simp⟩
/-- the beginning: from the world behind the draw -/
theorem regionS (m : Nat) (S : World → Prop) {id : Nat} {a : Act} {w : World} (hm : P.follows .mixedOrders = true)
    (h : AnyS P .any ops Q m S ops.size (Array.replicate ops.size false) a w.drew) : (Code.region id ops true).wp P Q a w :=
  wp_region_any hm (any_of_S _ _ _ _ h)
end
/-- a region whose first n operations only read, the last coming in one order: one walk, in the order of the text -/
theorem stillTail {P : Program} {id : Nat} {Q : Exit → Act → World → Prop} {a : Act} {w : World} {l : List Oper} (n : Nat) (hm : P.follows .mixedOrders = true) (hB : Region.lexTailB .any l.toArray n = true)
    (h : wpStill P l.toArray w.drew (fun a' => wpList P l.toArray Q (l.drop n) a' w.drew) (l.take n) a) : (Code.region id l.toArray true).wp P Q a w :=
  wp_region_still_tail n hm hB h
/-- what a variable that the call has boxed holds behind a call that writes new memory alone -/
theorem boxed {w w1 : World} {g : Nat} {cur : Array Value} {e : TypeId} (hb : Below w.heap.size w w1) (hg : w.heap[g]? = some (.cells cur e (0, 0))) :
    (∀ (j : Nat) u, cur[j]? = some u → w1.cell? ⟨g, j, none⟩ = some u) ∧ ∀ j : Nat, w1.frozen? ⟨g, j, none⟩ = false := by
  have hl : g < w.heap.size := (Array.getElem?_eq_some_iff.1 hg).1
  have h1 : w1.heap[g]? = some (.cells cur e (0, 0)) := (hb.block g hl).trans hg
  refine ⟨fun j u hu => ?_, fun j => ?_⟩
  · rw [cell_of_row w1 g j cur e (0, 0) h1]
    exact hu
  · simp [World.frozen?, h1]
theorem stays {w w' : World} (hb : Below w.heap.size w w') {a : Addr} {u : Value} (h : w.cell? a = some u) : w'.cell? a = some u := (hb.cell (World.block_lt_of_cell? _ _ h)).trans h
theorem set_same {w : World} {a : Addr} {u : Value} (h : w.cell? a = some u) (v : Value) : (w.setCell a v).cell? a = some v := World.cell?_setCell_same' w a v (by simp [h])
theorem set_other {w : World} {g j g' j' : Nat} {u : Value} (h : w.cell? ⟨g', j', none⟩ = some u) (v : Value) (hne : g ≠ g' ∨ j ≠ j') : (w.setCell ⟨g, j, none⟩ v).cell? ⟨g', j', none⟩ = some u := by
  rw [World.cell?_setCell_other]
  · exact h
  · intro e
    simp at e
    omega
/-- a cell of a lower block was written -/
theorem own_set {w : World} {B : Nat} {e : TypeId} {size : Nat} {A : Option Addr} {n c : Nat} {xs : List Value} (h : Own w B e size A n c xs) {g j : Nat} (hg : g < B) (v : Value) : Own (w.setCell ⟨g, j, none⟩ v) B e size A n c xs :=
  h.keep fun b hb => Below.heap_setCell w _ v b fun q => by
    have := (h.lt b hb).1
    simp at q
    omega
theorem sl_set {w : World} {size : Nat} {A : Option Addr} {n c : Nat} {xs : List Value} (h : Sl w size A n c xs) {g j : Nat} (hg : ∀ b, A.map (·.block) = some b → b ≠ g) (v : Value) : Sl (w.setCell ⟨g, j, none⟩ v) size A n c xs :=
  h.keep fun _ b hb => Below.heap_setCell w _ v b (hg b hb)
/-- a variable of three cells that was written whole -/
theorem box3 {w w' : World} {g : Nat} {u0 u1 u2 v0 v1 v2 : Value} (e : w' = ((w.setCell ⟨g, 0, none⟩ v0).setCell ⟨g, 1, none⟩ v1).setCell ⟨g, 2, none⟩ v2)
    (x0 : w.cell? ⟨g, 0, none⟩ = some u0) (x1 : w.cell? ⟨g, 1, none⟩ = some u1) (x2 : w.cell? ⟨g, 2, none⟩ = some u2) (x3 : ∀ j : Nat, w.frozen? ⟨g, j, none⟩ = false) :
    w'.cell? ⟨g, 0, none⟩ = some v0 ∧ w'.cell? ⟨g, 1, none⟩ = some v1 ∧ w'.cell? ⟨g, 2, none⟩ = some v2 ∧ (∀ j : Nat, w'.frozen? ⟨g, j, none⟩ = false) ∧ w.grownBy w' (some g) := by
  subst e
  refine ⟨set_other (set_other (set_same x0 _) _ (by omega)) _ (by omega), set_other (set_same (set_other x1 _ (by omega)) _) _ (by omega), set_same (set_other (set_other x2 _ (by omega)) _ (by omega)) _, fun j => ?_, ?_⟩
  · simp [x3]
  · exact only_set (only_set (only_set (World.grownBy.refl _ _) 0 v0) 1 v1) 2 v2
theorem nameC {P : Program} {f : FuncId} {args : Array Value} {R : Ending → World → Prop} {W : World} (h : ∀ w', w' = W → Calls P f args w' R) : Calls P f args W R := h W rfl
theorem box1 (w : World) (o : Obj) : (w.alloc o).heap[w.heap.size]? = some o := heap_alloc_new w o
/-- a variable of three cells that the call has boxed in block g -/
structure Bx (w : World) (g : Nat) (u0 u1 u2 : Value) : Prop where
  c0 : w.cell? ⟨g, 0, none⟩ = some u0
  c1 : w.cell? ⟨g, 1, none⟩ = some u1
  c2 : w.cell? ⟨g, 2, none⟩ = some u2
  fr : ∀ j : Nat, w.frozen? ⟨g, j, none⟩ = false
theorem Bx.lt {w : World} {g : Nat} {u0 u1 u2 : Value} (h : Bx w g u0 u1 u2) : g < w.heap.size := World.block_lt_of_cell? _ _ h.c0
theorem Bx.below {w w' : World} {g : Nat} {u0 u1 u2 : Value} (h : Bx w g u0 u1 u2) (hb : Below w.heap.size w w') : Bx w' g u0 u1 u2 :=
  ⟨stays hb h.c0, stays hb h.c1, stays hb h.c2, fun j => (hb.frozen (p := ⟨g, j, none⟩) h.lt).trans (h.fr j)⟩
theorem Bx.fresh (w : World) (u0 u1 u2 : Value) (e : TypeId) : Bx (w.alloc (.cells #[u0, u1, u2] e)) w.heap.size u0 u1 u2 := by
  have h := boxed (Below.refl _ _) (box1 w (.cells #[u0, u1, u2] e))
  exact ⟨h.1 0 _ rfl, h.1 1 _ rfl, h.1 2 _ rfl, h.2⟩
theorem Bx.set {w w' : World} {g : Nat} {u0 u1 u2 v0 v1 v2 : Value} (h : Bx w g u0 u1 u2) (e : w' = ((w.setCell ⟨g, 0, none⟩ v0).setCell ⟨g, 1, none⟩ v1).setCell ⟨g, 2, none⟩ v2) : Bx w' g v0 v1 v2 ∧ w.grownBy w' (some g) := by
  obtain ⟨a, b, c, d, f⟩ := box3 e h.c0 h.c1 h.c2 h.fr
  exact ⟨⟨a, b, c, d⟩, f⟩
theorem Bx.drew {w : World} {g : Nat} {u0 u1 u2 : Value} (h : Bx w g u0 u1 u2) : Bx w.drew g u0 u1 u2 := ⟨h.c0, h.c1, h.c2, h.fr⟩
theorem Bx.grown {w w' : World} {g g' : Nat} {u0 u1 u2 : Value} (h : Bx w g u0 u1 u2) (hg : w.grownBy w' (some g')) (hne : g ≠ g') : Bx w' g u0 u1 u2 := by
  have hh : w'.heap[g]? = w.heap[g]? := hg.block g h.lt (by simpa using hne)
  have hc : ∀ j : Nat, w'.cell? ⟨g, j, none⟩ = w.cell? ⟨g, j, none⟩ := fun j => World.cell?_of_block (a := ⟨g, j, none⟩) hh
  exact ⟨(hc 0).trans h.c0, (hc 1).trans h.c1, (hc 2).trans h.c2, fun j => (World.frozen?_of_block (a := ⟨g, j, none⟩) hh).trans (h.fr j)⟩
theorem Bx.grownO {w w' : World} {g : Nat} {row : Option Nat} {u0 u1 u2 : Value} (h : Bx w g u0 u1 u2) (hg : w.grownBy w' row) (hne : row ≠ some g) : Bx w' g u0 u1 u2 := by
  have hh : w'.heap[g]? = w.heap[g]? := hg.block g h.lt (fun e => hne e.symm)
  have hc : ∀ j : Nat, w'.cell? ⟨g, j, none⟩ = w.cell? ⟨g, j, none⟩ := fun j => World.cell?_of_block (a := ⟨g, j, none⟩) hh
  exact ⟨(hc 0).trans h.c0, (hc 1).trans h.c1, (hc 2).trans h.c2, fun j => (World.frozen?_of_block (a := ⟨g, j, none⟩) hh).trans (h.fr j)⟩
theorem still_of {P : Program} {f : FuncId} {args : Array Value} {w : World} {v : Value} (h : Calls P f args w fun e w' => e = .returned v ∧ w = w') : Calls P f args w fun e w' => e = .returned v ∧ w' = w :=
  h.mono fun _ _ ⟨a, b⟩ => ⟨a, b.symm⟩
end Go.Proofs.YtpffieogkfndaaaGreatDoor
