/-
  Two texts of one length that are apart within 32 bits have unlike sums: plain numbers and bits. No condition.
-/
import Derived.Test.YthbmlkdijppkbaaDoorSealBits
namespace Go.Proofs.YthbmlkdijppkbaaDoor

theorem toNat_xor (a b : Bool) : (a ^^ b).toNat = a.toNat ^^^ b.toNat := by cases a <;> cases b <;> rfl
theorem xor_swap (a b c d : Nat) : (a ^^^ b) ^^^ (c ^^^ d) = (a ^^^ c) ^^^ (b ^^^ d) := by
  rw [Nat.xor_assoc, Nat.xor_assoc, ← Nat.xor_assoc b c d, Nat.xor_comm b c, Nat.xor_assoc]
theorem reg_xor (c c' : Nat) (m m' : Nat → Bool) (n : Nat) : reg (c ^^^ c') (fun i => m i ^^ m' i) n = reg c m n ^^^ reg c' m' n := by
  induction n with
  | zero => rfl
  | succ n ih =>
    simp only [reg]
    rw [ih, toNat_xor, xor_swap, step0_xor]
theorem step0_back {v r : Nat} (hr : r < 4294967296) (h : step0 r = v) (hv : v < 2147483648) : r = 2 * v := by
  have hb := testBit_step0 r 31
  rw [h] at hb
  have h1 : v.testBit 31 = false := Nat.testBit_lt_two_pow hv
  have h2 : r.testBit (31 + 1) = false := Nat.testBit_lt_two_pow hr
  have h3 : polyN.testBit 31 = true := by decide
  rw [h1, h2, h3, Nat.testBit_zero] at hb
  have h4 : r % 2 = 0 := by
    have : ¬ r % 2 = 1 := by intro e; rw [e] at hb; simp at hb
    omega
  unfold step0 at h
  rw [h4] at h
  simp at h
  omega
theorem xor_bit_lt {x j : Nat} {b : Bool} {v : Nat} (h : x ^^^ b.toNat = 2 * v) (hv : v < 2 ^ j) : x < 2 ^ (j + 1) ∧ x % 2 = b.toNat := by
  have e : x = 2 * v ^^^ b.toNat := by rw [← h, Nat.xor_assoc, Nat.xor_self, Nat.xor_zero]
  cases b
  · simp at e
    subst e
    rw [Nat.pow_succ]
    simp
    omega
  · have e2 : 2 * v ^^^ true.toNat = 2 * v + 1 := by
      apply Nat.eq_of_testBit_eq
      intro i
      rcases i with _ | i
      · rw [Nat.testBit_xor, Nat.testBit_zero, Nat.testBit_zero, Nat.testBit_zero]
        simp [Nat.add_mod]
      · rw [Nat.testBit_xor, Nat.testBit_succ, Nat.testBit_succ, Nat.testBit_succ]
        have h1 : 2 * v / 2 = v := by omega
        have h2 : (2 * v + 1) / 2 = v := by omega
        rw [h1, h2]
        simp
    rw [e2] at e
    subst e
    rw [Nat.pow_succ]
    simp
    omega
theorem reg_back (d : Nat → Bool) (n : Nat) (h : reg 0 d n = 0) : ∀ j, j ≤ n → j ≤ 32 → reg 0 d (n - j) < 2 ^ j ∧ (0 < j → reg 0 d (n - j) % 2 = (d (n - j)).toNat) := by
  intro j
  induction j with
  | zero => intro _ _; rw [Nat.sub_zero, h]; simp
  | succ j ih =>
    intro h1 h2
    have h3 := (ih (by omega) (by omega)).1
    have e : n - j = (n - (j + 1)) + 1 := by omega
    rw [e] at h3
    simp only [reg] at h3
    have hlt : reg 0 d (n - (j + 1)) ^^^ (d (n - (j + 1))).toNat < 4294967296 :=
      Nat.xor_lt_two_pow (n := 32) (reg_lt (by omega) d _) (by cases d (n - (j + 1)) <;> decide)
    have hj : 2 ^ j ≤ 2147483648 := Nat.pow_le_pow_right (n := 2) (by omega) (show j ≤ 31 by omega)
    have hb := step0_back hlt rfl (Nat.lt_of_lt_of_le h3 hj)
    have := xor_bit_lt hb h3
    exact ⟨this.1, fun _ => this.2⟩
theorem reg_zero (d : Nat → Bool) (f : Nat) (h : ∀ i, i < f → d i = false) : reg 0 d f = 0 := by
  induction f with
  | zero => rfl
  | succ f ih =>
    simp only [reg]
    rw [ih fun i hi => h i (by omega), h f (by omega)]
    rfl
theorem reg_tail (d : Nat → Bool) (a k : Nat) (h : ∀ i, a ≤ i → i < a + k → d i = false) (hz : reg 0 d (a + k) = 0) : reg 0 d a = 0 := by
  induction k with
  | zero => exact hz
  | succ k ih =>
    rw [← Nat.add_assoc] at hz
    simp only [reg] at hz
    rw [h (a + k) (by omega) (by omega)] at hz
    have := step0_back (Nat.xor_lt_two_pow (n := 32) (reg_lt (by omega) d _) (by decide)) hz (by omega)
    simp at this
    exact ih (fun i h1 h2 => h i h1 (by omega)) this
/-- a difference within 32 bits is seen -/
theorem reg_apart (d : Nat → Bool) (n f : Nat) (hf : f < n) (h0 : ∀ i, i < f → d i = false) (h1 : d f = true) (h2 : ∀ i, f + 32 ≤ i → i < n → d i = false) : reg 0 d n ≠ 0 := by
  intro hz
  obtain ⟨L, hL1, hL2, hL3, hz'⟩ : ∃ L, 0 < L ∧ L ≤ 32 ∧ f + L ≤ n ∧ reg 0 d (f + L) = 0 := by
    rcases Nat.lt_or_ge n (f + 32) with h | h
    · exact ⟨n - f, by omega, by omega, by omega, by rw [show f + (n - f) = n by omega]; exact hz⟩
    · refine ⟨32, by omega, by omega, h, reg_tail d (f + 32) (n - (f + 32)) (fun i a b => h2 i a (by omega)) ?_⟩
      rw [show f + 32 + (n - (f + 32)) = n by omega]
      exact hz
  have := (reg_back d (f + L) hz' L (by omega) hL2).2 hL1
  rw [Nat.add_sub_cancel, reg_zero d f h0, h1] at this
  simp at this
/-- TEXTS THAT ARE APART WITHIN 32 BITS HAVE UNLIKE SUMS -/
theorem sum_apart (t u : List UInt8) (hl : u.length = t.length) (f : Nat) (hf : f < 8 * t.length) (h0 : ∀ i, i < f → mbit u i = mbit t i) (h1 : mbit u f ≠ mbit t f) (h2 : ∀ i, f + 32 ≤ i → mbit u i = mbit t i) : sumL u ≠ sumL t := by
  intro e
  have e1 : reg 4294967295 (mbit u) (8 * t.length) = reg 4294967295 (mbit t) (8 * t.length) := by
    have r1 := sum_reg u
    have r2 := sum_reg t
    rw [hl] at r1
    have b1 := reg_lt (c := 4294967295) (by omega) (mbit u) (8 * t.length)
    have b2 := reg_lt (c := 4294967295) (by omega) (mbit t) (8 * t.length)
    omega
  have e2 := reg_xor 4294967295 4294967295 (mbit u) (mbit t) (8 * t.length)
  rw [e1, Nat.xor_self, Nat.xor_self] at e2
  refine reg_apart _ _ f hf (fun i hi => ?_) ?_ (fun i hi _ => ?_) e2
  · rw [h0 i hi]; cases mbit t i <;> rfl
  · revert h1; cases mbit u f <;> cases mbit t f <;> simp
  · rw [h2 i hi]; cases mbit t i <;> rfl

/-- one bit of a text, turned -/
theorem mbit_flip (u : List UInt8) (k j : Nat) (hk : k / 8 < u.length) : mbit (u.set (k / 8) (UInt8.ofNat (u[k / 8].toNat ^^^ 2 ^ (k % 8)))) j = (mbit u j ^^ decide (j = k)) := by
  have hx := u[k / 8].toNat_lt
  have hp : 2 ^ (k % 8) < 2 ^ 8 := Nat.pow_lt_pow_right (by omega) (by omega)
  have hv : u[k / 8].toNat ^^^ 2 ^ (k % 8) < 256 := Nat.xor_lt_two_pow (n := 8) (by omega) hp
  unfold mbit
  simp only [List.getD_eq_getElem?_getD, List.getElem?_set]
  by_cases e : k / 8 = j / 8
  · rw [← e]
    simp only [hk, ↓reduceIte, Option.getD_some, List.getElem?_eq_getElem hk]
    rw [UInt8.toNat_ofNat_of_lt' (by simpa using hv), Nat.testBit_xor, Nat.testBit_two_pow]
    congr 1
    simp only [decide_eq_decide]
    omega
  · rw [if_neg e]
    have : ¬ j = k := by intro h; subst h; exact e rfl
    simp [this]
/-- a byte that is another one -/
theorem mbit_set (u : List UInt8) (i : Nat) (x : UInt8) (j : Nat) (h : j / 8 ≠ i) : mbit (u.set i x) j = mbit u j := by
  unfold mbit
  simp only [List.getD_eq_getElem?_getD, List.getElem?_set]
  rw [if_neg (Ne.symm h)]
theorem sum_byte (t : List UInt8) (i : Nat) (x : UInt8) (hi : i < t.length) (hx : x ≠ t[i]) : sumL (t.set i x) ≠ sumL t := by
  have hd : ∃ b, b < 8 ∧ x.toNat.testBit b ≠ t[i].toNat.testBit b := by
    refine Classical.byContradiction fun hn => hx ?_
    apply UInt8.toNat_inj.1
    apply Nat.eq_of_testBit_eq
    intro b
    rcases Nat.lt_or_ge b 8 with hb | hb
    · exact Classical.byContradiction fun h => hn ⟨b, hb, h⟩
    · rw [Nat.testBit_lt_two_pow (Nat.lt_of_lt_of_le x.toNat_lt (Nat.pow_le_pow_right (by omega) hb)), Nat.testBit_lt_two_pow (Nat.lt_of_lt_of_le t[i].toNat_lt (Nat.pow_le_pow_right (by omega) hb))]
  have hfind : ∃ b, (b < 8 ∧ x.toNat.testBit b ≠ t[i].toNat.testBit b) ∧ ∀ a, a < b → ¬ (a < 8 ∧ x.toNat.testBit a ≠ t[i].toNat.testBit a) := by
    obtain ⟨b, hb⟩ := hd
    induction b using Nat.strongRecOn with
    | _ b ih =>
      by_cases h : ∃ a, a < b ∧ (a < 8 ∧ x.toNat.testBit a ≠ t[i].toNat.testBit a)
      · obtain ⟨a, ha, hq⟩ := h
        exact ih a ha hq
      · exact ⟨b, hb, fun a ha hq => h ⟨a, ha, hq⟩⟩
  obtain ⟨b, ⟨hb8, hb⟩, hmin⟩ := hfind
  have hin : ∀ c, c < 8 → mbit (t.set i x) (8 * i + c) = x.toNat.testBit c ∧ mbit t (8 * i + c) = t[i].toNat.testBit c := by
    intro c hc
    unfold mbit
    rw [show (8 * i + c) / 8 = i by omega, show (8 * i + c) % 8 = c by omega]
    simp [List.getD_eq_getElem?_getD, hi]
  have hout : ∀ j, (j < 8 * i ∨ 8 * i + 8 ≤ j) → mbit (t.set i x) j = mbit t j := fun j hj => mbit_set t i x j (by omega)
  refine sum_apart t (t.set i x) (by simp) (8 * i + b) (by omega) (fun j hj => ?_) ?_ (fun j hj => hout j (by omega))
  · rcases Nat.lt_or_ge j (8 * i) with h | h
    · exact hout j (Or.inl h)
    · obtain ⟨c, rfl⟩ : ∃ c, j = 8 * i + c := ⟨j - 8 * i, by omega⟩
      rw [(hin c (by omega)).1, (hin c (by omega)).2]
      exact Classical.byContradiction fun h => hmin c (by omega) ⟨by omega, h⟩
  · rw [(hin b hb8).1, (hin b hb8).2]
    exact hb
end Go.Proofs.YthbmlkdijppkbaaDoor
