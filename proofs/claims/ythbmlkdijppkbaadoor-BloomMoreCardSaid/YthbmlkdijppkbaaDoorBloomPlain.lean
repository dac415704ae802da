/-
  What a bloom filter is, in plain lists: the probes of a key, the set of bits, its bytes. Nothing of the program stands here.
-/
import Derived.Test.YthbmlkdijppkbaaDoorSealPlain
namespace Go.Proofs.YthbmlkdijppkbaaDoor

def takeN (bits : Int) : Nat := if bits < 1 then 1 else if bits > 100 then 100 else bits.toNat
theorem takeN_pos (b : Int) : 1 ≤ takeN b := by unfold takeN; split <;> (try split) <;> omega
theorem takeN_le (b : Int) : takeN b ≤ 100 := by unfold takeN; split <;> (try split) <;> omega
def probesN (bits : Int) : Nat := if takeN bits * 69 / 100 < 1 then 1 else if takeN bits * 69 / 100 > 30 then 30 else takeN bits * 69 / 100
theorem probesN_pos (b : Int) : 1 ≤ probesN b := by unfold probesN; split <;> (try split) <;> omega
theorem probesN_le (b : Int) : probesN b ≤ 30 := by unfold probesN; split <;> (try split) <;> omega

/-- a key's first hash, from h on -/
def fnvL (h : Nat) (key : List UInt8) : Nat := key.foldl (fun h b => (h ^^^ b.toNat) * 16777619 % 4294967296) h
theorem fnvL_lt (key : List UInt8) {h : Nat} (hh : h < 4294967296) : fnvL h key < 4294967296 := by
  induction key generalizing h with
  | nil => exact hh
  | cons b t ih =>
    have h1 : (h ^^^ b.toNat) * 16777619 % 4294967296 < 4294967296 := Nat.mod_lt _ (by decide)
    unfold fnvL
    rw [List.foldl_cons]
    generalize (h ^^^ b.toNat) * 16777619 % 4294967296 = z at *
    exact ih h1
theorem fnvL_snoc (h : Nat) (l : List UInt8) (b : UInt8) : fnvL h (l ++ [b]) = (fnvL h l ^^^ b.toNat) * 16777619 % 4294967296 := by
  unfold fnvL
  rw [List.foldl_append, List.foldl_cons, List.foldl_nil]
theorem basis_lt : (2166136261 : Nat) < 4294967296 := by decide
def hashL (key : List UInt8) : Nat := fnvL 2166136261 key
theorem hashL_lt (key : List UInt8) : hashL key < 4294967296 := fnvL_lt key basis_lt
def stepL (key : List UInt8) : Nat := if sumL key % 2 = 0 then sumL key + 1 else sumL key
/-- the i-th probe of so many bits -/
def probeL (key : List UInt8) (m i : Nat) : Nat := (hashL key + i * stepL key) % 4294967296 % m
theorem probeL_lt (key : List UInt8) {m : Nat} (hm : 0 < m) (i : Nat) : probeL key m i < m := Nat.mod_lt _ hm
theorem or_one (x : Nat) : x ||| 1 = if x % 2 = 0 then x + 1 else x := by
  apply Nat.eq_of_testBit_eq
  intro i
  cases i with
  | zero => split <;> simp [Nat.testBit_zero] <;> omega
  | succ i =>
    have h1 : (1 : Nat).testBit (i + 1) = false := by simp [Nat.testBit_succ]
    rw [Nat.testBit_or, h1, Bool.or_false, Nat.testBit_succ, Nat.testBit_succ]
    congr 1
    split <;> omega

/-- the bits that are set -/
def setAll (s : List Bool) (ks : List Nat) : List Bool := ks.foldl (fun s k => s.set k true) s
@[simp] theorem setAll_length (s : List Bool) (ks : List Nat) : (setAll s ks).length = s.length := by
  induction ks generalizing s with
  | nil => rfl
  | cons k t ih => simp [setAll] at ih ⊢; rw [ih]; simp
theorem setAll_append (s : List Bool) (a b : List Nat) : setAll s (a ++ b) = setAll (setAll s a) b := by simp [setAll]
theorem setAll_snoc (s : List Bool) (a : List Nat) (k : Nat) : setAll s (a ++ [k]) = (setAll s a).set k true := by simp [setAll]
theorem setAll_get (s : List Bool) (ks : List Nat) (k : Nat) : ((setAll s ks)[k]?.getD false = true) ↔ (s[k]?.getD false = true ∨ (k ∈ ks ∧ k < s.length)) := by
  induction ks generalizing s with
  | nil => simp [setAll]
  | cons q t ih =>
    show ((setAll (s.set q true) t)[k]?.getD false = true) ↔ _
    rw [ih, List.getElem?_set, List.length_set, List.mem_cons]
    by_cases hq : q = k
    · subst hq
      by_cases hl : q < s.length
      · simp [hl]
      · simp [hl]
    · have : ¬ k = q := fun e => hq e.symm
      simp [hq, this]

def probesL (key : List UInt8) (m p : Nat) : List Nat := (List.range p).map (probeL key m)
theorem probesL_mem {key : List UInt8} {m p k : Nat} : k ∈ probesL key m p ↔ ∃ i, i < p ∧ probeL key m i = k := by simp [probesL]
def bitsL (keys : List (List UInt8)) (m p : Nat) : List Bool := setAll (List.replicate m false) (keys.flatMap fun key => probesL key m p)
@[simp] theorem bitsL_length (keys : List (List UInt8)) (m p : Nat) : (bitsL keys m p).length = m := by simp [bitsL]
theorem bitsL_get (keys : List (List UInt8)) (m p k : Nat) (hk : k < m) : ((bitsL keys m p)[k]?.getD false = true) ↔ ∃ key ∈ keys, k ∈ probesL key m p := by
  unfold bitsL
  rw [setAll_get]
  simp [hk]

/-- the byte j of the bits -/
def byteN (s : List Bool) (j : Nat) : Nat := (List.range 8).foldr (fun k acc => (s[8 * j + k]?.getD false).toNat + 2 * acc) 0
theorem foldr_bits (f : Nat → Bool) (n lo i : Nat) : ((List.range' lo n).foldr (fun k acc => (f k).toNat + 2 * acc) 0).testBit i = (decide (i < n) && f (lo + i)) := by
  induction n generalizing lo i with
  | zero => simp
  | succ n ih =>
    rw [List.range'_succ, List.foldr_cons]
    cases i with
    | zero =>
      rw [Nat.testBit_zero]
      cases f lo <;> simp <;> omega
    | succ i =>
      rw [Nat.testBit_succ]
      have e : ∀ y : Nat, ((f lo).toNat + 2 * y) / 2 = y := by intro y; cases f lo <;> simp <;> omega
      rw [e, ih]
      simp [Nat.add_comm, Nat.add_left_comm]
theorem byteN_bit (s : List Bool) (j i : Nat) : (byteN s j).testBit i = (decide (i < 8) && (s[8 * j + i]?.getD false)) := by
  have := foldr_bits (fun k => s[8 * j + k]?.getD false) 8 0 i
  rw [← List.range_eq_range', Nat.zero_add] at this
  exact this
theorem byteN_lt (s : List Bool) (j : Nat) : byteN s j < 256 := by
  refine Nat.lt_pow_two_of_testBit (n := 8) _ fun i hi => ?_
  rw [byteN_bit]
  have h1 : ¬ i < 8 := by omega
  simp [h1]
def bytesN (s : List Bool) (n : Nat) : List UInt8 := (List.range n).map fun j => (byteN s j).toUInt8
@[simp] theorem bytesN_length (s : List Bool) (n : Nat) : (bytesN s n).length = n := by simp [bytesN]
theorem bytesN_get (s : List Bool) (n j : Nat) (h : j < (bytesN s n).length) : (bytesN s n)[j].toNat = byteN s j := by
  simp [bytesN]
  exact byteN_lt s j
theorem byteN_set_other (s : List Bool) (k j : Nat) (h : j ≠ k / 8) : byteN (s.set k true) j = byteN s j := by
  apply Nat.eq_of_testBit_eq
  intro i
  rw [byteN_bit, byteN_bit]
  by_cases hi : i < 8
  · rw [List.getElem?_set, if_neg (by omega)]
  · simp [hi]
theorem byteN_set (s : List Bool) (k : Nat) (h : k < s.length) : byteN (s.set k true) (k / 8) = byteN s (k / 8) ||| 2 ^ (k % 8) := by
  apply Nat.eq_of_testBit_eq
  intro i
  rw [Nat.testBit_or, byteN_bit, byteN_bit, Nat.testBit_two_pow]
  by_cases hi : i < 8
  · rw [List.getElem?_set]
    by_cases hk : k = 8 * (k / 8) + i
    · have h2 : k % 8 = i := by omega
      rw [if_pos hk]
      simp [hi, h2, ← hk, h]
    · have h2 : ¬ k % 8 = i := by omega
      rw [if_neg hk]
      simp [hi, h2]
  · have h2 : ¬ k % 8 = i := by omega
    simp [hi, h2]
theorem bytesN_set (s : List Bool) (n k : Nat) (h : k < s.length) (_hn : k / 8 < n) : bytesN (s.set k true) n = (bytesN s n).set (k / 8) (byteN s (k / 8) ||| 2 ^ (k % 8)).toUInt8 := by
  apply List.ext_getElem
  · simp
  · intro j h1 h2
    rw [List.getElem_set]
    by_cases hj : k / 8 = j
    · rw [if_pos hj]
      subst hj
      simp [bytesN, byteN_set s k h]
    · rw [if_neg hj]
      simp [bytesN, byteN_set_other s k j (fun e => hj e.symm)]
theorem bytesN_none (m n : Nat) : bytesN (List.replicate m false) n = List.replicate n 0 := by
  apply List.ext_getElem
  · simp
  · intro j h1 h2
    have : byteN (List.replicate m false) j = 0 := by
      apply Nat.eq_of_testBit_eq
      intro i
      rw [byteN_bit]
      simp [List.getElem?_replicate]
      intro _ 
      split <;> rfl
    simp [bytesN, this]

def sizeN (bits : Int) (k : Nat) : Nat := max ((takeN bits * k + 7) / 8) 8
def buildL (bits : Int) (keys : List (List UInt8)) : List UInt8 :=
  bytesN (bitsL keys (8 * sizeN bits keys.length) (probesN bits)) (sizeN bits keys.length) ++ [(probesN bits).toUInt8]
/-- is the bit k of a text set? -/
def bitL (f : List UInt8) (k : Nat) : Bool := (f[k / 8]?.getD 0).toNat.testBit (k % 8)
def hasL (f key : List UInt8) : Bool :=
  if f.length < 9 ∨ (f[f.length - 1]?.getD 0).toNat < 1 ∨ 30 < (f[f.length - 1]?.getD 0).toNat then true
  else (probesL key (8 * (f.length - 1)) (f[f.length - 1]?.getD 0).toNat).all (bitL f)
end Go.Proofs.YthbmlkdijppkbaaDoor
