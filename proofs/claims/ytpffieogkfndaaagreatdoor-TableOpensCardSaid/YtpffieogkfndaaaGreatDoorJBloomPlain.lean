/-
  KeyRef, BloomPlain in one text. No condition but sizes.
-/
import Derived.Test.YtpffieogkfndaaaGreatDoorJKeyWalk
import Derived.Test.YtpffieogkfndaaaGreatDoorJParts
namespace Go.Proofs.YtpffieogkfndaaaGreatDoor
open Go.RowKit
set_option maxRecDepth 20000
set_option linter.unusedVariables false
set_option linter.unusedSimpArgs false

theorem beq_cast (a b : Nat) : ((a : Int) == (b : Int)) = (a == b) := by
  rw [Bool.eq_iff_iff, beq_iff_eq, beq_iff_eq]
  omega
theorem bytesLess_eq : ∀ l m : List UInt8, Op.bytesLess l m = ltL l m
  | [], [] => rfl
  | [], _ :: _ => rfl
  | _ :: _, [] => rfl
  | a :: l, b :: m => by
    have ih := bytesLess_eq l m
    rw [Bool.eq_iff_iff] at ih ⊢
    unfold ltL at *
    rw [decide_eq_true_eq] at ih ⊢
    simp only [Op.bytesLess, Lib.compareBytes, Bool.or_eq_true, decide_eq_true_eq, Bool.and_eq_true, beq_iff_eq]
    by_cases h1 : a < b
    · simp [h1]
    · rw [if_neg h1]
      by_cases h2 : b < a
      · rw [if_pos h2]
        have : a ≠ b := fun e => by subst e; exact absurd h2 (by simp)
        simp [h1, this]
      · rw [if_neg h2]
        have : a = b := UInt8.toNat_inj.1 (by rw [UInt8.lt_iff_toNat_lt] at h1 h2; omega)
        subst this
        simp [ih]
set_option maxHeartbeats 400000 in
theorem rless_any (w : World) (A1 : Option Addr) (n1 c1 : Nat) (l1 : List UInt8) (h1 : Sl w 1 A1 n1 c1 (bc l1)) (A2 : Option Addr) (n2 c2 : Nat) (l2 : List UInt8) (h2 : Sl w 1 A2 n2 c2 (bc l2)) :
    Calls Tryz.prog 22 #[.slice A1 n1 c1, .slice A2 n2 c2] w fun e w' => e = .returned (.bool (ltL l1 l2)) ∧ w = w' := by
  obtain ⟨s1, e1, r1⟩ := run_conv w A1 n1 c1 l1 h1
  obtain ⟨s2, e2, r2⟩ := run_conv w A2 n2 c2 l2 h2
  have E1 := Lib.hid e1
  have E2 := Lib.hid e2
  clear e1 e2 h1 h2
  go_enter Tryz.func22, Tryz.ntmps22
  go_wp2
  go_ret
  refine ⟨ret_bool ?_, rfl⟩
  rw [E1.out, E2.out, bytesLess_eq]
theorem rless_is (w : World) (A1 : Option Addr) (n1 c1 : Nat) (l1 : List UInt8) (h1 : Sl w 1 A1 n1 c1 (bc l1)) (A2 : Option Addr) (n2 c2 : Nat) (l2 : List UInt8) (h2 : Sl w 1 A2 n2 c2 (bc l2)) (b : Bool) (hb : Hid (ltL l1 l2 = b)) :
    Calls Tryz.prog 22 #[.slice A1 n1 c1, .slice A2 n2 c2] w fun e w' => e = .returned (.bool b) ∧ w = w' := by
  rw [← hb.out]
  exact rless_any w A1 n1 c1 l1 h1 A2 n2 c2 l2 h2
set_option maxHeartbeats 4000000 in
theorem klt_any (w : World) (A : Option Addr) (n c : Nat) (k : KeyL) (h : Sl w 1 A n c (bc k.user)) (A2 : Option Addr) (n2 c2 : Nat) (k2 : KeyL) (h2 : Sl w 1 A2 n2 c2 (bc k2.user)) :
    Calls Tryz.prog 34 #[.agg #[.slice A n c, .int .u64 (k.seq.toNat : Int), .int .u8 (k.kind.toNat : Int)], .agg #[.slice A2 n2 c2, .int .u64 (k2.seq.toNat : Int), .int .u8 (k2.kind.toNat : Int)]] w
      fun e w' => e = .returned (.bool (lessKey k k2)) ∧ Below w.heap.size w w' := by
  obtain ⟨r, hr⟩ : ∃ r, lessKey k k2 = r := ⟨_, rfl⟩
  rw [hr]
  unfold lessKey at hr
  rw [show (k.seq == k2.seq) = (k.seq.toNat == k2.seq.toNat) by rw [Bool.eq_iff_iff]; simp [← UInt64.toNat_inj]] at hr
  have c1 := fun (w' : World) (b : Bool) (hh : Hid ((k.user == k2.user) = b)) (hb : Below w.heap.size w w') => same_is w' A n c k.user A2 n2 c2 k2.user b hh (h.below (by omega) hb) (h2.below (by omega) hb)
  have c2 := fun (w' : World) (b : Bool) (hh : Hid (ltL k.user k2.user = b)) (hb : Below w.heap.size w w') => rless_is w' A n c k.user (h.below (by omega) hb) A2 n2 c2 k2.user (h2.below (by omega) hb) b hh
  obtain ⟨x, hx⟩ : ∃ x, (k.user == k2.user) = x := ⟨_, rfl⟩
  obtain ⟨y, hy⟩ : ∃ y, ltL k.user k2.user = y := ⟨_, rfl⟩
  rw [hx, hy] at hr
  have Hx := Lib.hid hx
  have Hy := Lib.hid hy
  generalize k.seq.toNat = s at *
  generalize k.kind.toNat = d at *
  generalize k2.seq.toNat = s2 at *
  generalize k2.kind.toNat = d2 at *
  have C1 := Lib.hid c1
  have C2 := Lib.hid c2
  have Hr := Lib.hid hr
  clear c1 c2 h h2 hx hy hr
  have hbb : Below w.heap.size w ((w.alloc (.cells #[.slice A n c, .int .u64 (s : Int), .int .u8 (d : Int)] 67)).alloc (.cells #[.slice A2 n2 c2, .int .u64 (s2 : Int), .int .u8 (d2 : Int)] 67)) :=
    (((Below.refl _ _).alloc (Nat.le_refl _) _).alloc (by simp) _)
  go_enter Tryz.func34, Tryz.ntmps34
  go_wp2_with fail
  refine (C1.out _ x Hx hbb).mono ?_
  rintro e w' ⟨rfl, rfl⟩
  cases x
  · go_wp2_with fail
    refine (C2.out _ y Hy hbb).mono ?_
    rintro e w' ⟨rfl, rfl⟩
    go_wp2
    go_ret
    refine ⟨ret_bool ?_, hbb⟩
    rw [← Hr.out]
    rfl
  · obtain ⟨b1, t1⟩ : ∃ b, ((s : Int) == (s2 : Int)) = b := ⟨_, rfl⟩
    have T1 := Lib.hid t1
    cases b1
    all_goals
      go_wp2
      go_ret
      refine ⟨ret_bool ?_, hbb⟩
      rw [← Hr.out]
      have q1 := T1.out
      rw [← beq_cast s s2, q1]
      first | rfl | (simp only [Bool.not_true, Bool.not_false, Bool.false_eq_true, if_false, if_true]; rw [decide_eq_decide]; omega)
set_option maxHeartbeats 4000000 in
theorem keq_any (w : World) (A : Option Addr) (n c : Nat) (k : KeyL) (h : Sl w 1 A n c (bc k.user)) (A2 : Option Addr) (n2 c2 : Nat) (k2 : KeyL) (h2 : Sl w 1 A2 n2 c2 (bc k2.user)) :
    Calls Tryz.prog 35 #[.agg #[.slice A n c, .int .u64 (k.seq.toNat : Int), .int .u8 (k.kind.toNat : Int)], .agg #[.slice A2 n2 c2, .int .u64 (k2.seq.toNat : Int), .int .u8 (k2.kind.toNat : Int)]] w
      fun e w' => e = .returned (.bool (k == k2)) ∧ Below w.heap.size w w' := by
  obtain ⟨r, hr⟩ : ∃ r, (k == k2) = r := ⟨_, rfl⟩
  rw [hr]
  have hr2 : (k == k2) = ((k.user == k2.user) && (k.seq.toNat == k2.seq.toNat) && (k.kind.toNat == k2.kind.toNat)) := by
    rw [Bool.eq_iff_iff]
    cases k
    cases k2
    simp [← UInt64.toNat_inj, ← UInt8.toNat_inj, and_assoc]
  rw [hr2] at hr
  clear hr2
  have c1 := fun (w' : World) (b : Bool) (hh : Hid ((k.user == k2.user) = b)) (hb : Below w.heap.size w w') => same_is w' A n c k.user A2 n2 c2 k2.user b hh (h.below (by omega) hb) (h2.below (by omega) hb)
  obtain ⟨x, hx⟩ : ∃ x, (k.user == k2.user) = x := ⟨_, rfl⟩
  rw [hx] at hr
  have Hx := Lib.hid hx
  generalize k.seq.toNat = s at *
  generalize k.kind.toNat = d at *
  generalize k2.seq.toNat = s2 at *
  generalize k2.kind.toNat = d2 at *
  have C1 := Lib.hid c1
  have Hr := Lib.hid hr
  clear c1 h h2 hx hr
  have hbb : Below w.heap.size w ((w.alloc (.cells #[.slice A n c, .int .u64 (s : Int), .int .u8 (d : Int)] 67)).alloc (.cells #[.slice A2 n2 c2, .int .u64 (s2 : Int), .int .u8 (d2 : Int)] 67)) :=
    (((Below.refl _ _).alloc (Nat.le_refl _) _).alloc (by simp) _)
  obtain ⟨b1, t1⟩ : ∃ b, ((s : Int) == (s2 : Int)) = b := ⟨_, rfl⟩
  obtain ⟨b2, t2⟩ : ∃ b, ((d : Int) == (d2 : Int)) = b := ⟨_, rfl⟩
  have T1 := Lib.hid t1
  have T2 := Lib.hid t2
  cases x <;> cases b1 <;> cases b2
  all_goals
    go_enter Tryz.func35, Tryz.ntmps35
    go_wp2_with fail
    refine (C1.out _ _ Hx hbb).mono ?_
    rintro e w' ⟨rfl, rfl⟩
    go_wp2
    all_goals
      go_ret
      refine ⟨ret_bool ?_, hbb⟩
      rw [← Hr.out]
      have q1 := T1.out
      have q2 := T2.out
      rw [← beq_cast s s2, ← beq_cast d d2, q1, q2]
      rfl
/-- a version that a call gives back, its key in memory of its own -/
def GotKey (w : World) (k : KeyL) (e : Ending) (w' : World) : Prop :=
  ∃ (A : Option Addr) (n c : Nat), e = .returned (.agg #[.slice A n c, .int .u64 (k.seq.toNat : Int), .int .u8 (k.kind.toNat : Int)]) ∧ OwnB w' w.heap.size A n c k.user ∧ Below w.heap.size w w'
end Go.Proofs.YtpffieogkfndaaaGreatDoor

namespace Go.Proofs.YtpffieogkfndaaaGreatDoor
set_option maxRecDepth 20000
set_option linter.unusedVariables false
set_option linter.unusedSimpArgs false

def takeN (bits : Int) : Nat := if bits < 1 then 1 else if bits > 100 then 100 else bits.toNat
theorem takeN_pos (b : Int) : 1 ≤ takeN b := by unfold takeN; split <;> (try split) <;> omega
theorem takeN_le (b : Int) : takeN b ≤ 100 := by unfold takeN; split <;> (try split) <;> omega
def probesN (bits : Int) : Nat := if takeN bits * 69 / 100 < 1 then 1 else if takeN bits * 69 / 100 > 30 then 30 else takeN bits * 69 / 100
theorem probesN_pos (b : Int) : 1 ≤ probesN b := by unfold probesN; split <;> (try split) <;> omega
theorem probesN_le (b : Int) : probesN b ≤ 30 := by unfold probesN; split <;> (try split) <;> omega

/-- a key's first hash, from h on -/
def fnvL (h : Nat) (key : List UInt8) : Nat := key.foldl (fun h b => (h ^^^ b.toNat) * 16777619 % 4294967296) h
theorem fnvL_lt (key : List UInt8) {h : Nat} (hh : h < 4294967296) : fnvL h key < 4294967296 := by
  induction key generalizing h with
  | nil => exact hh
  | cons b t ih =>
    have h1 : (h ^^^ b.toNat) * 16777619 % 4294967296 < 4294967296 := Nat.mod_lt _ (by decide)
    unfold fnvL
    rw [List.foldl_cons]
    generalize (h ^^^ b.toNat) * 16777619 % 4294967296 = z at *
    exact ih h1
theorem fnvL_snoc (h : Nat) (l : List UInt8) (b : UInt8) : fnvL h (l ++ [b]) = (fnvL h l ^^^ b.toNat) * 16777619 % 4294967296 := by
  unfold fnvL
  rw [List.foldl_append, List.foldl_cons, List.foldl_nil]
theorem basis_lt : (2166136261 : Nat) < 4294967296 := by decide
def hashL (key : List UInt8) : Nat := fnvL 2166136261 key
theorem hashL_lt (key : List UInt8) : hashL key < 4294967296 := fnvL_lt key basis_lt
def stepL (key : List UInt8) : Nat := if sumL key % 2 = 0 then sumL key + 1 else sumL key
/-- the i-th probe of so many bits -/
def probeL (key : List UInt8) (m i : Nat) : Nat := (hashL key + i * stepL key) % 4294967296 % m
theorem probeL_lt (key : List UInt8) {m : Nat} (hm : 0 < m) (i : Nat) : probeL key m i < m := Nat.mod_lt _ hm
theorem or_one (x : Nat) : x ||| 1 = if x % 2 = 0 then x + 1 else x := by
  apply Nat.eq_of_testBit_eq
  intro i
  cases i with
  | zero => split <;> simp [Nat.testBit_zero] <;> omega
  | succ i =>
    have h1 : (1 : Nat).testBit (i + 1) = false := by simp [Nat.testBit_succ]
    rw [Nat.testBit_or, h1, Bool.or_false, Nat.testBit_succ, Nat.testBit_succ]
    congr 1
    split <;> omega

/-- the bits that are set -/
def setAll (s : List Bool) (ks : List Nat) : List Bool := ks.foldl (fun s k => s.set k true) s
@[simp] theorem setAll_length (s : List Bool) (ks : List Nat) : (setAll s ks).length = s.length := by
  induction ks generalizing s with
  | nil => rfl
  | cons k t ih => simp [setAll] at ih ⊢; rw [ih]; simp
theorem setAll_append (s : List Bool) (a b : List Nat) : setAll s (a ++ b) = setAll (setAll s a) b := by simp [setAll]
theorem setAll_snoc (s : List Bool) (a : List Nat) (k : Nat) : setAll s (a ++ [k]) = (setAll s a).set k true := by simp [setAll]
def probesL (key : List UInt8) (m p : Nat) : List Nat := (List.range p).map (probeL key m)
theorem probesL_mem {key : List UInt8} {m p k : Nat} : k ∈ probesL key m p ↔ ∃ i, i < p ∧ probeL key m i = k := by simp [probesL]
def bitsL (keys : List (List UInt8)) (m p : Nat) : List Bool := setAll (List.replicate m false) (keys.flatMap fun key => probesL key m p)
@[simp] theorem bitsL_length (keys : List (List UInt8)) (m p : Nat) : (bitsL keys m p).length = m := by simp [bitsL]
/-- the byte j of the bits -/
def byteN (s : List Bool) (j : Nat) : Nat := (List.range 8).foldr (fun k acc => (s[8 * j + k]?.getD false).toNat + 2 * acc) 0
theorem foldr_bits (f : Nat → Bool) (n lo i : Nat) : ((List.range' lo n).foldr (fun k acc => (f k).toNat + 2 * acc) 0).testBit i = (decide (i < n) && f (lo + i)) := by
  induction n generalizing lo i with
  | zero => simp
  | succ n ih =>
    rw [List.range'_succ, List.foldr_cons]
    cases i with
    | zero =>
      rw [Nat.testBit_zero]
      cases f lo <;> simp <;> omega
    | succ i =>
      rw [Nat.testBit_succ]
      have e : ∀ y : Nat, ((f lo).toNat + 2 * y) / 2 = y := by intro y; cases f lo <;> simp <;> omega
      rw [e, ih]
      simp [Nat.add_comm, Nat.add_left_comm]
theorem byteN_bit (s : List Bool) (j i : Nat) : (byteN s j).testBit i = (decide (i < 8) && (s[8 * j + i]?.getD false)) := by
  have := foldr_bits (fun k => s[8 * j + k]?.getD false) 8 0 i
  rw [← List.range_eq_range', Nat.zero_add] at this
  exact this
theorem byteN_lt (s : List Bool) (j : Nat) : byteN s j < 256 := by
  refine Nat.lt_pow_two_of_testBit (n := 8) _ fun i hi => ?_
  rw [byteN_bit]
  have h1 : ¬ i < 8 := by omega
  simp [h1]
def bytesN (s : List Bool) (n : Nat) : List UInt8 := (List.range n).map fun j => (byteN s j).toUInt8
@[simp] theorem bytesN_length (s : List Bool) (n : Nat) : (bytesN s n).length = n := by simp [bytesN]
theorem bytesN_get (s : List Bool) (n j : Nat) (h : j < (bytesN s n).length) : (bytesN s n)[j].toNat = byteN s j := by
  simp [bytesN]
  exact byteN_lt s j
theorem byteN_set_other (s : List Bool) (k j : Nat) (h : j ≠ k / 8) : byteN (s.set k true) j = byteN s j := by
  apply Nat.eq_of_testBit_eq
  intro i
  rw [byteN_bit, byteN_bit]
  by_cases hi : i < 8
  · rw [List.getElem?_set, if_neg (by omega)]
  · simp [hi]
theorem byteN_set (s : List Bool) (k : Nat) (h : k < s.length) : byteN (s.set k true) (k / 8) = byteN s (k / 8) ||| 2 ^ (k % 8) := by
  apply Nat.eq_of_testBit_eq
  intro i
  rw [Nat.testBit_or, byteN_bit, byteN_bit, Nat.testBit_two_pow]
  by_cases hi : i < 8
  · rw [List.getElem?_set]
    by_cases hk : k = 8 * (k / 8) + i
    · have h2 : k % 8 = i := by omega
      rw [if_pos hk]
      simp [hi, h2, ← hk, h]
    · have h2 : ¬ k % 8 = i := by omega
      rw [if_neg hk]
      simp [hi, h2]
  · have h2 : ¬ k % 8 = i := by omega
    simp [hi, h2]
theorem bytesN_set (s : List Bool) (n k : Nat) (h : k < s.length) (_hn : k / 8 < n) : bytesN (s.set k true) n = (bytesN s n).set (k / 8) (byteN s (k / 8) ||| 2 ^ (k % 8)).toUInt8 := by
  apply List.ext_getElem
  · simp
  · intro j h1 h2
    rw [List.getElem_set]
    by_cases hj : k / 8 = j
    · rw [if_pos hj]
      subst hj
      simp [bytesN, byteN_set s k h]
    · rw [if_neg hj]
      simp [bytesN, byteN_set_other s k j (fun e => hj e.symm)]
theorem bytesN_none (m n : Nat) : bytesN (List.replicate m false) n = List.replicate n 0 := by
  apply List.ext_getElem
  · simp
  · intro j h1 h2
    have : byteN (List.replicate m false) j = 0 := by
      apply Nat.eq_of_testBit_eq
      intro i
      rw [byteN_bit]
      simp [List.getElem?_replicate]
      intro _ 
      split <;> rfl
    simp [bytesN, this]

def sizeN (bits : Int) (k : Nat) : Nat := max ((takeN bits * k + 7) / 8) 8
def buildL (bits : Int) (keys : List (List UInt8)) : List UInt8 :=
  bytesN (bitsL keys (8 * sizeN bits keys.length) (probesN bits)) (sizeN bits keys.length) ++ [(probesN bits).toUInt8]
/-- is the bit k of a text set? -/
def bitL (f : List UInt8) (k : Nat) : Bool := (f[k / 8]?.getD 0).toNat.testBit (k % 8)
def hasL (f key : List UInt8) : Bool :=
  if f.length < 9 ∨ (f[f.length - 1]?.getD 0).toNat < 1 ∨ 30 < (f[f.length - 1]?.getD 0).toNat then true
  else (probesL key (8 * (f.length - 1)) (f[f.length - 1]?.getD 0).toNat).all (bitL f)
end Go.Proofs.YtpffieogkfndaaaGreatDoor
