/-
  BytesEq, BatchPlain, KeyReadP, LeafPlain, RowsZ, KeyReadW in one text. No condition but sizes.
-/
import Derived.Test.YtpffieogkfndaaaDoorJAtomWalk
import Derived.Test.YtpffieogkfndaaaDoorJRowsL
import Derived.Test.YtpffieogkfndaaaDoorJKeyMake
import Derived.Test.YtpffieogkfndaaaDoorJRowsY
import Derived.Test.YtpffieogkfndaaaDoorJHeldF
namespace Go.Proofs.YtpffieogkfndaaaDoor
set_option maxRecDepth 20000
set_option linter.unusedVariables false
set_option linter.unusedSimpArgs false
open Go.RowKit

set_option maxHeartbeats 400000 in
/-- bytes.Equal: of two -/
theorem equal_any (w : World) (A1 : Option Addr) (n1 c1 : Nat) (l1 : List UInt8) (A2 : Option Addr) (n2 c2 : Nat) (l2 : List UInt8) (h1 : Sl w 1 A1 n1 c1 (bc l1)) (h2 : Sl w 1 A2 n2 c2 (bc l2)) :
    Calls Tryd.prog 40 #[.slice A1 n1 c1, .slice A2 n2 c2] w fun e w' => e = .returned (.bool (l1 == l2)) ∧ w = w' := by
  obtain ⟨s1, e1, r1⟩ := run_conv w A1 n1 c1 l1 h1
  obtain ⟨s2, e2, r2⟩ := run_conv w A2 n2 c2 l2 h2
  have E1 := Lib.hid e1
  have E2 := Lib.hid e2
  clear e1 e2 h1 h2
  go_enter Tryd.func40, Tryd.ntmps40
  go_wp2
  go_ret
  refine ⟨ret_bool ?_, rfl⟩
  rw [E1.out, E2.out]

theorem equal_is (w : World) (A1 : Option Addr) (n1 c1 : Nat) (l1 : List UInt8) (A2 : Option Addr) (n2 c2 : Nat) (l2 : List UInt8) (b : Bool) (hb : Hid ((l1 == l2) = b)) (h1 : Sl w 1 A1 n1 c1 (bc l1)) (h2 : Sl w 1 A2 n2 c2 (bc l2)) :
    Calls Tryd.prog 40 #[.slice A1 n1 c1, .slice A2 n2 c2] w fun e w' => e = .returned (.bool b) ∧ w = w' := by
  rw [← hb.out]
  exact equal_any w A1 n1 c1 l1 A2 n2 c2 l2 h1 h2
end Go.Proofs.YtpffieogkfndaaaDoor

namespace Go.Proofs.YtpffieogkfndaaaDoor
set_option maxRecDepth 20000
set_option linter.unusedVariables false
set_option linter.unusedSimpArgs false
open Go.RowKit

/-- the first error of a list -/
def firstErr {α : Type} (f : α → Nat) : List α → Nat
  | [] => 0
  | o :: l => if f o ≠ 0 then f o else firstErr f l
theorem firstErr_zero {α : Type} (f : α → Nat) : ∀ l : List α, firstErr f l = 0 ↔ ∀ o ∈ l, f o = 0
  | [] => by simp [firstErr]
  | o :: l => by
    have ih := firstErr_zero f l
    unfold firstErr
    split
    · rename_i h
      simp [h]
    · rename_i h
      rw [ih]
      simp at h
      simp [h]
theorem take_inv (p : List UInt8) (h : (takeL p).2.2 = 0) : p = numL (takeL p).1 ++ (takeL p).2.1 := by
  cases p with
  | nil => simp [takeL] at h
  | cons b r =>
    unfold takeL at h ⊢
    simp only at h ⊢
    split at h
    · simp at h
    · rename_i h1
      rw [if_neg h1]
      split at h
      · rename_i h2
        rw [if_pos h2]
        simp only
        rw [h2]
        simp [List.take_append_drop]
      · simp at h
end Go.Proofs.YtpffieogkfndaaaDoor

namespace Go.Proofs.YtpffieogkfndaaaDoor
open Go.RowKit
set_option maxRecDepth 20000
set_option linter.unusedVariables false
set_option linter.unusedSimpArgs false
/-- bytes as a number, the least first -/
def leval : List UInt8 → Nat
  | [] => 0
  | b :: l => leval l * 256 + b.toNat
theorem leval_lt : ∀ l : List UInt8, leval l < 256 ^ l.length
  | [] => by simp [leval]
  | b :: l => by
    have ih := leval_lt l
    have hb := b.toNat_lt
    unfold leval
    rw [List.length_cons, Nat.pow_succ]
    have : leval l + 1 ≤ 256 ^ l.length := ih
    have := Nat.mul_le_mul_right 256 this
    omega
def noKey : KeyL := ⟨[], 0, 0⟩
def keyOfN (u : List UInt8) (n : Nat) : KeyL := ⟨u, UInt64.ofNat (n / 256), UInt8.ofNat n⟩
/-- the version in front, what stands behind, the error's number -/
def keyReadL (p : List UInt8) : KeyL × List UInt8 × Nat :=
  if (takeTextL p 64).2.2 ≠ 0 then (noKey, [], (takeTextL p 64).2.2)
  else if (takeTextL p 64).2.1.length < 8 then (noKey, [], 2)
  else if checkKey (keyOfN (takeTextL p 64).1 (leval ((takeTextL p 64).2.1.take 8))) ≠ 0 then (noKey, [], 4)
  else (keyOfN (takeTextL p 64).1 (leval ((takeTextL p 64).2.1.take 8)), (takeTextL p 64).2.1.drop 8, 0)
theorem leval_le (n : Nat) : ∀ m k : Nat, leval ((List.range m).map fun i => UInt8.ofNat (n / 256 ^ (k + i))) = n / 256 ^ k % 256 ^ m
  | 0, k => by simp [leval, Nat.mod_one]
  | m + 1, k => by
    have ih := leval_le n m (k + 1)
    rw [List.range_succ_eq_map, List.map_cons, List.map_map]
    unfold leval
    have e : (List.range m).map ((fun i => UInt8.ofNat (n / 256 ^ (k + i))) ∘ Nat.succ) = (List.range m).map fun i => UInt8.ofNat (n / 256 ^ (k + 1 + i)) := by
      apply List.map_congr_left
      intro i _
      simp only [Function.comp]
      rw [show k + Nat.succ i = k + 1 + i by omega]
    rw [e, ih]
    have h2 : (UInt8.ofNat (n / 256 ^ (k + 0))).toNat = n / 256 ^ k % 256 := by simp
    have h3 : n / 256 ^ (k + 1) = n / 256 ^ k / 256 := by rw [Nat.pow_succ, ← Nat.div_div_eq_div_mul]
    rw [h2, h3, Nat.pow_succ 256 m, Nat.mul_comm (256 ^ m) 256, Nat.mod_mul]
    omega
theorem leval_le8 (n : Nat) (h : n < 18446744073709551616) : leval (le8 n) = n := by
  have := leval_le n 8 0
  simp only [Nat.zero_add, Nat.pow_zero, Nat.div_one] at this
  unfold le8
  rw [this]
  exact Nat.mod_eq_of_lt h
/-- WHAT A VERSION's BYTES SAY, whatever stands behind -/
theorem keyRead_bytes (k : KeyL) (h : checkKey k = 0) (rest : List UInt8) : keyReadL (keyBytesL k ++ rest) = (k, rest, 0) := by
  have hb0 := h
  unfold checkKey at hb0
  have hs : k.seq.toNat < 72057594037927936 ∧ k.user.length ≤ 64 := by
    repeat' split at hb0
    all_goals omega
  have hd := k.kind.toNat_lt
  have e1 : takeTextL (keyBytesL k ++ rest) 64 = (k.user, le8 (keyN k) ++ rest, 0) := by
    unfold keyBytesL
    rw [List.append_assoc]
    have := take_text k.user (le8 (keyN k) ++ rest) (by omega) 64
    rw [if_pos hs.2] at this
    exact this
  have hn : leval (le8 (keyN k)) = keyN k := leval_le8 _ (by unfold keyN; omega)
  have hk : keyOfN k.user (keyN k) = k := by
    unfold keyOfN keyN
    cases k with | mk u s d =>
    simp only [KeyL.mk.injEq, true_and]
    simp only at hd
    constructor
    · apply UInt64.toNat_inj.1
      rw [UInt64.toNat_ofNat', show (s.toNat * 256 + d.toNat) / 256 = s.toNat by omega]
      exact Nat.mod_eq_of_lt s.toNat_lt
    · apply UInt8.toNat_inj.1
      rw [UInt8.toNat_ofNat']
      omega
  unfold keyReadL
  rw [e1]
  simp only [ne_eq, not_true_eq_false, if_false]
  rw [List.take_left' (le8_len _), List.drop_left' (le8_len _), hn, hk, if_neg (by rw [List.length_append, le8_len]; omega), if_neg (by omega)]
/-- a version, bytes and an error's number that a call gives back -/
def GotRead (w : World) (r : KeyL × List UInt8 × Nat) (e : Ending) (w' : World) : Prop :=
  ∃ (A : Option Addr) (n c : Nat) (B : Option Addr) (m d : Nat), e = .returned (.tuple #[.agg #[.slice A n c, .int .u64 (r.1.seq.toNat : Int), .int .u8 (r.1.kind.toNat : Int)], .slice B m d, .int .i64 (r.2.2 : Int)]) ∧
    Sl w' 1 A n c (bc r.1.user) ∧ Sl w' 1 B m d (bc r.2.1) ∧ Below w.heap.size w w'
end Go.Proofs.YtpffieogkfndaaaDoor

namespace Go.Proofs.YtpffieogkfndaaaDoor
open Go.RowKit
set_option maxRecDepth 20000
set_option linter.unusedVariables false
set_option linter.unusedSimpArgs false

/-- a version's form -/
def fullL (k : KeyL) : List UInt8 := k.user ++ le8 (keyN k)
theorem fullL_len (k : KeyL) : (fullL k).length = k.user.length + 8 := by simp [fullL, le8_len]
/-- how many first bytes two have in common -/
def commonL : List UInt8 → List UInt8 → Nat
  | a :: l, b :: m => if a = b then commonL l m + 1 else 0
  | [], _ => 0
  | _ :: _, [] => 0
theorem commonL_le : ∀ a b : List UInt8, commonL a b ≤ a.length ∧ commonL a b ≤ b.length
  | [], _ => by simp [commonL]
  | _ :: _, [] => by simp [commonL]
  | a :: l, b :: m => by
    have ih := commonL_le l m
    unfold commonL
    split <;> simp <;> omega
theorem commonL_take : ∀ a b : List UInt8, a.take (commonL a b) = b.take (commonL a b)
  | [], _ => by simp [commonL]
  | _ :: _, [] => by simp [commonL]
  | a :: l, b :: m => by
    have ih := commonL_take l m
    unfold commonL
    split
    · rename_i h
      subst h
      simp [ih]
    · simp
theorem commonL_step (a b : List UInt8) (n : Nat) (ha : n < a.length) (hb : n < b.length) :
    commonL (a.drop n) (b.drop n) = if a[n] = b[n] then commonL (a.drop (n + 1)) (b.drop (n + 1)) + 1 else 0 := by
  rw [List.drop_eq_getElem_cons ha, List.drop_eq_getElem_cons hb]
  rfl
theorem commonL_nil (a b : List UInt8) (n : Nat) (h : a.length ≤ n ∨ b.length ≤ n) : commonL (a.drop n) (b.drop n) = 0 := by
  rcases h with h | h
  · rw [List.drop_eq_nil_of_le h]
    simp [commonL]
  · rw [List.drop_eq_nil_of_le h]
    cases a.drop n <;> simp [commonL]
/-- how many bytes of the form ahead entry number i takes over -/
def leafN (i : Nat) (a f : List UInt8) : Nat := if i % 4 = 0 then 0 else commonL a f
theorem leafN_le (i : Nat) (a f : List UInt8) : leafN i a f ≤ a.length ∧ leafN i a f ≤ f.length := by
  unfold leafN
  split
  · omega
  · exact commonL_le a f
theorem leafN_take (i : Nat) (a f : List UInt8) : a.take (leafN i a f) = f.take (leafN i a f) := by
  unfold leafN
  split
  · simp
  · exact commonL_take a f
def leafEntL (n : Nat) (f v : List UInt8) : List UInt8 := numL n ++ (numL (f.length - n) ++ (numL v.length ++ (f.drop n ++ v)))
def leafBodyL : Nat → List UInt8 → List EntL → List UInt8
  | _, _, [] => []
  | i, a, e :: l => leafEntL (leafN i a (fullL e.key)) (fullL e.key) e.value ++ leafBodyL (i + 1) (fullL e.key) l
/-- the form of the last one -/
def lastF (a : List UInt8) : List EntL → List UInt8
  | [] => a
  | e :: l => lastF (fullL e.key) l
theorem lastF_snoc (e : EntL) : ∀ (l : List EntL) (a : List UInt8), lastF a (l ++ [e]) = fullL e.key
  | [], _ => rfl
  | x :: l, _ => lastF_snoc e l (fullL x.key)
theorem leafBody_app (m : List EntL) : ∀ (l : List EntL) (i : Nat) (a : List UInt8), leafBodyL i a (l ++ m) = leafBodyL i a l ++ leafBodyL (i + l.length) (lastF a l) m
  | [], i, a => by simp [leafBodyL, lastF]
  | e :: l, i, a => by
    have ih := leafBody_app m l (i + 1) (fullL e.key)
    simp only [List.cons_append, leafBodyL, lastF, List.length_cons, List.append_assoc]
    rw [ih, show i + 1 + l.length = i + (l.length + 1) by omega]
theorem leafBody_snoc (l : List EntL) (e : EntL) (i : Nat) (a : List UInt8) : leafBodyL i a (l ++ [e]) = leafBodyL i a l ++ leafEntL (leafN (i + l.length) (lastF a l) (fullL e.key)) (fullL e.key) e.value := by
  rw [leafBody_app]
  simp [leafBodyL]
/-- where the entries stand that are written whole -/
def startsL (l : List EntL) : List Nat := ((List.range l.length).filter fun i => decide (i % 4 = 0)).map fun i => (leafBodyL 0 [] (l.take i)).length
def twoL (n : Nat) : List UInt8 := [UInt8.ofNat n, UInt8.ofNat (n / 256)]
def twosL (l : List Nat) : List UInt8 := (l.map twoL).flatten
theorem twosL_snoc (l : List Nat) (n : Nat) : twosL (l ++ [n]) = twosL l ++ twoL n := by simp [twosL]
theorem twosL_len (l : List Nat) : (twosL l).length = 2 * l.length := by
  unfold twosL
  induction l with
  | nil => rfl
  | cons a l ih => simp [ih, twoL]; omega
def leafBytesL (l : List EntL) : List UInt8 := leafBodyL 0 [] l ++ (twosL (startsL l) ++ twoL (startsL l).length)
theorem starts_step (l : List EntL) (j : Nat) (hj : j < l.length) : startsL (l.take (j + 1)) = startsL (l.take j) ++ (if j % 4 = 0 then [(leafBodyL 0 [] (l.take j)).length] else []) := by
  unfold startsL
  rw [List.length_take, List.length_take, Nat.min_eq_left (by omega), Nat.min_eq_left (by omega), List.range_succ, List.filter_append, List.map_append]
  congr 1
  · apply List.map_congr_left
    intro i hi
    have : i < j := by simpa using (List.mem_filter.1 hi).1
    rw [List.take_take, List.take_take, Nat.min_eq_left (by omega), Nat.min_eq_left (by omega)]
  · by_cases h : j % 4 = 0
    · rw [if_pos h]
      simp [h, List.take_take]
    · rw [if_neg h]
      simp [h]
theorem starts_len' (l : List EntL) : ∀ j : Nat, j ≤ l.length → (startsL (l.take j)).length = (j + 3) / 4
  | 0, _ => by simp [startsL]
  | j + 1, h => by
    rw [starts_step l j (by omega), List.length_append, starts_len' l j (by omega)]
    split
    · simp; omega
    · simp; omega
theorem starts_len (l : List EntL) : (startsL l).length = (l.length + 3) / 4 := by
  have := starts_len' l l.length (Nat.le_refl _)
  rwa [List.take_length] at this

def checkEntL (e : EntL) : Nat := if checkKey e.key ≠ 0 then checkKey e.key else if 512 < e.value.length then 3 else 0
def risesL : List EntL → Bool
  | [] => true
  | [_] => true
  | a :: b :: l => lessKey a.key b.key && risesL (b :: l)
theorem risesL_iff : ∀ l : List EntL, risesL l = true ↔ ∀ (i : Nat) (h : i + 1 < l.length), lessKey l[i].key l[i + 1].key = true
  | [] => by simp [risesL]
  | [a] => by simp [risesL]
  | a :: b :: l => by
    have ih := risesL_iff (b :: l)
    simp only [risesL, Bool.and_eq_true]
    rw [ih]
    constructor
    · rintro ⟨h1, h2⟩ i hi
      cases i with
      | zero => exact h1
      | succ i => exact h2 i (by simpa using hi)
    · intro h
      refine ⟨h 0 (by simp), fun i hi => ?_⟩
      exact h (i + 1) (by simpa using hi)
def checkLeafL (l : List EntL) : Nat := if 64 < l.length then 3 else if firstErr checkEntL l ≠ 0 then firstErr checkEntL l else if risesL l = true then 0 else 10
theorem checkEnt_zero {e : EntL} (h : checkEntL e = 0) : checkKey e.key = 0 ∧ e.value.length ≤ 512 := by
  unfold checkEntL at h
  repeat' split at h
  all_goals omega
theorem checkKey_bounds {k : KeyL} (h : checkKey k = 0) : k.seq.toNat < 72057594037927936 ∧ 1 ≤ k.user.length ∧ k.user.length ≤ 64 ∧ 1 ≤ k.kind.toNat ∧ k.kind.toNat ≤ 2 := by
  unfold checkKey at h
  repeat' split at h
  all_goals omega
theorem checkLeaf_zero {l : List EntL} (h : checkLeafL l = 0) : l.length ≤ 64 ∧ (∀ e ∈ l, checkKey e.key = 0 ∧ e.value.length ≤ 512) ∧ risesL l = true := by
  unfold checkLeafL at h
  split at h
  · omega
  · split at h
    · omega
    · rename_i h1 h2
      split at h
      · rename_i h3
        exact ⟨by omega, fun e he => checkEnt_zero ((firstErr_zero _ _).1 (by omega) e he), h3⟩
      · omega
theorem leafEnt_len (n : Nat) (f v : List UInt8) : (leafEntL n f v).length ≤ 27 + f.length + v.length ∧ 0 < (leafEntL n f v).length := by
  unfold leafEntL
  have h1 := num_len n
  have h2 := num_len (f.length - n)
  have h3 := num_len v.length
  simp only [List.length_append, List.length_drop]
  omega
theorem leafBody_len : ∀ (l : List EntL) (i : Nat) (a : List UInt8), (∀ e ∈ l, checkKey e.key = 0 ∧ e.value.length ≤ 512) → (leafBodyL i a l).length ≤ 611 * l.length
  | [], _, _, _ => by simp [leafBodyL]
  | e :: l, i, a, h => by
    have ih := leafBody_len l (i + 1) (fullL e.key) fun x hx => h x (by simp [hx])
    have h1 := h e (by simp)
    have h2 := checkKey_bounds h1.1
    have h3 := leafEnt_len (leafN i a (fullL e.key)) (fullL e.key) e.value
    rw [fullL_len] at h3
    simp only [leafBodyL, List.length_append, List.length_cons]
    omega
/-- the version of a form -/
def verL (f : List UInt8) : KeyL := keyOfN (f.take (f.length - 8)) (leval (f.drop (f.length - 8)))
theorem key_ofN (k : KeyL) : keyOfN k.user (keyN k) = k := by
  have hd := k.kind.toNat_lt
  unfold keyOfN keyN
  cases k with | mk u s d =>
  simp only [KeyL.mk.injEq, true_and]
  simp only at hd
  constructor
  · apply UInt64.toNat_inj.1
    rw [UInt64.toNat_ofNat', show (s.toNat * 256 + d.toNat) / 256 = s.toNat by omega]
    exact Nat.mod_eq_of_lt s.toNat_lt
  · apply UInt8.toNat_inj.1
    rw [UInt8.toNat_ofNat']
    omega
theorem ver_full (k : KeyL) (h : k.seq.toNat < 72057594037927936) : verL (fullL k) = k := by
  have hd := k.kind.toNat_lt
  unfold verL
  rw [fullL_len, Nat.add_sub_cancel]
  unfold fullL
  rw [List.take_left' rfl, List.drop_left' rfl, leval_le8 _ (by unfold keyN; omega), key_ofN]
/-- the entry in front, behind a form; its own form, and what stands behind -/
def entryL (a p : List UInt8) : Option (EntL × List UInt8 × List UInt8) :=
  let x := takeL p
  let y := takeL x.2.1
  let z := takeL y.2.1
  if x.2.2 = 0 ∧ y.2.2 = 0 ∧ z.2.2 = 0 ∧ x.1 ≤ a.length ∧ y.1 + z.1 ≤ z.2.1.length ∧ 8 ≤ x.1 + y.1 then
    some (⟨verL (a.take x.1 ++ z.2.1.take y.1), (z.2.1.drop y.1).take z.1⟩, a.take x.1 ++ z.2.1.take y.1, z.2.1.drop (y.1 + z.1))
  else none
theorem entry_of (i : Nat) (a rest : List UInt8) (e : EntL) (h1 : checkKey e.key = 0) (h2 : e.value.length ≤ 512) :
    entryL a (leafEntL (leafN i a (fullL e.key)) (fullL e.key) e.value ++ rest) = some (e, fullL e.key, rest) := by
  have hb := checkKey_bounds h1
  have hl := fullL_len e.key
  have hn := leafN_le i a (fullL e.key)
  have ht := leafN_take i a (fullL e.key)
  have hv := ver_full e.key hb.1
  generalize leafN i a (fullL e.key) = n at *
  generalize fullL e.key = f at *
  have e1 : takeL (leafEntL n f e.value ++ rest) = (n, numL (f.length - n) ++ (numL e.value.length ++ (f.drop n ++ (e.value ++ rest))), 0) := by
    unfold leafEntL
    simp only [List.append_assoc]
    exact take_num n (by omega) _
  have e2 : takeL (numL (f.length - n) ++ (numL e.value.length ++ (f.drop n ++ (e.value ++ rest)))) = (f.length - n, numL e.value.length ++ (f.drop n ++ (e.value ++ rest)), 0) := take_num _ (by omega) _
  have e3 : takeL (numL e.value.length ++ (f.drop n ++ (e.value ++ rest))) = (e.value.length, f.drop n ++ (e.value ++ rest), 0) := take_num _ (by omega) _
  have hd : (f.drop n).length = f.length - n := by simp
  unfold entryL
  simp only [e1, e2, e3]
  rw [if_pos ⟨trivial, trivial, trivial, hn.1, by simp only [List.length_append, hd]; omega, by omega⟩]
  rw [List.take_left' hd, List.drop_left' hd, ht, List.take_append_drop, hv, List.take_left, ← List.drop_drop, List.drop_left' hd, List.drop_left]
theorem entry_len {a p f q : List UInt8} {e : EntL} (h : entryL a p = some (e, f, q)) : q.length < p.length ∧ f.length + q.length ≤ a.length + p.length := by
  unfold entryL at h
  simp only at h
  split at h
  · rename_i hc
    obtain ⟨c1, c2, c3, c4, c5, c6⟩ := hc
    simp only [Option.some.injEq, Prod.mk.injEq] at h
    obtain ⟨_, rfl, rfl⟩ := h
    have h1 := takeL_len p
    have h2 := takeL_len (takeL p).2.1
    have h3 := takeL_len (takeL (takeL p).2.1).2.1
    have i1 := congrArg List.length (take_inv p c1)
    have n1 := num_len (takeL p).1
    simp only [List.length_append] at i1
    simp only [List.length_drop, List.length_append, List.length_take]
    omega
  · cases h
def parseL (d : Bool) : Nat → List UInt8 → List UInt8 → Option (List EntL)
  | 0, _, p => if p.length = 0 ∨ d = true then some [] else none
  | m + 1, a, p => if p.length = 0 then some [] else match entryL a p with
    | none => none
    | some (e, f, q) => (parseL d m f q).map (e :: ·)
theorem parse_of (d : Bool) : ∀ (l : List EntL) (m i : Nat) (a : List UInt8), l.length ≤ m → (∀ e ∈ l, checkKey e.key = 0 ∧ e.value.length ≤ 512) → parseL d m a (leafBodyL i a l) = some l
  | [], m, i, a, _, _ => by cases m <;> simp [parseL, leafBodyL]
  | e :: l, 0, i, a, h, _ => by simp at h
  | e :: l, m + 1, i, a, h, hc => by
    have ih := parse_of d l m (i + 1) (fullL e.key) (by simpa using h) fun x hx => hc x (by simp [hx])
    have h1 := hc e (by simp)
    have h2 := leafEnt_len (leafN i a (fullL e.key)) (fullL e.key) e.value
    rw [show leafBodyL i a (e :: l) = leafEntL (leafN i a (fullL e.key)) (fullL e.key) e.value ++ leafBodyL (i + 1) (fullL e.key) l from rfl]
    unfold parseL
    rw [if_neg (by rw [List.length_append]; omega), entry_of i a _ e h1.1 h1.2]
    simp only [ih, Option.map_some]
def endN (p : List UInt8) : Nat := (p.getD (p.length - 2) 0).toNat + 256 * (p.getD (p.length - 1) 0).toNat
/-- the leaf of bytes: what stands there, if it makes just these bytes -/
def readLeafX (d : Bool) (m : Nat) (p : List UInt8) : Option (List EntL) :=
  if p.length < 2 ∨ p.length < 2 + 2 * endN p ∨ 16 < endN p then none
  else match parseL d m [] (p.take (p.length - 2 - 2 * endN p)) with
    | none => none
    | some l => if checkLeafL l = 0 ∧ leafBytesL l = p then some l else none
theorem readLeafX_iff (d : Bool) (m : Nat) (hm : 64 ≤ m) (p : List UInt8) (l : List EntL) : readLeafX d m p = some l ↔ checkLeafL l = 0 ∧ leafBytesL l = p := by
  constructor
  · intro h
    unfold readLeafX at h
    split at h
    · cases h
    · split at h
      · cases h
      · split at h
        · rename_i hc
          obtain rfl := Option.some.inj h
          exact hc
        · cases h
  · rintro ⟨h1, rfl⟩
    obtain ⟨hb1, hb2, hb3⟩ := checkLeaf_zero h1
    have hk : (startsL l).length ≤ 16 := by rw [starts_len]; omega
    have ht := twosL_len (startsL l)
    have hp := parse_of d l m 0 [] (by omega) hb2
    generalize hB : leafBodyL 0 [] l = B at *
    generalize hS : startsL l = S at *
    have eq : leafBytesL l = B ++ (twosL S ++ twoL S.length) := by unfold leafBytesL; rw [hB, hS]
    have hlen : (leafBytesL l).length = B.length + 2 * S.length + 2 := by rw [eq]; simp [ht, twoL]; omega
    have g1 : (leafBytesL l).getD ((leafBytesL l).length - 2) 0 = UInt8.ofNat S.length := by
      rw [hlen, eq, ← List.append_assoc, List.getD_eq_getElem?_getD, List.getElem?_append_right (by simp [ht])]
      have e0 : B.length + 2 * S.length + 2 - 2 - (B ++ twosL S).length = 0 := by simp [ht]
      rw [e0]
      rfl
    have g2 : (leafBytesL l).getD ((leafBytesL l).length - 1) 0 = UInt8.ofNat (S.length / 256) := by
      rw [hlen, eq, ← List.append_assoc, List.getD_eq_getElem?_getD, List.getElem?_append_right (by simp [ht])]
      have e0 : B.length + 2 * S.length + 2 - 1 - (B ++ twosL S).length = 1 := by simp [ht]
      rw [e0]
      rfl
    have hn : endN (leafBytesL l) = S.length := by
      unfold endN
      rw [g1, g2, UInt8.toNat_ofNat', UInt8.toNat_ofNat']
      omega
    have htk : (leafBytesL l).take ((leafBytesL l).length - 2 - 2 * S.length) = B := by
      rw [hlen, eq, show B.length + 2 * S.length + 2 - 2 - 2 * S.length = B.length by omega, List.take_left]
    unfold readLeafX
    rw [hn, if_neg (by rw [hlen]; omega), htk, hp]
    simp only [h1, true_and, if_true]
def readLeafL (p : List UInt8) : Option (List EntL) := readLeafX false 64 p
theorem readLeaf_iff (p : List UInt8) (l : List EntL) : readLeafL p = some l ↔ checkLeafL l = 0 ∧ leafBytesL l = p := readLeafX_iff false 64 (Nat.le_refl _) p l
/-- a leaf's bytes, or the error's number -/
def leafBE (l : List EntL) : List UInt8 × Nat := if checkLeafL l = 0 then (leafBytesL l, 0) else ([], checkLeafL l)
end Go.Proofs.YtpffieogkfndaaaDoor

namespace Go.Proofs.YtpffieogkfndaaaDoor
open Go.RowKit
set_option maxRecDepth 20000
set_option linter.unusedVariables false
set_option linter.unusedSimpArgs false
section
variable {α : Type} [Rep α] {w w' : World} {B : Nat} {e : TypeId} {A : Option Addr} {n c : Nat} {ls : List α}
def OwnZ (w : World) (B : Nat) (e : TypeId) (A : Option Addr) (n c : Nat) (ls : List α) : Prop :=
  ∃ xs, Own w B e (Rep.size α) A n c xs ∧ RowC w (fun b => blk A c ≠ some b ∧ B ≤ b) xs ls
theorem OwnZ.nil (w : World) (B : Nat) (e : TypeId) (A : Option Addr) : OwnZ w B e A 0 0 ([] : List α) := ⟨[], Own.nil _ _ _ _ _, rfl⟩
theorem OwnZ.slB (h : OwnZ w B e A n c ls) : SlR w (fun b => B ≤ b) A n c ls := by
  obtain ⟨xs, ho, hr⟩ := h
  refine ⟨xs, ho.sl, hr.move fun _ _ h => ⟨rfl, h.2⟩, fun b hn e => (ho.lt b ?_).1⟩
  have := ho.cap
  unfold blk
  rw [if_neg (by omega)]
  exact e
theorem OwnZ.sl (h : OwnZ w B e A n c ls) : SlR w (fun _ => True) A n c ls := h.slB.mono fun _ _ _ => trivial
theorem OwnZ.lenR (h : OwnZ w B e A n c ls) : ls.length = n := h.sl.lenR
theorem OwnZ.lt (h : OwnZ w B e A n c ls) : ∀ b, blk A c = some b → B ≤ b ∧ b < w.heap.size := by
  obtain ⟨xs, ho, _⟩ := h
  exact fun b hb => Own.lt ho b hb
theorem OwnZ.below (h : OwnZ w B e A n c ls) (hb : Below w.heap.size w w') : OwnZ w' B e A n c ls := by
  obtain ⟨xs, ho, hr⟩ := h
  exact ⟨xs, ho.below hb, hr.move fun b hl hp => ⟨hb.block b hl, hp⟩⟩
theorem OwnZ.mono {B' : Nat} (h : OwnZ w B e A n c ls) (hB : B' ≤ B) : OwnZ w B' e A n c ls := by
  obtain ⟨xs, ho, hr⟩ := h
  exact ⟨xs, ho.mono hB, hr.move fun b _ hp => ⟨rfl, hp.1, Nat.le_trans hB hp.2⟩⟩
/-- another block was written -/
theorem OwnZ.grown {g : Nat} {row : Option Nat} (h : OwnZ w B e A n c ls) (hg : w.grownBy w' row) (h1 : ∀ b, row = some b → g ≤ b) (h2 : w.heap.size ≤ g) : OwnZ w' B e A n c ls := by
  obtain ⟨xs, ho, hr⟩ := h
  refine ⟨xs, ho.grown hg fun b hb q => ?_, hr.move fun b hl hp => ⟨hg.block b hl fun q => ?_, hp⟩⟩
  · have := (ho.lt b hb).2
    have := h1 b q
    omega
  · have := h1 b q.symm
    omega
theorem row_appZ (P : Program) (w : World) (t ty : TypeId) (z : Value) (bytes : Nat) (ht : P.underlying t = some (.slice e)) (hi : (P.info? e).map (fun i => (i.zero, i.size, i.bytes)) = some (some z, Rep.size α, bytes))
    (hzs : z.cells.size = Rep.size α) (hown : OwnZ w B e A n c ls)
    (A2 : Option Addr) (m c2 : Nat) (ms : List α) (hs : ∃ xs, Sl w (Rep.size α) A2 m c2 xs ∧ RowC w (fun b => blk A c ≠ some b ∧ B ≤ b) xs ms)
    (h63 : n + m ≤ maxLen) (hbytes : (n + m) * bytes ≤ 140737488355328) (hB : B ≤ w.heap.size) :
    ∃ A' c' w', (Builtin.append_ #[t, t] ty #[.slice A n c, .slice A2 m c2]).run P w = .ok (.slice A' (n + m) c') w' ∧ OwnZ w' B e A' (n + m) c' (ls ++ ms) ∧ w.grownBy w' (blk A c) ∧ (blk A' c' = blk A c ∨ blk A' c' = some w.heap.size) := by
  obtain ⟨i, hi1, hz, hs1, hb1⟩ := info_parts hi
  obtain ⟨xs, hO, hR⟩ := hown
  obtain ⟨ys, hS, hR2⟩ := hs
  obtain ⟨A', c', w', hrun, h2, h3, h4⟩ := run_append_own2 (P := P) w B t ty e i z (Rep.size α) bytes ht hi1 hz hs1 hb1 hzs A n c xs hO A2 m c2 ys hS hR2.one h63 hbytes hB
  have mv : ∀ b, b < w.heap.size → (blk A c ≠ some b ∧ B ≤ b) → w'.heap[b]? = w.heap[b]? ∧ blk A' c' ≠ some b ∧ B ≤ b := fun b hl hp2 => by
    obtain ⟨hp, hBb⟩ := hp2
    refine ⟨h3.block b hl (fun q => hp q.symm), ?_, hBb⟩
    rcases h4 with q | q
    · rw [q]; exact hp
    · rw [q]
      intro r
      simp at r
      omega
  exact ⟨A', c', w', hrun, ⟨_, h2, (hR.move mv).append (hR2.move mv)⟩, h3, h4⟩
theorem wpList_appZ {P : Program} (w : World) {ops : Array Oper} {rest : List Oper} {o : Oper} {a : Act} {Q : Exit → Act → World → Prop} (hgd : o.guard = none) (s x : Operand) (t : TypeId)
    (ho : o.op = .call { callee := .builtin .append, args := #[s, x], argTypes := #[t, t] })
    (B : Nat) (e : TypeId) (z : Value) (bytes : Nat) (ht : P.underlying t = some (.slice e)) (hi : (P.info? e).map (fun i => (i.zero, i.size, i.bytes)) = some (some z, Rep.size α, bytes))
    (hzs : z.cells.size = Rep.size α)
    (A : Option Addr) (n c : Nat) (ls : List α) (hsv : a.eval s = .slice A n c) (hown : OwnZ w B e A n c ls)
    (A2 : Option Addr) (m c2 : Nat) (ms : List α) (hx : a.eval x = .slice A2 m c2) (hs : ∃ xs, Sl w (Rep.size α) A2 m c2 xs ∧ RowC w (fun b => blk A c ≠ some b ∧ B ≤ b) xs ms)
    (h63 : n + m ≤ maxLen) (hbytes : (n + m) * bytes ≤ 140737488355328) (hB : B ≤ w.heap.size)
    (h : ∀ A' c' w', OwnZ w' B e A' (n + m) c' (ls ++ ms) → w.grownBy w' (blk A c) → (blk A' c' = blk A c ∨ blk A' c' = some w.heap.size) → wpList P ops Q rest (a.put o.dst (.slice A' (n + m) c')) w') : wpList P ops Q (o :: rest) a w := by
  obtain ⟨A', c', w', hrun, h2, h3, h4⟩ := row_appZ P w t o.type z bytes ht hi hzs hown A2 m c2 ms hs h63 hbytes hB
  refine wpList_plain hgd fun _ hK => ?_
  unfold Oper.wp execOp
  simp only [ho, resolve, invoke, builtin, Sem.run_bind, Sem.run_pure, Result.andThen_ok, List.map_toArray, List.map_cons, List.map_nil, hsv, hx, hrun]
  exact hK _ _ (h A' c' w' h2 h3 h4)
end
end Go.Proofs.YtpffieogkfndaaaDoor

namespace Go.Proofs.YtpffieogkfndaaaDoor
open Go.RowKit
set_option maxRecDepth 20000
set_option linter.unusedVariables false
set_option linter.unusedSimpArgs false
theorem leval_drop (l : List UInt8) (j : Nat) (hj : j < l.length) : leval (l.drop j) = leval (l.drop (j + 1)) * 256 + (l[j]).toNat := by
  rw [List.drop_eq_getElem_cons hj]
  rfl
/-- as GotRead; the version's user lies in new memory -/
def GotReadN (w : World) (r : KeyL × List UInt8 × Nat) (e : Ending) (w' : World) : Prop :=
  ∃ (A : Option Addr) (n c : Nat) (B : Option Addr) (m d : Nat), e = .returned (.tuple #[.agg #[.slice A n c, .int .u64 (r.1.seq.toNat : Int), .int .u8 (r.1.kind.toNat : Int)], .slice B m d, .int .i64 (r.2.2 : Int)]) ∧
    Sl w' 1 A n c (bc r.1.user) ∧ Sl w' 1 B m d (bc r.2.1) ∧ Below w.heap.size w w' ∧ ∀ b, 0 < n → A.map (·.block) = some b → w.heap.size ≤ b
set_option maxHeartbeats 8000000 in
theorem kread_new (w : World) (A : Option Addr) (n c : Nat) (p : List UInt8) (h : Sl w 1 A n c (bc p)) (hn : n ≤ 1000000) :
    Calls Tryd.prog 63 #[.slice A n c] w (GotReadN w (keyReadL p)) := by
  have ct := fun (w' : World) (hb : Below w.heap.size w w') => taketext_new w' A n c p (h.below (by omega) hb) (by omega) 64 (by omega)
  have hrl : (takeTextL p 64).2.1.length ≤ 1000000 := by
    have := takeL_len p
    have hl := h.lenb
    unfold takeTextL
    repeat' split
    all_goals simp
    omega
  obtain ⟨res, hres⟩ : ∃ res, keyReadL p = res := ⟨_, rfl⟩
  rw [hres]
  unfold keyReadL at hres
  unfold TookN at ct
  generalize (takeTextL p 64).1 = u at *
  generalize (takeTextL p 64).2.1 = r at *
  generalize (takeTextL p 64).2.2 = q at *
  have Ct := Lib.hid ct
  have Hrl := Lib.hid hrl
  have Hres := Lib.hid hres
  clear ct h hrl hres
  have hk := Bx.fresh w (.slice none 0 0) (.int .u64 0) (.int .u8 0) 43
  have hbA := (Below.refl w.heap.size w).alloc (Nat.le_refl _) (.cells #[.slice none 0 0, .int .u64 0, .int .u8 0] 43)
  go_enter Tryd.func63, Tryd.ntmps63
  go_wp2_with fail
  refine (Ct.out _ hbA).mono ?_
  rintro e w1 ⟨A1, n1, c1, B1, m1, d1, rfl, h1, g1, hb1, N1, _⟩
  have hz0 : (w.alloc (.cells #[.slice none 0 0, .int .u64 0, .int .u8 0] 43)).heap.size = w.heap.size + 1 := by simp
  unfold NewAt at N1
  rw [hz0] at N1
  have N1 := Lib.hid N1
  clear hz0
  have q1 := hbA.trans (hb1.mono hbA.size)
  have hk := hk.below hb1
  clear hbA hb1
  obtain ⟨x0, x1, x2, x3⟩ := id hk
  have hr := g1.lenb
  by_cases hq : q = 0
  · subst hq
    have e1 := Hres.out
    rw [if_neg (by simp), hr] at e1
    by_cases hm : m1 < 8
    · rw [if_pos hm] at e1
      have E1 := Lib.hid e1
      clear e1
      have hm' : decide ((m1 : Int) < 8) = true := by rw [decide_eq_true_eq]; omega
      go_wp2_with fail
      refine bodyPost_ret (v := .tuple #[.agg #[.slice none 0 0, .int .u64 0, .int .u8 0], .slice none 0 0, .int .i64 2]) (by simp [results, Tryd.results63, go_sem, x0, x1, x2]) rfl ?_
      rw [← E1.out]
      refine ⟨none, 0, 0, none, 0, 0, rfl, Sl.nil _ _ _ _ (Nat.zero_le _), Sl.nil _ _ _ _ (Nat.zero_le _), ?_, fun b hn => absurd hn (by omega)⟩
      iterate 3 refine Below.setCell ?_ (by simp) _
      exact q1
    · -- main
      rw [if_neg hm] at e1
      have E1 := Lib.hid e1
      clear e1
      have hm' : decide ((m1 : Int) < 8) = false := by rw [decide_eq_false_iff_not]; omega
      have hcm := g1.capm
      have hcp := g1.cap
      unfold maxLen at hcm
      have Hr := Lib.hid hr
      have Hm := Lib.hid hm
      clear hm hr
      go_wp2
      go_loopw [8, 9] (fun a i wr => ∃ (j v : Nat) (z : Int), z = 7 - (j : Int) ∧ j ≤ 8 ∧ i = .int .i64 z ∧ a = .int .u64 (v : Int) ∧ Hid (v = leval ((r.take 8).drop (8 - j))) ∧ w1 = wr) (fun _ i _ => (intOf i + 1).toNat)
      case atStart => exact ⟨0, 0, 7, by omega, by omega, rfl, rfl, by unfold Hid; rw [List.drop_of_length_le (by simp; omega)]; rfl, rfl⟩
      case round =>
        obtain ⟨j, v, z, hz, hj, rfl, rfl, Hv, rfl⟩ := hrel
        by_cases hj8 : j < 8
        · obtain ⟨t, ht⟩ : ∃ t : Nat, t = 7 - j := ⟨_, rfl⟩
          obtain rfl : z = (t : Int) := by omega
          have htl : t < r.length := by have := Hr.out; have := Hm.out; omega
          obtain ⟨bb, o, x, rfl, hx, hxl, hcell⟩ := g1.byte htl
          have hl8 : (r.take 8).length = 8 := by have := Hr.out; have := Hm.out; rw [List.length_take]; omega
          have hstep := leval_drop (r.take 8) t (by omega)
          rw [List.getElem_take, hx, show t + 1 = 8 - j by omega, ← Hv.out] at hstep
          have hvb : v < 72057594037927936 := by
            rw [Hv.out]
            have h1 := leval_lt ((r.take 8).drop (8 - j))
            have h2 : (256 : Nat) ^ ((r.take 8).drop (8 - j)).length ≤ 256 ^ 7 := Nat.pow_le_pow_right (by omega) (by rw [List.length_drop, hl8]; omega)
            have : (256 : Nat) ^ 7 = 72057594037927936 := rfl
            omega
          have eo : bits .or .u64 ((v : Int) * 256) (x : Int) = ((v * 256 + x : Nat) : Int) := by
            have h1 := u64_or_nat (v * 256) x (by omega) (by omega)
            rw [nat_join 8 _ _ (by omega) (by omega)] at h1
            rw [← h1]
            simp
          have htm : t < m1 := by have := Hr.out; omega
          have Hstep := Lib.hid hstep
          have Ht := Lib.hid ht
          have Hj8 := Lib.hid hj8
          clear hz hj hj8 ht hstep hx htl hl8
          go_wp2
          go_roundw
          case rel => exact ⟨j + 1, v * 256 + x, (t : Int) - 1, by have := Ht.out; have := Hj8.out; omega, by have := Hj8.out; omega, by simp, by go_num, by unfold Hid; rw [← Hstep.out]; congr 2; have := Ht.out; omega, (by first | rfl | trivial)⟩
          case measure => simp [intOf]
        · obtain rfl : j = 8 := by omega
          obtain rfl : z = -1 := by omega
          have hN := Hv.out
          rw [Nat.sub_self, List.drop_zero] at hN
          have e2 := E1.out
          rw [← hN] at e2
          have hvl : v < 18446744073709551616 := by
            rw [hN]
            have h1 := leval_lt (r.take 8)
            have h2 : (256 : Nat) ^ (r.take 8).length ≤ 256 ^ 8 := Nat.pow_le_pow_right (by omega) (by rw [List.length_take]; omega)
            have : (256 : Nat) ^ 8 = 18446744073709551616 := rfl
            omega
          have k1 : (keyOfN u v).seq.toNat = v / 256 := by
            unfold keyOfN
            rw [UInt64.toNat_ofNat']
            exact Nat.mod_eq_of_lt (by omega)
          have k2 : (keyOfN u v).kind.toNat = v % 256 := by unfold keyOfN; simp
          have cc := fun (w' : World) (h : Sl w' 1 A1 n1 c1 (bc u)) => check_any w' A1 n1 c1 (keyOfN u v) h
          rw [k1, k2] at cc
          have E2 := Lib.hid e2
          have K1 := Lib.hid k1
          have K2 := Lib.hid k2
          clear hj8 hz hj hN hvl e2 k1 k2 Hv
          obtain ⟨ks, eks⟩ : ∃ ks : Nat, v / 256 = ks := ⟨_, rfl⟩
          obtain ⟨kd, ekd⟩ : ∃ kd : Nat, v % 256 = kd := ⟨_, rfl⟩
          have f1 : (v : Int) / 256 = (ks : Int) := by omega
          have f2 : (v : Int) % 256 = (kd : Int) := by omega
          rw [eks, ekd] at cc
          have Cc := Lib.hid cc
          have Eks := Lib.hid eks
          have Ekd := Lib.hid ekd
          clear cc eks ekd
          have z1 := hk.lt
          go_wp2_with fail
          refine nameC ?_
          intro w2 eW
          have bl : Below w1.heap.size w1 w2 := by rw [eW]; exact (Below.refl _ _).alloc (Nat.le_refl _) _
          have kB : Bx w2 w1.heap.size (.slice A1 n1 c1) (.int .u64 (ks : Int)) (.int .u8 (kd : Int)) := by rw [eW]; exact Bx.fresh w1 _ _ _ _
          clear eW x0 x1 x2 x3
          have hk := hk.below bl
          have h1 := h1.below (by omega) bl
          have g1 := g1.below (by omega) bl
          have q2 := q1.trans (bl.mono q1.size)
          obtain ⟨gB, egB⟩ : ∃ gB, gB = w1.heap.size := ⟨_, rfl⟩
          rw [← egB] at kB z1 ⊢
          clear egB bl q1
          obtain ⟨cr, hcr⟩ : ∃ cr, checkKey (keyOfN u v) = cr := ⟨_, rfl⟩
          have Hcr := Lib.hid hcr
          have hc1 := Cc.out w2 h1
          rw [hcr] at hc1
          clear hcr
          refine hc1.mono ?_
          rintro e w3 ⟨rfl, hb3⟩
          have hk := hk.below hb3
          have kB := kB.below hb3
          have h1 := h1.below (by omega) hb3
          have g1 := g1.below (by omega) hb3
          have q3 := q2.trans (hb3.mono q2.size)
          clear hb3 q2 hc1
          by_cases hcr : cr = 0
          · subst hcr
            have e3 := E2.out
            rw [if_neg (by rw [Hcr.out]; simp)] at e3
            have E3 := Lib.hid e3
            clear e3
            obtain ⟨B8, hrun, h8, _⟩ := cutL g1 .i64 8 8 rfl (by have := Hm.out; omega)
            have H8 := Lib.hid h8
            clear h8
            go_wp2_with fail
            have hk := hk.drew
            have kB := kB.drew
            have h1 := h1.drew
            have h8 := H8.out.drew
            have q3 := q3.drew
            refine regionS 7 (fun w' => Bx w' gB (.slice A1 n1 c1) (.int .u64 (ks : Int)) (.int .u8 (kd : Int))) (by kernel_rfl) ?_
            try (change AnyS _ _ _ _ _ _ _ _ _ (World.drew _))
            generalize w3.drew = w4 at *
            refine takeS (i := 0) (v := ?_) rfl (by kernel_rfl) (by kernel_rfl) (by kernel_rfl) (by kernel_rfl) (by kernel_rfl) (fun _ _ _ h => h) (Or.inl ⟨by kernel_rfl, ?_⟩) kB ?_
            case refine_2 =>
              intro wS hSw
              obtain ⟨x0, x1, x2, x3⟩ := hSw
              go_simp
              try with_reducible rfl
            try simp only [List.getElem_toArray, List.getElem_cons_succ, List.getElem_cons_zero, Act.put, List.setIfInBounds_toArray, List.set_cons_zero, List.set_cons_succ]
            refine takeS (i := 1) (v := ?_) rfl (by kernel_rfl) (by kernel_rfl) (by kernel_rfl) (by kernel_rfl) (by kernel_rfl) (fun _ _ _ h => h) (Or.inl ⟨by kernel_rfl, ?_⟩) kB ?_
            case refine_2 =>
              intro wS hSw
              clear hSw
              go_simp
              try with_reducible rfl
            try simp only [List.getElem_toArray, List.getElem_cons_succ, List.getElem_cons_zero, Act.put, List.setIfInBounds_toArray, List.set_cons_zero, List.set_cons_succ]
            refine takeS (i := 2) (v := ?_) rfl (by kernel_rfl) (by kernel_rfl) (by kernel_rfl) (by kernel_rfl) (by kernel_rfl) (fun _ _ _ h => h) (Or.inl ⟨by kernel_rfl, ?_⟩) kB ?_
            case refine_2 =>
              intro wS hSw
              clear hSw
              go_simp
              try with_reducible rfl
            try simp only [List.getElem_toArray, List.getElem_cons_succ, List.getElem_cons_zero, Act.put, List.setIfInBounds_toArray, List.set_cons_zero, List.set_cons_succ]
            refine readyS (i := 3) (by kernel_rfl) rfl (fun K hK => ?_)
            go_simp
            refine (clone_any w4 B8 (m1 - 8) (d1 - 8) _ h8 (by have := Hr.out; have := Hrl.out; omega)).mono ?_
            rintro e w5 ⟨A5, n5, c5, rfl, ho5, hb5⟩
            refine hK _ _ (kB.below hb5) ?_
            clear hK K
            have kB := kB.below hb5
            have zk4 := hk.lt
            have hk := hk.below hb5
            have h1 := h1.below (by omega) hb5
            have h5 := ho5.sl
            have z5 := hb5.size
            have zk := hk.lt
            have q5 := q3.trans (hb5.mono q3.size)
            clear hb5 h8
            obtain ⟨x0, x1, x2, x3⟩ := id hk
            refine readyS (i := 4) (by kernel_rfl) rfl (fun K hK => ?_)
            go_simp
            obtain ⟨w6, e6⟩ : ∃ w', w' = ((w5.setCell ⟨w.heap.size, 0, none⟩ (.slice A1 n1 c1)).setCell ⟨w.heap.size, 1, none⟩ (.int .u64 (ks : Int))).setCell ⟨w.heap.size, 2, none⟩ (.int .u8 (kd : Int)) := ⟨_, rfl⟩
            rw [← e6]
            obtain ⟨hk, g6⟩ := hk.set e6
            clear e6 x0 x1 x2 x3
            have kB := kB.grown g6 (by omega)
            refine hK _ _ kB ?_
            clear hK K
            refine takeS (i := 5) (v := ?_) rfl (by kernel_rfl) (by kernel_rfl) (by kernel_rfl) (by kernel_rfl) (by kernel_rfl) (fun _ _ _ h => h) (Or.inl ⟨by kernel_rfl, ?_⟩) kB ?_
            case refine_2 =>
              intro wS hSw
              clear hSw
              go_simp
              try with_reducible rfl
            try simp only [List.getElem_toArray, List.getElem_cons_succ, List.getElem_cons_zero, Act.put, List.setIfInBounds_toArray, List.set_cons_zero, List.set_cons_succ]
            refine takeS (i := 6) (v := ?_) rfl (by kernel_rfl) (by kernel_rfl) (by kernel_rfl) (by kernel_rfl) (by kernel_rfl) (fun _ _ _ h => h) (Or.inl ⟨by kernel_rfl, ?_⟩) kB ?_
            case refine_2 =>
              intro wS hSw
              clear hSw
              go_simp
              try with_reducible rfl
            try simp only [List.getElem_toArray, List.getElem_cons_succ, List.getElem_cons_zero, Act.put, List.setIfInBounds_toArray, List.set_cons_zero, List.set_cons_succ]
            refine doneS (by kernel_rfl) ?_ _
            try simp only [List.getElem_toArray, List.getElem_cons_succ, List.getElem_cons_zero, Act.put, List.setIfInBounds_toArray, List.set_cons_zero, List.set_cons_succ]
            go_wp2_with fail
            obtain ⟨x0, x1, x2, x3⟩ := id hk
            refine bodyPost_ret (v := .tuple #[.agg #[.slice A1 n1 c1, .int .u64 (ks : Int), .int .u8 (kd : Int)], .slice A5 n5 c5, .int .i64 0]) (by simp [results, Tryd.results63, go_sem, x0, x1, x2]) rfl ?_
            rw [← E3.out]
            refine ⟨A1, n1, c1, A5, n5, c5, (by simp only [K1.out, K2.out, Eks.out, Ekd.out] <;> rfl), h1.grown (by omega) g6 (fun hn b e q => by have := N1.out b hn e; simp at q; omega), h5.grown (by omega) g6 (fun hn b e q => by have := own_new (w := w4) ho5 (Nat.le_refl _) b hn e; simp at q; omega), q5.grown g6 q5.size (fun k e => by simp at e; omega), fun b hn e => by have := N1.out b hn e; omega⟩
          · have e3 := E2.out
            rw [if_pos (by rw [Hcr.out]; exact hcr)] at e3
            have E3 := Lib.hid e3
            have hc1 : ((cr : Int) == 0) = false := by rw [beq_eq_false_iff_ne]; omega
            have hc2 : ((cr : Int) != 0) = true := by rw [bne_iff_ne]; omega
            clear e3 hcr
            obtain ⟨x0, x1, x2, x3⟩ := id hk
            go_wp2_with fail
            refine bodyPost_ret (v := .tuple #[.agg #[.slice none 0 0, .int .u64 0, .int .u8 0], .slice none 0 0, .int .i64 4]) (by simp [results, Tryd.results63, go_sem, x0, x1, x2]) rfl ?_
            rw [← E3.out]
            refine ⟨none, 0, 0, none, 0, 0, rfl, Sl.nil _ _ _ _ (Nat.zero_le _), Sl.nil _ _ _ _ (Nat.zero_le _), ?_, fun b hn => absurd hn (by omega)⟩
            iterate 3 refine Below.setCell ?_ (by simp) _
            exact q3
  · have e1 := Hres.out
    rw [if_pos hq] at e1
    have E1 := Lib.hid e1
    clear e1
    have hq1 : ((q : Int) == 0) = false := by rw [beq_eq_false_iff_ne]; omega
    have hq2 : ((q : Int) != 0) = true := by rw [bne_iff_ne]; omega
    clear hq
    go_wp2_with fail
    refine bodyPost_ret (v := .tuple #[.agg #[.slice none 0 0, .int .u64 0, .int .u8 0], .slice none 0 0, .int .i64 (q : Int)]) (by simp [results, Tryd.results63, go_sem, x0, x1, x2]) rfl ?_
    rw [← E1.out]
    refine ⟨none, 0, 0, none, 0, 0, rfl, Sl.nil _ _ _ _ (Nat.zero_le _), Sl.nil _ _ _ _ (Nat.zero_le _), ?_, fun b hn => absurd hn (by omega)⟩
    iterate 3 refine Below.setCell ?_ (by simp) _
    exact q1
end Go.Proofs.YtpffieogkfndaaaDoor
