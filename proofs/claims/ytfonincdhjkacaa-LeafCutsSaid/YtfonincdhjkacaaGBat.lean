/-
  BatchPlain, BatchParts, BatchMap, BatchWalk, BatchCheck, BatchCovers, BatchFew, BatchOne, BatchOver, BatchBytesW, BatchAwake in one text. No condition but sizes.
-/
import Derived.Test.YtfonincdhjkacaaGKey
import Derived.Test.YtfonincdhjkacaaGAtom
import Derived.Test.YtfonincdhjkacaaGJoin
import Derived.Test.YtfonincdhjkacaaGByt
import Derived.Test.YtfonincdhjkacaaGLib
import Derived.Deep.CutRange
import Derived.Lib.SlBytesConst
namespace Go.Proofs.Ytfonincdhjkacaa
set_option maxRecDepth 20000
open Go.RowKit

def checkOpL (o : OpL) : Nat :=
  if o.kind.toNat < 1 ∨ 3 < o.kind.toNat then 1
  else if 64 < o.key.length ∨ (o.kind.toNat = 2 ∧ 512 < o.value.length) ∨ (o.kind.toNat = 3 ∧ 64 < o.value.length) then 3
  else if o.key.length = 0 ∨ (o.kind.toNat = 1 ∧ 0 < o.value.length) ∨ (o.kind.toNat = 3 ∧ ltL o.key o.value = false) then 4 else 0
/-- the first error of a list -/
def firstErr {α : Type} (f : α → Nat) : List α → Nat
  | [] => 0
  | o :: l => if f o ≠ 0 then f o else firstErr f l
theorem firstErr_zero {α : Type} (f : α → Nat) : ∀ l : List α, firstErr f l = 0 ↔ ∀ o ∈ l, f o = 0
  | [] => by simp [firstErr]
  | o :: l => by
    have ih := firstErr_zero f l
    unfold firstErr
    split
    · rename_i h
      simp [h]
    · rename_i h
      rw [ih]
      simp at h
      simp [h]
def checkOpsL (l : List OpL) : Nat := if 64 < l.length then 3 else firstErr checkOpL l
def opBytesL (o : OpL) : List UInt8 := numL o.kind.toNat ++ (textL o.key ++ textL o.value)
def opsBytesL (l : List OpL) : List UInt8 := numL l.length ++ (l.map opBytesL).flatten
def coversL (o : OpL) (key : List UInt8) : Bool := if o.kind.toNat = 3 then !ltL key o.key && ltL key o.value else o.key == key
/-- the last op that is of a key -/
def overL (l : List OpL) (key : List UInt8) : Option OpL := l.reverse.find? (coversL · key)
def sizeOpsL (l : List OpL) : Nat := (l.map fun o => o.key.length + o.value.length).sum
def cutOp (o : OpL) : OpL := { o with key := o.key.take 80, value := o.value.take 600 }
def fewOps (l : List OpL) (n : Nat) : List OpL := (l.take n).map cutOp
/-- one op in front, keys of at most km bytes, kinds of at most kk -/
def readOpL (kk km : Nat) (p : List UInt8) : Option (OpL × List UInt8) :=
  let a := takeL p
  let b := takeTextL a.2.1 km
  let c := takeTextL b.2.1 512
  if a.2.2 = 0 ∧ b.2.2 = 0 ∧ c.2.2 = 0 ∧ a.1 ≤ kk then some (⟨UInt8.ofNat a.1, b.1, c.1⟩, c.2.1) else none
def readNL (kk km : Nat) : Nat → List UInt8 → Option (List OpL × List UInt8)
  | 0, p => some ([], p)
  | n + 1, p => match readOpL kk km p with
    | none => none
    | some (o, q) => match readNL kk km n q with
      | none => none
      | some (l, r) => some (o :: l, r)
/-- the batch of bytes; none: they are none -/
def readOpsL (p : List UInt8) : Option (List OpL) :=
  if (takeL p).2.2 = 0 ∧ (takeL p).1 ≤ 64 then
    match readNL 3 64 (takeL p).1 (takeL p).2.1 with
    | none => none
    | some (l, r) => if r.length = 0 ∧ checkOpsL l = 0 then some l else none
  else none
/-- .. as the document has it: what stands there, if it makes just these bytes -/
def rreadOpsL (p : List UInt8) : Option (List OpL) :=
  if (takeL p).2.2 = 0 ∧ (takeL p).1 ≤ 64 then
    match readNL 255 512 (takeL p).1 (takeL p).2.1 with
    | none => none
    | some (l, _) => if checkOpsL l = 0 ∧ opsBytesL l = p then some l else none
  else none
theorem take_inv (p : List UInt8) (h : (takeL p).2.2 = 0) : p = numL (takeL p).1 ++ (takeL p).2.1 := by
  cases p with
  | nil => simp [takeL] at h
  | cons b r =>
    unfold takeL at h ⊢
    simp only at h ⊢
    split at h
    · simp at h
    · rename_i h1
      rw [if_neg h1]
      split at h
      · rename_i h2
        rw [if_pos h2]
        simp only
        rw [h2]
        simp [List.take_append_drop]
      · simp at h
theorem taketext_inv (p : List UInt8) (m : Nat) (h : (takeTextL p m).2.2 = 0) : p = textL (takeTextL p m).1 ++ (takeTextL p m).2.1 ∧ (takeTextL p m).1.length ≤ m := by
  unfold takeTextL at h ⊢
  split at h
  · rename_i h1
    exact absurd h h1
  · rename_i h1
    rw [if_neg h1]
    split at h
    · simp at h
    · rename_i h2
      rw [if_neg h2]
      split at h
      · simp at h
      · rename_i h3
        rw [if_neg h3]
        simp only
        have e := take_inv p (by simpa using h1)
        have hl : ((takeL p).2.1.take (takeL p).1).length = (takeL p).1 := by rw [List.length_take]; omega
        refine ⟨?_, by omega⟩
        unfold textL
        rw [hl, List.append_assoc, List.take_append_drop]
        exact e
theorem readOp_inv {kk km : Nat} (hk : kk ≤ 255) {p q : List UInt8} {o : OpL} (h : readOpL kk km p = some (o, q)) : p = opBytesL o ++ q ∧ o.key.length ≤ km ∧ o.value.length ≤ 512 ∧ o.kind.toNat ≤ kk := by
  unfold readOpL at h
  simp only at h
  split at h
  · rename_i hc
    obtain ⟨h1, h2, h3, h4⟩ := hc
    simp only [Option.some.injEq, Prod.mk.injEq] at h
    obtain ⟨rfl, rfl⟩ := h
    have e1 := take_inv p h1
    have e2 := taketext_inv _ _ h2
    have e3 := taketext_inv _ 512 h3
    rw [show ((512 : Nat) : Int) = 512 from rfl] at e3
    have hn : (UInt8.ofNat (takeL p).1).toNat = (takeL p).1 := by
      rw [UInt8.toNat_ofNat']
      exact Nat.mod_eq_of_lt (by omega)
    refine ⟨?_, e2.2, e3.2, by rw [hn]; exact h4⟩
    unfold opBytesL
    simp only [hn]
    rw [List.append_assoc, List.append_assoc, ← e3.1, ← e2.1]
    exact e1
  · cases h
theorem readOp_of {kk km : Nat} (o : OpL) (q : List UInt8) (h1 : o.key.length ≤ km) (h2 : o.value.length ≤ 512) (h3 : o.kind.toNat ≤ kk) (hkm : km ≤ 100000) : readOpL kk km (opBytesL o ++ q) = some (o, q) := by
  have hk := o.kind.toNat_lt
  have e1 : takeL (opBytesL o ++ q) = (o.kind.toNat, textL o.key ++ (textL o.value ++ q), 0) := by
    unfold opBytesL
    rw [List.append_assoc, List.append_assoc]
    exact take_num _ (by omega) _
  have e2 := take_text o.key (textL o.value ++ q) (by omega) km
  have e3 := take_text o.value q (by omega) 512
  rw [show ((512 : Nat) : Int) = 512 from rfl] at e3
  rw [if_pos h1] at e2
  rw [if_pos h2] at e3
  unfold readOpL
  simp only [e1, e2, e3]
  rw [if_pos ⟨trivial, trivial, trivial, h3⟩]
  cases o
  simp
theorem readN_inv {kk km : Nat} (hk : kk ≤ 255) : ∀ {n : Nat} {p : List UInt8} {l : List OpL} {r : List UInt8}, readNL kk km n p = some (l, r) →
    p = (l.map opBytesL).flatten ++ r ∧ l.length = n ∧ ∀ o ∈ l, o.key.length ≤ km ∧ o.value.length ≤ 512 ∧ o.kind.toNat ≤ kk
  | 0, p, l, r, h => by
    simp only [readNL, Option.some.injEq, Prod.mk.injEq] at h
    obtain ⟨rfl, rfl⟩ := h
    simp
  | n + 1, p, l, r, h => by
    simp only [readNL] at h
    split at h
    · cases h
    · rename_i o q ho
      split at h
      · cases h
      · rename_i l' r' hl
        simp only [Option.some.injEq, Prod.mk.injEq] at h
        obtain ⟨rfl, rfl⟩ := h
        obtain ⟨e1, b1⟩ := readOp_inv hk ho
        obtain ⟨e2, e3, b2⟩ := readN_inv hk hl
        refine ⟨?_, by simp [e3], ?_⟩
        · simp only [List.map_cons, List.flatten_cons, List.append_assoc]
          rw [← e2]
          exact e1
        · intro x hx
          rcases List.mem_cons.1 hx with rfl | hx
          · exact b1
          · exact b2 x hx
theorem readN_of {kk km : Nat} (hkm : km ≤ 100000) (r : List UInt8) : ∀ l : List OpL, (∀ o ∈ l, o.key.length ≤ km ∧ o.value.length ≤ 512 ∧ o.kind.toNat ≤ kk) → readNL kk km l.length ((l.map opBytesL).flatten ++ r) = some (l, r)
  | [], _ => rfl
  | o :: l, h => by
    have ho := h o (by simp)
    have ih := readN_of hkm r l (fun x hx => h x (by simp [hx]))
    simp only [List.length_cons, readNL, List.map_cons, List.flatten_cons, List.append_assoc]
    rw [readOp_of o _ ho.1 ho.2.1 ho.2.2 hkm]
    simp only [ih]
theorem checkOp_bounds {o : OpL} (h : checkOpL o = 0) : o.key.length ≤ 64 ∧ o.value.length ≤ 512 ∧ o.kind.toNat ≤ 3 := by
  unfold checkOpL at h
  repeat' split at h
  all_goals omega
theorem checkOps_bounds {l : List OpL} (h : checkOpsL l = 0) : l.length ≤ 64 ∧ ∀ o ∈ l, o.key.length ≤ 64 ∧ o.value.length ≤ 512 ∧ o.kind.toNat ≤ 3 := by
  unfold checkOpsL at h
  split at h
  · omega
  · exact ⟨by omega, fun o ho => checkOp_bounds ((firstErr_zero _ _).1 h o ho)⟩
/-- WHAT IS READ IS WHAT MAKES THE BYTES -/
theorem readOps_iff (p : List UInt8) (l : List OpL) : readOpsL p = some l ↔ checkOpsL l = 0 ∧ opsBytesL l = p := by
  constructor
  · intro h
    unfold readOpsL at h
    split at h
    · rename_i h1
      split at h
      · cases h
      · rename_i l' r hr
        split at h
        · rename_i h2
          obtain rfl := Option.some.inj h
          obtain ⟨e, hn, _⟩ := readN_inv (by omega) hr
          have e0 := take_inv p h1.1
          refine ⟨h2.2, ?_⟩
          obtain rfl : r = [] := List.eq_nil_of_length_eq_zero h2.1
          rw [List.append_nil] at e
          unfold opsBytesL
          rw [hn, ← e]
          exact e0.symm
        · cases h
    · cases h
  · rintro ⟨h1, rfl⟩
    obtain ⟨hb1, hb2⟩ := checkOps_bounds h1
    have e : takeL (opsBytesL l) = (l.length, (l.map opBytesL).flatten, 0) := take_num l.length (by omega) _
    have e2 := readN_of (kk := 3) (km := 64) (by omega) [] l hb2
    rw [List.append_nil] at e2
    unfold readOpsL
    simp only [e, e2]
    rw [if_pos ⟨trivial, hb1⟩, if_pos ⟨rfl, h1⟩]
theorem rreadOps_iff (p : List UInt8) (l : List OpL) : rreadOpsL p = some l ↔ checkOpsL l = 0 ∧ opsBytesL l = p := by
  constructor
  · intro h
    unfold rreadOpsL at h
    split at h
    · split at h
      · cases h
      · split at h
        · rename_i h2
          obtain rfl := Option.some.inj h
          exact h2
        · cases h
    · cases h
  · rintro ⟨h1, rfl⟩
    obtain ⟨hb1, hb2⟩ := checkOps_bounds h1
    have e : takeL (opsBytesL l) = (l.length, (l.map opBytesL).flatten, 0) := take_num l.length (by omega) _
    have e2 := readN_of (kk := 255) (km := 512) (by omega) [] l (fun o ho => by have := hb2 o ho; omega)
    rw [List.append_nil] at e2
    unfold rreadOpsL
    simp only [e, e2]
    rw [if_pos ⟨trivial, hb1⟩, if_pos ⟨h1, trivial⟩]
theorem readOps_same (p : List UInt8) : rreadOpsL p = readOpsL p := by
  rcases h : readOpsL p with _ | l
  · rcases h2 : rreadOpsL p with _ | l
    · rfl
    · rw [(readOps_iff p l).2 ((rreadOps_iff p l).1 h2)] at h
      cases h
  · exact (rreadOps_iff p l).2 ((readOps_iff p l).1 h)
end Go.Proofs.Ytfonincdhjkacaa

namespace Go.Proofs.Ytfonincdhjkacaa
open Go.RowKit
set_option maxRecDepth 20000
def opsBE (l : List OpL) : List UInt8 × Nat := if checkOpsL l = 0 then (opsBytesL l, 0) else ([], checkOpsL l)
def partsL (N : Nat) (ls : List OpL) : List (List UInt8) := numL N :: (ls.map fun o => [numL o.kind.toNat, textL o.key, textL o.value]).flatten
theorem partsL_snoc (N : Nat) (ls : List OpL) (o : OpL) : partsL N (ls ++ [o]) = partsL N ls ++ [numL o.kind.toNat, textL o.key, textL o.value] := by simp [partsL]
theorem partsL_len (N : Nat) : ∀ ls : List OpL, (partsL N ls).length = 1 + 3 * ls.length
  | [] => rfl
  | o :: ls => by
    have ih := partsL_len N ls
    unfold partsL at ih ⊢
    simp only [List.length_cons, List.map_cons, List.flatten_cons, List.length_append, List.length_nil] at ih ⊢
    omega
theorem partsL_flat (N : Nat) (ls : List OpL) : (partsL N ls).flatten = numL N ++ (ls.map opBytesL).flatten := by
  unfold partsL
  rw [List.flatten_cons]
  congr 1
  induction ls with
  | nil => rfl
  | cons o ls ih =>
    simp only [List.map_cons, List.flatten_cons, List.cons_append, List.nil_append, ih, opBytesL, List.append_assoc]
theorem numL_le (n : Nat) : (numL n).length ≤ 9 := (num_len n).2
theorem textL_le (t : List UInt8) : (textL t).length ≤ t.length + 9 := by
  unfold textL
  rw [List.length_append]
  have := numL_le t.length
  omega
theorem opFlat_le : ∀ ls : List OpL, (∀ o ∈ ls, o.key.length ≤ 64 ∧ o.value.length ≤ 512 ∧ o.kind.toNat ≤ 3) → (ls.map opBytesL).flatten.length ≤ 700 * ls.length
  | [], _ => by simp
  | o :: ls, h => by
    have ih := opFlat_le ls (fun x hx => h x (by simp [hx]))
    have ho := h o (by simp)
    have h1 := numL_le o.kind.toNat
    have h2 := textL_le o.key
    have h3 := textL_le o.value
    simp only [List.map_cons, List.flatten_cons, List.length_append, opBytesL, List.length_cons]
    omega
end Go.Proofs.Ytfonincdhjkacaa

namespace Go.Proofs.Ytfonincdhjkacaa
set_option maxRecDepth 20000
open Go.RowKit

/-- what a map is behind an op -/
def applyGo (o : OpL) : Bool → List PairL → List PairL
  | done, [] => if done then [] else [⟨o.key, o.value⟩]
  | done, x :: m => (if !done && ltL o.key x.key then [⟨o.key, o.value⟩] else []) ++ (if coversL o x.key then [] else [x]) ++ applyGo o (done || ltL o.key x.key) m
def applyL (m : List PairL) (o : OpL) : List PairL := applyGo o (!decide (o.kind.toNat = 2)) m
def applyAllL (m : List PairL) (l : List OpL) : List PairL := l.foldl applyL m
def getL (m : List PairL) (key : List UInt8) : Option (List UInt8) := (m.find? (·.key == key)).map (·.value)

theorem getL_cons (x : PairL) (m : List PairL) (key : List UInt8) : getL (x :: m) key = if x.key == key then some x.value else getL m key := by
  unfold getL
  rw [List.find?_cons]
  split <;> simp_all
theorem covers_put {o : OpL} (h : o.kind.toNat = 2) (key : List UInt8) : coversL o key = (o.key == key) := by
  unfold coversL
  rw [if_neg (by omega)]
/-- what a key has in the map behind an op that has been laid -/
theorem get_done (o : OpL) (key : List UInt8) : ∀ m : List PairL, getL (applyGo o true m) key = if coversL o key then none else getL m key
  | [] => by simp [applyGo, getL]
  | x :: m => by
    have ih := get_done o key m
    simp only [applyGo, Bool.not_true, Bool.false_and, Bool.false_eq_true, if_false, List.nil_append, Bool.true_or]
    cases hc : coversL o x.key
    · simp only [Bool.false_eq_true, if_false, List.cons_append, List.nil_append]
      rw [getL_cons, getL_cons, ih]
      by_cases hk : x.key = key
      · subst hk
        simp [hc]
      · simp [hk]
    · simp only [if_true, List.nil_append]
      rw [ih, getL_cons]
      by_cases hk : x.key = key
      · subst hk
        simp [hc]
      · simp [hk]
theorem get_put (o : OpL) (ho : o.kind.toNat = 2) (key : List UInt8) : ∀ m : List PairL, getL (applyGo o false m) key = if o.key == key then some o.value else getL m key
  | [] => by
    simp only [applyGo, Bool.false_eq_true, if_false]
    rw [getL_cons]
  | x :: m => by
    have ih := get_put o ho key m
    simp only [applyGo, Bool.not_false, Bool.true_and, Bool.false_or]
    cases hl : ltL o.key x.key
    · simp only [Bool.false_eq_true, if_false, List.nil_append]
      rw [covers_put ho]
      by_cases hk : o.key = x.key
      · simp only [hk, beq_self_eq_true, if_true, List.nil_append]
        rw [ih, getL_cons, hk]
        split <;> rfl
      · rw [if_neg (by simpa using hk), List.cons_append, List.nil_append, getL_cons, getL_cons, ih]
        by_cases hx : x.key = key
        · subst hx
          simp [hk]
        · simp [hx]
    · simp only [if_true, List.cons_append, List.nil_append]
      rw [getL_cons]
      have hd := get_done o key m
      rw [covers_put ho] at hd
      rw [covers_put ho]
      by_cases hk : o.key = key
      · simp [hk]
      · have hk' : (o.key == key) = false := by simpa using hk
        rw [hk'] at hd ⊢
        simp only [Bool.false_eq_true, if_false] at hd ⊢
        by_cases hx : o.key = x.key
        · simp only [hx, beq_self_eq_true, if_true, List.nil_append]
          rw [hd, getL_cons, if_neg]
          rw [← hx]
          simpa using hk
        · rw [if_neg (by simpa using hx), List.cons_append, List.nil_append, getL_cons, getL_cons, hd]
theorem get_apply (m : List PairL) (o : OpL) (key : List UInt8) : getL (applyL m o) key = if coversL o key then (if o.kind.toNat = 2 then some o.value else none) else getL m key := by
  unfold applyL
  by_cases ho : o.kind.toNat = 2
  · simp only [ho, decide_true, Bool.not_true, if_true]
    rw [get_put o ho, covers_put ho]
  · simp only [ho, decide_false, Bool.not_false, if_false]
    exact get_done o key m
theorem over_snoc (l : List OpL) (o : OpL) (key : List UInt8) : overL (l ++ [o]) key = if coversL o key then some o else overL l key := by
  unfold overL
  rw [List.reverse_append, List.reverse_singleton, List.singleton_append, List.find?_cons]
  split <;> simp_all
theorem applyAll_snoc (m : List PairL) (l : List OpL) (o : OpL) : applyAllL m (l ++ [o]) = applyL (applyAllL m l) o := by
  unfold applyAllL
  rw [List.foldl_append]
  rfl
theorem applyAll_append (m : List PairL) (a b : List OpL) : applyAllL m (a ++ b) = applyAllL (applyAllL m a) b := by
  unfold applyAllL
  rw [List.foldl_append]
/-- THE LAST OP OF A KEY TELLS WHAT ALL OF THEM MAKE OF IT -/
theorem get_over (l : List OpL) (key : List UInt8) : getL (applyAllL [] l) key = match overL l key with | none => none | some o => if o.kind.toNat = 2 then some o.value else none := by
  have h : ∀ n : Nat, n ≤ l.length → getL (applyAllL [] (l.take n)) key = match overL (l.take n) key with | none => none | some o => if o.kind.toNat = 2 then some o.value else none := by
    intro n
    induction n with
    | zero => intro _; rfl
    | succ n ih =>
      intro hn
      have ih := ih (by omega)
      rw [List.take_succ_eq_append_getElem (by omega), applyAll_snoc, over_snoc, get_apply, ih]
      cases coversL l[n] key <;> simp
  have := h l.length (Nat.le_refl _)
  rw [List.take_length] at this
  exact this
theorem over_some (l : List OpL) (key : List UInt8) : (overL l key).isSome = l.any (coversL · key) := by
  unfold overL
  rw [Bool.eq_iff_iff, List.find?_isSome]
  simp
theorem over_covers {l : List OpL} {key : List UInt8} {o : OpL} (h : overL l key = some o) : coversL o key = true ∧ o ∈ l := by
  unfold overL at h
  have h1 := List.find?_some h
  have h2 := List.mem_of_find?_eq_some h
  exact ⟨h1, by simpa using h2⟩
theorem size_append (a b : List OpL) : sizeOpsL (a ++ b) = sizeOpsL a + sizeOpsL b := by
  unfold sizeOpsL
  rw [List.map_append, List.sum_append]
/-- how long a map may grow -/
theorem applyGo_len (o : OpL) : ∀ (done : Bool) (m : List PairL), (applyGo o done m).length ≤ m.length + (if done then 0 else 1)
  | done, [] => by cases done <;> simp [applyGo]
  | done, x :: m => by
    have ih := applyGo_len o (done || ltL o.key x.key) m
    simp only [applyGo]
    cases done <;> cases hl : ltL o.key x.key <;> cases hc : coversL o x.key <;> simp [hl] at ih ⊢ <;> omega
theorem apply_len (m : List PairL) (o : OpL) : (applyL m o).length ≤ m.length + 1 := by
  have := applyGo_len o (!decide (o.kind.toNat = 2)) m
  unfold applyL
  split at this <;> omega
theorem applyAll_len (l : List OpL) : ∀ m : List PairL, (applyAllL m l).length ≤ m.length + l.length := by
  induction l with
  | nil => intro m; simp [applyAllL]
  | cons o l ih =>
    intro m
    have h1 := ih (applyL m o)
    have h2 := apply_len m o
    simp only [applyAllL, List.foldl_cons, List.length_cons] at *
    omega
end Go.Proofs.Ytfonincdhjkacaa

namespace Go.Proofs.Ytfonincdhjkacaa
open Go.RowKit
set_option maxRecDepth 20000
set_option maxHeartbeats 4000000 in
theorem checkop_any (w : World) (A : Option Addr) (n c : Nat) (A2 : Option Addr) (n2 c2 : Nat) (o : OpL) (h : Sl w 1 A n c (bc o.key)) (h2 : Sl w 1 A2 n2 c2 (bc o.value)) :
    Calls Try.prog 31 #[.agg #[.int .u8 (o.kind.toNat : Int), .slice A n c, .slice A2 n2 c2]] w fun e w' => e = .returned (.int .i64 (checkOpL o : Nat)) ∧ Below w.heap.size w w' := by
  have hl := h.lenb
  have hl2 := h2.lenb
  obtain ⟨x, hx⟩ : ∃ x, ltL o.key o.value = x := ⟨_, rfl⟩
  have c1 := fun (w' : World) (hb : Below w.heap.size w w') => less_is w' A n c o.key (h.below (by omega) hb) A2 n2 c2 o.value (h2.below (by omega) hb) x (Lib.hid hx)
  obtain ⟨r, hr⟩ : ∃ r, checkOpL o = r := ⟨_, rfl⟩
  rw [hr]
  unfold checkOpL at hr
  rw [hl, hl2, hx] at hr
  generalize o.kind.toNat = d at *
  have C1 := Lib.hid c1
  clear c1 hl hl2 hx h h2
  rcases (show d = 1 ∨ d = 2 ∨ d = 3 ∨ (d ≠ 1 ∧ d ≠ 2 ∧ d ≠ 3) by omega) with rfl | rfl | rfl | hd
  · simp at hr
    have Hr := Lib.hid hr
    clear C1 hr
    rw [show ((1 : Nat) : Int) = 1 from rfl]
    go_enter Try.func31, Try.ntmps31
    go_wp2
    all_goals
      go_ret
      refine ⟨ret_int ?_, (Below.refl _ _).alloc (Nat.le_refl _) _⟩
      rw [← Hr.out]
      go_light
      (try simp only [beq_iff_eq, bne_iff_ne, ne_eq, beq_eq_false_iff_ne, bne_eq_false_iff_eq, decide_eq_true_eq, decide_eq_false_iff_not] at *)
      (repeat' split) <;> omega
  · simp at hr
    have Hr := Lib.hid hr
    clear C1 hr
    rw [show ((2 : Nat) : Int) = 2 from rfl]
    go_enter Try.func31, Try.ntmps31
    go_wp2
    all_goals
      go_ret
      refine ⟨ret_int ?_, (Below.refl _ _).alloc (Nat.le_refl _) _⟩
      rw [← Hr.out]
      go_light
      (try simp only [beq_iff_eq, bne_iff_ne, ne_eq, beq_eq_false_iff_ne, bne_eq_false_iff_eq, decide_eq_true_eq, decide_eq_false_iff_not] at *)
      (repeat' split) <;> omega
  · simp at hr
    have Hr := Lib.hid hr
    clear hr
    rw [show ((3 : Nat) : Int) = 3 from rfl]
    have h4 : ¬(64 < n ∨ 64 < n2 ∨ n = 0) → (if x = false then 4 else 0) = r := by
      intro q
      have e := Hr.out
      rw [if_neg (show ¬(64 < n ∨ 64 < n2) by omega)] at e
      rw [← e]
      have q0 : ¬n = 0 := by omega
      simp [q0]
    rcases (show (64 < n ∨ 64 < n2 ∨ n = 0) ∨ (n ≤ 64 ∧ n2 ≤ 64 ∧ n ≠ 0) by omega) with hn | hn
    · clear C1 h4
      go_enter Try.func31, Try.ntmps31
      go_wp2
      all_goals (try omega)
      all_goals
        go_ret
        refine ⟨ret_int ?_, (Below.refl _ _).alloc (Nat.le_refl _) _⟩
        rw [← Hr.out]
        go_light
        (try simp only [beq_iff_eq, bne_iff_ne, ne_eq, beq_eq_false_iff_ne, bne_eq_false_iff_eq, decide_eq_true_eq, decide_eq_false_iff_not] at *)
        (repeat' split) <;> omega
    have h5 := h4 (by omega)
    have t1 : decide ((64 : Int) < (n : Int)) = false := decide_eq_false (by omega)
    have t2 : decide ((64 : Int) < (n2 : Int)) = false := decide_eq_false (by omega)
    have t3 : ((n : Int) == 0) = false := by simp; omega
    clear h4 hn Hr
    go_enter Try.func31, Try.ntmps31
    go_wp2_with fail
    refine (C1.out _ ((Below.refl _ _).alloc (Nat.le_refl _) _)).mono ?_
    rintro e w' ⟨rfl, rfl⟩
    cases x
    all_goals
      simp at h5
      subst h5
      go_wp2
      go_ret
      exact ⟨rfl, (Below.refl _ _).alloc (Nat.le_refl _) _⟩
  · have e : r = 1 := by
      rw [← hr, if_pos (by omega)]
    subst e
    clear C1 hr
    obtain ⟨q1, q2, q3⟩ := hd
    generalize hz : (d : Int) = z at *
    have q1 : (z == 1) = false := by simp; omega
    have q2 : (z == 2) = false := by simp; omega
    have q3 : (z == 3) = false := by simp; omega
    go_enter Try.func31, Try.ntmps31
    go_wp2
    all_goals
      go_ret
      exact ⟨rfl, (Below.refl _ _).alloc (Nat.le_refl _) _⟩
set_option maxHeartbeats 4000000 in
theorem rcheckop_any (w : World) (A : Option Addr) (n c : Nat) (A2 : Option Addr) (n2 c2 : Nat) (o : OpL) (h : Sl w 1 A n c (bc o.key)) (h2 : Sl w 1 A2 n2 c2 (bc o.value)) :
    Calls Try.prog 32 #[.agg #[.int .u8 (o.kind.toNat : Int), .slice A n c, .slice A2 n2 c2]] w fun e w' => e = .returned (.int .i64 (checkOpL o : Nat)) ∧ Below w.heap.size w w' := by
  have hl := h.lenb
  have hl2 := h2.lenb
  obtain ⟨x, hx⟩ : ∃ x, ltL o.key o.value = x := ⟨_, rfl⟩
  have c1 := fun (w' : World) (hb : Below w.heap.size w w') => rless_is w' A n c o.key (h.below (by omega) hb) A2 n2 c2 o.value (h2.below (by omega) hb) x (Lib.hid hx)
  obtain ⟨r, hr⟩ : ∃ r, checkOpL o = r := ⟨_, rfl⟩
  rw [hr]
  unfold checkOpL at hr
  rw [hl, hl2, hx] at hr
  generalize o.kind.toNat = d at *
  have C1 := Lib.hid c1
  clear c1 hl hl2 hx h h2
  rcases (show d = 1 ∨ d = 2 ∨ d = 3 ∨ (d ≠ 1 ∧ d ≠ 2 ∧ d ≠ 3) by omega) with rfl | rfl | rfl | hd
  · simp at hr
    have Hr := Lib.hid hr
    clear C1 hr
    rw [show ((1 : Nat) : Int) = 1 from rfl]
    go_enter Try.func32, Try.ntmps32
    go_wp2
    all_goals
      go_ret
      refine ⟨ret_int ?_, (Below.refl _ _).alloc (Nat.le_refl _) _⟩
      rw [← Hr.out]
      go_light
      (try simp only [beq_iff_eq, bne_iff_ne, ne_eq, beq_eq_false_iff_ne, bne_eq_false_iff_eq, decide_eq_true_eq, decide_eq_false_iff_not] at *)
      (repeat' split) <;> omega
  · simp at hr
    have Hr := Lib.hid hr
    clear C1 hr
    rw [show ((2 : Nat) : Int) = 2 from rfl]
    go_enter Try.func32, Try.ntmps32
    go_wp2
    all_goals
      go_ret
      refine ⟨ret_int ?_, (Below.refl _ _).alloc (Nat.le_refl _) _⟩
      rw [← Hr.out]
      go_light
      (try simp only [beq_iff_eq, bne_iff_ne, ne_eq, beq_eq_false_iff_ne, bne_eq_false_iff_eq, decide_eq_true_eq, decide_eq_false_iff_not] at *)
      (repeat' split) <;> omega
  · simp at hr
    have Hr := Lib.hid hr
    clear hr
    rw [show ((3 : Nat) : Int) = 3 from rfl]
    have h4 : ¬(64 < n ∨ 64 < n2 ∨ n = 0) → (if x = false then 4 else 0) = r := by
      intro q
      have e := Hr.out
      rw [if_neg (show ¬(64 < n ∨ 64 < n2) by omega)] at e
      rw [← e]
      have q0 : ¬n = 0 := by omega
      simp [q0]
    rcases (show (64 < n ∨ 64 < n2 ∨ n = 0) ∨ (n ≤ 64 ∧ n2 ≤ 64 ∧ n ≠ 0) by omega) with hn | hn
    · clear C1 h4
      go_enter Try.func32, Try.ntmps32
      go_wp2
      all_goals (try omega)
      all_goals
        go_ret
        refine ⟨ret_int ?_, (Below.refl _ _).alloc (Nat.le_refl _) _⟩
        rw [← Hr.out]
        go_light
        (try simp only [beq_iff_eq, bne_iff_ne, ne_eq, beq_eq_false_iff_ne, bne_eq_false_iff_eq, decide_eq_true_eq, decide_eq_false_iff_not] at *)
        (repeat' split) <;> omega
    have h5 := h4 (by omega)
    have t1 : decide ((64 : Int) < (n : Int)) = false := decide_eq_false (by omega)
    have t2 : decide ((64 : Int) < (n2 : Int)) = false := decide_eq_false (by omega)
    have t3 : ((n : Int) == 0) = false := by simp; omega
    clear h4 hn Hr
    go_enter Try.func32, Try.ntmps32
    go_wp2_with fail
    refine (C1.out _ ((Below.refl _ _).alloc (Nat.le_refl _) _)).mono ?_
    rintro e w' ⟨rfl, rfl⟩
    cases x
    all_goals
      simp at h5
      subst h5
      go_wp2
      go_ret
      exact ⟨rfl, (Below.refl _ _).alloc (Nat.le_refl _) _⟩
  · have e : r = 1 := by
      rw [← hr, if_pos (by omega)]
    subst e
    clear C1 hr
    go_enter Try.func32, Try.ntmps32
    rcases (show d < 1 ∨ 3 < d by omega) with q | q
    · have t1 : decide ((d : Int) < 1) = true := decide_eq_true (by omega)
      go_wp2
      go_ret
      exact ⟨rfl, (Below.refl _ _).alloc (Nat.le_refl _) _⟩
    · have t1 : decide ((d : Int) < 1) = false := decide_eq_false (by omega)
      have t2 : decide (3 < (d : Int)) = true := decide_eq_true (by omega)
      go_wp2
      go_ret
      exact ⟨rfl, (Below.refl _ _).alloc (Nat.le_refl _) _⟩
end Go.Proofs.Ytfonincdhjkacaa

namespace Go.Proofs.Ytfonincdhjkacaa
open Go.RowKit
set_option maxRecDepth 20000
set_option maxHeartbeats 4000000 in
theorem checkops_any (w : World) (p : Nat → Prop) (A : Option Addr) (n c : Nat) (ls : List OpL) (h : SlR w p A n c ls) :
    Calls Try.prog 33 #[.slice A n c] w fun e w' => e = .returned (.int .i64 (checkOpsL ls : Nat)) ∧ Below w.heap.size w w' := by
  have hl := h.lenR
  unfold checkOpsL
  rw [hl]
  rcases Nat.lt_or_ge 64 n with hn | hn
  · rw [if_pos hn]
    go_enter Try.func33, Try.ntmps33
    go_wp2
    go_ret
    exact ⟨rfl, Below.refl _ _⟩
  rw [if_neg (by omega)]
  obtain ⟨r, hr⟩ : ∃ r, firstErr checkOpL ls = r := ⟨_, rfl⟩
  rw [hr]
  have Hl := Lib.hid hl
  have Hr := Lib.hid hr
  clear hl hr
  go_enter Try.func33, Try.ntmps33
  go_wp2
  go_loopw [11] (fun q wr => ∃ j : Nat, j ≤ n ∧ q = .int .i64 j ∧ Below w.heap.size w wr ∧ Hid (firstErr checkOpL (ls.drop j) = r)) (fun q _ => n - (intOf q).toNat)
  case atStart => exact ⟨0, Nat.zero_le _, rfl, Below.refl _ _, Lib.hid Hr.out⟩
  case round =>
    obtain ⟨j, hj, rfl, hbr, He⟩ := hrel
    by_cases hlt : j < n
    · obtain ⟨b, o, x, cs, rfl, hx, ⟨v, v', rfl, hk, hv⟩, hcell⟩ := (h.below hbr).get hlt
      obtain ⟨A3, n3, c3, rfl, hs3, _⟩ := hk
      obtain ⟨A4, n4, c4, rfl, hs4, _⟩ := hv
      have d0 : wr.cell? ⟨b, o + j * 3, none⟩ = some (.int .u8 (x.kind.toNat : Int)) := hcell 0 _ rfl
      have d1 : wr.cell? ⟨b, o + j * 3 + 1, none⟩ = some (.slice A3 n3 c3) := hcell 1 _ rfl
      have d2 : wr.cell? ⟨b, o + j * 3 + 2, none⟩ = some (.slice A4 n4 c4) := hcell 2 _ rfl
      clear hcell
      have hxl := (List.getElem?_eq_some_iff.1 hx)
      obtain ⟨hjl, rfl⟩ := hxl
      have hst : firstErr checkOpL (ls.drop j) = if checkOpL ls[j] ≠ 0 then checkOpL ls[j] else firstErr checkOpL (ls.drop (j + 1)) := by
        rw [List.drop_eq_getElem_cons hjl]
        rfl
      rw [He.out] at hst
      have hck := fun (w' : World) (hb : Below wr.heap.size wr w') => checkop_any w' A3 n3 c3 A4 n4 c4 ls[j] (hs3.below (by omega) hb) (hs4.below (by omega) hb)
      generalize checkOpL ls[j] = e at *
      generalize ls[j].kind.toNat = d at *
      have Hst := Lib.hid hst
      have Hck := Lib.hid hck
      clear hst hck hs3 hs4 hx
      go_wp2_with fail
      have hal := (Below.refl wr.heap.size wr).alloc (Nat.le_refl _) (.cells #[.int .u8 (d : Int), .slice A3 n3 c3, .slice A4 n4 c4] 47)
      refine (Hck.out _ hal).mono ?_
      rintro e' w3 ⟨rfl, hb3⟩
      have hb4 := hbr.trans ((hal.trans (hb3.mono hal.size)).mono hbr.size)
      clear hal hb3 Hck d0 d1 d2 h
      rcases Nat.eq_zero_or_pos e with rfl | he
      · go_wp2
        go_roundw
        case rel => exact ⟨j + 1, by omega, by go_num, hb4, Lib.hid (by rw [Hst.out]; simp)⟩
        case measure => simp [intOf]; omega
      · have er : r = e := by rw [Hst.out, if_pos (by omega)]
        subst er
        have t1 : ((r : Int) == 0) = false := by simp; omega
        go_wp2
        go_ret
        exact ⟨rfl, hb4⟩
    · obtain rfl : n = j := by omega
      have e := He.out
      rw [List.drop_of_length_le (by have := Hl.out; omega)] at e
      obtain rfl : 0 = r := e
      go_wp2
      go_ret
      exact ⟨rfl, hbr⟩
set_option maxHeartbeats 4000000 in
theorem rcheckops_any (w : World) (p : Nat → Prop) (A : Option Addr) (n c : Nat) (ls : List OpL) (h : SlR w p A n c ls) :
    Calls Try.prog 34 #[.slice A n c] w fun e w' => e = .returned (.int .i64 (checkOpsL ls : Nat)) ∧ Below w.heap.size w w' := by
  have hl := h.lenR
  unfold checkOpsL
  rw [hl]
  rcases Nat.lt_or_ge 64 n with hn | hn
  · rw [if_pos hn]
    go_enter Try.func34, Try.ntmps34
    go_wp2
    go_ret
    exact ⟨rfl, Below.refl _ _⟩
  rw [if_neg (by omega)]
  obtain ⟨r, hr⟩ : ∃ r, firstErr checkOpL ls = r := ⟨_, rfl⟩
  rw [hr]
  have Hl := Lib.hid hl
  have Hr := Lib.hid hr
  clear hl hr
  go_enter Try.func34, Try.ntmps34
  go_wp2
  go_loopw [11] (fun q wr => ∃ j : Nat, j ≤ n ∧ q = .int .i64 j ∧ Below w.heap.size w wr ∧ Hid (firstErr checkOpL (ls.drop j) = r)) (fun q _ => n - (intOf q).toNat)
  case atStart => exact ⟨0, Nat.zero_le _, rfl, Below.refl _ _, Lib.hid Hr.out⟩
  case round =>
    obtain ⟨j, hj, rfl, hbr, He⟩ := hrel
    by_cases hlt : j < n
    · obtain ⟨b, o, x, cs, rfl, hx, ⟨v, v', rfl, hk, hv⟩, hcell⟩ := (h.below hbr).get hlt
      obtain ⟨A3, n3, c3, rfl, hs3, _⟩ := hk
      obtain ⟨A4, n4, c4, rfl, hs4, _⟩ := hv
      have d0 : wr.cell? ⟨b, o + j * 3, none⟩ = some (.int .u8 (x.kind.toNat : Int)) := hcell 0 _ rfl
      have d1 : wr.cell? ⟨b, o + j * 3 + 1, none⟩ = some (.slice A3 n3 c3) := hcell 1 _ rfl
      have d2 : wr.cell? ⟨b, o + j * 3 + 2, none⟩ = some (.slice A4 n4 c4) := hcell 2 _ rfl
      clear hcell
      have hxl := (List.getElem?_eq_some_iff.1 hx)
      obtain ⟨hjl, rfl⟩ := hxl
      have hst : firstErr checkOpL (ls.drop j) = if checkOpL ls[j] ≠ 0 then checkOpL ls[j] else firstErr checkOpL (ls.drop (j + 1)) := by
        rw [List.drop_eq_getElem_cons hjl]
        rfl
      rw [He.out] at hst
      have hck := fun (w' : World) (hb : Below wr.heap.size wr w') => rcheckop_any w' A3 n3 c3 A4 n4 c4 ls[j] (hs3.below (by omega) hb) (hs4.below (by omega) hb)
      generalize checkOpL ls[j] = e at *
      generalize ls[j].kind.toNat = d at *
      have Hst := Lib.hid hst
      have Hck := Lib.hid hck
      clear hst hck hs3 hs4 hx
      go_wp2_with fail
      have hal := (Below.refl wr.heap.size wr).alloc (Nat.le_refl _) (.cells #[.int .u8 (d : Int), .slice A3 n3 c3, .slice A4 n4 c4] 47)
      refine (Hck.out _ hal).mono ?_
      rintro e' w3 ⟨rfl, hb3⟩
      have hb4 := hbr.trans ((hal.trans (hb3.mono hal.size)).mono hbr.size)
      clear hal hb3 Hck d0 d1 d2 h
      rcases Nat.eq_zero_or_pos e with rfl | he
      · go_wp2
        go_roundw
        case rel => exact ⟨j + 1, by omega, by go_num, hb4, Lib.hid (by rw [Hst.out]; simp)⟩
        case measure => simp [intOf]; omega
      · have er : r = e := by rw [Hst.out, if_pos (by omega)]
        subst er
        have t1 : ((r : Int) == 0) = false := by simp; omega
        go_wp2
        go_ret
        exact ⟨rfl, hb4⟩
    · obtain rfl : n = j := by omega
      have e := He.out
      rw [List.drop_of_length_le (by have := Hl.out; omega)] at e
      obtain rfl : 0 = r := e
      go_wp2
      go_ret
      exact ⟨rfl, hbr⟩
end Go.Proofs.Ytfonincdhjkacaa

namespace Go.Proofs.Ytfonincdhjkacaa
open Go.RowKit
set_option maxRecDepth 20000
set_option maxHeartbeats 4000000 in
theorem covers_any (w : World) (A : Option Addr) (n c : Nat) (A2 : Option Addr) (n2 c2 : Nat) (o : OpL) (h : Sl w 1 A n c (bc o.key)) (h2 : Sl w 1 A2 n2 c2 (bc o.value)) (B : Option Addr) (m d : Nat) (key : List UInt8) (hk : Sl w 1 B m d (bc key)) :
    Calls Try.prog 79 #[.agg #[.int .u8 (o.kind.toNat : Int), .slice A n c, .slice A2 n2 c2], .slice B m d] w fun e w' => e = .returned (.bool (coversL o key)) ∧ Below w.heap.size w w' := by
  obtain ⟨x, hx⟩ : ∃ x, ltL key o.key = x := ⟨_, rfl⟩
  obtain ⟨y, hy⟩ : ∃ y, ltL key o.value = y := ⟨_, rfl⟩
  obtain ⟨z, hz⟩ : ∃ z, (o.key == key) = z := ⟨_, rfl⟩
  have c1 := fun (w' : World) (hb : Below w.heap.size w w') => less_is w' B m d key (hk.below (by omega) hb) A n c o.key (h.below (by omega) hb) x (Lib.hid hx)
  have c2 := fun (w' : World) (hb : Below w.heap.size w w') => less_is w' B m d key (hk.below (by omega) hb) A2 n2 c2 o.value (h2.below (by omega) hb) y (Lib.hid hy)
  have c3 := fun (w' : World) (hb : Below w.heap.size w w') => equal_is w' A n c o.key B m d key z (Lib.hid hz) (h.below (by omega) hb) (hk.below (by omega) hb)
  obtain ⟨r, hr⟩ : ∃ r, coversL o key = r := ⟨_, rfl⟩
  rw [hr]
  unfold coversL at hr
  rw [hx, hy, hz] at hr
  generalize o.kind.toNat = d at *
  have C1 := Lib.hid c1
  have C2 := Lib.hid c2
  have C3 := Lib.hid c3
  clear c1 c2 c3 hx hy hz h h2 hk
  have hbb := (Below.refl w.heap.size w).alloc (Nat.le_refl _) (.cells #[.int .u8 (d : Int), .slice A n c, .slice A2 n2 c2] 47)
  rcases (show d = 3 ∨ d ≠ 3 by omega) with rfl | hd
  · rw [if_pos rfl] at hr
    have Hr := Lib.hid hr
    clear hr C3
    rw [show ((3 : Nat) : Int) = 3 from rfl] at hbb ⊢
    go_enter Try.func79, Try.ntmps79
    go_wp2_with fail
    refine (C1.out _ hbb).mono ?_
    rintro e w' ⟨rfl, rfl⟩
    cases x
    · go_wp2_with fail
      refine (C2.out _ hbb).mono ?_
      rintro e w' ⟨rfl, rfl⟩
      go_wp2
      go_ret
      refine ⟨ret_bool ?_, hbb⟩
      rw [← Hr.out]
      cases y <;> rfl
    · go_wp2
      go_ret
      exact ⟨ret_bool Hr.out, hbb⟩
  · rw [if_neg hd] at hr
    subst hr
    have hd' : ((d : Int) == 3) = false := by simp; omega
    clear C1 C2 hd
    go_enter Try.func79, Try.ntmps79
    go_wp2_with fail
    refine (C3.out _ hbb).mono ?_
    rintro e w' ⟨rfl, rfl⟩
    go_wp2
    go_ret
    exact ⟨rfl, hbb⟩
set_option maxHeartbeats 4000000 in
theorem rcovers_any (w : World) (A : Option Addr) (n c : Nat) (A2 : Option Addr) (n2 c2 : Nat) (o : OpL) (h : Sl w 1 A n c (bc o.key)) (h2 : Sl w 1 A2 n2 c2 (bc o.value)) (B : Option Addr) (m d : Nat) (key : List UInt8) (hk : Sl w 1 B m d (bc key)) :
    Calls Try.prog 39 #[.agg #[.int .u8 (o.kind.toNat : Int), .slice A n c, .slice A2 n2 c2], .slice B m d] w fun e w' => e = .returned (.bool (coversL o key)) ∧ Below w.heap.size w w' := by
  obtain ⟨x, hx⟩ : ∃ x, ltL key o.key = x := ⟨_, rfl⟩
  obtain ⟨y, hy⟩ : ∃ y, ltL key o.value = y := ⟨_, rfl⟩
  obtain ⟨z, hz⟩ : ∃ z, (o.key == key) = z := ⟨_, rfl⟩
  have c1 := fun (w' : World) (hb : Below w.heap.size w w') => rless_is w' B m d key (hk.below (by omega) hb) A n c o.key (h.below (by omega) hb) x (Lib.hid hx)
  have c2 := fun (w' : World) (hb : Below w.heap.size w w') => rless_is w' B m d key (hk.below (by omega) hb) A2 n2 c2 o.value (h2.below (by omega) hb) y (Lib.hid hy)
  have c3 := fun (w' : World) (hb : Below w.heap.size w w') => same_is w' A n c o.key B m d key z (Lib.hid hz) (h.below (by omega) hb) (hk.below (by omega) hb)
  obtain ⟨r, hr⟩ : ∃ r, coversL o key = r := ⟨_, rfl⟩
  rw [hr]
  unfold coversL at hr
  rw [hx, hy, hz] at hr
  generalize o.kind.toNat = d at *
  have C1 := Lib.hid c1
  have C2 := Lib.hid c2
  have C3 := Lib.hid c3
  clear c1 c2 c3 hx hy hz h h2 hk
  have hbb := (Below.refl w.heap.size w).alloc (Nat.le_refl _) (.cells #[.int .u8 (d : Int), .slice A n c, .slice A2 n2 c2] 47)
  rcases (show d = 3 ∨ d ≠ 3 by omega) with rfl | hd
  · rw [if_pos rfl] at hr
    have Hr := Lib.hid hr
    clear hr C3
    rw [show ((3 : Nat) : Int) = 3 from rfl] at hbb ⊢
    go_enter Try.func39, Try.ntmps39
    go_wp2_with fail
    refine (C1.out _ hbb).mono ?_
    rintro e w' ⟨rfl, rfl⟩
    cases x
    · go_wp2_with fail
      refine (C2.out _ hbb).mono ?_
      rintro e w' ⟨rfl, rfl⟩
      go_wp2
      go_ret
      refine ⟨ret_bool ?_, hbb⟩
      rw [← Hr.out]
      cases y <;> rfl
    · go_wp2
      go_ret
      exact ⟨ret_bool Hr.out, hbb⟩
  · rw [if_neg hd] at hr
    subst hr
    have hd' : ((d : Int) == 3) = false := by simp; omega
    clear C1 C2 hd
    go_enter Try.func39, Try.ntmps39
    go_wp2_with fail
    refine (C3.out _ hbb).mono ?_
    rintro e w' ⟨rfl, rfl⟩
    go_wp2
    go_ret
    exact ⟨rfl, hbb⟩
end Go.Proofs.Ytfonincdhjkacaa

namespace Go.Proofs.Ytfonincdhjkacaa
open Go.RowKit
set_option maxRecDepth 20000
theorem Bk.ownT {w : World} {B : Nat} {e e' : TypeId} {A : Option Addr} {n c : Nat} {l : List UInt8} (hne : e ≠ e') (h : Own w B e 1 A n c (bc l)) : Bk w (NotTy w e') (.slice A n c) l := by
  refine ⟨A, n, c, rfl, h.sl, fun b hn hb cur fr hh => ?_⟩
  obtain ⟨g, o, cur', rfl, _, hh', _⟩ := h.row (by have := h.cap; omega)
  simp at hb
  subst hb
  rw [hh'] at hh
  simp at hh
  exact hne hh.2.1
theorem few_step (ls : List OpL) (k j : Nat) (hj : j < ls.length) : fewOps (ls.take (j + 1)) k = if j < k then fewOps (ls.take j) k ++ [cutOp ls[j]] else fewOps (ls.take j) k := by
  unfold fewOps
  split
  · rw [List.take_take, List.take_take, Nat.min_eq_right (show j + 1 ≤ k by omega), Nat.min_eq_right (show j ≤ k by omega), List.take_succ_eq_append_getElem hj, List.map_append]
    rfl
  · rw [List.take_take, List.take_take, Nat.min_eq_left (by omega), Nat.min_eq_left (by omega)]
theorem infoOp : (Try.prog.info? 47).map (fun i => (i.zero, i.size, i.bytes)) = some (some (.agg #[.int .u8 0, .slice none 0 0, .slice none 0 0]), 3, 56) := by kernel_rfl
set_option maxHeartbeats 8000000 in
theorem fewops_any (w : World) (p : Nat → Prop) (A : Option Addr) (n c : Nat) (ls : List OpL) (k : Nat) (h : SlR w p A n c ls) (hk : k ≤ 1000) :
    Calls Try.prog 30 #[.slice A n c, .int .i64 (k : Int)] w fun e w' => ∃ A' n' c', e = .returned (.slice A' n' c') ∧ OwnR w' w.heap.size 47 A' n' c' (fewOps ls k) ∧ Below w.heap.size w w' := by
  have hcp := h.cap
  unfold maxLen at hcp
  have hl := h.lenR
  have Hl := Lib.hid hl
  clear hl
  go_enter Try.func30, Try.ntmps30
  go_wp2
  go_loopw [5, 10] (fun s q wr => ∃ j : Nat, j ≤ n ∧ q = .int .i64 j ∧ Below w.heap.size w wr ∧ ∃ A2 n2 c2, s = .slice A2 n2 c2 ∧ OwnR wr w.heap.size 47 A2 n2 c2 (fewOps (ls.take j) k)) (fun _ q _ => n - (intOf q).toNat)
  case atStart => exact ⟨0, Nat.zero_le _, rfl, Below.refl _ _, none, 0, 0, rfl, (show fewOps (ls.take 0) k = [] from by simp [fewOps]) ▸ OwnR.nil _ _ _ _⟩
  case round =>
    obtain ⟨j, hj, rfl, hbr, A2, n2, c2, rfl, ho2⟩ := hrel
    by_cases hlt : j < n
    · obtain ⟨b, o, x, cs, rfl, hx, ⟨v, v', rfl, hk', hv⟩, hcell⟩ := (h.below hbr).get hlt
      obtain ⟨A3, n3, c3, rfl, hs3, _⟩ := hk'
      obtain ⟨A4, n4, c4, rfl, hs4, _⟩ := hv
      have d0 : wr.cell? ⟨b, o + j * 3, none⟩ = some (.int .u8 (x.kind.toNat : Int)) := hcell 0 _ rfl
      have d1 : wr.cell? ⟨b, o + j * 3 + 1, none⟩ = some (.slice A3 n3 c3) := hcell 1 _ rfl
      have d2 : wr.cell? ⟨b, o + j * 3 + 2, none⟩ = some (.slice A4 n4 c4) := hcell 2 _ rfl
      clear hcell
      obtain ⟨hjl, rfl⟩ := List.getElem?_eq_some_iff.1 hx
      have hst := few_step ls k j hjl
      have hcut : cutOp ls[j] = ⟨ls[j].kind, ls[j].key.take 80, ls[j].value.take 600⟩ := rfl
      rw [hcut] at hst
      have hn2 : n2 ≤ 1000 := by
        have h1 := ho2.lenR
        unfold fewOps at h1
        rw [List.length_map, List.length_take] at h1
        omega
      clear hcut hx
      generalize ls[j].kind = d at *
      generalize ls[j].key = y at *
      generalize ls[j].value = z at *
      have Hst := Lib.hid hst
      clear hst
      by_cases hjk : j < k
      · have hjk' : decide ((j : Int) < (k : Int)) = true := decide_eq_true (by omega)
        have hst := Hst.out
        rw [if_pos hjk] at hst
        have Hst := Lib.hid hst
        clear hst
        have hlt2 : ∀ b, blk A2 c2 = some b → w.heap.size ≤ b ∧ b < wr.heap.size := by
          obtain ⟨xs2, hO2, _⟩ := ho2
          exact fun b e => Own.lt hO2 b e
        have al := (Below.refl wr.heap.size wr).alloc (Nat.le_refl _) (.cells #[.int .u8 (d.toNat : Int), .slice A3 n3 c3, .slice A4 n4 c4] 47)
        have kB := Bx.fresh wr (.int .u8 (d.toNat : Int)) (.slice A3 n3 c3) (.slice A4 n4 c4) 47
        have hs3 := hs3.below (by omega) al
        have hs4 := hs4.below (by omega) al
        have ho2 := ho2.below al
        have hbr := hbr.trans (al.mono hbr.size)
        go_wp2_with fail
        clear d0 d1 d2 al
        generalize hW : (wr.alloc (.cells #[.int .u8 (d.toNat : Int), .slice A3 n3 c3, .slice A4 n4 c4] 47)) = w1 at *
        generalize hG : wr.heap.size = g at *
        have kB := kB.drew
        have hs3 := hs3.drew
        have hs4 := hs4.drew
        have ho2 := OwnR.below ho2 (below_drew (Below.refl _ _))
        have hbr := hbr.drew
        refine regionS 13 (fun w' => Bx w' g (.int .u8 (d.toNat : Int)) (.slice A3 n3 c3) (.slice A4 n4 c4)) (by kernel_rfl) ?_
        try (change AnyS _ _ _ _ _ _ _ _ _ (World.drew _))
        generalize w1.drew = w2 at *
        refine takeS (i := 0) (v := ?_) rfl (by kernel_rfl) (by kernel_rfl) (by kernel_rfl) (by kernel_rfl) (by kernel_rfl) (fun _ _ _ h => h) (Or.inl ⟨by kernel_rfl, ?_⟩) kB ?_
        case refine_2 =>
          intro wS hSw
          clear hSw
          go_simp
          try with_reducible rfl
        try simp only [List.getElem_toArray, List.getElem_cons_succ, List.getElem_cons_zero, Act.put, List.setIfInBounds_toArray, List.set_cons_zero, List.set_cons_succ]
        refine takeS (i := 1) (v := ?_) rfl (by kernel_rfl) (by kernel_rfl) (by kernel_rfl) (by kernel_rfl) (by kernel_rfl) (fun _ _ _ h => h) (Or.inl ⟨by kernel_rfl, ?_⟩) kB ?_
        case refine_2 =>
          intro wS hSw
          clear hSw
          go_simp
          try with_reducible rfl
        try simp only [List.getElem_toArray, List.getElem_cons_succ, List.getElem_cons_zero, Act.put, List.setIfInBounds_toArray, List.set_cons_zero, List.set_cons_succ]
        refine takeS (i := 2) (v := ?_) rfl (by kernel_rfl) (by kernel_rfl) (by kernel_rfl) (by kernel_rfl) (by kernel_rfl) (fun _ _ _ h => h) (Or.inl ⟨by kernel_rfl, ?_⟩) kB ?_
        case refine_2 =>
          intro wS hSw
          obtain ⟨x0, x1, x2, x3⟩ := hSw
          go_simp
          try with_reducible rfl
        try simp only [List.getElem_toArray, List.getElem_cons_succ, List.getElem_cons_zero, Act.put, List.setIfInBounds_toArray, List.set_cons_zero, List.set_cons_succ]
        refine takeS (i := 3) (v := ?_) rfl (by kernel_rfl) (by kernel_rfl) (by kernel_rfl) (by kernel_rfl) (by kernel_rfl) (fun _ _ _ h => h) (Or.inl ⟨by kernel_rfl, ?_⟩) kB ?_
        case refine_2 =>
          intro wS hSw
          clear hSw
          go_simp
          try with_reducible rfl
        try simp only [List.getElem_toArray, List.getElem_cons_succ, List.getElem_cons_zero, Act.put, List.setIfInBounds_toArray, List.set_cons_zero, List.set_cons_succ]
        refine takeS (i := 4) (v := ?_) rfl (by kernel_rfl) (by kernel_rfl) (by kernel_rfl) (by kernel_rfl) (by kernel_rfl) (fun _ _ _ h => h) (Or.inl ⟨by kernel_rfl, ?_⟩) kB ?_
        case refine_2 =>
          intro wS hSw
          obtain ⟨x0, x1, x2, x3⟩ := hSw
          go_simp
          try with_reducible rfl
        try simp only [List.getElem_toArray, List.getElem_cons_succ, List.getElem_cons_zero, Act.put, List.setIfInBounds_toArray, List.set_cons_zero, List.set_cons_succ]
        refine takeS (i := 6) (v := ?_) rfl (by kernel_rfl) (by kernel_rfl) (by kernel_rfl) (by kernel_rfl) (by kernel_rfl) (fun _ _ _ h => h) (Or.inl ⟨by kernel_rfl, ?_⟩) kB ?_
        case refine_2 =>
          intro wS hSw
          clear hSw
          go_simp
          try with_reducible rfl
        try simp only [List.getElem_toArray, List.getElem_cons_succ, List.getElem_cons_zero, Act.put, List.setIfInBounds_toArray, List.set_cons_zero, List.set_cons_succ]
        refine takeS (i := 7) (v := ?_) rfl (by kernel_rfl) (by kernel_rfl) (by kernel_rfl) (by kernel_rfl) (by kernel_rfl) (fun _ _ _ h => h) (Or.inl ⟨by kernel_rfl, ?_⟩) kB ?_
        case refine_2 =>
          intro wS hSw
          obtain ⟨x0, x1, x2, x3⟩ := hSw
          go_simp
          try with_reducible rfl
        try simp only [List.getElem_toArray, List.getElem_cons_succ, List.getElem_cons_zero, Act.put, List.setIfInBounds_toArray, List.set_cons_zero, List.set_cons_succ]
        refine readyS (i := 5) (by kernel_rfl) rfl (fun K hK => ?_)
        go_simp
        refine (cut_any _ A3 n3 c3 y 80 hs3 (by omega)).mono ?_
        rintro e w3 ⟨A5, n5, c5, rfl, ho5, hb5⟩
        refine hK _ _ (kB.below hb5) ?_
        clear hK K
        have kB := kB.below hb5
        have hs4 := hs4.below (by omega) hb5
        have ho2 := ho2.below hb5
        have hbr := hbr.trans (hb5.mono hbr.size)
        refine readyS (i := 8) (by kernel_rfl) rfl (fun K hK => ?_)
        go_simp
        refine (cut_any _ A4 n4 c4 z 600 hs4 (by omega)).mono ?_
        rintro e w4 ⟨A6, n6, c6, rfl, ho6, hb6⟩
        refine hK _ _ (kB.below hb6) ?_
        clear hK K
        have kB := kB.below hb6
        have ho5 := Own.below ho5 hb6
        have ho2 := ho2.below hb6
        have hbr := hbr.trans (hb6.mono hbr.size)
        refine takeS (i := 9) (v := ?_) rfl (by kernel_rfl) (by kernel_rfl) (by kernel_rfl) (by kernel_rfl) (by kernel_rfl) (fun _ _ _ h => h) (Or.inl ⟨by kernel_rfl, ?_⟩) kB ?_
        case refine_2 =>
          intro wS hSw
          clear hSw
          go_simp
          try with_reducible rfl
        try simp only [List.getElem_toArray, List.getElem_cons_succ, List.getElem_cons_zero, Act.put, List.setIfInBounds_toArray, List.set_cons_zero, List.set_cons_succ]
        refine readyS (i := 10) (by kernel_rfl) rfl (fun K hK => ?_)
        go_simp
        refine hK _ _ (kB.below ((Below.refl _ _).alloc (Nat.le_refl _) _)) ?_
        clear hK K
        have al2 := (Below.refl w4.heap.size w4).alloc (Nat.le_refl _) (.cells #[.int .u8 (d.toNat : Int), .slice A5 n5 c5, .slice A6 n6 c6] 47)
        have kB := kB.below al2
        have ho2 := ho2.below al2
        have ho5 := Own.below ho5 al2
        have ho6 := Own.below ho6 al2
        have hbr := hbr.trans (al2.mono hbr.size)
        have hlit : Sl (w4.alloc (.cells #[.int .u8 (d.toNat : Int), .slice A5 n5 c5, .slice A6 n6 c6] 47)) 3 (some ⟨w4.heap.size, 0, none⟩) 1 1 [.int .u8 (d.toNat : Int), .slice A5 n5 c5, .slice A6 n6 c6] := ⟨rfl, Nat.le_refl _, by unfold maxLen; omega, fun _ => ⟨w4.heap.size, 0, rfl, fun j u hu => by rw [cell_of_row _ _ _ _ _ _ (heap_alloc_new w4 _)]; simpa using hu⟩⟩
        clear al2
        generalize (w4.alloc (.cells #[.int .u8 (d.toNat : Int), .slice A5 n5 c5, .slice A6 n6 c6] 47)) = w5 at *
        have hrow : RowC w5 (NotTy w5 47) [.int .u8 (d.toNat : Int), .slice A5 n5 c5, .slice A6 n6 c6] [(⟨d, y.take 80, z.take 600⟩ : OpL)] := RowC.single ⟨_, _, rfl, Bk.ownT (by decide) ho5, Bk.ownT (by decide) ho6⟩
        refine readyS (i := 11) (by kernel_rfl) rfl (fun K hK => ?_)
        refine step_appR (α := OpL) (by rfl) (.tmp 18) (.tmp 28) 24 (by rfl) w.heap.size 47 _ 56 Try.underlying24 infoOp rfl A2 n2 c2 _ (by rfl) ho2 _ _ 1 1 _ (by rfl) ⟨_, hlit, hrow⟩ (fun b _ h => .inr h) (by unfold maxLen; omega) (by omega) hbr.size ?_
        intro A7 c7 w6 ho7 hg7 hx7
        have hne : blk A2 c2 ≠ some g := fun e => by have := (hlt2 _ e).2; omega
        have kB7 := Bx.grownO kB hg7 hne
        refine hK _ _ kB7 ?_
        clear hK K
        have hb7 := hbr.grown hg7 hbr.size (fun b hb => (hlt2 b hb).1)
        refine takeS (i := 12) (v := ?_) rfl (by kernel_rfl) (by kernel_rfl) (by kernel_rfl) (by kernel_rfl) (by kernel_rfl) (fun _ _ _ h => h) (Or.inl ⟨by kernel_rfl, ?_⟩) kB7 ?_
        case refine_2 =>
          intro wS hSw
          clear hSw
          go_simp
          try with_reducible rfl
        try simp only [List.getElem_toArray, List.getElem_cons_succ, List.getElem_cons_zero, Act.put, List.setIfInBounds_toArray, List.set_cons_zero, List.set_cons_succ]
        refine doneS (by kernel_rfl) ?_ _
        try simp only [List.getElem_toArray, List.getElem_cons_succ, List.getElem_cons_zero, Act.put, List.setIfInBounds_toArray, List.set_cons_zero, List.set_cons_succ]
        go_wp2
        go_roundw
        case rel => exact ⟨j + 1, by omega, by go_num, hb7, A7, _, c7, rfl, by rw [Hst.out]; exact ho7⟩
        case measure => simp [intOf]; omega
      · have hjk' : decide ((j : Int) < (k : Int)) = false := decide_eq_false (by omega)
        have hst := Hst.out
        rw [if_neg hjk] at hst
        have al := (Below.refl wr.heap.size wr).alloc (Nat.le_refl _) (.cells #[.int .u8 (d.toNat : Int), .slice A3 n3 c3, .slice A4 n4 c4] 47)
        have ho2 := ho2.below al
        have hbr := hbr.trans (al.mono hbr.size)
        have Hst := Lib.hid hst
        clear hst al hs3 hs4
        go_wp2
        go_roundw
        case rel => exact ⟨j + 1, by omega, by go_num, hbr, A2, n2, c2, rfl, by rw [Hst.out]; exact ho2⟩
        case measure => simp [intOf]; omega
    · obtain rfl : n = j := by omega
      rw [List.take_of_length_le (by have := Hl.out; omega)] at ho2
      go_wp2
      go_ret
      exact ⟨A2, n2, c2, rfl, ho2, hbr⟩
end Go.Proofs.Ytfonincdhjkacaa

namespace Go.Proofs.Ytfonincdhjkacaa
open Go.RowKit
set_option maxRecDepth 20000
/-- an op whose bytes are the call's own -/
def GotOp (w : World) (x : OpL) (e : Ending) (w' : World) : Prop :=
  ∃ A3 n3 c3 A4 n4 c4, e = .returned (.agg #[.int .u8 (x.kind.toNat : Int), .slice A3 n3 c3, .slice A4 n4 c4]) ∧ OwnB w' w.heap.size A3 n3 c3 x.key ∧ OwnB w' w.heap.size A4 n4 c4 x.value ∧ Below w.heap.size w w'
set_option maxHeartbeats 8000000 in
theorem one_any (w : World) (A3 : Option Addr) (n3 c3 : Nat) (A4 : Option Addr) (n4 c4 : Nat) (x : OpL) (hs3 : Sl w 1 A3 n3 c3 (bc x.key)) (hs4 : Sl w 1 A4 n4 c4 (bc x.value)) (hn3 : n3 ≤ 10000) (hn4 : n4 ≤ 10000) :
    Calls Try.prog 80 #[.agg #[.int .u8 (x.kind.toNat : Int), .slice A3 n3 c3, .slice A4 n4 c4]] w (GotOp w x) := by
  unfold GotOp
  generalize x.kind = d at *
  generalize x.key = y at *
  generalize x.value = z at *
  go_enter Try.func80, Try.ntmps80
  go_wp2_with fail
  have al := (Below.refl w.heap.size w).alloc (Nat.le_refl _) (.cells #[.int .u8 (d.toNat : Int), .slice A3 n3 c3, .slice A4 n4 c4] 47)
  have kB := Bx.fresh w (.int .u8 (d.toNat : Int)) (.slice A3 n3 c3) (.slice A4 n4 c4) 47
  have hs3 := hs3.below (by omega) al
  have hs4 := hs4.below (by omega) al
  have e1 : (w.alloc (.cells #[.int .u8 (d.toNat : Int), .slice A3 n3 c3, .slice A4 n4 c4] 47)).heap.size = w.heap.size + 1 := by simp
  generalize (w.alloc (.cells #[.int .u8 (d.toNat : Int), .slice A3 n3 c3, .slice A4 n4 c4] 47)) = w1 at *
  have al1 := (Below.refl w1.heap.size w1).alloc (Nat.le_refl _) (.cells #[.int .u8 0, .slice none 0 0, .slice none 0 0] 47)
  have kC := Bx.fresh w1 (.int .u8 0) (.slice none 0 0) (.slice none 0 0) 47
  rw [e1] at kC
  have kB := kB.below al1
  have hs3 := hs3.below (by omega) al1
  have hs4 := hs4.below (by omega) al1
  have hbr := al.trans (al1.mono al.size)
  generalize (w1.alloc (.cells #[.int .u8 0, .slice none 0 0, .slice none 0 0] 47)) = w2 at *
  clear al al1
  have kB := kB.drew
  have kC := kC.drew
  have hs3 := hs3.drew
  have hs4 := hs4.drew
  have hbr := hbr.drew
  refine regionS 10 (fun w' => Bx w' w.heap.size (.int .u8 (d.toNat : Int)) (.slice A3 n3 c3) (.slice A4 n4 c4)) (by kernel_rfl) ?_
  try (change AnyS _ _ _ _ _ _ _ _ _ (World.drew _))
  generalize w2.drew = w3 at *
  have hlt3 := kC.lt
  refine takeS (i := 0) (v := ?_) rfl (by kernel_rfl) (by kernel_rfl) (by kernel_rfl) (by kernel_rfl) (by kernel_rfl) (fun _ _ _ h => h) (Or.inl ⟨by kernel_rfl, ?_⟩) kB ?_
  case refine_2 =>
    intro wS hSw
    clear hSw
    go_simp
    try with_reducible rfl
  try simp only [List.getElem_toArray, List.getElem_cons_succ, List.getElem_cons_zero, Act.put, List.setIfInBounds_toArray, List.set_cons_zero, List.set_cons_succ]
  refine takeS (i := 1) (v := ?_) rfl (by kernel_rfl) (by kernel_rfl) (by kernel_rfl) (by kernel_rfl) (by kernel_rfl) (fun _ _ _ h => h) (Or.inl ⟨by kernel_rfl, ?_⟩) kB ?_
  case refine_2 =>
    intro wS hSw
    obtain ⟨x0, x1, x2, x3⟩ := hSw
    go_simp
    try with_reducible rfl
  try simp only [List.getElem_toArray, List.getElem_cons_succ, List.getElem_cons_zero, Act.put, List.setIfInBounds_toArray, List.set_cons_zero, List.set_cons_succ]
  refine takeS (i := 2) (v := ?_) rfl (by kernel_rfl) (by kernel_rfl) (by kernel_rfl) (by kernel_rfl) (by kernel_rfl) (fun _ _ _ h => h) (Or.inl ⟨by kernel_rfl, ?_⟩) kB ?_
  case refine_2 =>
    intro wS hSw
    clear hSw
    go_simp
    try with_reducible rfl
  try simp only [List.getElem_toArray, List.getElem_cons_succ, List.getElem_cons_zero, Act.put, List.setIfInBounds_toArray, List.set_cons_zero, List.set_cons_succ]
  refine takeS (i := 3) (v := ?_) rfl (by kernel_rfl) (by kernel_rfl) (by kernel_rfl) (by kernel_rfl) (by kernel_rfl) (fun _ _ _ h => h) (Or.inl ⟨by kernel_rfl, ?_⟩) kB ?_
  case refine_2 =>
    intro wS hSw
    obtain ⟨x0, x1, x2, x3⟩ := hSw
    go_simp
    try with_reducible rfl
  try simp only [List.getElem_toArray, List.getElem_cons_succ, List.getElem_cons_zero, Act.put, List.setIfInBounds_toArray, List.set_cons_zero, List.set_cons_succ]
  refine takeS (i := 5) (v := ?_) rfl (by kernel_rfl) (by kernel_rfl) (by kernel_rfl) (by kernel_rfl) (by kernel_rfl) (fun _ _ _ h => h) (Or.inl ⟨by kernel_rfl, ?_⟩) kB ?_
  case refine_2 =>
    intro wS hSw
    clear hSw
    go_simp
    try with_reducible rfl
  try simp only [List.getElem_toArray, List.getElem_cons_succ, List.getElem_cons_zero, Act.put, List.setIfInBounds_toArray, List.set_cons_zero, List.set_cons_succ]
  refine takeS (i := 6) (v := ?_) rfl (by kernel_rfl) (by kernel_rfl) (by kernel_rfl) (by kernel_rfl) (by kernel_rfl) (fun _ _ _ h => h) (Or.inl ⟨by kernel_rfl, ?_⟩) kB ?_
  case refine_2 =>
    intro wS hSw
    obtain ⟨x0, x1, x2, x3⟩ := hSw
    go_simp
    try with_reducible rfl
  try simp only [List.getElem_toArray, List.getElem_cons_succ, List.getElem_cons_zero, Act.put, List.setIfInBounds_toArray, List.set_cons_zero, List.set_cons_succ]
  refine readyS (i := 4) (by kernel_rfl) rfl (fun K hK => ?_)
  go_simp
  refine (clone_any _ A3 n3 c3 _ hs3 (by omega)).mono ?_
  rintro e w4 ⟨A5, n5, c5, rfl, ho5, hb4⟩
  refine hK _ _ (kB.below hb4) ?_
  clear hK K
  have kB := kB.below hb4
  have kC := kC.below hb4
  have hbr := hbr.trans (hb4.mono hbr.size)
  have hs4 := hs4.below (by omega) hb4
  clear hb4
  have hlt4 := kC.lt
  refine readyS (i := 7) (by kernel_rfl) rfl (fun K hK => ?_)
  go_simp
  refine (clone_any _ A4 n4 c4 _ hs4 (by omega)).mono ?_
  rintro e w4 ⟨A6, n6, c6, rfl, ho6, hb4⟩
  refine hK _ _ (kB.below hb4) ?_
  clear hK K
  have kB := kB.below hb4
  have kC := kC.below hb4
  have hbr := hbr.trans (hb4.mono hbr.size)
  have ho5 := Own.below ho5 hb4
  refine takeS (i := 8) (v := ?_) rfl (by kernel_rfl) (by kernel_rfl) (by kernel_rfl) (by kernel_rfl) (by kernel_rfl) (fun _ _ _ h => h) (Or.inl ⟨by kernel_rfl, ?_⟩) kB ?_
  case refine_2 =>
    intro wS hSw
    clear hSw
    go_simp
    try with_reducible rfl
  try simp only [List.getElem_toArray, List.getElem_cons_succ, List.getElem_cons_zero, Act.put, List.setIfInBounds_toArray, List.set_cons_zero, List.set_cons_succ]
  refine readyS (i := 9) (by kernel_rfl) rfl (fun K hK => ?_)
  obtain ⟨y0, y1, y2, y3⟩ := id kC
  go_simp
  obtain ⟨kD, hg⟩ := Bx.set (v0 := .int .u8 (d.toNat : Int)) (v1 := .slice A5 n5 c5) (v2 := .slice A6 n6 c6) kC rfl
  refine hK _ _ (kB.grown hg (by omega)) ?_
  clear hK K
  refine doneS (by kernel_rfl) ?_ _
  try simp only [List.getElem_toArray, List.getElem_cons_succ, List.getElem_cons_zero, Act.put, List.setIfInBounds_toArray, List.set_cons_zero, List.set_cons_succ]
  have hb9 := hbr.grown hg hbr.size (fun b hb => by simp at hb; omega)
  have ho5 := own_set (own_set (own_set ho5 (g := w.heap.size + 1) (j := 0) hlt3 (.int .u8 (d.toNat : Int))) (g := w.heap.size + 1) (j := 1) hlt3 (.slice A5 n5 c5)) (g := w.heap.size + 1) (j := 2) hlt3 (.slice A6 n6 c6)
  have ho6 := own_set (own_set (own_set ho6 (g := w.heap.size + 1) (j := 0) hlt4 (.int .u8 (d.toNat : Int))) (g := w.heap.size + 1) (j := 1) hlt4 (.slice A5 n5 c5)) (g := w.heap.size + 1) (j := 2) hlt4 (.slice A6 n6 c6)
  obtain ⟨y0, y1, y2, y3⟩ := kD
  go_wp2
  refine bodyPost_ret (v := .agg #[.int .u8 (d.toNat : Int), .slice A5 n5 c5, .slice A6 n6 c6]) (by simp [results, Try.results80, go_sem, y0, y1, y2]) rfl ?_
  exact ⟨A5, n5, c5, A6, n6, c6, rfl, Own.mono ho5 (by omega), Own.mono ho6 (by omega), hb9⟩
end Go.Proofs.Ytfonincdhjkacaa

namespace Go.Proofs.Ytfonincdhjkacaa
open Go.RowKit
set_option maxRecDepth 20000
def noOp : OpL := ⟨0, [], []⟩
/-- an op that a call gives back, and whether there is one -/
def GotOver (w : World) (r : Option OpL) (e : Ending) (w' : World) : Prop :=
  ∃ A3 n3 c3 A4 n4 c4, e = .returned (.tuple #[.agg #[.int .u8 ((r.getD noOp).kind.toNat : Int), .slice A3 n3 c3, .slice A4 n4 c4], .bool r.isSome]) ∧ Sl w' 1 A3 n3 c3 (bc (r.getD noOp).key) ∧ Sl w' 1 A4 n4 c4 (bc (r.getD noOp).value) ∧ Below w.heap.size w w'
set_option maxHeartbeats 8000000 in
theorem over_any (w : World) (p : Nat → Prop) (A : Option Addr) (n c : Nat) (ls : List OpL) (h : SlR w p A n c ls) (hz : ∀ o ∈ ls, o.key.length ≤ 10000 ∧ o.value.length ≤ 10000) (B : Option Addr) (m d : Nat) (key : List UInt8) (hk : Sl w 1 B m d (bc key)) :
    Calls Try.prog 35 #[.slice A n c, .slice B m d] w (GotOver w (overL ls key)) := by
  have hcp := h.cap
  unfold maxLen at hcp
  have hl := h.lenR
  have Hl := Lib.hid hl
  have Hcp := Lib.hid hcp
  have Hz := Lib.hid hz
  clear hl hcp hz
  have al := (Below.refl w.heap.size w).alloc (Nat.le_refl _) (.cells #[.int .u8 0, .slice none 0 0, .slice none 0 0] 47)
  have kC := Bx.fresh w (.int .u8 0) (.slice none 0 0) (.slice none 0 0) 47
  have h1 := h.below al
  have hk1 := hk.below (by omega) al
  have ew : wrap64 ((n : Int) - 1) = (n : Int) - 1 := by have := Hcp.out; unfold wrap64; omega
  go_enter Try.func35, Try.ntmps35
  go_wp2
  try rw [ew]
  try simp only [ew]
  clear ew
  generalize (w.alloc (.cells #[.int .u8 0, .slice none 0 0, .slice none 0 0] 47)) = w1 at *
  go_loopw [5, 6] (fun s q wr => s = .bool false ∧ ∃ j : Nat, j ≤ n ∧ q = .int .i64 ((j : Int) - 1) ∧ Below w1.heap.size w1 wr ∧ Hid (overL ls key = overL (ls.take j) key)) (fun _ q _ => (intOf q + 1).toNat)
  case atStart => exact ⟨rfl, n, Nat.le_refl _, rfl, Below.refl _ _, Lib.hid (by rw [List.take_of_length_le (by have := Hl.out; omega)])⟩
  case round =>
    obtain ⟨rfl, j, hj, rfl, hbr, Hov⟩ := hrel
    have kC := kC.below hbr
    have q1 := al.trans (hbr.mono al.size)
    have h1z := kC.lt
    rcases j with _ | k
    · have hov : overL ls key = none := by rw [Hov.out]; rfl
      have Hov2 := Lib.hid hov
      rw [show ((0 : Nat) : Int) - 1 = -1 from rfl]
      obtain ⟨y0, y1, y2, y3⟩ := id kC
      obtain ⟨kD, hg⟩ := Bx.set (v0 := .int .u8 0) (v1 := .slice none 0 0) (v2 := .slice none 0 0) kC rfl
      clear hov hk1 h1 h hk
      go_wp2
      obtain ⟨z0, z1, z2, _⟩ := kD
      refine bodyPost_ret (v := .tuple #[.agg #[.int .u8 0, .slice none 0 0, .slice none 0 0], .bool false]) (by simp [results, Try.results35, go_sem, z0, z1, z2]) rfl ?_
      rw [Hov2.out]
      exact ⟨none, 0, 0, none, 0, 0, rfl, sl_none _, sl_none _, q1.grown hg q1.size (fun b hb => by simp at hb; omega)⟩
    · have hlt : k < n := by omega
      rw [show ((k + 1 : Nat) : Int) - 1 = (k : Int) by omega]
      have hk2 := hk1.below (by omega) hbr
      obtain ⟨b, o, A3, n3, c3, A4, n4, c4, hjl, rfl, d0, d1, d2, hs3, hs4⟩ := (h1.below hbr).opAt hlt
      have hov := over_snoc (ls.take k) ls[k] key
      rw [← List.take_succ_eq_append_getElem hjl, ← Hov.out] at hov
      have hzk := Hz.out _ (List.getElem_mem hjl)
      rw [hs3.lenb, hs4.lenb] at hzk
      have cv := covers_any wr A3 n3 c3 A4 n4 c4 ls[k] hs3 hs4 B m d key hk2
      have co := fun (w' : World) (hb : Below wr.heap.size wr w') => one_any w' A3 n3 c3 A4 n4 c4 ls[k] (hs3.below (by omega) hb) (hs4.below (by omega) hb) hzk.1 hzk.2
      unfold GotOp at co
      generalize hcv : coversL ls[k] key = v at *
      generalize hd : ls[k].kind.toNat = dd at *
      have Hov2 := Lib.hid hov
      have Hd := Lib.hid hd
      have Co := Lib.hid co
      have Cv := Lib.hid cv
      have Hjl := Lib.hid hjl
      clear hov hd co cv hs3 hs4 hk2 hzk hk1 hcv
      go_wp2_with fail
      refine Cv.out.mono ?_
      rintro e w3 ⟨rfl, hb3⟩
      have q3 := hbr.trans (hb3.mono hbr.size)
      cases v
      · have hov := Hov2.out
        simp only [Bool.false_eq_true, if_false] at hov
        have Hov3 := Lib.hid hov
        clear hov
        have ek : wrap64 ((k : Int) - 1) = (k : Int) - 1 := by have := Hcp.out; unfold wrap64; omega
        go_wp2
        go_roundw
        case rel => exact ⟨rfl, k, by omega, by first | rfl | (rw [ek]), q3, Hov3⟩
        case measure => simp [intOf]; omega
      · have hov := Hov2.out
        simp only [if_true] at hov
        have Hov3 := Lib.hid hov
        have d0 := stays hb3 d0
        have d1 := stays hb3 d1
        have d2 := stays hb3 d2
        have kC := kC.below hb3
        clear hov
        go_wp2_with fail
        refine (Co.out _ hb3).mono ?_
        rintro e w5 ⟨A5, n5, c5, A6, n6, c6, rfl, ho5, ho6, hb5⟩
        have q5 := q3.trans (hb5.mono q3.size)
        have q6 := al.trans (q5.mono al.size)
        have kC := kC.below hb5
        obtain ⟨y0, y1, y2, y3⟩ := id kC
        obtain ⟨kD, hg⟩ := Bx.set (v0 := .int .u8 (dd : Int)) (v1 := .slice A5 n5 c5) (v2 := .slice A6 n6 c6) kC rfl
        have hz3 := q3.size
        have hz1 := al.size
        have hgw : w.heap.size < w3.heap.size := by have := h1z; have := hb3.size; omega
        clear d0 d1 d2
        go_wp2
        obtain ⟨z0, z1, z2, _⟩ := kD
        refine bodyPost_ret (v := .tuple #[.agg #[.int .u8 (dd : Int), .slice A5 n5 c5, .slice A6 n6 c6], .bool true]) (by simp [results, Try.results35, go_sem, z0, z1, z2]) rfl ?_
        rw [Hov3.out]
        refine ⟨A5, n5, c5, A6, n6, c6, by rw [← Hd.out]; rfl, ?_, ?_, q6.grown hg q6.size (fun b hb => by simp at hb; omega)⟩
        · exact (Own.grown ho5 hg (fun b hb e => by have := (Own.lt ho5 b hb).1; simp at e; omega)).sl
        · exact (Own.grown ho6 hg (fun b hb e => by have := (Own.lt ho6 b hb).1; simp at e; omega)).sl
end Go.Proofs.Ytfonincdhjkacaa

namespace Go.Proofs.Ytfonincdhjkacaa
open Go.RowKit
set_option maxRecDepth 20000
theorem ajoin_of {w : World} {A : Option Addr} {n c : Nat} {l : List UInt8} (h : Calls Try.prog 104 #[.slice A n c, .slice none 0 0] w (NewB w l)) : Calls Try.prog 67 #[.slice A n c] w (NewB w l) := by
  have H := Lib.hid h
  clear h
  go_enter Try.func67, Try.ntmps67
  go_wp2_with fail
  refine H.out.mono ?_
  rintro e w1 ⟨A1, n1, c1, rfl, ho, hb⟩
  go_wp2
  go_ret
  exact ⟨A1, n1, c1, rfl, ho, hb⟩
set_option maxHeartbeats 8000000 in
theorem bbytes_any (w : World) (p : Nat → Prop) (A : Option Addr) (n c : Nat) (ls : List OpL) (h : SlR w p A n c ls) :
    Calls Try.prog 44 #[.slice A n c] w (GotBE w (opsBE ls).1 (opsBE ls).2) := by
  have hcp := h.cap
  unfold maxLen at hcp
  have hl := h.lenR
  have ck := checkops_any w p A n c ls h
  have Hl := Lib.hid hl
  by_cases hq : checkOpsL ls = 0
  case neg =>
    have e : opsBE ls = ([], checkOpsL ls) := by unfold opsBE; rw [if_neg hq]
    rw [e]
    generalize checkOpsL ls = q at *
    have hq1 : ((q : Int) == 0) = false := by rw [beq_eq_false_iff_ne]; omega
    have hq2 : ((q : Int) != 0) = true := by rw [bne_iff_ne]; omega
    have Ck := Lib.hid ck
    clear ck hq hl h
    go_enter Try.func44, Try.ntmps44
    go_wp2_with fail
    refine Ck.out.mono ?_
    rintro e w1 ⟨rfl, hb1⟩
    go_wp2
    go_ret2
    exact ⟨none, 0, 0, rfl, Own.nil _ _ _ _ _, hb1⟩
  have e : opsBE ls = (opsBytesL ls, 0) := by unfold opsBE; rw [if_pos hq]
  have hbd := checkOps_bounds hq
  rw [e]
  rw [hq] at ck
  have hn64 : n ≤ 64 := by omega
  have hfl := opFlat_le ls hbd.2
  have Hfl := Lib.hid hfl
  have Hbd := Lib.hid hbd
  have Ck := Lib.hid ck
  clear ck hq hfl hbd e hl
  have cn := fun w' => num_any n w' (by omega)
  have Cn := Lib.hid cn
  clear cn
  go_enter Try.func44, Try.ntmps44
  go_wp2_with fail
  refine Ck.out.mono ?_
  rintro e w1 ⟨rfl, hb1⟩
  go_wp2_with fail
  refine (Cn.out _).mono ?_
  rintro e w2 ⟨A1, n1, c1, rfl, ho1, hb2⟩
  have q2 := hb1.trans (hb2.mono hb1.size)
  have hlit : Own (w2.alloc (.cells #[.slice A1 n1 c1] 23)) w.heap.size 23 1 (some ⟨w2.heap.size, 0, none⟩) 1 1 [.slice A1 n1 c1] := Own.lit w2 _ _ 1 _ _ q2.size rfl (by unfold maxLen; omega) rfl
  have al := (Below.refl w2.heap.size w2).alloc (Nat.le_refl _) (.cells #[.slice A1 n1 c1] 23)
  have ho1' := Own.below ho1 al
  have hrow : OwnR (w2.alloc (.cells #[.slice A1 n1 c1] 23)) w.heap.size 23 (some ⟨w2.heap.size, 0, none⟩) 1 1 (partsL n (ls.take 0)) := ⟨_, hlit, RowC.single ⟨_, rfl, (Bk.ownT (e' := 23) (by decide) ho1').move fun b hb hp => ⟨rfl, .inr hp⟩⟩⟩
  have q3 := q2.trans (al.mono q2.size)
  go_wp2
  generalize (w2.alloc (.cells #[.slice A1 n1 c1] 23)) = w3 at *
  clear hlit ho1 ho1' al
  go_loopw [5, 20] (fun s q wr => ∃ j : Nat, j ≤ n ∧ q = .int .i64 j ∧ Below w.heap.size w wr ∧ ∃ A2 n2 c2, s = .slice A2 n2 c2 ∧ OwnR wr w.heap.size 23 A2 n2 c2 (partsL n (ls.take j))) (fun _ q _ => n - (intOf q).toNat)
  case atStart => exact ⟨0, Nat.zero_le _, rfl, q3, _, 1, 1, rfl, hrow⟩
  case round =>
    obtain ⟨j, hj, rfl, hbr, A2, n2, c2, rfl, ho2⟩ := hrel
    by_cases hlt : j < n
    · obtain ⟨b, o, A3, n3, c3, A4, n4, c4, hjl, rfl, d0, d1, d2, hs3, hs4⟩ := h.opAt hlt
      have d0 := stays hbr d0
      have d1 := stays hbr d1
      have d2 := stays hbr d2
      have hzj := Hbd.out.2 _ (List.getElem_mem hjl)
      have hk256 := ls[j].kind.toNat_lt
      have hfj := opFlat_le (ls.take j) (fun x hx => Hbd.out.2 x (List.mem_of_mem_take hx))
      have hlj : (ls.take j).length ≤ 64 := by rw [List.length_take]; omega
      have hst : partsL n (ls.take (j + 1)) = partsL n (ls.take j) ++ [numL ls[j].kind.toNat, textL ls[j].key, textL ls[j].value] := by rw [List.take_succ_eq_append_getElem hjl, partsL_snoc]
      have hlen : n2 ≤ 200 := by have h1 := ho2.lenR; rw [partsL_len] at h1; omega
      have c1 := fun w' => num_any ls[j].kind.toNat w' (by omega)
      have c2 := fun w' (hb : Below w.heap.size w w') => text_any w' A3 n3 c3 ls[j].key (hs3.below (by omega) hb) (by rw [hs3.lenb] at hzj; omega)
      have c3' := fun w' (hb : Below w.heap.size w w') => text_any w' A4 n4 c4 ls[j].value (hs4.below (by omega) hb) (by rw [hs4.lenb] at hzj; omega)
      have t1 := numL_le ls[j].kind.toNat
      have t2 := textL_le ls[j].key
      have t3 := textL_le ls[j].value
      have t4 := hzj.1
      have t5 := hzj.2.1
      generalize numL ls[j].kind.toNat = a1 at *
      generalize textL ls[j].key = a2 at *
      generalize textL ls[j].value = a3 at *
      generalize ls[j].key.length = k1 at *
      generalize ls[j].value.length = k2 at *
      generalize ls[j].kind.toNat = d at *
      have C1 := Lib.hid c1
      have C2 := Lib.hid c2
      have C3 := Lib.hid c3'
      have Hst := Lib.hid hst
      have T1 := Lib.hid t1
      have T2 := Lib.hid t2
      have T3 := Lib.hid t3
      have T4 := Lib.hid t4
      have T5 := Lib.hid t5
      have Hlen := Lib.hid hlen
      have hwr : IntKind.u64.wrap (d : Int) = (d : Int) := by rw [IntKind.wrap_u64]; omega
      clear c1 c2 c3' hst t1 t2 t3 t4 t5 hs3 hs4 hzj hfj hlj hlen hk256
      have hlt2 : ∀ b, blk A2 c2 = some b → w.heap.size ≤ b ∧ b < wr.heap.size := by
        obtain ⟨xs2, hO2, _⟩ := ho2
        exact fun b e => Own.lt hO2 b e
      have al := (Below.refl wr.heap.size wr).alloc (Nat.le_refl _) (.cells #[.int .u8 (d : Int), .slice A3 n3 c3, .slice A4 n4 c4] 47)
      have kB := Bx.fresh wr (.int .u8 (d : Int)) (.slice A3 n3 c3) (.slice A4 n4 c4) 47
      have ho2 := OwnR.below ho2 al
      have hbr := hbr.trans (al.mono hbr.size)
      go_wp2_with fail
      clear d0 d1 d2 al
      generalize hW : (wr.alloc (.cells #[.int .u8 (d : Int), .slice A3 n3 c3, .slice A4 n4 c4] 47)) = wa at *
      generalize hG : wr.heap.size = g at *
      have kB := kB.drew
      have ho2 := OwnR.below ho2 (below_drew (Below.refl _ _))
      have hbr := hbr.drew
      refine regionS 14 (fun w' => Bx w' g (.int .u8 (d : Int)) (.slice A3 n3 c3) (.slice A4 n4 c4)) (by kernel_rfl) ?_
      try (change AnyS _ _ _ _ _ _ _ _ _ (World.drew _))
      generalize wa.drew = wb at *
      refine takeS (i := 0) (v := ?_) rfl (by kernel_rfl) (by kernel_rfl) (by kernel_rfl) (by kernel_rfl) (by kernel_rfl) (fun _ _ _ h => h) (Or.inl ⟨by kernel_rfl, ?_⟩) kB ?_
      case refine_2 =>
        intro wS hSw
        clear hSw
        go_simp
        try with_reducible rfl
      try simp only [List.getElem_toArray, List.getElem_cons_succ, List.getElem_cons_zero, Act.put, List.setIfInBounds_toArray, List.set_cons_zero, List.set_cons_succ]
      refine takeS (i := 1) (v := ?_) rfl (by kernel_rfl) (by kernel_rfl) (by kernel_rfl) (by kernel_rfl) (by kernel_rfl) (fun _ _ _ h => h) (Or.inl ⟨by kernel_rfl, ?_⟩) kB ?_
      case refine_2 =>
        intro wS hSw
        clear hSw
        go_simp
        try with_reducible rfl
      try simp only [List.getElem_toArray, List.getElem_cons_succ, List.getElem_cons_zero, Act.put, List.setIfInBounds_toArray, List.set_cons_zero, List.set_cons_succ]
      refine takeS (i := 2) (v := ?_) rfl (by kernel_rfl) (by kernel_rfl) (by kernel_rfl) (by kernel_rfl) (by kernel_rfl) (fun _ _ _ h => h) (Or.inl ⟨by kernel_rfl, ?_⟩) kB ?_
      case refine_2 =>
        intro wS hSw
        obtain ⟨x0, x1, x2, x3⟩ := hSw
        go_simp
        try with_reducible rfl
      try simp only [List.getElem_toArray, List.getElem_cons_succ, List.getElem_cons_zero, Act.put, List.setIfInBounds_toArray, List.set_cons_zero, List.set_cons_succ]
      refine takeS (i := 3) (v := ?_) rfl (by kernel_rfl) (by kernel_rfl) (by kernel_rfl) (by kernel_rfl) (by kernel_rfl) (fun _ _ _ h => h) (Or.inl ⟨by kernel_rfl, ?_⟩) kB ?_
      case refine_2 =>
        intro wS hSw
        clear hSw
        go_simp
        try with_reducible rfl
      try simp only [List.getElem_toArray, List.getElem_cons_succ, List.getElem_cons_zero, Act.put, List.setIfInBounds_toArray, List.set_cons_zero, List.set_cons_succ]
      refine takeS (i := 5) (v := ?_) rfl (by kernel_rfl) (by kernel_rfl) (by kernel_rfl) (by kernel_rfl) (by kernel_rfl) (fun _ _ _ h => h) (Or.inl ⟨by kernel_rfl, ?_⟩) kB ?_
      case refine_2 =>
        intro wS hSw
        clear hSw
        go_simp
        try with_reducible rfl
      try simp only [List.getElem_toArray, List.getElem_cons_succ, List.getElem_cons_zero, Act.put, List.setIfInBounds_toArray, List.set_cons_zero, List.set_cons_succ]
      refine takeS (i := 6) (v := ?_) rfl (by kernel_rfl) (by kernel_rfl) (by kernel_rfl) (by kernel_rfl) (by kernel_rfl) (fun _ _ _ h => h) (Or.inl ⟨by kernel_rfl, ?_⟩) kB ?_
      case refine_2 =>
        intro wS hSw
        obtain ⟨x0, x1, x2, x3⟩ := hSw
        go_simp
        try with_reducible rfl
      try simp only [List.getElem_toArray, List.getElem_cons_succ, List.getElem_cons_zero, Act.put, List.setIfInBounds_toArray, List.set_cons_zero, List.set_cons_succ]
      refine takeS (i := 8) (v := ?_) rfl (by kernel_rfl) (by kernel_rfl) (by kernel_rfl) (by kernel_rfl) (by kernel_rfl) (fun _ _ _ h => h) (Or.inl ⟨by kernel_rfl, ?_⟩) kB ?_
      case refine_2 =>
        intro wS hSw
        clear hSw
        go_simp
        try with_reducible rfl
      try simp only [List.getElem_toArray, List.getElem_cons_succ, List.getElem_cons_zero, Act.put, List.setIfInBounds_toArray, List.set_cons_zero, List.set_cons_succ]
      refine takeS (i := 9) (v := ?_) rfl (by kernel_rfl) (by kernel_rfl) (by kernel_rfl) (by kernel_rfl) (by kernel_rfl) (fun _ _ _ h => h) (Or.inl ⟨by kernel_rfl, ?_⟩) kB ?_
      case refine_2 =>
        intro wS hSw
        obtain ⟨x0, x1, x2, x3⟩ := hSw
        go_simp
        try with_reducible rfl
      try simp only [List.getElem_toArray, List.getElem_cons_succ, List.getElem_cons_zero, Act.put, List.setIfInBounds_toArray, List.set_cons_zero, List.set_cons_succ]
      refine readyS (i := 4) (by kernel_rfl) rfl (fun K hK => ?_)
      go_simp
      refine (C1.out _).mono ?_
      rintro e w4 ⟨A5, n5, c5, rfl, ho5, hb4⟩
      refine hK _ _ (kB.below hb4) ?_
      clear hK K
      have kB := kB.below hb4
      have ho2 := OwnR.below ho2 hb4
      have hbr := hbr.trans (hb4.mono hbr.size)
      clear hb4
      refine readyS (i := 7) (by kernel_rfl) rfl (fun K hK => ?_)
      go_simp
      refine (C2.out _ hbr).mono ?_
      rintro e w4 ⟨A6, n6, c6, rfl, ho6, hb4⟩
      refine hK _ _ (kB.below hb4) ?_
      clear hK K
      have kB := kB.below hb4
      have ho2 := OwnR.below ho2 hb4
      have hbr := hbr.trans (hb4.mono hbr.size)
      have ho5 := Own.below ho5 hb4
      clear hb4
      refine readyS (i := 10) (by kernel_rfl) rfl (fun K hK => ?_)
      go_simp
      refine (C3.out _ hbr).mono ?_
      rintro e w4 ⟨A7, n7, c7, rfl, ho7, hb4⟩
      refine hK _ _ (kB.below hb4) ?_
      clear hK K
      have kB := kB.below hb4
      have ho2 := OwnR.below ho2 hb4
      have hbr := hbr.trans (hb4.mono hbr.size)
      have ho5 := Own.below ho5 hb4
      have ho6 := Own.below ho6 hb4
      clear hb4
      refine readyS (i := 11) (by kernel_rfl) rfl (fun K hK => ?_)
      go_simp
      refine hK _ _ (kB.below ((Below.refl _ _).alloc (Nat.le_refl _) _)) ?_
      clear hK K
      have al2 := (Below.refl w4.heap.size w4).alloc (Nat.le_refl _) (.cells #[.slice A5 n5 c5, .slice A6 n6 c6, .slice A7 n7 c7] 23)
      have kB := kB.below al2
      have ho2 := ho2.below al2
      have ho5 := Own.below ho5 al2
      have ho6 := Own.below ho6 al2
      have ho7 := Own.below ho7 al2
      have hbr := hbr.trans (al2.mono hbr.size)
      have hlit : Sl (w4.alloc (.cells #[.slice A5 n5 c5, .slice A6 n6 c6, .slice A7 n7 c7] 23)) 1 (some ⟨w4.heap.size, 0, none⟩) 3 3 [.slice A5 n5 c5, .slice A6 n6 c6, .slice A7 n7 c7] := Sl.lit w4 _ _ 3 _ _ rfl (by unfold maxLen; omega) rfl
      clear al2
      generalize (w4.alloc (.cells #[.slice A5 n5 c5, .slice A6 n6 c6, .slice A7 n7 c7] 23)) = w5 at *
      have hrow : RowC w5 (NotTy w5 23) [.slice A5 n5 c5, .slice A6 n6 c6, .slice A7 n7 c7] [a1, a2, a3] := ⟨[_], _, rfl, ⟨_, rfl, Bk.ownT (by decide) ho5⟩, ⟨[_], _, rfl, ⟨_, rfl, Bk.ownT (by decide) ho6⟩, RowC.single ⟨_, rfl, Bk.ownT (by decide) ho7⟩⟩⟩
      refine readyS (i := 12) (by kernel_rfl) rfl (fun K hK => ?_)
      refine step_appR (α := List UInt8) (by rfl) (.tmp 24) (.tmp 35) 116 (by rfl) w.heap.size 23 _ 24 Try.underlying116 infoP rfl A2 n2 c2 _ (by rfl) ho2 _ _ 3 3 _ (by rfl) ⟨_, hlit, hrow⟩ (fun b _ h => .inr h) (by unfold maxLen; have := Hlen.out; omega) (by have := Hlen.out; omega) hbr.size ?_
      intro A8 c8 w6 ho8 hg8 hx8
      have hne : blk A2 c2 ≠ some g := fun e => by have := (hlt2 _ e).2; omega
      have kB8 := Bx.grownO kB hg8 hne
      refine hK _ _ kB8 ?_
      clear hK K
      have hb8 := hbr.grown hg8 hbr.size (fun b hb => (hlt2 b hb).1)
      refine takeS (i := 13) (v := ?_) rfl (by kernel_rfl) (by kernel_rfl) (by kernel_rfl) (by kernel_rfl) (by kernel_rfl) (fun _ _ _ h => h) (Or.inl ⟨by kernel_rfl, ?_⟩) kB8 ?_
      case refine_2 =>
        intro wS hSw
        clear hSw
        go_simp
        try with_reducible rfl
      try simp only [List.getElem_toArray, List.getElem_cons_succ, List.getElem_cons_zero, Act.put, List.setIfInBounds_toArray, List.set_cons_zero, List.set_cons_succ]
      refine doneS (by kernel_rfl) ?_ _
      try simp only [List.getElem_toArray, List.getElem_cons_succ, List.getElem_cons_zero, Act.put, List.setIfInBounds_toArray, List.set_cons_zero, List.set_cons_succ]
      go_wp2
      go_roundw
      case rel => exact ⟨j + 1, by omega, by go_num, hb8, A8, _, c8, rfl, by rw [Hst.out]; exact ho8⟩
      case measure => simp [intOf]; omega
    · obtain rfl : n = j := by omega
      rw [List.take_of_length_le (by have := Hl.out; omega)] at ho2
      have hn2 := ho2.lenR
      rw [partsL_len, Hl.out] at hn2
      obtain ⟨vs, hsl, hpo⟩ := ho2.parts
      have cj := join_any wr A2 n2 c2 vs _ hsl hpo (by omega) (by rw [partsL_flat, List.length_append]; have := numL_le n; have := Hfl.out; have := Hl.out; omega)
      rw [partsL_flat, show numL n ++ (ls.map opBytesL).flatten = opsBytesL ls by unfold opsBytesL; rw [Hl.out]] at cj
      have ca := ajoin_of cj
      have Cj := Lib.hid ca
      clear cj ca hsl hpo
      go_wp2_with fail
      refine Cj.out.mono ?_
      rintro e w9 ⟨A9, n9, c9, rfl, ho9, hb9⟩
      go_wp2
      go_ret2
      exact ⟨A9, n9, c9, rfl, Own.mono ho9 hbr.size, hbr.trans (hb9.mono hbr.size)⟩
end Go.Proofs.Ytfonincdhjkacaa

namespace Go.Proofs.Ytfonincdhjkacaa
open Go.RowKit
set_option maxRecDepth 20000
theorem lit1 (w : World) (x : UInt8) : Sl (w.alloc (.cells #[.int .u8 (x.toNat : Int)] 5 (1, 2))) 1 (some ⟨w.heap.size, 0, none⟩) 1 1 (bc [x]) ∧ Below w.heap.size w (w.alloc (.cells #[.int .u8 (x.toNat : Int)] 5 (1, 2))) ∧ (w.alloc (.cells #[.int .u8 (x.toNat : Int)] 5 (1, 2))).heap.size = w.heap.size + 1 :=
  ⟨Sl.lit w _ _ 1 _ _ rfl (by unfold maxLen; omega) rfl, (Below.refl w.heap.size w).alloc (Nat.le_refl _) _, by simp⟩
theorem bk_lt {w : World} {A : Option Addr} {n c : Nat} {l : List UInt8} (h : Sl w 1 A n c (bc l)) : Bk w (· < w.heap.size) (.slice A n c) l := ⟨A, n, c, rfl, h, fun b hn e => h.lt (by omega) hn b e⟩
theorem opsRow1 (w : World) : ∃ W : World, W = (((w.alloc (.cells #[.int .u8 97] 5 (1, 2))).alloc (.cells #[.int .u8 120] 5 (1, 2))).alloc (.cells #[.int .u8 2, .slice (some ⟨w.heap.size, 0, none⟩) 1 1, .slice (some ⟨w.heap.size + 1, 0, none⟩) 1 1] 47)) ∧
    Below w.heap.size w W ∧ SlR W (fun _ => True) (some ⟨w.heap.size + 1 + 1, 0, none⟩) 1 1 [(⟨2, [97], [120]⟩ : OpL)] := by
  obtain ⟨s1, b1, z1⟩ := lit1 w 97
  rw [show (((97 : UInt8).toNat : Nat) : Int) = 97 from rfl] at s1 b1 z1
  generalize (w.alloc (.cells #[.int .u8 97] 5 (1, 2))) = w1 at *
  obtain ⟨s2, b2, z2⟩ := lit1 w1 120
  rw [show (((120 : UInt8).toNat : Nat) : Int) = 120 from rfl] at s2 b2 z2
  have s1 := s1.below (by omega) b2
  rw [z1] at s2 z2
  generalize (w1.alloc (.cells #[.int .u8 120] 5 (1, 2))) = w2 at *
  have b := b1.trans (b2.mono b1.size)
  refine ⟨_, rfl, b.alloc b.size _, ?_⟩
  have := SlR.lit (α := OpL) (w := w2) 47 (0, 0) 1 #[.int .u8 2, .slice (some ⟨w.heap.size, 0, none⟩) 1 1, .slice (some ⟨w.heap.size + 1, 0, none⟩) 1 1] _ [⟨2, [97], [120]⟩] rfl (RowC.single ⟨_, _, rfl, bk_lt s1, bk_lt s2⟩) rfl (by unfold maxLen; omega)
  rw [z2] at this
  exact this.mono fun _ _ _ => trivial
theorem opsRow2 (w : World) : ∃ W : World, W = (((((w.alloc (.cells #[.int .u8 98] 5 (1, 2))).alloc (.cells #[.int .u8 97] 5 (1, 2))).alloc (.cells #[.int .u8 99] 5 (1, 2))).alloc (.cells #[.int .u8 2, .slice (some ⟨w.heap.size, 0, none⟩) 1 1, .slice none 0 0, .int .u8 3, .slice (some ⟨w.heap.size + 1, 0, none⟩) 1 1, .slice (some ⟨w.heap.size + 1 + 1, 0, none⟩) 1 1] 47)).alloc (.cells #[.int .u8 98] 5 (1, 2))) ∧
    Below w.heap.size w W ∧ SlR W (fun _ => True) (some ⟨w.heap.size + 1 + 1 + 1, 0, none⟩) 2 2 [(⟨2, [98], []⟩ : OpL), ⟨3, [97], [99]⟩] ∧ Sl W 1 (some ⟨w.heap.size + 1 + 1 + 1 + 1, 0, none⟩) 1 1 (bc [98]) := by
  obtain ⟨s1, b1, z1⟩ := lit1 w 98
  rw [show (((98 : UInt8).toNat : Nat) : Int) = 98 from rfl] at s1 b1 z1
  generalize (w.alloc (.cells #[.int .u8 98] 5 (1, 2))) = w1 at *
  obtain ⟨s2, b2, z2⟩ := lit1 w1 97
  rw [show (((97 : UInt8).toNat : Nat) : Int) = 97 from rfl] at s2 b2 z2
  have s1 := s1.below (by omega) b2
  rw [z1] at s2 z2
  generalize (w1.alloc (.cells #[.int .u8 97] 5 (1, 2))) = w2 at *
  have b := b1.trans (b2.mono b1.size)
  obtain ⟨s3, b3, z3⟩ := lit1 w2 99
  rw [show (((99 : UInt8).toNat : Nat) : Int) = 99 from rfl] at s3 b3 z3
  have s1 := s1.below (by omega) b3
  have s2 := s2.below (by omega) b3
  rw [z2] at s3 z3
  generalize (w2.alloc (.cells #[.int .u8 99] 5 (1, 2))) = w3 at *
  have b := b.trans (b3.mono b.size)
  have hr := SlR.lit (α := OpL) (w := w3) 47 (0, 0) 2 #[.int .u8 2, .slice (some ⟨w.heap.size, 0, none⟩) 1 1, .slice none 0 0, .int .u8 3, .slice (some ⟨w.heap.size + 1, 0, none⟩) 1 1, .slice (some ⟨w.heap.size + 1 + 1, 0, none⟩) 1 1] _ [⟨2, [98], []⟩, ⟨3, [97], [99]⟩] rfl
    (⟨[_, _, _], _, rfl, ⟨_, _, rfl, bk_lt s1, bk_lt (sl_none _)⟩, RowC.single ⟨_, _, rfl, bk_lt s2, bk_lt s3⟩⟩) rfl (by unfold maxLen; omega)
  rw [z3] at hr
  have b4 := b.alloc b.size (.cells #[.int .u8 2, .slice (some ⟨w.heap.size, 0, none⟩) 1 1, .slice none 0 0, .int .u8 3, .slice (some ⟨w.heap.size + 1, 0, none⟩) 1 1, .slice (some ⟨w.heap.size + 1 + 1, 0, none⟩) 1 1] 47)
  have z4 : (w3.alloc (.cells #[.int .u8 2, .slice (some ⟨w.heap.size, 0, none⟩) 1 1, .slice none 0 0, .int .u8 3, .slice (some ⟨w.heap.size + 1, 0, none⟩) 1 1, .slice (some ⟨w.heap.size + 1 + 1, 0, none⟩) 1 1] 47)).heap.size = w.heap.size + 1 + 1 + 1 + 1 := by simp [z3]
  generalize (w3.alloc (.cells #[.int .u8 2, .slice (some ⟨w.heap.size, 0, none⟩) 1 1, .slice none 0 0, .int .u8 3, .slice (some ⟨w.heap.size + 1, 0, none⟩) 1 1, .slice (some ⟨w.heap.size + 1 + 1, 0, none⟩) 1 1] 47)) = w4 at *
  obtain ⟨s5, b5, z5⟩ := lit1 w4 98
  rw [show (((98 : UInt8).toNat : Nat) : Int) = 98 from rfl] at s5 b5 z5
  rw [z4] at s5
  exact ⟨_, rfl, b4.trans (b5.mono b4.size), (hr.below b5).mono fun _ _ _ => trivial, s5⟩
theorem constK (w : World) (C : Array Value) (n c k : Nat) (h : w.heap.size = k) : (convert 23 23 (.slice (some ⟨k, 0, none⟩) n c)).run Try.prog (w.alloc (.cells C 5)) = .ok (.slice (some ⟨k, 0, none⟩) n c) (w.alloc (.cells C 5 (C.size, C.size + 1))) := by
  subst h
  exact Lib.run_convert_bytes_const (P := Try.prog) w 23 5 C n c Try.underlying23 Try.underlying5
set_option maxHeartbeats 4000000 in
theorem awake04 (w : World) : Calls Try.prog 29 #[] w fun e w' => e = .returned (.bool true) ∧ Below w.heap.size w w' := by
  have k0 := fun w C n c => constK w C n c _ rfl
  have k1 := fun (w : World) o C n c => constK (w.alloc o) C n c (w.heap.size + 1) (by simp)
  have k2 := fun (w : World) o o' C n c => constK ((w.alloc o).alloc o') C n c (w.heap.size + 1 + 1) (by simp)
  have k4 := fun (w : World) o o' o'' o3 C n c => constK ((((w.alloc o).alloc o').alloc o'').alloc o3) C n c (w.heap.size + 1 + 1 + 1 + 1) (by simp)
  go_enter Try.func29, Try.ntmps29
  go_wp2_with fail
  obtain ⟨W, hW, hb0, hs⟩ := opsRow1 w
  rw [← hW]
  refine (bbytes_any W _ _ 1 1 _ hs).mono ?_
  rw [show opsBE [⟨2, [97], [120]⟩] = ([1, 2, 1, 97, 1, 120], 0) by decide]
  rintro e w1 ⟨A1, n1, c1, rfl, ho1, hb1⟩
  have q1 := hb0.trans (hb1.mono hb0.size)
  have h1 := OwnB.sl ho1
  clear hW hs hb0 hb1 ho1
  go_wp2_with fail
  obtain ⟨W2, hW2, hb2, hs2, hk2⟩ := opsRow2 w1
  rw [← hW2]
  have h1 := h1.below (by omega) hb2
  have q2 := q1.trans (hb2.mono q1.size)
  clear hb2
  refine (over_any W2 _ _ 2 2 _ hs2 (by decide) _ 1 1 _ hk2).mono ?_
  rw [show overL [⟨2, [98], []⟩, ⟨3, [97], [99]⟩] [98] = some ⟨3, [97], [99]⟩ by decide]
  rintro e w3 ⟨A3, n3, c3, A4, n4, c4, rfl, h3, h4, hb3⟩
  have h1 := h1.below (by omega) hb3
  have q3 := q2.trans (hb3.mono q2.size)
  rw [show (((Option.some (⟨3, [97], [99]⟩ : OpL)).getD noOp).kind.toNat : Int) = 3 from rfl, show (Option.some (⟨3, [97], [99]⟩ : OpL)).isSome = true from rfl]
  clear hW2 hs2 hk2 hb3 h3 h4
  have al := (Below.refl w3.heap.size w3).alloc (Nat.le_refl _) (.cells #[.int .u8 3, .slice A3 n3 c3, .slice A4 n4 c4] 47)
  have kB := Bx.fresh w3 (.int .u8 3) (.slice A3 n3 c3) (.slice A4 n4 c4) 47
  have h1 := h1.below (by omega) al
  have q4 := q3.trans (al.mono q3.size)
  go_wp2_with fail
  clear al
  have z4 : (w3.alloc (.cells #[.int .u8 3, .slice A3 n3 c3, .slice A4 n4 c4] 47)).heap.size = w3.heap.size + 1 := by simp
  generalize (w3.alloc (.cells #[.int .u8 3, .slice A3 n3 c3, .slice A4 n4 c4] 47)) = w4 at *
  have hlit : Sl (w4.alloc (.cells #[.int .u8 1, .int .u8 2, .int .u8 1, .int .u8 97, .int .u8 1, .int .u8 120] 5)) 1 (some ⟨w4.heap.size, 0, none⟩) 6 6 (bc [1, 2, 1, 97, 1, 120]) :=
    Sl.lit w4 _ _ 6 _ _ rfl (by unfold maxLen; omega) rfl
  have al := (Below.refl w4.heap.size w4).alloc (Nat.le_refl _) (.cells #[.int .u8 1, .int .u8 2, .int .u8 1, .int .u8 97, .int .u8 1, .int .u8 120] 5)
  have h1 := h1.below (by omega) al
  have kB := kB.below al
  have q5 := q4.trans (al.mono q4.size)
  rw [z4] at hlit
  have e4 : Hid ((([1, 2, 1, 97, 1, 120] : List UInt8) == [1, 2, 1, 97, 1, 120]) = true) := by unfold Hid; decide
  refine (same_is _ A1 n1 c1 _ _ 6 6 _ true e4 h1 hlit).mono ?_
  rintro e w5 ⟨rfl, rfl⟩
  clear al hlit
  obtain ⟨x0, x1, x2, x3⟩ := kB
  go_wp2
  go_ret
  exact ⟨rfl, q5⟩
end Go.Proofs.Ytfonincdhjkacaa
