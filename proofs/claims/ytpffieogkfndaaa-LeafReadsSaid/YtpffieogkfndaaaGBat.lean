/-
  BatchPlain in one text. No condition but sizes.
-/
import Derived.Test.YtpffieogkfndaaaGKey
namespace Go.Proofs.Ytpffieogkfndaaa
set_option maxRecDepth 20000
open Go.RowKit

def checkOpL (o : OpL) : Nat :=
  if o.kind.toNat < 1 ∨ 3 < o.kind.toNat then 1
  else if 64 < o.key.length ∨ (o.kind.toNat = 2 ∧ 512 < o.value.length) ∨ (o.kind.toNat = 3 ∧ 64 < o.value.length) then 3
  else if o.key.length = 0 ∨ (o.kind.toNat = 1 ∧ 0 < o.value.length) ∨ (o.kind.toNat = 3 ∧ ltL o.key o.value = false) then 4 else 0
/-- the first error of a list -/
def firstErr {α : Type} (f : α → Nat) : List α → Nat
  | [] => 0
  | o :: l => if f o ≠ 0 then f o else firstErr f l
theorem firstErr_zero {α : Type} (f : α → Nat) : ∀ l : List α, firstErr f l = 0 ↔ ∀ o ∈ l, f o = 0
  | [] => by simp [firstErr]
  | o :: l => by
    have ih := firstErr_zero f l
    unfold firstErr
    split
    · rename_i h
      simp [h]
    · rename_i h
      rw [ih]
      simp at h
      simp [h]
def checkOpsL (l : List OpL) : Nat := if 64 < l.length then 3 else firstErr checkOpL l
def opBytesL (o : OpL) : List UInt8 := numL o.kind.toNat ++ (textL o.key ++ textL o.value)
def opsBytesL (l : List OpL) : List UInt8 := numL l.length ++ (l.map opBytesL).flatten
def coversL (o : OpL) (key : List UInt8) : Bool := if o.kind.toNat = 3 then !ltL key o.key && ltL key o.value else o.key == key
/-- the last op that is of a key -/
def overL (l : List OpL) (key : List UInt8) : Option OpL := l.reverse.find? (coversL · key)
def sizeOpsL (l : List OpL) : Nat := (l.map fun o => o.key.length + o.value.length).sum
def cutOp (o : OpL) : OpL := { o with key := o.key.take 80, value := o.value.take 600 }
def fewOps (l : List OpL) (n : Nat) : List OpL := (l.take n).map cutOp
/-- one op in front, keys of at most km bytes, kinds of at most kk -/
def readOpL (kk km : Nat) (p : List UInt8) : Option (OpL × List UInt8) :=
  let a := takeL p
  let b := takeTextL a.2.1 km
  let c := takeTextL b.2.1 512
  if a.2.2 = 0 ∧ b.2.2 = 0 ∧ c.2.2 = 0 ∧ a.1 ≤ kk then some (⟨UInt8.ofNat a.1, b.1, c.1⟩, c.2.1) else none
def readNL (kk km : Nat) : Nat → List UInt8 → Option (List OpL × List UInt8)
  | 0, p => some ([], p)
  | n + 1, p => match readOpL kk km p with
    | none => none
    | some (o, q) => match readNL kk km n q with
      | none => none
      | some (l, r) => some (o :: l, r)
/-- the batch of bytes; none: they are none -/
def readOpsL (p : List UInt8) : Option (List OpL) :=
  if (takeL p).2.2 = 0 ∧ (takeL p).1 ≤ 64 then
    match readNL 3 64 (takeL p).1 (takeL p).2.1 with
    | none => none
    | some (l, r) => if r.length = 0 ∧ checkOpsL l = 0 then some l else none
  else none
/-- .. as the document has it: what stands there, if it makes just these bytes -/
def rreadOpsL (p : List UInt8) : Option (List OpL) :=
  if (takeL p).2.2 = 0 ∧ (takeL p).1 ≤ 64 then
    match readNL 255 512 (takeL p).1 (takeL p).2.1 with
    | none => none
    | some (l, _) => if checkOpsL l = 0 ∧ opsBytesL l = p then some l else none
  else none
theorem take_inv (p : List UInt8) (h : (takeL p).2.2 = 0) : p = numL (takeL p).1 ++ (takeL p).2.1 := by
  cases p with
  | nil => simp [takeL] at h
  | cons b r =>
    unfold takeL at h ⊢
    simp only at h ⊢
    split at h
    · simp at h
    · rename_i h1
      rw [if_neg h1]
      split at h
      · rename_i h2
        rw [if_pos h2]
        simp only
        rw [h2]
        simp [List.take_append_drop]
      · simp at h
theorem taketext_inv (p : List UInt8) (m : Nat) (h : (takeTextL p m).2.2 = 0) : p = textL (takeTextL p m).1 ++ (takeTextL p m).2.1 ∧ (takeTextL p m).1.length ≤ m := by
  unfold takeTextL at h ⊢
  split at h
  · rename_i h1
    exact absurd h h1
  · rename_i h1
    rw [if_neg h1]
    split at h
    · simp at h
    · rename_i h2
      rw [if_neg h2]
      split at h
      · simp at h
      · rename_i h3
        rw [if_neg h3]
        simp only
        have e := take_inv p (by simpa using h1)
        have hl : ((takeL p).2.1.take (takeL p).1).length = (takeL p).1 := by rw [List.length_take]; omega
        refine ⟨?_, by omega⟩
        unfold textL
        rw [hl, List.append_assoc, List.take_append_drop]
        exact e
theorem readOp_inv {kk km : Nat} (hk : kk ≤ 255) {p q : List UInt8} {o : OpL} (h : readOpL kk km p = some (o, q)) : p = opBytesL o ++ q ∧ o.key.length ≤ km ∧ o.value.length ≤ 512 ∧ o.kind.toNat ≤ kk := by
  unfold readOpL at h
  simp only at h
  split at h
  · rename_i hc
    obtain ⟨h1, h2, h3, h4⟩ := hc
    simp only [Option.some.injEq, Prod.mk.injEq] at h
    obtain ⟨rfl, rfl⟩ := h
    have e1 := take_inv p h1
    have e2 := taketext_inv _ _ h2
    have e3 := taketext_inv _ 512 h3
    rw [show ((512 : Nat) : Int) = 512 from rfl] at e3
    have hn : (UInt8.ofNat (takeL p).1).toNat = (takeL p).1 := by
      rw [UInt8.toNat_ofNat']
      exact Nat.mod_eq_of_lt (by omega)
    refine ⟨?_, e2.2, e3.2, by rw [hn]; exact h4⟩
    unfold opBytesL
    simp only [hn]
    rw [List.append_assoc, List.append_assoc, ← e3.1, ← e2.1]
    exact e1
  · cases h
theorem readOp_of {kk km : Nat} (o : OpL) (q : List UInt8) (h1 : o.key.length ≤ km) (h2 : o.value.length ≤ 512) (h3 : o.kind.toNat ≤ kk) (hkm : km ≤ 100000) : readOpL kk km (opBytesL o ++ q) = some (o, q) := by
  have hk := o.kind.toNat_lt
  have e1 : takeL (opBytesL o ++ q) = (o.kind.toNat, textL o.key ++ (textL o.value ++ q), 0) := by
    unfold opBytesL
    rw [List.append_assoc, List.append_assoc]
    exact take_num _ (by omega) _
  have e2 := take_text o.key (textL o.value ++ q) (by omega) km
  have e3 := take_text o.value q (by omega) 512
  rw [show ((512 : Nat) : Int) = 512 from rfl] at e3
  rw [if_pos h1] at e2
  rw [if_pos h2] at e3
  unfold readOpL
  simp only [e1, e2, e3]
  rw [if_pos ⟨trivial, trivial, trivial, h3⟩]
  cases o
  simp
theorem readN_inv {kk km : Nat} (hk : kk ≤ 255) : ∀ {n : Nat} {p : List UInt8} {l : List OpL} {r : List UInt8}, readNL kk km n p = some (l, r) →
    p = (l.map opBytesL).flatten ++ r ∧ l.length = n ∧ ∀ o ∈ l, o.key.length ≤ km ∧ o.value.length ≤ 512 ∧ o.kind.toNat ≤ kk
  | 0, p, l, r, h => by
    simp only [readNL, Option.some.injEq, Prod.mk.injEq] at h
    obtain ⟨rfl, rfl⟩ := h
    simp
  | n + 1, p, l, r, h => by
    simp only [readNL] at h
    split at h
    · cases h
    · rename_i o q ho
      split at h
      · cases h
      · rename_i l' r' hl
        simp only [Option.some.injEq, Prod.mk.injEq] at h
        obtain ⟨rfl, rfl⟩ := h
        obtain ⟨e1, b1⟩ := readOp_inv hk ho
        obtain ⟨e2, e3, b2⟩ := readN_inv hk hl
        refine ⟨?_, by simp [e3], ?_⟩
        · simp only [List.map_cons, List.flatten_cons, List.append_assoc]
          rw [← e2]
          exact e1
        · intro x hx
          rcases List.mem_cons.1 hx with rfl | hx
          · exact b1
          · exact b2 x hx
theorem readN_of {kk km : Nat} (hkm : km ≤ 100000) (r : List UInt8) : ∀ l : List OpL, (∀ o ∈ l, o.key.length ≤ km ∧ o.value.length ≤ 512 ∧ o.kind.toNat ≤ kk) → readNL kk km l.length ((l.map opBytesL).flatten ++ r) = some (l, r)
  | [], _ => rfl
  | o :: l, h => by
    have ho := h o (by simp)
    have ih := readN_of hkm r l (fun x hx => h x (by simp [hx]))
    simp only [List.length_cons, readNL, List.map_cons, List.flatten_cons, List.append_assoc]
    rw [readOp_of o _ ho.1 ho.2.1 ho.2.2 hkm]
    simp only [ih]
theorem checkOp_bounds {o : OpL} (h : checkOpL o = 0) : o.key.length ≤ 64 ∧ o.value.length ≤ 512 ∧ o.kind.toNat ≤ 3 := by
  unfold checkOpL at h
  repeat' split at h
  all_goals omega
theorem checkOps_bounds {l : List OpL} (h : checkOpsL l = 0) : l.length ≤ 64 ∧ ∀ o ∈ l, o.key.length ≤ 64 ∧ o.value.length ≤ 512 ∧ o.kind.toNat ≤ 3 := by
  unfold checkOpsL at h
  split at h
  · omega
  · exact ⟨by omega, fun o ho => checkOp_bounds ((firstErr_zero _ _).1 h o ho)⟩
/-- WHAT IS READ IS WHAT MAKES THE BYTES -/
theorem readOps_iff (p : List UInt8) (l : List OpL) : readOpsL p = some l ↔ checkOpsL l = 0 ∧ opsBytesL l = p := by
  constructor
  · intro h
    unfold readOpsL at h
    split at h
    · rename_i h1
      split at h
      · cases h
      · rename_i l' r hr
        split at h
        · rename_i h2
          obtain rfl := Option.some.inj h
          obtain ⟨e, hn, _⟩ := readN_inv (by omega) hr
          have e0 := take_inv p h1.1
          refine ⟨h2.2, ?_⟩
          obtain rfl : r = [] := List.eq_nil_of_length_eq_zero h2.1
          rw [List.append_nil] at e
          unfold opsBytesL
          rw [hn, ← e]
          exact e0.symm
        · cases h
    · cases h
  · rintro ⟨h1, rfl⟩
    obtain ⟨hb1, hb2⟩ := checkOps_bounds h1
    have e : takeL (opsBytesL l) = (l.length, (l.map opBytesL).flatten, 0) := take_num l.length (by omega) _
    have e2 := readN_of (kk := 3) (km := 64) (by omega) [] l hb2
    rw [List.append_nil] at e2
    unfold readOpsL
    simp only [e, e2]
    rw [if_pos ⟨trivial, hb1⟩, if_pos ⟨rfl, h1⟩]
theorem rreadOps_iff (p : List UInt8) (l : List OpL) : rreadOpsL p = some l ↔ checkOpsL l = 0 ∧ opsBytesL l = p := by
  constructor
  · intro h
    unfold rreadOpsL at h
    split at h
    · split at h
      · cases h
      · split at h
        · rename_i h2
          obtain rfl := Option.some.inj h
          exact h2
        · cases h
    · cases h
  · rintro ⟨h1, rfl⟩
    obtain ⟨hb1, hb2⟩ := checkOps_bounds h1
    have e : takeL (opsBytesL l) = (l.length, (l.map opBytesL).flatten, 0) := take_num l.length (by omega) _
    have e2 := readN_of (kk := 255) (km := 512) (by omega) [] l (fun o ho => by have := hb2 o ho; omega)
    rw [List.append_nil] at e2
    unfold rreadOpsL
    simp only [e, e2]
    rw [if_pos ⟨trivial, hb1⟩, if_pos ⟨h1, trivial⟩]
theorem readOps_same (p : List UInt8) : rreadOpsL p = readOpsL p := by
  rcases h : readOpsL p with _ | l
  · rcases h2 : rreadOpsL p with _ | l
    · rfl
    · rw [(readOps_iff p l).2 ((rreadOps_iff p l).1 h2)] at h
      cases h
  · exact (rreadOps_iff p l).2 ((readOps_iff p l).1 h)
end Go.Proofs.Ytpffieogkfndaaa
