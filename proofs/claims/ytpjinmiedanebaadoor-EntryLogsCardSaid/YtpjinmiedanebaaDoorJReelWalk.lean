/-
  BatchPlain, ReelRec, ReelWalk in one text. No condition but sizes.
-/
import Derived.Test.YtpjinmiedanebaaDoorJReelPlain
import Derived.Test.YtpjinmiedanebaaDoorJFrameR
import Derived.Test.YtpjinmiedanebaaDoorJRowsL
import Derived.Test.YtpjinmiedanebaaDoorJRecs
import Derived.Deep.RegionLaw
import Derived.Deep.DeepCutAuto
namespace Go.Proofs.YtpjinmiedanebaaDoor
set_option maxRecDepth 20000
open Go.RowKit

def checkOpL (o : OpL) : Nat :=
  if o.kind.toNat < 1 ∨ 3 < o.kind.toNat then 1
  else if 64 < o.key.length ∨ (o.kind.toNat = 2 ∧ 512 < o.value.length) ∨ (o.kind.toNat = 3 ∧ 64 < o.value.length) then 3
  else if o.key.length = 0 ∨ (o.kind.toNat = 1 ∧ 0 < o.value.length) ∨ (o.kind.toNat = 3 ∧ ltL o.key o.value = false) then 4 else 0
/-- the first error of a list -/
def firstErr {α : Type} (f : α → Nat) : List α → Nat
  | [] => 0
  | o :: l => if f o ≠ 0 then f o else firstErr f l
theorem firstErr_zero {α : Type} (f : α → Nat) : ∀ l : List α, firstErr f l = 0 ↔ ∀ o ∈ l, f o = 0
  | [] => by simp [firstErr]
  | o :: l => by
    have ih := firstErr_zero f l
    unfold firstErr
    split
    · rename_i h
      simp [h]
    · rename_i h
      rw [ih]
      simp at h
      simp [h]
def checkOpsL (l : List OpL) : Nat := if 64 < l.length then 3 else firstErr checkOpL l
def opBytesL (o : OpL) : List UInt8 := numL o.kind.toNat ++ (textL o.key ++ textL o.value)
def opsBytesL (l : List OpL) : List UInt8 := numL l.length ++ (l.map opBytesL).flatten
def coversL (o : OpL) (key : List UInt8) : Bool := if o.kind.toNat = 3 then !ltL key o.key && ltL key o.value else o.key == key
/-- the last op that is of a key -/
def overL (l : List OpL) (key : List UInt8) : Option OpL := l.reverse.find? (coversL · key)
def sizeOpsL (l : List OpL) : Nat := (l.map fun o => o.key.length + o.value.length).sum
def cutOp (o : OpL) : OpL := { o with key := o.key.take 80, value := o.value.take 600 }
def fewOps (l : List OpL) (n : Nat) : List OpL := (l.take n).map cutOp
/-- one op in front, keys of at most km bytes, kinds of at most kk -/
def readOpL (kk km : Nat) (p : List UInt8) : Option (OpL × List UInt8) :=
  let a := takeL p
  let b := takeTextL a.2.1 km
  let c := takeTextL b.2.1 512
  if a.2.2 = 0 ∧ b.2.2 = 0 ∧ c.2.2 = 0 ∧ a.1 ≤ kk then some (⟨UInt8.ofNat a.1, b.1, c.1⟩, c.2.1) else none
def readNL (kk km : Nat) : Nat → List UInt8 → Option (List OpL × List UInt8)
  | 0, p => some ([], p)
  | n + 1, p => match readOpL kk km p with
    | none => none
    | some (o, q) => match readNL kk km n q with
      | none => none
      | some (l, r) => some (o :: l, r)
/-- the batch of bytes; none: they are none -/
def readOpsL (p : List UInt8) : Option (List OpL) :=
  if (takeL p).2.2 = 0 ∧ (takeL p).1 ≤ 64 then
    match readNL 3 64 (takeL p).1 (takeL p).2.1 with
    | none => none
    | some (l, r) => if r.length = 0 ∧ checkOpsL l = 0 then some l else none
  else none
/-- .. as the document has it: what stands there, if it makes just these bytes -/
def rreadOpsL (p : List UInt8) : Option (List OpL) :=
  if (takeL p).2.2 = 0 ∧ (takeL p).1 ≤ 64 then
    match readNL 255 512 (takeL p).1 (takeL p).2.1 with
    | none => none
    | some (l, _) => if checkOpsL l = 0 ∧ opsBytesL l = p then some l else none
  else none
theorem take_inv (p : List UInt8) (h : (takeL p).2.2 = 0) : p = numL (takeL p).1 ++ (takeL p).2.1 := by
  cases p with
  | nil => simp [takeL] at h
  | cons b r =>
    unfold takeL at h ⊢
    simp only at h ⊢
    split at h
    · simp at h
    · rename_i h1
      rw [if_neg h1]
      split at h
      · rename_i h2
        rw [if_pos h2]
        simp only
        rw [h2]
        simp [List.take_append_drop]
      · simp at h
theorem taketext_inv (p : List UInt8) (m : Nat) (h : (takeTextL p m).2.2 = 0) : p = textL (takeTextL p m).1 ++ (takeTextL p m).2.1 ∧ (takeTextL p m).1.length ≤ m := by
  unfold takeTextL at h ⊢
  split at h
  · rename_i h1
    exact absurd h h1
  · rename_i h1
    rw [if_neg h1]
    split at h
    · simp at h
    · rename_i h2
      rw [if_neg h2]
      split at h
      · simp at h
      · rename_i h3
        rw [if_neg h3]
        simp only
        have e := take_inv p (by simpa using h1)
        have hl : ((takeL p).2.1.take (takeL p).1).length = (takeL p).1 := by rw [List.length_take]; omega
        refine ⟨?_, by omega⟩
        unfold textL
        rw [hl, List.append_assoc, List.take_append_drop]
        exact e
theorem readOp_inv {kk km : Nat} (hk : kk ≤ 255) {p q : List UInt8} {o : OpL} (h : readOpL kk km p = some (o, q)) : p = opBytesL o ++ q ∧ o.key.length ≤ km ∧ o.value.length ≤ 512 ∧ o.kind.toNat ≤ kk := by
  unfold readOpL at h
  simp only at h
  split at h
  · rename_i hc
    obtain ⟨h1, h2, h3, h4⟩ := hc
    simp only [Option.some.injEq, Prod.mk.injEq] at h
    obtain ⟨rfl, rfl⟩ := h
    have e1 := take_inv p h1
    have e2 := taketext_inv _ _ h2
    have e3 := taketext_inv _ 512 h3
    rw [show ((512 : Nat) : Int) = 512 from rfl] at e3
    have hn : (UInt8.ofNat (takeL p).1).toNat = (takeL p).1 := by
      rw [UInt8.toNat_ofNat']
      exact Nat.mod_eq_of_lt (by omega)
    refine ⟨?_, e2.2, e3.2, by rw [hn]; exact h4⟩
    unfold opBytesL
    simp only [hn]
    rw [List.append_assoc, List.append_assoc, ← e3.1, ← e2.1]
    exact e1
  · cases h
theorem readOp_of {kk km : Nat} (o : OpL) (q : List UInt8) (h1 : o.key.length ≤ km) (h2 : o.value.length ≤ 512) (h3 : o.kind.toNat ≤ kk) (hkm : km ≤ 100000) : readOpL kk km (opBytesL o ++ q) = some (o, q) := by
  have hk := o.kind.toNat_lt
  have e1 : takeL (opBytesL o ++ q) = (o.kind.toNat, textL o.key ++ (textL o.value ++ q), 0) := by
    unfold opBytesL
    rw [List.append_assoc, List.append_assoc]
    exact take_num _ (by omega) _
  have e2 := take_text o.key (textL o.value ++ q) (by omega) km
  have e3 := take_text o.value q (by omega) 512
  rw [show ((512 : Nat) : Int) = 512 from rfl] at e3
  rw [if_pos h1] at e2
  rw [if_pos h2] at e3
  unfold readOpL
  simp only [e1, e2, e3]
  rw [if_pos ⟨trivial, trivial, trivial, h3⟩]
  cases o
  simp
theorem readN_inv {kk km : Nat} (hk : kk ≤ 255) : ∀ {n : Nat} {p : List UInt8} {l : List OpL} {r : List UInt8}, readNL kk km n p = some (l, r) →
    p = (l.map opBytesL).flatten ++ r ∧ l.length = n ∧ ∀ o ∈ l, o.key.length ≤ km ∧ o.value.length ≤ 512 ∧ o.kind.toNat ≤ kk
  | 0, p, l, r, h => by
    simp only [readNL, Option.some.injEq, Prod.mk.injEq] at h
    obtain ⟨rfl, rfl⟩ := h
    simp
  | n + 1, p, l, r, h => by
    simp only [readNL] at h
    split at h
    · cases h
    · rename_i o q ho
      split at h
      · cases h
      · rename_i l' r' hl
        simp only [Option.some.injEq, Prod.mk.injEq] at h
        obtain ⟨rfl, rfl⟩ := h
        obtain ⟨e1, b1⟩ := readOp_inv hk ho
        obtain ⟨e2, e3, b2⟩ := readN_inv hk hl
        refine ⟨?_, by simp [e3], ?_⟩
        · simp only [List.map_cons, List.flatten_cons, List.append_assoc]
          rw [← e2]
          exact e1
        · intro x hx
          rcases List.mem_cons.1 hx with rfl | hx
          · exact b1
          · exact b2 x hx
theorem readN_of {kk km : Nat} (hkm : km ≤ 100000) (r : List UInt8) : ∀ l : List OpL, (∀ o ∈ l, o.key.length ≤ km ∧ o.value.length ≤ 512 ∧ o.kind.toNat ≤ kk) → readNL kk km l.length ((l.map opBytesL).flatten ++ r) = some (l, r)
  | [], _ => rfl
  | o :: l, h => by
    have ho := h o (by simp)
    have ih := readN_of hkm r l (fun x hx => h x (by simp [hx]))
    simp only [List.length_cons, readNL, List.map_cons, List.flatten_cons, List.append_assoc]
    rw [readOp_of o _ ho.1 ho.2.1 ho.2.2 hkm]
    simp only [ih]
theorem checkOp_bounds {o : OpL} (h : checkOpL o = 0) : o.key.length ≤ 64 ∧ o.value.length ≤ 512 ∧ o.kind.toNat ≤ 3 := by
  unfold checkOpL at h
  repeat' split at h
  all_goals omega
theorem checkOps_bounds {l : List OpL} (h : checkOpsL l = 0) : l.length ≤ 64 ∧ ∀ o ∈ l, o.key.length ≤ 64 ∧ o.value.length ≤ 512 ∧ o.kind.toNat ≤ 3 := by
  unfold checkOpsL at h
  split at h
  · omega
  · exact ⟨by omega, fun o ho => checkOp_bounds ((firstErr_zero _ _).1 h o ho)⟩
/-- WHAT IS READ IS WHAT MAKES THE BYTES -/
theorem readOps_iff (p : List UInt8) (l : List OpL) : readOpsL p = some l ↔ checkOpsL l = 0 ∧ opsBytesL l = p := by
  constructor
  · intro h
    unfold readOpsL at h
    split at h
    · rename_i h1
      split at h
      · cases h
      · rename_i l' r hr
        split at h
        · rename_i h2
          obtain rfl := Option.some.inj h
          obtain ⟨e, hn, _⟩ := readN_inv (by omega) hr
          have e0 := take_inv p h1.1
          refine ⟨h2.2, ?_⟩
          obtain rfl : r = [] := List.eq_nil_of_length_eq_zero h2.1
          rw [List.append_nil] at e
          unfold opsBytesL
          rw [hn, ← e]
          exact e0.symm
        · cases h
    · cases h
  · rintro ⟨h1, rfl⟩
    obtain ⟨hb1, hb2⟩ := checkOps_bounds h1
    have e : takeL (opsBytesL l) = (l.length, (l.map opBytesL).flatten, 0) := take_num l.length (by omega) _
    have e2 := readN_of (kk := 3) (km := 64) (by omega) [] l hb2
    rw [List.append_nil] at e2
    unfold readOpsL
    simp only [e, e2]
    rw [if_pos ⟨trivial, hb1⟩, if_pos ⟨rfl, h1⟩]
theorem rreadOps_iff (p : List UInt8) (l : List OpL) : rreadOpsL p = some l ↔ checkOpsL l = 0 ∧ opsBytesL l = p := by
  constructor
  · intro h
    unfold rreadOpsL at h
    split at h
    · split at h
      · cases h
      · split at h
        · rename_i h2
          obtain rfl := Option.some.inj h
          exact h2
        · cases h
    · cases h
  · rintro ⟨h1, rfl⟩
    obtain ⟨hb1, hb2⟩ := checkOps_bounds h1
    have e : takeL (opsBytesL l) = (l.length, (l.map opBytesL).flatten, 0) := take_num l.length (by omega) _
    have e2 := readN_of (kk := 255) (km := 512) (by omega) [] l (fun o ho => by have := hb2 o ho; omega)
    rw [List.append_nil] at e2
    unfold rreadOpsL
    simp only [e, e2]
    rw [if_pos ⟨trivial, hb1⟩, if_pos ⟨h1, trivial⟩]
theorem readOps_same (p : List UInt8) : rreadOpsL p = readOpsL p := by
  rcases h : readOpsL p with _ | l
  · rcases h2 : rreadOpsL p with _ | l
    · rfl
    · rw [(readOps_iff p l).2 ((rreadOps_iff p l).1 h2)] at h
      cases h
  · exact (rreadOps_iff p l).2 ((readOps_iff p l).1 h)
end Go.Proofs.YtpjinmiedanebaaDoor

namespace Go.Proofs.YtpjinmiedanebaaDoor
set_option maxRecDepth 20000

theorem ofNat_mod {a b : Nat} (h : UInt8.ofNat a = UInt8.ofNat b) : a % 256 = b % 256 := by
  have := congrArg UInt8.toNat h
  simpa using this
/-- pieces that begin alike are alike -/
theorem pieceL_inj {k k' : Nat} {x x' Y Y' : List UInt8} (hk : k < 256) (hk' : k' < 256) (hx : x.length < 65536) (hx' : x'.length < 65536) (h : pieceL k x ++ Y = pieceL k' x' ++ Y') : k = k' ∧ x = x' ∧ Y = Y' := by
  simp only [pieceL, headL, le4, List.cons_append, List.nil_append, List.cons.injEq] at h
  obtain ⟨_, _, _, _, h1, h2, h3, h4⟩ := h
  have e1 := ofNat_mod h1
  have e2 := ofNat_mod h2
  have e3 := ofNat_mod h3
  have hl : x.length = x'.length := by omega
  obtain ⟨e4, e5⟩ := List.append_inj h4 hl
  exact ⟨by omega, e4, e5⟩
theorem kindN_inj {b e e' : Bool} (h : kindN b e = kindN b e') : e = e' := by cases b <;> cases e <;> cases e' <;> simp [kindN] at h <;> rfl
theorem kindN_ge (b e : Bool) : 1 ≤ kindN b e ∧ kindN b e ≤ 4 := by cases b <;> cases e <;> decide
/-- a frame, its first piece told -/
def endsAt (a : Nat) (p : List UInt8) : Bool := decide (p.length ≤ roomN a)
def tailFr (a : Nat) (p : List UInt8) : List UInt8 := if endsAt a p then [] else frameL (a + padN a + 7 + roomN a) false (p.drop (roomN a))
theorem frameL_eq (a : Nat) (b : Bool) (p : List UInt8) : frameL a b p = List.replicate (padN a) 0 ++ (pieceL (kindN b (endsAt a p)) (p.take (roomN a)) ++ tailFr a p) := by
  unfold tailFr endsAt
  by_cases h : p.length ≤ roomN a
  · rw [frameL_end a b p h]
    simp [h, List.take_of_length_le h]
  · rw [frameL_go a b p h]
    simp [h]
theorem take_room_lt (a : Nat) (p : List UInt8) : (p.take (roomN a)).length ≤ 57 := by
  have := roomN_le a
  simp
  omega
/-- what a frame is of is told by any bytes that begin with it -/
theorem frame_inj (a : Nat) (b : Bool) (p q X : List UInt8) (hp : frameL a b p <+: X) (hq : frameL a b q <+: X) : p = q := by
  obtain ⟨t, ht⟩ := hp
  obtain ⟨u, hu⟩ := hq
  have e0 := ht.trans hu.symm
  rw [frameL_eq a b p, frameL_eq a b q, List.append_assoc, List.append_assoc, List.append_assoc, List.append_assoc] at e0
  have e1 := List.append_cancel_left e0
  have l1 := take_room_lt a p
  have l2 := take_room_lt a q
  obtain ⟨e2, e3, e4⟩ := pieceL_inj (kindN_lt _ _) (kindN_lt _ _) (by omega) (by omega) e1
  have e5 := kindN_inj e2
  by_cases h1 : p.length ≤ roomN a
  · have h2 : q.length ≤ roomN a := by simpa [endsAt, h1] using e5.symm
    rwa [List.take_of_length_le h1, List.take_of_length_le h2] at e3
  · have h2 : ¬ q.length ≤ roomN a := by simpa [endsAt, h1] using e5.symm
    have h1' : endsAt a p = false := by simp [endsAt]; omega
    have h2' : endsAt a q = false := by simp [endsAt]; omega
    rw [tailFr, tailFr, h1', h2'] at e4
    simp only [Bool.false_eq_true, if_false] at e4
    have ih := frame_inj (a + padN a + 7 + roomN a) false (p.drop (roomN a)) (q.drop (roomN a)) _ ⟨t, rfl⟩ ⟨u, e4.symm⟩
    rw [← List.take_append_drop (roomN a) p, ← List.take_append_drop (roomN a) q, e3, ih]
termination_by 2 * p.length + (if roomN a = 0 then 1 else 0)
decreasing_by
  rw [List.length_drop]
  by_cases h0 : roomN a = 0
  · have := room_next a h0
    rw [h0, this]
    simp
  · rw [if_neg h0]
    split <;> omega

/-- the piece that stands at a place -/
def PieceAt (P : List UInt8) (at_ k : Nat) (b : List UInt8) (e : Nat) : Prop :=
  1 ≤ k ∧ k ≤ 4 ∧ at_ % 64 + 7 + b.length ≤ 64 ∧ e = at_ + 7 + b.length ∧ pieceL k b <+: P.drop at_
theorem PieceAt.one {P : List UInt8} {at_ k k' e e' : Nat} {b b' : List UInt8} (h : PieceAt P at_ k b e) (h' : PieceAt P at_ k' b' e') : k = k' ∧ b = b' ∧ e = e' := by
  obtain ⟨h1, h2, h3, h4, t, ht⟩ := h
  obtain ⟨h1', h2', h3', h4', u, hu⟩ := h'
  obtain ⟨e1, e2, _⟩ := pieceL_inj (by omega) (by omega) (by omega) (by omega) (ht.trans hu.symm)
  exact ⟨e1, e2, by rw [h4, h4', e2]⟩
theorem PieceAt.le {P : List UInt8} {at_ k e : Nat} {b : List UInt8} (h : PieceAt P at_ k b e) : e ≤ P.length := by
  obtain ⟨h1, h2, h3, h4, ht⟩ := h
  have := ht.length_le
  simp at this
  omega
/-- a frame stands at a place: its first piece does -/
theorem frame_piece {P : List UInt8} {a : Nat} {b : Bool} {r : List UInt8} (h : frameL a b r <+: P.drop a) :
    PieceAt P (a + padN a) (kindN b (endsAt a r)) (r.take (roomN a)) (a + padN a + 7 + (r.take (roomN a)).length) ∧
      (endsAt a r = false → frameL (a + padN a + 7 + roomN a) false (r.drop (roomN a)) <+: P.drop (a + padN a + 7 + roomN a)) := by
  obtain ⟨t, ht⟩ := h
  rw [frameL_eq, List.append_assoc, List.append_assoc] at ht
  have e1 : P.drop (a + padN a) = pieceL (kindN b (endsAt a r)) (r.take (roomN a)) ++ (tailFr a r ++ t) := by
    rw [← List.drop_drop, ← ht, List.drop_left' (by simp)]
  have hk := kindN_ge b (endsAt a r)
  have h64 := room_at a
  have hl : (r.take (roomN a)).length ≤ roomN a := by simp; omega
  refine ⟨⟨hk.1, hk.2, by omega, rfl, ⟨_, e1.symm⟩⟩, fun he => ⟨t, ?_⟩⟩
  have hr : ¬ r.length ≤ roomN a := by simpa [endsAt] using he
  have e2 : tailFr a r = frameL (a + padN a + 7 + roomN a) false (r.drop (roomN a)) := by unfold tailFr; rw [he]; simp
  rw [← e2, show a + padN a + 7 + roomN a = (a + padN a) + (7 + roomN a) by omega, ← List.drop_drop, e1, List.drop_left' (by simp; omega)]
/-- a record stands at a place -/
def IsRec (P : List UInt8) (a : Nat) (r : List UInt8) : Prop := r.length ≤ 65536 ∧ frameL a true r <+: P.drop a
theorem IsRec.one {P : List UInt8} {a : Nat} {r r' : List UInt8} (h : IsRec P a r) (h' : IsRec P a r') : r = r' := frame_inj a true r r' _ h.2 h'.2
theorem frameL_pos (a : Nat) (b : Bool) (p : List UInt8) : 7 ≤ (frameL a b p).length := by
  rw [frameL_eq]
  simp
  omega
theorem IsRec.le {P : List UInt8} {a : Nat} {r : List UInt8} (h : IsRec P a r) : a + (frameL a true r).length ≤ P.length := by
  have h1 := h.2.length_le
  have h2 := frameL_pos a true r
  simp at h1
  omega
/-- what has been read of a record that begins at a: out; the place is at; b: nothing yet -/
def Reading (P : List UInt8) (a : Nat) (at_ : Nat) (b : Bool) (out : List UInt8) : Prop :=
  ∀ r, IsRec P a r → ∃ rest, r = out ++ rest ∧ frameL at_ b rest <+: P.drop at_ ∧ a + (frameL a true r).length = at_ + (frameL at_ b rest).length
theorem reading_start (P : List UInt8) (a : Nat) : Reading P a a true [] := fun r hr => ⟨r, rfl, hr.2, rfl⟩
theorem reading_none {P : List UInt8} {a at_ : Nat} {b : Bool} {out : List UInt8} (h : Reading P a at_ b out) (hn : ∀ k x e, PieceAt P (at_ + padN at_) k x e → False) : ∀ r, ¬ IsRec P a r := fun r hr => by
  obtain ⟨rest, _, h2, _⟩ := h r hr
  exact hn _ _ _ (frame_piece h2).1
theorem reading_kind {P : List UInt8} {a at_ k e : Nat} {b : Bool} {out x : List UInt8} (h : Reading P a at_ b out) (hp : PieceAt P (at_ + padN at_) k x e) (hk : ∀ f, k ≠ kindN b f) : ∀ r, ¬ IsRec P a r := fun r hr => by
  obtain ⟨rest, _, h2, _⟩ := h r hr
  exact hk _ (hp.one (frame_piece h2).1).1
theorem reading_next {P : List UInt8} {a at_ k e : Nat} {b : Bool} {out x : List UInt8} (h : Reading P a at_ b out) (hp : PieceAt P (at_ + padN at_) k x e) (hk : k = kindN b false) : Reading P a e false (out ++ x) := fun r hr => by
  obtain ⟨rest, h1, h2, h3⟩ := h r hr
  obtain ⟨f1, f2⟩ := frame_piece h2
  obtain ⟨e1, e2, e3⟩ := hp.one f1
  have e4 : endsAt at_ rest = false := kindN_inj (b := b) (by rw [← e1, hk])
  have hr : ¬ rest.length ≤ roomN at_ := by simpa [endsAt] using e4
  have hl : (rest.take (roomN at_)).length = roomN at_ := by simp; omega
  rw [hl] at e3
  refine ⟨rest.drop (roomN at_), ?_, by rw [e3]; exact f2 e4, ?_⟩
  · rw [h1, e2, List.append_assoc, List.take_append_drop]
  · rw [h3, frameL_go at_ b rest hr, e3]
    simp [hl]
    omega
theorem reading_end {P : List UInt8} {a at_ k e : Nat} {b : Bool} {out x : List UInt8} (h : Reading P a at_ b out) (hp : PieceAt P (at_ + padN at_) k x e) (hk : k = kindN b true) : ∀ r, IsRec P a r → r = out ++ x ∧ e = a + (frameL a true r).length := fun r hr => by
  obtain ⟨rest, h1, h2, h3⟩ := h r hr
  obtain ⟨f1, f2⟩ := frame_piece h2
  obtain ⟨e1, e2, e3⟩ := hp.one f1
  have e4 : endsAt at_ rest = true := kindN_inj (b := b) (by rw [← e1, hk])
  have hr : rest.length ≤ roomN at_ := by simpa [endsAt] using e4
  rw [List.take_of_length_le hr] at e2 e3
  refine ⟨by rw [h1, e2], ?_⟩
  rw [h3, frameL_end at_ b rest hr, e3]
  simp
  omega
/-- records one behind the other, from a to e -/
inductive Reads (P : List UInt8) : Nat → List (List UInt8) → Nat → Prop
  | nil (a : Nat) : Reads P a [] a
  | cons (a : Nat) (r : List UInt8) (rs : List (List UInt8)) (e : Nat) : IsRec P a r → Reads P (a + (frameL a true r).length) rs e → Reads P a (r :: rs) e
theorem Reads.snoc {P : List UInt8} {a e : Nat} {rs : List (List UInt8)} {r : List UInt8} (h : Reads P a rs e) (hr : IsRec P e r) : Reads P a (rs ++ [r]) (e + (frameL e true r).length) := by
  induction h with
  | nil a => exact .cons _ _ _ _ hr (.nil _)
  | cons a r0 rs e h0 _ ih => exact .cons _ _ _ _ h0 (ih hr)
/-- at e no record stands -/
def Stuck (P : List UInt8) (e : Nat) : Prop := ∀ r, ¬ IsRec P e r
theorem stuck_end {P : List UInt8} {e : Nat} (h : P.length ≤ e) : Stuck P e := fun r hr => by
  have h1 := hr.le
  have h2 := frameL_pos e true r
  omega
/-- one of two readings begins with the other -/
theorem reads_prefix {P : List UInt8} {a e e' : Nat} {rs rs' : List (List UInt8)} (h : Reads P a rs e) (h' : Reads P a rs' e') (hs : Stuck P e') : rs <+: rs' := by
  induction h generalizing rs' with
  | nil a => exact List.nil_prefix
  | cons a r rs e h0 _ ih =>
    cases h' with
    | nil _ => exact absurd h0 (hs r)
    | cons _ r' rs2 _ h1 h2 =>
      obtain rfl := h0.one h1
      obtain ⟨t, rfl⟩ := ih h2
      exact ⟨t, rfl⟩
theorem reads_one {P : List UInt8} {a e e' : Nat} {rs rs' : List (List UInt8)} (h : Reads P a rs e) (hs : Stuck P e) (h' : Reads P a rs' e') (hs' : Stuck P e') : rs = rs' ∧ e = e' := by
  induction h generalizing rs' with
  | nil a =>
    cases h' with
    | nil _ => exact ⟨rfl, rfl⟩
    | cons _ r' rs2 _ h1 h2 => exact absurd h1 (hs r')
  | cons a r rs e h0 _ ih =>
    cases h' with
    | nil _ => exact absurd h0 (hs' r)
    | cons _ r' rs2 _ h1 h2 =>
      obtain rfl := h0.one h1
      obtain ⟨rfl, e2⟩ := ih hs h2
      exact ⟨rfl, e2⟩
/-- the reel of records -/
def allL (ls : List (List UInt8)) : List UInt8 := ls.foldl (fun out p => out ++ frameL out.length true p) []
theorem allL_snoc (ls : List (List UInt8)) (p : List UInt8) : allL (ls ++ [p]) = allL ls ++ frameL (allL ls).length true p := by simp [allL]
theorem allL_take_le (ls : List (List UInt8)) : ∀ k, (allL (ls.take k)) <+: allL ls := by
  intro k
  have : ∀ (m ls' : List (List UInt8)), allL ls' <+: allL (ls' ++ m) := by
    intro m
    induction m with
    | nil => intro ls'; simp
    | cons x m ih =>
      intro ls'
      have h1 := ih (ls' ++ [x])
      rw [List.append_assoc, List.singleton_append] at h1
      refine List.IsPrefix.trans ?_ h1
      rw [allL_snoc]
      exact List.prefix_append _ _
  have h := this (ls.drop k) (ls.take k)
  rwa [List.take_append_drop] at h
theorem allL_step (ls : List (List UInt8)) (k : Nat) (hk : k < ls.length) : allL (ls.take (k + 1)) = allL (ls.take k) ++ frameL (allL (ls.take k)).length true ls[k] := by
  rw [take_snoc _ _ hk, allL_snoc]
/-- the reel, cut or gone on with, is read as far as it is the reel -/
theorem reads_all (ls : List (List UInt8)) (hl : ∀ l ∈ ls, l.length ≤ 65536) (P : List UInt8) : ∀ k, k ≤ ls.length → allL (ls.take k) <+: P → Reads P 0 (ls.take k) (allL (ls.take k)).length
  | 0, _, _ => by simpa [allL] using Reads.nil 0
  | k + 1, hk, hp => by
    have hk' : k < ls.length := by omega
    have e1 := allL_step ls k hk'
    obtain ⟨t, ht⟩ := hp
    rw [e1] at ht
    have ih := reads_all ls hl P k (by omega) ⟨_, by rw [List.append_assoc] at ht; exact ht⟩
    have hr : IsRec P (allL (ls.take k)).length ls[k] := by
      refine ⟨hl _ (List.getElem_mem hk'), t, ?_⟩
      rw [← ht, List.append_assoc, List.drop_left]
    have h2 := ih.snoc hr
    rw [e1, List.length_append, take_snoc _ _ hk']
    exact h2
/-- what Read answers for the place: the end, if only noughts of a pad stand behind -/
def endN (P : List UInt8) (e : Nat) : Nat := if 0 < padN e ∧ P.length - e ≤ padN e ∧ (P.drop e).all (· == 0) then P.length else e
theorem endN_of_end (P : List UInt8) : endN P P.length = P.length := by unfold endN; split <;> rfl
theorem endN_between {P : List UInt8} {e : Nat} (h : e ≤ P.length) : e ≤ endN P e ∧ endN P e ≤ P.length := by unfold endN; split <;> omega
/-- what Read gives -/
def ReadsTo (P : List UInt8) (rs : List (List UInt8)) (n : Nat) : Prop := ∃ e, Reads P 0 rs e ∧ Stuck P e ∧ e ≤ P.length ∧ n = endN P e
theorem back_all (ls : List (List UInt8)) (hl : ∀ l ∈ ls, l.length ≤ 65536) {rs : List (List UInt8)} {n : Nat} (h : ReadsTo (allL ls) rs n) : rs = ls ∧ n = (allL ls).length := by
  obtain ⟨e, h1, h2, h3, h4⟩ := h
  have h5 := reads_all ls hl (allL ls) ls.length (Nat.le_refl _) (by rw [List.take_length]; exact List.prefix_rfl)
  rw [List.take_length] at h5
  obtain ⟨e1, e2⟩ := reads_one h1 h2 h5 (stuck_end (Nat.le_refl _))
  refine ⟨e1, ?_⟩
  rw [h4, e2, endN_of_end]
/-- CUT OFF ANYWHERE IT HAS WHAT LIES WHOLE AHEAD OF THE CUT -/
theorem cut_all (ls : List (List UInt8)) (hl : ∀ l ∈ ls, l.length ≤ 65536) (cut k : Nat) (hc : cut ≤ (allL ls).length) (hk : k ≤ ls.length) (h1 : (allL (ls.take k)).length ≤ cut) (h2 : k < ls.length → cut < (allL (ls.take (k + 1))).length)
    {rs : List (List UInt8)} {n : Nat} (h : ReadsTo ((allL ls).take cut) rs n) : rs = ls.take k ∧ (allL (ls.take k)).length ≤ n ∧ n ≤ cut := by
  obtain ⟨e, g1, g2, g3, g4⟩ := h
  have hp : allL (ls.take k) <+: (allL ls).take cut := by
    obtain ⟨t, ht⟩ := allL_take_le ls k
    rw [← ht, List.take_append, List.take_of_length_le h1]
    exact List.prefix_append _ _
  have h5 := reads_all ls hl _ k hk hp
  have hst : Stuck ((allL ls).take cut) (allL (ls.take k)).length := by
    intro r hr
    by_cases hk2 : k < ls.length
    · have h6 := h2 hk2
      have e1 := allL_step ls k hk2
      have hr2 : frameL (allL (ls.take k)).length true r <+: (allL ls).drop (allL (ls.take k)).length := by
        refine hr.2.trans ?_
        rw [List.drop_take]
        exact List.take_prefix _ _
      have hr3 : frameL (allL (ls.take k)).length true ls[k] <+: (allL ls).drop (allL (ls.take k)).length := by
        obtain ⟨t, ht⟩ := allL_take_le ls (k + 1)
        rw [e1, List.append_assoc] at ht
        rw [← ht, List.drop_left]
        exact List.prefix_append _ _
      obtain rfl := frame_inj _ _ _ _ _ hr2 hr3
      have h7 := hr.le
      rw [e1, List.length_append] at h6
      simp at h7
      omega
    · have h7 := hr.le
      have h8 := frameL_pos (allL (ls.take k)).length true r
      rw [List.take_of_length_le (by omega)] at h7 h8
      simp at h7
      omega
  obtain ⟨e1, e2⟩ := reads_one g1 g2 h5 hst
  have h9 := endN_between g3
  rw [e2] at h9
  refine ⟨e1, ?_, ?_⟩
  · rw [g4, e2]; exact h9.1
  · rw [g4, e2]
    refine Nat.le_trans h9.2 ?_
    simp
    omega
/-- WHATEVER STANDS BEHIND -/
theorem more_all (ls : List (List UInt8)) (hl : ∀ l ∈ ls, l.length ≤ 65536) (k : Nat) (hk : k ≤ ls.length) (behind : List UInt8)
    {rs : List (List UInt8)} {n : Nat} (h : ReadsTo (allL (ls.take k) ++ behind) rs n) : k ≤ rs.length ∧ rs.take k = ls.take k := by
  obtain ⟨e, g1, g2, _, _⟩ := h
  have h5 := reads_all ls hl _ k hk (List.prefix_append (allL (ls.take k)) behind)
  obtain ⟨t, ht⟩ := reads_prefix h5 g1 g2
  have hlen : (ls.take k).length = k := by simp; omega
  rw [← ht]
  refine ⟨by simp; omega, ?_⟩
  rw [List.take_append, hlen, List.take_take]
  simp
end Go.Proofs.YtpjinmiedanebaaDoor

namespace Go.Proofs.YtpjinmiedanebaaDoor
set_option maxRecDepth 20000
open Go.RowKit

set_option maxHeartbeats 400000 in
theorem left_any (w : World) (a : Nat) (ha : a ≤ 4611686018427387904) : Calls Tryd.prog 51 #[.int .i64 (a : Int)] w fun e w' => e = .returned (.int .i64 ((64 - a % 64 : Nat) : Int)) ∧ w = w' := by
  go_enter Tryd.func51, Tryd.ntmps51
  go_wp2
  go_ret
  exact ⟨ret_int (by omega), rfl⟩
set_option maxHeartbeats 400000 in
theorem pad_any (w : World) (a : Nat) (ha : a ≤ 4611686018427387904) : Calls Tryd.prog 39 #[.int .i64 (a : Int)] w fun e w' => e = .returned (.int .i64 (padN a : Nat)) ∧ w = w' := by
  by_cases h : 64 - a % 64 < 7
  · have e : padN a = 64 - a % 64 := by unfold padN; rw [if_pos h]
    rw [e]
    clear e
    have hc := left_any w a ha
    generalize 64 - a % 64 = x at *
    go_enter Tryd.func39, Tryd.ntmps39
    go_wp2_with fail
    refine hc.mono ?_
    rintro e w' ⟨rfl, rfl⟩
    go_wp2
    go_ret
    exact ⟨rfl, rfl⟩
  · have e : padN a = 0 := by unfold padN; rw [if_neg h]
    rw [e]
    clear e
    have hc := left_any w a ha
    generalize 64 - a % 64 = x at *
    go_enter Tryd.func39, Tryd.ntmps39
    go_wp2_with fail
    refine hc.mono ?_
    rintro e w' ⟨rfl, rfl⟩
    go_wp2
    go_ret
    exact ⟨rfl, rfl⟩
set_option maxHeartbeats 400000 in
theorem kind_any (w : World) (b e : Bool) : Calls Tryd.prog 53 #[.bool b, .bool e] w fun x w' => x = .returned (.int .u8 (kindN b e : Nat)) ∧ w = w' := by
  cases b <;> cases e
  all_goals
    go_enter Tryd.func53, Tryd.ntmps53
    go_wp2
    go_ret
    exact ⟨rfl, rfl⟩
/-- one byte and bytes, and the row of both -/
theorem head_parts (w : World) (k : Nat) (hk : k < 256) (A : Option Addr) (n c : Nat) (p : List UInt8) (h : Sl w 1 A n c (bc p)) :
    ∃ W : World, W = (w.alloc (.cells #[.int .u8 (k : Int)] 5)).alloc (.cells #[.slice (some ⟨w.heap.size, 0, none⟩) 1 1, .slice A n c] 22) ∧
    Below w.heap.size w W ∧ ∃ vs, Sl W 1 (some ⟨w.heap.size + 1, 0, none⟩) 2 2 vs ∧ PartsOf W vs [[UInt8.ofNat k], p] := by
  have b0 := (Below.refl w.heap.size w).alloc (Nat.le_refl _) (.cells #[.int .u8 (k : Int)] 5)
  have b1 := (Below.refl (w.alloc (.cells #[.int .u8 (k : Int)] 5)).heap.size _).alloc (Nat.le_refl _) (.cells #[.slice (some ⟨w.heap.size, 0, none⟩) 1 1, .slice A n c] 22)
  have b2 := b0.trans (b1.mono (by simp))
  refine ⟨_, rfl, b2, [.slice (some ⟨w.heap.size, 0, none⟩) 1 1, .slice A n c], ?_, rfl, ?_⟩
  · have := Sl.lit (w.alloc (.cells #[.int .u8 (k : Int)] 5)) 22 (0, 0) 2 #[.slice (some ⟨w.heap.size, 0, none⟩) 1 1, .slice A n c] _ rfl (by unfold maxLen; omega) rfl
    simpa only [World.size_alloc] using this
  · have s1 : Sl (w.alloc (.cells #[.int .u8 (k : Int)] 5)) 1 (some ⟨w.heap.size, 0, none⟩) 1 1 (bc [UInt8.ofNat k]) := Sl.lit w _ _ 1 _ _ rfl (by unfold maxLen; omega) (by simp [bc]; omega)
    have s1' := s1.below (by omega) b1
    have s2' := h.below (by omega) b2
    intro i v l hv hl
    rcases i with _ | _ | i
    · simp at hv hl; subst hv; subst hl; exact ⟨_, _, _, rfl, s1'⟩
    · simp at hv hl; subst hv; subst hl; exact ⟨_, _, _, rfl, s2'⟩
    · simp at hv
set_option maxHeartbeats 1000000 in
theorem piece_any (w : World) (k : Nat) (hk : k < 256) (A : Option Addr) (n c : Nat) (p : List UInt8) (h : Sl w 1 A n c (bc p)) (hq : Quarter w) (hn : n ≤ 70368744177664) :
    Calls Tryd.prog 52 #[.int .u8 (k : Int), .slice A n c] w (NewB w (pieceL k p)) := by
  have hl := h.lenb
  obtain ⟨W, hW, hb0, vs, hs, hp⟩ := head_parts w k hk A n c p h
  have hsum := sum_any W _ 2 2 vs _ hs hp (hq.below hb0)
  have e1 : [[UInt8.ofNat k], p].flatten = UInt8.ofNat k :: p := by simp
  rw [e1] at hsum
  have hsl := sumL_lt (UInt8.ofNat k :: p)
  have hpl : pieceL k p = (le4 (maskL (sumL (UInt8.ofNat k :: p))) ++ [UInt8.ofNat n, UInt8.ofNat (n / 256), UInt8.ofNat k]) ++ p := by unfold pieceL headL; rw [hl]
  have hml := maskL_lt (sumL (UInt8.ofNat k :: p))
  have hmk := mask_any W _ hsl
  rw [hpl]
  generalize sumL (UInt8.ofNat k :: p) = s at *
  generalize maskL s = m at *
  have h1 := h.below (by omega) hb0
  have Hsum := Lib.hid hsum
  have Hmk := Lib.hid hmk
  have Hl := Lib.hid hl
  clear hsum hmk e1 hpl hs hp hl
  go_enter Tryd.func52, Tryd.ntmps52
  go_wp2_with fail
  rw [← hW]
  clear hW
  refine Hsum.out.mono ?_
  rintro e w' ⟨rfl, rfl⟩
  go_wp2_with fail
  refine Hmk.out.mono ?_
  rintro e w' ⟨rfl, rfl⟩
  have hlit : OwnB (W.alloc (.cells #[.int .u8 ((m : Int) % 256), .int .u8 ((m : Int) / 256 % 256), .int .u8 ((m : Int) / 65536 % 256), .int .u8 ((m : Int) / 16777216), .int .u8 ((n : Int) % 256), .int .u8 ((n : Int) / 256 % 256), .int .u8 (k : Int)] 5)) w.heap.size (some ⟨W.heap.size, 0, none⟩) 7 7
      (le4 m ++ [UInt8.ofNat n, UInt8.ofNat (n / 256), UInt8.ofNat k]) :=
    Own.lit W _ _ 7 _ _ hb0.size rfl (by unfold maxLen; omega) (by simp [bc, le4]; omega)
  have hba := (Below.refl W.heap.size W).alloc (Nat.le_refl _) (.cells #[.int .u8 ((m : Int) % 256), .int .u8 ((m : Int) / 256 % 256), .int .u8 ((m : Int) / 65536 % 256), .int .u8 ((m : Int) / 16777216), .int .u8 ((n : Int) % 256), .int .u8 ((n : Int) / 256 % 256), .int .u8 (k : Int)] 5)
  have h2 := h1.below (by omega) hba
  have hb2 := hb0.trans (hba.mono hb0.size)
  go_wp2_with (at_builtin; refine wpList_appB _ rfl (.tmp 32) (.tmp 33) rfl w.heap.size _ 7 7 _ rfl hlit A n c p rfl h2 ?_ ?_ ?_)
  · omega
  · exact hb2.size
  intro A3 c3 w3 ho3 hg3 _
  have hb3 := hb2.grown hg3 hb2.size (fun b hb => (Own.lt hlit b hb).1)
  go_wp2
  go_ret
  exact ⟨A3, _, c3, rfl, ho3, hb3⟩
end Go.Proofs.YtpjinmiedanebaaDoor
