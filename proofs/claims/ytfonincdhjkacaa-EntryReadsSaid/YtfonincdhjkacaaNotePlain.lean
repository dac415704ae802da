/-
  Notes (a log's entries), plain: their form, their bytes, how they are read. No program stands here. No condition.
-/
import Derived.Test.YtfonincdhjkacaaGBat
namespace Go.Proofs.Ytfonincdhjkacaa
set_option maxRecDepth 20000
open Go.RowKit

/-- may it be noted? -/
def formL (n : NoteL) : Bool :=
  if checkOpsL n.ops ≠ 0 ∨ 72057594037927936 ≤ n.seq.toNat ∨ 32 < n.name.length then false
  else if n.kind.toNat = 1 then decide (n.seq.toNat ≠ 0 ∧ n.name.length = 0)
  else if n.kind.toNat = 2 then decide (n.seq.toNat = 0 ∧ n.name.length ≠ 0)
  else if n.kind.toNat = 3 then decide (n.seq.toNat ≠ 0 ∧ n.name.length ≠ 0 ∧ n.ops.length = 0)
  else if n.kind.toNat = 4 then decide (n.seq.toNat = 0 ∧ n.name.length ≠ 0 ∧ n.ops.length = 0)
  else false
def noteBytesL (n : NoteL) : List UInt8 := numL n.kind.toNat ++ (numL n.seq.toNat ++ (textL n.name ++ opsBytesL n.ops))
theorem form_bounds {n : NoteL} (h : formL n = true) : checkOpsL n.ops = 0 ∧ n.seq.toNat < 72057594037927936 ∧ n.name.length ≤ 32 ∧ 1 ≤ n.kind.toNat ∧ n.kind.toNat ≤ 4 := by
  unfold formL at h
  split at h
  · cases h
  · rename_i h1
    refine ⟨by omega, by omega, by omega, ?_⟩
    repeat' split at h
    all_goals first | omega | cases h
/-- what notes' bytes say: kind, number, name, what is behind -/
def notePartsL (p : List UInt8) : Option (Nat × Nat × List UInt8 × List UInt8) :=
  let a := takeL p
  let b := takeL a.2.1
  let c := takeTextL b.2.1 32
  if a.2.2 = 0 ∧ b.2.2 = 0 ∧ c.2.2 = 0 then some (a.1, b.1, c.1, c.2.1) else none
/-- the note of bytes -/
def readNoteL (p : List UInt8) : Option NoteL :=
  match notePartsL p with
  | none => none
  | some (k, s, name, q) => match readOpsL q with
    | none => none
    | some ops => if k ≤ 4 ∧ formL ⟨UInt8.ofNat k, UInt64.ofNat s, name, ops⟩ = true ∧ noteBytesL ⟨UInt8.ofNat k, UInt64.ofNat s, name, ops⟩ = p then some ⟨UInt8.ofNat k, UInt64.ofNat s, name, ops⟩ else none
theorem noteParts_of (n : NoteL) (h : formL n = true) : notePartsL (noteBytesL n) = some (n.kind.toNat, n.seq.toNat, n.name, opsBytesL n.ops) := by
  obtain ⟨_, h2, h3, _, _⟩ := form_bounds h
  have hk := n.kind.toNat_lt
  have e1 : takeL (noteBytesL n) = (n.kind.toNat, numL n.seq.toNat ++ (textL n.name ++ opsBytesL n.ops), 0) := take_num _ (by omega) _
  have e2 : takeL (numL n.seq.toNat ++ (textL n.name ++ opsBytesL n.ops)) = (n.seq.toNat, textL n.name ++ opsBytesL n.ops, 0) := take_num _ (by omega) _
  have e3 := take_text n.name (opsBytesL n.ops) (by omega) 32
  rw [if_pos h3] at e3
  unfold notePartsL
  have e3' : takeTextL (textL n.name ++ opsBytesL n.ops) 32 = (n.name, opsBytesL n.ops, 0) := e3
  simp only [e1, e2, e3']
  rfl
theorem readNote_iff (p : List UInt8) (n : NoteL) : readNoteL p = some n ↔ formL n = true ∧ noteBytesL n = p := by
  constructor
  · intro h
    unfold readNoteL at h
    split at h
    · cases h
    · split at h
      · cases h
      · split at h
        · rename_i h1
          obtain rfl := Option.some.inj h
          exact h1.2
        · cases h
  · rintro ⟨h1, rfl⟩
    obtain ⟨hc, _, _, hk1, hk4⟩ := form_bounds h1
    unfold readNoteL
    rw [noteParts_of n h1]
    simp only
    rw [(readOps_iff _ _).2 ⟨hc, rfl⟩]
    simp only
    have hk : UInt8.ofNat n.kind.toNat = n.kind := by simp
    have hs : UInt64.ofNat n.seq.toNat = n.seq := by simp
    rw [hk, hs]
    have e : (⟨n.kind, n.seq, n.name, n.ops⟩ : NoteL) = n := by cases n; rfl
    rw [e, if_pos ⟨hk4, h1, rfl⟩]
/-- TWO NOTES WITH THE SAME BYTES ARE ONE -/
theorem note_inj {a b : NoteL} (ha : formL a = true) (hb : formL b = true) (h : noteBytesL a = noteBytesL b) : a = b := by
  have h1 := (readNote_iff (noteBytesL a) a).2 ⟨ha, rfl⟩
  have h2 := (readNote_iff (noteBytesL a) b).2 ⟨hb, h.symm⟩
  rw [h1] at h2
  exact Option.some.inj h2
def cutNote (n : NoteL) : NoteL := { n with name := n.name.take 40, ops := fewOps n.ops 66 }
def fewNotes (l : List NoteL) (n : Nat) : List NoteL := (l.take n).map cutNote
end Go.Proofs.Ytfonincdhjkacaa
