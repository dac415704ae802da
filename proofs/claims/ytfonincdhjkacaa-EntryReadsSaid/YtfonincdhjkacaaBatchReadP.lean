/-
  How ops are read one behind the other, plain. No program stands here. No condition.
-/
import Derived.Test.YtfonincdhjkacaaBatchReadW
import Derived.Test.YtfonincdhjkacaaGLib
namespace Go.Proofs.Ytfonincdhjkacaa
open Go.RowKit
set_option maxRecDepth 20000
def contN (outs : List OpL) (o : Option (List OpL × List UInt8)) : Option (List OpL × List UInt8) := o.map fun x => (outs ++ x.1, x.2)
theorem readN_step (kk km n : Nat) (p : List UInt8) : readNL kk km (n + 1) p = if okOpL kk km p = true then contN [(rawOpL km p).1] (readNL kk km n (rawOpL km p).2) else none := by
  simp only [readNL, readOp_raw]
  split
  · rename_i h
    split at h
    · cases h
    · rename_i h1
      rw [if_neg h1]
  · rename_i o q h
    split at h
    · rename_i h1
      rw [if_pos h1]
      obtain ⟨rfl, rfl⟩ : (rawOpL km p).1 = o ∧ (rawOpL km p).2 = q := by
        have := Option.some.inj h
        rw [this]
        exact ⟨rfl, rfl⟩
      unfold contN
      split
      · rename_i h2
        rw [h2]
        rfl
      · rename_i h2
        rw [h2]
        rfl
    · cases h
theorem contN_cont (a b : List OpL) (o : Option (List OpL × List UInt8)) : contN a (contN b o) = contN (a ++ b) o := by
  cases o with
  | none => rfl
  | some x => simp [contN]
theorem contN_nil (o : Option (List OpL × List UInt8)) : contN [] o = o := by
  cases o with
  | none => rfl
  | some x => rfl
/-- ops and an error's number that a call gives back -/
def GotOps (w : World) (r : Option (List OpL)) (e : Ending) (w' : World) : Prop :=
  ∃ A n c, e = .returned (.tuple #[.slice A n c, .int .i64 ((if r.isSome then 0 else 4 : Nat) : Int)]) ∧ SlR w' (fun _ => True) A n c (r.getD []) ∧ Below w.heap.size w w'
/-- .. they lie in new memory -/
def GotOpsN (w : World) (r : Option (List OpL)) (e : Ending) (w' : World) : Prop :=
  ∃ A n c, e = .returned (.tuple #[.slice A n c, .int .i64 ((if r.isSome then 0 else 4 : Nat) : Int)]) ∧ SlR w' (fun b => w.heap.size ≤ b) A n c (r.getD []) ∧ Below w.heap.size w w'
theorem GotOpsN.got {w w' : World} {r : Option (List OpL)} {e : Ending} (h : GotOpsN w r e w') : GotOps w r e w' := by
  obtain ⟨A, n, c, h1, h2, h3⟩ := h
  exact ⟨A, n, c, h1, h2.mono fun _ _ _ => trivial, h3⟩
theorem raw_len (km : Nat) (p : List UInt8) : (rawOpL km p).2.length ≤ p.length := by
  unfold rawOpL
  have h1 := takeL_len p
  have h2 := takeText_len (takeL p).2.1 km
  have h3 := takeText_len (takeTextL (takeL p).2.1 km).2.1 512
  simp only
  omega
/-- a row of one op, laid new, whose bytes lie apart from block X -/
theorem opRow (w : World) (q : Nat → Prop) (x : OpL) (A3 : Option Addr) (n3 c3 : Nat) (A4 : Option Addr) (n4 c4 : Nat) (s3 : Sl w 1 A3 n3 c3 (bc x.key)) (s4 : Sl w 1 A4 n4 c4 (bc x.value))
    (h3 : ∀ b, 0 < n3 → A3.map (·.block) = some b → q b) (h4 : ∀ b, 0 < n4 → A4.map (·.block) = some b → q b) :
    ∃ xs, Sl (w.alloc (.cells #[.int .u8 (x.kind.toNat : Int), .slice A3 n3 c3, .slice A4 n4 c4] 47)) 3 (some ⟨w.heap.size, 0, none⟩) 1 1 xs ∧ RowC (w.alloc (.cells #[.int .u8 (x.kind.toNat : Int), .slice A3 n3 c3, .slice A4 n4 c4] 47)) q xs [x] := by
  have al := (Below.refl w.heap.size w).alloc (Nat.le_refl _) (.cells #[.int .u8 (x.kind.toNat : Int), .slice A3 n3 c3, .slice A4 n4 c4] 47)
  exact ⟨_, ⟨rfl, Nat.le_refl _, by unfold maxLen; omega, fun _ => ⟨w.heap.size, 0, rfl, fun j u hu => by rw [cell_of_row _ _ _ _ _ _ (heap_alloc_new w _)]; simpa [u8v] using hu⟩⟩, RowC.single ⟨_, _, rfl, ⟨A3, n3, c3, rfl, s3.below (by omega) al, h3⟩, ⟨A4, n4, c4, rfl, s4.below (by omega) al, h4⟩⟩⟩
def GoX (w : World) (x : OpL) : Prop := ∀ (A3 : Option Addr) (n3 c3 : Nat) (A4 : Option Addr) (n4 c4 : Nat) (q : Nat → Prop), Sl w 1 A3 n3 c3 (bc x.key) → Sl w 1 A4 n4 c4 (bc x.value) →
    (∀ b, 0 < n3 → A3.map (·.block) = some b → q b) → (∀ b, 0 < n4 → A4.map (·.block) = some b → q b) →
    ∃ xs, Sl (w.alloc (.cells #[.int .u8 (x.kind.toNat : Int), .slice A3 n3 c3, .slice A4 n4 c4] 47)) 3 (some ⟨w.heap.size, 0, none⟩) 1 1 xs ∧ RowC (w.alloc (.cells #[.int .u8 (x.kind.toNat : Int), .slice A3 n3 c3, .slice A4 n4 c4] 47)) q xs [x]
end Go.Proofs.Ytfonincdhjkacaa
