/-
  When a piece stands at a place: what is read there, in plain lists. Nothing of the program stands here.
-/
import Derived.Test.YthbmlkdijppkbaaDoorReelRec
namespace Go.Proofs.YthbmlkdijppkbaaDoor

theorem headL_get4 (k : Nat) (b : List UInt8) : (headL k b)[4]? = some (UInt8.ofNat b.length) := rfl
theorem headL_get5 (k : Nat) (b : List UInt8) : (headL k b)[5]? = some (UInt8.ofNat (b.length / 256)) := rfl
theorem headL_get6 (k : Nat) (b : List UInt8) : (headL k b)[6]? = some (UInt8.ofNat k) := rfl
theorem pieceL_get (k : Nat) (b : List UInt8) (i : Nat) (h : i < 7) : (pieceL k b)[i]? = (headL k b)[i]? := by
  unfold pieceL
  exact List.getElem?_append_left (by simpa using h)
/-- what stands where a piece does -/
theorem PieceAt.read {P : List UInt8} {a k e : Nat} {b : List UInt8} (h : PieceAt P a k b e) :
    a + 7 + b.length ≤ P.length ∧ P[a + 4]? = some (UInt8.ofNat b.length) ∧ P[a + 5]? = some (UInt8.ofNat (b.length / 256)) ∧ P[a + 6]? = some (UInt8.ofNat k) ∧
      (P.drop (a + 7)).take b.length = b ∧ (P.drop a).take (7 + b.length) = pieceL k b := by
  have hle := h.le
  obtain ⟨h1, h2, h3, h4, t, ht⟩ := h
  have g : ∀ i, i < 7 → P[a + i]? = (headL k b)[i]? := fun i hi => by
    rw [← List.getElem?_drop, ← ht, List.getElem?_append_left (by simp; omega), pieceL_get k b i hi]
  refine ⟨by omega, ?_, ?_, ?_, ?_, ?_⟩
  · rw [g 4 (by omega), headL_get4]
  · rw [g 5 (by omega), headL_get5]
  · rw [g 6 (by omega), headL_get6]
  · have e : P.drop (a + 7) = b ++ t := by
      rw [← List.drop_drop, ← ht]
      unfold pieceL
      rw [List.append_assoc, List.drop_left' (by simp)]
    rw [e, List.take_left]
  · rw [← ht, List.take_left' (by simp)]
/-- .. and the other way: N: what the bytes 4 and 5 say -/
theorem pieceAt_of {P : List UInt8} {a k N : Nat} (hk1 : 1 ≤ k) (hk4 : k ≤ 4) (h1 : a % 64 + 7 + N ≤ 64) (h2 : a + 7 + N ≤ P.length) (h3 : pieceL k ((P.drop (a + 7)).take N) = (P.drop a).take (7 + N)) :
    PieceAt P a k ((P.drop (a + 7)).take N) (a + 7 + N) := by
  have hl : ((P.drop (a + 7)).take N).length = N := by simp; omega
  refine ⟨hk1, hk4, by rw [hl]; exact h1, by rw [hl], ?_⟩
  rw [h3]
  exact List.take_prefix _ _
theorem len_bytes {x y n : Nat} (hn : n ≤ 57) (h1 : (UInt8.ofNat n).toNat = x) (h2 : (UInt8.ofNat (n / 256)).toNat = y) : x + 256 * y = n := by
  simp at h1 h2
  omega
end Go.Proofs.YthbmlkdijppkbaaDoor
