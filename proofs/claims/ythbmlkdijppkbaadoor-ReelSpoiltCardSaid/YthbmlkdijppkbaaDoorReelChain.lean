/-
  Pieces one behind the other, in plain lists. Nothing of the program stands here.
-/
import Derived.Test.YthbmlkdijppkbaaDoorReelPieceL
namespace Go.Proofs.YthbmlkdijppkbaaDoor

/-- from a on there are frames, to the end -/
inductive Chain (P : List UInt8) : Nat → Prop
  | done : Chain P P.length
  | frame (a : Nat) (b : Bool) (r : List UInt8) : frameL a b r <+: P.drop a → Chain P (a + (frameL a b r).length) → Chain P a
theorem Chain.le {P : List UInt8} {a : Nat} (h : Chain P a) : a ≤ P.length := by
  cases h with
  | done => exact Nat.le_refl _
  | frame _ b r h1 h2 =>
    have h3 := h1.length_le
    have h4 := frameL_pos a b r
    simp at h3
    omega
theorem Chain.step {P : List UInt8} {a : Nat} (h : Chain P a) (ha : a < P.length) : ∃ k x e, PieceAt P (a + padN a) k x e ∧ (P.drop a).take (padN a) = List.replicate (padN a) 0 ∧ Chain P e := by
  cases h with
  | done => exact absurd ha (Nat.lt_irrefl _)
  | frame _ b r h1 h2 =>
    obtain ⟨f1, f2⟩ := frame_piece h1
    refine ⟨_, _, _, f1, ?_, ?_⟩
    · obtain ⟨t, ht⟩ := h1
      rw [← ht, frameL_eq, List.append_assoc]
      exact List.take_left' (by simp)
    · cases he : endsAt a r with
      | true =>
        have hr : r.length ≤ roomN a := by simpa [endsAt] using he
        rw [frameL_end a b r hr] at h2
        rw [List.take_of_length_le hr]
        have e : a + (List.replicate (padN a) 0 ++ pieceL (kindN b true) r).length = a + padN a + 7 + r.length := by simp; omega
        rwa [e] at h2
      | false =>
        have hr : ¬ r.length ≤ roomN a := by simpa [endsAt] using he
        have hl : (r.take (roomN a)).length = roomN a := by simp; omega
        rw [hl]
        refine .frame _ false (r.drop (roomN a)) (f2 he) ?_
        rw [frameL_go a b r hr] at h2
        have e : a + (List.replicate (padN a) 0 ++ pieceL (kindN b false) (r.take (roomN a)) ++ frameL (a + padN a + 7 + roomN a) false (r.drop (roomN a))).length = a + padN a + 7 + roomN a + (frameL (a + padN a + 7 + roomN a) false (r.drop (roomN a))).length := by simp [hl]; omega
        rwa [e] at h2
theorem chain_from (ls : List (List UInt8)) : ∀ k, k ≤ ls.length → Chain (allL ls) (allL (ls.take (ls.length - k))).length
  | 0, _ => by
    rw [Nat.sub_zero, List.take_length]
    exact .done
  | k + 1, hk => by
    have ih := chain_from ls k (by omega)
    have hi : ls.length - (k + 1) < ls.length := by omega
    have e1 := allL_step ls (ls.length - (k + 1)) hi
    rw [show ls.length - (k + 1) + 1 = ls.length - k by omega] at e1
    refine .frame _ true ls[ls.length - (k + 1)] ?_ ?_
    · obtain ⟨t, ht⟩ := allL_take_le ls (ls.length - k)
      rw [e1, List.append_assoc] at ht
      rw [← ht, List.drop_left]
      exact List.prefix_append _ _
    · rw [e1, List.length_append] at ih
      exact ih
theorem chain_all (ls : List (List UInt8)) : Chain (allL ls) 0 := by
  have h := chain_from ls ls.length (Nat.le_refl _)
  rw [Nat.sub_self, List.take_zero] at h
  exact h
theorem allL_le (m : Nat) (ls : List (List UInt8)) (h : ∀ l ∈ ls, l.length ≤ m) : ∀ k, (allL (ls.take k)).length ≤ (14 * m + 20) * k
  | 0 => by simp [allL]
  | k + 1 => by
    have ih := allL_le m ls h k
    by_cases hk : k < ls.length
    · rw [allL_step ls k hk, List.length_append]
      have h1 := (frameL_length (allL (ls.take k)).length true ls[k]).2
      have h2 := h ls[k] (List.getElem_mem hk)
      rw [Nat.mul_add, Nat.mul_one]
      split at h1 <;> omega
    · rw [List.take_of_length_le (by omega)] at ih ⊢
      rw [Nat.mul_add]
      omega
end Go.Proofs.YthbmlkdijppkbaaDoor
