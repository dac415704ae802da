/-
  What a record's frame is, in plain lists. Nothing of the program stands here.
-/
import Derived.Test.YthbmlkdijppkbaaDoorSealWalk
namespace Go.Proofs.YthbmlkdijppkbaaDoor

def padN (at_ : Nat) : Nat := if 64 - at_ % 64 < 7 then 64 - at_ % 64 else 0
def roomN (at_ : Nat) : Nat := 57 - (at_ + padN at_) % 64
theorem padN_le (a : Nat) : padN a ≤ 6 := by unfold padN; split <;> omega
theorem padN_mod (a : Nat) : padN (a % 64) = padN a := by unfold padN; rw [Nat.mod_mod]
theorem roomN_mod (a : Nat) : roomN (a % 64) = roomN a := by unfold roomN; rw [padN_mod]; congr 1; omega
theorem roomN_le (a : Nat) : roomN a ≤ 57 := by unfold roomN; omega
theorem room_at (a : Nat) : (a + padN a) % 64 + 7 + roomN a = 64 := by
  unfold roomN padN
  split <;> omega
theorem room_zero (a : Nat) (h : roomN a = 0) : a % 64 = 57 := by
  have := room_at a
  unfold padN at this
  split at this <;> omega
theorem room_go (a : Nat) : roomN (a + padN a + 7 + roomN a) = 57 := by
  have h1 := room_at a
  have h3 : (a + padN a + 7 + roomN a) % 64 = 0 := by omega
  generalize a + padN a + 7 + roomN a = x at *
  have h4 : padN x = 0 := by unfold padN; rw [h3]; rfl
  unfold roomN
  rw [h4]
  omega
theorem room_next (a : Nat) (h : roomN a = 0) : roomN (a + padN a + 7 + 0) = 57 := by
  have := room_go a
  rwa [h] at this
def kindN (b e : Bool) : Nat := match b, e with
  | true, true => 1
  | true, false => 2
  | false, true => 4
  | false, false => 3
theorem kindN_lt (b e : Bool) : kindN b e < 256 := by cases b <;> cases e <;> decide
def headL (k : Nat) (p : List UInt8) : List UInt8 := le4 (maskL (sumL (UInt8.ofNat k :: p))) ++ [UInt8.ofNat p.length, UInt8.ofNat (p.length / 256), UInt8.ofNat k]
def pieceL (k : Nat) (p : List UInt8) : List UInt8 := headL k p ++ p
@[simp] theorem headL_length (k : Nat) (p : List UInt8) : (headL k p).length = 7 := by simp [headL, le4]
@[simp] theorem pieceL_length (k : Nat) (p : List UInt8) : (pieceL k p).length = 7 + p.length := by simp [pieceL]

/-- a record's bytes at a place; b: does it begin here? -/
def frameL (a : Nat) (b : Bool) (p : List UInt8) : List UInt8 :=
  if h : p.length ≤ roomN a then List.replicate (padN a) 0 ++ pieceL (kindN b true) p
  else List.replicate (padN a) 0 ++ pieceL (kindN b false) (p.take (roomN a)) ++ frameL (a + padN a + 7 + roomN a) false (p.drop (roomN a))
termination_by 2 * p.length + (if roomN a = 0 then 1 else 0)
decreasing_by
  rw [List.length_drop]
  by_cases h0 : roomN a = 0
  · have := room_next a h0
    rw [h0, this]
    simp
  · rw [if_neg h0]
    split <;> omega
theorem frameL_end (a : Nat) (b : Bool) (p : List UInt8) (h : p.length ≤ roomN a) : frameL a b p = List.replicate (padN a) 0 ++ pieceL (kindN b true) p := by
  rw [frameL, dif_pos h]
theorem frameL_go (a : Nat) (b : Bool) (p : List UInt8) (h : ¬ p.length ≤ roomN a) :
    frameL a b p = List.replicate (padN a) 0 ++ pieceL (kindN b false) (p.take (roomN a)) ++ frameL (a + padN a + 7 + roomN a) false (p.drop (roomN a)) := by
  rw [frameL, dif_neg h]
theorem frameL_mod (a a' : Nat) (b : Bool) (p : List UInt8) (h : a % 64 = a' % 64) : frameL a b p = frameL a' b p := by
  have hp : padN a = padN a' := by rw [← padN_mod a, ← padN_mod a', h]
  have hr : roomN a = roomN a' := by rw [← roomN_mod a, ← roomN_mod a', h]
  by_cases hl : p.length ≤ roomN a
  · rw [frameL_end a b p hl, frameL_end a' b p (by omega), hp]
  · rw [frameL_go a b p hl, frameL_go a' b p (by omega), hp, hr, frameL_mod (a + padN a' + 7 + roomN a') (a' + padN a' + 7 + roomN a') false (p.drop (roomN a')) (by omega)]
termination_by 2 * p.length + (if roomN a = 0 then 1 else 0)
decreasing_by
  rw [List.length_drop, ← hp, ← hr]
  by_cases h0 : roomN a = 0
  · have := room_next a h0
    rw [h0, this]
    simp
  · rw [if_neg h0]
    split <;> omega
theorem frameL_length (a : Nat) (b : Bool) (p : List UInt8) : 7 + p.length ≤ (frameL a b p).length ∧ (frameL a b p).length ≤ 14 * p.length + 13 + (if roomN a = 0 then 7 else 0) := by
  have hpad := padN_le a
  by_cases hl : p.length ≤ roomN a
  · rw [frameL_end a b p hl]
    simp
    omega
  · have ih := frameL_length (a + padN a + 7 + roomN a) false (p.drop (roomN a))
    have hgo := room_go a
    have hz := room_zero a
    have hp0 : roomN a = 0 → padN a = 0 := fun h => by unfold padN; rw [if_neg (by have := hz h; omega)]
    rw [frameL_go a b p hl]
    rw [hgo, List.length_drop] at ih
    simp only [List.length_append, List.length_replicate, pieceL_length, List.length_take]
    generalize (frameL (a + padN a + 7 + roomN a) false (p.drop (roomN a))).length = F at *
    have e : min (roomN a) p.length = roomN a := by omega
    rw [e]
    by_cases h0 : roomN a = 0
    · have := hp0 h0
      rw [if_pos h0]
      rw [if_neg (by omega)] at ih
      omega
    · rw [if_neg h0]
      rw [if_neg (by omega)] at ih
      omega
termination_by 2 * p.length + (if roomN a = 0 then 1 else 0)
decreasing_by
  rw [List.length_drop]
  by_cases h0 : roomN a = 0
  · have := room_next a h0
    rw [h0, this]
    simp
  · rw [if_neg h0]
    split <;> omega
def framed (at_ : Int) (p : List UInt8) : List UInt8 × Nat :=
  if at_ < 0 then ([], 1) else if 65536 < p.length then ([], 3) else (frameL at_.toNat true p, 0)
end Go.Proofs.YthbmlkdijppkbaaDoor
