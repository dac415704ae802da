/-
  What reel's left, kind, pad, piece and Frame compute. The table lies in its variable; else no condition but sizes.
-/
import Derived.Test.YthbmlkdijppkbaaDoorZeros
import Derived.Test.YthbmlkdijppkbaaDoorParts
import Derived.Test.YthbmlkdijppkbaaDoorReelPlain
import Derived.Deep.RegionLaw
import Derived.Deep.DeepCutAuto
namespace Go.Proofs.YthbmlkdijppkbaaDoor
open Go.RowKit

set_option maxHeartbeats 400000 in
theorem left_any (w : World) (a : Nat) (ha : a ≤ 4611686018427387904) : Calls Tryd.prog 57 #[.int .i64 (a : Int)] w fun e w' => e = .returned (.int .i64 ((64 - a % 64 : Nat) : Int)) ∧ w = w' := by
  go_enter Tryd.func57, Tryd.ntmps57
  go_wp2
  go_ret
  exact ⟨ret_int (by omega), rfl⟩
set_option maxHeartbeats 400000 in
theorem pad_any (w : World) (a : Nat) (ha : a ≤ 4611686018427387904) : Calls Tryd.prog 56 #[.int .i64 (a : Int)] w fun e w' => e = .returned (.int .i64 (padN a : Nat)) ∧ w = w' := by
  by_cases h : 64 - a % 64 < 7
  · have e : padN a = 64 - a % 64 := by unfold padN; rw [if_pos h]
    rw [e]
    clear e
    have hc := left_any w a ha
    generalize 64 - a % 64 = x at *
    go_enter Tryd.func56, Tryd.ntmps56
    go_wp2_with fail
    refine hc.mono ?_
    rintro e w' ⟨rfl, rfl⟩
    go_wp2
    go_ret
    exact ⟨rfl, rfl⟩
  · have e : padN a = 0 := by unfold padN; rw [if_neg h]
    rw [e]
    clear e
    have hc := left_any w a ha
    generalize 64 - a % 64 = x at *
    go_enter Tryd.func56, Tryd.ntmps56
    go_wp2_with fail
    refine hc.mono ?_
    rintro e w' ⟨rfl, rfl⟩
    go_wp2
    go_ret
    exact ⟨rfl, rfl⟩
set_option maxHeartbeats 400000 in
theorem kind_any (w : World) (b e : Bool) : Calls Tryd.prog 59 #[.bool b, .bool e] w fun x w' => x = .returned (.int .u8 (kindN b e : Nat)) ∧ w = w' := by
  cases b <;> cases e
  all_goals
    go_enter Tryd.func59, Tryd.ntmps59
    go_wp2
    go_ret
    exact ⟨rfl, rfl⟩
/-- one byte and bytes, and the row of both -/
theorem head_parts (w : World) (k : Nat) (hk : k < 256) (A : Option Addr) (n c : Nat) (p : List UInt8) (h : Sl w 1 A n c (bc p)) :
    ∃ W : World, W = (w.alloc (.cells #[.int .u8 (k : Int)] 5)).alloc (.cells #[.slice (some ⟨w.heap.size, 0, none⟩) 1 1, .slice A n c] 24) ∧
    Below w.heap.size w W ∧ ∃ vs, Sl W 1 (some ⟨w.heap.size + 1, 0, none⟩) 2 2 vs ∧ PartsOf W vs [[UInt8.ofNat k], p] := by
  have b0 := (Below.refl w.heap.size w).alloc (Nat.le_refl _) (.cells #[.int .u8 (k : Int)] 5)
  have b1 := (Below.refl (w.alloc (.cells #[.int .u8 (k : Int)] 5)).heap.size _).alloc (Nat.le_refl _) (.cells #[.slice (some ⟨w.heap.size, 0, none⟩) 1 1, .slice A n c] 24)
  have b2 := b0.trans (b1.mono (by simp))
  refine ⟨_, rfl, b2, [.slice (some ⟨w.heap.size, 0, none⟩) 1 1, .slice A n c], ?_, rfl, ?_⟩
  · have := Sl.lit (w.alloc (.cells #[.int .u8 (k : Int)] 5)) 24 (0, 0) 2 #[.slice (some ⟨w.heap.size, 0, none⟩) 1 1, .slice A n c] _ rfl (by unfold maxLen; omega) rfl
    simpa only [World.size_alloc] using this
  · have s1 : Sl (w.alloc (.cells #[.int .u8 (k : Int)] 5)) 1 (some ⟨w.heap.size, 0, none⟩) 1 1 (bc [UInt8.ofNat k]) := Sl.lit w _ _ 1 _ _ rfl (by unfold maxLen; omega) (by simp [bc]; omega)
    have s1' := s1.below (by omega) b1
    have s2' := h.below (by omega) b2
    intro i v l hv hl
    rcases i with _ | _ | i
    · simp at hv hl; subst hv; subst hl; exact ⟨_, _, _, rfl, s1'⟩
    · simp at hv hl; subst hv; subst hl; exact ⟨_, _, _, rfl, s2'⟩
    · simp at hv
set_option maxHeartbeats 1000000 in
theorem piece_any (w : World) (k : Nat) (hk : k < 256) (A : Option Addr) (n c : Nat) (p : List UInt8) (h : Sl w 1 A n c (bc p)) (hq : Quarter w) (hn : n ≤ 70368744177664) :
    Calls Tryd.prog 58 #[.int .u8 (k : Int), .slice A n c] w (NewB w (pieceL k p)) := by
  have hl := h.lenb
  obtain ⟨W, hW, hb0, vs, hs, hp⟩ := head_parts w k hk A n c p h
  have hsum := sum_any W _ 2 2 vs _ hs hp (hq.below hb0)
  have e1 : [[UInt8.ofNat k], p].flatten = UInt8.ofNat k :: p := by simp
  rw [e1] at hsum
  have hsl := sumL_lt (UInt8.ofNat k :: p)
  have hpl : pieceL k p = (le4 (maskL (sumL (UInt8.ofNat k :: p))) ++ [UInt8.ofNat n, UInt8.ofNat (n / 256), UInt8.ofNat k]) ++ p := by unfold pieceL headL; rw [hl]
  have hml := maskL_lt (sumL (UInt8.ofNat k :: p))
  have hmk := mask_any W _ hsl
  rw [hpl]
  generalize sumL (UInt8.ofNat k :: p) = s at *
  generalize maskL s = m at *
  have h1 := h.below (by omega) hb0
  have Hsum := Lib.hid hsum
  have Hmk := Lib.hid hmk
  have Hl := Lib.hid hl
  clear hsum hmk e1 hpl hs hp hl
  go_enter Tryd.func58, Tryd.ntmps58
  go_wp2_with fail
  rw [← hW]
  clear hW
  refine Hsum.out.mono ?_
  rintro e w' ⟨rfl, rfl⟩
  go_wp2_with fail
  refine Hmk.out.mono ?_
  rintro e w' ⟨rfl, rfl⟩
  have hlit : OwnB (W.alloc (.cells #[.int .u8 ((m : Int) % 256), .int .u8 ((m : Int) / 256 % 256), .int .u8 ((m : Int) / 65536 % 256), .int .u8 ((m : Int) / 16777216), .int .u8 ((n : Int) % 256), .int .u8 ((n : Int) / 256 % 256), .int .u8 (k : Int)] 5)) w.heap.size (some ⟨W.heap.size, 0, none⟩) 7 7
      (le4 m ++ [UInt8.ofNat n, UInt8.ofNat (n / 256), UInt8.ofNat k]) :=
    Own.lit W _ _ 7 _ _ hb0.size rfl (by unfold maxLen; omega) (by simp [bc, le4]; omega)
  have hba := (Below.refl W.heap.size W).alloc (Nat.le_refl _) (.cells #[.int .u8 ((m : Int) % 256), .int .u8 ((m : Int) / 256 % 256), .int .u8 ((m : Int) / 65536 % 256), .int .u8 ((m : Int) / 16777216), .int .u8 ((n : Int) % 256), .int .u8 ((n : Int) / 256 % 256), .int .u8 (k : Int)] 5)
  have h2 := h1.below (by omega) hba
  have hb2 := hb0.trans (hba.mono hb0.size)
  go_wp2_with (at_builtin; refine wpList_appB _ rfl (.tmp 32) (.tmp 33) rfl w.heap.size _ 7 7 _ rfl hlit A n c p rfl h2 ?_ ?_ ?_)
  · omega
  · exact hb2.size
  intro A3 c3 w3 ho3 hg3 _
  have hb3 := hb2.grown hg3 hb2.size (fun b hb => (Own.lt hlit b hb).1)
  go_wp2
  go_ret
  exact ⟨A3, _, c3, rfl, ho3, hb3⟩
end Go.Proofs.YthbmlkdijppkbaaDoor
