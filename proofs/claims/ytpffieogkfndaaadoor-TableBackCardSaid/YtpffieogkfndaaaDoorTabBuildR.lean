/-
  The reference's Build of a table. (Printed by genrbuild13.py.) No condition but sizes.
-/
import Derived.Test.YtpffieogkfndaaaDoorTabCheck
import Derived.Test.YtpffieogkfndaaaDoorLeafBuildR
import Derived.Test.YtpffieogkfndaaaDoorJKeyBytesR
import Derived.Test.YtpffieogkfndaaaDoorJBloomRef
import Derived.Test.YtpffieogkfndaaaDoorBloomRefB
import Derived.Test.YtpffieogkfndaaaDoorEntSort
import Derived.Test.YtpffieogkfndaaaDoorSetWalk
namespace Go.Proofs.YtpffieogkfndaaaDoor
open Go.RowKit
set_option maxRecDepth 20000
set_option linter.unusedVariables false
set_option linter.unusedSimpArgs false
theorem key_ok {k : KeyL} (h : checkKey k = 0) : keyBE k = (keyBytesL k, 0) := by
  unfold keyBE
  rw [if_pos h]
theorem leaf_ok {l : List EntL} (h : checkLeafL l = 0) : leafBE l = (leafBytesL l, 0) := by
  unfold leafBE
  rw [if_pos h]
theorem users_snoc (l : List EntL) (j : Nat) (hj : j < l.length) : usersL (l.take (j + 1)) = usersL (l.take j) ++ [l[j].key.user] := by
  unfold usersL
  rw [take_snoc _ _ hj, List.map_append]
  rfl
theorem ranges_snoc (l : List SpanL) (j : Nat) (hj : j < l.length) : rangesL (l.take (j + 1)) = rangesL (l.take j) ++ rangeL l[j] := by
  unfold rangesL
  rw [take_snoc _ _ hj, List.flatMap_append]
  simp
/-- users' row: what it holds lies below L -/
def UsersRel (w1 : World) (L : Nat) (ls : List EntL) (n : Nat) (uv iv : Value) (wr : World) : Prop :=
  ∃ (j : Nat) (A2 : Option Addr) (n2 c2 : Nat), iv = .int .i64 (j : Int) ∧ uv = .slice A2 n2 c2 ∧ j ≤ n ∧ Below w1.heap.size w1 wr ∧ OwnL wr w1.heap.size L 29 A2 n2 c2 (usersL (ls.take j))
def RangesRel (w2 : World) (sp : List SpanL) (n : Nat) (rv iv : Value) (wr : World) : Prop :=
  ∃ (j : Nat) (A2 : Option Addr) (n2 c2 : Nat), iv = .int .i64 (j : Int) ∧ rv = .slice A2 n2 c2 ∧ j ≤ n ∧ Below w2.heap.size w2 wr ∧ OwnB wr w2.heap.size A2 n2 c2 (rangesL (sp.take j))
theorem OwnL.parts {w : World} {B L : Nat} {e : TypeId} {A : Option Addr} {n c : Nat} {ls : List (List UInt8)} (h : OwnL w B L e A n c ls) : ∃ vs, Sl w 1 A n c vs ∧ PartsOf w vs ls := by
  obtain ⟨xs, ho, hr⟩ := h
  exact ⟨xs, ho.sl, hr.parts⟩
theorem userRow (w : World) (L : Nat) (A : Option Addr) (n c : Nat) (l : List UInt8) (s : Sl w 1 A n c (bc l)) (h : ∀ b, 0 < n → A.map (·.block) = some b → b < L) (e : TypeId) :
    ∃ xs, Sl (w.alloc (.cells #[.slice A n c] e)) 1 (some ⟨w.heap.size, 0, none⟩) 1 1 xs ∧ RowC (w.alloc (.cells #[.slice A n c] e)) (fun b => b < L) xs [l] := by
  have al := (Below.refl w.heap.size w).alloc (Nat.le_refl _) (.cells #[.slice A n c] e)
  exact ⟨_, ⟨rfl, Nat.le_refl _, by unfold maxLen; omega, fun _ => ⟨w.heap.size, 0, rfl, fun j u hu => by rw [cell_of_row _ _ _ _ _ _ (heap_alloc_new w _)]; simpa using hu⟩⟩, RowC.single ⟨_, rfl, ⟨A, n, c, rfl, s.below (by omega) al, h⟩⟩⟩
theorem apart_new {w : World} {B : Nat} {e : TypeId} {size n c : Nat} {A A' A2 : Option Addr} {c' c2 : Nat} {xs : List Value} (ho : Own w B e size A2 n c2 xs) (hap : ∀ b, blk A c = some b → blk A2 c2 ≠ some b) (hx : blk A' c' = blk A c ∨ blk A' c' = some w.heap.size) : ∀ b, blk A' c' = some b → blk A2 c2 ≠ some b := fun b q r => by
  rcases hx with e | e
  · exact hap b (e ▸ q) r
  · have := (Own.lt ho b r).2
    rw [e] at q
    have := Option.some.inj q
    omega
end Go.Proofs.YtpffieogkfndaaaDoor
