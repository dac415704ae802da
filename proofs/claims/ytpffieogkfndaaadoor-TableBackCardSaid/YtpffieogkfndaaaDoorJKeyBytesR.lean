/-
  SealRef, KeyBytesR in one text. No condition but sizes.
-/
import Derived.Test.YtpffieogkfndaaaDoorJTabOpenP
import Derived.Test.YtpffieogkfndaaaDoorJKeyMake
import Derived.Test.YtpffieogkfndaaaDoorJHeldF
import Derived.Test.YtpffieogkfndaaaDoorJBridge
import Derived.Deep.CutRange
namespace Go.Proofs.YtpffieogkfndaaaDoor
set_option maxRecDepth 20000
set_option linter.unusedVariables false
set_option linter.unusedSimpArgs false
open Go.RowKit

/-- a row of bits of the call's own -/
def bools (N : Nat) (f : Nat → Bool) : List Value := (List.range N).map fun i => Value.bool (f i)
def OwnF (w : World) (B : Nat) (A : Option Addr) (N : Nat) (f : Nat → Bool) : Prop := Own w B 4 1 A N N (bools N f)
theorem bools_get (N : Nat) (f : Nat → Bool) (k : Nat) (h : k < N) : (bools N f)[k]? = some (.bool (f k)) := by simp [bools, h]
theorem bools_set (N : Nat) (f : Nat → Bool) (k : Nat) (v : Bool) : (bools N f).set k (.bool v) = bools N (fun j => if j = k then v else f j) := by
  apply List.ext_getElem?
  intro j
  simp only [bools, List.getElem?_set, List.getElem?_map, List.length_map, List.length_range]
  by_cases h : k = j
  · subst h
    by_cases hk : k < N
    · simp [hk]
    · simp [hk]
  · by_cases hj : j < N
    · simp [h, hj, Ne.symm h]
    · simp [h, hj]
theorem OwnF.place {w : World} {B : Nat} {g N : Nat} {f : Nat → Bool} (h : OwnF w B (some ⟨g, 0, none⟩) N f) {k : Nat} (hk : k < N) :
    w.cell? ⟨g, k, none⟩ = some (.bool (f k)) ∧ w.frozen? ⟨g, k, none⟩ = false := by
  obtain ⟨g', o, u, e, _, _, hu, hc, hf⟩ := Own.place h hk
  obtain ⟨rfl, rfl⟩ : g = g' ∧ 0 = o := by simpa using e
  rw [bools_get N f k hk] at hu
  obtain rfl := Option.some.inj hu
  rw [Nat.zero_add] at hc hf
  exact ⟨hc, hf⟩
theorem OwnF.stored {w : World} {B : Nat} {g N : Nat} {f : Nat → Bool} (h : OwnF w B (some ⟨g, 0, none⟩) N f) {k : Nat} (hk : k < N) (v : Bool) (f' : Nat → Bool) (hf : ∀ j, j < N → f' j = if j = k then v else f j) :
    OwnF (w.setCell ⟨g, k, none⟩ (.bool v)) B (some ⟨g, 0, none⟩) N f' := by
  have := Own.stored h hk (.bool v)
  rw [Nat.zero_add, bools_set] at this
  unfold OwnF
  have e : bools N f' = bools N (fun j => if j = k then v else f j) := by
    unfold bools
    apply List.map_congr_left
    intro j hj
    rw [hf j (by simpa using hj)]
  rw [e]
  exact this
theorem OwnF.congr {w : World} {B : Nat} {A : Option Addr} {N : Nat} {f f' : Nat → Bool} (h : OwnF w B A N f) (hf : ∀ j, j < N → f' j = f j) : OwnF w B A N f' := by
  unfold OwnF
  have e : bools N f' = bools N f := by
    unfold bools
    apply List.map_congr_left
    intro j hj
    rw [hf j (by simpa using hj)]
  rw [e]
  exact h
end Go.Proofs.YtpffieogkfndaaaDoor

namespace Go.Proofs.YtpffieogkfndaaaDoor
open Go.RowKit
set_option maxRecDepth 20000
set_option linter.unusedVariables false
set_option linter.unusedSimpArgs false
end Go.Proofs.YtpffieogkfndaaaDoor
