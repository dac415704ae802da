/-
  Range, Spans in one text. No condition but sizes.
-/
import Derived.RangeFuncNested
import Derived.RangeFuncBound
import Derived.RangeFuncCalls
import Derived.RangeFuncLeaves
import Derived.Shelf.Abstract
import Derived.Shelf.RegionOpen
import Derived.WalkKit
import Derived.OwnWalkIn
import Derived.TacticsInMore
import Derived.LoopNIn
import Derived.LoopIn
import Derived.Test.YtpffieogkfndaaaGreatDoorJRowsX
import Derived.Test.YtpffieogkfndaaaGreatDoorJRowsL
import Derived.Test.YtpffieogkfndaaaGreatDoorJTabPlain
namespace Go.Proofs.YtpffieogkfndaaaGreatDoor
set_option maxRecDepth 20000
set_option linter.unusedVariables false
set_option linter.unusedSimpArgs false
open Go.RowKit

attribute [local go_sem] Oper.semAt_some

theorem range_one {F : Fence} {n : Nat} {P : Program} {α : Type} {g : Operand} {p q rid : Nat} {ty : TypeId} {pos : String} {body : Code} {Q : Exit → Act → World → Prop} {a : Act} {w : World}
    (hro : F.round = none) (h1 : 1 ≤ n) {gf : Nat} {lb : Array Value} (hg : a.eval g = .func (.func gf) #[] lb) (hFg : F.fn gf) (eg : ∀ args w, (callFunc gf args).run P w = .ok (.enter gf args) w)
    {enc : α → Value} {Kp : World → World → Prop} {S Sp : List α → Prop} {N : Nat} {w0 : World} (hseq : SeqStopsK F (n - 1) P gf lb (fun x => #[enc x]) Kp S Sp N w0)
    (hKt : ∀ {A B C : World}, Kp A B → Kp B C → Kp A C) (hKb : ∀ (W : World) (l : Nat) (o o' : Obj), w.heap.size ≤ l → W.heap[l]? = some o → o.isCells = false → o.isWalk = false → Kp W (W.putObj l o')) (hb0 : Below w0.heap.size w0 w)
    (I : List α → World → Prop) (Ix : Code → List α → World → Prop) (hI : OwnFrom w.heap.size I) (hIx : ∀ c, OwnFrom w.heap.size (Ix c)) (h0 : I [] w) (hp : p < a.tmps.size)
    (hbody : ∀ (l : Nat) (pre : List α) (x : α) (W : World), I pre W → pre.length < N → body.wpIn (F.inRound l) (n - 1 - 1) P (ownPostK Kp I Ix (pre ++ [x]) W) { tmps := (a.tmps.setIfInBounds p (enc x)).setIfInBounds q (enc x), defers := [] } W)
    (hdone : ∀ (D : Nat) (xs : List α) (W : World), w.heap.size ≤ D → S xs → I xs W → W.heap[D]? = some (.deferred (some [])) → Q .normal { a with defers := { target := .collected D, args := #[] } :: a.defers } W)
    (hstop : ∀ (D : Nat) (c : Code) (pre : List α) (W : World), w.heap.size ≤ D → Sp pre → Ix c pre W → W.heap[D]? = some (.deferred (some [])) → c.wpIn F n P Q { a with defers := { target := .collected D, args := #[] } :: a.defers } W) :
    (Code.rangeFunc g #[p] (.region rid #[{ dst := some q, op := Op.assign (.tmp p), type := ty, pos := pos, after := #[], guard := none }] false) body).wpIn F n P Q a w := by
  refine wpIn_rangeFunc_ownF hro h1 hg hFg eg hseq hKt hKb hb0 (fun _ => rfl) I Ix hI hIx h0 (fun x => { tmps := (a.tmps.setIfInBounds p (enc x)).setIfInBounds q (enc x), defers := [] }) ?_ hbody hdone hstop
  intro l x W K hK
  have e : (a.tmps.setIfInBounds p (enc x))[p]? = some (enc x) := by simp [hp]
  gi_wp2
  exact hK
end Go.Proofs.YtpffieogkfndaaaGreatDoor

namespace Go.Proofs.YtpffieogkfndaaaGreatDoor
set_option maxRecDepth 20000
set_option linter.unusedVariables false
set_option linter.unusedSimpArgs false
open Go.RowKit
/-- a span's places in a row -/
theorem SlR.spanAt {w : World} {p : Nat → Prop} {A : Option Addr} {n c : Nat} {ls : List SpanL} (h : SlR w p A n c ls) {k : Nat} (hk : k < n) : ∃ (b o : Nat) (A3 : Option Addr) (n3 c3 : Nat) (A4 : Option Addr) (n4 c4 : Nat) (hl : k < ls.length), A = some ⟨b, o, none⟩ ∧
    w.cell? ⟨b, o + k * 3, none⟩ = some (.slice A3 n3 c3) ∧ w.cell? ⟨b, o + k * 3 + 1, none⟩ = some (.slice A4 n4 c4) ∧ w.cell? ⟨b, o + k * 3 + 2, none⟩ = some (.int .u64 (ls[k].seq.toNat : Int)) ∧
    Sl w 1 A3 n3 c3 (bc ls[k].lo) ∧ (∀ b, 0 < n3 → A3.map (·.block) = some b → p b) ∧ Sl w 1 A4 n4 c4 (bc ls[k].hi) ∧ (∀ b, 0 < n4 → A4.map (·.block) = some b → p b) := by
  obtain ⟨b, o, x, cs, rfl, hx, ⟨v, v', rfl, hk', hv⟩, hcell⟩ := h.get hk
  obtain ⟨A3, n3, c3, rfl, hs3, h3⟩ := hk'
  obtain ⟨A4, n4, c4, rfl, hs4, h4⟩ := hv
  obtain ⟨hjl, rfl⟩ := List.getElem?_eq_some_iff.1 hx
  exact ⟨b, o, A3, n3, c3, A4, n4, c4, hjl, rfl, hcell 0 _ rfl, hcell 1 _ rfl, hcell 2 _ rfl, hs3, h3, hs4, h4⟩
/-- a row of one span, just made -/
theorem spanRow (w : World) (x : SpanL) (s : Nat) (hs : x.seq.toNat = s) (p : Nat → Prop) (A3 : Option Addr) (n3 c3 : Nat) (A4 : Option Addr) (n4 c4 : Nat) (s3 : Sl w 1 A3 n3 c3 (bc x.lo)) (h3 : ∀ b, 0 < n3 → A3.map (·.block) = some b → p b) (s4 : Sl w 1 A4 n4 c4 (bc x.hi)) (h4 : ∀ b, 0 < n4 → A4.map (·.block) = some b → p b) (e : TypeId) :
    ∃ xs, Sl (w.alloc (.cells #[.slice A3 n3 c3, .slice A4 n4 c4, .int .u64 (s : Int)] e)) 3 (some ⟨w.heap.size, 0, none⟩) 1 1 xs ∧ RowC (w.alloc (.cells #[.slice A3 n3 c3, .slice A4 n4 c4, .int .u64 (s : Int)] e)) p xs [x] := by
  subst hs
  have al := (Below.refl w.heap.size w).alloc (Nat.le_refl _) (.cells #[.slice A3 n3 c3, .slice A4 n4 c4, .int .u64 (x.seq.toNat : Int)] e)
  exact ⟨_, ⟨rfl, Nat.le_refl _, by unfold maxLen; omega, fun _ => ⟨w.heap.size, 0, rfl, fun j u hu => by rw [cell_of_row _ _ _ _ _ _ (heap_alloc_new w _)]; simpa [u64v] using hu⟩⟩, RowC.single ⟨_, _, rfl, ⟨A3, n3, c3, rfl, s3.below (by omega) al, h3⟩, ⟨A4, n4, c4, rfl, s4.below (by omega) al, h4⟩⟩⟩
theorem infoSpan : (Tryz.prog.info? 72).map (fun i => (i.zero, i.size, i.bytes)) = some (some (.agg #[.slice none 0 0, .slice none 0 0, .int .u64 0]), 3, 56) := by kernel_rfl
def rightSpans (l : List SpanL) : List SpanL := l.filter fun s => decide (checkSpanL s = 0)
theorem rightSpans_all (l : List SpanL) (h : ∀ s ∈ l, checkSpanL s = 0) : rightSpans l = l := by
  unfold rightSpans
  rw [List.filter_eq_self]
  intro s hs
  simpa using h s hs
end Go.Proofs.YtpffieogkfndaaaGreatDoor
