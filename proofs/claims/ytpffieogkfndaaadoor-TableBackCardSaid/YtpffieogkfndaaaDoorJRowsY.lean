/-
  Ents, AtomRef, RowsX, Range, RowsY in one text. No condition but sizes.
-/
import Derived.Test.YtpffieogkfndaaaDoorJAtomWalk
import Derived.Test.YtpffieogkfndaaaDoorJHeldF
import Derived.RangeFuncNested
import Derived.RangeFuncBound
import Derived.RangeFuncCalls
import Derived.RangeFuncLeaves
import Derived.Shelf.Abstract
import Derived.Shelf.RegionOpen
import Derived.WalkKit
import Derived.OwnWalkIn
import Derived.TacticsInMore
import Derived.LoopNIn
import Derived.LoopIn
namespace Go.Proofs.YtpffieogkfndaaaDoor
open Go.RowKit
set_option maxRecDepth 20000
set_option linter.unusedVariables false
set_option linter.unusedSimpArgs false
section
variable {w w' : World} {p : Nat → Prop} {A : Option Addr} {n c : Nat}
theorem SlR.entAt {ls : List EntL} (h : SlR w p A n c ls) {k : Nat} (hk : k < n) : ∃ (b o : Nat) (A3 : Option Addr) (n3 c3 : Nat) (A4 : Option Addr) (n4 c4 : Nat) (hl : k < ls.length), A = some ⟨b, o, none⟩ ∧
    w.cell? ⟨b, o + k * 4, none⟩ = some (.slice A3 n3 c3) ∧ w.cell? ⟨b, o + k * 4 + 1, none⟩ = some (.int .u64 (ls[k].key.seq.toNat : Int)) ∧ w.cell? ⟨b, o + k * 4 + 2, none⟩ = some (.int .u8 (ls[k].key.kind.toNat : Int)) ∧ w.cell? ⟨b, o + k * 4 + 3, none⟩ = some (.slice A4 n4 c4) ∧
    Sl w 1 A3 n3 c3 (bc ls[k].key.user) ∧ Sl w 1 A4 n4 c4 (bc ls[k].value) := by
  obtain ⟨b, o, x, cs, rfl, hx, ⟨v, v', rfl, hk', hv⟩, hcell⟩ := h.get hk
  obtain ⟨A3, n3, c3, rfl, hs3, _⟩ := hk'
  obtain ⟨A4, n4, c4, rfl, hs4, _⟩ := hv
  obtain ⟨hjl, rfl⟩ := List.getElem?_eq_some_iff.1 hx
  exact ⟨b, o, A3, n3, c3, A4, n4, c4, hjl, rfl, hcell 0 _ rfl, hcell 1 _ rfl, hcell 2 _ rfl, hcell 3 _ rfl, hs3, hs4⟩
end
/-- a variable of four cells that the call has boxed in block g -/
structure Bx4 (w : World) (g : Nat) (u0 u1 u2 u3 : Value) : Prop where
  c0 : w.cell? ⟨g, 0, none⟩ = some u0
  c1 : w.cell? ⟨g, 1, none⟩ = some u1
  c2 : w.cell? ⟨g, 2, none⟩ = some u2
  c3 : w.cell? ⟨g, 3, none⟩ = some u3
  fr : ∀ j : Nat, w.frozen? ⟨g, j, none⟩ = false
theorem Bx4.lt {w : World} {g : Nat} {u0 u1 u2 u3 : Value} (h : Bx4 w g u0 u1 u2 u3) : g < w.heap.size := World.block_lt_of_cell? _ _ h.c0
theorem Bx4.below {w w' : World} {g : Nat} {u0 u1 u2 u3 : Value} (h : Bx4 w g u0 u1 u2 u3) (hb : Below w.heap.size w w') : Bx4 w' g u0 u1 u2 u3 :=
  ⟨stays hb h.c0, stays hb h.c1, stays hb h.c2, stays hb h.c3, fun j => (hb.frozen (p := ⟨g, j, none⟩) h.lt).trans (h.fr j)⟩
theorem Bx4.fresh (w : World) (u0 u1 u2 u3 : Value) (e : TypeId) : Bx4 (w.alloc (.cells #[u0, u1, u2, u3] e)) w.heap.size u0 u1 u2 u3 := by
  have h := boxed (Below.refl _ _) (box1 w (.cells #[u0, u1, u2, u3] e))
  exact ⟨h.1 0 _ rfl, h.1 1 _ rfl, h.1 2 _ rfl, h.1 3 _ rfl, h.2⟩
theorem Bx4.drew {w : World} {g : Nat} {u0 u1 u2 u3 : Value} (h : Bx4 w g u0 u1 u2 u3) : Bx4 w.drew g u0 u1 u2 u3 := ⟨h.c0, h.c1, h.c2, h.c3, h.fr⟩
theorem Bx4.grownO {w w' : World} {g : Nat} {row : Option Nat} {u0 u1 u2 u3 : Value} (h : Bx4 w g u0 u1 u2 u3) (hg : w.grownBy w' row) (hne : row ≠ some g) : Bx4 w' g u0 u1 u2 u3 := by
  have hh : w'.heap[g]? = w.heap[g]? := hg.block g h.lt (fun e => hne e.symm)
  have hc : ∀ j : Nat, w'.cell? ⟨g, j, none⟩ = w.cell? ⟨g, j, none⟩ := fun j => World.cell?_of_block (a := ⟨g, j, none⟩) hh
  exact ⟨(hc 0).trans h.c0, (hc 1).trans h.c1, (hc 2).trans h.c2, (hc 3).trans h.c3, fun j => (World.frozen?_of_block (a := ⟨g, j, none⟩) hh).trans (h.fr j)⟩
theorem Bx4.set {w : World} {g : Nat} {u0 u1 u2 u3 v0 v1 v2 v3 : Value} (h : Bx4 w g u0 u1 u2 u3) :
    Bx4 ((((w.setCell ⟨g, 0, none⟩ v0).setCell ⟨g, 1, none⟩ v1).setCell ⟨g, 2, none⟩ v2).setCell ⟨g, 3, none⟩ v3) g v0 v1 v2 v3 ∧ w.grownBy ((((w.setCell ⟨g, 0, none⟩ v0).setCell ⟨g, 1, none⟩ v1).setCell ⟨g, 2, none⟩ v2).setCell ⟨g, 3, none⟩ v3) (some g) := by
  refine ⟨⟨set_other (set_other (set_other (set_same h.c0 _) _ (by omega)) _ (by omega)) _ (by omega), set_other (set_other (set_same (set_other h.c1 _ (by omega)) _) _ (by omega)) _ (by omega), set_other (set_same (set_other (set_other h.c2 _ (by omega)) _ (by omega)) _) _ (by omega), set_same (set_other (set_other (set_other h.c3 _ (by omega)) _ (by omega)) _ (by omega)) _, fun j => ?_⟩, ?_⟩
  · simp [h.fr]
  · exact only_set (only_set (only_set (only_set (World.grownBy.refl _ _) 0 v0) 1 v1) 2 v2) 3 v3
theorem parts_nil (w : World) : PartsOf w [] [] := ⟨rfl, fun i v l hv => by simp at hv⟩
theorem parts_cons {w : World} {A : Option Addr} {n c : Nat} {l : List UInt8} {vs : List Value} {ls : List (List UInt8)} (h : Sl w 1 A n c (bc l)) (hp : PartsOf w vs ls) : PartsOf w (.slice A n c :: vs) (l :: ls) := by
  refine ⟨by simp [hp.1], fun i v m hv hm => ?_⟩
  cases i with
  | zero =>
    simp at hv hm
    subst hv hm
    exact ⟨A, n, c, rfl, h⟩
  | succ i => exact hp.2 i v m (by simpa using hv) (by simpa using hm)
end Go.Proofs.YtpffieogkfndaaaDoor

namespace Go.Proofs.YtpffieogkfndaaaDoor
set_option maxRecDepth 20000
set_option linter.unusedVariables false
set_option linter.unusedSimpArgs false
open Go.RowKit

/-- how long a slice is -/
def lenOfV : Value → Nat
  | .slice _ n _ => n
  | _ => 0
end Go.Proofs.YtpffieogkfndaaaDoor

namespace Go.Proofs.YtpffieogkfndaaaDoor
open Go.RowKit
set_option maxRecDepth 20000
set_option linter.unusedVariables false
set_option linter.unusedSimpArgs false
section
variable {α : Type} [Rep α] {w w' : World} {B : Nat} {e : TypeId} {A : Option Addr} {n c : Nat} {ls : List α}
def OwnX (w : World) (B : Nat) (e : TypeId) (A : Option Addr) (n c : Nat) (ls : List α) : Prop :=
  ∃ xs, Own w B e (Rep.size α) A n c xs ∧ RowC w (fun b => blk A c ≠ some b) xs ls
theorem OwnX.nil (w : World) (B : Nat) (e : TypeId) (A : Option Addr) : OwnX w B e A 0 0 ([] : List α) := ⟨[], Own.nil _ _ _ _ _, rfl⟩
theorem OwnX.sl (h : OwnX w B e A n c ls) : SlR w (fun _ => True) A n c ls := by
  obtain ⟨xs, ho, hr⟩ := h
  exact ⟨xs, ho.sl, hr.move fun _ _ _ => ⟨rfl, trivial⟩, fun _ _ _ => trivial⟩
theorem OwnX.lenR (h : OwnX w B e A n c ls) : ls.length = n := h.sl.lenR
theorem OwnX.lt (h : OwnX w B e A n c ls) : ∀ b, blk A c = some b → B ≤ b ∧ b < w.heap.size := by
  obtain ⟨xs, ho, _⟩ := h
  exact fun b hb => Own.lt ho b hb
theorem OwnX.below (h : OwnX w B e A n c ls) (hb : Below w.heap.size w w') : OwnX w' B e A n c ls := by
  obtain ⟨xs, ho, hr⟩ := h
  exact ⟨xs, ho.below hb, hr.move fun b hl hp => ⟨hb.block b hl, hp⟩⟩
theorem OwnX.mono {B' : Nat} (h : OwnX w B e A n c ls) (hB : B' ≤ B) : OwnX w B' e A n c ls := by
  obtain ⟨xs, ho, hr⟩ := h
  exact ⟨xs, ho.mono hB, hr⟩
/-- another block was written -/
theorem OwnX.grown {g : Nat} {row : Option Nat} (h : OwnX w B e A n c ls) (hg : w.grownBy w' row) (h1 : ∀ b, row = some b → g ≤ b) (h2 : w.heap.size ≤ g) : OwnX w' B e A n c ls := by
  obtain ⟨xs, ho, hr⟩ := h
  refine ⟨xs, ho.grown hg fun b hb q => ?_, hr.move fun b hl hp => ⟨hg.block b hl fun q => ?_, hp⟩⟩
  · have := (ho.lt b hb).2
    have := h1 b q
    omega
  · have := h1 b q.symm
    omega
theorem row_app (P : Program) (w : World) (t ty : TypeId) (z : Value) (bytes : Nat) (ht : P.underlying t = some (.slice e)) (hi : (P.info? e).map (fun i => (i.zero, i.size, i.bytes)) = some (some z, Rep.size α, bytes))
    (hzs : z.cells.size = Rep.size α) (hown : OwnX w B e A n c ls)
    (A2 : Option Addr) (m c2 : Nat) (ms : List α) (hs : ∃ xs, Sl w (Rep.size α) A2 m c2 xs ∧ RowC w (fun b => blk A c ≠ some b) xs ms)
    (h63 : n + m ≤ maxLen) (hbytes : (n + m) * bytes ≤ 140737488355328) (hB : B ≤ w.heap.size) :
    ∃ A' c' w', (Builtin.append_ #[t, t] ty #[.slice A n c, .slice A2 m c2]).run P w = .ok (.slice A' (n + m) c') w' ∧ OwnX w' B e A' (n + m) c' (ls ++ ms) ∧ w.grownBy w' (blk A c) ∧ (blk A' c' = blk A c ∨ blk A' c' = some w.heap.size) := by
  obtain ⟨i, hi1, hz, hs1, hb1⟩ := info_parts hi
  obtain ⟨xs, hO, hR⟩ := hown
  obtain ⟨ys, hS, hR2⟩ := hs
  obtain ⟨A', c', w', hrun, h2, h3, h4⟩ := run_append_own2 (P := P) w B t ty e i z (Rep.size α) bytes ht hi1 hz hs1 hb1 hzs A n c xs hO A2 m c2 ys hS hR2.one h63 hbytes hB
  have mv : ∀ b, b < w.heap.size → blk A c ≠ some b → w'.heap[b]? = w.heap[b]? ∧ blk A' c' ≠ some b := fun b hl hp => by
    refine ⟨h3.block b hl (fun q => hp q.symm), ?_⟩
    rcases h4 with q | q
    · rw [q]; exact hp
    · rw [q]
      intro r
      simp at r
      omega
  exact ⟨A', c', w', hrun, ⟨_, h2, (hR.move mv).append (hR2.move mv)⟩, h3, h4⟩
end
end Go.Proofs.YtpffieogkfndaaaDoor

namespace Go.Proofs.YtpffieogkfndaaaDoor
set_option maxRecDepth 20000
set_option linter.unusedVariables false
set_option linter.unusedSimpArgs false
open Go.RowKit

attribute [local go_sem] Oper.semAt_some

theorem range_one {F : Fence} {n : Nat} {P : Program} {α : Type} {g : Operand} {p q rid : Nat} {ty : TypeId} {pos : String} {body : Code} {Q : Exit → Act → World → Prop} {a : Act} {w : World}
    (hro : F.round = none) (h1 : 1 ≤ n) {gf : Nat} {lb : Array Value} (hg : a.eval g = .func (.func gf) #[] lb) (hFg : F.fn gf) (eg : ∀ args w, (callFunc gf args).run P w = .ok (.enter gf args) w)
    {enc : α → Value} {Kp : World → World → Prop} {S Sp : List α → Prop} {N : Nat} {w0 : World} (hseq : SeqStopsK F (n - 1) P gf lb (fun x => #[enc x]) Kp S Sp N w0)
    (hKt : ∀ {A B C : World}, Kp A B → Kp B C → Kp A C) (hKb : ∀ (W : World) (l : Nat) (o o' : Obj), w.heap.size ≤ l → W.heap[l]? = some o → o.isCells = false → o.isWalk = false → Kp W (W.putObj l o')) (hb0 : Below w0.heap.size w0 w)
    (I : List α → World → Prop) (Ix : Code → List α → World → Prop) (hI : OwnFrom w.heap.size I) (hIx : ∀ c, OwnFrom w.heap.size (Ix c)) (h0 : I [] w) (hp : p < a.tmps.size)
    (hbody : ∀ (l : Nat) (pre : List α) (x : α) (W : World), I pre W → pre.length < N → body.wpIn (F.inRound l) (n - 1 - 1) P (ownPostK Kp I Ix (pre ++ [x]) W) { tmps := (a.tmps.setIfInBounds p (enc x)).setIfInBounds q (enc x), defers := [] } W)
    (hdone : ∀ (D : Nat) (xs : List α) (W : World), w.heap.size ≤ D → S xs → I xs W → W.heap[D]? = some (.deferred (some [])) → Q .normal { a with defers := { target := .collected D, args := #[] } :: a.defers } W)
    (hstop : ∀ (D : Nat) (c : Code) (pre : List α) (W : World), w.heap.size ≤ D → Sp pre → Ix c pre W → W.heap[D]? = some (.deferred (some [])) → c.wpIn F n P Q { a with defers := { target := .collected D, args := #[] } :: a.defers } W) :
    (Code.rangeFunc g #[p] (.region rid #[{ dst := some q, op := Op.assign (.tmp p), type := ty, pos := pos, after := #[], guard := none }] false) body).wpIn F n P Q a w := by
  refine wpIn_rangeFunc_ownF hro h1 hg hFg eg hseq hKt hKb hb0 (fun _ => rfl) I Ix hI hIx h0 (fun x => { tmps := (a.tmps.setIfInBounds p (enc x)).setIfInBounds q (enc x), defers := [] }) ?_ hbody hdone hstop
  intro l x W K hK
  have e : (a.tmps.setIfInBounds p (enc x))[p]? = some (enc x) := by simp [hp]
  gi_wp2
  exact hK
end Go.Proofs.YtpffieogkfndaaaDoor

namespace Go.Proofs.YtpffieogkfndaaaDoor
open Go.RowKit
set_option maxRecDepth 20000
set_option linter.unusedVariables false
set_option linter.unusedSimpArgs false
section
variable {α : Type} [Rep α] {w w' : World} {B : Nat} {e t8 : TypeId} {A : Option Addr} {n c : Nat} {ls : List α}
/-- block b is the call's own, a row of t8 that nothing has frozen -/
def OwnU (w : World) (B : Nat) (t8 : TypeId) (b : Nat) : Prop := B ≤ b ∧ ∃ cur, w.heap[b]? = some (.cells cur t8 (0, 0))
theorem OwnU.move {b : Nat} (h : OwnU w B t8 b) (e : w'.heap[b]? = w.heap[b]?) : OwnU w' B t8 b := by
  obtain ⟨h1, cur, h2⟩ := h
  exact ⟨h1, cur, e.trans h2⟩
theorem Own.ownU {size : Nat} {xs : List Value} (h : Own w B t8 size A n c xs) : ∀ b, 0 < n → A.map (·.block) = some b → OwnU w B t8 b := by
  intro b hn hb
  obtain ⟨g, o, cur, rfl, hg, hh, _⟩ := h.row (by have := h.cap; omega)
  simp at hb
  subst hb
  exact ⟨hg, cur, hh⟩
def OwnY (w : World) (B : Nat) (e t8 : TypeId) (A : Option Addr) (n c : Nat) (ls : List α) : Prop :=
  ∃ xs, Own w B e (Rep.size α) A n c xs ∧ RowC w (fun b => blk A c ≠ some b ∧ OwnU w B t8 b) xs ls
theorem OwnY.nil (w : World) (B : Nat) (e t8 : TypeId) (A : Option Addr) : OwnY w B e t8 A 0 0 ([] : List α) := ⟨[], Own.nil _ _ _ _ _, rfl⟩
theorem OwnY.sl (h : OwnY w B e t8 A n c ls) : SlR w (fun _ => True) A n c ls := by
  obtain ⟨xs, ho, hr⟩ := h
  exact ⟨xs, ho.sl, hr.move fun _ _ _ => ⟨rfl, trivial⟩, fun _ _ _ => trivial⟩
theorem OwnY.lenR (h : OwnY w B e t8 A n c ls) : ls.length = n := h.sl.lenR
theorem OwnY.lt (h : OwnY w B e t8 A n c ls) : ∀ b, blk A c = some b → B ≤ b ∧ b < w.heap.size := by
  obtain ⟨xs, ho, _⟩ := h
  exact fun b hb => Own.lt ho b hb
theorem OwnY.below (h : OwnY w B e t8 A n c ls) (hb : Below w.heap.size w w') : OwnY w' B e t8 A n c ls := by
  obtain ⟨xs, ho, hr⟩ := h
  exact ⟨xs, ho.below hb, hr.move fun b hl hp => ⟨hb.block b hl, hp.1, hp.2.move (hb.block b hl)⟩⟩
theorem OwnY.mono {B' : Nat} (h : OwnY w B e t8 A n c ls) (hB : B' ≤ B) : OwnY w B' e t8 A n c ls := by
  obtain ⟨xs, ho, hr⟩ := h
  exact ⟨xs, ho.mono hB, hr.move fun b _ hp => ⟨rfl, hp.1, Nat.le_trans hB hp.2.1, hp.2.2⟩⟩
/-- another block was written -/
theorem OwnY.grown {g : Nat} {row : Option Nat} (h : OwnY w B e t8 A n c ls) (hg : w.grownBy w' row) (h1 : ∀ b, row = some b → g ≤ b) (h2 : w.heap.size ≤ g) : OwnY w' B e t8 A n c ls := by
  obtain ⟨xs, ho, hr⟩ := h
  refine ⟨xs, ho.grown hg fun b hb q => ?_, hr.move fun b hl hp => ?_⟩
  · have := (ho.lt b hb).2
    have := h1 b q
    omega
  · have e := hg.block b hl fun q => by have := h1 b q.symm; omega
    exact ⟨e, hp.1, hp.2.move e⟩
end
end Go.Proofs.YtpffieogkfndaaaDoor
