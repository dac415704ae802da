/-
  An entry's cells: element k of a row of entries; a variable of four cells. No condition.
-/
import Derived.Test.YtpffieogkfndaaaGByt
namespace Go.Proofs.Ytpffieogkfndaaa
open Go.RowKit
set_option maxRecDepth 20000
section
variable {w w' : World} {p : Nat → Prop} {A : Option Addr} {n c : Nat}
theorem SlR.entAt {ls : List EntL} (h : SlR w p A n c ls) {k : Nat} (hk : k < n) : ∃ (b o : Nat) (A3 : Option Addr) (n3 c3 : Nat) (A4 : Option Addr) (n4 c4 : Nat) (hl : k < ls.length), A = some ⟨b, o, none⟩ ∧
    w.cell? ⟨b, o + k * 4, none⟩ = some (.slice A3 n3 c3) ∧ w.cell? ⟨b, o + k * 4 + 1, none⟩ = some (.int .u64 (ls[k].key.seq.toNat : Int)) ∧ w.cell? ⟨b, o + k * 4 + 2, none⟩ = some (.int .u8 (ls[k].key.kind.toNat : Int)) ∧ w.cell? ⟨b, o + k * 4 + 3, none⟩ = some (.slice A4 n4 c4) ∧
    Sl w 1 A3 n3 c3 (bc ls[k].key.user) ∧ Sl w 1 A4 n4 c4 (bc ls[k].value) := by
  obtain ⟨b, o, x, cs, rfl, hx, ⟨v, v', rfl, hk', hv⟩, hcell⟩ := h.get hk
  obtain ⟨A3, n3, c3, rfl, hs3, _⟩ := hk'
  obtain ⟨A4, n4, c4, rfl, hs4, _⟩ := hv
  obtain ⟨hjl, rfl⟩ := List.getElem?_eq_some_iff.1 hx
  exact ⟨b, o, A3, n3, c3, A4, n4, c4, hjl, rfl, hcell 0 _ rfl, hcell 1 _ rfl, hcell 2 _ rfl, hcell 3 _ rfl, hs3, hs4⟩
end
/-- a variable of four cells that the call has boxed in block g -/
structure Bx4 (w : World) (g : Nat) (u0 u1 u2 u3 : Value) : Prop where
  c0 : w.cell? ⟨g, 0, none⟩ = some u0
  c1 : w.cell? ⟨g, 1, none⟩ = some u1
  c2 : w.cell? ⟨g, 2, none⟩ = some u2
  c3 : w.cell? ⟨g, 3, none⟩ = some u3
  fr : ∀ j : Nat, w.frozen? ⟨g, j, none⟩ = false
theorem Bx4.lt {w : World} {g : Nat} {u0 u1 u2 u3 : Value} (h : Bx4 w g u0 u1 u2 u3) : g < w.heap.size := World.block_lt_of_cell? _ _ h.c0
theorem Bx4.below {w w' : World} {g : Nat} {u0 u1 u2 u3 : Value} (h : Bx4 w g u0 u1 u2 u3) (hb : Below w.heap.size w w') : Bx4 w' g u0 u1 u2 u3 :=
  ⟨stays hb h.c0, stays hb h.c1, stays hb h.c2, stays hb h.c3, fun j => (hb.frozen (p := ⟨g, j, none⟩) h.lt).trans (h.fr j)⟩
theorem Bx4.fresh (w : World) (u0 u1 u2 u3 : Value) (e : TypeId) : Bx4 (w.alloc (.cells #[u0, u1, u2, u3] e)) w.heap.size u0 u1 u2 u3 := by
  have h := boxed (Below.refl _ _) (box1 w (.cells #[u0, u1, u2, u3] e))
  exact ⟨h.1 0 _ rfl, h.1 1 _ rfl, h.1 2 _ rfl, h.1 3 _ rfl, h.2⟩
theorem Bx4.drew {w : World} {g : Nat} {u0 u1 u2 u3 : Value} (h : Bx4 w g u0 u1 u2 u3) : Bx4 w.drew g u0 u1 u2 u3 := ⟨h.c0, h.c1, h.c2, h.c3, h.fr⟩
theorem Bx4.grownO {w w' : World} {g : Nat} {row : Option Nat} {u0 u1 u2 u3 : Value} (h : Bx4 w g u0 u1 u2 u3) (hg : w.grownBy w' row) (hne : row ≠ some g) : Bx4 w' g u0 u1 u2 u3 := by
  have hh : w'.heap[g]? = w.heap[g]? := hg.block g h.lt (fun e => hne e.symm)
  have hc : ∀ j : Nat, w'.cell? ⟨g, j, none⟩ = w.cell? ⟨g, j, none⟩ := fun j => World.cell?_of_block (a := ⟨g, j, none⟩) hh
  exact ⟨(hc 0).trans h.c0, (hc 1).trans h.c1, (hc 2).trans h.c2, (hc 3).trans h.c3, fun j => (World.frozen?_of_block (a := ⟨g, j, none⟩) hh).trans (h.fr j)⟩
theorem Bx4.set {w : World} {g : Nat} {u0 u1 u2 u3 v0 v1 v2 v3 : Value} (h : Bx4 w g u0 u1 u2 u3) :
    Bx4 ((((w.setCell ⟨g, 0, none⟩ v0).setCell ⟨g, 1, none⟩ v1).setCell ⟨g, 2, none⟩ v2).setCell ⟨g, 3, none⟩ v3) g v0 v1 v2 v3 ∧ w.grownBy ((((w.setCell ⟨g, 0, none⟩ v0).setCell ⟨g, 1, none⟩ v1).setCell ⟨g, 2, none⟩ v2).setCell ⟨g, 3, none⟩ v3) (some g) := by
  refine ⟨⟨set_other (set_other (set_other (set_same h.c0 _) _ (by omega)) _ (by omega)) _ (by omega), set_other (set_other (set_same (set_other h.c1 _ (by omega)) _) _ (by omega)) _ (by omega), set_other (set_same (set_other (set_other h.c2 _ (by omega)) _ (by omega)) _) _ (by omega), set_same (set_other (set_other (set_other h.c3 _ (by omega)) _ (by omega)) _ (by omega)) _, fun j => ?_⟩, ?_⟩
  · simp [h.fr]
  · exact only_set (only_set (only_set (only_set (World.grownBy.refl _ _) 0 v0) 1 v1) 2 v2) 3 v3
theorem parts_nil (w : World) : PartsOf w [] [] := ⟨rfl, fun i v l hv => by simp at hv⟩
theorem parts_cons {w : World} {A : Option Addr} {n c : Nat} {l : List UInt8} {vs : List Value} {ls : List (List UInt8)} (h : Sl w 1 A n c (bc l)) (hp : PartsOf w vs ls) : PartsOf w (.slice A n c :: vs) (l :: ls) := by
  refine ⟨by simp [hp.1], fun i v m hv hm => ?_⟩
  cases i with
  | zero =>
    simp at hv hm
    subst hv hm
    exact ⟨A, n, c, rfl, h⟩
  | succ i => exact hp.2 i v m (by simpa using hv) (by simpa using hm)
end Go.Proofs.Ytpffieogkfndaaa
