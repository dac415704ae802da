/-
  A note's cells: element k of a row of notes. No condition.
-/
import Derived.Test.YtfonincdhjkacaaEnts
import Derived.Test.YtfonincdhjkacaaGLib
import Derived.Test.YtfonincdhjkacaaNotePlain
namespace Go.Proofs.Ytfonincdhjkacaa
open Go.RowKit
set_option maxRecDepth 20000
section
variable {w w' : World} {p : Nat → Prop} {A : Option Addr} {n c : Nat}
theorem SlR.noteAt {ls : List NoteL} (h : SlR w p A n c ls) {k : Nat} (hk : k < n) : ∃ (b o : Nat) (A3 : Option Addr) (n3 c3 : Nat) (A4 : Option Addr) (n4 c4 : Nat) (hl : k < ls.length), A = some ⟨b, o, none⟩ ∧
    w.cell? ⟨b, o + k * 4, none⟩ = some (.int .u8 (ls[k].kind.toNat : Int)) ∧ w.cell? ⟨b, o + k * 4 + 1, none⟩ = some (.int .u64 (ls[k].seq.toNat : Int)) ∧ w.cell? ⟨b, o + k * 4 + 2, none⟩ = some (.slice A3 n3 c3) ∧ w.cell? ⟨b, o + k * 4 + 3, none⟩ = some (.slice A4 n4 c4) ∧
    Sl w 1 A3 n3 c3 (bc ls[k].name) ∧ SlR w p A4 n4 c4 ls[k].ops := by
  obtain ⟨b, o, x, cs, rfl, hx, ⟨v, A4, n4, c4, rfl, hk', hv⟩, hcell⟩ := h.get hk
  obtain ⟨A3, n3, c3, rfl, hs3, _⟩ := hk'
  obtain ⟨hjl, rfl⟩ := List.getElem?_eq_some_iff.1 hx
  exact ⟨b, o, A3, n3, c3, A4, n4, c4, hjl, rfl, hcell 0 _ rfl, hcell 1 _ rfl, hcell 2 _ rfl, hcell 3 _ rfl, hs3, hv⟩
theorem OwnY.slB {B : Nat} {e t8 : TypeId} {ls : List OpL} (h : OwnY w B e t8 A n c ls) : SlR w (fun b => B ≤ b) A n c ls := by
  obtain ⟨xs, ho, hr⟩ := h
  exact ⟨xs, ho.sl, hr.move fun b _ hp => ⟨rfl, hp.2.1⟩, fun b hn e => (ho.lt b (by have := ho.cap; unfold blk; rw [if_neg (by omega)]; exact e)).1⟩
end
def noteV (x : NoteL) (A3 : Option Addr) (n3 c3 : Nat) (A4 : Option Addr) (n4 c4 : Nat) : Value := .agg #[.int .u8 (x.kind.toNat : Int), .int .u64 (x.seq.toNat : Int), .slice A3 n3 c3, .slice A4 n4 c4]
end Go.Proofs.Ytfonincdhjkacaa
