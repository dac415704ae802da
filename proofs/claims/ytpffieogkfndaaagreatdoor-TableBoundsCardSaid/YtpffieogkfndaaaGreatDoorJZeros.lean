/-
  BytesEq, Parts, Ops, Guarded, Zeros in one text. No condition but sizes.
-/
import Derived.Test.YtpffieogkfndaaaGreatDoorJHeldF
namespace Go.Proofs.YtpffieogkfndaaaGreatDoor
set_option maxRecDepth 20000
set_option linter.unusedVariables false
set_option linter.unusedSimpArgs false
open Go.RowKit

set_option maxHeartbeats 400000 in
/-- bytes.Equal: of two -/
theorem equal_any (w : World) (A1 : Option Addr) (n1 c1 : Nat) (l1 : List UInt8) (A2 : Option Addr) (n2 c2 : Nat) (l2 : List UInt8) (h1 : Sl w 1 A1 n1 c1 (bc l1)) (h2 : Sl w 1 A2 n2 c2 (bc l2)) :
    Calls Tryz.prog 68 #[.slice A1 n1 c1, .slice A2 n2 c2] w fun e w' => e = .returned (.bool (l1 == l2)) ∧ w = w' := by
  obtain ⟨s1, e1, r1⟩ := run_conv w A1 n1 c1 l1 h1
  obtain ⟨s2, e2, r2⟩ := run_conv w A2 n2 c2 l2 h2
  have E1 := Lib.hid e1
  have E2 := Lib.hid e2
  clear e1 e2 h1 h2
  go_enter Tryz.func68, Tryz.ntmps68
  go_wp2
  go_ret
  refine ⟨ret_bool ?_, rfl⟩
  rw [E1.out, E2.out]

theorem equal_is (w : World) (A1 : Option Addr) (n1 c1 : Nat) (l1 : List UInt8) (A2 : Option Addr) (n2 c2 : Nat) (l2 : List UInt8) (b : Bool) (hb : Hid ((l1 == l2) = b)) (h1 : Sl w 1 A1 n1 c1 (bc l1)) (h2 : Sl w 1 A2 n2 c2 (bc l2)) :
    Calls Tryz.prog 68 #[.slice A1 n1 c1, .slice A2 n2 c2] w fun e w' => e = .returned (.bool b) ∧ w = w' := by
  rw [← hb.out]
  exact equal_any w A1 n1 c1 l1 A2 n2 c2 l2 h1 h2
end Go.Proofs.YtpffieogkfndaaaGreatDoor

namespace Go.Proofs.YtpffieogkfndaaaGreatDoor
set_option maxRecDepth 20000
set_option linter.unusedVariables false
set_option linter.unusedSimpArgs false
open Go.RowKit

theorem infoP : (Tryz.prog.info? 29).map (fun i => (i.zero, i.size, i.bytes)) = some (some (.slice none 0 0), 1, 24) := by kernel_rfl

/-- rows of unlike element types lie apart -/
theorem own_apart {w : World} {B B' e e' size size' n n' c c' : Nat} {A A' : Option Addr} {xs xs' : List Value} (h : Own w B e size A n c xs) (h' : Own w B' e' size' A' n' c' xs') (he : e ≠ e') : ∀ b, blk A c = some b → blk A' c' ≠ some b := by
  intro b hb hb'
  unfold blk at hb hb'
  split at hb
  · cases hb
  · split at hb'
    · cases hb'
    · obtain ⟨g, o, cur, rfl, _, hh, _⟩ := h.row (by omega)
      obtain ⟨g', o', cur', rfl, _, hh', _⟩ := h'.row (by omega)
      simp at hb hb'
      subst hb
      subst hb'
      rw [hh] at hh'
      injection hh' with hh'
      injection hh' with _ hh' _
      exact he hh'
/-- the values vs are byte slices of the texts ls, each in memory of the call's own from block B on, none in block X -/
def OwnParts (w : World) (B : Nat) (X : Option Nat) (vs : List Value) (ls : List (List UInt8)) : Prop :=
  vs.length = ls.length ∧ ∀ (i : Nat) (v : Value) (l : List UInt8), vs[i]? = some v → ls[i]? = some l → ∃ (A : Option Addr) (n c : Nat), v = Value.slice A n c ∧ OwnB w B A n c l ∧ ∀ b, blk A c = some b → X ≠ some b
section
variable {w w' : World} {B B' : Nat} {X X' : Option Nat} {vs : List Value} {ls : List (List UInt8)}
theorem OwnParts.nil (w : World) (B : Nat) (X : Option Nat) : OwnParts w B X [] [] := ⟨rfl, fun i v l hv => by simp at hv⟩
theorem OwnParts.parts (h : OwnParts w B X vs ls) : PartsOf w vs ls :=
  ⟨h.1, fun i v l hv hl => by
    obtain ⟨A, n, c, e, ho, _⟩ := h.2 i v l hv hl
    exact ⟨A, n, c, e, ho.sl⟩⟩
theorem OwnParts.below (h : OwnParts w B X vs ls) (hb : Below w.heap.size w w') : OwnParts w' B X vs ls :=
  ⟨h.1, fun i v l hv hl => by
    obtain ⟨A, n, c, e, ho, hx⟩ := h.2 i v l hv hl
    exact ⟨A, n, c, e, Own.below ho hb, hx⟩⟩
theorem OwnParts.mono (h : OwnParts w B X vs ls) (hB : B' ≤ B) : OwnParts w B' X vs ls :=
  ⟨h.1, fun i v l hv hl => by
    obtain ⟨A, n, c, e, ho, hx⟩ := h.2 i v l hv hl
    exact ⟨A, n, c, e, Own.mono ho hB, hx⟩⟩
end

end Go.Proofs.YtpffieogkfndaaaGreatDoor

namespace Go.Proofs.YtpffieogkfndaaaGreatDoor
open Go.RowKit
set_option maxRecDepth 20000
set_option linter.unusedVariables false
set_option linter.unusedSimpArgs false
section
variable {w w' : World} {p : Nat → Prop} {A : Option Addr} {n c : Nat}
/-- a row of lists of bytes, as parts -/
theorem RowC.parts : ∀ {xs : List Value} {ls : List (List UInt8)}, RowC w p xs ls → PartsOf w xs ls
  | _, [], h => by
    obtain rfl : _ = [] := h
    exact ⟨rfl, fun i v l hv => by simp at hv⟩
  | _, a :: ls, h => by
    obtain ⟨cs, ys, rfl, ⟨v, rfl, A, n, c, rfl, hs, _⟩, hr⟩ := h
    have ih := hr.parts
    refine ⟨by simp [ih.1], fun i u l hu hl => ?_⟩
    cases i with
    | zero =>
      simp at hu hl
      subst hu
      subst hl
      exact ⟨A, n, c, rfl, hs⟩
    | succ i =>
      simp at hu hl
      exact ih.2 i u l hu hl
theorem OwnR.parts {B : Nat} {e : TypeId} {ls : List (List UInt8)} (h : OwnR w B e A n c ls) : ∃ vs, Sl w 1 A n c vs ∧ PartsOf w vs ls := by
  obtain ⟨xs, ho, hr⟩ := h
  exact ⟨xs, ho.sl, hr.parts⟩
/-- what lies at a variable of two cells that the call has boxed in block g -/
structure Bx2 (w : World) (g : Nat) (u0 u1 : Value) : Prop where
  c0 : w.cell? ⟨g, 0, none⟩ = some u0
  c1 : w.cell? ⟨g, 1, none⟩ = some u1
theorem Bx2.below {g : Nat} {u0 u1 : Value} (h : Bx2 w g u0 u1) (hb : Below w.heap.size w w') : Bx2 w' g u0 u1 := ⟨stays hb h.c0, stays hb h.c1⟩
theorem Bx2.fresh (w : World) (u0 u1 : Value) (e : TypeId) : Bx2 (w.alloc (.cells #[u0, u1] e)) w.heap.size u0 u1 := by
  have h := boxed (Below.refl _ _) (box1 w (.cells #[u0, u1] e))
  exact ⟨h.1 0 _ rfl, h.1 1 _ rfl⟩
theorem Bx2.lt {g : Nat} {u0 u1 : Value} (h : Bx2 w g u0 u1) : g < w.heap.size := World.block_lt_of_cell? _ _ h.c0
theorem Bx2.grownO {g : Nat} {row : Option Nat} {u0 u1 : Value} (h : Bx2 w g u0 u1) (hg : w.grownBy w' row) (hne : row ≠ some g) : Bx2 w' g u0 u1 := by
  have hh : w'.heap[g]? = w.heap[g]? := hg.block g h.lt (fun e => hne e.symm)
  have hc : ∀ j : Nat, w'.cell? ⟨g, j, none⟩ = w.cell? ⟨g, j, none⟩ := fun j => World.cell?_of_block (a := ⟨g, j, none⟩) hh
  exact ⟨(hc 0).trans h.c0, (hc 1).trans h.c1⟩
end
end Go.Proofs.YtpffieogkfndaaaGreatDoor

namespace Go.Proofs.YtpffieogkfndaaaGreatDoor
set_option maxRecDepth 20000
set_option linter.unusedVariables false
set_option linter.unusedSimpArgs false
open Go.RowKit

end Go.Proofs.YtpffieogkfndaaaGreatDoor

namespace Go.Proofs.YtpffieogkfndaaaGreatDoor
set_option maxRecDepth 20000
set_option linter.unusedVariables false
set_option linter.unusedSimpArgs false
open Go.RowKit

section
variable {P : Program} (w : World)
end
/-- append of bytes to bytes of the call's own, as one step of a region that draws its order -/
theorem step_appB {ops : Array Oper} {o : Oper} {a : Act} {w : World} {K : Act → World → Prop} {Q : Exit → Act → World → Prop} {E : Prop} (hgd : o.guard = none) (s x : Operand)
    (ho : o.op = .call { callee := .builtin .append, args := #[s, x], argTypes := #[29, 29] })
    (B : Nat) (A : Option Addr) (n c : Nat) (l : List UInt8) (hsv : a.eval s = .slice A n c) (hown : OwnB w B A n c l)
    (A2 : Option Addr) (m c2 : Nat) (l2 : List UInt8) (hx : a.eval x = .slice A2 m c2) (hs : Sl w 1 A2 m c2 (bc l2))
    (hbytes : n + m ≤ 140737488355328) (hB : B ≤ w.heap.size)
    (h : ∀ A' c' w', OwnB w' B A' (n + m) c' (l ++ l2) → w.grownBy w' (blk A c) → (blk A' c' = blk A c ∨ blk A' c' = some w.heap.size) → K (a.put o.dst (.slice A' (n + m) c')) w') :
    if Region.wanted o (yielded ops a.tmps) = true then Oper.wp Tryz.prog o a w K Q else E := by
  have hw : Region.wanted o (yielded ops a.tmps) = true := by simp [Region.wanted, hgd]
  rw [if_pos hw]
  obtain ⟨i, hi, hz, hs1, hb1⟩ := info_parts infoB
  obtain ⟨A', c', w', hrun, h2, h3, h4⟩ := run_append_own2 (P := Tryz.prog) w B 29 o.type _ i _ 1 1 Tryz.underlying29 hi hz hs1 hb1 rfl A n c (bc l) hown A2 m c2 (bc l2) hs (bc_one _) (by unfold maxLen; omega) (by omega) hB
  unfold Oper.wp execOp
  simp only [ho, resolve, invoke, builtin, Sem.run_bind, Sem.run_pure, Result.andThen_ok, List.map_toArray, List.map_cons, List.map_nil, hsv, hx, hrun]
  exact h A' c' w' (by unfold OwnB; rw [bc_append]; exact h2) h3 h4
end Go.Proofs.YtpffieogkfndaaaGreatDoor
