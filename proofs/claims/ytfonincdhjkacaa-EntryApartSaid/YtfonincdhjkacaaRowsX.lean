/-
  A row of records of the call's own whose records' bytes lie apart from the row itself: append to it. Nothing of the program stands here. No condition.
-/
import Derived.Test.YtfonincdhjkacaaRecs
namespace Go.Proofs.Ytfonincdhjkacaa
open Go.RowKit
set_option maxRecDepth 20000
section
variable {α : Type} [Rep α] {w w' : World} {B : Nat} {e : TypeId} {A : Option Addr} {n c : Nat} {ls : List α}
def OwnX (w : World) (B : Nat) (e : TypeId) (A : Option Addr) (n c : Nat) (ls : List α) : Prop :=
  ∃ xs, Own w B e (Rep.size α) A n c xs ∧ RowC w (fun b => blk A c ≠ some b) xs ls
theorem OwnX.nil (w : World) (B : Nat) (e : TypeId) (A : Option Addr) : OwnX w B e A 0 0 ([] : List α) := ⟨[], Own.nil _ _ _ _ _, rfl⟩
theorem OwnX.sl (h : OwnX w B e A n c ls) : SlR w (fun _ => True) A n c ls := by
  obtain ⟨xs, ho, hr⟩ := h
  exact ⟨xs, ho.sl, hr.move fun _ _ _ => ⟨rfl, trivial⟩, fun _ _ _ => trivial⟩
theorem OwnX.lenR (h : OwnX w B e A n c ls) : ls.length = n := h.sl.lenR
theorem OwnX.lt (h : OwnX w B e A n c ls) : ∀ b, blk A c = some b → B ≤ b ∧ b < w.heap.size := by
  obtain ⟨xs, ho, _⟩ := h
  exact fun b hb => Own.lt ho b hb
theorem OwnX.below (h : OwnX w B e A n c ls) (hb : Below w.heap.size w w') : OwnX w' B e A n c ls := by
  obtain ⟨xs, ho, hr⟩ := h
  exact ⟨xs, ho.below hb, hr.move fun b hl hp => ⟨hb.block b hl, hp⟩⟩
theorem OwnX.mono {B' : Nat} (h : OwnX w B e A n c ls) (hB : B' ≤ B) : OwnX w B' e A n c ls := by
  obtain ⟨xs, ho, hr⟩ := h
  exact ⟨xs, ho.mono hB, hr⟩
/-- another block was written -/
theorem OwnX.grown {g : Nat} {row : Option Nat} (h : OwnX w B e A n c ls) (hg : w.grownBy w' row) (h1 : ∀ b, row = some b → g ≤ b) (h2 : w.heap.size ≤ g) : OwnX w' B e A n c ls := by
  obtain ⟨xs, ho, hr⟩ := h
  refine ⟨xs, ho.grown hg fun b hb q => ?_, hr.move fun b hl hp => ⟨hg.block b hl fun q => ?_, hp⟩⟩
  · have := (ho.lt b hb).2
    have := h1 b q
    omega
  · have := h1 b q.symm
    omega
theorem row_app (P : Program) (w : World) (t ty : TypeId) (z : Value) (bytes : Nat) (ht : P.underlying t = some (.slice e)) (hi : (P.info? e).map (fun i => (i.zero, i.size, i.bytes)) = some (some z, Rep.size α, bytes))
    (hzs : z.cells.size = Rep.size α) (hown : OwnX w B e A n c ls)
    (A2 : Option Addr) (m c2 : Nat) (ms : List α) (hs : ∃ xs, Sl w (Rep.size α) A2 m c2 xs ∧ RowC w (fun b => blk A c ≠ some b) xs ms)
    (h63 : n + m ≤ maxLen) (hbytes : (n + m) * bytes ≤ 140737488355328) (hB : B ≤ w.heap.size) :
    ∃ A' c' w', (Builtin.append_ #[t, t] ty #[.slice A n c, .slice A2 m c2]).run P w = .ok (.slice A' (n + m) c') w' ∧ OwnX w' B e A' (n + m) c' (ls ++ ms) ∧ w.grownBy w' (blk A c) ∧ (blk A' c' = blk A c ∨ blk A' c' = some w.heap.size) := by
  obtain ⟨i, hi1, hz, hs1, hb1⟩ := info_parts hi
  obtain ⟨xs, hO, hR⟩ := hown
  obtain ⟨ys, hS, hR2⟩ := hs
  obtain ⟨A', c', w', hrun, h2, h3, h4⟩ := run_append_own2 (P := P) w B t ty e i z (Rep.size α) bytes ht hi1 hz hs1 hb1 hzs A n c xs hO A2 m c2 ys hS hR2.one h63 hbytes hB
  have mv : ∀ b, b < w.heap.size → blk A c ≠ some b → w'.heap[b]? = w.heap[b]? ∧ blk A' c' ≠ some b := fun b hl hp => by
    refine ⟨h3.block b hl (fun q => hp q.symm), ?_⟩
    rcases h4 with q | q
    · rw [q]; exact hp
    · rw [q]
      intro r
      simp at r
      omega
  exact ⟨A', c', w', hrun, ⟨_, h2, (hR.move mv).append (hR2.move mv)⟩, h3, h4⟩
theorem wpList_appX {P : Program} (w : World) {ops : Array Oper} {rest : List Oper} {o : Oper} {a : Act} {Q : Exit → Act → World → Prop} (hgd : o.guard = none) (s x : Operand) (t : TypeId)
    (ho : o.op = .call { callee := .builtin .append, args := #[s, x], argTypes := #[t, t] })
    (B : Nat) (e : TypeId) (z : Value) (bytes : Nat) (ht : P.underlying t = some (.slice e)) (hi : (P.info? e).map (fun i => (i.zero, i.size, i.bytes)) = some (some z, Rep.size α, bytes))
    (hzs : z.cells.size = Rep.size α)
    (A : Option Addr) (n c : Nat) (ls : List α) (hsv : a.eval s = .slice A n c) (hown : OwnX w B e A n c ls)
    (A2 : Option Addr) (m c2 : Nat) (ms : List α) (hx : a.eval x = .slice A2 m c2) (hs : ∃ xs, Sl w (Rep.size α) A2 m c2 xs ∧ RowC w (fun b => blk A c ≠ some b) xs ms)
    (h63 : n + m ≤ maxLen) (hbytes : (n + m) * bytes ≤ 140737488355328) (hB : B ≤ w.heap.size)
    (h : ∀ A' c' w', OwnX w' B e A' (n + m) c' (ls ++ ms) → w.grownBy w' (blk A c) → (blk A' c' = blk A c ∨ blk A' c' = some w.heap.size) → wpList P ops Q rest (a.put o.dst (.slice A' (n + m) c')) w') : wpList P ops Q (o :: rest) a w := by
  obtain ⟨A', c', w', hrun, h2, h3, h4⟩ := row_app P w t o.type z bytes ht hi hzs hown A2 m c2 ms hs h63 hbytes hB
  refine wpList_plain hgd fun _ hK => ?_
  unfold Oper.wp execOp
  simp only [ho, resolve, invoke, builtin, Sem.run_bind, Sem.run_pure, Result.andThen_ok, List.map_toArray, List.map_cons, List.map_nil, hsv, hx, hrun]
  exact hK _ _ (h A' c' w' h2 h3 h4)
end
end Go.Proofs.Ytfonincdhjkacaa
