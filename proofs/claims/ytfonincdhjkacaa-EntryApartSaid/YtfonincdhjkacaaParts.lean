/-
  Lists of bytes over this program: rows of slices that the call itself makes, each of its own memory. No condition but sizes.
-/
import Derived.Test.YtfonincdhjkacaaBytes
namespace Go.Proofs.Ytfonincdhjkacaa
set_option maxRecDepth 20000
open Go.RowKit

theorem infoP : (Try.prog.info? 23).map (fun i => (i.zero, i.size, i.bytes)) = some (some (.slice none 0 0), 1, 24) := by kernel_rfl

/-- rows of unlike element types lie apart -/
theorem own_apart {w : World} {B B' e e' size size' n n' c c' : Nat} {A A' : Option Addr} {xs xs' : List Value} (h : Own w B e size A n c xs) (h' : Own w B' e' size' A' n' c' xs') (he : e ≠ e') : ∀ b, blk A c = some b → blk A' c' ≠ some b := by
  intro b hb hb'
  unfold blk at hb hb'
  split at hb
  · cases hb
  · split at hb'
    · cases hb'
    · obtain ⟨g, o, cur, rfl, _, hh, _⟩ := h.row (by omega)
      obtain ⟨g', o', cur', rfl, _, hh', _⟩ := h'.row (by omega)
      simp at hb hb'
      subst hb
      subst hb'
      rw [hh] at hh'
      injection hh' with hh'
      injection hh' with _ hh' _
      exact he hh'
theorem blk_lt {w : World} {B e size n c : Nat} {A : Option Addr} {xs : List Value} (h : Own w B e size A n c xs) : blk A c ≠ some w.heap.size := by
  intro e
  have := (h.lt _ e).2
  omega

/-- the values vs are byte slices of the texts ls, each in memory of the call's own from block B on, none in block X -/
def OwnParts (w : World) (B : Nat) (X : Option Nat) (vs : List Value) (ls : List (List UInt8)) : Prop :=
  vs.length = ls.length ∧ ∀ (i : Nat) (v : Value) (l : List UInt8), vs[i]? = some v → ls[i]? = some l → ∃ (A : Option Addr) (n c : Nat), v = Value.slice A n c ∧ OwnB w B A n c l ∧ ∀ b, blk A c = some b → X ≠ some b
section
variable {w w' : World} {B B' : Nat} {X X' : Option Nat} {vs : List Value} {ls : List (List UInt8)}
theorem OwnParts.nil (w : World) (B : Nat) (X : Option Nat) : OwnParts w B X [] [] := ⟨rfl, fun i v l hv => by simp at hv⟩
theorem OwnParts.parts (h : OwnParts w B X vs ls) : PartsOf w vs ls :=
  ⟨h.1, fun i v l hv hl => by
    obtain ⟨A, n, c, e, ho, _⟩ := h.2 i v l hv hl
    exact ⟨A, n, c, e, ho.sl⟩⟩
theorem OwnParts.below (h : OwnParts w B X vs ls) (hb : Below w.heap.size w w') : OwnParts w' B X vs ls :=
  ⟨h.1, fun i v l hv hl => by
    obtain ⟨A, n, c, e, ho, hx⟩ := h.2 i v l hv hl
    exact ⟨A, n, c, e, Own.below ho hb, hx⟩⟩
theorem OwnParts.mono (h : OwnParts w B X vs ls) (hB : B' ≤ B) : OwnParts w B' X vs ls :=
  ⟨h.1, fun i v l hv hl => by
    obtain ⟨A, n, c, e, ho, hx⟩ := h.2 i v l hv hl
    exact ⟨A, n, c, e, Own.mono ho hB, hx⟩⟩
/-- block X was written -/
theorem OwnParts.wrote (h : OwnParts w B X vs ls) (hg : w.grownBy w' X) : OwnParts w' B X vs ls :=
  ⟨h.1, fun i v l hv hl => by
    obtain ⟨A, n, c, e, ho, hx⟩ := h.2 i v l hv hl
    exact ⟨A, n, c, e, Own.grown ho hg hx, hx⟩⟩
/-- a row of another element type was written -/
theorem OwnParts.wroteRow (h : OwnParts w B X vs ls) {e size n c : Nat} {A : Option Addr} {xs : List Value} (hr : Own w B' e size A n c xs) (he : e ≠ 5) (hg : w.grownBy w' (blk A c)) : OwnParts w' B X vs ls :=
  ⟨h.1, fun i v l hv hl => by
    obtain ⟨A, n, c, e, ho, hx⟩ := h.2 i v l hv hl
    exact ⟨A, n, c, e, Own.grown ho hg (fun b hb => own_apart ho hr (Ne.symm he) b hb), hx⟩⟩
/-- another block is kept away from: an old one's successor -/
theorem OwnParts.turn (h : OwnParts w B X vs ls) (hX : X' = X ∨ X' = some w.heap.size) : OwnParts w B X' vs ls :=
  ⟨h.1, fun i v l hv hl => by
    obtain ⟨A, n, c, e, ho, hx⟩ := h.2 i v l hv hl
    refine ⟨A, n, c, e, ho, fun b hb => ?_⟩
    rcases hX with rfl | rfl
    · exact hx b hb
    · intro e
      have := (Own.lt ho b hb).2
      simp at e
      omega⟩
/-- block X was written, or left for a new one -/
theorem OwnParts.moved (h : OwnParts w B X vs ls) (hg : w.grownBy w' X) (hX : X' = X ∨ X' = some w.heap.size) : OwnParts w' B X' vs ls :=
  ⟨h.1, fun i v l hv hl => by
    obtain ⟨A, n, c, e, ho, hx⟩ := h.2 i v l hv hl
    obtain ⟨A', n', c', e', _, hx'⟩ := (h.turn hX).2 i v l hv hl
    subst e
    injection e' with e1 e2 e3
    subst e1
    subst e3
    exact ⟨A, n, c, rfl, Own.grown ho hg hx, hx'⟩⟩
theorem OwnParts.snoc (h : OwnParts w B X vs ls) {A : Option Addr} {n c : Nat} {l : List UInt8} (ho : OwnB w B A n c l) (hx : ∀ b, blk A c = some b → X ≠ some b) : OwnParts w B X (vs ++ [.slice A n c]) (ls ++ [l]) :=
  ⟨by simp [h.1], fun i v x hv hl => by
    have hlen := h.1
    rcases Nat.lt_or_ge i vs.length with hi | hi
    · rw [List.getElem?_append_left hi] at hv
      rw [List.getElem?_append_left (by omega)] at hl
      exact h.2 i v x hv hl
    · rw [List.getElem?_append_right hi] at hv
      rw [List.getElem?_append_right (by omega)] at hl
      rw [← hlen] at hl
      rcases hj : i - vs.length with _ | j
      · rw [hj] at hv hl
        simp at hv hl
        subst hv
        subst hl
        exact ⟨A, n, c, rfl, ho, hx⟩
      · rw [hj] at hv
        simp at hv⟩
end

/-- a row of byte slices of the call's own -/
def OwnP (w : World) (B : Nat) (A : Option Addr) (n c : Nat) (vs : List Value) : Prop := Own w B 23 1 A n c vs
/-- append of one slice to a row of slices of the call's own -/
theorem wpList_appP (w : World) {ops : Array Oper} {rest : List Oper} {o : Oper} {a : Act} {Q : Exit → Act → World → Prop} (hgd : o.guard = none) (s x : Operand)
    (ho : o.op = .call { callee := .builtin .append, args := #[s, x], argTypes := #[116, 116] })
    (B : Nat) (A : Option Addr) (n c : Nat) (vs : List Value) (hsv : a.eval s = .slice A n c) (hown : OwnP w B A n c vs)
    (A2 : Option Addr) (m c2 : Nat) (news : List Value) (hx : a.eval x = .slice A2 m c2) (hs : Sl w 1 A2 m c2 news) (h1 : ∀ u ∈ news, u.oneCell' = true)
    (hbytes : n + m ≤ 4398046511104) (hB : B ≤ w.heap.size)
    (h : ∀ A' c' w', OwnP w' B A' (n + m) c' (vs ++ news) → w.grownBy w' (blk A c) → (blk A' c' = blk A c ∨ blk A' c' = some w.heap.size) → wpList Try.prog ops Q rest (a.put o.dst (.slice A' (n + m) c')) w') : wpList Try.prog ops Q (o :: rest) a w := by
  obtain ⟨i, hi, hz, hs1, hb1⟩ := info_parts infoP
  exact wpList_app w hgd s x _ ho B _ i _ 1 24 Try.underlying116 hi hz hs1 hb1 rfl A n c vs hsv hown A2 m c2 news hx hs h1 (by unfold maxLen; omega) (by omega) hB h
theorem one_cell (A : Option Addr) (n c : Nat) : ∀ u ∈ [Value.slice A n c], u.oneCell' = true := by
  intro u hu
  simp at hu
  subst hu
  rfl
end Go.Proofs.Ytfonincdhjkacaa
