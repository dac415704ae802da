/-
  Writing a byte into bytes that ops of the call's own hold: the row of ops stays a row of ops of the call's own. Nothing of the program stands here. No condition.
-/
import Derived.Test.YtfonincdhjkacaaRowsY
import Derived.Test.YtfonincdhjkacaaHeld
namespace Go.Proofs.Ytfonincdhjkacaa
open Go.RowKit
set_option maxRecDepth 20000
theorem OwnU.set {w : World} {B : Nat} {t8 : TypeId} {b g off : Nat} {v : Value} (h : OwnU w B t8 b) : OwnU (w.setCell ⟨g, off, none⟩ v) B t8 b := by
  obtain ⟨h1, cur, h2⟩ := h
  by_cases e : b = g
  · subst e
    exact ⟨h1, cur.setIfInBounds off v, by simp [World.setCell, Array.getElem?_modify, h2]⟩
  · exact ⟨h1, cur, (Below.heap_setCell w _ v b (fun q => e (by simpa using q))).trans h2⟩
theorem Bk.flip {w : World} {X : Option Nat} {B : Nat} {t8 : TypeId} {v : Value} {l : List UInt8} (g off : Nat) (y : UInt8) (h : Bk w (fun b => X ≠ some b ∧ OwnU w B t8 b) v l) :
    ∃ l', Bk (w.setCell ⟨g, off, none⟩ (.int .u8 (y.toNat : Int))) (fun b => X ≠ some b ∧ OwnU (w.setCell ⟨g, off, none⟩ (.int .u8 (y.toNat : Int))) B t8 b) v l' := by
  obtain ⟨A, n, c, rfl, hs, hp⟩ := h
  have hcap := hs.cap
  have hcm := hs.capm
  by_cases hn : 0 < n
  · obtain ⟨b, o, rfl, hc⟩ := hs.at_ hn
    have hl := hs.lenb
    have hpp : ∀ b', 0 < n → Option.map (·.block) (some (⟨b, o, none⟩ : Addr)) = some b' → X ≠ some b' ∧ OwnU (w.setCell ⟨g, off, none⟩ (.int .u8 (y.toNat : Int))) B t8 b' := fun b' hn' e => ⟨(hp b' hn' e).1, (hp b' hn' e).2.set⟩
    by_cases hb : b = g ∧ o ≤ off ∧ off < o + n
    · obtain ⟨rfl, h1, h2⟩ := hb
      refine ⟨l.set (off - o) y, _, n, c, rfl, ⟨by simp [hl], hcap, hcm, fun _ => ⟨b, o, rfl, fun j u hu => ?_⟩⟩, hpp⟩
      have hjl : j < l.length := by
        have := (List.getElem?_eq_some_iff.1 hu).1
        simpa using this
      have old := hc j _ (by rw [bc_get, List.getElem?_eq_getElem hjl]; rfl)
      rw [bc_get, List.getElem?_set] at hu
      split at hu
      · rename_i e
        have ej : off = o + j := by omega
        subst ej
        rw [if_pos (by omega)] at hu
        obtain rfl := Option.some.inj hu
        exact set_same old _
      · rename_i e
        exact set_other (hc j u (by rw [bc_get]; exact hu)) _ (.inr (by omega))
    · refine ⟨l, _, n, c, rfl, ⟨by simp [hl], hcap, hcm, fun _ => ⟨b, o, rfl, fun j u hu => ?_⟩⟩, hpp⟩
      have hjl : j < l.length := by
        have := (List.getElem?_eq_some_iff.1 hu).1
        simpa using this
      exact set_other (hc j u hu) _ (by omega)
  · obtain rfl : n = 0 := by omega
    exact ⟨[], A, 0, c, rfl, Sl.nil _ _ _ _ hcm, fun b hn => absurd hn (by omega)⟩
theorem RowC.flip {w : World} {X : Option Nat} {B : Nat} {t8 : TypeId} (g off : Nat) (y : UInt8) : ∀ {xs : List Value} {ls : List OpL}, RowC w (fun b => X ≠ some b ∧ OwnU w B t8 b) xs ls →
    ∃ ls' : List OpL, ls'.length = ls.length ∧ RowC (w.setCell ⟨g, off, none⟩ (.int .u8 (y.toNat : Int))) (fun b => X ≠ some b ∧ OwnU (w.setCell ⟨g, off, none⟩ (.int .u8 (y.toNat : Int))) B t8 b) xs ls'
  | _, [], h => ⟨[], rfl, h⟩
  | _, a :: ls, h => by
    obtain ⟨cs, ys, rfl, ⟨v, v', rfl, h1, h2⟩, hr⟩ := h
    obtain ⟨l1, h1⟩ := h1.flip g off y
    obtain ⟨l2, h2⟩ := h2.flip g off y
    obtain ⟨ls', e, hr⟩ := hr.flip g off y
    exact ⟨⟨a.kind, l1, l2⟩ :: ls', by simp [e], [u8v a.kind, v, v'], ys, rfl, ⟨v, v', rfl, h1, h2⟩, hr⟩
/-- the row of ops A n c, of the call's own since wb, its cells xs -/
structure FlipJ (e t8 : TypeId) (wb w : World) (A : Option Addr) (n c : Nat) (xs : List Value) : Prop where
  below : Below wb.heap.size wb w
  own : Own w wb.heap.size e 3 A n c xs
  row : ∃ ls : List OpL, ls.length = n ∧ RowC w (fun b => blk A c ≠ some b ∧ OwnU w wb.heap.size t8 b) xs ls
section
variable {e t8 : TypeId} {wb w : World} {A : Option Addr} {n c : Nat} {xs : List Value}
theorem FlipJ.of {ls : List OpL} (h : OwnY w wb.heap.size e t8 A n c ls) (hb : Below wb.heap.size wb w) : ∃ xs, FlipJ e t8 wb w A n c xs := by
  have hl := h.lenR
  obtain ⟨xs, ho, hr⟩ := h
  exact ⟨xs, hb, ho, ls, hl, hr⟩
theorem FlipJ.turned (h : FlipJ e t8 wb w A n c xs) {g off : Nat} (hg : blk A c ≠ some g) (hB : wb.heap.size ≤ g) (y : UInt8) : FlipJ e t8 wb (w.setCell ⟨g, off, none⟩ (.int .u8 (y.toNat : Int))) A n c xs := by
  obtain ⟨hb, ho, ls, hl, hr⟩ := h
  obtain ⟨ls', e', hr'⟩ := hr.flip g off y
  exact ⟨hb.setCell hB _, ho.keep fun b hb => Below.heap_setCell w _ _ b fun q => hg (by rw [hb]; simpa using q), ls', by omega, hr'⟩
/-- op i: its cells -/
theorem FlipJ.at_ (h : FlipJ e t8 wb w A n c xs) {i : Nat} (hi : i < n) : ∃ (b o : Nat) (k : Value) (A3 : Option Addr) (n3 c3 : Nat) (A4 : Option Addr) (n4 c4 : Nat), A = some ⟨b, o, none⟩ ∧
    xs[i * 3 + 1]? = some (.slice A3 n3 c3) ∧ xs[i * 3 + 2]? = some (.slice A4 n4 c4) ∧ n3 ≤ c3 ∧ c3 ≤ maxLen ∧ n4 ≤ c4 ∧ c4 ≤ maxLen := by
  obtain ⟨hb, ho, ls, hl, hr⟩ := h
  have hx : ls[i]? = some ls[i] := List.getElem?_eq_getElem (by omega)
  obtain ⟨v, v', hcs, ⟨A3, n3, c3, rfl, hs3, _⟩, ⟨A4, n4, c4, rfl, hs4, _⟩⟩ := hr.get i hx
  obtain ⟨b, o, rfl, _⟩ := ho.sl.at_ (by omega)
  have g1 : ∀ j, j < 3 → xs[i * 3 + j]? = ([u8v ls[i].kind, Value.slice A3 n3 c3, Value.slice A4 n4 c4] : List Value)[j]? := fun j hj => by
    rw [← hcs]
    show _ = ((xs.drop (i * 3)).take 3)[j]?
    rw [List.getElem?_take, if_pos hj, List.getElem?_drop]
  exact ⟨b, o, .bool true, A3, n3, c3, A4, n4, c4, rfl, g1 1 (by omega), g1 2 (by omega), hs3.cap, hs3.capm, hs4.cap, hs4.capm⟩
theorem FlipJ.cell {b o : Nat} (h : FlipJ e t8 wb w (some ⟨b, o, none⟩) n c xs) {m : Nat} {u : Value} (hm : xs[m]? = some u) : w.cell? ⟨b, o + m, none⟩ = some u := by
  have hlen := h.own.len
  have hml := (List.getElem?_eq_some_iff.1 hm).1
  obtain ⟨b', o', q, hc⟩ := h.own.sl.at_ (by omega)
  obtain ⟨rfl, rfl⟩ : b = b' ∧ o = o' := by simpa using q
  exact hc m u hm
/-- byte k of the key or the value of op i -/
theorem FlipJ.byte (h : FlipJ e t8 wb w A n c xs) {i j : Nat} (hj : j = 1 ∨ j = 2) {A3 : Option Addr} {n3 c3 : Nat} (hi : i < n) (hx : xs[i * 3 + j]? = some (.slice A3 n3 c3)) {k : Nat} (hk : k < n3) :
    ∃ (g o2 : Nat) (x : UInt8), A3 = some ⟨g, o2, none⟩ ∧ w.cell? ⟨g, o2 + k, none⟩ = some (.int .u8 (x.toNat : Int)) ∧ w.frozen? ⟨g, o2 + k, none⟩ = false ∧ blk A c ≠ some g ∧ wb.heap.size ≤ g := by
  obtain ⟨hb, ho, ls, hl, hr⟩ := h
  have hxl : ls[i]? = some ls[i] := List.getElem?_eq_getElem (by omega)
  obtain ⟨v, v', hcs, h1, h2⟩ := hr.get i hxl
  have g1 : xs[i * 3 + j]? = ([u8v ls[i].kind, v, v'] : List Value)[j]? := by
    rw [← hcs]
    show _ = ((xs.drop (i * 3)).take 3)[j]?
    rw [List.getElem?_take, if_pos (by omega), List.getElem?_drop]
  have key : ∀ l, Bk w (fun b => blk A c ≠ some b ∧ OwnU w wb.heap.size t8 b) (.slice A3 n3 c3) l → ∃ (g o2 : Nat) (x : UInt8), A3 = some ⟨g, o2, none⟩ ∧ w.cell? ⟨g, o2 + k, none⟩ = some (.int .u8 (x.toNat : Int)) ∧ w.frozen? ⟨g, o2 + k, none⟩ = false ∧ blk A c ≠ some g ∧ wb.heap.size ≤ g := by
    rintro l ⟨A', n', c', q, hs, hp⟩
    obtain ⟨rfl, rfl, rfl⟩ : A3 = A' ∧ n3 = n' ∧ c3 = c' := by simpa using q
    obtain ⟨g, o2, x, rfl, rfl, _, hc⟩ := hs.byte (k := k) (by have := hs.lenb; omega)
    obtain ⟨p1, p2, cur, p3⟩ := hp g (by omega) rfl
    exact ⟨g, o2, _, rfl, hc, by simp [World.frozen?, p3], p1, p2⟩
  rw [hx] at g1
  rcases hj with rfl | rfl
  · simp at g1
    subst g1
    exact key _ h1
  · simp at g1
    subst g1
    exact key _ h2
end
end Go.Proofs.Ytfonincdhjkacaa
