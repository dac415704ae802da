/-
  Rows of records: what it is for cells to read as a record (Rep), for a row of cells to read as a list of records (RowC, SlR), and for a row to be the call's own (OwnR). Nothing of the program stands here. No condition.
-/
import Derived.Test.YtfonincdhjkacaaLib
namespace Go.Proofs.Ytfonincdhjkacaa
set_option maxRecDepth 20000
open Go.RowKit

/-- the value v is a slice of the bytes l; its block, if it has any bytes, is one of p -/
def Bk (w : World) (p : Nat → Prop) (v : Value) (l : List UInt8) : Prop :=
  ∃ (A : Option Addr) (n c : Nat), v = .slice A n c ∧ Sl w 1 A n c (bc l) ∧ ∀ b, 0 < n → A.map (·.block) = some b → p b
theorem Bk.move {w w' : World} {p q : Nat → Prop} {v : Value} {l : List UInt8} (h : Bk w p v l) (hm : ∀ b, b < w.heap.size → p b → w'.heap[b]? = w.heap[b]? ∧ q b) : Bk w' q v l := by
  obtain ⟨A, n, c, rfl, hs, hp⟩ := h
  exact ⟨A, n, c, rfl, hs.keep fun hn b e => (hm b (hs.lt (by omega) hn b e) (hp b hn e)).1, fun b hn e => (hm b (hs.lt (by omega) hn b e) (hp b hn e)).2⟩
theorem Bk.of {w : World} {A : Option Addr} {n c : Nat} {l : List UInt8} (h : Sl w 1 A n c (bc l)) : Bk w (fun _ => True) (.slice A n c) l := ⟨A, n, c, rfl, h, fun _ _ _ => trivial⟩
/-- .. of the call's own -/
theorem Bk.own {w : World} {B : Nat} {e : TypeId} {A : Option Addr} {n c : Nat} {l : List UInt8} (h : Own w B e 1 A n c (bc l)) : Bk w (fun b => B ≤ b ∧ b < w.heap.size) (.slice A n c) l :=
  ⟨A, n, c, rfl, h.sl, fun b hn e => h.lt b (by have := h.cap; unfold blk; rw [if_neg (by omega)]; exact e)⟩

/-- how a value of α lies in cells -/
class Rep (α : Type) where
  size : Nat
  cells : World → (Nat → Prop) → List Value → α → Prop
  pos : 0 < size
  len : ∀ {w p cs x}, cells w p cs x → cs.length = size
  one : ∀ {w p cs x}, cells w p cs x → ∀ u ∈ cs, u.oneCell' = true
  move : ∀ {w w' : World} {p q : Nat → Prop} {cs x}, cells w p cs x → (∀ b, b < w.heap.size → p b → w'.heap[b]? = w.heap[b]? ∧ q b) → cells w' q cs x

section
variable {α : Type} [Rep α] {w w' : World} {p q : Nat → Prop}
theorem Rep.mono {cs : List Value} {x : α} (h : Rep.cells w p cs x) (hm : ∀ b, b < w.heap.size → p b → q b) : Rep.cells w q cs x := Rep.move h fun b hb hp => ⟨rfl, hm b hb hp⟩
/-- the cells xs are those of the records ls, one behind the other -/
def RowC (w : World) (p : Nat → Prop) : List Value → List α → Prop
  | xs, [] => xs = []
  | xs, a :: ls => ∃ cs ys, xs = cs ++ ys ∧ Rep.cells w p cs a ∧ RowC w p ys ls
theorem RowC.len : ∀ {xs : List Value} {ls : List α}, RowC w p xs ls → xs.length = ls.length * Rep.size α
  | _, [], h => by obtain rfl : _ = [] := h; simp
  | _, a :: ls, h => by
    obtain ⟨cs, ys, rfl, hc, hr⟩ := h
    rw [List.length_append, Rep.len hc, hr.len, List.length_cons, Nat.add_mul, Nat.one_mul, Nat.add_comm]
theorem RowC.one : ∀ {xs : List Value} {ls : List α}, RowC w p xs ls → ∀ u ∈ xs, u.oneCell' = true
  | _, [], h => by obtain rfl : _ = [] := h; simp
  | _, a :: ls, h => by
    obtain ⟨cs, ys, rfl, hc, hr⟩ := h
    intro u hu
    rcases List.mem_append.1 hu with h1 | h1
    · exact Rep.one hc u h1
    · exact hr.one u h1
theorem RowC.move : ∀ {xs : List Value} {ls : List α}, RowC w p xs ls → (∀ b, b < w.heap.size → p b → w'.heap[b]? = w.heap[b]? ∧ q b) → RowC w' q xs ls
  | _, [], h, _ => h
  | _, a :: ls, h, hm => by
    obtain ⟨cs, ys, rfl, hc, hr⟩ := h
    exact ⟨cs, ys, rfl, Rep.move hc hm, hr.move hm⟩
theorem RowC.append : ∀ {xs ys : List Value} {ls ms : List α}, RowC w p xs ls → RowC w p ys ms → RowC w p (xs ++ ys) (ls ++ ms)
  | _, _, [], _, h, h2 => by obtain rfl : _ = [] := h; simpa using h2
  | _, _, a :: ls, _, h, h2 => by
    obtain ⟨cs, zs, rfl, hc, hr⟩ := h
    exact ⟨cs, zs ++ _, by rw [List.append_assoc], hc, hr.append h2⟩
theorem RowC.single {cs : List Value} {x : α} (h : Rep.cells w p cs x) : RowC w p cs [x] := ⟨cs, [], by simp, h, rfl⟩
/-- record k, and its cells -/
theorem RowC.get : ∀ {xs : List Value} {ls : List α} (k : Nat) {x : α}, RowC w p xs ls → ls[k]? = some x → Rep.cells w p ((xs.drop (k * Rep.size α)).take (Rep.size α)) x
  | _, [], k, x, _, hk => by simp at hk
  | _, a :: ls, 0, x, h, hk => by
    obtain ⟨cs, ys, rfl, hc, hr⟩ := h
    obtain rfl : a = x := by simpa using hk
    rw [Nat.zero_mul, List.drop_zero, List.take_left' (Rep.len hc)]
    exact hc
  | _, a :: ls, k + 1, x, h, hk => by
    obtain ⟨cs, ys, rfl, hc, hr⟩ := h
    have := hr.get k (by simpa using hk)
    rw [Nat.add_mul, Nat.one_mul, Nat.add_comm, ← List.drop_drop, List.drop_left' (Rep.len hc)]
    exact this
theorem RowC.take : ∀ {xs : List Value} {ls : List α} (k : Nat), RowC w p xs ls → RowC w p (xs.take (k * Rep.size α)) (ls.take k)
  | _, [], k, h => by obtain rfl : _ = [] := h; simp; rfl
  | _, a :: ls, 0, h => by simp; rfl
  | _, a :: ls, k + 1, h => by
    obtain ⟨cs, ys, rfl, hc, hr⟩ := h
    refine ⟨cs, ys.take (k * Rep.size α), ?_, hc, hr.take k⟩
    rw [Nat.add_mul, Nat.one_mul, List.take_append, Rep.len hc, List.take_of_length_le (by rw [Rep.len hc]; omega)]
    congr 2
    omega
theorem RowC.drop : ∀ {xs : List Value} {ls : List α} (k : Nat), RowC w p xs ls → RowC w p (xs.drop (k * Rep.size α)) (ls.drop k)
  | _, [], k, h => by obtain rfl : _ = [] := h; simp; rfl
  | _, a :: ls, 0, h => by simpa using h
  | _, a :: ls, k + 1, h => by
    obtain ⟨cs, ys, rfl, hc, hr⟩ := h
    have := hr.drop k
    rw [Nat.add_mul, Nat.one_mul, Nat.add_comm, ← List.drop_drop, List.drop_left' (Rep.len hc)]
    exact this

/-- the slice '.slice A n c' reads as the records ls -/
def SlR (w : World) (p : Nat → Prop) (A : Option Addr) (n c : Nat) (ls : List α) : Prop :=
  ∃ xs, Sl w (Rep.size α) A n c xs ∧ RowC w p xs ls ∧ ∀ b, 0 < n → A.map (·.block) = some b → p b
theorem SlR.lenR {A : Option Addr} {n c : Nat} {ls : List α} (h : SlR w p A n c ls) : ls.length = n := by
  obtain ⟨xs, hs, hr, _⟩ := h
  have h1 := hs.len
  rw [hr.len] at h1
  exact Nat.eq_of_mul_eq_mul_right (Rep.pos (α := α)) h1
theorem SlR.cap {A : Option Addr} {n c : Nat} {ls : List α} (h : SlR w p A n c ls) : n ≤ c ∧ c ≤ maxLen := by
  obtain ⟨xs, hs, hr, _⟩ := h
  exact ⟨hs.cap, hs.capm⟩
theorem SlR.move {A : Option Addr} {n c : Nat} {ls : List α} (h : SlR w p A n c ls) (hm : ∀ b, b < w.heap.size → p b → w'.heap[b]? = w.heap[b]? ∧ q b) : SlR w' q A n c ls := by
  obtain ⟨xs, hs, hr, hp⟩ := h
  exact ⟨xs, hs.keep fun hn b e => (hm b (hs.lt Rep.pos hn b e) (hp b hn e)).1, hr.move hm, fun b hn e => (hm b (hs.lt Rep.pos hn b e) (hp b hn e)).2⟩
theorem SlR.mono {A : Option Addr} {n c : Nat} {ls : List α} (h : SlR w p A n c ls) (hm : ∀ b, b < w.heap.size → p b → q b) : SlR w q A n c ls := h.move fun b hb hp => ⟨rfl, hm b hb hp⟩
theorem SlR.below {A : Option Addr} {n c : Nat} {ls : List α} (h : SlR w p A n c ls) (hb : Below w.heap.size w w') : SlR w' p A n c ls := h.move fun b hl hp => ⟨hb.block b hl, hp⟩
theorem SlR.nil (w : World) (p : Nat → Prop) (A : Option Addr) (c : Nat) (hc : c ≤ maxLen) : SlR w p A 0 c ([] : List α) := ⟨[], Sl.nil _ _ _ _ hc, rfl, fun b hn => absurd hn (by omega)⟩
theorem SlR.nilnil (w : World) (p : Nat → Prop) : SlR w p none 0 0 ([] : List α) := SlR.nil w p none 0 (by unfold maxLen; omega)
/-- record k -/
theorem SlR.get {A : Option Addr} {n c : Nat} {ls : List α} (h : SlR w p A n c ls) {k : Nat} (hk : k < n) :
    ∃ (b o : Nat) (x : α) (cs : List Value), A = some ⟨b, o, none⟩ ∧ ls[k]? = some x ∧ Rep.cells w p cs x ∧ ∀ j u, cs[j]? = some u → w.cell? ⟨b, o + k * Rep.size α + j, none⟩ = some u := by
  have hl := h.lenR
  obtain ⟨xs, hs, hr, _⟩ := h
  obtain ⟨b, o, e, hc⟩ := hs.at_ (by omega)
  have hx : ls[k]? = some ls[k] := List.getElem?_eq_getElem (by omega)
  refine ⟨b, o, ls[k], _, e, hx, hr.get k hx, fun j u hu => ?_⟩
  have hj := (List.getElem?_eq_some_iff.1 hu).1
  rw [List.length_take] at hj
  rw [List.getElem?_take, if_pos (by omega), List.getElem?_drop] at hu
  rw [Nat.add_assoc]
  exact hc _ u hu
/-- a row laid new reads as its records, whatever its mark -/
theorem SlR.lit (e : TypeId) (fr : Nat × Nat) (n : Nat) (cur : Array Value) (xs : List Value) (ls : List α) (hc : cur.toList = xs) (hr : RowC w (· < w.heap.size) xs ls) (hn : ls.length = n) (hm : n ≤ maxLen) :
    SlR (w.alloc (.cells cur e fr)) (fun b => b ≤ w.heap.size) (some ⟨w.heap.size, 0, none⟩) n n ls := by
  refine ⟨xs, ⟨by rw [hr.len, hn], Nat.le_refl _, hm, fun _ => ⟨w.heap.size, 0, rfl, fun j u hu => ?_⟩⟩, hr.move fun b hb _ => ⟨Below.heap_alloc w _ b hb, by omega⟩, fun b _ e => by simp at e; omega⟩
  rw [cell_of_row _ _ _ _ _ _ (heap_alloc_new w _)]
  rw [← hc] at hu
  simpa using hu
theorem SlR.take {A : Option Addr} {n c : Nat} {ls : List α} (h : SlR w p A n c ls) {k : Nat} (hk : k ≤ n) : SlR w p A k c (ls.take k) := by
  obtain ⟨xs, hs, hr, hp⟩ := h
  have hcap := hs.cap
  have := hs.cut (lo := 0) (hi := k) (m := c) (Nat.zero_le _) hk (by omega) (Nat.le_refl _)
  have e0 : (if c = 0 then A else A.map (·.add (0 * Rep.size α))) = A := by
    split
    · rfl
    · cases A <;> simp [Addr.add]
  rw [e0] at this
  simp only [Nat.sub_zero, Nat.zero_mul, List.drop_zero] at this
  exact ⟨_, this, hr.take k, fun b hn e => hp b (by omega) e⟩
theorem SlR.drop {A : Option Addr} {n c : Nat} {ls : List α} (h : SlR w p A n c ls) {k : Nat} (hk : k ≤ n) :
    SlR w p (if c = k then A else A.map (·.add (k * Rep.size α))) (n - k) (c - k) (ls.drop k) := by
  obtain ⟨xs, hs, hr, hp⟩ := h
  have hcap := hs.cap
  have hl := hs.len
  have := hs.cut (lo := k) (hi := n) (m := c) hk (Nat.le_refl _) (by omega) (Nat.le_refl _)
  refine ⟨_, this, ?_, fun b hn e => ?_⟩
  · rw [List.take_of_length_le (by rw [List.length_drop, hl, Nat.sub_mul]; omega)]
    exact hr.drop k
  · rw [if_neg (by omega)] at e
    obtain ⟨b', o, rfl, _⟩ := hs.at_ (by omega)
    refine hp b (by omega) ?_
    simpa [Addr.add_lit] using e

/-- block b is no row of e -/
def NotTy (w : World) (e : TypeId) (b : Nat) : Prop := ∀ cur fr, w.heap[b]? ≠ some (.cells cur e fr)
/-- a row of records that the call has made, in block from B on; what lies behind its cells lies in no row of its type of the call's own -/
def OwnR (w : World) (B : Nat) (e : TypeId) (A : Option Addr) (n c : Nat) (ls : List α) : Prop :=
  ∃ xs, Own w B e (Rep.size α) A n c xs ∧ RowC w (fun b => b < B ∨ NotTy w e b) xs ls
theorem OwnR.nil (w : World) (B : Nat) (e : TypeId) (A : Option Addr) : OwnR w B e A 0 0 ([] : List α) := ⟨[], Own.nil _ _ _ _ _, rfl⟩
theorem OwnR.sl {B : Nat} {e : TypeId} {A : Option Addr} {n c : Nat} {ls : List α} (h : OwnR w B e A n c ls) : SlR w (fun _ => True) A n c ls := by
  obtain ⟨xs, ho, hr⟩ := h
  exact ⟨xs, ho.sl, hr.move fun _ _ _ => ⟨rfl, trivial⟩, fun _ _ _ => trivial⟩
theorem OwnR.lenR {B : Nat} {e : TypeId} {A : Option Addr} {n c : Nat} {ls : List α} (h : OwnR w B e A n c ls) : ls.length = n := h.sl.lenR
theorem OwnR.below {B : Nat} {e : TypeId} {A : Option Addr} {n c : Nat} {ls : List α} (h : OwnR w B e A n c ls) (hb : Below w.heap.size w w') : OwnR w' B e A n c ls := by
  obtain ⟨xs, ho, hr⟩ := h
  refine ⟨xs, ho.below hb, hr.move fun b hl hp => ⟨hb.block b hl, ?_⟩⟩
  rcases hp with h1 | h1
  · exact .inl h1
  · exact .inr fun cur fr => by rw [hb.block b hl]; exact h1 cur fr
theorem OwnR.mono {B B' : Nat} {e : TypeId} {A : Option Addr} {n c : Nat} {ls : List α} (h : OwnR w B e A n c ls) (hB : B' ≤ B) (hr : ∀ b, b < B → b < B' ∨ NotTy w e b) : OwnR w B' e A n c ls := by
  obtain ⟨xs, ho, hr'⟩ := h
  exact ⟨xs, ho.mono hB, hr'.move fun b hl hp => ⟨rfl, hp.elim (hr b) .inr⟩⟩
theorem grown_apart {B : Nat} {e : TypeId} {size : Nat} {A : Option Addr} {n c : Nat} {xs : List Value} (ho : Own w B e size A n c xs) (hg : w.grownBy w' (blk A c)) :
    ∀ b, b < w.heap.size → (b < B ∨ NotTy w e b) → w'.heap[b]? = w.heap[b]? ∧ (b < B ∨ NotTy w' e b) := by
  intro b hl hp
  have h1 : w'.heap[b]? = w.heap[b]? := hg.block b hl fun hb => by
    rcases hp with h2 | h2
    · have := (ho.lt b hb.symm).1
      omega
    · unfold blk at hb
      split at hb
      · cases hb
      · obtain ⟨g, o, cur, rfl, _, hh, _⟩ := ho.row (by omega)
        simp at hb
        subst hb
        exact h2 _ _ hh
  refine ⟨h1, hp.elim .inl fun h2 => .inr fun cur fr => by rw [h1]; exact h2 cur fr⟩
/-- a row of another type of the call's own was written: what lies in this one stands, if it lies below or is of another type than that row's -/
theorem wpList_appR {P : Program} (w : World) {ops : Array Oper} {rest : List Oper} {o : Oper} {a : Act} {Q : Exit → Act → World → Prop} (hgd : o.guard = none) (s x : Operand) (t : TypeId)
    (ho : o.op = .call { callee := .builtin .append, args := #[s, x], argTypes := #[t, t] })
    (B : Nat) (e : TypeId) (z : Value) (bytes : Nat) (ht : P.underlying t = some (.slice e)) (hi : (P.info? e).map (fun i => (i.zero, i.size, i.bytes)) = some (some z, Rep.size α, bytes))
    (hzs : z.cells.size = Rep.size α)
    (A : Option Addr) (n c : Nat) (ls : List α) (hsv : a.eval s = .slice A n c) (hown : OwnR w B e A n c ls)
    (p : Nat → Prop) (A2 : Option Addr) (m c2 : Nat) (ms : List α) (hx : a.eval x = .slice A2 m c2) (hs : ∃ xs, Sl w (Rep.size α) A2 m c2 xs ∧ RowC w p xs ms) (hp : ∀ b, b < w.heap.size → p b → b < B ∨ NotTy w e b)
    (h63 : n + m ≤ maxLen) (hbytes : (n + m) * bytes ≤ 140737488355328) (hB : B ≤ w.heap.size)
    (h : ∀ A' c' w', OwnR w' B e A' (n + m) c' (ls ++ ms) → w.grownBy w' (blk A c) → (blk A' c' = blk A c ∨ blk A' c' = some w.heap.size) → wpList P ops Q rest (a.put o.dst (.slice A' (n + m) c')) w') : wpList P ops Q (o :: rest) a w := by
  obtain ⟨i, hi1, hz, hs1, hb1⟩ := info_parts hi
  obtain ⟨xs, hO, hR⟩ := hown
  obtain ⟨ys, hS, hR2⟩ := hs
  refine wpList_app w hgd s x t ho B e i z (Rep.size α) bytes ht hi1 hz hs1 hb1 hzs A n c xs hsv hO A2 m c2 ys hx hS hR2.one h63 hbytes hB ?_
  intro A' c' w' h1 h2 h3
  exact h A' c' w' ⟨_, h1, (hR.move (grown_apart hO h2)).append (hR2.move fun b hl hpb => grown_apart hO h2 b hl (hp b hl hpb))⟩ h2 h3
end
end Go.Proofs.Ytfonincdhjkacaa
