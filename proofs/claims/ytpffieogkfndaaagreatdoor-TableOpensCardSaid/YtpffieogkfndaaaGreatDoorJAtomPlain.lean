/-
  Rows0, AtomPlain in one text. No condition but sizes.
-/
import Derived.Test.YtpffieogkfndaaaGreatDoorJBytes
namespace Go.Proofs.YtpffieogkfndaaaGreatDoor
set_option maxRecDepth 20000
set_option linter.unusedVariables false
set_option linter.unusedSimpArgs false
open Go.RowKit

/-- the value v is a slice of the bytes l; its block, if it has any bytes, is one of p -/
def Bk (w : World) (p : Nat → Prop) (v : Value) (l : List UInt8) : Prop :=
  ∃ (A : Option Addr) (n c : Nat), v = .slice A n c ∧ Sl w 1 A n c (bc l) ∧ ∀ b, 0 < n → A.map (·.block) = some b → p b
theorem Bk.move {w w' : World} {p q : Nat → Prop} {v : Value} {l : List UInt8} (h : Bk w p v l) (hm : ∀ b, b < w.heap.size → p b → w'.heap[b]? = w.heap[b]? ∧ q b) : Bk w' q v l := by
  obtain ⟨A, n, c, rfl, hs, hp⟩ := h
  exact ⟨A, n, c, rfl, hs.keep fun hn b e => (hm b (hs.lt (by omega) hn b e) (hp b hn e)).1, fun b hn e => (hm b (hs.lt (by omega) hn b e) (hp b hn e)).2⟩
theorem Bk.of {w : World} {A : Option Addr} {n c : Nat} {l : List UInt8} (h : Sl w 1 A n c (bc l)) : Bk w (fun _ => True) (.slice A n c) l := ⟨A, n, c, rfl, h, fun _ _ _ => trivial⟩
/-- .. of the call's own -/
theorem Bk.own {w : World} {B : Nat} {e : TypeId} {A : Option Addr} {n c : Nat} {l : List UInt8} (h : Own w B e 1 A n c (bc l)) : Bk w (fun b => B ≤ b ∧ b < w.heap.size) (.slice A n c) l :=
  ⟨A, n, c, rfl, h.sl, fun b hn e => h.lt b (by have := h.cap; unfold blk; rw [if_neg (by omega)]; exact e)⟩

/-- how a value of α lies in cells -/
class Rep (α : Type) where
  size : Nat
  cells : World → (Nat → Prop) → List Value → α → Prop
  pos : 0 < size
  len : ∀ {w p cs x}, cells w p cs x → cs.length = size
  one : ∀ {w p cs x}, cells w p cs x → ∀ u ∈ cs, u.oneCell' = true
  move : ∀ {w w' : World} {p q : Nat → Prop} {cs x}, cells w p cs x → (∀ b, b < w.heap.size → p b → w'.heap[b]? = w.heap[b]? ∧ q b) → cells w' q cs x

section
variable {α : Type} [Rep α] {w w' : World} {p q : Nat → Prop}
theorem Rep.mono {cs : List Value} {x : α} (h : Rep.cells w p cs x) (hm : ∀ b, b < w.heap.size → p b → q b) : Rep.cells w q cs x := Rep.move h fun b hb hp => ⟨rfl, hm b hb hp⟩
/-- the cells xs are those of the records ls, one behind the other -/
def RowC (w : World) (p : Nat → Prop) : List Value → List α → Prop
  | xs, [] => xs = []
  | xs, a :: ls => ∃ cs ys, xs = cs ++ ys ∧ Rep.cells w p cs a ∧ RowC w p ys ls
theorem RowC.len : ∀ {xs : List Value} {ls : List α}, RowC w p xs ls → xs.length = ls.length * Rep.size α
  | _, [], h => by obtain rfl : _ = [] := h; simp
  | _, a :: ls, h => by
    obtain ⟨cs, ys, rfl, hc, hr⟩ := h
    rw [List.length_append, Rep.len hc, hr.len, List.length_cons, Nat.add_mul, Nat.one_mul, Nat.add_comm]
theorem RowC.one : ∀ {xs : List Value} {ls : List α}, RowC w p xs ls → ∀ u ∈ xs, u.oneCell' = true
  | _, [], h => by obtain rfl : _ = [] := h; simp
  | _, a :: ls, h => by
    obtain ⟨cs, ys, rfl, hc, hr⟩ := h
    intro u hu
    rcases List.mem_append.1 hu with h1 | h1
    · exact Rep.one hc u h1
    · exact hr.one u h1
theorem RowC.move : ∀ {xs : List Value} {ls : List α}, RowC w p xs ls → (∀ b, b < w.heap.size → p b → w'.heap[b]? = w.heap[b]? ∧ q b) → RowC w' q xs ls
  | _, [], h, _ => h
  | _, a :: ls, h, hm => by
    obtain ⟨cs, ys, rfl, hc, hr⟩ := h
    exact ⟨cs, ys, rfl, Rep.move hc hm, hr.move hm⟩
theorem RowC.append : ∀ {xs ys : List Value} {ls ms : List α}, RowC w p xs ls → RowC w p ys ms → RowC w p (xs ++ ys) (ls ++ ms)
  | _, _, [], _, h, h2 => by obtain rfl : _ = [] := h; simpa using h2
  | _, _, a :: ls, _, h, h2 => by
    obtain ⟨cs, zs, rfl, hc, hr⟩ := h
    exact ⟨cs, zs ++ _, by rw [List.append_assoc], hc, hr.append h2⟩
theorem RowC.single {cs : List Value} {x : α} (h : Rep.cells w p cs x) : RowC w p cs [x] := ⟨cs, [], by simp, h, rfl⟩
/-- record k, and its cells -/
theorem RowC.get : ∀ {xs : List Value} {ls : List α} (k : Nat) {x : α}, RowC w p xs ls → ls[k]? = some x → Rep.cells w p ((xs.drop (k * Rep.size α)).take (Rep.size α)) x
  | _, [], k, x, _, hk => by simp at hk
  | _, a :: ls, 0, x, h, hk => by
    obtain ⟨cs, ys, rfl, hc, hr⟩ := h
    obtain rfl : a = x := by simpa using hk
    rw [Nat.zero_mul, List.drop_zero, List.take_left' (Rep.len hc)]
    exact hc
  | _, a :: ls, k + 1, x, h, hk => by
    obtain ⟨cs, ys, rfl, hc, hr⟩ := h
    have := hr.get k (by simpa using hk)
    rw [Nat.add_mul, Nat.one_mul, Nat.add_comm, ← List.drop_drop, List.drop_left' (Rep.len hc)]
    exact this
theorem RowC.take : ∀ {xs : List Value} {ls : List α} (k : Nat), RowC w p xs ls → RowC w p (xs.take (k * Rep.size α)) (ls.take k)
  | _, [], k, h => by obtain rfl : _ = [] := h; simp; rfl
  | _, a :: ls, 0, h => by simp; rfl
  | _, a :: ls, k + 1, h => by
    obtain ⟨cs, ys, rfl, hc, hr⟩ := h
    refine ⟨cs, ys.take (k * Rep.size α), ?_, hc, hr.take k⟩
    rw [Nat.add_mul, Nat.one_mul, List.take_append, Rep.len hc, List.take_of_length_le (by rw [Rep.len hc]; omega)]
    congr 2
    omega
theorem RowC.drop : ∀ {xs : List Value} {ls : List α} (k : Nat), RowC w p xs ls → RowC w p (xs.drop (k * Rep.size α)) (ls.drop k)
  | _, [], k, h => by obtain rfl : _ = [] := h; simp; rfl
  | _, a :: ls, 0, h => by simpa using h
  | _, a :: ls, k + 1, h => by
    obtain ⟨cs, ys, rfl, hc, hr⟩ := h
    have := hr.drop k
    rw [Nat.add_mul, Nat.one_mul, Nat.add_comm, ← List.drop_drop, List.drop_left' (Rep.len hc)]
    exact this

/-- the slice '.slice A n c' reads as the records ls -/
def SlR (w : World) (p : Nat → Prop) (A : Option Addr) (n c : Nat) (ls : List α) : Prop :=
  ∃ xs, Sl w (Rep.size α) A n c xs ∧ RowC w p xs ls ∧ ∀ b, 0 < n → A.map (·.block) = some b → p b
theorem SlR.lenR {A : Option Addr} {n c : Nat} {ls : List α} (h : SlR w p A n c ls) : ls.length = n := by
  obtain ⟨xs, hs, hr, _⟩ := h
  have h1 := hs.len
  rw [hr.len] at h1
  exact Nat.eq_of_mul_eq_mul_right (Rep.pos (α := α)) h1
theorem SlR.cap {A : Option Addr} {n c : Nat} {ls : List α} (h : SlR w p A n c ls) : n ≤ c ∧ c ≤ maxLen := by
  obtain ⟨xs, hs, hr, _⟩ := h
  exact ⟨hs.cap, hs.capm⟩
theorem SlR.move {A : Option Addr} {n c : Nat} {ls : List α} (h : SlR w p A n c ls) (hm : ∀ b, b < w.heap.size → p b → w'.heap[b]? = w.heap[b]? ∧ q b) : SlR w' q A n c ls := by
  obtain ⟨xs, hs, hr, hp⟩ := h
  exact ⟨xs, hs.keep fun hn b e => (hm b (hs.lt Rep.pos hn b e) (hp b hn e)).1, hr.move hm, fun b hn e => (hm b (hs.lt Rep.pos hn b e) (hp b hn e)).2⟩
theorem SlR.mono {A : Option Addr} {n c : Nat} {ls : List α} (h : SlR w p A n c ls) (hm : ∀ b, b < w.heap.size → p b → q b) : SlR w q A n c ls := h.move fun b hb hp => ⟨rfl, hm b hb hp⟩
theorem SlR.below {A : Option Addr} {n c : Nat} {ls : List α} (h : SlR w p A n c ls) (hb : Below w.heap.size w w') : SlR w' p A n c ls := h.move fun b hl hp => ⟨hb.block b hl, hp⟩
theorem SlR.nil (w : World) (p : Nat → Prop) (A : Option Addr) (c : Nat) (hc : c ≤ maxLen) : SlR w p A 0 c ([] : List α) := ⟨[], Sl.nil _ _ _ _ hc, rfl, fun b hn => absurd hn (by omega)⟩
theorem SlR.nilnil (w : World) (p : Nat → Prop) : SlR w p none 0 0 ([] : List α) := SlR.nil w p none 0 (by unfold maxLen; omega)
/-- record k -/
theorem SlR.get {A : Option Addr} {n c : Nat} {ls : List α} (h : SlR w p A n c ls) {k : Nat} (hk : k < n) :
    ∃ (b o : Nat) (x : α) (cs : List Value), A = some ⟨b, o, none⟩ ∧ ls[k]? = some x ∧ Rep.cells w p cs x ∧ ∀ j u, cs[j]? = some u → w.cell? ⟨b, o + k * Rep.size α + j, none⟩ = some u := by
  have hl := h.lenR
  obtain ⟨xs, hs, hr, _⟩ := h
  obtain ⟨b, o, e, hc⟩ := hs.at_ (by omega)
  have hx : ls[k]? = some ls[k] := List.getElem?_eq_getElem (by omega)
  refine ⟨b, o, ls[k], _, e, hx, hr.get k hx, fun j u hu => ?_⟩
  have hj := (List.getElem?_eq_some_iff.1 hu).1
  rw [List.length_take] at hj
  rw [List.getElem?_take, if_pos (by omega), List.getElem?_drop] at hu
  rw [Nat.add_assoc]
  exact hc _ u hu
/-- a row laid new reads as its records, whatever its mark -/
theorem SlR.lit (e : TypeId) (fr : Nat × Nat) (n : Nat) (cur : Array Value) (xs : List Value) (ls : List α) (hc : cur.toList = xs) (hr : RowC w (· < w.heap.size) xs ls) (hn : ls.length = n) (hm : n ≤ maxLen) :
    SlR (w.alloc (.cells cur e fr)) (fun b => b ≤ w.heap.size) (some ⟨w.heap.size, 0, none⟩) n n ls := by
  refine ⟨xs, ⟨by rw [hr.len, hn], Nat.le_refl _, hm, fun _ => ⟨w.heap.size, 0, rfl, fun j u hu => ?_⟩⟩, hr.move fun b hb _ => ⟨Below.heap_alloc w _ b hb, by omega⟩, fun b _ e => by simp at e; omega⟩
  rw [cell_of_row _ _ _ _ _ _ (heap_alloc_new w _)]
  rw [← hc] at hu
  simpa using hu
theorem SlR.take {A : Option Addr} {n c : Nat} {ls : List α} (h : SlR w p A n c ls) {k : Nat} (hk : k ≤ n) : SlR w p A k c (ls.take k) := by
  obtain ⟨xs, hs, hr, hp⟩ := h
  have hcap := hs.cap
  have := hs.cut (lo := 0) (hi := k) (m := c) (Nat.zero_le _) hk (by omega) (Nat.le_refl _)
  have e0 : (if c = 0 then A else A.map (·.add (0 * Rep.size α))) = A := by
    split
    · rfl
    · cases A <;> simp [Addr.add]
  rw [e0] at this
  simp only [Nat.sub_zero, Nat.zero_mul, List.drop_zero] at this
  exact ⟨_, this, hr.take k, fun b hn e => hp b (by omega) e⟩
theorem SlR.drop {A : Option Addr} {n c : Nat} {ls : List α} (h : SlR w p A n c ls) {k : Nat} (hk : k ≤ n) :
    SlR w p (if c = k then A else A.map (·.add (k * Rep.size α))) (n - k) (c - k) (ls.drop k) := by
  obtain ⟨xs, hs, hr, hp⟩ := h
  have hcap := hs.cap
  have hl := hs.len
  have := hs.cut (lo := k) (hi := n) (m := c) hk (Nat.le_refl _) (by omega) (Nat.le_refl _)
  refine ⟨_, this, ?_, fun b hn e => ?_⟩
  · rw [List.take_of_length_le (by rw [List.length_drop, hl, Nat.sub_mul]; omega)]
    exact hr.drop k
  · rw [if_neg (by omega)] at e
    obtain ⟨b', o, rfl, _⟩ := hs.at_ (by omega)
    refine hp b (by omega) ?_
    simpa [Addr.add_lit] using e

/-- block b is no row of e -/
def NotTy (w : World) (e : TypeId) (b : Nat) : Prop := ∀ cur fr, w.heap[b]? ≠ some (.cells cur e fr)
/-- a row of records that the call has made, in block from B on; what lies behind its cells lies in no row of its type of the call's own -/
def OwnR (w : World) (B : Nat) (e : TypeId) (A : Option Addr) (n c : Nat) (ls : List α) : Prop :=
  ∃ xs, Own w B e (Rep.size α) A n c xs ∧ RowC w (fun b => b < B ∨ NotTy w e b) xs ls
theorem OwnR.nil (w : World) (B : Nat) (e : TypeId) (A : Option Addr) : OwnR w B e A 0 0 ([] : List α) := ⟨[], Own.nil _ _ _ _ _, rfl⟩
theorem OwnR.sl {B : Nat} {e : TypeId} {A : Option Addr} {n c : Nat} {ls : List α} (h : OwnR w B e A n c ls) : SlR w (fun _ => True) A n c ls := by
  obtain ⟨xs, ho, hr⟩ := h
  exact ⟨xs, ho.sl, hr.move fun _ _ _ => ⟨rfl, trivial⟩, fun _ _ _ => trivial⟩
theorem OwnR.lenR {B : Nat} {e : TypeId} {A : Option Addr} {n c : Nat} {ls : List α} (h : OwnR w B e A n c ls) : ls.length = n := h.sl.lenR
theorem OwnR.below {B : Nat} {e : TypeId} {A : Option Addr} {n c : Nat} {ls : List α} (h : OwnR w B e A n c ls) (hb : Below w.heap.size w w') : OwnR w' B e A n c ls := by
  obtain ⟨xs, ho, hr⟩ := h
  refine ⟨xs, ho.below hb, hr.move fun b hl hp => ⟨hb.block b hl, ?_⟩⟩
  rcases hp with h1 | h1
  · exact .inl h1
  · exact .inr fun cur fr => by rw [hb.block b hl]; exact h1 cur fr
theorem OwnR.mono {B B' : Nat} {e : TypeId} {A : Option Addr} {n c : Nat} {ls : List α} (h : OwnR w B e A n c ls) (hB : B' ≤ B) (hr : ∀ b, b < B → b < B' ∨ NotTy w e b) : OwnR w B' e A n c ls := by
  obtain ⟨xs, ho, hr'⟩ := h
  exact ⟨xs, ho.mono hB, hr'.move fun b hl hp => ⟨rfl, hp.elim (hr b) .inr⟩⟩
end
end Go.Proofs.YtpffieogkfndaaaGreatDoor

namespace Go.Proofs.YtpffieogkfndaaaGreatDoor
set_option maxRecDepth 20000
set_option linter.unusedVariables false
set_option linter.unusedSimpArgs false

/-- a number's last k bytes, the greatest first -/
def beK : Nat → Nat → List UInt8
  | 0, _ => []
  | k + 1, n => UInt8.ofNat (n / 256 ^ k) :: beK k n
theorem length_beK (k n : Nat) : (beK k n).length = k := by
  induction k with
  | zero => rfl
  | succ k ih => simp [beK, ih]
theorem beK_drop (k m n : Nat) : (beK (m + k) n).drop m = beK k n := by
  induction m with
  | zero => simp
  | succ m ih =>
    rw [show m + 1 + k = (m + k) + 1 by omega]
    simp only [beK, List.drop_succ_cons]
    exact ih
theorem beK_get (k n i : Nat) (h : i < k) : (beK k n)[i]? = some (UInt8.ofNat (n / 256 ^ (k - 1 - i))) := by
  induction k generalizing i with
  | zero => omega
  | succ k ih =>
    rcases i with _ | i
    · simp [beK]
    · simp only [beK, List.getElem?_cons_succ]
      rw [ih i (by omega)]
      congr 4
      omega
/-- what is collected of a number's eight bytes, the noughts in front left out -/
def tailL (n k j : Nat) : List UInt8 := ((beK 8 n).take j).drop (8 - k)
theorem tailL_start (n k : Nat) : tailL n k 0 = [] := by simp [tailL]
theorem tailL_none (n k j : Nat) (h : j ≤ 8 - k) : tailL n k j = [] := by
  unfold tailL
  exact List.drop_eq_nil_of_le (by simp; omega)
theorem tailL_len (n k j : Nat) (hj : j ≤ 8) : (tailL n k j).length = j - (8 - k) := by
  simp [tailL, length_beK]
  omega
theorem tailL_more (n k j : Nat) (hj : j < 8) (h : 8 - k ≤ j) : tailL n k (j + 1) = tailL n k j ++ [UInt8.ofNat (n / 256 ^ (7 - j))] := by
  unfold tailL
  have hl : j < (beK 8 n).length := by rw [length_beK]; omega
  have hg : (beK 8 n)[j] = UInt8.ofNat (n / 256 ^ (7 - j)) := by
    have := beK_get 8 n j hj
    rw [List.getElem?_eq_getElem hl] at this
    rw [Option.some.inj this]
  rw [List.take_succ_eq_append_getElem hl, hg, List.drop_append_of_le_length (by rw [List.length_take, length_beK]; omega)]
theorem tailL_end (n k : Nat) (hk : k ≤ 8) : tailL n k 8 = beK k n := by
  unfold tailL
  rw [List.take_of_length_le (by rw [length_beK]; omega)]
  have := beK_drop k (8 - k) n
  rw [show 8 - k + k = 8 by omega] at this
  exact this
/-- the number of bytes -/
def beval (l : List UInt8) : Nat := l.foldl (fun n b => n * 256 + b.toNat) 0
theorem beval_from (l : List UInt8) (n : Nat) : l.foldl (fun n b => n * 256 + b.toNat) n = n * 256 ^ l.length + beval l := by
  unfold beval
  induction l generalizing n with
  | nil => simp
  | cons b r ih =>
    simp only [List.foldl_cons, List.length_cons]
    rw [ih, ih (0 * 256 + b.toNat), Nat.pow_succ]
    simp only [Nat.zero_mul, Nat.zero_add]
    rw [Nat.add_mul, Nat.mul_assoc, Nat.mul_comm 256, Nat.add_assoc]
theorem beval_cons (b : UInt8) (l : List UInt8) : beval (b :: l) = b.toNat * 256 ^ l.length + beval l := by
  have := beval_from l (0 * 256 + b.toNat)
  simp only [Nat.zero_mul, Nat.zero_add] at this
  rw [← this]
  simp [beval]
theorem beval_snoc (l : List UInt8) (b : UInt8) : beval (l ++ [b]) = beval l * 256 + b.toNat := by simp [beval]
theorem beval_lt (l : List UInt8) : beval l < 256 ^ l.length := by
  induction l with
  | nil => simp [beval]
  | cons b r ih =>
    rw [beval_cons, List.length_cons, Nat.pow_succ]
    have := b.toNat_lt
    have h : b.toNat * 256 ^ r.length + 256 ^ r.length ≤ 256 * 256 ^ r.length := by
      rw [← Nat.succ_mul]
      exact Nat.mul_le_mul_right _ (by omega)
    rw [Nat.mul_comm (256 ^ r.length)]
    omega
theorem beval_beK (k n : Nat) : beval (beK k n) = n % 256 ^ k := by
  induction k with
  | zero => simp [beK, beval, Nat.mod_one]
  | succ k ih =>
    rw [beK, beval_cons, length_beK, ih, Nat.pow_succ, Nat.mod_mul, UInt8.toNat_ofNat']
    have e : (256 : Nat) = 2 ^ 8 := rfl
    rw [← e, Nat.mul_comm (256 ^ k) (n / 256 ^ k % 256), Nat.add_comm]
theorem beval_inj : ∀ (l m : List UInt8), l.length = m.length → beval l = beval m → l = m
  | [], [], _, _ => rfl
  | a :: l, b :: m, h, e => by
    rw [beval_cons, beval_cons] at e
    have hl : l.length = m.length := by simpa using h
    rw [hl] at e
    have h1 := beval_lt l
    have h2 := beval_lt m
    rw [hl] at h1
    have hp : 0 < 256 ^ m.length := Nat.pow_pos (by omega)
    have ea : a.toNat = b.toNat := by
      have e1 : (a.toNat * 256 ^ m.length + beval l) / 256 ^ m.length = a.toNat := by
        rw [Nat.mul_comm, Nat.mul_add_div hp, Nat.div_eq_of_lt h1, Nat.add_zero]
      have e2 : (b.toNat * 256 ^ m.length + beval m) / 256 ^ m.length = b.toNat := by
        rw [Nat.mul_comm, Nat.mul_add_div hp, Nat.div_eq_of_lt h2, Nat.add_zero]
      rw [← e1, e, e2]
    have eb : beval l = beval m := by rw [ea] at e; omega
    rw [UInt8.toNat_inj.1 ea, beval_inj l m hl eb]
  | [], _ :: _, h, _ => by simp at h
  | _ :: _, [], h, _ => by simp at h

/-- how many bytes stand behind the first one of a long number -/
def nb (n : Nat) : Nat := if n < 16777216 then 3 else if n < 4294967296 then 4 else if n < 1099511627776 then 5 else if n < 281474976710656 then 6 else if n < 72057594037927936 then 7 else 8
theorem nb_range (n : Nat) : 3 ≤ nb n ∧ nb n ≤ 8 := by
  unfold nb
  repeat' split
  all_goals omega
theorem nb_lt {n : Nat} (h : n < 18446744073709551616) : n < 256 ^ nb n := by
  unfold nb
  repeat' split
  all_goals simp; omega
theorem nb_le {n : Nat} (h : 3 < nb n) : 256 ^ (nb n - 1) ≤ n := by
  unfold nb at *
  repeat' split at h
  all_goals first | omega | skip
  all_goals simp [*]
  all_goals omega
/-- a number's bytes -/
def numL (n : Nat) : List UInt8 :=
  if n < 241 then [UInt8.ofNat n]
  else if n < 2288 then [UInt8.ofNat (241 + (n - 240) / 256), UInt8.ofNat (n - 240)]
  else if n < 67824 then [249, UInt8.ofNat ((n - 2288) / 256), UInt8.ofNat (n - 2288)]
  else UInt8.ofNat (247 + nb n) :: beK (nb n) n
/-- how many bytes stand behind a first one -/
def lenL (b : Nat) : Nat := if b ≤ 240 then 0 else if b ≤ 248 then 1 else if b = 249 then 2 else b - 247
def valueL (b : Nat) (tail : List UInt8) : Nat := if b ≤ 240 then b else if b ≤ 248 then 240 + (b - 241) * 256 + beval tail else if b = 249 then 2288 + beval tail else beval tail
/-- the number in front, what stands behind, the error's number -/
def takeL (p : List UInt8) : Nat × List UInt8 × Nat :=
  match p with
  | [] => (0, [], 2)
  | b :: r =>
    if (b :: r).length < 1 + lenL b.toNat then (0, [], 2)
    else
      let n := valueL b.toNat (r.take (lenL b.toNat))
      if numL n = b :: r.take (lenL b.toNat) then (n, r.drop (lenL b.toNat), 0) else (0, [], 4)
theorem lenL_le (b : Nat) (h : b < 256) : lenL b ≤ 8 := by
  unfold lenL
  repeat' split
  all_goals omega
/-- a number's bytes say it -/
theorem num_decode (n : Nat) (h : n < 18446744073709551616) : ∃ b t, numL n = b :: t ∧ t.length = lenL b.toNat ∧ valueL b.toNat t = n := by
  by_cases h1 : n < 241
  · refine ⟨UInt8.ofNat n, [], by unfold numL; rw [if_pos h1], ?_, ?_⟩
    · simp [lenL]; omega
    · have : n % 256 = n := by omega
      simp [valueL, this]; omega
  · by_cases h2 : n < 2288
    · have e : (UInt8.ofNat (241 + (n - 240) / 256)).toNat = 241 + (n - 240) / 256 := by simp; omega
      have e2 : (UInt8.ofNat (n - 240)).toNat = (n - 240) % 256 := by simp
      refine ⟨UInt8.ofNat (241 + (n - 240) / 256), [UInt8.ofNat (n - 240)], by unfold numL; rw [if_neg h1, if_pos h2], ?_, ?_⟩
      · rw [e]; unfold lenL; rw [if_neg (by omega), if_pos (by omega)]; rfl
      · rw [e]; unfold valueL; rw [if_neg (by omega), if_pos (by omega)]
        simp only [beval, List.foldl_cons, List.foldl_nil, e2]
        omega
    · by_cases h3 : n < 67824
      · have e : (249 : UInt8).toNat = 249 := rfl
        have e1 : (UInt8.ofNat ((n - 2288) / 256)).toNat = (n - 2288) / 256 := by simp; omega
        have e2 : (UInt8.ofNat (n - 2288)).toNat = (n - 2288) % 256 := by simp
        refine ⟨249, [UInt8.ofNat ((n - 2288) / 256), UInt8.ofNat (n - 2288)], by unfold numL; rw [if_neg h1, if_neg h2, if_pos h3], ?_, ?_⟩
        · rw [e]; rfl
        · rw [e]; unfold valueL; rw [if_neg (by omega), if_neg (by omega), if_pos rfl]
          simp only [beval, List.foldl_cons, List.foldl_nil, e1, e2]
          omega
      · have hr := nb_range n
        have e : (UInt8.ofNat (247 + nb n)).toNat = 247 + nb n := by simp; omega
        refine ⟨UInt8.ofNat (247 + nb n), beK (nb n) n, by unfold numL; rw [if_neg h1, if_neg h2, if_neg h3], ?_, ?_⟩
        · rw [e, length_beK]; unfold lenL; rw [if_neg (by omega), if_neg (by omega), if_neg (by omega)]; omega
        · rw [e]; unfold valueL; rw [if_neg (by omega), if_neg (by omega), if_neg (by omega), beval_beK, Nat.mod_eq_of_lt (nb_lt h)]
theorem value_lt (b : UInt8) (t : List UInt8) (h : t.length = lenL b.toNat) : valueL b.toNat t < 18446744073709551616 := by
  have hb := b.toNat_lt
  have ht := beval_lt t
  unfold valueL
  unfold lenL at h
  by_cases h1 : b.toNat ≤ 240
  · rw [if_pos h1]; omega
  · rw [if_neg h1] at h ⊢
    by_cases h2 : b.toNat ≤ 248
    · rw [if_pos h2] at h ⊢; rw [h] at ht; omega
    · rw [if_neg h2] at h ⊢
      by_cases h3 : b.toNat = 249
      · rw [if_pos h3] at h ⊢; rw [h] at ht; omega
      · rw [if_neg h3] at h ⊢
        have : 256 ^ t.length ≤ 256 ^ 8 := Nat.pow_le_pow_right (by omega) (by omega)
        omega
/-- what has the value has the bytes -/
theorem value_inj (b : UInt8) (t u : List UInt8) (ht : t.length = lenL b.toNat) (hu : u.length = lenL b.toNat) (h : valueL b.toNat t = valueL b.toNat u) : t = u := by
  refine beval_inj t u (by omega) ?_
  unfold valueL at h
  unfold lenL at ht hu
  by_cases h1 : b.toNat ≤ 240
  · rw [if_pos h1] at ht hu
    rw [List.eq_nil_of_length_eq_zero ht, List.eq_nil_of_length_eq_zero hu]
  · rw [if_neg h1, if_neg h1] at h
    by_cases h2 : b.toNat ≤ 248
    · rw [if_pos h2, if_pos h2] at h; omega
    · rw [if_neg h2, if_neg h2] at h
      by_cases h3 : b.toNat = 249
      · rw [if_pos h3, if_pos h3] at h; omega
      · rw [if_neg h3, if_neg h3] at h; exact h
/-- the number of bytes and the first of them tell whether all are right -/
theorem num_check (b : UInt8) (t : List UInt8) (ht : t.length = lenL b.toNat) : numL (valueL b.toNat t) = b :: t ↔ (numL (valueL b.toNat t)).length = 1 + lenL b.toNat ∧ (numL (valueL b.toNat t))[0]? = some b := by
  constructor
  · intro h; rw [h]; simp [ht]; omega
  · rintro ⟨h1, h2⟩
    obtain ⟨b', t', e, hl, hv⟩ := num_decode _ (value_lt b t ht)
    rw [e] at h1 h2
    simp at h2
    subst h2
    rw [e, value_inj b' t' t hl ht hv]
theorem take_num (n : Nat) (h : n < 18446744073709551616) (l : List UInt8) : takeL (numL n ++ l) = (n, l, 0) := by
  obtain ⟨b, t, e, hl, hv⟩ := num_decode n h
  rw [e]
  simp only [List.cons_append, takeL]
  rw [← hl, List.take_left, List.drop_left, hv, if_neg (by simp; omega), if_pos e]
theorem num_len (n : Nat) : 1 ≤ (numL n).length ∧ (numL n).length ≤ 9 := by
  unfold numL
  have := nb_range n
  repeat' split
  all_goals simp [length_beK]
  all_goals omega
end Go.Proofs.YtpffieogkfndaaaGreatDoor
