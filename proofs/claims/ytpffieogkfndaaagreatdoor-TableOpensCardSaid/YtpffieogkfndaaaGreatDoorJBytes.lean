/-
  Lib, Bytes in one text. No condition but sizes.
-/
import Derived.WalkKit
import Derived.Deep.Draws
import Derived.Deep.AppendLies
import Derived.Deep.LoopGhost
import Derived.Lib.Hide
import Derived.WalkSpells
import Derived.WalkLawsBesides
import Derived.Deep.QuietTactic
import Derived.Test.YtpffieogkfndaaaGreatDoorProg
namespace Go.Proofs.YtpffieogkfndaaaGreatDoor
set_option maxRecDepth 20000
set_option linter.unusedVariables false
set_option linter.unusedSimpArgs false
open Go.RowKit

/-- a contract whose world stays, met in a region that draws its order -/
theorem quiet_left {P : Program} {f : FuncId} {args : Array Value} {w : World} {n : Nat} {v : Value}
    (h : Calls P f args (w.drewN n) fun e w' => e = .returned v ∧ w.drewN n = w') : Calls P f args (w.drewN n) fun e w'' => e = .returned v ∧ ∃ m, w'' = w.drewN m :=
  h.mono fun _ _ ⟨he, hm⟩ => ⟨he, n, hm.symm⟩
theorem below_drewN {B : Nat} {a w : World} (h : Below B a w) (n : Nat) : Below B a (w.drewN n) := ⟨h.os, h.tape, h.output, h.size, h.block⟩
/-- the cells of bytes -/
def bc (l : List UInt8) : List Value := l.map fun x => Value.int .u8 (x.toNat : Int)
@[simp] theorem bc_nil : bc [] = [] := rfl
@[simp] theorem length_bc (l : List UInt8) : (bc l).length = l.length := by simp [bc]
theorem bc_append (a b : List UInt8) : bc (a ++ b) = bc a ++ bc b := by simp [bc]
theorem bc_take (n : Nat) (l : List UInt8) : bc (l.take n) = (bc l).take n := by simp [bc, List.map_take]
theorem bc_drop (n : Nat) (l : List UInt8) : bc (l.drop n) = (bc l).drop n := by simp [bc, List.map_drop]
theorem bc_get (l : List UInt8) (i : Nat) : (bc l)[i]? = (l[i]?).map fun x => Value.int .u8 (x.toNat : Int) := by simp [bc]
theorem bc_one (l : List UInt8) : ∀ u ∈ bc l, u.oneCell' = true := by
  intro u hu
  obtain ⟨_, _, rfl⟩ := List.mem_map.1 hu
  rfl

/-- the slice value '.slice A n c' reads as the cells xs, 'size' cells an element -/
structure Sl (w : World) (size : Nat) (A : Option Addr) (n c : Nat) (xs : List Value) : Prop where
  len : xs.length = n * size
  cap : n ≤ c
  capm : c ≤ maxLen
  at_ : 0 < n → ∃ b o, A = some ⟨b, o, none⟩ ∧ ∀ j u, xs[j]? = some u → w.cell? ⟨b, o + j, none⟩ = some u

/-- .. and lies in block from B on that nothing has frozen, with all its capacity -/
structure Own (w : World) (B : Nat) (e : TypeId) (size : Nat) (A : Option Addr) (n c : Nat) (xs : List Value) : Prop where
  len : xs.length = n * size
  cap : n ≤ c
  capm : c ≤ maxLen
  row : 0 < c → ∃ g o cur, A = some ⟨g, o, none⟩ ∧ B ≤ g ∧ w.heap[g]? = some (.cells cur e (0, 0)) ∧ o + c * size ≤ cur.size ∧ (cur.toList.drop o).take (n * size) = xs

section
variable {w w' : World} {B B' : Nat} {e : TypeId} {size : Nat} {A : Option Addr} {n c : Nat} {xs : List Value}

theorem heap_lt {g : Nat} {o : Obj} (h : w.heap[g]? = some o) : g < w.heap.size := (Array.getElem?_eq_some_iff.1 h).1

/-- the block of a slice that has room -/
def blk (A : Option Addr) (c : Nat) : Option Nat := if c = 0 then none else A.map (·.block)

theorem Own.lt (h : Own w B e size A n c xs) : ∀ k, blk A c = some k → B ≤ k ∧ k < w.heap.size := by
  intro k hk
  unfold blk at hk
  split at hk
  · cases hk
  · obtain ⟨g, o, cur, rfl, hb, hh, _⟩ := h.row (by omega)
    simp at hk
    subst hk
    exact ⟨hb, heap_lt hh⟩

theorem Own.sl (h : Own w B e size A n c xs) : Sl w size A n c xs := by
  refine ⟨h.len, h.cap, h.capm, fun hn => ?_⟩
  obtain ⟨g, o, cur, rfl, hb, hh, hf, ht⟩ := h.row (by have := h.cap; omega)
  refine ⟨g, o, rfl, fun j u hu => ?_⟩
  rw [cell_of_row w g (o + j) cur e (0, 0) hh]
  rw [← ht] at hu
  have hj : j < n * size := by
    have := (List.getElem?_eq_some_iff.1 hu).1
    simp at this
    omega
  rw [List.getElem?_take, if_pos hj, List.getElem?_drop] at hu
  simpa using hu

theorem Own.frozen {g o : Nat} (h : Own w B e size (some ⟨g, o, none⟩) n c xs) (hc : 0 < c) (j : Nat) : w.frozen? ⟨g, j, none⟩ = false := by
  obtain ⟨g', o', cur, e1, _, hh, _⟩ := h.row hc
  injection e1 with e1
  injection e1 with e1 _
  subst e1
  simp [World.frozen?, hh]

theorem Own.mono (h : Own w B e size A n c xs) (hB : B' ≤ B) : Own w B' e size A n c xs :=
  ⟨h.len, h.cap, h.capm, fun hc => by
    obtain ⟨g, o, cur, h1, h2, h3⟩ := h.row hc
    exact ⟨g, o, cur, h1, by omega, h3⟩⟩

theorem Sl.nil (w : World) (size : Nat) (A : Option Addr) (c : Nat) (hc : c ≤ maxLen) : Sl w size A 0 c [] :=
  ⟨by simp, Nat.zero_le _, hc, fun h => absurd h (by omega)⟩
theorem Own.nil (w : World) (B : Nat) (e : TypeId) (size : Nat) (A : Option Addr) : Own w B e size A 0 0 [] :=
  ⟨by simp, Nat.le_refl _, Nat.zero_le _, fun h => absurd h (by omega)⟩

theorem Sl.none_len (h : Sl w size none n c xs) : n = 0 := by
  rcases Nat.eq_zero_or_pos n with h0 | h0
  · exact h0
  · obtain ⟨b, o, e, _⟩ := h.at_ h0
    cases e
/-- the first cell's block is there -/
theorem Sl.lt (h : Sl w size A n c xs) (hs : 0 < size) (hn : 0 < n) : ∀ k, A.map (·.block) = some k → k < w.heap.size := by
  intro k hk
  obtain ⟨b, o, rfl, hc⟩ := h.at_ hn
  simp at hk
  subst hk
  have hl : 0 < xs.length := by rw [h.len]; exact Nat.mul_pos hn hs
  exact World.block_lt_of_cell? _ _ (hc 0 _ (List.getElem?_eq_getElem hl))

/-- kept, where the block is as it was -/
theorem Sl.keep (h : Sl w size A n c xs) (hk : 0 < n → ∀ b, A.map (·.block) = some b → w'.heap[b]? = w.heap[b]?) : Sl w' size A n c xs :=
  ⟨h.len, h.cap, h.capm, fun hn => by
    obtain ⟨b, o, e, hc⟩ := h.at_ hn
    have hb := hk hn b (by rw [e]; rfl)
    exact ⟨b, o, e, fun j u hu => (World.cell?_of_block (a := ⟨b, o + j, none⟩) hb).trans (hc j u hu)⟩⟩
theorem Own.keep (h : Own w B e size A n c xs) (hk : ∀ b, blk A c = some b → w'.heap[b]? = w.heap[b]?) : Own w' B e size A n c xs :=
  ⟨h.len, h.cap, h.capm, fun hc => by
    obtain ⟨g, o, cur, h1, h2, h3, h4⟩ := h.row hc
    exact ⟨g, o, cur, h1, h2, (hk g (by simp [blk, h1]; omega)).trans h3, h4⟩⟩
theorem Sl.below (h : Sl w size A n c xs) (hs : 0 < size) (hb : Below w.heap.size w w') : Sl w' size A n c xs :=
  h.keep fun hn b e => hb.block b (h.lt hs hn b e)
theorem Own.below (h : Own w B e size A n c xs) (hb : Below w.heap.size w w') : Own w' B e size A n c xs :=
  h.keep fun b e => hb.block b (h.lt b e).2
/-- kept, where only one block was written and the slice is not in it -/
theorem Sl.grown (h : Sl w size A n c xs) (hs : 0 < size) {row : Option Nat} (hg : w.grownBy w' row) (hne : 0 < n → ∀ b, A.map (·.block) = some b → row ≠ some b) : Sl w' size A n c xs :=
  h.keep fun hn b e => hg.block b (h.lt hs hn b e) (fun k => hne hn b e k.symm)
theorem Own.grown (h : Own w B e size A n c xs) {row : Option Nat} (hg : w.grownBy w' row) (hne : ∀ b, blk A c = some b → row ≠ some b) : Own w' B e size A n c xs :=
  h.keep fun b k => hg.block b (h.lt b k).2 (fun q => hne b k q.symm)

/-- the cell of element k, elements of one cell -/
theorem Sl.cell (h : Sl w 1 A n c xs) {k : Nat} (hk : k < n) : ∃ b o u, A = some ⟨b, o, none⟩ ∧ xs[k]? = some u ∧ w.cell? ⟨b, o + k, none⟩ = some u := by
  obtain ⟨b, o, e, hc⟩ := h.at_ (by omega)
  have hl : k < xs.length := by rw [h.len]; omega
  exact ⟨b, o, _, e, List.getElem?_eq_getElem hl, hc k _ (List.getElem?_eq_getElem hl)⟩
/-- .. a byte -/
theorem Sl.byte {l : List UInt8} (h : Sl w 1 A n c (bc l)) {k : Nat} (hk : k < l.length) : ∃ b o x, A = some ⟨b, o, none⟩ ∧ l[k].toNat = x ∧ x < 256 ∧ w.cell? ⟨b, o + k, none⟩ = some (.int .u8 ((x : Nat) : Int)) := by
  obtain ⟨b, o, u, e, hu, hc⟩ := h.cell (k := k) (by have := h.len; simp at this; omega)
  rw [bc_get, List.getElem?_eq_getElem hk] at hu
  obtain rfl := Option.some.inj hu
  exact ⟨b, o, _, e, rfl, l[k].toNat_lt, hc⟩
theorem Sl.lenb {l : List UInt8} (h : Sl w 1 A n c (bc l)) : l.length = n := by have := h.len; simpa using this

/-- the values vs are byte slices of the texts ls -/
def PartsOf (w : World) (vs : List Value) (ls : List (List UInt8)) : Prop :=
  vs.length = ls.length ∧ ∀ (i : Nat) (v : Value) (l : List UInt8), vs[i]? = some v → ls[i]? = some l → ∃ (A : Option Addr) (n c : Nat), v = Value.slice A n c ∧ Sl w 1 A n c (bc l)
theorem PartsOf.below {vs : List Value} {ls : List (List UInt8)} (h : PartsOf w vs ls) (hb : Below w.heap.size w w') : PartsOf w' vs ls :=
  ⟨h.1, fun i v l hv hl => by
    obtain ⟨A, n, c, e, hs⟩ := h.2 i v l hv hl
    exact ⟨A, n, c, e, hs.below (by omega) hb⟩⟩
/-- element k of a slice of texts -/
theorem PartsOf.get {vs : List Value} {ls : List (List UInt8)} (hp : PartsOf w vs ls) (h : Sl w 1 A n c vs) {k : Nat} (hk : k < n) :
    ∃ (b o : Nat) (A' : Option Addr) (n' c' : Nat) (hl : k < ls.length), A = some ⟨b, o, none⟩ ∧ w.cell? ⟨b, o + k, none⟩ = some (Value.slice A' n' c') ∧ Sl w 1 A' n' c' (bc ls[k]) := by
  obtain ⟨b, o, u, e, hu, hc⟩ := h.cell hk
  have hl : k < ls.length := by rw [← hp.1, h.len]; omega
  obtain ⟨A', n', c', hv, hs⟩ := hp.2 k u _ hu (List.getElem?_eq_getElem hl)
  subst hv
  exact ⟨b, o, A', n', c', hl, e, hc, hs⟩

theorem Own.drew (h : Own w B e size A n c xs) : Own w.drew B e size A n c xs := h.keep fun _ _ => rfl
theorem Sl.drew (h : Sl w size A n c xs) : Sl w.drew size A n c xs := h.keep fun _ _ _ => rfl
theorem Own.drewN (h : Own w B e size A n c xs) (k : Nat) : Own (w.drewN k) B e size A n c xs := h.keep fun _ _ => rfl
theorem Sl.drewN (h : Sl w size A n c xs) (k : Nat) : Sl (w.drewN k) size A n c xs := h.keep fun _ _ _ => rfl

/-- a part of a slice -/
theorem Sl.cut (h : Sl w size A n c xs) {lo hi m : Nat} (h1 : lo ≤ hi) (h2 : hi ≤ n) (h3 : hi ≤ m) (h4 : m ≤ c) :
    Sl w size (if m = lo then A else A.map (·.add (lo * size))) (hi - lo) (m - lo) ((xs.drop (lo * size)).take ((hi - lo) * size)) := by
  refine ⟨?_, by omega, by have := h.capm; omega, fun hn => ?_⟩
  · rw [List.length_take, List.length_drop, h.len, ← Nat.sub_mul]
    exact Nat.min_eq_left (Nat.mul_le_mul_right _ (by omega))
  · obtain ⟨b, o, rfl, hc⟩ := h.at_ (by omega)
    rw [if_neg (by omega)]
    refine ⟨b, o + lo * size, by simp [Addr.add_lit], fun j u hu => ?_⟩
    rw [Nat.add_assoc]
    refine hc _ u ?_
    have hj : j < (hi - lo) * size := by
      have := (List.getElem?_eq_some_iff.1 hu).1
      simp at this
      omega
    rw [List.getElem?_take, if_pos hj, List.getElem?_drop] at hu
    exact hu
theorem Own.cut (h : Own w B e size A n c xs) {lo hi m : Nat} (h1 : lo ≤ hi) (h2 : hi ≤ n) (h3 : hi ≤ m) (h4 : m ≤ c) :
    Own w B e size (if m = lo then A else A.map (·.add (lo * size))) (hi - lo) (m - lo) ((xs.drop (lo * size)).take ((hi - lo) * size)) := by
  refine ⟨?_, by omega, by have := h.capm; omega, fun hm => ?_⟩
  · rw [List.length_take, List.length_drop, h.len, ← Nat.sub_mul]
    exact Nat.min_eq_left (Nat.mul_le_mul_right _ (by omega))
  · obtain ⟨g, o, cur, rfl, hb, hh, hf, ht⟩ := h.row (by omega)
    rw [if_neg (by omega)]
    refine ⟨g, o + lo * size, cur, by simp [Addr.add_lit], hb, hh, ?_, ?_⟩
    · have := Nat.mul_le_mul_right size (show lo + (m - lo) ≤ c by omega)
      rw [Nat.add_mul] at this
      omega
    · rw [← ht, List.drop_take, List.drop_drop, List.take_take]
      congr 1
      rw [Nat.min_eq_left]
      rw [← Nat.sub_mul]
      exact Nat.mul_le_mul_right _ (by omega)
end

section
variable {P : Program} (w : World)

/-- a new row's own slice -/
theorem Own.fresh (B : Nat) (e : TypeId) (size n c : Nat) (cur : Array Value) (xs : List Value) (hB : B ≤ w.heap.size) (hnc : n ≤ c) (hc : c ≤ maxLen) (hs : cur.size = c * size) (hx : xs.length = n * size) (ht : cur.toList.take (n * size) = xs) :
    Own (w.alloc (.cells cur e)) B e size (some ⟨w.heap.size, 0, none⟩) n c xs :=
  ⟨hx, hnc, hc, fun _ => ⟨w.heap.size, 0, cur, rfl, hB, heap_alloc_new w _, by omega, by simpa using ht⟩⟩

/-- a new row reads as it was laid, whatever its mark -/
theorem Sl.lit (e : TypeId) (fr : Nat × Nat) (n : Nat) (cur : Array Value) (xs : List Value) (hn : xs.length = n) (hm : n ≤ maxLen) (hc : cur.toList = xs) :
    Sl (w.alloc (.cells cur e fr)) 1 (some ⟨w.heap.size, 0, none⟩) n n xs :=
  ⟨by omega, Nat.le_refl _, hm, fun _ => ⟨w.heap.size, 0, rfl, fun j u hu => by
    rw [cell_of_row _ _ _ _ _ _ (heap_alloc_new w _)]
    rw [← hc] at hu
    simpa using hu⟩⟩
/-- .. and a literal's -/
theorem Own.lit (B : Nat) (e : TypeId) (n : Nat) (cur : Array Value) (xs : List Value) (hB : B ≤ w.heap.size) (hn : xs.length = n) (hm : n ≤ maxLen) (hc : cur.toList = xs) :
    Own (w.alloc (.cells cur e)) B e 1 (some ⟨w.heap.size, 0, none⟩) n n xs :=
  Own.fresh w B e 1 n n cur xs hB (Nat.le_refl _) hm (by rw [← hn, ← hc]; simp) (by omega) (by rw [hc, ← hn]; simp)
theorem nslice_room (t ty e : TypeId) (i : TypeInfo) (ht : P.underlying t = some (.slice e)) (hi : P.info? e = some i)
    (g o sLen sCap : Nat) (cur : Array Value) (hg : w.heap[g]? = some (.cells cur e (0, 0)))
    (A : Option Addr) (m c : Nat) (news : List Value) (hs : Sl w i.size A m c news) (h1 : ∀ u ∈ news, u.oneCell' = true)
    (hroom : sLen + m ≤ sCap) (hfit : o + sCap * i.size ≤ cur.size) :
    (Builtin.append_ #[t, t] ty #[.slice (some ⟨g, o, none⟩) sLen sCap, .slice A m c]).run P w =
      .ok (.slice (some ⟨g, o, none⟩) (sLen + m) sCap) (w.setRow g (cur.toList.take (o + sLen * i.size) ++ news ++ cur.toList.drop (o + sLen * i.size + news.length)).toArray) := by
  have hl := hs.len
  have hle : o + sLen * i.size + news.length ≤ cur.size := by
    have := Nat.mul_le_mul_right i.size hroom
    rw [Nat.add_mul] at this
    omega
  have hst := run_storeCells_at P g (o + sLen * i.size) e news 0 cur w hg (by simpa using hle) h1
  simp only [Nat.add_zero] at hst
  have hf : (Builtin.firstCells i.size m (.slice A m c)).run P w = .ok news.toArray w := by
    rcases Nat.eq_zero_or_pos m with h0 | h0
    · subst h0
      have hn : news = [] := List.eq_nil_of_length_eq_zero (by simpa using hl)
      subst hn
      cases A with
      | none => exact run_firstCells_none w _ _ _ _
      | some ad => exact run_firstCells_some (P := P) w i.size 0 ad 0 c [] (by simp) (by simp)
    · obtain ⟨b, o', rfl, hc⟩ := hs.at_ h0
      exact run_firstCells_some (P := P) w i.size m _ m c news hl (fun j u hu => by rw [Addr.add_lit]; exact hc j u hu)
  simp [Builtin.append_, run_underlying ht, sizeOf, typeInfo, hi, Builtin.lenOf, hroom, hf, Addr.add_lit, hst]

theorem run_first (size m c : Nat) (A : Option Addr) (news : List Value) (hs : Sl w size A m c news) : (Builtin.firstCells size m (.slice A m c)).run P w = .ok news.toArray w := by
  have hl := hs.len
  rcases Nat.eq_zero_or_pos m with h0 | h0
  · subst h0
    have hn : news = [] := List.eq_nil_of_length_eq_zero (by simpa using hl)
    subst hn
    cases A with
    | none => exact run_firstCells_none w _ _ _ _
    | some ad => exact run_firstCells_some (P := P) w size 0 ad 0 c [] (by simp) (by simp)
  · obtain ⟨b, o', rfl, hc⟩ := hs.at_ h0
    exact run_firstCells_some (P := P) w size m _ m c news hl (fun j u hu => by rw [Addr.add_lit]; exact hc j u hu)

theorem nslice_grow (t ty e : TypeId) (i : TypeInfo) (z : Value) (ht : P.underlying t = some (.slice e)) (hi : P.info? e = some i) (hz : i.zero = some z)
    (A : Option Addr) (sLen sCap : Nat) (olds : List Value) (ho : Sl w i.size A sLen sCap olds)
    (A2 : Option Addr) (n c : Nat) (news : List Value) (hs : Sl w i.size A2 n c news)
    (hg : sCap < sLen + n) (h63 : ((sLen + n : Nat) : Int) ≤ 9223372036854775807) (hfit : Builtin.nextslicecap (sLen + n) sCap * i.bytes ≤ 281474976710656) :
    (Builtin.append_ #[t, t] ty #[.slice A sLen sCap, .slice A2 n c]).run P w =
      .ok (.slice (some ⟨w.heap.size, 0, none⟩) (sLen + n) (grownCap w (sLen + n) sCap e))
        (w.drew.alloc (.cells (olds.toArray ++ news.toArray ++ Builtin.zeroCells z.cells (grownCap w (sLen + n) sCap e - (sLen + n))) e)) := by
  have hn : ¬ (sLen + n ≤ sCap) := by omega
  have h63' : ¬ (9223372036854775807 < ((sLen : Int) + (n : Int))) := by omega
  have h48' : ¬ (281474976710656 < Builtin.nextslicecap (sLen + n) sCap * i.bytes) := by omega
  have hf := run_first (P := P) w.drew i.size n c A2 news (hs.keep fun _ _ _ => rfl)
  have hfo := run_first (P := P) w.drew i.size sLen sCap A olds (ho.keep fun _ _ _ => rfl)
  simp [Builtin.append_, run_underlying ht, sizeOf, typeInfo, zeroValue, hi, hz, Builtin.lenOf, hn, h63', h48', Question.forced, hf, hfo, newRow, grownCap]
  congr 2
  apply Array.ext'
  simp [List.append_assoc]

/-- append onto what the call owns, whatever is appended -/
theorem run_append_own2 (B : Nat) (t ty e : TypeId) (i : TypeInfo) (z : Value) (size bytes : Nat) (ht : P.underlying t = some (.slice e)) (hi : P.info? e = some i) (hz : i.zero = some z)
    (hsize : i.size = size) (hby : i.bytes = bytes) (hzs : z.cells.size = size)
    (A : Option Addr) (n c : Nat) (xs : List Value) (hown : Own w B e size A n c xs)
    (A2 : Option Addr) (m c2 : Nat) (news : List Value) (hs : Sl w size A2 m c2 news) (h1 : ∀ u ∈ news, u.oneCell' = true)
    (h63 : n + m ≤ maxLen) (hbytes : (n + m) * bytes ≤ 140737488355328) (hB : B ≤ w.heap.size) :
    ∃ A' c' w', (Builtin.append_ #[t, t] ty #[.slice A n c, .slice A2 m c2]).run P w = .ok (.slice A' (n + m) c') w' ∧ Own w' B e size A' (n + m) c' (xs ++ news) ∧ w.grownBy w' (blk A c) ∧
      (blk A' c' = blk A c ∨ blk A' c' = some w.heap.size) := by
  subst hsize
  subst hby
  have hsmall : n + m ≤ 9223372036854775807 := by simp only [maxLen] at h63; omega
  have hlen : (xs ++ news).length = (n + m) * i.size := by rw [List.length_append, hown.len, hs.len, Nat.add_mul]
  by_cases hroom : n + m ≤ c
  · rcases Nat.eq_zero_or_pos c with h0 | h0
    · subst h0
      obtain rfl : n = 0 := by omega
      obtain rfl : m = 0 := by omega
      have hx : xs = [] := List.eq_nil_of_length_eq_zero (by simpa using hown.len)
      have hn : news = [] := List.eq_nil_of_length_eq_zero (by simpa using hs.len)
      subst hx
      subst hn
      refine ⟨A, 0, w, ?_, by simpa using Own.nil w B e i.size A, World.grownBy.refl w _, .inl rfl⟩
      have hf := run_first (P := P) w i.size 0 c2 A2 [] hs
      simp [Builtin.append_, run_underlying ht, sizeOf, typeInfo, hi, Builtin.lenOf, hf]
      cases A <;> simp [storeCells]
    · obtain ⟨g, o, cur, rfl, hb, hh, hf, htk⟩ := hown.row h0
      have hle : o + n * i.size + news.length ≤ cur.size := by
        have := Nat.mul_le_mul_right i.size hroom
        rw [Nat.add_mul] at this
        have := hs.len
        omega
      have hr := nslice_room (P := P) w t ty e i ht hi g o n c cur hh A2 m c2 news hs h1 hroom hf
      refine ⟨_, _, _, hr, ⟨hlen, hroom, hown.capm, fun _ => ⟨g, o, _, rfl, hb, setRow_heap w g cur _ e _ hh, ?_, ?_⟩⟩, ⟨rfl, rfl, rfl, by simp, fun k _ hk => setRow_other w g k _ (fun e => hk (by simp [blk, e]; omega))⟩, .inl rfl⟩
      · simp only [List.size_toArray, List.length_append, List.length_take, List.length_drop, Array.length_toList]
        omega
      · have h2 : (cur.toList.take (o + n * i.size)) = cur.toList.take o ++ xs := by
          rw [List.take_add, htk]
        rw [h2, List.append_assoc, List.append_assoc, List.drop_left' (by simp; omega), ← List.append_assoc, ← hlen]
        exact List.take_left
  · have hge := grownCap_ge w (n + m) c e
    have hcm : grownCap w (n + m) c e ≤ maxLen := grownCap_le_maxLen w (n + m) c e h63
    have hr := nslice_grow (P := P) w t ty e i z ht hi hz A n c xs hown.sl A2 m c2 news hs (by omega) (by omega) (growslice_fits (by omega) hbytes)
    refine ⟨_, _, _, hr, ?_, ⟨rfl, rfl, rfl, by simp, fun k hk _ => Below.heap_alloc w.drew _ k hk⟩, .inr (by simp [blk]; omega)⟩
    refine Own.fresh w.drew B e i.size _ _ _ _ hB hge hcm ?_ hlen ?_
    · simp only [Array.size_append, List.size_toArray, size_zeroCells, hzs, hown.len, hs.len, ← Nat.add_mul]
      congr 1
      omega
    · simp only [Array.toList_append, List.append_assoc]
      rw [← List.append_assoc, ← hlen]
      exact List.take_left

theorem wpList_app {ops : Array Oper} {rest : List Oper} {o : Oper} {a : Act} {Q : Exit → Act → World → Prop} (hgd : o.guard = none) (s x : Operand) (t : TypeId)
    (ho : o.op = .call { callee := .builtin .append, args := #[s, x], argTypes := #[t, t] })
    (B : Nat) (e : TypeId) (i : TypeInfo) (z : Value) (size bytes : Nat) (ht : P.underlying t = some (.slice e)) (hi : P.info? e = some i) (hz : i.zero = some z)
    (hsize : i.size = size) (hby : i.bytes = bytes) (hzs : z.cells.size = size)
    (A : Option Addr) (n c : Nat) (xs : List Value) (hsv : a.eval s = .slice A n c) (hown : Own w B e size A n c xs)
    (A2 : Option Addr) (m c2 : Nat) (news : List Value) (hx : a.eval x = .slice A2 m c2) (hs : Sl w size A2 m c2 news) (h1 : ∀ u ∈ news, u.oneCell' = true)
    (h63 : n + m ≤ maxLen) (hbytes : (n + m) * bytes ≤ 140737488355328) (hB : B ≤ w.heap.size)
    (h : ∀ A' c' w', Own w' B e size A' (n + m) c' (xs ++ news) → w.grownBy w' (blk A c) → (blk A' c' = blk A c ∨ blk A' c' = some w.heap.size) → wpList P ops Q rest (a.put o.dst (.slice A' (n + m) c')) w') : wpList P ops Q (o :: rest) a w := by
  refine wpList_plain hgd fun _ hK => ?_
  obtain ⟨A', c', w', hrun, h2, h3, h4⟩ := run_append_own2 (P := P) w B t o.type e i z size bytes ht hi hz hsize hby hzs A n c xs hown A2 m c2 news hs h1 h63 hbytes hB
  unfold Oper.wp execOp
  simp only [ho, resolve, invoke, builtin, Sem.run_bind, Sem.run_pure, Result.andThen_ok, List.map_toArray, List.map_cons, List.map_nil, hsv, hx, hrun]
  exact hK _ _ (h A' c' w' h2 h3 h4)
end
section
variable {w w' : World} {B B' : Nat} {e : TypeId} {size : Nat} {A : Option Addr} {n c : Nat} {xs : List Value}
/-- where an owned slice of one-cell elements lies, and that a cell of it may be written -/
theorem Own.place (h : Own w B e 1 A n c xs) {k : Nat} (hk : k < n) : ∃ g o u, A = some ⟨g, o, none⟩ ∧ B ≤ g ∧ g < w.heap.size ∧ xs[k]? = some u ∧ w.cell? ⟨g, o + k, none⟩ = some u ∧ w.frozen? ⟨g, o + k, none⟩ = false := by
  obtain ⟨g, o, u, hA, hu, hc⟩ := h.sl.cell hk
  have hc0 : 0 < c := by have := h.cap; omega
  obtain ⟨g', o', cur, e1, hb, hh, _⟩ := h.row hc0
  rw [hA] at e1
  obtain ⟨rfl, rfl⟩ : g = g' ∧ o = o' := by simpa using e1
  exact ⟨g, o, u, hA, hb, heap_lt hh, hu, hc, by simp [World.frozen?, hh]⟩
/-- .. and once it is written -/
theorem Own.stored {g o : Nat} (h : Own w B e 1 (some ⟨g, o, none⟩) n c xs) {k : Nat} (hk : k < n) (v : Value) :
    Own (w.setCell ⟨g, o + k, none⟩ v) B e 1 (some ⟨g, o, none⟩) n c (xs.set k v) := by
  refine ⟨by simpa using h.len, h.cap, h.capm, fun hc => ?_⟩
  obtain ⟨g', o', cur, e1, hb, hh, hf, ht⟩ := h.row hc
  obtain ⟨rfl, rfl⟩ : g = g' ∧ o = o' := by simpa using e1
  have hlen := h.len
  refine ⟨g, o, cur.setIfInBounds (o + k) v, rfl, hb, ?_, by simpa using hf, ?_⟩
  · simp [World.setCell, Array.getElem?_modify, hh]
  · rw [← ht]
    apply List.ext_getElem?
    intro j
    simp only [Array.toList_setIfInBounds, List.getElem?_take, List.getElem?_drop, List.getElem?_set, Nat.mul_one, List.length_take, List.length_drop]
    by_cases hj : j < n
    · by_cases hkj : k = j
      · subst hkj
        have : o + k < cur.toList.length := by simp; have := h.cap; omega
        have h2 : k < min n (cur.toList.length - o) := by have := h.cap; simp; omega
        simp [hj]
        simp at this h2
        simp [this]
        omega
      · simp [hj, hkj]
    · have : ¬ (k = j) := by omega
      simp [hj, this]
theorem only_set {w0 : World} {g : Nat} (h : w0.grownBy w (some g)) (o : Nat) (v : Value) : w0.grownBy (w.setCell ⟨g, o, none⟩ v) (some g) :=
  ⟨h.os, h.tape, h.output, by simpa [World.setCell] using h.size, fun i hi hne => (Below.heap_setCell w _ v i (fun e => hne (by rw [e]))).trans (h.block i hi hne)⟩
end

section
variable {P : Program} (w : World)
/-- copy onto what the call owns, from another block -/
theorem run_copy_own (B : Nat) (t ty e : TypeId) (i : TypeInfo) (ht : P.underlying t = some (.slice e)) (hi : P.info? e = some i) (hsize : i.size = 1)
    (A : Option Addr) (n c : Nat) (xs : List Value) (hown : Own w B e 1 A n c xs)
    (A2 : Option Addr) (m c2 : Nat) (news : List Value) (hs : Sl w 1 A2 m c2 news) (h1 : ∀ u ∈ news, u.oneCell' = true) (hmn : m ≤ n) :
    ∃ w', (Builtin.copy_ #[t, t] ty #[.slice A n c, .slice A2 m c2]).run P w = .ok (goInt m) w' ∧ Own w' B e 1 A n c (news ++ xs.drop m) ∧ w.grownBy w' (blk A c) := by
  have hf := run_first (P := P) w 1 m c2 A2 news hs
  have hnl : news.length = m := by have := hs.len; omega
  have hxl : xs.length = n := by have := hown.len; omega
  have hmin : Nat.min m n = m := Nat.min_eq_left hmn
  rcases Nat.eq_zero_or_pos c with h0 | h0
  · have : n = 0 := by have := hown.cap; omega
    subst h0
    subst this
    obtain rfl : m = 0 := by omega
    obtain rfl : news = [] := List.eq_nil_of_length_eq_zero hnl
    obtain rfl : xs = [] := List.eq_nil_of_length_eq_zero hxl
    refine ⟨w, ?_, by simpa using Own.nil w B e 1 A, World.grownBy.refl w _⟩
    cases A <;> simp [Builtin.copy_, run_underlying ht, sizeOf, typeInfo, hi, hsize, Builtin.lenOf, hf, storeCells]
  · obtain ⟨g, o, cur, rfl, hb, hh, hfit, htk⟩ := hown.row h0
    have hcap := hown.cap
    have hst := run_storeCells_at P g o e news 0 cur w hh (by simp; omega) h1
    simp only [Nat.add_zero] at hst
    refine ⟨w.setRow g (cur.toList.take o ++ news ++ cur.toList.drop (o + news.length)).toArray, ?_, ⟨by simp; omega, hcap, hown.capm, fun _ => ⟨g, o, _, rfl, hb, setRow_heap w g cur _ e _ hh, ?_, ?_⟩⟩, ⟨rfl, rfl, rfl, by simp, fun k _ hk => setRow_other w g k _ (fun e => hk (by simp [blk, e]; omega))⟩⟩
    · simp only [Builtin.copy_, List.getElem?_toArray]
      simp [run_underlying ht, sizeOf, typeInfo, hi, hsize, Builtin.lenOf, hmin, hf]
      rw [hst]
      simp [Result.andThen]
    · simp only [List.size_toArray, List.length_append, List.length_take, List.length_drop, Array.length_toList]
      omega
    · rw [← htk]
      simp only [List.append_assoc, Nat.mul_one]
      rw [List.drop_left' (by simp; omega), List.take_append, List.take_of_length_le (by omega), hnl]
      congr 1
      rw [List.drop_take, List.drop_drop]

theorem wpList_cpy {ops : Array Oper} {rest : List Oper} {o : Oper} {a : Act} {Q : Exit → Act → World → Prop} (hgd : o.guard = none) (s x : Operand) (t : TypeId)
    (ho : o.op = .call { callee := .builtin .copy, args := #[s, x], argTypes := #[t, t] })
    (B : Nat) (e : TypeId) (i : TypeInfo) (ht : P.underlying t = some (.slice e)) (hi : P.info? e = some i) (hsize : i.size = 1)
    (A : Option Addr) (n c : Nat) (xs : List Value) (hsv : a.eval s = .slice A n c) (hown : Own w B e 1 A n c xs)
    (A2 : Option Addr) (m c2 : Nat) (news : List Value) (hx : a.eval x = .slice A2 m c2) (hs : Sl w 1 A2 m c2 news) (h1 : ∀ u ∈ news, u.oneCell' = true) (hmn : m ≤ n)
    (h : ∀ w', Own w' B e 1 A n c (news ++ xs.drop m) → w.grownBy w' (blk A c) → wpList P ops Q rest (a.put o.dst (goInt m)) w') : wpList P ops Q (o :: rest) a w := by
  refine wpList_plain hgd fun _ hK => ?_
  obtain ⟨w', hrun, h2, h3⟩ := run_copy_own (P := P) w B t o.type e i ht hi hsize A n c xs hown A2 m c2 news hs h1 hmn
  unfold Oper.wp execOp
  simp only [ho, resolve, invoke, builtin, Sem.run_bind, Sem.run_pure, Result.andThen_ok, List.map_toArray, List.map_cons, List.map_nil, hsv, hx, hrun]
  exact hK _ _ (h w' h2 h3)

/-- make([]T, n), elements of one cell -/
theorem wpList_mk {ops : Array Oper} {rest : List Oper} {o : Oper} {a : Act} {Q : Exit → Act → World → Prop} (hgd : o.guard = none) (l c : Operand) (t : TypeId) (ho : o.op = Op.makeSlice t l c)
    (B : Nat) (e : TypeId) (i : TypeInfo) (z : Value) (bytes : Nat) (ht : P.underlying t = some (.slice e)) (hi : P.info? e = some i) (hz : i.zero = some z) (hsize : i.size = 1) (hby : i.bytes = bytes) (hzs : z.cells = #[z])
    (kl kc : IntKind) (L C : Int) (n : Nat) (hl : a.eval l = .int kl L) (hc : a.eval c = .int kc C) (hL : L = (n : Int)) (hC : C = (n : Int)) (b2 : bytes * n ≤ 281474976710656) (b3 : n ≤ maxLen) (b4 : B ≤ w.heap.size)
    (h : ∀ w', Own w' B e 1 (some ⟨w.heap.size, 0, none⟩) n n (List.replicate n z) → Below w.heap.size w w' → w'.heap.size = w.heap.size + 1 → wpList P ops Q rest (a.put o.dst (.slice (some ⟨w.heap.size, 0, none⟩) n n)) w') :
    wpList P ops Q (o :: rest) a w := by
  refine wpList_plain hgd fun K hK' => ?_
  subst hL
  subst hC
  subst hby
  have hb : (i.bytes : Int) * (n : Int) ≤ 281474976710656 := by
    have h : ((i.bytes * n : Nat) : Int) ≤ 281474976710656 := by omega
    rwa [Int.natCast_mul] at h
  have hr := run_make (P := P) w t e i z ht hi hz kl kc n n (by omega) (by omega) hb (by unfold maxLen at b3; omega)
  simp only [Int.toNat_natCast, hsize, Nat.mul_one] at hr
  unfold Oper.wp
  simp only [execOp, ho, hl, hc]
  simp only [Sem.run_bind, hr, Result.andThen_ok, Sem.run_pure]
  refine hK' _ _ (h _ (Own.fresh w B e 1 n n _ _ b4 (Nat.le_refl _) b3 ?_ ?_ ?_) ((Below.refl _ _).alloc (Nat.le_refl _) _) (by simp))
  · simp [size_madeCells]
  · simp
  · rw [hzs, toList_madeCells_one]
    simp
end
end Go.Proofs.YtpffieogkfndaaaGreatDoor

namespace Go.Proofs.YtpffieogkfndaaaGreatDoor
set_option maxRecDepth 20000
set_option linter.unusedVariables false
set_option linter.unusedSimpArgs false
open Go.RowKit

theorem ret_int {k : IntKind} {a b : Int} (h : a = b) : Ending.returned (.int k a) = .returned (.int k b) := by rw [h]
theorem ret_bool {a b : Bool} (h : a = b) : Ending.returned (.bool a) = .returned (.bool b) := by rw [h]
theorem infoB : (Tryz.prog.info? 5).map (fun i => (i.zero, i.size, i.bytes)) = some (some (.int .u8 0), 1, 1) := by kernel_rfl

/-- a slice of bytes that lies in memory of the call's own -/
def OwnB (w : World) (B : Nat) (A : Option Addr) (n c : Nat) (l : List UInt8) : Prop := Own w B 5 1 A n c (bc l)
theorem OwnB.sl {w : World} {B : Nat} {A : Option Addr} {n c : Nat} {l : List UInt8} (h : OwnB w B A n c l) : Sl w 1 A n c (bc l) := Own.sl h
theorem OwnB.len' {w : World} {B : Nat} {A : Option Addr} {n c : Nat} {l : List UInt8} (h : OwnB w B A n c l) : l.length = n := h.sl.lenb

/-- append of bytes to bytes of the call's own -/
theorem wpList_appB (w : World) {ops : Array Oper} {rest : List Oper} {o : Oper} {a : Act} {Q : Exit → Act → World → Prop} (hgd : o.guard = none) (s x : Operand)
    (ho : o.op = .call { callee := .builtin .append, args := #[s, x], argTypes := #[29, 29] })
    (B : Nat) (A : Option Addr) (n c : Nat) (l : List UInt8) (hsv : a.eval s = .slice A n c) (hown : OwnB w B A n c l)
    (A2 : Option Addr) (m c2 : Nat) (l2 : List UInt8) (hx : a.eval x = .slice A2 m c2) (hs : Sl w 1 A2 m c2 (bc l2))
    (hbytes : n + m ≤ 140737488355328) (hB : B ≤ w.heap.size)
    (h : ∀ A' c' w', OwnB w' B A' (n + m) c' (l ++ l2) → w.grownBy w' (blk A c) → (blk A' c' = blk A c ∨ blk A' c' = some w.heap.size) → wpList Tryz.prog ops Q rest (a.put o.dst (.slice A' (n + m) c')) w') : wpList Tryz.prog ops Q (o :: rest) a w := by
  obtain ⟨i, hi, hz, hs1, hb1⟩ := info_parts infoB
  refine wpList_app w hgd s x _ ho B _ i _ 1 1 Tryz.underlying29 hi hz hs1 hb1 rfl A n c (bc l) hsv hown A2 m c2 (bc l2) hx hs (bc_one _) (by unfold maxLen; omega) (by omega) hB ?_
  intro A' c' w' h1 h2 h3
  exact h A' c' w' (by unfold OwnB; rw [bc_append]; exact h1) h2 h3

/-- a slice of bytes as a string -/
theorem run_conv (w : World) (A : Option Addr) (n c : Nat) (l : List UInt8) (h : Sl w 1 A n c (bc l)) :
    ∃ s : ByteArray, s.toList = l ∧ (convert 29 9 (.slice A n c)).run Tryz.prog w = .ok (.string s) w := by
  have hl := h.lenb
  refine ⟨⟨l.toArray⟩, by rw [ByteArray.toList_eq], ?_⟩
  rcases Nat.eq_zero_or_pos n with h0 | h0
  · subst h0
    have e : l = [] := List.eq_nil_of_length_eq_zero hl
    subst e
    rw [run_convert_bytes_string w 29 9 5 A 0 c Tryz.underlying29 Tryz.underlying5 Tryz.underlying9]
    cases A with
    | none => simp [Conv.bytesToString]; rfl
    | some ad => simp [Conv.bytesToString, loadCells, loadCellsFrom]; rfl
  · obtain ⟨b, o, rfl, hc⟩ := h.at_ h0
    have hr := run_convert_bytes_arg (P := Tryz.prog) w 29 5 Tryz.underlying29 Tryz.underlying5 b o n c (l.map fun x => (x.toNat : Int)) (by simpa using hl) (fun i hi => by
      have hil : i < l.length := by omega
      have := hc i _ (by rw [bc_get, List.getElem?_eq_getElem hil]; rfl)
      rw [this]
      simp [List.getD, List.getElem?_eq_getElem hil]) 9 Tryz.underlying9
    rw [hr]
    congr 2
    simp only [strOfNums]
    congr 1
    simp only [List.map_map]
    congr 1
    conv => rhs; rw [← List.map_id l]
    apply List.map_congr_left
    intro x _
    simp

theorem run_sizeB (w : World) : (sizeOf 5).run Tryz.prog w = .ok 1 w := by
  obtain ⟨i, hi, _, hs, _⟩ := info_parts infoB
  simp [sizeOf, typeInfo, hi, hs]

theorem addr0 (c : Nat) (A : Option Addr) : (if c = 0 then A else A.map fun x => x.add 0) = A := by
  split
  · rfl
  · cases A <;> simp [Addr.add]
/-- p[:k], up to the capacity -/
theorem cutC {A : Option Addr} {n c : Nat} (q : IntKind) (i : Int) (k : Nat) (hi : i = k) (hk : k ≤ c) (w' : World) :
    (Instr.slice 29 (.slice A n c) none (some (.int q i)) none).run Tryz.prog w' = .ok (.slice A k c) w' := by
  subst hi
  have := run_slice_h (P := Tryz.prog) w' 29 A n c Tryz.underlying29 q k (by omega) (by omega)
  rw [this]
  show ((sizeOf 5).run Tryz.prog w').andThen _ = _
  rw [run_sizeB]
  simp only [Result.andThen, sliced, Int.toNat_natCast, Nat.sub_zero, Nat.zero_mul]
  rw [addr0]
/-- p[:k] -/
theorem cutH {w : World} {A : Option Addr} {n c : Nat} {l : List UInt8} (h : Sl w 1 A n c (bc l)) (q : IntKind) (i : Int) (k : Nat) (hi : i = k) (hk : k ≤ n) :
    (∀ w' : World, (Instr.slice 29 (.slice A n c) none (some (.int q i)) none).run Tryz.prog w' = .ok (.slice A k c) w') ∧ Sl w 1 A k c (bc (l.take k)) := by
  have hcap := h.cap
  constructor
  · intro w'
    subst hi
    have := run_slice_h (P := Tryz.prog) w' 29 A n c Tryz.underlying29 q k (by omega) (by omega)
    rw [this]
    show ((sizeOf 5).run Tryz.prog w').andThen _ = _
    rw [run_sizeB]
    simp only [Result.andThen, sliced, Int.toNat_natCast, Nat.sub_zero, Nat.zero_mul]
    rw [addr0]
  · have := h.cut (lo := 0) (hi := k) (m := c) (Nat.zero_le _) hk (by omega) (Nat.le_refl _)
    simp only [List.drop_zero, Nat.sub_zero, Nat.mul_one] at this
    rw [bc_take]
    rw [addr0] at this
    exact this
/-- p[lo:hi] -/
theorem cutLH {w : World} {A : Option Addr} {n c : Nat} {l : List UInt8} (h : Sl w 1 A n c (bc l)) (q q' : IntKind) (i j : Int) (lo hi : Nat) (ei : i = lo) (ej : j = hi) (h1 : lo ≤ hi) (h2 : hi ≤ n) :
    ∃ A', (∀ w' : World, (Instr.slice 29 (.slice A n c) (some (.int q i)) (some (.int q' j)) none).run Tryz.prog w' = .ok (.slice A' (hi - lo) (c - lo)) w') ∧
      Sl w 1 A' (hi - lo) (c - lo) (bc ((l.drop lo).take (hi - lo))) ∧ ∀ B, OwnB w B A n c l → OwnB w B A' (hi - lo) (c - lo) ((l.drop lo).take (hi - lo)) := by
  have hcap := h.cap
  subst ei
  subst ej
  refine ⟨if c = lo then A else A.map (·.add (lo * 1)), fun w' => ?_, ?_, ?_⟩
  · have := run_slice_lh (P := Tryz.prog) w' 29 A n c Tryz.underlying29 q q' lo hi (by omega) (by omega) (by omega)
    rw [this]
    show ((sizeOf 5).run Tryz.prog w').andThen _ = _
    rw [run_sizeB]
    simp only [Result.andThen, sliced, Int.toNat_natCast]
  · have := h.cut (lo := lo) (hi := hi) (m := c) h1 h2 (by omega) (Nat.le_refl _)
    simp only [Nat.mul_one] at this
    rw [bc_take, bc_drop, Nat.mul_one]
    exact this
  · intro B ho
    have := Own.cut ho (lo := lo) (hi := hi) (m := c) h1 h2 (by omega) (Nat.le_refl _)
    simp only [Nat.mul_one] at this
    unfold OwnB
    rw [bc_take, bc_drop, Nat.mul_one]
    exact this
/-- p[lo:] -/
theorem cutL {w : World} {A : Option Addr} {n c : Nat} {l : List UInt8} (h : Sl w 1 A n c (bc l)) (q : IntKind) (i : Int) (lo : Nat) (ei : i = lo) (h2 : lo ≤ n) :
    ∃ A', (∀ w' : World, (Instr.slice 29 (.slice A n c) (some (.int q i)) none none).run Tryz.prog w' = .ok (.slice A' (n - lo) (c - lo)) w') ∧
      Sl w 1 A' (n - lo) (c - lo) (bc (l.drop lo)) ∧ ∀ B, OwnB w B A n c l → OwnB w B A' (n - lo) (c - lo) (l.drop lo) := by
  have hcap := h.cap
  have hl := h.lenb
  subst ei
  have e : (l.drop lo).take (n - lo) = l.drop lo := List.take_of_length_le (by simp; omega)
  obtain ⟨A', hr, h3, h4⟩ := cutLH h q q lo n lo n rfl rfl h2 (Nat.le_refl _)
  rw [e] at h3 h4
  refine ⟨A', fun w' => ?_, h3, h4⟩
  rw [← hr w', run_slice_lh (P := Tryz.prog) w' 29 A n c Tryz.underlying29 q q lo n (by omega) (by omega) (by omega),
    run_slice_l (P := Tryz.prog) w' 29 A n c Tryz.underlying29 q lo (by omega) (by omega)]
  simp only [Int.toNat_natCast]
set_option maxHeartbeats 400000 in
/-- Same: of two -/
theorem same_any (w : World) (A1 : Option Addr) (n1 c1 : Nat) (l1 : List UInt8) (A2 : Option Addr) (n2 c2 : Nat) (l2 : List UInt8) (h1 : Sl w 1 A1 n1 c1 (bc l1)) (h2 : Sl w 1 A2 n2 c2 (bc l2)) :
    Calls Tryz.prog 15 #[.slice A1 n1 c1, .slice A2 n2 c2] w fun e w' => e = .returned (.bool (l1 == l2)) ∧ w = w' := by
  obtain ⟨s1, e1, r1⟩ := run_conv w A1 n1 c1 l1 h1
  obtain ⟨s2, e2, r2⟩ := run_conv w A2 n2 c2 l2 h2
  have E1 := Lib.hid e1
  have E2 := Lib.hid e2
  clear e1 e2 h1 h2
  go_enter Tryz.func15, Tryz.ntmps15
  go_wp2
  go_ret
  refine ⟨ret_bool ?_, rfl⟩
  rw [E1.out, E2.out]
theorem same_is (w : World) (A1 : Option Addr) (n1 c1 : Nat) (l1 : List UInt8) (A2 : Option Addr) (n2 c2 : Nat) (l2 : List UInt8) (b : Bool) (hb : Hid ((l1 == l2) = b)) (h1 : Sl w 1 A1 n1 c1 (bc l1)) (h2 : Sl w 1 A2 n2 c2 (bc l2)) :
    Calls Tryz.prog 15 #[.slice A1 n1 c1, .slice A2 n2 c2] w fun e w' => e = .returned (.bool b) ∧ w = w' := by
  rw [← hb.out]
  exact same_any w A1 n1 c1 l1 A2 n2 c2 l2 h1 h2
/-- what a call that makes bytes of its own gives back: l, in memory of its own; nothing else has turned -/
def NewB (w : World) (l : List UInt8) (e : Ending) (w' : World) : Prop :=
  ∃ (A : Option Addr) (n c : Nat), e = .returned (.slice A n c) ∧ OwnB w' w.heap.size A n c l ∧ Below w.heap.size w w'

set_option maxHeartbeats 400000 in
/-- bytes.Clone -/
theorem clone_any (w : World) (A : Option Addr) (n c : Nat) (l : List UInt8) (h : Sl w 1 A n c (bc l)) (hn : n ≤ 140737488355328) :
    Calls Tryz.prog 63 #[.slice A n c] w (NewB w l) := by
  have q : ∀ (w : World) (a : Option Addr) (n c n' c' : Nat), (binOp .eql 29 (.slice a n c) (.slice none n' c')).run Tryz.prog w = .ok (.bool a.isNone) w := fun w a n c n' c' => Lib.run_eql_slice_nil w _ _ a n c n' c' Tryz.underlying29
  go_enter Tryz.func63, Tryz.ntmps63
  cases A with
  | none =>
    obtain rfl := h.none_len
    obtain rfl : l = [] := List.eq_nil_of_length_eq_zero h.lenb
    go_wp2
    go_ret
    exact ⟨none, 0, 0, rfl, Own.nil _ _ _ _ _, Below.refl _ _⟩
  | some ad =>
    have h1 := h.below (by omega) ((Below.refl w.heap.size w).alloc (Nat.le_refl _) (.cells #[] 5))
    go_wp2_with (at_builtin; refine wpList_appB _ rfl (.tmp 5) (.tmp 6) rfl w.heap.size _ 0 0 [] rfl (Own.nil _ _ _ _ _) _ n c l rfl h1 ?_ ?_ ?_)
    · omega
    · simp
    · intro A' c' w1 hown hg _
      go_wp2
      go_ret
      exact ⟨A', _, c', rfl, by simpa using hown, ((Below.refl w.heap.size w).alloc (Nat.le_refl _) _).grown hg (by simp) (by simp [blk])⟩

set_option maxHeartbeats 400000 in
/-- Copy of the references -/
theorem copy_any (w : World) (A : Option Addr) (n c : Nat) (l : List UInt8) (h : Sl w 1 A n c (bc l)) (hn : n ≤ 140737488355328) :
    Calls Tryz.prog 24 #[.slice A n c] w (NewB w l) := by
  have h1 := h.below (by omega) ((Below.refl w.heap.size w).alloc (Nat.le_refl _) (.cells #[] 5))
  go_enter Tryz.func24, Tryz.ntmps24
  go_wp2_with (at_builtin; refine wpList_appB _ rfl (.tmp 3) (.tmp 4) rfl w.heap.size _ 0 0 [] rfl (Own.nil _ _ _ _ _) _ n c l rfl h1 ?_ ?_ ?_)
  · omega
  · simp
  · intro A' c' w1 hown hg _
    go_wp2
    go_ret
    exact ⟨A', _, c', rfl, by simpa using hown, ((Below.refl w.heap.size w).alloc (Nat.le_refl _) _).grown hg (by simp) (by simp [blk])⟩

set_option maxHeartbeats 400000 in
/-- Cut of the references -/
theorem cut_any (w : World) (A : Option Addr) (n c : Nat) (l : List UInt8) (k : Nat) (h : Sl w 1 A n c (bc l)) (hk : k ≤ 140737488355328) :
    Calls Tryz.prog 19 #[.slice A n c, .int .i64 (k : Int)] w (NewB w (l.take k)) := by
  have h1 := h.below (by omega) ((Below.refl w.heap.size w).alloc (Nat.le_refl _) (.cells #[] 5))
  have hl := h.lenb
  have hcap := h.cap
  have hcm := h.capm
  unfold maxLen at hcm
  have Hl := Lib.hid hl
  clear hl
  by_cases hkn : k < n
  · obtain ⟨hr, hs⟩ := cutH h1 .i64 k k rfl (by omega)
    go_enter Tryz.func19, Tryz.ntmps19
    go_wp2_with (at_builtin; refine wpList_appB _ rfl (.tmp 5) (.tmp 11) rfl w.heap.size _ 0 0 [] rfl (Own.nil _ _ _ _ _) _ k c _ rfl hs ?_ ?_ ?_)
    · omega
    · simp
    · intro A' c' w1 hown hg _
      go_wp2
      go_ret
      exact ⟨A', _, c', rfl, by simpa using hown, ((Below.refl w.heap.size w).alloc (Nat.le_refl _) _).grown hg (by simp) (by simp [blk])⟩
  · obtain ⟨hr, hs⟩ := cutH h1 .i64 n n rfl (Nat.le_refl _)
    rw [List.take_of_length_le (show l.length ≤ n by have := Hl.out; omega)] at hs
    have e : l.take k = l := List.take_of_length_le (by have := Hl.out; omega)
    rw [e]
    clear e
    go_enter Tryz.func19, Tryz.ntmps19
    go_wp2_with (at_builtin; refine wpList_appB _ rfl (.tmp 5) (.tmp 11) rfl w.heap.size _ 0 0 [] rfl (Own.nil _ _ _ _ _) _ n c _ rfl hs ?_ ?_ ?_)
    · omega
    · simp
    · intro A' c' w1 hown hg _
      go_wp2
      go_ret
      exact ⟨A', _, c', rfl, by simpa using hown, ((Below.refl w.heap.size w).alloc (Nat.le_refl _) _).grown hg (by simp) (by simp [blk])⟩

/-- copy of bytes onto bytes of the call's own -/
theorem wpList_cpyB (w : World) {ops : Array Oper} {rest : List Oper} {o : Oper} {a : Act} {Q : Exit → Act → World → Prop} (hgd : o.guard = none) (s x : Operand)
    (ho : o.op = .call { callee := .builtin .copy, args := #[s, x], argTypes := #[29, 29] })
    (B : Nat) (A : Option Addr) (n c : Nat) (l : List UInt8) (hsv : a.eval s = .slice A n c) (hown : OwnB w B A n c l)
    (A2 : Option Addr) (m c2 : Nat) (l2 : List UInt8) (hx : a.eval x = .slice A2 m c2) (hs : Sl w 1 A2 m c2 (bc l2)) (hmn : m ≤ n)
    (h : ∀ w', OwnB w' B A n c (l2 ++ l.drop m) → w.grownBy w' (blk A c) → wpList Tryz.prog ops Q rest (a.put o.dst (goInt m)) w') : wpList Tryz.prog ops Q (o :: rest) a w := by
  obtain ⟨i, hi, hz, hs1, hb1⟩ := info_parts infoB
  refine wpList_cpy w hgd s x _ ho B _ i Tryz.underlying29 hi hs1 A n c (bc l) hsv hown A2 m c2 (bc l2) hx hs (bc_one _) hmn ?_
  intro w' h1 h2
  exact h w' (by unfold OwnB; rw [bc_append, bc_drop]; exact h1) h2
/-- make([]byte, n) -/
theorem wpList_mkB (w : World) {ops : Array Oper} {rest : List Oper} {o : Oper} {a : Act} {Q : Exit → Act → World → Prop} (hgd : o.guard = none) (l c : Operand) (ho : o.op = Op.makeSlice 29 l c)
    (B : Nat) (kl kc : IntKind) (L C : Int) (n : Nat) (hl : a.eval l = .int kl L) (hc : a.eval c = .int kc C) (hL : L = (n : Int)) (hC : C = (n : Int)) (b2 : n ≤ 281474976710656) (b4 : B ≤ w.heap.size)
    (h : ∀ w', OwnB w' B (some ⟨w.heap.size, 0, none⟩) n n (List.replicate n 0) → Below w.heap.size w w' → w'.heap.size = w.heap.size + 1 → wpList Tryz.prog ops Q rest (a.put o.dst (.slice (some ⟨w.heap.size, 0, none⟩) n n)) w') :
    wpList Tryz.prog ops Q (o :: rest) a w := by
  obtain ⟨i, hi, hz, hs1, hb1⟩ := info_parts infoB
  refine wpList_mk w hgd l c _ ho B _ i _ 1 Tryz.underlying29 hi hz hs1 hb1 rfl kl kc L C n hl hc hL hC (by omega) (by unfold maxLen; omega) b4 ?_
  intro w' h1 h2 h3
  refine h w' ?_ h2 h3
  unfold OwnB
  have e : bc (List.replicate n 0) = List.replicate n (.int .u8 0) := by simp [bc]
  rw [e]
  exact h1
/-- a byte of one's own, written -/
theorem OwnB.stored {w : World} {B : Nat} {g o n c : Nat} {l : List UInt8} (h : OwnB w B (some ⟨g, o, none⟩) n c l) {k : Nat} (hk : k < n) (x : UInt8) :
    OwnB (w.setCell ⟨g, o + k, none⟩ (.int .u8 (x.toNat : Int))) B (some ⟨g, o, none⟩) n c (l.set k x) := by
  have := Own.stored h hk (.int .u8 (x.toNat : Int))
  unfold OwnB
  have e : bc (l.set k x) = (bc l).set k (.int .u8 (x.toNat : Int)) := by simp [bc, List.map_set]
  rw [e]
  exact this
theorem OwnB.place {w : World} {B : Nat} {A : Option Addr} {n c : Nat} {l : List UInt8} (h : OwnB w B A n c l) {k : Nat} (hk : k < n) :
    ∃ (g o : Nat) (x : UInt8), A = some ⟨g, o, none⟩ ∧ B ≤ g ∧ g < w.heap.size ∧ l[k]? = some x ∧ w.cell? ⟨g, o + k, none⟩ = some (.int .u8 (x.toNat : Int)) ∧ w.frozen? ⟨g, o + k, none⟩ = false := by
  obtain ⟨g, o, u, h1, h2, h3, h4, h5, h6⟩ := Own.place h hk
  rw [bc_get] at h4
  obtain ⟨x, hx, rfl⟩ := Option.map_eq_some_iff.1 h4
  exact ⟨g, o, x, h1, h2, h3, hx, h5, h6⟩

end Go.Proofs.YtpffieogkfndaaaGreatDoor
