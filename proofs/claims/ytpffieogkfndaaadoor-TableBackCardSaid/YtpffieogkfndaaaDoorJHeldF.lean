/-
  Lib, Rows0, Recs, Held, HeldF in one text. No condition but sizes.
-/
import Derived.WalkKit
import Derived.Deep.Draws
import Derived.Deep.AppendLies
import Derived.Deep.LoopGhost
import Derived.Lib.Hide
import Derived.WalkSpells
import Derived.WalkLawsBesides
import Derived.Deep.QuietTactic
import Derived.OrdersHeld
import Derived.RegionTactic
import Derived.StillTailTactics
import Derived.KernelRfl
namespace Go.Proofs.YtpffieogkfndaaaDoor
set_option maxRecDepth 20000
set_option linter.unusedVariables false
set_option linter.unusedSimpArgs false
open Go.RowKit

/-- a contract whose world stays, met in a region that draws its order -/
theorem quiet_left {P : Program} {f : FuncId} {args : Array Value} {w : World} {n : Nat} {v : Value}
    (h : Calls P f args (w.drewN n) fun e w' => e = .returned v ∧ w.drewN n = w') : Calls P f args (w.drewN n) fun e w'' => e = .returned v ∧ ∃ m, w'' = w.drewN m :=
  h.mono fun _ _ ⟨he, hm⟩ => ⟨he, n, hm.symm⟩
theorem below_drewN {B : Nat} {a w : World} (h : Below B a w) (n : Nat) : Below B a (w.drewN n) := ⟨h.os, h.tape, h.output, h.size, h.block⟩
/-- the cells of bytes -/
def bc (l : List UInt8) : List Value := l.map fun x => Value.int .u8 (x.toNat : Int)
@[simp] theorem bc_nil : bc [] = [] := rfl
@[simp] theorem length_bc (l : List UInt8) : (bc l).length = l.length := by simp [bc]
theorem bc_append (a b : List UInt8) : bc (a ++ b) = bc a ++ bc b := by simp [bc]
theorem bc_take (n : Nat) (l : List UInt8) : bc (l.take n) = (bc l).take n := by simp [bc, List.map_take]
theorem bc_drop (n : Nat) (l : List UInt8) : bc (l.drop n) = (bc l).drop n := by simp [bc, List.map_drop]
theorem bc_get (l : List UInt8) (i : Nat) : (bc l)[i]? = (l[i]?).map fun x => Value.int .u8 (x.toNat : Int) := by simp [bc]
theorem bc_one (l : List UInt8) : ∀ u ∈ bc l, u.oneCell' = true := by
  intro u hu
  obtain ⟨_, _, rfl⟩ := List.mem_map.1 hu
  rfl

/-- the slice value '.slice A n c' reads as the cells xs, 'size' cells an element -/
structure Sl (w : World) (size : Nat) (A : Option Addr) (n c : Nat) (xs : List Value) : Prop where
  len : xs.length = n * size
  cap : n ≤ c
  capm : c ≤ maxLen
  at_ : 0 < n → ∃ b o, A = some ⟨b, o, none⟩ ∧ ∀ j u, xs[j]? = some u → w.cell? ⟨b, o + j, none⟩ = some u

/-- .. and lies in block from B on that nothing has frozen, with all its capacity -/
structure Own (w : World) (B : Nat) (e : TypeId) (size : Nat) (A : Option Addr) (n c : Nat) (xs : List Value) : Prop where
  len : xs.length = n * size
  cap : n ≤ c
  capm : c ≤ maxLen
  row : 0 < c → ∃ g o cur, A = some ⟨g, o, none⟩ ∧ B ≤ g ∧ w.heap[g]? = some (.cells cur e (0, 0)) ∧ o + c * size ≤ cur.size ∧ (cur.toList.drop o).take (n * size) = xs

section
variable {w w' : World} {B B' : Nat} {e : TypeId} {size : Nat} {A : Option Addr} {n c : Nat} {xs : List Value}

theorem heap_lt {g : Nat} {o : Obj} (h : w.heap[g]? = some o) : g < w.heap.size := (Array.getElem?_eq_some_iff.1 h).1

/-- the block of a slice that has room -/
def blk (A : Option Addr) (c : Nat) : Option Nat := if c = 0 then none else A.map (·.block)

theorem Own.lt (h : Own w B e size A n c xs) : ∀ k, blk A c = some k → B ≤ k ∧ k < w.heap.size := by
  intro k hk
  unfold blk at hk
  split at hk
  · cases hk
  · obtain ⟨g, o, cur, rfl, hb, hh, _⟩ := h.row (by omega)
    simp at hk
    subst hk
    exact ⟨hb, heap_lt hh⟩

theorem Own.sl (h : Own w B e size A n c xs) : Sl w size A n c xs := by
  refine ⟨h.len, h.cap, h.capm, fun hn => ?_⟩
  obtain ⟨g, o, cur, rfl, hb, hh, hf, ht⟩ := h.row (by have := h.cap; omega)
  refine ⟨g, o, rfl, fun j u hu => ?_⟩
  rw [cell_of_row w g (o + j) cur e (0, 0) hh]
  rw [← ht] at hu
  have hj : j < n * size := by
    have := (List.getElem?_eq_some_iff.1 hu).1
    simp at this
    omega
  rw [List.getElem?_take, if_pos hj, List.getElem?_drop] at hu
  simpa using hu

theorem Own.frozen {g o : Nat} (h : Own w B e size (some ⟨g, o, none⟩) n c xs) (hc : 0 < c) (j : Nat) : w.frozen? ⟨g, j, none⟩ = false := by
  obtain ⟨g', o', cur, e1, _, hh, _⟩ := h.row hc
  injection e1 with e1
  injection e1 with e1 _
  subst e1
  simp [World.frozen?, hh]

theorem Own.mono (h : Own w B e size A n c xs) (hB : B' ≤ B) : Own w B' e size A n c xs :=
  ⟨h.len, h.cap, h.capm, fun hc => by
    obtain ⟨g, o, cur, h1, h2, h3⟩ := h.row hc
    exact ⟨g, o, cur, h1, by omega, h3⟩⟩

theorem Sl.nil (w : World) (size : Nat) (A : Option Addr) (c : Nat) (hc : c ≤ maxLen) : Sl w size A 0 c [] :=
  ⟨by simp, Nat.zero_le _, hc, fun h => absurd h (by omega)⟩
theorem Own.nil (w : World) (B : Nat) (e : TypeId) (size : Nat) (A : Option Addr) : Own w B e size A 0 0 [] :=
  ⟨by simp, Nat.le_refl _, Nat.zero_le _, fun h => absurd h (by omega)⟩

theorem Sl.none_len (h : Sl w size none n c xs) : n = 0 := by
  rcases Nat.eq_zero_or_pos n with h0 | h0
  · exact h0
  · obtain ⟨b, o, e, _⟩ := h.at_ h0
    cases e
/-- the first cell's block is there -/
theorem Sl.lt (h : Sl w size A n c xs) (hs : 0 < size) (hn : 0 < n) : ∀ k, A.map (·.block) = some k → k < w.heap.size := by
  intro k hk
  obtain ⟨b, o, rfl, hc⟩ := h.at_ hn
  simp at hk
  subst hk
  have hl : 0 < xs.length := by rw [h.len]; exact Nat.mul_pos hn hs
  exact World.block_lt_of_cell? _ _ (hc 0 _ (List.getElem?_eq_getElem hl))

/-- kept, where the block is as it was -/
theorem Sl.keep (h : Sl w size A n c xs) (hk : 0 < n → ∀ b, A.map (·.block) = some b → w'.heap[b]? = w.heap[b]?) : Sl w' size A n c xs :=
  ⟨h.len, h.cap, h.capm, fun hn => by
    obtain ⟨b, o, e, hc⟩ := h.at_ hn
    have hb := hk hn b (by rw [e]; rfl)
    exact ⟨b, o, e, fun j u hu => (World.cell?_of_block (a := ⟨b, o + j, none⟩) hb).trans (hc j u hu)⟩⟩
theorem Own.keep (h : Own w B e size A n c xs) (hk : ∀ b, blk A c = some b → w'.heap[b]? = w.heap[b]?) : Own w' B e size A n c xs :=
  ⟨h.len, h.cap, h.capm, fun hc => by
    obtain ⟨g, o, cur, h1, h2, h3, h4⟩ := h.row hc
    exact ⟨g, o, cur, h1, h2, (hk g (by simp [blk, h1]; omega)).trans h3, h4⟩⟩
theorem Sl.below (h : Sl w size A n c xs) (hs : 0 < size) (hb : Below w.heap.size w w') : Sl w' size A n c xs :=
  h.keep fun hn b e => hb.block b (h.lt hs hn b e)
theorem Own.below (h : Own w B e size A n c xs) (hb : Below w.heap.size w w') : Own w' B e size A n c xs :=
  h.keep fun b e => hb.block b (h.lt b e).2
/-- kept, where only one block was written and the slice is not in it -/
theorem Sl.grown (h : Sl w size A n c xs) (hs : 0 < size) {row : Option Nat} (hg : w.grownBy w' row) (hne : 0 < n → ∀ b, A.map (·.block) = some b → row ≠ some b) : Sl w' size A n c xs :=
  h.keep fun hn b e => hg.block b (h.lt hs hn b e) (fun k => hne hn b e k.symm)
theorem Own.grown (h : Own w B e size A n c xs) {row : Option Nat} (hg : w.grownBy w' row) (hne : ∀ b, blk A c = some b → row ≠ some b) : Own w' B e size A n c xs :=
  h.keep fun b k => hg.block b (h.lt b k).2 (fun q => hne b k q.symm)

/-- the cell of element k, elements of one cell -/
theorem Sl.cell (h : Sl w 1 A n c xs) {k : Nat} (hk : k < n) : ∃ b o u, A = some ⟨b, o, none⟩ ∧ xs[k]? = some u ∧ w.cell? ⟨b, o + k, none⟩ = some u := by
  obtain ⟨b, o, e, hc⟩ := h.at_ (by omega)
  have hl : k < xs.length := by rw [h.len]; omega
  exact ⟨b, o, _, e, List.getElem?_eq_getElem hl, hc k _ (List.getElem?_eq_getElem hl)⟩
/-- .. a byte -/
theorem Sl.byte {l : List UInt8} (h : Sl w 1 A n c (bc l)) {k : Nat} (hk : k < l.length) : ∃ b o x, A = some ⟨b, o, none⟩ ∧ l[k].toNat = x ∧ x < 256 ∧ w.cell? ⟨b, o + k, none⟩ = some (.int .u8 ((x : Nat) : Int)) := by
  obtain ⟨b, o, u, e, hu, hc⟩ := h.cell (k := k) (by have := h.len; simp at this; omega)
  rw [bc_get, List.getElem?_eq_getElem hk] at hu
  obtain rfl := Option.some.inj hu
  exact ⟨b, o, _, e, rfl, l[k].toNat_lt, hc⟩
theorem Sl.lenb {l : List UInt8} (h : Sl w 1 A n c (bc l)) : l.length = n := by have := h.len; simpa using this

/-- the values vs are byte slices of the texts ls -/
def PartsOf (w : World) (vs : List Value) (ls : List (List UInt8)) : Prop :=
  vs.length = ls.length ∧ ∀ (i : Nat) (v : Value) (l : List UInt8), vs[i]? = some v → ls[i]? = some l → ∃ (A : Option Addr) (n c : Nat), v = Value.slice A n c ∧ Sl w 1 A n c (bc l)
theorem PartsOf.below {vs : List Value} {ls : List (List UInt8)} (h : PartsOf w vs ls) (hb : Below w.heap.size w w') : PartsOf w' vs ls :=
  ⟨h.1, fun i v l hv hl => by
    obtain ⟨A, n, c, e, hs⟩ := h.2 i v l hv hl
    exact ⟨A, n, c, e, hs.below (by omega) hb⟩⟩
/-- element k of a slice of texts -/
theorem PartsOf.get {vs : List Value} {ls : List (List UInt8)} (hp : PartsOf w vs ls) (h : Sl w 1 A n c vs) {k : Nat} (hk : k < n) :
    ∃ (b o : Nat) (A' : Option Addr) (n' c' : Nat) (hl : k < ls.length), A = some ⟨b, o, none⟩ ∧ w.cell? ⟨b, o + k, none⟩ = some (Value.slice A' n' c') ∧ Sl w 1 A' n' c' (bc ls[k]) := by
  obtain ⟨b, o, u, e, hu, hc⟩ := h.cell hk
  have hl : k < ls.length := by rw [← hp.1, h.len]; omega
  obtain ⟨A', n', c', hv, hs⟩ := hp.2 k u _ hu (List.getElem?_eq_getElem hl)
  subst hv
  exact ⟨b, o, A', n', c', hl, e, hc, hs⟩

theorem Own.drew (h : Own w B e size A n c xs) : Own w.drew B e size A n c xs := h.keep fun _ _ => rfl
theorem Sl.drew (h : Sl w size A n c xs) : Sl w.drew size A n c xs := h.keep fun _ _ _ => rfl
theorem Own.drewN (h : Own w B e size A n c xs) (k : Nat) : Own (w.drewN k) B e size A n c xs := h.keep fun _ _ => rfl
theorem Sl.drewN (h : Sl w size A n c xs) (k : Nat) : Sl (w.drewN k) size A n c xs := h.keep fun _ _ _ => rfl

/-- a part of a slice -/
theorem Sl.cut (h : Sl w size A n c xs) {lo hi m : Nat} (h1 : lo ≤ hi) (h2 : hi ≤ n) (h3 : hi ≤ m) (h4 : m ≤ c) :
    Sl w size (if m = lo then A else A.map (·.add (lo * size))) (hi - lo) (m - lo) ((xs.drop (lo * size)).take ((hi - lo) * size)) := by
  refine ⟨?_, by omega, by have := h.capm; omega, fun hn => ?_⟩
  · rw [List.length_take, List.length_drop, h.len, ← Nat.sub_mul]
    exact Nat.min_eq_left (Nat.mul_le_mul_right _ (by omega))
  · obtain ⟨b, o, rfl, hc⟩ := h.at_ (by omega)
    rw [if_neg (by omega)]
    refine ⟨b, o + lo * size, by simp [Addr.add_lit], fun j u hu => ?_⟩
    rw [Nat.add_assoc]
    refine hc _ u ?_
    have hj : j < (hi - lo) * size := by
      have := (List.getElem?_eq_some_iff.1 hu).1
      simp at this
      omega
    rw [List.getElem?_take, if_pos hj, List.getElem?_drop] at hu
    exact hu
theorem Own.cut (h : Own w B e size A n c xs) {lo hi m : Nat} (h1 : lo ≤ hi) (h2 : hi ≤ n) (h3 : hi ≤ m) (h4 : m ≤ c) :
    Own w B e size (if m = lo then A else A.map (·.add (lo * size))) (hi - lo) (m - lo) ((xs.drop (lo * size)).take ((hi - lo) * size)) := by
  refine ⟨?_, by omega, by have := h.capm; omega, fun hm => ?_⟩
  · rw [List.length_take, List.length_drop, h.len, ← Nat.sub_mul]
    exact Nat.min_eq_left (Nat.mul_le_mul_right _ (by omega))
  · obtain ⟨g, o, cur, rfl, hb, hh, hf, ht⟩ := h.row (by omega)
    rw [if_neg (by omega)]
    refine ⟨g, o + lo * size, cur, by simp [Addr.add_lit], hb, hh, ?_, ?_⟩
    · have := Nat.mul_le_mul_right size (show lo + (m - lo) ≤ c by omega)
      rw [Nat.add_mul] at this
      omega
    · rw [← ht, List.drop_take, List.drop_drop, List.take_take]
      congr 1
      rw [Nat.min_eq_left]
      rw [← Nat.sub_mul]
      exact Nat.mul_le_mul_right _ (by omega)
end

section
variable {P : Program} (w : World)

/-- a new row's own slice -/
theorem Own.fresh (B : Nat) (e : TypeId) (size n c : Nat) (cur : Array Value) (xs : List Value) (hB : B ≤ w.heap.size) (hnc : n ≤ c) (hc : c ≤ maxLen) (hs : cur.size = c * size) (hx : xs.length = n * size) (ht : cur.toList.take (n * size) = xs) :
    Own (w.alloc (.cells cur e)) B e size (some ⟨w.heap.size, 0, none⟩) n c xs :=
  ⟨hx, hnc, hc, fun _ => ⟨w.heap.size, 0, cur, rfl, hB, heap_alloc_new w _, by omega, by simpa using ht⟩⟩

/-- a new row reads as it was laid, whatever its mark -/
theorem Sl.lit (e : TypeId) (fr : Nat × Nat) (n : Nat) (cur : Array Value) (xs : List Value) (hn : xs.length = n) (hm : n ≤ maxLen) (hc : cur.toList = xs) :
    Sl (w.alloc (.cells cur e fr)) 1 (some ⟨w.heap.size, 0, none⟩) n n xs :=
  ⟨by omega, Nat.le_refl _, hm, fun _ => ⟨w.heap.size, 0, rfl, fun j u hu => by
    rw [cell_of_row _ _ _ _ _ _ (heap_alloc_new w _)]
    rw [← hc] at hu
    simpa using hu⟩⟩
/-- .. and a literal's -/
theorem Own.lit (B : Nat) (e : TypeId) (n : Nat) (cur : Array Value) (xs : List Value) (hB : B ≤ w.heap.size) (hn : xs.length = n) (hm : n ≤ maxLen) (hc : cur.toList = xs) :
    Own (w.alloc (.cells cur e)) B e 1 (some ⟨w.heap.size, 0, none⟩) n n xs :=
  Own.fresh w B e 1 n n cur xs hB (Nat.le_refl _) hm (by rw [← hn, ← hc]; simp) (by omega) (by rw [hc, ← hn]; simp)
theorem nslice_room (t ty e : TypeId) (i : TypeInfo) (ht : P.underlying t = some (.slice e)) (hi : P.info? e = some i)
    (g o sLen sCap : Nat) (cur : Array Value) (hg : w.heap[g]? = some (.cells cur e (0, 0)))
    (A : Option Addr) (m c : Nat) (news : List Value) (hs : Sl w i.size A m c news) (h1 : ∀ u ∈ news, u.oneCell' = true)
    (hroom : sLen + m ≤ sCap) (hfit : o + sCap * i.size ≤ cur.size) :
    (Builtin.append_ #[t, t] ty #[.slice (some ⟨g, o, none⟩) sLen sCap, .slice A m c]).run P w =
      .ok (.slice (some ⟨g, o, none⟩) (sLen + m) sCap) (w.setRow g (cur.toList.take (o + sLen * i.size) ++ news ++ cur.toList.drop (o + sLen * i.size + news.length)).toArray) := by
  have hl := hs.len
  have hle : o + sLen * i.size + news.length ≤ cur.size := by
    have := Nat.mul_le_mul_right i.size hroom
    rw [Nat.add_mul] at this
    omega
  have hst := run_storeCells_at P g (o + sLen * i.size) e news 0 cur w hg (by simpa using hle) h1
  simp only [Nat.add_zero] at hst
  have hf : (Builtin.firstCells i.size m (.slice A m c)).run P w = .ok news.toArray w := by
    rcases Nat.eq_zero_or_pos m with h0 | h0
    · subst h0
      have hn : news = [] := List.eq_nil_of_length_eq_zero (by simpa using hl)
      subst hn
      cases A with
      | none => exact run_firstCells_none w _ _ _ _
      | some ad => exact run_firstCells_some (P := P) w i.size 0 ad 0 c [] (by simp) (by simp)
    · obtain ⟨b, o', rfl, hc⟩ := hs.at_ h0
      exact run_firstCells_some (P := P) w i.size m _ m c news hl (fun j u hu => by rw [Addr.add_lit]; exact hc j u hu)
  simp [Builtin.append_, run_underlying ht, sizeOf, typeInfo, hi, Builtin.lenOf, hroom, hf, Addr.add_lit, hst]

theorem run_first (size m c : Nat) (A : Option Addr) (news : List Value) (hs : Sl w size A m c news) : (Builtin.firstCells size m (.slice A m c)).run P w = .ok news.toArray w := by
  have hl := hs.len
  rcases Nat.eq_zero_or_pos m with h0 | h0
  · subst h0
    have hn : news = [] := List.eq_nil_of_length_eq_zero (by simpa using hl)
    subst hn
    cases A with
    | none => exact run_firstCells_none w _ _ _ _
    | some ad => exact run_firstCells_some (P := P) w size 0 ad 0 c [] (by simp) (by simp)
  · obtain ⟨b, o', rfl, hc⟩ := hs.at_ h0
    exact run_firstCells_some (P := P) w size m _ m c news hl (fun j u hu => by rw [Addr.add_lit]; exact hc j u hu)

theorem nslice_grow (t ty e : TypeId) (i : TypeInfo) (z : Value) (ht : P.underlying t = some (.slice e)) (hi : P.info? e = some i) (hz : i.zero = some z)
    (A : Option Addr) (sLen sCap : Nat) (olds : List Value) (ho : Sl w i.size A sLen sCap olds)
    (A2 : Option Addr) (n c : Nat) (news : List Value) (hs : Sl w i.size A2 n c news)
    (hg : sCap < sLen + n) (h63 : ((sLen + n : Nat) : Int) ≤ 9223372036854775807) (hfit : Builtin.nextslicecap (sLen + n) sCap * i.bytes ≤ 281474976710656) :
    (Builtin.append_ #[t, t] ty #[.slice A sLen sCap, .slice A2 n c]).run P w =
      .ok (.slice (some ⟨w.heap.size, 0, none⟩) (sLen + n) (grownCap w (sLen + n) sCap e))
        (w.drew.alloc (.cells (olds.toArray ++ news.toArray ++ Builtin.zeroCells z.cells (grownCap w (sLen + n) sCap e - (sLen + n))) e)) := by
  have hn : ¬ (sLen + n ≤ sCap) := by omega
  have h63' : ¬ (9223372036854775807 < ((sLen : Int) + (n : Int))) := by omega
  have h48' : ¬ (281474976710656 < Builtin.nextslicecap (sLen + n) sCap * i.bytes) := by omega
  have hf := run_first (P := P) w.drew i.size n c A2 news (hs.keep fun _ _ _ => rfl)
  have hfo := run_first (P := P) w.drew i.size sLen sCap A olds (ho.keep fun _ _ _ => rfl)
  simp [Builtin.append_, run_underlying ht, sizeOf, typeInfo, zeroValue, hi, hz, Builtin.lenOf, hn, h63', h48', Question.forced, hf, hfo, newRow, grownCap]
  congr 2
  apply Array.ext'
  simp [List.append_assoc]

/-- append onto what the call owns, whatever is appended -/
theorem run_append_own2 (B : Nat) (t ty e : TypeId) (i : TypeInfo) (z : Value) (size bytes : Nat) (ht : P.underlying t = some (.slice e)) (hi : P.info? e = some i) (hz : i.zero = some z)
    (hsize : i.size = size) (hby : i.bytes = bytes) (hzs : z.cells.size = size)
    (A : Option Addr) (n c : Nat) (xs : List Value) (hown : Own w B e size A n c xs)
    (A2 : Option Addr) (m c2 : Nat) (news : List Value) (hs : Sl w size A2 m c2 news) (h1 : ∀ u ∈ news, u.oneCell' = true)
    (h63 : n + m ≤ maxLen) (hbytes : (n + m) * bytes ≤ 140737488355328) (hB : B ≤ w.heap.size) :
    ∃ A' c' w', (Builtin.append_ #[t, t] ty #[.slice A n c, .slice A2 m c2]).run P w = .ok (.slice A' (n + m) c') w' ∧ Own w' B e size A' (n + m) c' (xs ++ news) ∧ w.grownBy w' (blk A c) ∧
      (blk A' c' = blk A c ∨ blk A' c' = some w.heap.size) := by
  subst hsize
  subst hby
  have hsmall : n + m ≤ 9223372036854775807 := by simp only [maxLen] at h63; omega
  have hlen : (xs ++ news).length = (n + m) * i.size := by rw [List.length_append, hown.len, hs.len, Nat.add_mul]
  by_cases hroom : n + m ≤ c
  · rcases Nat.eq_zero_or_pos c with h0 | h0
    · subst h0
      obtain rfl : n = 0 := by omega
      obtain rfl : m = 0 := by omega
      have hx : xs = [] := List.eq_nil_of_length_eq_zero (by simpa using hown.len)
      have hn : news = [] := List.eq_nil_of_length_eq_zero (by simpa using hs.len)
      subst hx
      subst hn
      refine ⟨A, 0, w, ?_, by simpa using Own.nil w B e i.size A, World.grownBy.refl w _, .inl rfl⟩
      have hf := run_first (P := P) w i.size 0 c2 A2 [] hs
      simp [Builtin.append_, run_underlying ht, sizeOf, typeInfo, hi, Builtin.lenOf, hf]
      cases A <;> simp [storeCells]
    · obtain ⟨g, o, cur, rfl, hb, hh, hf, htk⟩ := hown.row h0
      have hle : o + n * i.size + news.length ≤ cur.size := by
        have := Nat.mul_le_mul_right i.size hroom
        rw [Nat.add_mul] at this
        have := hs.len
        omega
      have hr := nslice_room (P := P) w t ty e i ht hi g o n c cur hh A2 m c2 news hs h1 hroom hf
      refine ⟨_, _, _, hr, ⟨hlen, hroom, hown.capm, fun _ => ⟨g, o, _, rfl, hb, setRow_heap w g cur _ e _ hh, ?_, ?_⟩⟩, ⟨rfl, rfl, rfl, by simp, fun k _ hk => setRow_other w g k _ (fun e => hk (by simp [blk, e]; omega))⟩, .inl rfl⟩
      · simp only [List.size_toArray, List.length_append, List.length_take, List.length_drop, Array.length_toList]
        omega
      · have h2 : (cur.toList.take (o + n * i.size)) = cur.toList.take o ++ xs := by
          rw [List.take_add, htk]
        rw [h2, List.append_assoc, List.append_assoc, List.drop_left' (by simp; omega), ← List.append_assoc, ← hlen]
        exact List.take_left
  · have hge := grownCap_ge w (n + m) c e
    have hcm : grownCap w (n + m) c e ≤ maxLen := grownCap_le_maxLen w (n + m) c e h63
    have hr := nslice_grow (P := P) w t ty e i z ht hi hz A n c xs hown.sl A2 m c2 news hs (by omega) (by omega) (growslice_fits (by omega) hbytes)
    refine ⟨_, _, _, hr, ?_, ⟨rfl, rfl, rfl, by simp, fun k hk _ => Below.heap_alloc w.drew _ k hk⟩, .inr (by simp [blk]; omega)⟩
    refine Own.fresh w.drew B e i.size _ _ _ _ hB hge hcm ?_ hlen ?_
    · simp only [Array.size_append, List.size_toArray, size_zeroCells, hzs, hown.len, hs.len, ← Nat.add_mul]
      congr 1
      omega
    · simp only [Array.toList_append, List.append_assoc]
      rw [← List.append_assoc, ← hlen]
      exact List.take_left

theorem wpList_app {ops : Array Oper} {rest : List Oper} {o : Oper} {a : Act} {Q : Exit → Act → World → Prop} (hgd : o.guard = none) (s x : Operand) (t : TypeId)
    (ho : o.op = .call { callee := .builtin .append, args := #[s, x], argTypes := #[t, t] })
    (B : Nat) (e : TypeId) (i : TypeInfo) (z : Value) (size bytes : Nat) (ht : P.underlying t = some (.slice e)) (hi : P.info? e = some i) (hz : i.zero = some z)
    (hsize : i.size = size) (hby : i.bytes = bytes) (hzs : z.cells.size = size)
    (A : Option Addr) (n c : Nat) (xs : List Value) (hsv : a.eval s = .slice A n c) (hown : Own w B e size A n c xs)
    (A2 : Option Addr) (m c2 : Nat) (news : List Value) (hx : a.eval x = .slice A2 m c2) (hs : Sl w size A2 m c2 news) (h1 : ∀ u ∈ news, u.oneCell' = true)
    (h63 : n + m ≤ maxLen) (hbytes : (n + m) * bytes ≤ 140737488355328) (hB : B ≤ w.heap.size)
    (h : ∀ A' c' w', Own w' B e size A' (n + m) c' (xs ++ news) → w.grownBy w' (blk A c) → (blk A' c' = blk A c ∨ blk A' c' = some w.heap.size) → wpList P ops Q rest (a.put o.dst (.slice A' (n + m) c')) w') : wpList P ops Q (o :: rest) a w := by
  refine wpList_plain hgd fun _ hK => ?_
  obtain ⟨A', c', w', hrun, h2, h3, h4⟩ := run_append_own2 (P := P) w B t o.type e i z size bytes ht hi hz hsize hby hzs A n c xs hown A2 m c2 news hs h1 h63 hbytes hB
  unfold Oper.wp execOp
  simp only [ho, resolve, invoke, builtin, Sem.run_bind, Sem.run_pure, Result.andThen_ok, List.map_toArray, List.map_cons, List.map_nil, hsv, hx, hrun]
  exact hK _ _ (h A' c' w' h2 h3 h4)
end
section
variable {w w' : World} {B B' : Nat} {e : TypeId} {size : Nat} {A : Option Addr} {n c : Nat} {xs : List Value}
/-- where an owned slice of one-cell elements lies, and that a cell of it may be written -/
theorem Own.place (h : Own w B e 1 A n c xs) {k : Nat} (hk : k < n) : ∃ g o u, A = some ⟨g, o, none⟩ ∧ B ≤ g ∧ g < w.heap.size ∧ xs[k]? = some u ∧ w.cell? ⟨g, o + k, none⟩ = some u ∧ w.frozen? ⟨g, o + k, none⟩ = false := by
  obtain ⟨g, o, u, hA, hu, hc⟩ := h.sl.cell hk
  have hc0 : 0 < c := by have := h.cap; omega
  obtain ⟨g', o', cur, e1, hb, hh, _⟩ := h.row hc0
  rw [hA] at e1
  obtain ⟨rfl, rfl⟩ : g = g' ∧ o = o' := by simpa using e1
  exact ⟨g, o, u, hA, hb, heap_lt hh, hu, hc, by simp [World.frozen?, hh]⟩
/-- .. and once it is written -/
theorem Own.stored {g o : Nat} (h : Own w B e 1 (some ⟨g, o, none⟩) n c xs) {k : Nat} (hk : k < n) (v : Value) :
    Own (w.setCell ⟨g, o + k, none⟩ v) B e 1 (some ⟨g, o, none⟩) n c (xs.set k v) := by
  refine ⟨by simpa using h.len, h.cap, h.capm, fun hc => ?_⟩
  obtain ⟨g', o', cur, e1, hb, hh, hf, ht⟩ := h.row hc
  obtain ⟨rfl, rfl⟩ : g = g' ∧ o = o' := by simpa using e1
  have hlen := h.len
  refine ⟨g, o, cur.setIfInBounds (o + k) v, rfl, hb, ?_, by simpa using hf, ?_⟩
  · simp [World.setCell, Array.getElem?_modify, hh]
  · rw [← ht]
    apply List.ext_getElem?
    intro j
    simp only [Array.toList_setIfInBounds, List.getElem?_take, List.getElem?_drop, List.getElem?_set, Nat.mul_one, List.length_take, List.length_drop]
    by_cases hj : j < n
    · by_cases hkj : k = j
      · subst hkj
        have : o + k < cur.toList.length := by simp; have := h.cap; omega
        have h2 : k < min n (cur.toList.length - o) := by have := h.cap; simp; omega
        simp [hj]
        simp at this h2
        simp [this]
        omega
      · simp [hj, hkj]
    · have : ¬ (k = j) := by omega
      simp [hj, this]
theorem only_set {w0 : World} {g : Nat} (h : w0.grownBy w (some g)) (o : Nat) (v : Value) : w0.grownBy (w.setCell ⟨g, o, none⟩ v) (some g) :=
  ⟨h.os, h.tape, h.output, by simpa [World.setCell] using h.size, fun i hi hne => (Below.heap_setCell w _ v i (fun e => hne (by rw [e]))).trans (h.block i hi hne)⟩
end

section
variable {P : Program} (w : World)
/-- copy onto what the call owns, from another block -/
theorem run_copy_own (B : Nat) (t ty e : TypeId) (i : TypeInfo) (ht : P.underlying t = some (.slice e)) (hi : P.info? e = some i) (hsize : i.size = 1)
    (A : Option Addr) (n c : Nat) (xs : List Value) (hown : Own w B e 1 A n c xs)
    (A2 : Option Addr) (m c2 : Nat) (news : List Value) (hs : Sl w 1 A2 m c2 news) (h1 : ∀ u ∈ news, u.oneCell' = true) (hmn : m ≤ n) :
    ∃ w', (Builtin.copy_ #[t, t] ty #[.slice A n c, .slice A2 m c2]).run P w = .ok (goInt m) w' ∧ Own w' B e 1 A n c (news ++ xs.drop m) ∧ w.grownBy w' (blk A c) := by
  have hf := run_first (P := P) w 1 m c2 A2 news hs
  have hnl : news.length = m := by have := hs.len; omega
  have hxl : xs.length = n := by have := hown.len; omega
  have hmin : Nat.min m n = m := Nat.min_eq_left hmn
  rcases Nat.eq_zero_or_pos c with h0 | h0
  · have : n = 0 := by have := hown.cap; omega
    subst h0
    subst this
    obtain rfl : m = 0 := by omega
    obtain rfl : news = [] := List.eq_nil_of_length_eq_zero hnl
    obtain rfl : xs = [] := List.eq_nil_of_length_eq_zero hxl
    refine ⟨w, ?_, by simpa using Own.nil w B e 1 A, World.grownBy.refl w _⟩
    cases A <;> simp [Builtin.copy_, run_underlying ht, sizeOf, typeInfo, hi, hsize, Builtin.lenOf, hf, storeCells]
  · obtain ⟨g, o, cur, rfl, hb, hh, hfit, htk⟩ := hown.row h0
    have hcap := hown.cap
    have hst := run_storeCells_at P g o e news 0 cur w hh (by simp; omega) h1
    simp only [Nat.add_zero] at hst
    refine ⟨w.setRow g (cur.toList.take o ++ news ++ cur.toList.drop (o + news.length)).toArray, ?_, ⟨by simp; omega, hcap, hown.capm, fun _ => ⟨g, o, _, rfl, hb, setRow_heap w g cur _ e _ hh, ?_, ?_⟩⟩, ⟨rfl, rfl, rfl, by simp, fun k _ hk => setRow_other w g k _ (fun e => hk (by simp [blk, e]; omega))⟩⟩
    · simp only [Builtin.copy_, List.getElem?_toArray]
      simp [run_underlying ht, sizeOf, typeInfo, hi, hsize, Builtin.lenOf, hmin, hf]
      rw [hst]
      simp [Result.andThen]
    · simp only [List.size_toArray, List.length_append, List.length_take, List.length_drop, Array.length_toList]
      omega
    · rw [← htk]
      simp only [List.append_assoc, Nat.mul_one]
      rw [List.drop_left' (by simp; omega), List.take_append, List.take_of_length_le (by omega), hnl]
      congr 1
      rw [List.drop_take, List.drop_drop]

theorem wpList_cpy {ops : Array Oper} {rest : List Oper} {o : Oper} {a : Act} {Q : Exit → Act → World → Prop} (hgd : o.guard = none) (s x : Operand) (t : TypeId)
    (ho : o.op = .call { callee := .builtin .copy, args := #[s, x], argTypes := #[t, t] })
    (B : Nat) (e : TypeId) (i : TypeInfo) (ht : P.underlying t = some (.slice e)) (hi : P.info? e = some i) (hsize : i.size = 1)
    (A : Option Addr) (n c : Nat) (xs : List Value) (hsv : a.eval s = .slice A n c) (hown : Own w B e 1 A n c xs)
    (A2 : Option Addr) (m c2 : Nat) (news : List Value) (hx : a.eval x = .slice A2 m c2) (hs : Sl w 1 A2 m c2 news) (h1 : ∀ u ∈ news, u.oneCell' = true) (hmn : m ≤ n)
    (h : ∀ w', Own w' B e 1 A n c (news ++ xs.drop m) → w.grownBy w' (blk A c) → wpList P ops Q rest (a.put o.dst (goInt m)) w') : wpList P ops Q (o :: rest) a w := by
  refine wpList_plain hgd fun _ hK => ?_
  obtain ⟨w', hrun, h2, h3⟩ := run_copy_own (P := P) w B t o.type e i ht hi hsize A n c xs hown A2 m c2 news hs h1 hmn
  unfold Oper.wp execOp
  simp only [ho, resolve, invoke, builtin, Sem.run_bind, Sem.run_pure, Result.andThen_ok, List.map_toArray, List.map_cons, List.map_nil, hsv, hx, hrun]
  exact hK _ _ (h w' h2 h3)

/-- make([]T, n), elements of one cell -/
theorem wpList_mk {ops : Array Oper} {rest : List Oper} {o : Oper} {a : Act} {Q : Exit → Act → World → Prop} (hgd : o.guard = none) (l c : Operand) (t : TypeId) (ho : o.op = Op.makeSlice t l c)
    (B : Nat) (e : TypeId) (i : TypeInfo) (z : Value) (bytes : Nat) (ht : P.underlying t = some (.slice e)) (hi : P.info? e = some i) (hz : i.zero = some z) (hsize : i.size = 1) (hby : i.bytes = bytes) (hzs : z.cells = #[z])
    (kl kc : IntKind) (L C : Int) (n : Nat) (hl : a.eval l = .int kl L) (hc : a.eval c = .int kc C) (hL : L = (n : Int)) (hC : C = (n : Int)) (b2 : bytes * n ≤ 281474976710656) (b3 : n ≤ maxLen) (b4 : B ≤ w.heap.size)
    (h : ∀ w', Own w' B e 1 (some ⟨w.heap.size, 0, none⟩) n n (List.replicate n z) → Below w.heap.size w w' → w'.heap.size = w.heap.size + 1 → wpList P ops Q rest (a.put o.dst (.slice (some ⟨w.heap.size, 0, none⟩) n n)) w') :
    wpList P ops Q (o :: rest) a w := by
  refine wpList_plain hgd fun K hK' => ?_
  subst hL
  subst hC
  subst hby
  have hb : (i.bytes : Int) * (n : Int) ≤ 281474976710656 := by
    have h : ((i.bytes * n : Nat) : Int) ≤ 281474976710656 := by omega
    rwa [Int.natCast_mul] at h
  have hr := run_make (P := P) w t e i z ht hi hz kl kc n n (by omega) (by omega) hb (by unfold maxLen at b3; omega)
  simp only [Int.toNat_natCast, hsize, Nat.mul_one] at hr
  unfold Oper.wp
  simp only [execOp, ho, hl, hc]
  simp only [Sem.run_bind, hr, Result.andThen_ok, Sem.run_pure]
  refine hK' _ _ (h _ (Own.fresh w B e 1 n n _ _ b4 (Nat.le_refl _) b3 ?_ ?_ ?_) ((Below.refl _ _).alloc (Nat.le_refl _) _) (by simp))
  · simp [size_madeCells]
  · simp
  · rw [hzs, toList_madeCells_one]
    simp
end
end Go.Proofs.YtpffieogkfndaaaDoor

namespace Go.Proofs.YtpffieogkfndaaaDoor
set_option maxRecDepth 20000
set_option linter.unusedVariables false
set_option linter.unusedSimpArgs false
open Go.RowKit

/-- the value v is a slice of the bytes l; its block, if it has any bytes, is one of p -/
def Bk (w : World) (p : Nat → Prop) (v : Value) (l : List UInt8) : Prop :=
  ∃ (A : Option Addr) (n c : Nat), v = .slice A n c ∧ Sl w 1 A n c (bc l) ∧ ∀ b, 0 < n → A.map (·.block) = some b → p b
theorem Bk.move {w w' : World} {p q : Nat → Prop} {v : Value} {l : List UInt8} (h : Bk w p v l) (hm : ∀ b, b < w.heap.size → p b → w'.heap[b]? = w.heap[b]? ∧ q b) : Bk w' q v l := by
  obtain ⟨A, n, c, rfl, hs, hp⟩ := h
  exact ⟨A, n, c, rfl, hs.keep fun hn b e => (hm b (hs.lt (by omega) hn b e) (hp b hn e)).1, fun b hn e => (hm b (hs.lt (by omega) hn b e) (hp b hn e)).2⟩
theorem Bk.of {w : World} {A : Option Addr} {n c : Nat} {l : List UInt8} (h : Sl w 1 A n c (bc l)) : Bk w (fun _ => True) (.slice A n c) l := ⟨A, n, c, rfl, h, fun _ _ _ => trivial⟩
/-- .. of the call's own -/
theorem Bk.own {w : World} {B : Nat} {e : TypeId} {A : Option Addr} {n c : Nat} {l : List UInt8} (h : Own w B e 1 A n c (bc l)) : Bk w (fun b => B ≤ b ∧ b < w.heap.size) (.slice A n c) l :=
  ⟨A, n, c, rfl, h.sl, fun b hn e => h.lt b (by have := h.cap; unfold blk; rw [if_neg (by omega)]; exact e)⟩

/-- how a value of α lies in cells -/
class Rep (α : Type) where
  size : Nat
  cells : World → (Nat → Prop) → List Value → α → Prop
  pos : 0 < size
  len : ∀ {w p cs x}, cells w p cs x → cs.length = size
  one : ∀ {w p cs x}, cells w p cs x → ∀ u ∈ cs, u.oneCell' = true
  move : ∀ {w w' : World} {p q : Nat → Prop} {cs x}, cells w p cs x → (∀ b, b < w.heap.size → p b → w'.heap[b]? = w.heap[b]? ∧ q b) → cells w' q cs x

section
variable {α : Type} [Rep α] {w w' : World} {p q : Nat → Prop}
theorem Rep.mono {cs : List Value} {x : α} (h : Rep.cells w p cs x) (hm : ∀ b, b < w.heap.size → p b → q b) : Rep.cells w q cs x := Rep.move h fun b hb hp => ⟨rfl, hm b hb hp⟩
/-- the cells xs are those of the records ls, one behind the other -/
def RowC (w : World) (p : Nat → Prop) : List Value → List α → Prop
  | xs, [] => xs = []
  | xs, a :: ls => ∃ cs ys, xs = cs ++ ys ∧ Rep.cells w p cs a ∧ RowC w p ys ls
theorem RowC.len : ∀ {xs : List Value} {ls : List α}, RowC w p xs ls → xs.length = ls.length * Rep.size α
  | _, [], h => by obtain rfl : _ = [] := h; simp
  | _, a :: ls, h => by
    obtain ⟨cs, ys, rfl, hc, hr⟩ := h
    rw [List.length_append, Rep.len hc, hr.len, List.length_cons, Nat.add_mul, Nat.one_mul, Nat.add_comm]
theorem RowC.one : ∀ {xs : List Value} {ls : List α}, RowC w p xs ls → ∀ u ∈ xs, u.oneCell' = true
  | _, [], h => by obtain rfl : _ = [] := h; simp
  | _, a :: ls, h => by
    obtain ⟨cs, ys, rfl, hc, hr⟩ := h
    intro u hu
    rcases List.mem_append.1 hu with h1 | h1
    · exact Rep.one hc u h1
    · exact hr.one u h1
theorem RowC.move : ∀ {xs : List Value} {ls : List α}, RowC w p xs ls → (∀ b, b < w.heap.size → p b → w'.heap[b]? = w.heap[b]? ∧ q b) → RowC w' q xs ls
  | _, [], h, _ => h
  | _, a :: ls, h, hm => by
    obtain ⟨cs, ys, rfl, hc, hr⟩ := h
    exact ⟨cs, ys, rfl, Rep.move hc hm, hr.move hm⟩
theorem RowC.append : ∀ {xs ys : List Value} {ls ms : List α}, RowC w p xs ls → RowC w p ys ms → RowC w p (xs ++ ys) (ls ++ ms)
  | _, _, [], _, h, h2 => by obtain rfl : _ = [] := h; simpa using h2
  | _, _, a :: ls, _, h, h2 => by
    obtain ⟨cs, zs, rfl, hc, hr⟩ := h
    exact ⟨cs, zs ++ _, by rw [List.append_assoc], hc, hr.append h2⟩
theorem RowC.single {cs : List Value} {x : α} (h : Rep.cells w p cs x) : RowC w p cs [x] := ⟨cs, [], by simp, h, rfl⟩
/-- record k, and its cells -/
theorem RowC.get : ∀ {xs : List Value} {ls : List α} (k : Nat) {x : α}, RowC w p xs ls → ls[k]? = some x → Rep.cells w p ((xs.drop (k * Rep.size α)).take (Rep.size α)) x
  | _, [], k, x, _, hk => by simp at hk
  | _, a :: ls, 0, x, h, hk => by
    obtain ⟨cs, ys, rfl, hc, hr⟩ := h
    obtain rfl : a = x := by simpa using hk
    rw [Nat.zero_mul, List.drop_zero, List.take_left' (Rep.len hc)]
    exact hc
  | _, a :: ls, k + 1, x, h, hk => by
    obtain ⟨cs, ys, rfl, hc, hr⟩ := h
    have := hr.get k (by simpa using hk)
    rw [Nat.add_mul, Nat.one_mul, Nat.add_comm, ← List.drop_drop, List.drop_left' (Rep.len hc)]
    exact this
theorem RowC.take : ∀ {xs : List Value} {ls : List α} (k : Nat), RowC w p xs ls → RowC w p (xs.take (k * Rep.size α)) (ls.take k)
  | _, [], k, h => by obtain rfl : _ = [] := h; simp; rfl
  | _, a :: ls, 0, h => by simp; rfl
  | _, a :: ls, k + 1, h => by
    obtain ⟨cs, ys, rfl, hc, hr⟩ := h
    refine ⟨cs, ys.take (k * Rep.size α), ?_, hc, hr.take k⟩
    rw [Nat.add_mul, Nat.one_mul, List.take_append, Rep.len hc, List.take_of_length_le (by rw [Rep.len hc]; omega)]
    congr 2
    omega
theorem RowC.drop : ∀ {xs : List Value} {ls : List α} (k : Nat), RowC w p xs ls → RowC w p (xs.drop (k * Rep.size α)) (ls.drop k)
  | _, [], k, h => by obtain rfl : _ = [] := h; simp; rfl
  | _, a :: ls, 0, h => by simpa using h
  | _, a :: ls, k + 1, h => by
    obtain ⟨cs, ys, rfl, hc, hr⟩ := h
    have := hr.drop k
    rw [Nat.add_mul, Nat.one_mul, Nat.add_comm, ← List.drop_drop, List.drop_left' (Rep.len hc)]
    exact this

/-- the slice '.slice A n c' reads as the records ls -/
def SlR (w : World) (p : Nat → Prop) (A : Option Addr) (n c : Nat) (ls : List α) : Prop :=
  ∃ xs, Sl w (Rep.size α) A n c xs ∧ RowC w p xs ls ∧ ∀ b, 0 < n → A.map (·.block) = some b → p b
theorem SlR.lenR {A : Option Addr} {n c : Nat} {ls : List α} (h : SlR w p A n c ls) : ls.length = n := by
  obtain ⟨xs, hs, hr, _⟩ := h
  have h1 := hs.len
  rw [hr.len] at h1
  exact Nat.eq_of_mul_eq_mul_right (Rep.pos (α := α)) h1
theorem SlR.cap {A : Option Addr} {n c : Nat} {ls : List α} (h : SlR w p A n c ls) : n ≤ c ∧ c ≤ maxLen := by
  obtain ⟨xs, hs, hr, _⟩ := h
  exact ⟨hs.cap, hs.capm⟩
theorem SlR.move {A : Option Addr} {n c : Nat} {ls : List α} (h : SlR w p A n c ls) (hm : ∀ b, b < w.heap.size → p b → w'.heap[b]? = w.heap[b]? ∧ q b) : SlR w' q A n c ls := by
  obtain ⟨xs, hs, hr, hp⟩ := h
  exact ⟨xs, hs.keep fun hn b e => (hm b (hs.lt Rep.pos hn b e) (hp b hn e)).1, hr.move hm, fun b hn e => (hm b (hs.lt Rep.pos hn b e) (hp b hn e)).2⟩
theorem SlR.mono {A : Option Addr} {n c : Nat} {ls : List α} (h : SlR w p A n c ls) (hm : ∀ b, b < w.heap.size → p b → q b) : SlR w q A n c ls := h.move fun b hb hp => ⟨rfl, hm b hb hp⟩
theorem SlR.below {A : Option Addr} {n c : Nat} {ls : List α} (h : SlR w p A n c ls) (hb : Below w.heap.size w w') : SlR w' p A n c ls := h.move fun b hl hp => ⟨hb.block b hl, hp⟩
theorem SlR.nil (w : World) (p : Nat → Prop) (A : Option Addr) (c : Nat) (hc : c ≤ maxLen) : SlR w p A 0 c ([] : List α) := ⟨[], Sl.nil _ _ _ _ hc, rfl, fun b hn => absurd hn (by omega)⟩
theorem SlR.nilnil (w : World) (p : Nat → Prop) : SlR w p none 0 0 ([] : List α) := SlR.nil w p none 0 (by unfold maxLen; omega)
/-- record k -/
theorem SlR.get {A : Option Addr} {n c : Nat} {ls : List α} (h : SlR w p A n c ls) {k : Nat} (hk : k < n) :
    ∃ (b o : Nat) (x : α) (cs : List Value), A = some ⟨b, o, none⟩ ∧ ls[k]? = some x ∧ Rep.cells w p cs x ∧ ∀ j u, cs[j]? = some u → w.cell? ⟨b, o + k * Rep.size α + j, none⟩ = some u := by
  have hl := h.lenR
  obtain ⟨xs, hs, hr, _⟩ := h
  obtain ⟨b, o, e, hc⟩ := hs.at_ (by omega)
  have hx : ls[k]? = some ls[k] := List.getElem?_eq_getElem (by omega)
  refine ⟨b, o, ls[k], _, e, hx, hr.get k hx, fun j u hu => ?_⟩
  have hj := (List.getElem?_eq_some_iff.1 hu).1
  rw [List.length_take] at hj
  rw [List.getElem?_take, if_pos (by omega), List.getElem?_drop] at hu
  rw [Nat.add_assoc]
  exact hc _ u hu
/-- a row laid new reads as its records, whatever its mark -/
theorem SlR.lit (e : TypeId) (fr : Nat × Nat) (n : Nat) (cur : Array Value) (xs : List Value) (ls : List α) (hc : cur.toList = xs) (hr : RowC w (· < w.heap.size) xs ls) (hn : ls.length = n) (hm : n ≤ maxLen) :
    SlR (w.alloc (.cells cur e fr)) (fun b => b ≤ w.heap.size) (some ⟨w.heap.size, 0, none⟩) n n ls := by
  refine ⟨xs, ⟨by rw [hr.len, hn], Nat.le_refl _, hm, fun _ => ⟨w.heap.size, 0, rfl, fun j u hu => ?_⟩⟩, hr.move fun b hb _ => ⟨Below.heap_alloc w _ b hb, by omega⟩, fun b _ e => by simp at e; omega⟩
  rw [cell_of_row _ _ _ _ _ _ (heap_alloc_new w _)]
  rw [← hc] at hu
  simpa using hu
theorem SlR.take {A : Option Addr} {n c : Nat} {ls : List α} (h : SlR w p A n c ls) {k : Nat} (hk : k ≤ n) : SlR w p A k c (ls.take k) := by
  obtain ⟨xs, hs, hr, hp⟩ := h
  have hcap := hs.cap
  have := hs.cut (lo := 0) (hi := k) (m := c) (Nat.zero_le _) hk (by omega) (Nat.le_refl _)
  have e0 : (if c = 0 then A else A.map (·.add (0 * Rep.size α))) = A := by
    split
    · rfl
    · cases A <;> simp [Addr.add]
  rw [e0] at this
  simp only [Nat.sub_zero, Nat.zero_mul, List.drop_zero] at this
  exact ⟨_, this, hr.take k, fun b hn e => hp b (by omega) e⟩
theorem SlR.drop {A : Option Addr} {n c : Nat} {ls : List α} (h : SlR w p A n c ls) {k : Nat} (hk : k ≤ n) :
    SlR w p (if c = k then A else A.map (·.add (k * Rep.size α))) (n - k) (c - k) (ls.drop k) := by
  obtain ⟨xs, hs, hr, hp⟩ := h
  have hcap := hs.cap
  have hl := hs.len
  have := hs.cut (lo := k) (hi := n) (m := c) hk (Nat.le_refl _) (by omega) (Nat.le_refl _)
  refine ⟨_, this, ?_, fun b hn e => ?_⟩
  · rw [List.take_of_length_le (by rw [List.length_drop, hl, Nat.sub_mul]; omega)]
    exact hr.drop k
  · rw [if_neg (by omega)] at e
    obtain ⟨b', o, rfl, _⟩ := hs.at_ (by omega)
    refine hp b (by omega) ?_
    simpa [Addr.add_lit] using e

/-- block b is no row of e -/
def NotTy (w : World) (e : TypeId) (b : Nat) : Prop := ∀ cur fr, w.heap[b]? ≠ some (.cells cur e fr)
/-- a row of records that the call has made, in block from B on; what lies behind its cells lies in no row of its type of the call's own -/
def OwnR (w : World) (B : Nat) (e : TypeId) (A : Option Addr) (n c : Nat) (ls : List α) : Prop :=
  ∃ xs, Own w B e (Rep.size α) A n c xs ∧ RowC w (fun b => b < B ∨ NotTy w e b) xs ls
theorem OwnR.nil (w : World) (B : Nat) (e : TypeId) (A : Option Addr) : OwnR w B e A 0 0 ([] : List α) := ⟨[], Own.nil _ _ _ _ _, rfl⟩
theorem OwnR.sl {B : Nat} {e : TypeId} {A : Option Addr} {n c : Nat} {ls : List α} (h : OwnR w B e A n c ls) : SlR w (fun _ => True) A n c ls := by
  obtain ⟨xs, ho, hr⟩ := h
  exact ⟨xs, ho.sl, hr.move fun _ _ _ => ⟨rfl, trivial⟩, fun _ _ _ => trivial⟩
theorem OwnR.lenR {B : Nat} {e : TypeId} {A : Option Addr} {n c : Nat} {ls : List α} (h : OwnR w B e A n c ls) : ls.length = n := h.sl.lenR
theorem OwnR.below {B : Nat} {e : TypeId} {A : Option Addr} {n c : Nat} {ls : List α} (h : OwnR w B e A n c ls) (hb : Below w.heap.size w w') : OwnR w' B e A n c ls := by
  obtain ⟨xs, ho, hr⟩ := h
  refine ⟨xs, ho.below hb, hr.move fun b hl hp => ⟨hb.block b hl, ?_⟩⟩
  rcases hp with h1 | h1
  · exact .inl h1
  · exact .inr fun cur fr => by rw [hb.block b hl]; exact h1 cur fr
theorem OwnR.mono {B B' : Nat} {e : TypeId} {A : Option Addr} {n c : Nat} {ls : List α} (h : OwnR w B e A n c ls) (hB : B' ≤ B) (hr : ∀ b, b < B → b < B' ∨ NotTy w e b) : OwnR w B' e A n c ls := by
  obtain ⟨xs, ho, hr'⟩ := h
  exact ⟨xs, ho.mono hB, hr'.move fun b hl hp => ⟨rfl, hp.elim (hr b) .inr⟩⟩
theorem grown_apart {B : Nat} {e : TypeId} {size : Nat} {A : Option Addr} {n c : Nat} {xs : List Value} (ho : Own w B e size A n c xs) (hg : w.grownBy w' (blk A c)) :
    ∀ b, b < w.heap.size → (b < B ∨ NotTy w e b) → w'.heap[b]? = w.heap[b]? ∧ (b < B ∨ NotTy w' e b) := by
  intro b hl hp
  have h1 : w'.heap[b]? = w.heap[b]? := hg.block b hl fun hb => by
    rcases hp with h2 | h2
    · have := (ho.lt b hb.symm).1
      omega
    · unfold blk at hb
      split at hb
      · cases hb
      · obtain ⟨g, o, cur, rfl, _, hh, _⟩ := ho.row (by omega)
        simp at hb
        subst hb
        exact h2 _ _ hh
  refine ⟨h1, hp.elim .inl fun h2 => .inr fun cur fr => by rw [h1]; exact h2 cur fr⟩
end
end Go.Proofs.YtpffieogkfndaaaDoor

namespace Go.Proofs.YtpffieogkfndaaaDoor
set_option maxRecDepth 20000
set_option linter.unusedVariables false
set_option linter.unusedSimpArgs false
open Go.RowKit

structure KeyL where
  user : List UInt8
  seq : UInt64
  kind : UInt8
  deriving DecidableEq
structure OpL where
  kind : UInt8
  key : List UInt8
  value : List UInt8
  deriving DecidableEq
structure EntL where
  key : KeyL
  value : List UInt8
  deriving DecidableEq
structure SpanL where
  lo : List UInt8
  hi : List UInt8
  seq : UInt64
  deriving DecidableEq
structure PairL where
  key : List UInt8
  value : List UInt8
  deriving DecidableEq
structure NoteL where
  kind : UInt8
  seq : UInt64
  name : List UInt8
  ops : List OpL
  deriving DecidableEq
def u8v (x : UInt8) : Value := .int .u8 (x.toNat : Int)
def u64v (x : UInt64) : Value := .int .u64 (x.toNat : Int)
theorem bk_one {w : World} {p : Nat → Prop} {v : Value} {l : List UInt8} (h : Bk w p v l) : v.oneCell' = true := by
  obtain ⟨A, n, c, rfl, _⟩ := h
  rfl
instance : Rep (List UInt8) where
  size := 1
  cells w p cs l := ∃ v, cs = [v] ∧ Bk w p v l
  pos := by omega
  len := by rintro w p cs x ⟨v, rfl, _⟩; rfl
  one := by
    rintro w p cs x ⟨v, rfl, h⟩ u hu
    simp at hu
    subst hu
    exact bk_one h
  move := by
    rintro w w' p q cs x ⟨v, rfl, h⟩ hm
    exact ⟨v, rfl, h.move hm⟩
instance : Rep UInt64 where
  size := 1
  cells _ _ cs x := cs = [u64v x]
  pos := by omega
  len := by rintro w p cs x rfl; rfl
  one := by
    rintro w p cs x rfl u hu
    simp at hu
    subst hu
    rfl
  move := by
    rintro w w' p q cs x rfl hm
    rfl
instance : Rep KeyL where
  size := 3
  cells w p cs k := ∃ v, cs = [v, u64v k.seq, u8v k.kind] ∧ Bk w p v k.user
  pos := by omega
  len := by rintro w p cs x ⟨v, rfl, _⟩; rfl
  one := by
    rintro w p cs x ⟨v, rfl, h⟩ u hu
    simp at hu
    rcases hu with rfl | rfl | rfl
    · exact bk_one h
    · rfl
    · rfl
  move := by
    rintro w w' p q cs x ⟨v, rfl, h⟩ hm
    exact ⟨v, rfl, h.move hm⟩
instance : Rep OpL where
  size := 3
  cells w p cs o := ∃ v v', cs = [u8v o.kind, v, v'] ∧ Bk w p v o.key ∧ Bk w p v' o.value
  pos := by omega
  len := by rintro w p cs x ⟨v, v', rfl, _⟩; rfl
  one := by
    rintro w p cs x ⟨v, v', rfl, h, h'⟩ u hu
    simp at hu
    rcases hu with rfl | rfl | rfl
    · rfl
    · exact bk_one h
    · exact bk_one h'
  move := by
    rintro w w' p q cs x ⟨v, v', rfl, h, h'⟩ hm
    exact ⟨v, v', rfl, h.move hm, h'.move hm⟩
instance : Rep EntL where
  size := 4
  cells w p cs o := ∃ v v', cs = [v, u64v o.key.seq, u8v o.key.kind, v'] ∧ Bk w p v o.key.user ∧ Bk w p v' o.value
  pos := by omega
  len := by rintro w p cs x ⟨v, v', rfl, _⟩; rfl
  one := by
    rintro w p cs x ⟨v, v', rfl, h, h'⟩ u hu
    simp at hu
    rcases hu with rfl | rfl | rfl | rfl
    · exact bk_one h
    · rfl
    · rfl
    · exact bk_one h'
  move := by
    rintro w w' p q cs x ⟨v, v', rfl, h, h'⟩ hm
    exact ⟨v, v', rfl, h.move hm, h'.move hm⟩
instance : Rep SpanL where
  size := 3
  cells w p cs o := ∃ v v', cs = [v, v', u64v o.seq] ∧ Bk w p v o.lo ∧ Bk w p v' o.hi
  pos := by omega
  len := by rintro w p cs x ⟨v, v', rfl, _⟩; rfl
  one := by
    rintro w p cs x ⟨v, v', rfl, h, h'⟩ u hu
    simp at hu
    rcases hu with rfl | rfl | rfl
    · exact bk_one h
    · exact bk_one h'
    · rfl
  move := by
    rintro w w' p q cs x ⟨v, v', rfl, h, h'⟩ hm
    exact ⟨v, v', rfl, h.move hm, h'.move hm⟩
instance : Rep PairL where
  size := 2
  cells w p cs o := ∃ v v', cs = [v, v'] ∧ Bk w p v o.key ∧ Bk w p v' o.value
  pos := by omega
  len := by rintro w p cs x ⟨v, v', rfl, _⟩; rfl
  one := by
    rintro w p cs x ⟨v, v', rfl, h, h'⟩ u hu
    simp at hu
    rcases hu with rfl | rfl
    · exact bk_one h
    · exact bk_one h'
  move := by
    rintro w w' p q cs x ⟨v, v', rfl, h, h'⟩ hm
    exact ⟨v, v', rfl, h.move hm, h'.move hm⟩
instance : Rep NoteL where
  size := 4
  cells w p cs o := ∃ v A n c, cs = [u8v o.kind, u64v o.seq, v, .slice A n c] ∧ Bk w p v o.name ∧ SlR w p A n c o.ops
  pos := by omega
  len := by rintro w p cs x ⟨v, A, n, c, rfl, _⟩; rfl
  one := by
    rintro w p cs x ⟨v, A, n, c, rfl, h, h'⟩ u hu
    simp at hu
    rcases hu with rfl | rfl | rfl | rfl
    · rfl
    · rfl
    · exact bk_one h
    · rfl
  move := by
    rintro w w' p q cs x ⟨v, A, n, c, rfl, h, h'⟩ hm
    exact ⟨v, A, n, c, rfl, h.move hm, h'.move hm⟩
end Go.Proofs.YtpffieogkfndaaaDoor

namespace Go.Proofs.YtpffieogkfndaaaDoor
open Go.RowKit
set_option maxRecDepth 20000
set_option linter.unusedVariables false
set_option linter.unusedSimpArgs false
section
variable {P : Program} {ops : Array Oper} {Q : Exit → Act → World → Prop} {md : Region.Mode} {m : Nat} {S : World → Prop}

/-- whatever order is picked from here on; S holds behind each of the first m operations -/
def AnyS (P : Program) (md : Region.Mode) (ops : Array Oper) (Q : Exit → Act → World → Prop) (m : Nat) (S : World → Prop) : Nat → Array Bool → Act → World → Prop
  | 0, listed, a, w => Region.ready md ops listed = [] ∧ Q .normal a w
  | fuel + 1, listed, a, w =>
    (Region.ready md ops listed = [] → Q .normal a w) ∧
    ∀ j ∈ Region.ready md ops listed, wpOp P ops Q j (fun a' w' => (j < m → S w') ∧ AnyS P md ops Q m S fuel (listed.setIfInBounds j true) a' w') a w
theorem any_of_S : ∀ (fuel : Nat) (listed : Array Bool) (a : Act) (w : World), AnyS P md ops Q m S fuel listed a w → wpAny P md ops Q fuel listed a w
  | 0, _, _, _, h => h
  | fuel + 1, _, _, _, h => ⟨h.1, fun j hj => wpOp_mono (fun a' w' q => any_of_S fuel _ a' w' q.2) (h.2 j hj)⟩
/-- every operation from number m on waits for number i -/
def tailWaits (md : Region.Mode) (ops : Array Oper) (m i : Nat) : Bool :=
  (List.range ops.size).all fun t => decide (t < m) || match ops[t]? with
    | some o => o.after.any fun e => Region.binds md e && e.on == i
    | none => true
theorem tailWaits_spec {i : Nat} (h : tailWaits md ops m i = true) {t : Nat} {ot : Oper} (ht : ops[t]? = some ot) (hm : m ≤ t) : ∃ e ∈ ot.after, Region.binds md e = true ∧ e.on = i := by
  have h1 := List.all_eq_true.1 h t (List.mem_range.2 (Array.getElem?_eq_some_iff.1 ht).1)
  rw [ht] at h1
  simp only [Bool.or_eq_true, decide_eq_true_eq] at h1
  rcases h1 with h1 | h1
  · omega
  · obtain ⟨e, he, hb⟩ := Array.any_eq_true'.1 h1
    simp only [Bool.and_eq_true, beq_iff_eq] at hb
    exact ⟨e, he, hb.1, hb.2⟩
theorem unlisted {listed : Array Bool} {i : Nat} (h : listed.getD i true = false) : listed.getD i false = false := by
  rcases Nat.lt_or_ge i listed.size with hl | hl
  · simp [hl] at h ⊢; exact h
  · simp [Array.getElem?_eq_none hl] at h
theorem AnyS_first {i : Nat} {oi : Oper} {v : Value} (hi : ops[i]? = some oi) (hsel : ∀ (j : Nat) (o : Oper) cs b, ops[j]? = some o → o.op ≠ .select cs b)
    (hQ : ∀ c a w, Q (.panic c) (a.put oi.dst v) w → Q (.panic c) a w) (ht : tailWaits md ops m i = true) (him : i < m) :
    ∀ (fuel : Nat) (listed : Array Bool) (a : Act) (w : World),
      (∀ j oj, ops[j]? = some oj → j ≠ i → listed.getD j true = false → (∀ e ∈ oj.after, Region.binds md e = true → e.on ≠ i) → oi.apart ops oj = true) →
      i ∈ Region.ready md ops listed → YieldsIf P ops S oi v a → S w →
      AnyS P md ops Q m S fuel (listed.setIfInBounds i true) (a.put oi.dst v) w → AnyS P md ops Q m S (fuel + 1) listed a w
  | fuel, listed, a, w, hfree, hr, hy, hS, H => by
    have hun := (mem_ready.1 hr).1
    refine ⟨fun h => (by rw [h] at hr; cases hr), fun j hj => ?_⟩
    by_cases hji : j = i
    · subst hji
      exact hy.wpOp hi hS ⟨fun _ => hS, H⟩
    · obtain ⟨hjun, oj, hoj, hall⟩ := mem_ready.1 hj
      have hnot : ∀ e ∈ oj.after, Region.binds md e = true → e.on ≠ i := fun e he hb heq => by
        have h1 := hall e he hb
        rw [heq, unlisted hun] at h1
        cases h1
      have hjm : j < m := by
        rcases Nat.lt_or_ge j m with h | h
        · exact h
        · obtain ⟨e, he, hb, hon⟩ := tailWaits_spec ht hoj h
          exact absurd hon (hnot e he hb)
      match fuel, H with
      | 0, H =>
        have := ready_mono hj hji
        rw [H.1] at this
        cases this
      | fuel + 1, H =>
        have h2 := wpOp_putIf hoj (hfree j oj hoj hji hjun hnot) (fun cs b => hsel i oi cs b hi) (fun cs b => hsel j oj cs b hoj) hQ hy (H.2 j (ready_mono hj hji))
        refine wpOp_mono (fun a' w' h3 => ⟨h3.2.1, ?_⟩) h2
        refine AnyS_first hi hsel hQ ht him fuel (listed.setIfInBounds j true) a' w' (fun k ok hk hki hkun hkno => hfree k ok hk hki ?_ hkno) (ready_mono hr (Ne.symm hji)) h3.1 (h3.2.1 hjm) ?_
        · by_cases hjk : j = k
          · subst hjk; exact hjun
          · rw [getD_set_ne true hjk] at hkun
            exact hkun
        · rw [Array.setIfInBounds_comm _ _ hji]
          exact h3.2.2
/-- number i is taken first -/
theorem takeS {i : Nat} {oi : Oper} {v : Value} {fuel : Nat} {listed : Array Bool} {a : Act} {w : World} (hi : ops[i]? = some oi)
    (hs : Region.noSelect ops = true) (hf : Region.free md ops listed i = true) (hr : (Region.ready md ops listed).contains i = true) (ht : tailWaits md ops m i = true) (him : decide (i < m) = true)
    (hQ : ∀ c a w, Q (.panic c) (a.put oi.dst v) w → Q (.panic c) a w) (hy : YieldsIf P ops S oi v a) (hS : S w)
    (h : AnyS P md ops Q m S fuel (listed.setIfInBounds i true) (a.put oi.dst v) w) : AnyS P md ops Q m S (fuel + 1) listed a w :=
  AnyS_first hi (Region.noSelect_spec hs) hQ ht (of_decide_eq_true him) fuel listed a w (Region.free_spec hi hf) (by simpa using hr) hy hS h
/-- number i alone may come up, and it is one of the first m: behind it S is shown -/
theorem readyS {i : Nat} {o : Oper} {fuel : Nat} {listed : Array Bool} {a : Act} {w : World} (hr : Region.ready md ops listed = [i]) (ho : ops[i]? = some o)
    (h : ∀ K : Act → World → Prop, (∀ a w, S w → AnyS P md ops Q m S fuel (listed.setIfInBounds i true) a w → K a w) → if Region.wanted o (yielded ops a.tmps) = true then Oper.wp P o a w K Q else K (a.put o.dst undef) w) :
    AnyS P md ops Q m S (fuel + 1) listed a w :=
  ⟨fun h0 => (by rw [hr] at h0; cases h0), fun j hj => by
    rw [hr] at hj
    obtain rfl : j = i := by simpa using hj
    exact wpOp_step ho fun K hK => h K fun a w hS hA => hK a w ⟨fun _ => hS, hA⟩⟩
theorem doneS {listed : Array Bool} {a : Act} {w : World} (hr : Region.ready md ops listed = []) (h : Q .normal a w) : ∀ fuel, AnyS P md ops Q m S fuel listed a w
  | 0 => ⟨hr, h⟩
  | _ + 1 => ⟨fun _ => h, by rw [hr]; simp⟩
/-- the beginning: from the world behind the draw -/
theorem regionS (m : Nat) (S : World → Prop) {id : Nat} {a : Act} {w : World} (hm : P.follows .mixedOrders = true)
    (h : AnyS P .any ops Q m S ops.size (Array.replicate ops.size false) a w.drew) : (Code.region id ops true).wp P Q a w :=
  wp_region_any hm (any_of_S _ _ _ _ h)
end
/-- a region whose first n operations only read, the last coming in one order: one walk, in the order of the text -/
theorem stillTail {P : Program} {id : Nat} {Q : Exit → Act → World → Prop} {a : Act} {w : World} {l : List Oper} (n : Nat) (hm : P.follows .mixedOrders = true) (hB : Region.lexTailB .any l.toArray n = true)
    (h : wpStill P l.toArray w.drew (fun a' => wpList P l.toArray Q (l.drop n) a' w.drew) (l.take n) a) : (Code.region id l.toArray true).wp P Q a w :=
  wp_region_still_tail n hm hB h
/-- what a variable that the call has boxed holds behind a call that writes new memory alone -/
theorem boxed {w w1 : World} {g : Nat} {cur : Array Value} {e : TypeId} (hb : Below w.heap.size w w1) (hg : w.heap[g]? = some (.cells cur e (0, 0))) :
    (∀ (j : Nat) u, cur[j]? = some u → w1.cell? ⟨g, j, none⟩ = some u) ∧ ∀ j : Nat, w1.frozen? ⟨g, j, none⟩ = false := by
  have hl : g < w.heap.size := (Array.getElem?_eq_some_iff.1 hg).1
  have h1 : w1.heap[g]? = some (.cells cur e (0, 0)) := (hb.block g hl).trans hg
  refine ⟨fun j u hu => ?_, fun j => ?_⟩
  · rw [cell_of_row w1 g j cur e (0, 0) h1]
    exact hu
  · simp [World.frozen?, h1]
theorem stays {w w' : World} (hb : Below w.heap.size w w') {a : Addr} {u : Value} (h : w.cell? a = some u) : w'.cell? a = some u := (hb.cell (World.block_lt_of_cell? _ _ h)).trans h
theorem set_same {w : World} {a : Addr} {u : Value} (h : w.cell? a = some u) (v : Value) : (w.setCell a v).cell? a = some v := World.cell?_setCell_same' w a v (by simp [h])
theorem set_other {w : World} {g j g' j' : Nat} {u : Value} (h : w.cell? ⟨g', j', none⟩ = some u) (v : Value) (hne : g ≠ g' ∨ j ≠ j') : (w.setCell ⟨g, j, none⟩ v).cell? ⟨g', j', none⟩ = some u := by
  rw [World.cell?_setCell_other]
  · exact h
  · intro e
    simp at e
    omega
/-- a cell of a lower block was written -/
theorem own_set {w : World} {B : Nat} {e : TypeId} {size : Nat} {A : Option Addr} {n c : Nat} {xs : List Value} (h : Own w B e size A n c xs) {g j : Nat} (hg : g < B) (v : Value) : Own (w.setCell ⟨g, j, none⟩ v) B e size A n c xs :=
  h.keep fun b hb => Below.heap_setCell w _ v b fun q => by
    have := (h.lt b hb).1
    simp at q
    omega
theorem sl_set {w : World} {size : Nat} {A : Option Addr} {n c : Nat} {xs : List Value} (h : Sl w size A n c xs) {g j : Nat} (hg : ∀ b, A.map (·.block) = some b → b ≠ g) (v : Value) : Sl (w.setCell ⟨g, j, none⟩ v) size A n c xs :=
  h.keep fun _ b hb => Below.heap_setCell w _ v b (hg b hb)
/-- a variable of three cells that was written whole -/
theorem box3 {w w' : World} {g : Nat} {u0 u1 u2 v0 v1 v2 : Value} (e : w' = ((w.setCell ⟨g, 0, none⟩ v0).setCell ⟨g, 1, none⟩ v1).setCell ⟨g, 2, none⟩ v2)
    (x0 : w.cell? ⟨g, 0, none⟩ = some u0) (x1 : w.cell? ⟨g, 1, none⟩ = some u1) (x2 : w.cell? ⟨g, 2, none⟩ = some u2) (x3 : ∀ j : Nat, w.frozen? ⟨g, j, none⟩ = false) :
    w'.cell? ⟨g, 0, none⟩ = some v0 ∧ w'.cell? ⟨g, 1, none⟩ = some v1 ∧ w'.cell? ⟨g, 2, none⟩ = some v2 ∧ (∀ j : Nat, w'.frozen? ⟨g, j, none⟩ = false) ∧ w.grownBy w' (some g) := by
  subst e
  refine ⟨set_other (set_other (set_same x0 _) _ (by omega)) _ (by omega), set_other (set_same (set_other x1 _ (by omega)) _) _ (by omega), set_same (set_other (set_other x2 _ (by omega)) _ (by omega)) _, fun j => ?_, ?_⟩
  · simp [x3]
  · exact only_set (only_set (only_set (World.grownBy.refl _ _) 0 v0) 1 v1) 2 v2
theorem nameC {P : Program} {f : FuncId} {args : Array Value} {R : Ending → World → Prop} {W : World} (h : ∀ w', w' = W → Calls P f args w' R) : Calls P f args W R := h W rfl
theorem box1 (w : World) (o : Obj) : (w.alloc o).heap[w.heap.size]? = some o := heap_alloc_new w o
/-- a variable of three cells that the call has boxed in block g -/
structure Bx (w : World) (g : Nat) (u0 u1 u2 : Value) : Prop where
  c0 : w.cell? ⟨g, 0, none⟩ = some u0
  c1 : w.cell? ⟨g, 1, none⟩ = some u1
  c2 : w.cell? ⟨g, 2, none⟩ = some u2
  fr : ∀ j : Nat, w.frozen? ⟨g, j, none⟩ = false
theorem Bx.lt {w : World} {g : Nat} {u0 u1 u2 : Value} (h : Bx w g u0 u1 u2) : g < w.heap.size := World.block_lt_of_cell? _ _ h.c0
theorem Bx.below {w w' : World} {g : Nat} {u0 u1 u2 : Value} (h : Bx w g u0 u1 u2) (hb : Below w.heap.size w w') : Bx w' g u0 u1 u2 :=
  ⟨stays hb h.c0, stays hb h.c1, stays hb h.c2, fun j => (hb.frozen (p := ⟨g, j, none⟩) h.lt).trans (h.fr j)⟩
theorem Bx.fresh (w : World) (u0 u1 u2 : Value) (e : TypeId) : Bx (w.alloc (.cells #[u0, u1, u2] e)) w.heap.size u0 u1 u2 := by
  have h := boxed (Below.refl _ _) (box1 w (.cells #[u0, u1, u2] e))
  exact ⟨h.1 0 _ rfl, h.1 1 _ rfl, h.1 2 _ rfl, h.2⟩
theorem Bx.set {w w' : World} {g : Nat} {u0 u1 u2 v0 v1 v2 : Value} (h : Bx w g u0 u1 u2) (e : w' = ((w.setCell ⟨g, 0, none⟩ v0).setCell ⟨g, 1, none⟩ v1).setCell ⟨g, 2, none⟩ v2) : Bx w' g v0 v1 v2 ∧ w.grownBy w' (some g) := by
  obtain ⟨a, b, c, d, f⟩ := box3 e h.c0 h.c1 h.c2 h.fr
  exact ⟨⟨a, b, c, d⟩, f⟩
theorem Bx.drew {w : World} {g : Nat} {u0 u1 u2 : Value} (h : Bx w g u0 u1 u2) : Bx w.drew g u0 u1 u2 := ⟨h.c0, h.c1, h.c2, h.fr⟩
theorem Bx.grown {w w' : World} {g g' : Nat} {u0 u1 u2 : Value} (h : Bx w g u0 u1 u2) (hg : w.grownBy w' (some g')) (hne : g ≠ g') : Bx w' g u0 u1 u2 := by
  have hh : w'.heap[g]? = w.heap[g]? := hg.block g h.lt (by simpa using hne)
  have hc : ∀ j : Nat, w'.cell? ⟨g, j, none⟩ = w.cell? ⟨g, j, none⟩ := fun j => World.cell?_of_block (a := ⟨g, j, none⟩) hh
  exact ⟨(hc 0).trans h.c0, (hc 1).trans h.c1, (hc 2).trans h.c2, fun j => (World.frozen?_of_block (a := ⟨g, j, none⟩) hh).trans (h.fr j)⟩
theorem Bx.grownO {w w' : World} {g : Nat} {row : Option Nat} {u0 u1 u2 : Value} (h : Bx w g u0 u1 u2) (hg : w.grownBy w' row) (hne : row ≠ some g) : Bx w' g u0 u1 u2 := by
  have hh : w'.heap[g]? = w.heap[g]? := hg.block g h.lt (fun e => hne e.symm)
  have hc : ∀ j : Nat, w'.cell? ⟨g, j, none⟩ = w.cell? ⟨g, j, none⟩ := fun j => World.cell?_of_block (a := ⟨g, j, none⟩) hh
  exact ⟨(hc 0).trans h.c0, (hc 1).trans h.c1, (hc 2).trans h.c2, fun j => (World.frozen?_of_block (a := ⟨g, j, none⟩) hh).trans (h.fr j)⟩
theorem still_of {P : Program} {f : FuncId} {args : Array Value} {w : World} {v : Value} (h : Calls P f args w fun e w' => e = .returned v ∧ w = w') : Calls P f args w fun e w' => e = .returned v ∧ w' = w :=
  h.mono fun _ _ ⟨a, b⟩ => ⟨a, b.symm⟩
end Go.Proofs.YtpffieogkfndaaaDoor

namespace Go.Proofs.YtpffieogkfndaaaDoor
open Go.RowKit
set_option maxRecDepth 20000
set_option linter.unusedVariables false
set_option linter.unusedSimpArgs false
section
variable {P : Program} {ops : Array Oper} {Q : Exit → Act → World → Prop} {md : Region.Mode} {S : Nat → World → World → Prop}

def AnyF (P : Program) (md : Region.Mode) (ops : Array Oper) (Q : Exit → Act → World → Prop) (S : Nat → World → World → Prop) : Nat → Array Bool → Act → World → Prop
  | 0, listed, a, w => Region.ready md ops listed = [] ∧ Q .normal a w
  | fuel + 1, listed, a, w =>
    (Region.ready md ops listed = [] → Q .normal a w) ∧
    ∀ j ∈ Region.ready md ops listed, wpOp P ops Q j (fun a' w' => S j w w' ∧ AnyF P md ops Q S fuel (listed.setIfInBounds j true) a' w') a w
theorem any_of_F : ∀ (fuel : Nat) (listed : Array Bool) (a : Act) (w : World), AnyF P md ops Q S fuel listed a w → wpAny P md ops Q fuel listed a w
  | 0, _, _, _, h => h
  | fuel + 1, _, _, _, h => ⟨h.1, fun j hj => wpOp_mono (fun a' w' q => any_of_F fuel _ a' w' q.2) (h.2 j hj)⟩
def waitsB (md : Region.Mode) (ops : Array Oper) (j i : Nat) : Bool := match ops[j]? with
  | some o => o.after.any fun e => Region.binds md e && e.on == i
  | none => false
theorem AnyF_first {i : Nat} {oi : Oper} {v : Value} {Si : World → Prop} (hi : ops[i]? = some oi) (hsel : ∀ (j : Nat) (o : Oper) cs b, ops[j]? = some o → o.op ≠ .select cs b)
    (hQ : ∀ c a w, Q (.panic c) (a.put oi.dst v) w → Q (.panic c) a w) (hS : ∀ j, j < ops.size → waitsB md ops j i = true ∨ j = i ∨ ∀ w w', Si w → S j w w' → Si w') (hSi : ∀ w, S i w w) :
    ∀ (fuel : Nat) (listed : Array Bool) (a : Act) (w : World),
      (∀ j oj, ops[j]? = some oj → j ≠ i → listed.getD j true = false → (∀ e ∈ oj.after, Region.binds md e = true → e.on ≠ i) → oi.apart ops oj = true) →
      i ∈ Region.ready md ops listed → YieldsIf P ops Si oi v a → Si w →
      AnyF P md ops Q S fuel (listed.setIfInBounds i true) (a.put oi.dst v) w → AnyF P md ops Q S (fuel + 1) listed a w
  | fuel, listed, a, w, hfree, hr, hy, h0, H => by
    have hun := (mem_ready.1 hr).1
    refine ⟨fun h => (by rw [h] at hr; cases hr), fun j hj => ?_⟩
    by_cases hji : j = i
    · subst hji
      exact hy.wpOp hi h0 ⟨hSi w, H⟩
    · obtain ⟨hjun, oj, hoj, hall⟩ := mem_ready.1 hj
      have hnot : ∀ e ∈ oj.after, Region.binds md e = true → e.on ≠ i := fun e he hb heq => by
        have h1 := hall e he hb
        rw [heq, unlisted hun] at h1
        cases h1
      have hSj : ∀ w w', Si w → S j w w' → Si w' := by
        rcases hS j (Array.getElem?_eq_some_iff.1 hoj).1 with h | h | h
        · unfold waitsB at h
          rw [hoj] at h
          obtain ⟨e, he, hb⟩ := Array.any_eq_true'.1 h
          simp only [Bool.and_eq_true, beq_iff_eq] at hb
          exact absurd hb.2 (hnot e he hb.1)
        · exact absurd h hji
        · exact h
      match fuel, H with
      | 0, H =>
        have := ready_mono hj hji
        rw [H.1] at this
        cases this
      | fuel + 1, H =>
        have h2 := wpOp_putIf hoj (hfree j oj hoj hji hjun hnot) (fun cs b => hsel i oi cs b hi) (fun cs b => hsel j oj cs b hoj) hQ hy (H.2 j (ready_mono hj hji))
        refine wpOp_mono (fun a' w' h3 => ⟨h3.2.1, ?_⟩) h2
        refine AnyF_first hi hsel hQ hS hSi fuel (listed.setIfInBounds j true) a' w' (fun k ok hk hki hkun hkno => hfree k ok hk hki ?_ hkno) (ready_mono hr (Ne.symm hji)) h3.1 (hSj _ _ h0 h3.2.1) ?_
        · by_cases hjk : j = k
          · subst hjk; exact hjun
          · rw [getD_set_ne true hjk] at hkun
            exact hkun
        · rw [Array.setIfInBounds_comm _ _ hji]
          exact h3.2.2
/-- number i is taken first -/
theorem takeF {i : Nat} {oi : Oper} {v : Value} {fuel : Nat} {listed : Array Bool} {a : Act} {w : World} (Si : World → Prop) (hi : ops[i]? = some oi)
    (hs : Region.noSelect ops = true) (hf : Region.free md ops listed i = true) (hr : (Region.ready md ops listed).contains i = true)
    (hS : ∀ j, j < ops.size → waitsB md ops j i = true ∨ j = i ∨ ∀ w w', Si w → S j w w' → Si w') (hSi : ∀ w, S i w w)
    (hQ : ∀ c a w, Q (.panic c) (a.put oi.dst v) w → Q (.panic c) a w) (hy : YieldsIf P ops Si oi v a) (h0 : Si w)
    (h : AnyF P md ops Q S fuel (listed.setIfInBounds i true) (a.put oi.dst v) w) : AnyF P md ops Q S (fuel + 1) listed a w :=
  AnyF_first hi (Region.noSelect_spec hs) hQ hS hSi fuel listed a w (Region.free_spec hi hf) (by simpa using hr) hy h0 h
/-- .. an operation that reads nothing -/
theorem takeT {i : Nat} {oi : Oper} {v : Value} {fuel : Nat} {listed : Array Bool} {a : Act} {w : World} (hi : ops[i]? = some oi) (hy : ∀ w, (execOp a.eval oi).run P w = .ok (.value v) w)
    (h : AnyF P md ops Q S fuel (listed.setIfInBounds i true) (a.put oi.dst v) w)
    (hw : Region.wanted oi (yielded ops a.tmps) = true := by kernel_rfl)
    (hs : Region.noSelect ops = true := by kernel_rfl) (hf : Region.free md ops listed i = true := by kernel_rfl) (hr : (Region.ready md ops listed).contains i = true := by kernel_rfl)
    (hSi : ∀ w, S i w w := by first | exact fun wa => id | exact fun wa _ => id)
    (hQ : ∀ c a w, Q (.panic c) (a.put oi.dst v) w → Q (.panic c) a w := by exact fun _ _ _ h => h) : AnyF P md ops Q S (fuel + 1) listed a w :=
  takeF (fun _ => True) hi hs hf hr (fun j hj => .inr (.inr fun _ _ _ _ => trivial)) hSi hQ (.inl ⟨hw, fun w _ => hy w⟩) trivial h
/-- .. one that leans on what every operation keeps -/
theorem takeP {Pw : World → Prop} {i : Nat} {oi : Oper} {v : Value} {fuel : Nat} {listed : Array Bool} {a : Act} {w : World} (hi : ops[i]? = some oi) (hX : Pw w) (hy : ∀ w, Pw w → (execOp a.eval oi).run P w = .ok (.value v) w)
    (h : AnyF P md ops Q (fun _ wa wb => Pw wa → Pw wb) fuel (listed.setIfInBounds i true) (a.put oi.dst v) w)
    (hw : Region.wanted oi (yielded ops a.tmps) = true := by kernel_rfl)
    (hs : Region.noSelect ops = true := by kernel_rfl) (hf : Region.free md ops listed i = true := by kernel_rfl) (hr : (Region.ready md ops listed).contains i = true := by kernel_rfl)
    (hQ : ∀ c a w, Q (.panic c) (a.put oi.dst v) w → Q (.panic c) a w := by exact fun _ _ _ h => h) : AnyF P md ops Q (fun _ wa wb => Pw wa → Pw wb) (fuel + 1) listed a w :=
  takeF Pw hi hs hf hr (fun j hj => .inr (.inr fun wa wb h g => g h)) (fun wa => id) hQ (.inl ⟨hw, hy⟩) hX h
/-- .. one that leans on what every operation but the last keeps -/
theorem takeM {m : Nat} {Pw : World → Prop} {i : Nat} {oi : Oper} {v : Value} {fuel : Nat} {listed : Array Bool} {a : Act} {w : World} (hi : ops[i]? = some oi) (hX : Pw w) (hy : ∀ w, Pw w → (execOp a.eval oi).run P w = .ok (.value v) w)
    (h : AnyF P md ops Q (fun j wa wb => j ≠ m → Pw wa → Pw wb) fuel (listed.setIfInBounds i true) (a.put oi.dst v) w)
    (hw : Region.wanted oi (yielded ops a.tmps) = true := by kernel_rfl)
    (hs : Region.noSelect ops = true := by kernel_rfl) (hf : Region.free md ops listed i = true := by kernel_rfl) (hr : (Region.ready md ops listed).contains i = true := by kernel_rfl)
    (hm : waitsB md ops m i = true := by kernel_rfl)
    (hQ : ∀ c a w, Q (.panic c) (a.put oi.dst v) w → Q (.panic c) a w := by exact fun _ _ _ h => h) : AnyF P md ops Q (fun j wa wb => j ≠ m → Pw wa → Pw wb) (fuel + 1) listed a w :=
  takeF Pw hi hs hf hr (fun j hj => if e : j = m then .inl (by subst e; exact hm) else .inr (.inr fun wa wb h g => g e h)) (fun wa _ => id) hQ (.inl ⟨hw, hy⟩) hX h
def AllF (P : Program) (md : Region.Mode) (ops : Array Oper) (Q : Exit → Act → World → Prop) (S : Nat → World → World → Prop) (fuel : Nat) (listed : Array Bool) (a : Act) (w : World) (rs : List Nat) : Prop :=
  ∀ i ∈ rs, wpOp P ops Q i (fun a' w' => S i w w' ∧ AnyF P md ops Q S fuel (listed.setIfInBounds i true) a' w') a w
theorem AllF.nil {fuel : Nat} {listed : Array Bool} {a : Act} {w : World} : AllF P md ops Q S fuel listed a w [] := fun _ h => by cases h
theorem AllF.cons {fuel : Nat} {listed : Array Bool} {a : Act} {w : World} {i : Nat} {o : Oper} {rs : List Nat} (ho : ops[i]? = some o)
    (h : ∀ K : Act → World → Prop, (∀ a' w', S i w w' → AnyF P md ops Q S fuel (listed.setIfInBounds i true) a' w' → K a' w') → if Region.wanted o (yielded ops a.tmps) = true then Oper.wp P o a w K Q else K (a.put o.dst undef) w)
    (hs : AllF P md ops Q S fuel listed a w rs) : AllF P md ops Q S fuel listed a w (i :: rs) := fun j hj => by
  rcases List.mem_cons.1 hj with rfl | hj
  · exact wpOp_step ho fun K hK => h K fun a w hS hA => hK a w ⟨hS, hA⟩
  · exact hs j hj
theorem readyF {rs : List Nat} {fuel : Nat} {listed : Array Bool} {a : Act} {w : World} (hr : Region.ready md ops listed = rs) (hne : rs ≠ [])
    (h : AllF P md ops Q S fuel listed a w rs) : AnyF P md ops Q S (fuel + 1) listed a w := ⟨fun h0 => absurd (hr ▸ h0) hne, hr ▸ h⟩
theorem doneF {listed : Array Bool} {a : Act} {w : World} (hr : Region.ready md ops listed = []) (h : Q .normal a w) : ∀ fuel, AnyF P md ops Q S fuel listed a w
  | 0 => ⟨hr, h⟩
  | _ + 1 => ⟨fun _ => h, by rw [hr]; simp⟩
theorem regionF (S : Nat → World → World → Prop) {id : Nat} {a : Act} {w : World} (hm : P.follows .mixedOrders = true)
    (h : AnyF P .any ops Q S ops.size (Array.replicate ops.size false) a w.drew) : (Code.region id ops true).wp P Q a w :=
  wp_region_any hm (any_of_F _ _ _ _ h)
end
end Go.Proofs.YtpffieogkfndaaaDoor
