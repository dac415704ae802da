/-
  LeafSort, RowsY, EntFew, TabBounds in one text. No condition but sizes.
-/
import Derived.Test.YtpffieogkfndaaaGreatDoorJTabPlain
import Derived.Test.YtpffieogkfndaaaGreatDoorJRowsX
import Derived.Test.YtpffieogkfndaaaGreatDoorJSpanCheck
import Derived.Test.YtpffieogkfndaaaGreatDoorJSpanFew
namespace Go.Proofs.YtpffieogkfndaaaGreatDoor
open Go.RowKit
set_option maxRecDepth 20000
set_option linter.unusedVariables false
set_option linter.unusedSimpArgs false

theorem less_iff (a b : KeyL) : lessKey a b = true ↔ cmpKey a b < 0 := by rw [← cmpKey_less]; simp
theorem less_trans {a b c : KeyL} (h1 : lessKey a b = true) (h2 : lessKey b c = true) : lessKey a c = true := by
  rw [less_iff] at *
  exact cmpKey_trans _ _ _ h1 h2
def Rises (l : List EntL) : Prop := l.Pairwise fun a b => lessKey a.key b.key = true
theorem rises_pair : ∀ l : List EntL, risesL l = true ↔ Rises l
  | [] => by simp [risesL, Rises]
  | [a] => by simp [risesL, Rises]
  | a :: b :: l => by
    have ih := rises_pair (b :: l)
    simp only [risesL, Bool.and_eq_true]
    rw [ih]
    unfold Rises
    rw [List.pairwise_cons (a := a)]
    constructor
    · rintro ⟨h1, h2⟩
      refine ⟨fun x hx => ?_, h2⟩
      rcases List.mem_cons.1 hx with rfl | hx
      · exact h1
      · exact less_trans h1 ((List.pairwise_cons.1 h2).1 x hx)
    · rintro ⟨h1, h2⟩
      exact ⟨h1 b (by simp), h2⟩
/-- the first that isn't ahead of k; the last that is -/
def fromL (l : List EntL) (k : KeyL) : Option EntL := l.find? fun x => !lessKey x.key k
def beforeL (l : List EntL) (k : KeyL) : Option EntL := (l.filter fun x => lessKey x.key k).getLast?
def aheadN (l : List EntL) (k : KeyL) : Nat := (l.filter fun x => lessKey x.key k).length
theorem place_split {l m : List EntL} {k : KeyL} (h1 : ∀ x ∈ l, lessKey x.key k = true) (h2 : ∀ x ∈ m, lessKey x.key k = false) :
    aheadN (l ++ m) k = l.length ∧ fromL (l ++ m) k = m.head? ∧ beforeL (l ++ m) k = l.getLast? := by
  have f1 : l.filter (fun x => lessKey x.key k) = l := List.filter_eq_self.2 h1
  have f2 : m.filter (fun x => lessKey x.key k) = [] := by
    rw [List.filter_eq_nil_iff]
    intro x hx
    rw [h2 x hx]
    simp
  refine ⟨?_, ?_, ?_⟩
  · unfold aheadN
    rw [List.filter_append, f1, f2, List.append_nil]
  · unfold fromL
    rw [List.find?_append]
    have e1 : l.find? (fun x => !lessKey x.key k) = none := by
      rw [List.find?_eq_none]
      intro x hx
      rw [h1 x hx]
      simp
    rw [e1]
    cases m with
    | nil => rfl
    | cons a m =>
      simp only [Option.none_or, List.head?_cons]
      rw [List.find?_cons, h2 a (by simp)]
      rfl
  · unfold beforeL
    rw [List.filter_append, f1, f2, List.append_nil]
/-- in order: what stands ahead of a place stands ahead, what stands behind stands behind -/
theorem rises_split {l : List EntL} (hr : Rises l) (k : KeyL) (i : Nat) (hi : i ≤ l.length) (h1 : ∀ x, 0 < i → l[i - 1]? = some x → lessKey x.key k = true) (h2 : ∀ x, l[i]? = some x → lessKey x.key k = false) :
    aheadN l k = i ∧ fromL l k = l[i]? ∧ beforeL l k = if i = 0 then none else l[i - 1]? := by
  have hs : l.take i ++ l.drop i = l := List.take_append_drop i l
  have hp : Rises (l.take i ++ l.drop i) := by rw [hs]; exact hr
  obtain ⟨p1, p2, p3⟩ := List.pairwise_append.1 hp
  have a1 : ∀ x ∈ l.take i, lessKey x.key k = true := by
    intro x hx
    obtain ⟨j, hj, rfl⟩ := List.getElem_of_mem hx
    rw [List.length_take] at hj
    rw [List.getElem_take]
    have hl : i - 1 < l.length := by omega
    have hlast := h1 l[i - 1] (by omega) (List.getElem?_eq_getElem hl)
    by_cases hji : j = i - 1
    · subst hji
      exact hlast
    · exact less_trans (List.pairwise_iff_getElem.1 hr j (i - 1) (by omega) hl (by omega)) hlast
  have a2 : ∀ x ∈ l.drop i, lessKey x.key k = false := by
    intro x hx
    obtain ⟨j, hj, rfl⟩ := List.getElem_of_mem hx
    rw [List.length_drop] at hj
    rw [List.getElem_drop]
    have hl : i < l.length := by omega
    have hfirst := h2 l[i] (List.getElem?_eq_getElem hl)
    by_cases hj0 : j = 0
    · subst hj0
      exact hfirst
    · rcases hc : lessKey l[i + j].key k with _ | _
      · rfl
      · have := less_trans (List.pairwise_iff_getElem.1 hr i (i + j) hl (by omega) (by omega)) hc
        rw [hfirst] at this
        cases this
  have := place_split a1 a2
  rw [hs] at this
  refine ⟨by rw [this.1, List.length_take]; omega, by rw [this.2.1, List.head?_drop], ?_⟩
  rw [this.2.2, List.getLast?_eq_getElem?, List.length_take, Nat.min_eq_left hi]
  split
  · rename_i h0
    subst h0
    simp
  · rw [List.getElem?_take, if_pos (by omega)]
theorem leaf_len (l : List EntL) (h : checkLeafL l = 0) : (leafBytesL l).length ≤ 40000 ∧ 2 ≤ (leafBytesL l).length := by
  obtain ⟨h1, h2, _⟩ := checkLeaf_zero h
  have hb := leafBody_len l 0 [] h2
  have hs := starts_len l
  unfold leafBytesL
  simp only [List.length_append, twosL_len, hs, twoL, List.length_cons, List.length_nil]
  omega
end Go.Proofs.YtpffieogkfndaaaGreatDoor

namespace Go.Proofs.YtpffieogkfndaaaGreatDoor
open Go.RowKit
set_option maxRecDepth 20000
set_option linter.unusedVariables false
set_option linter.unusedSimpArgs false
section
variable {α : Type} [Rep α] {w w' : World} {B : Nat} {e t8 : TypeId} {A : Option Addr} {n c : Nat} {ls : List α}
/-- block b is the call's own, a row of t8 that nothing has frozen -/
def OwnU (w : World) (B : Nat) (t8 : TypeId) (b : Nat) : Prop := B ≤ b ∧ ∃ cur, w.heap[b]? = some (.cells cur t8 (0, 0))
theorem OwnU.move {b : Nat} (h : OwnU w B t8 b) (e : w'.heap[b]? = w.heap[b]?) : OwnU w' B t8 b := by
  obtain ⟨h1, cur, h2⟩ := h
  exact ⟨h1, cur, e.trans h2⟩
def OwnY (w : World) (B : Nat) (e t8 : TypeId) (A : Option Addr) (n c : Nat) (ls : List α) : Prop :=
  ∃ xs, Own w B e (Rep.size α) A n c xs ∧ RowC w (fun b => blk A c ≠ some b ∧ OwnU w B t8 b) xs ls
theorem OwnY.nil (w : World) (B : Nat) (e t8 : TypeId) (A : Option Addr) : OwnY w B e t8 A 0 0 ([] : List α) := ⟨[], Own.nil _ _ _ _ _, rfl⟩
theorem OwnY.sl (h : OwnY w B e t8 A n c ls) : SlR w (fun _ => True) A n c ls := by
  obtain ⟨xs, ho, hr⟩ := h
  exact ⟨xs, ho.sl, hr.move fun _ _ _ => ⟨rfl, trivial⟩, fun _ _ _ => trivial⟩
theorem OwnY.lenR (h : OwnY w B e t8 A n c ls) : ls.length = n := h.sl.lenR
theorem OwnY.lt (h : OwnY w B e t8 A n c ls) : ∀ b, blk A c = some b → B ≤ b ∧ b < w.heap.size := by
  obtain ⟨xs, ho, _⟩ := h
  exact fun b hb => Own.lt ho b hb
theorem OwnY.below (h : OwnY w B e t8 A n c ls) (hb : Below w.heap.size w w') : OwnY w' B e t8 A n c ls := by
  obtain ⟨xs, ho, hr⟩ := h
  exact ⟨xs, ho.below hb, hr.move fun b hl hp => ⟨hb.block b hl, hp.1, hp.2.move (hb.block b hl)⟩⟩
theorem OwnY.mono {B' : Nat} (h : OwnY w B e t8 A n c ls) (hB : B' ≤ B) : OwnY w B' e t8 A n c ls := by
  obtain ⟨xs, ho, hr⟩ := h
  exact ⟨xs, ho.mono hB, hr.move fun b _ hp => ⟨rfl, hp.1, Nat.le_trans hB hp.2.1, hp.2.2⟩⟩
/-- another block was written -/
theorem OwnY.grown {g : Nat} {row : Option Nat} (h : OwnY w B e t8 A n c ls) (hg : w.grownBy w' row) (h1 : ∀ b, row = some b → g ≤ b) (h2 : w.heap.size ≤ g) : OwnY w' B e t8 A n c ls := by
  obtain ⟨xs, ho, hr⟩ := h
  refine ⟨xs, ho.grown hg fun b hb q => ?_, hr.move fun b hl hp => ?_⟩
  · have := (ho.lt b hb).2
    have := h1 b q
    omega
  · have e := hg.block b hl fun q => by have := h1 b q.symm; omega
    exact ⟨e, hp.1, hp.2.move e⟩
end
end Go.Proofs.YtpffieogkfndaaaGreatDoor

namespace Go.Proofs.YtpffieogkfndaaaGreatDoor
open Go.RowKit
set_option maxRecDepth 20000
set_option linter.unusedVariables false
set_option linter.unusedSimpArgs false
theorem OwnX.drew {α : Type} [Rep α] {w : World} {B : Nat} {e : TypeId} {A : Option Addr} {n c : Nat} {ls : List α} (h : OwnX w B e A n c ls) : OwnX w.drew B e A n c ls := h.below (below_drew (Below.refl _ _))
theorem infoEnt : (Tryz.prog.info? 69).map (fun i => (i.zero, i.size, i.bytes)) = some (some (.agg #[.slice none 0 0, .int .u64 0, .int .u8 0, .slice none 0 0]), 4, 64) := by kernel_rfl
theorem entRow (w : World) (q : Nat → Prop) (x : EntL) (A3 : Option Addr) (n3 c3 : Nat) (A4 : Option Addr) (n4 c4 : Nat) (s3 : Sl w 1 A3 n3 c3 (bc x.key.user)) (s4 : Sl w 1 A4 n4 c4 (bc x.value))
    (h3 : ∀ b, 0 < n3 → A3.map (·.block) = some b → q b) (h4 : ∀ b, 0 < n4 → A4.map (·.block) = some b → q b) :
    ∃ xs, Sl (w.alloc (.cells #[.slice A3 n3 c3, .int .u64 (x.key.seq.toNat : Int), .int .u8 (x.key.kind.toNat : Int), .slice A4 n4 c4] 69)) 4 (some ⟨w.heap.size, 0, none⟩) 1 1 xs ∧ RowC (w.alloc (.cells #[.slice A3 n3 c3, .int .u64 (x.key.seq.toNat : Int), .int .u8 (x.key.kind.toNat : Int), .slice A4 n4 c4] 69)) q xs [x] := by
  have al := (Below.refl w.heap.size w).alloc (Nat.le_refl _) (.cells #[.slice A3 n3 c3, .int .u64 (x.key.seq.toNat : Int), .int .u8 (x.key.kind.toNat : Int), .slice A4 n4 c4] 69)
  exact ⟨_, ⟨rfl, Nat.le_refl _, by unfold maxLen; omega, fun _ => ⟨w.heap.size, 0, rfl, fun j u hu => by rw [cell_of_row _ _ _ _ _ _ (heap_alloc_new w _)]; simpa [u8v, u64v] using hu⟩⟩, RowC.single ⟨_, _, rfl, ⟨A3, n3, c3, rfl, s3.below (by omega) al, h3⟩, ⟨A4, n4, c4, rfl, s4.below (by omega) al, h4⟩⟩⟩
theorem entRow' {w : World} {q : Nat → Prop} {x : EntL} {s d : Nat} (hs : x.key.seq.toNat = s) (hd : x.key.kind.toNat = d) {A3 : Option Addr} {n3 c3 : Nat} {A4 : Option Addr} {n4 c4 : Nat} (s3 : Sl w 1 A3 n3 c3 (bc x.key.user)) (s4 : Sl w 1 A4 n4 c4 (bc x.value))
    (h3 : ∀ b, 0 < n3 → A3.map (·.block) = some b → q b) (h4 : ∀ b, 0 < n4 → A4.map (·.block) = some b → q b) :
    ∃ xs, Sl (w.alloc (.cells #[.slice A3 n3 c3, .int .u64 (s : Int), .int .u8 (d : Int), .slice A4 n4 c4] 69)) (Rep.size EntL) (some ⟨w.heap.size, 0, none⟩) 1 1 xs ∧ RowC (w.alloc (.cells #[.slice A3 n3 c3, .int .u64 (s : Int), .int .u8 (d : Int), .slice A4 n4 c4] 69)) q xs [x] := by
  subst hs hd
  exact entRow w q x A3 n3 c3 A4 n4 c4 s3 s4 h3 h4
end Go.Proofs.YtpffieogkfndaaaGreatDoor

namespace Go.Proofs.YtpffieogkfndaaaGreatDoor
set_option maxRecDepth 20000
set_option linter.unusedVariables false
set_option linter.unusedSimpArgs false
def bndStep (b : List UInt8 × List UInt8) (s : SpanL) : List UInt8 × List UInt8 := (if b.1.length = 0 ∨ ltL s.lo b.1 = true then s.lo else b.1, if ltL b.2 s.hi = true then s.hi else b.2)
def bndL (l : List EntL) : List UInt8 × List UInt8 := match l.head?, l.getLast? with
  | some a, some z => (a.key.user, z.key.user ++ [0])
  | _, _ => ([], [])
def boundsL (l : List EntL) (sp : List SpanL) : List UInt8 × List UInt8 := sp.foldl bndStep (bndL l)
def rbndStep (b : List UInt8 × List UInt8) (e : EntL) : List UInt8 × List UInt8 := (if b.1.length = 0 ∨ ltL e.key.user b.1 = true then e.key.user else b.1, if ltL b.2 (e.key.user ++ [0]) = true then e.key.user ++ [0] else b.2)
def rboundsL (l : List EntL) (sp : List SpanL) : List UInt8 × List UInt8 := sp.foldl bndStep (l.foldl rbndStep ([], []))
theorem ltL_trans {a b c : List UInt8} (h1 : ltL a b = true) (h2 : ltL b c = true) : ltL a c = true := by
  unfold ltL at *
  exact decide_eq_true (cmp_trans a b c (of_decide_eq_true h1) (of_decide_eq_true h2))
theorem ltL_or (a b : List UInt8) : ltL a b = true ∨ a = b ∨ ltL b a = true := by
  unfold ltL
  rcases cmp_val a b with h | h | h
  · exact .inl (decide_eq_true (by omega))
  · exact .inr (.inl ((cmp_zero a b).1 h))
  · refine .inr (.inr (decide_eq_true ?_))
    have := cmp_swap a b
    omega
/-- not above -/
def leL (a b : List UInt8) : Prop := ltL b a = false
theorem leL_refl (a : List UInt8) : leL a a := ltL_self a
theorem leL_trans {a b c : List UInt8} (h1 : leL a b) (h2 : leL b c) : leL a c := by
  unfold leL at *
  by_cases h : ltL c a = true
  · rcases ltL_or b a with q | q | q
    · rw [q] at h1; cases h1
    · subst q; rw [h] at h2; cases h2
    · rw [ltL_trans h q] at h2; cases h2
  · simpa using h
theorem leL_of_lt {a b : List UInt8} (h : ltL a b = true) : leL a b := ltL_swap h
theorem lt_of_le_lt {a b c : List UInt8} (h1 : leL a b) (h2 : ltL b c = true) : ltL a c = true := by
  rcases ltL_or a c with q | q | q
  · exact q
  · subst q; unfold leL at h1; rw [h2] at h1; cases h1
  · have := ltL_trans h2 q
    unfold leL at h1; rw [this] at h1; cases h1
theorem lt_after (a : List UInt8) : ltL a (a ++ [0]) = true := by unfold ltL; rw [after_lt]; rfl
theorem nil_min (a : List UInt8) : leL [] a := by
  unfold leL ltL
  cases a <;> rfl
/-- of rising entries each user lies no lower than the one ahead -/
theorem rises_le : ∀ (l : List EntL), risesL l = true → ∀ (i j : Nat) (hi : i < l.length) (hj : j < l.length), i ≤ j → leL l[i].key.user l[j].key.user := by
  intro l h
  rw [risesL_iff] at h
  have step : ∀ (k : Nat) (hk : k + 1 < l.length), leL l[k].key.user l[k + 1].key.user := fun k hk => by
    have h1 := h k hk
    unfold lessKey at h1
    rcases ltL_or l[k].key.user l[k + 1].key.user with q | q | q
    · exact leL_of_lt q
    · rw [q]; exact leL_refl _
    · exfalso
      have q1 := ltL_swap q
      have q2 : (l[k].key.user == l[k + 1].key.user) = false := by
        rw [beq_eq_false_iff_ne]
        intro e
        rw [e, ltL_self] at q
        cases q
      simp [q1, q2] at h1
  intro i j hi hj hij
  induction j with
  | zero => obtain rfl : i = 0 := by omega
            exact leL_refl _
  | succ j ih =>
    rcases Nat.eq_or_lt_of_le hij with q | q
    · subst q; exact leL_refl _
    · exact leL_trans (ih (by omega) (by omega)) (step j hj)
/-- the document's bounds are these -/
theorem rbnd_eq {l : List EntL} (h : risesL l = true) (hu : ∀ e ∈ l, 1 ≤ e.key.user.length) : l.foldl rbndStep ([], []) = bndL l := by
  rcases Nat.eq_zero_or_pos l.length with q | q
  · obtain rfl := List.length_eq_zero_iff.1 q
    rfl
  have step : ∀ (j : Nat) (hj : j < l.length), (l.take (j + 1)).foldl rbndStep ([], []) = (l[0].key.user, l[j].key.user ++ [0]) := by
    intro j
    induction j with
    | zero =>
      intro hj
      rw [take_snoc l 0 hj]
      have e1 : ltL [] (l[0].key.user ++ [0]) = true := lt_of_le_lt (nil_min l[0].key.user) (lt_after _)
      simp [rbndStep, e1]
    | succ j ih =>
      intro hj
      rw [take_snoc l (j + 1) hj, List.foldl_append, ih (by omega)]
      simp only [List.foldl_cons, List.foldl_nil, rbndStep]
      have h0 := hu l[0] (List.getElem_mem q)
      have h1 : ltL l[j + 1].key.user l[0].key.user = false := rises_le l h 0 (j + 1) q hj (by omega)
      rw [if_neg (by rw [h1]; simp; intro e; rw [e] at h0; simp at h0)]
      have h2 : leL l[j].key.user l[j + 1].key.user := rises_le l h j (j + 1) (by omega) hj (by omega)
      rcases ltL_or l[j].key.user l[j + 1].key.user with g | g | g
      · have h3 : leL (l[j].key.user ++ [0]) l[j + 1].key.user := by
          unfold leL ltL
          unfold ltL at g
          exact decide_eq_false (after_next _ _ (of_decide_eq_true g))
        rw [if_pos (lt_of_le_lt h3 (lt_after _))]
      · rw [g, ltL_self]
        simp
      · unfold leL at h2; rw [g] at h2; cases h2
  have h1 := step (l.length - 1) (by omega)
  rw [List.take_of_length_le (by omega)] at h1
  rw [h1]
  have e1 : l.head? = some l[0] := by rw [List.head?_eq_getElem?, List.getElem?_eq_getElem q]
  have e2 : l.getLast? = some l[l.length - 1] := by rw [List.getLast?_eq_getElem?, List.getElem?_eq_getElem (by omega)]
  unfold bndL
  rw [e1, e2]
theorem rbounds_eq {l : List EntL} {sp : List SpanL} (hc : checkTabL l sp = 0) : rboundsL l sp = boundsL l sp := by
  obtain ⟨c1, c2, c3, c4, c5, c6⟩ := checkTab_zero hc
  unfold rboundsL boundsL
  rw [rbnd_eq c5 fun e he => (checkKey_bounds (c4 e he).1).2.1]
end Go.Proofs.YtpffieogkfndaaaGreatDoor
