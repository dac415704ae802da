/-
  SealAwake, LeafSort, TabBounds, TabGet, KeyReadW, SealApartPlain, SealLaws1 in one text. No condition but sizes.
-/
import Derived.Test.YtpffieogkfndaaaGreatDoorJBatchReadW
import Derived.Lib.SlBytesConst
import Derived.Test.YtpffieogkfndaaaGreatDoorJRowsZ
import Derived.Test.YtpffieogkfndaaaGreatDoorJKeyAfterW
import Derived.Test.YtpffieogkfndaaaGreatDoorJHeldF
namespace Go.Proofs.YtpffieogkfndaaaGreatDoor
set_option maxRecDepth 20000
set_option linter.unusedVariables false
set_option linter.unusedSimpArgs false
open Go.RowKit
def s9 : List UInt8 := [49, 50, 51, 52, 53, 54, 55, 56, 57]
end Go.Proofs.YtpffieogkfndaaaGreatDoor

namespace Go.Proofs.YtpffieogkfndaaaGreatDoor
open Go.RowKit
set_option maxRecDepth 20000
set_option linter.unusedVariables false
set_option linter.unusedSimpArgs false

theorem less_iff (a b : KeyL) : lessKey a b = true ↔ cmpKey a b < 0 := by rw [← cmpKey_less]; simp
theorem less_trans {a b c : KeyL} (h1 : lessKey a b = true) (h2 : lessKey b c = true) : lessKey a c = true := by
  rw [less_iff] at *
  exact cmpKey_trans _ _ _ h1 h2
/-- whatever isn't ahead, nor the same, stands behind -/
theorem less_conn {a b : KeyL} (h1 : lessKey a b = false) (h2 : a ≠ b) : lessKey b a = true := by
  have h3 := cmpKey_val a b
  have h4 := cmpKey_zero a b
  have h5 := less_iff a b
  rw [h1] at h5
  simp at h5
  rw [less_iff, cmpKey_swap a b]
  have : cmpKey a b ≠ 0 := fun e => h2 (h4.1 e)
  omega
def Rises (l : List EntL) : Prop := l.Pairwise fun a b => lessKey a.key b.key = true
theorem rises_pair : ∀ l : List EntL, risesL l = true ↔ Rises l
  | [] => by simp [risesL, Rises]
  | [a] => by simp [risesL, Rises]
  | a :: b :: l => by
    have ih := rises_pair (b :: l)
    simp only [risesL, Bool.and_eq_true]
    rw [ih]
    unfold Rises
    rw [List.pairwise_cons (a := a)]
    constructor
    · rintro ⟨h1, h2⟩
      refine ⟨fun x hx => ?_, h2⟩
      rcases List.mem_cons.1 hx with rfl | hx
      · exact h1
      · exact less_trans h1 ((List.pairwise_cons.1 h2).1 x hx)
    · rintro ⟨h1, h2⟩
      exact ⟨h1 b (by simp), h2⟩
/-- the first that isn't ahead of k; the last that is -/
def fromL (l : List EntL) (k : KeyL) : Option EntL := l.find? fun x => !lessKey x.key k
def beforeL (l : List EntL) (k : KeyL) : Option EntL := (l.filter fun x => lessKey x.key k).getLast?
def aheadN (l : List EntL) (k : KeyL) : Nat := (l.filter fun x => lessKey x.key k).length
theorem place_split {l m : List EntL} {k : KeyL} (h1 : ∀ x ∈ l, lessKey x.key k = true) (h2 : ∀ x ∈ m, lessKey x.key k = false) :
    aheadN (l ++ m) k = l.length ∧ fromL (l ++ m) k = m.head? ∧ beforeL (l ++ m) k = l.getLast? := by
  have f1 : l.filter (fun x => lessKey x.key k) = l := List.filter_eq_self.2 h1
  have f2 : m.filter (fun x => lessKey x.key k) = [] := by
    rw [List.filter_eq_nil_iff]
    intro x hx
    rw [h2 x hx]
    simp
  refine ⟨?_, ?_, ?_⟩
  · unfold aheadN
    rw [List.filter_append, f1, f2, List.append_nil]
  · unfold fromL
    rw [List.find?_append]
    have e1 : l.find? (fun x => !lessKey x.key k) = none := by
      rw [List.find?_eq_none]
      intro x hx
      rw [h1 x hx]
      simp
    rw [e1]
    cases m with
    | nil => rfl
    | cons a m =>
      simp only [Option.none_or, List.head?_cons]
      rw [List.find?_cons, h2 a (by simp)]
      rfl
  · unfold beforeL
    rw [List.filter_append, f1, f2, List.append_nil]
/-- in order: what stands ahead of a place stands ahead, what stands behind stands behind -/
theorem rises_split {l : List EntL} (hr : Rises l) (k : KeyL) (i : Nat) (hi : i ≤ l.length) (h1 : ∀ x, 0 < i → l[i - 1]? = some x → lessKey x.key k = true) (h2 : ∀ x, l[i]? = some x → lessKey x.key k = false) :
    aheadN l k = i ∧ fromL l k = l[i]? ∧ beforeL l k = if i = 0 then none else l[i - 1]? := by
  have hs : l.take i ++ l.drop i = l := List.take_append_drop i l
  have hp : Rises (l.take i ++ l.drop i) := by rw [hs]; exact hr
  obtain ⟨p1, p2, p3⟩ := List.pairwise_append.1 hp
  have a1 : ∀ x ∈ l.take i, lessKey x.key k = true := by
    intro x hx
    obtain ⟨j, hj, rfl⟩ := List.getElem_of_mem hx
    rw [List.length_take] at hj
    rw [List.getElem_take]
    have hl : i - 1 < l.length := by omega
    have hlast := h1 l[i - 1] (by omega) (List.getElem?_eq_getElem hl)
    by_cases hji : j = i - 1
    · subst hji
      exact hlast
    · exact less_trans (List.pairwise_iff_getElem.1 hr j (i - 1) (by omega) hl (by omega)) hlast
  have a2 : ∀ x ∈ l.drop i, lessKey x.key k = false := by
    intro x hx
    obtain ⟨j, hj, rfl⟩ := List.getElem_of_mem hx
    rw [List.length_drop] at hj
    rw [List.getElem_drop]
    have hl : i < l.length := by omega
    have hfirst := h2 l[i] (List.getElem?_eq_getElem hl)
    by_cases hj0 : j = 0
    · subst hj0
      exact hfirst
    · rcases hc : lessKey l[i + j].key k with _ | _
      · rfl
      · have := less_trans (List.pairwise_iff_getElem.1 hr i (i + j) hl (by omega) (by omega)) hc
        rw [hfirst] at this
        cases this
  have := place_split a1 a2
  rw [hs] at this
  refine ⟨by rw [this.1, List.length_take]; omega, by rw [this.2.1, List.head?_drop], ?_⟩
  rw [this.2.2, List.getLast?_eq_getElem?, List.length_take, Nat.min_eq_left hi]
  split
  · rename_i h0
    subst h0
    simp
  · rw [List.getElem?_take, if_pos (by omega)]
/-- one more, in its place; nothing, if it is there or isn't right -/
def insL (out : List EntL) (e : EntL) : List EntL :=
  if (out.any fun x => decide (x.key = e.key)) = false ∧ checkEntL e = 0 then out.take (aheadN out e.key) ++ (e :: out.drop (aheadN out e.key)) else out
def sortL (l : List EntL) : List EntL := l.foldl insL []
theorem sortL_snoc (l : List EntL) (e : EntL) : sortL (l ++ [e]) = insL (sortL l) e := by simp [sortL]
theorem rises_place {l : List EntL} (hr : Rises l) (k : KeyL) : (∀ x ∈ l.take (aheadN l k), lessKey x.key k = true) ∧ (∀ x ∈ l.drop (aheadN l k), lessKey x.key k = false) := by
  induction l with
  | nil => simp
  | cons a l ih =>
    obtain ⟨h1, h2⟩ := List.pairwise_cons.1 hr
    obtain ⟨i1, i2⟩ := ih h2
    rcases hc : lessKey a.key k with _ | _
    · have hall : ∀ x ∈ l, lessKey x.key k = false := fun x hx => by
        rcases hx2 : lessKey x.key k with _ | _
        · rfl
        · have := less_trans (h1 x hx) hx2
          rw [hc] at this
          cases this
      have h0 : aheadN (a :: l) k = 0 := by
        unfold aheadN
        rw [List.filter_cons, hc]
        simp only [Bool.false_eq_true, if_false, List.length_eq_zero_iff, List.filter_eq_nil_iff]
        intro x hx
        rw [hall x hx]
        simp
      rw [h0]
      refine ⟨by simp, fun x hx => ?_⟩
      rcases List.mem_cons.1 (by simpa using hx) with rfl | hx
      · exact hc
      · exact hall x hx
    · have h0 : aheadN (a :: l) k = aheadN l k + 1 := by
        unfold aheadN
        rw [List.filter_cons, hc]
        rfl
      rw [h0]
      simp only [List.take_succ_cons, List.drop_succ_cons, List.mem_cons, forall_eq_or_imp]
      exact ⟨⟨hc, i1⟩, i2⟩
theorem ins_good {out : List EntL} (e : EntL) (hr : Rises out) (hc : ∀ x ∈ out, checkEntL x = 0) : Rises (insL out e) ∧ (∀ x ∈ insL out e, checkEntL x = 0) ∧ (insL out e).length ≤ out.length + 1 := by
  unfold insL
  split
  · rename_i h
    obtain ⟨h1, h2⟩ := h
    have hs := rises_place hr e.key
    have hn : ∀ x ∈ out, x.key ≠ e.key := fun x hx => by
      have := List.any_eq_false.1 h1 x hx
      simpa using this
    generalize aheadN out e.key = i at *
    have hp : Rises (out.take i ++ out.drop i) := by rw [List.take_append_drop]; exact hr
    obtain ⟨p1, p2, p3⟩ := List.pairwise_append.1 hp
    refine ⟨?_, ?_, ?_⟩
    · refine List.pairwise_append.2 ⟨p1, List.pairwise_cons.2 ⟨fun x hx => ?_, p2⟩, fun x hx y hy => ?_⟩
      · exact less_conn (hs.2 x hx) (hn x (List.mem_of_mem_drop hx))
      · rcases List.mem_cons.1 hy with rfl | hy
        · exact hs.1 x hx
        · exact p3 x hx y hy
    · intro x hx
      rcases List.mem_append.1 hx with hx | hx
      · exact hc x (List.mem_of_mem_take hx)
      · rcases List.mem_cons.1 hx with rfl | hx
        · exact h2
        · exact hc x (List.mem_of_mem_drop hx)
    · simp only [List.length_append, List.length_take, List.length_cons, List.length_drop]
      omega
  · exact ⟨hr, hc, by omega⟩
theorem foldl_good : ∀ (l out : List EntL), Rises out → (∀ x ∈ out, checkEntL x = 0) → Rises (l.foldl insL out) ∧ (∀ x ∈ l.foldl insL out, checkEntL x = 0) ∧ (l.foldl insL out).length ≤ out.length + l.length
  | [], out, h1, h2 => ⟨h1, h2, by simp⟩
  | e :: l, out, h1, h2 => by
    obtain ⟨a, b, c⟩ := ins_good e h1 h2
    obtain ⟨a', b', c'⟩ := foldl_good l (insL out e) a b
    refine ⟨a', b', ?_⟩
    simp only [List.foldl_cons, List.length_cons]
    omega
theorem sortL_good (l : List EntL) : Rises (sortL l) ∧ (∀ x ∈ sortL l, checkEntL x = 0) ∧ (sortL l).length ≤ l.length := by
  have := foldl_good l [] List.Pairwise.nil (by simp)
  simpa [sortL] using this
theorem leaf_len (l : List EntL) (h : checkLeafL l = 0) : (leafBytesL l).length ≤ 40000 ∧ 2 ≤ (leafBytesL l).length := by
  obtain ⟨h1, h2, _⟩ := checkLeaf_zero h
  have hb := leafBody_len l 0 [] h2
  have hs := starts_len l
  unfold leafBytesL
  simp only [List.length_append, twosL_len, hs, twoL, List.length_cons, List.length_nil]
  omega
end Go.Proofs.YtpffieogkfndaaaGreatDoor

namespace Go.Proofs.YtpffieogkfndaaaGreatDoor
set_option maxRecDepth 20000
set_option linter.unusedVariables false
set_option linter.unusedSimpArgs false
def bndStep (b : List UInt8 × List UInt8) (s : SpanL) : List UInt8 × List UInt8 := (if b.1.length = 0 ∨ ltL s.lo b.1 = true then s.lo else b.1, if ltL b.2 s.hi = true then s.hi else b.2)
def bndL (l : List EntL) : List UInt8 × List UInt8 := match l.head?, l.getLast? with
  | some a, some z => (a.key.user, z.key.user ++ [0])
  | _, _ => ([], [])
def boundsL (l : List EntL) (sp : List SpanL) : List UInt8 × List UInt8 := sp.foldl bndStep (bndL l)
theorem ltL_trans {a b c : List UInt8} (h1 : ltL a b = true) (h2 : ltL b c = true) : ltL a c = true := by
  unfold ltL at *
  exact decide_eq_true (cmp_trans a b c (of_decide_eq_true h1) (of_decide_eq_true h2))
theorem ltL_or (a b : List UInt8) : ltL a b = true ∨ a = b ∨ ltL b a = true := by
  unfold ltL
  rcases cmp_val a b with h | h | h
  · exact .inl (decide_eq_true (by omega))
  · exact .inr (.inl ((cmp_zero a b).1 h))
  · refine .inr (.inr (decide_eq_true ?_))
    have := cmp_swap a b
    omega
/-- not above -/
def leL (a b : List UInt8) : Prop := ltL b a = false
theorem leL_refl (a : List UInt8) : leL a a := ltL_self a
theorem leL_trans {a b c : List UInt8} (h1 : leL a b) (h2 : leL b c) : leL a c := by
  unfold leL at *
  by_cases h : ltL c a = true
  · rcases ltL_or b a with q | q | q
    · rw [q] at h1; cases h1
    · subst q; rw [h] at h2; cases h2
    · rw [ltL_trans h q] at h2; cases h2
  · simpa using h
theorem leL_of_lt {a b : List UInt8} (h : ltL a b = true) : leL a b := ltL_swap h
theorem lt_of_le_lt {a b c : List UInt8} (h1 : leL a b) (h2 : ltL b c = true) : ltL a c = true := by
  rcases ltL_or a c with q | q | q
  · exact q
  · subst q; unfold leL at h1; rw [h2] at h1; cases h1
  · have := ltL_trans h2 q
    unfold leL at h1; rw [this] at h1; cases h1
theorem lt_of_lt_le {a b c : List UInt8} (h1 : ltL a b = true) (h2 : leL b c) : ltL a c = true := by
  rcases ltL_or a c with q | q | q
  · exact q
  · subst q; unfold leL at h2; rw [h1] at h2; cases h2
  · have := ltL_trans q h1
    unfold leL at h2; rw [this] at h2; cases h2
theorem lt_after (a : List UInt8) : ltL a (a ++ [0]) = true := by unfold ltL; rw [after_lt]; rfl
/-- what bounds: the first does not lie above, the second lies above -/
def Within (b : List UInt8 × List UInt8) (lo hi : List UInt8) : Prop := leL b.1 lo ∧ leL hi b.2
theorem step_within (b : List UInt8 × List UInt8) (x y : List UInt8) (hb : b.1.length = 0 → b.1 = []) :
    leL (if b.1.length = 0 ∨ ltL x b.1 = true then x else b.1) x ∧ leL y (if ltL b.2 y = true then y else b.2) := by
  constructor
  · split
    · exact leL_refl _
    · rename_i h
      unfold leL
      cases q : ltL x b.1 with
      | false => rfl
      | true => exact absurd (.inr q) h
  · split
    · exact leL_refl _
    · rename_i h
      unfold leL
      simpa using h
theorem step_keeps (b : List UInt8 × List UInt8) (x y lo hi : List UInt8) (h0 : b.1.length ≠ 0) (h : Within b lo hi) :
    leL (if b.1.length = 0 ∨ ltL x b.1 = true then x else b.1) lo ∧ leL hi (if ltL b.2 y = true then y else b.2) := by
  constructor
  · split
    · rename_i q
      rcases q with q | q
      · exact absurd q h0
      · exact leL_trans (leL_of_lt q) h.1
    · exact h.1
  · split
    · rename_i q
      exact leL_trans h.2 (leL_of_lt q)
    · exact h.2
theorem fold_within : ∀ (sp : List SpanL) (b : List UInt8 × List UInt8) (lo hi : List UInt8), (∀ s ∈ sp, 1 ≤ s.lo.length) → ((b.1.length ≠ 0 ∧ Within b lo hi) ∨ ∃ s ∈ sp, s.lo = lo ∧ s.hi = hi) → Within (sp.foldl bndStep b) lo hi
  | [], b, lo, hi, _, h => by
    rcases h with h | ⟨s, hs, _⟩
    · exact h.2
    · cases hs
  | s :: sp, b, lo, hi, h1, h => by
    have hne : (bndStep b s).1.length ≠ 0 := by
      unfold bndStep
      simp only
      split
      · have := h1 s (List.mem_cons_self ..); omega
      · rename_i q; exact fun r => q (.inl r)
    refine fold_within sp (bndStep b s) lo hi (fun x hx => h1 x (List.mem_cons_of_mem _ hx)) ?_
    rcases h with ⟨h0, h⟩ | ⟨x, hx, e1, e2⟩
    · exact .inl ⟨hne, step_keeps b s.lo s.hi lo hi h0 h⟩
    · rcases List.mem_cons.1 hx with rfl | hx
      · subst e1 e2
        exact .inl ⟨hne, step_within b x.lo x.hi fun q => List.length_eq_zero_iff.1 q⟩
      · exact .inr ⟨x, hx, e1, e2⟩
/-- of rising entries each user lies no lower than the one ahead -/
theorem rises_le : ∀ (l : List EntL), risesL l = true → ∀ (i j : Nat) (hi : i < l.length) (hj : j < l.length), i ≤ j → leL l[i].key.user l[j].key.user := by
  intro l h
  rw [risesL_iff] at h
  have step : ∀ (k : Nat) (hk : k + 1 < l.length), leL l[k].key.user l[k + 1].key.user := fun k hk => by
    have h1 := h k hk
    unfold lessKey at h1
    rcases ltL_or l[k].key.user l[k + 1].key.user with q | q | q
    · exact leL_of_lt q
    · rw [q]; exact leL_refl _
    · exfalso
      have q1 := ltL_swap q
      have q2 : (l[k].key.user == l[k + 1].key.user) = false := by
        rw [beq_eq_false_iff_ne]
        intro e
        rw [e, ltL_self] at q
        cases q
      simp [q1, q2] at h1
  intro i j hi hj hij
  induction j with
  | zero => obtain rfl : i = 0 := by omega
            exact leL_refl _
  | succ j ih =>
    rcases Nat.eq_or_lt_of_le hij with q | q
    · subst q; exact leL_refl _
    · exact leL_trans (ih (by omega) (by omega)) (step j hj)
theorem bndL_within (l : List EntL) (h : risesL l = true) (hu : ∀ e ∈ l, 1 ≤ e.key.user.length) (e : EntL) (he : e ∈ l) : (bndL l).1.length ≠ 0 ∧ leL (bndL l).1 e.key.user ∧ ltL e.key.user (bndL l).2 = true := by
  obtain ⟨i, hi, rfl⟩ := List.getElem_of_mem he
  have hl : 0 < l.length := by omega
  have e1 : l.head? = some l[0] := by rw [List.head?_eq_getElem?, List.getElem?_eq_getElem hl]
  have e2 : l.getLast? = some l[l.length - 1] := by rw [List.getLast?_eq_getElem?, List.getElem?_eq_getElem (by omega)]
  unfold bndL
  rw [e1, e2]
  refine ⟨?_, rises_le l h 0 i hl hi (by omega), lt_of_le_lt (rises_le l h i (l.length - 1) hi (by omega) (by omega)) (lt_after _)⟩
  have := hu l[0] (List.getElem_mem hl)
  show l[0].key.user.length ≠ 0
  omega
/-- NO KEY BEYOND THE BOUNDS IS KNOWN -/
theorem bounds_law {l : List EntL} {sp : List SpanL} (hc : checkTabL l sp = 0) {key : List UInt8} (h : (∃ e ∈ l, e.key.user = key) ∨ ∃ s ∈ sp, leL s.lo key ∧ ltL key s.hi = true) : ltL key (boundsL l sp).1 = false ∧ ltL key (boundsL l sp).2 = true := by
  obtain ⟨c1, c2, c3, c4, c5, c6⟩ := checkTab_zero hc
  have hs : ∀ s ∈ sp, 1 ≤ s.lo.length := fun s hs => (checkSpan_zero (c6 s hs)).1
  rcases h with ⟨e, he, rfl⟩ | ⟨s, hs1, h1, h2⟩
  · obtain ⟨g0, g1, g2⟩ := bndL_within l c5 (fun e he => (checkKey_bounds (c4 e he).1).2.1) e he
    have := fold_within sp (bndL l) e.key.user (bndL l).2 hs (.inl ⟨g0, g1, leL_refl _⟩)
    exact ⟨this.1, lt_of_lt_le g2 this.2⟩
  · have := fold_within sp (bndL l) s.lo s.hi hs (.inr ⟨s, hs1, rfl, rfl⟩)
    exact ⟨leL_trans this.1 h1, lt_of_lt_le h2 this.2⟩
end Go.Proofs.YtpffieogkfndaaaGreatDoor

namespace Go.Proofs.YtpffieogkfndaaaGreatDoor
set_option maxRecDepth 20000
set_option linter.unusedVariables false
set_option linter.unusedSimpArgs false
theorem cover_some (key : List UInt8) (seq : Nat) : ∀ (sp : List SpanL) (b : Nat), sp.foldl (covStep key seq) b ≠ 0 → b ≠ 0 ∨ ∃ s ∈ sp, leL s.lo key ∧ ltL key s.hi = true
  | [], b, h => .inl h
  | s :: sp, b, h => by
    rcases cover_some key seq sp (covStep key seq b s) h with q | ⟨x, hx, q⟩
    · unfold covStep at q
      split at q
      · rename_i g
        refine .inr ⟨s, List.mem_cons_self .., ?_⟩
        have := g.2
        unfold coversS at this
        simp only [Bool.and_eq_true, Bool.not_eq_true'] at this
        exact this
      · exact .inl q
    · exact .inr ⟨x, List.mem_cons_of_mem _ hx, q⟩
/-- the leaf where one looks; the entry there -/
def findLeaf (l : List EntL) (at_ : KeyL) : Option Nat := (List.range (leafCount l)).find? fun i => decide (0 ≤ cmpKey (lastKey (chunkL l i)) at_)
def versionL (l : List EntL) (key : List UInt8) (seq : UInt64) : Option EntL :=
  if hasL (buildL 10 (usersL l)) key = true then
    match findLeaf l (uptoKey key seq) with
    | none => none
    | some i => match fromL (chunkL l i) (uptoKey key seq) with
      | none => none
      | some e => if e.key.user = key then some e else none
  else none
def getL (l : List EntL) (sp : List SpanL) (key : List UInt8) (seq : UInt64) : List UInt8 × Nat × Nat :=
  match versionL l key seq with
  | none => if coverL sp key seq.toNat = 0 then ([], 0, 0) else ([], coverL sp key seq.toNat, 2)
  | some e => if e.key.seq.toNat < coverL sp key seq.toNat then ([], coverL sp key seq.toNat, 2) else if e.key.kind.toNat = 1 then ([], e.key.seq.toNat, 2) else (e.value, e.key.seq.toNat, 1)
theorem from_mem {l : List EntL} {k : KeyL} {e : EntL} (h : fromL l k = some e) : e ∈ l := by
  unfold fromL at h
  exact List.mem_of_find?_eq_some h
theorem version_mem {l : List EntL} {key : List UInt8} {seq : UInt64} {e : EntL} (h : versionL l key seq = some e) : e ∈ l ∧ e.key.user = key := by
  unfold versionL at h
  split at h
  · split at h
    · cases h
    · rename_i i _
      split at h
      · cases h
      · rename_i x hx
        split at h
        · rename_i hu
          injection h with h
          subst h
          exact ⟨List.mem_of_mem_drop (List.mem_of_mem_take (from_mem hx)), hu⟩
        · cases h
  · cases h
/-- a key that is known lies within the bounds -/
theorem get_within {l : List EntL} {sp : List SpanL} (hc : checkTabL l sp = 0) {key : List UInt8} {seq : UInt64} (h : (getL l sp key seq).2.2 ≠ 0) : ltL key (boundsL l sp).1 = false ∧ ltL key (boundsL l sp).2 = true := by
  refine bounds_law hc ?_
  unfold getL at h
  split at h
  · split at h
    · exact absurd rfl h
    · rename_i g
      rcases cover_some key seq.toNat sp 0 g with q | q
      · exact absurd rfl q
      · exact .inr q
  · rename_i e he
    obtain ⟨h1, h2⟩ := version_mem he
    exact .inl ⟨e, h1, h2⟩
end Go.Proofs.YtpffieogkfndaaaGreatDoor

namespace Go.Proofs.YtpffieogkfndaaaGreatDoor
open Go.RowKit
set_option maxRecDepth 20000
set_option linter.unusedVariables false
set_option linter.unusedSimpArgs false
theorem leval_drop (l : List UInt8) (j : Nat) (hj : j < l.length) : leval (l.drop j) = leval (l.drop (j + 1)) * 256 + (l[j]).toNat := by
  rw [List.drop_eq_getElem_cons hj]
  rfl
/-- as GotRead; the version's user lies in new memory -/
def GotReadN (w : World) (r : KeyL × List UInt8 × Nat) (e : Ending) (w' : World) : Prop :=
  ∃ (A : Option Addr) (n c : Nat) (B : Option Addr) (m d : Nat), e = .returned (.tuple #[.agg #[.slice A n c, .int .u64 (r.1.seq.toNat : Int), .int .u8 (r.1.kind.toNat : Int)], .slice B m d, .int .i64 (r.2.2 : Int)]) ∧
    Sl w' 1 A n c (bc r.1.user) ∧ Sl w' 1 B m d (bc r.2.1) ∧ Below w.heap.size w w' ∧ ∀ b, 0 < n → A.map (·.block) = some b → w.heap.size ≤ b
set_option maxHeartbeats 8000000 in
theorem kread_new (w : World) (A : Option Addr) (n c : Nat) (p : List UInt8) (h : Sl w 1 A n c (bc p)) (hn : n ≤ 1000000) :
    Calls Tryz.prog 103 #[.slice A n c] w (GotReadN w (keyReadL p)) := by
  have ct := fun (w' : World) (hb : Below w.heap.size w w') => taketext_new w' A n c p (h.below (by omega) hb) (by omega) 64 (by omega)
  have hrl : (takeTextL p 64).2.1.length ≤ 1000000 := by
    have := takeL_len p
    have hl := h.lenb
    unfold takeTextL
    repeat' split
    all_goals simp
    omega
  obtain ⟨res, hres⟩ : ∃ res, keyReadL p = res := ⟨_, rfl⟩
  rw [hres]
  unfold keyReadL at hres
  unfold TookN at ct
  generalize (takeTextL p 64).1 = u at *
  generalize (takeTextL p 64).2.1 = r at *
  generalize (takeTextL p 64).2.2 = q at *
  have Ct := Lib.hid ct
  have Hrl := Lib.hid hrl
  have Hres := Lib.hid hres
  clear ct h hrl hres
  have hk := Bx.fresh w (.slice none 0 0) (.int .u64 0) (.int .u8 0) 67
  have hbA := (Below.refl w.heap.size w).alloc (Nat.le_refl _) (.cells #[.slice none 0 0, .int .u64 0, .int .u8 0] 67)
  go_enter Tryz.func103, Tryz.ntmps103
  go_wp2_with fail
  refine (Ct.out _ hbA).mono ?_
  rintro e w1 ⟨A1, n1, c1, B1, m1, d1, rfl, h1, g1, hb1, N1, _⟩
  have hz0 : (w.alloc (.cells #[.slice none 0 0, .int .u64 0, .int .u8 0] 67)).heap.size = w.heap.size + 1 := by simp
  unfold NewAt at N1
  rw [hz0] at N1
  have N1 := Lib.hid N1
  clear hz0
  have q1 := hbA.trans (hb1.mono hbA.size)
  have hk := hk.below hb1
  clear hbA hb1
  obtain ⟨x0, x1, x2, x3⟩ := id hk
  have hr := g1.lenb
  by_cases hq : q = 0
  · subst hq
    have e1 := Hres.out
    rw [if_neg (by simp), hr] at e1
    by_cases hm : m1 < 8
    · rw [if_pos hm] at e1
      have E1 := Lib.hid e1
      clear e1
      have hm' : decide ((m1 : Int) < 8) = true := by rw [decide_eq_true_eq]; omega
      go_wp2_with fail
      refine bodyPost_ret (v := .tuple #[.agg #[.slice none 0 0, .int .u64 0, .int .u8 0], .slice none 0 0, .int .i64 2]) (by simp [results, Tryz.results103, go_sem, x0, x1, x2]) rfl ?_
      rw [← E1.out]
      refine ⟨none, 0, 0, none, 0, 0, rfl, Sl.nil _ _ _ _ (Nat.zero_le _), Sl.nil _ _ _ _ (Nat.zero_le _), ?_, fun b hn => absurd hn (by omega)⟩
      iterate 3 refine Below.setCell ?_ (by simp) _
      exact q1
    · -- main
      rw [if_neg hm] at e1
      have E1 := Lib.hid e1
      clear e1
      have hm' : decide ((m1 : Int) < 8) = false := by rw [decide_eq_false_iff_not]; omega
      have hcm := g1.capm
      have hcp := g1.cap
      unfold maxLen at hcm
      have Hr := Lib.hid hr
      have Hm := Lib.hid hm
      clear hm hr
      go_wp2
      go_loopw [8, 9] (fun a i wr => ∃ (j v : Nat) (z : Int), z = 7 - (j : Int) ∧ j ≤ 8 ∧ i = .int .i64 z ∧ a = .int .u64 (v : Int) ∧ Hid (v = leval ((r.take 8).drop (8 - j))) ∧ w1 = wr) (fun _ i _ => (intOf i + 1).toNat)
      case atStart => exact ⟨0, 0, 7, by omega, by omega, rfl, rfl, by unfold Hid; rw [List.drop_of_length_le (by simp; omega)]; rfl, rfl⟩
      case round =>
        obtain ⟨j, v, z, hz, hj, rfl, rfl, Hv, rfl⟩ := hrel
        by_cases hj8 : j < 8
        · obtain ⟨t, ht⟩ : ∃ t : Nat, t = 7 - j := ⟨_, rfl⟩
          obtain rfl : z = (t : Int) := by omega
          have htl : t < r.length := by have := Hr.out; have := Hm.out; omega
          obtain ⟨bb, o, x, rfl, hx, hxl, hcell⟩ := g1.byte htl
          have hl8 : (r.take 8).length = 8 := by have := Hr.out; have := Hm.out; rw [List.length_take]; omega
          have hstep := leval_drop (r.take 8) t (by omega)
          rw [List.getElem_take, hx, show t + 1 = 8 - j by omega, ← Hv.out] at hstep
          have hvb : v < 72057594037927936 := by
            rw [Hv.out]
            have h1 := leval_lt ((r.take 8).drop (8 - j))
            have h2 : (256 : Nat) ^ ((r.take 8).drop (8 - j)).length ≤ 256 ^ 7 := Nat.pow_le_pow_right (by omega) (by rw [List.length_drop, hl8]; omega)
            have : (256 : Nat) ^ 7 = 72057594037927936 := rfl
            omega
          have eo : bits .or .u64 ((v : Int) * 256) (x : Int) = ((v * 256 + x : Nat) : Int) := by
            have h1 := u64_or_nat (v * 256) x (by omega) (by omega)
            rw [nat_join 8 _ _ (by omega) (by omega)] at h1
            rw [← h1]
            simp
          have htm : t < m1 := by have := Hr.out; omega
          have Hstep := Lib.hid hstep
          have Ht := Lib.hid ht
          have Hj8 := Lib.hid hj8
          clear hz hj hj8 ht hstep hx htl hl8
          go_wp2
          go_roundw
          case rel => exact ⟨j + 1, v * 256 + x, (t : Int) - 1, by have := Ht.out; have := Hj8.out; omega, by have := Hj8.out; omega, by simp, by go_num, by unfold Hid; rw [← Hstep.out]; congr 2; have := Ht.out; omega, (by first | rfl | trivial)⟩
          case measure => simp [intOf]
        · obtain rfl : j = 8 := by omega
          obtain rfl : z = -1 := by omega
          have hN := Hv.out
          rw [Nat.sub_self, List.drop_zero] at hN
          have e2 := E1.out
          rw [← hN] at e2
          have hvl : v < 18446744073709551616 := by
            rw [hN]
            have h1 := leval_lt (r.take 8)
            have h2 : (256 : Nat) ^ (r.take 8).length ≤ 256 ^ 8 := Nat.pow_le_pow_right (by omega) (by rw [List.length_take]; omega)
            have : (256 : Nat) ^ 8 = 18446744073709551616 := rfl
            omega
          have k1 : (keyOfN u v).seq.toNat = v / 256 := by
            unfold keyOfN
            rw [UInt64.toNat_ofNat']
            exact Nat.mod_eq_of_lt (by omega)
          have k2 : (keyOfN u v).kind.toNat = v % 256 := by unfold keyOfN; simp
          have cc := fun (w' : World) (h : Sl w' 1 A1 n1 c1 (bc u)) => check_any w' A1 n1 c1 (keyOfN u v) h
          rw [k1, k2] at cc
          have E2 := Lib.hid e2
          have K1 := Lib.hid k1
          have K2 := Lib.hid k2
          clear hj8 hz hj hN hvl e2 k1 k2 Hv
          obtain ⟨ks, eks⟩ : ∃ ks : Nat, v / 256 = ks := ⟨_, rfl⟩
          obtain ⟨kd, ekd⟩ : ∃ kd : Nat, v % 256 = kd := ⟨_, rfl⟩
          have f1 : (v : Int) / 256 = (ks : Int) := by omega
          have f2 : (v : Int) % 256 = (kd : Int) := by omega
          rw [eks, ekd] at cc
          have Cc := Lib.hid cc
          have Eks := Lib.hid eks
          have Ekd := Lib.hid ekd
          clear cc eks ekd
          have z1 := hk.lt
          go_wp2_with fail
          refine nameC ?_
          intro w2 eW
          have bl : Below w1.heap.size w1 w2 := by rw [eW]; exact (Below.refl _ _).alloc (Nat.le_refl _) _
          have kB : Bx w2 w1.heap.size (.slice A1 n1 c1) (.int .u64 (ks : Int)) (.int .u8 (kd : Int)) := by rw [eW]; exact Bx.fresh w1 _ _ _ _
          clear eW x0 x1 x2 x3
          have hk := hk.below bl
          have h1 := h1.below (by omega) bl
          have g1 := g1.below (by omega) bl
          have q2 := q1.trans (bl.mono q1.size)
          obtain ⟨gB, egB⟩ : ∃ gB, gB = w1.heap.size := ⟨_, rfl⟩
          rw [← egB] at kB z1 ⊢
          clear egB bl q1
          obtain ⟨cr, hcr⟩ : ∃ cr, checkKey (keyOfN u v) = cr := ⟨_, rfl⟩
          have Hcr := Lib.hid hcr
          have hc1 := Cc.out w2 h1
          rw [hcr] at hc1
          clear hcr
          refine hc1.mono ?_
          rintro e w3 ⟨rfl, hb3⟩
          have hk := hk.below hb3
          have kB := kB.below hb3
          have h1 := h1.below (by omega) hb3
          have g1 := g1.below (by omega) hb3
          have q3 := q2.trans (hb3.mono q2.size)
          clear hb3 q2 hc1
          by_cases hcr : cr = 0
          · subst hcr
            have e3 := E2.out
            rw [if_neg (by rw [Hcr.out]; simp)] at e3
            have E3 := Lib.hid e3
            clear e3
            obtain ⟨B8, hrun, h8, _⟩ := cutL g1 .i64 8 8 rfl (by have := Hm.out; omega)
            have H8 := Lib.hid h8
            clear h8
            go_wp2_with fail
            have hk := hk.drew
            have kB := kB.drew
            have h1 := h1.drew
            have h8 := H8.out.drew
            have q3 := q3.drew
            refine regionS 7 (fun w' => Bx w' gB (.slice A1 n1 c1) (.int .u64 (ks : Int)) (.int .u8 (kd : Int))) (by kernel_rfl) ?_
            try (change AnyS _ _ _ _ _ _ _ _ _ (World.drew _))
            generalize w3.drew = w4 at *
            refine takeS (i := 0) (v := ?_) rfl (by kernel_rfl) (by kernel_rfl) (by kernel_rfl) (by kernel_rfl) (by kernel_rfl) (fun _ _ _ h => h) (Or.inl ⟨by kernel_rfl, ?_⟩) kB ?_
            case refine_2 =>
              intro wS hSw
              obtain ⟨x0, x1, x2, x3⟩ := hSw
              go_simp
              try with_reducible rfl
            try simp only [List.getElem_toArray, List.getElem_cons_succ, List.getElem_cons_zero, Act.put, List.setIfInBounds_toArray, List.set_cons_zero, List.set_cons_succ]
            refine takeS (i := 1) (v := ?_) rfl (by kernel_rfl) (by kernel_rfl) (by kernel_rfl) (by kernel_rfl) (by kernel_rfl) (fun _ _ _ h => h) (Or.inl ⟨by kernel_rfl, ?_⟩) kB ?_
            case refine_2 =>
              intro wS hSw
              clear hSw
              go_simp
              try with_reducible rfl
            try simp only [List.getElem_toArray, List.getElem_cons_succ, List.getElem_cons_zero, Act.put, List.setIfInBounds_toArray, List.set_cons_zero, List.set_cons_succ]
            refine takeS (i := 2) (v := ?_) rfl (by kernel_rfl) (by kernel_rfl) (by kernel_rfl) (by kernel_rfl) (by kernel_rfl) (fun _ _ _ h => h) (Or.inl ⟨by kernel_rfl, ?_⟩) kB ?_
            case refine_2 =>
              intro wS hSw
              clear hSw
              go_simp
              try with_reducible rfl
            try simp only [List.getElem_toArray, List.getElem_cons_succ, List.getElem_cons_zero, Act.put, List.setIfInBounds_toArray, List.set_cons_zero, List.set_cons_succ]
            refine readyS (i := 3) (by kernel_rfl) rfl (fun K hK => ?_)
            go_simp
            refine (clone_any w4 B8 (m1 - 8) (d1 - 8) _ h8 (by have := Hr.out; have := Hrl.out; omega)).mono ?_
            rintro e w5 ⟨A5, n5, c5, rfl, ho5, hb5⟩
            refine hK _ _ (kB.below hb5) ?_
            clear hK K
            have kB := kB.below hb5
            have zk4 := hk.lt
            have hk := hk.below hb5
            have h1 := h1.below (by omega) hb5
            have h5 := ho5.sl
            have z5 := hb5.size
            have zk := hk.lt
            have q5 := q3.trans (hb5.mono q3.size)
            clear hb5 h8
            obtain ⟨x0, x1, x2, x3⟩ := id hk
            refine readyS (i := 4) (by kernel_rfl) rfl (fun K hK => ?_)
            go_simp
            obtain ⟨w6, e6⟩ : ∃ w', w' = ((w5.setCell ⟨w.heap.size, 0, none⟩ (.slice A1 n1 c1)).setCell ⟨w.heap.size, 1, none⟩ (.int .u64 (ks : Int))).setCell ⟨w.heap.size, 2, none⟩ (.int .u8 (kd : Int)) := ⟨_, rfl⟩
            rw [← e6]
            obtain ⟨hk, g6⟩ := hk.set e6
            clear e6 x0 x1 x2 x3
            have kB := kB.grown g6 (by omega)
            refine hK _ _ kB ?_
            clear hK K
            refine takeS (i := 5) (v := ?_) rfl (by kernel_rfl) (by kernel_rfl) (by kernel_rfl) (by kernel_rfl) (by kernel_rfl) (fun _ _ _ h => h) (Or.inl ⟨by kernel_rfl, ?_⟩) kB ?_
            case refine_2 =>
              intro wS hSw
              clear hSw
              go_simp
              try with_reducible rfl
            try simp only [List.getElem_toArray, List.getElem_cons_succ, List.getElem_cons_zero, Act.put, List.setIfInBounds_toArray, List.set_cons_zero, List.set_cons_succ]
            refine takeS (i := 6) (v := ?_) rfl (by kernel_rfl) (by kernel_rfl) (by kernel_rfl) (by kernel_rfl) (by kernel_rfl) (fun _ _ _ h => h) (Or.inl ⟨by kernel_rfl, ?_⟩) kB ?_
            case refine_2 =>
              intro wS hSw
              clear hSw
              go_simp
              try with_reducible rfl
            try simp only [List.getElem_toArray, List.getElem_cons_succ, List.getElem_cons_zero, Act.put, List.setIfInBounds_toArray, List.set_cons_zero, List.set_cons_succ]
            refine doneS (by kernel_rfl) ?_ _
            try simp only [List.getElem_toArray, List.getElem_cons_succ, List.getElem_cons_zero, Act.put, List.setIfInBounds_toArray, List.set_cons_zero, List.set_cons_succ]
            go_wp2_with fail
            obtain ⟨x0, x1, x2, x3⟩ := id hk
            refine bodyPost_ret (v := .tuple #[.agg #[.slice A1 n1 c1, .int .u64 (ks : Int), .int .u8 (kd : Int)], .slice A5 n5 c5, .int .i64 0]) (by simp [results, Tryz.results103, go_sem, x0, x1, x2]) rfl ?_
            rw [← E3.out]
            refine ⟨A1, n1, c1, A5, n5, c5, (by simp only [K1.out, K2.out, Eks.out, Ekd.out] <;> rfl), h1.grown (by omega) g6 (fun hn b e q => by have := N1.out b hn e; simp at q; omega), h5.grown (by omega) g6 (fun hn b e q => by have := own_new (w := w4) ho5 (Nat.le_refl _) b hn e; simp at q; omega), q5.grown g6 q5.size (fun k e => by simp at e; omega), fun b hn e => by have := N1.out b hn e; omega⟩
          · have e3 := E2.out
            rw [if_pos (by rw [Hcr.out]; exact hcr)] at e3
            have E3 := Lib.hid e3
            have hc1 : ((cr : Int) == 0) = false := by rw [beq_eq_false_iff_ne]; omega
            have hc2 : ((cr : Int) != 0) = true := by rw [bne_iff_ne]; omega
            clear e3 hcr
            obtain ⟨x0, x1, x2, x3⟩ := id hk
            go_wp2_with fail
            refine bodyPost_ret (v := .tuple #[.agg #[.slice none 0 0, .int .u64 0, .int .u8 0], .slice none 0 0, .int .i64 4]) (by simp [results, Tryz.results103, go_sem, x0, x1, x2]) rfl ?_
            rw [← E3.out]
            refine ⟨none, 0, 0, none, 0, 0, rfl, Sl.nil _ _ _ _ (Nat.zero_le _), Sl.nil _ _ _ _ (Nat.zero_le _), ?_, fun b hn => absurd hn (by omega)⟩
            iterate 3 refine Below.setCell ?_ (by simp) _
            exact q3
  · have e1 := Hres.out
    rw [if_pos hq] at e1
    have E1 := Lib.hid e1
    clear e1
    have hq1 : ((q : Int) == 0) = false := by rw [beq_eq_false_iff_ne]; omega
    have hq2 : ((q : Int) != 0) = true := by rw [bne_iff_ne]; omega
    clear hq
    go_wp2_with fail
    refine bodyPost_ret (v := .tuple #[.agg #[.slice none 0 0, .int .u64 0, .int .u8 0], .slice none 0 0, .int .i64 (q : Int)]) (by simp [results, Tryz.results103, go_sem, x0, x1, x2]) rfl ?_
    rw [← E1.out]
    refine ⟨none, 0, 0, none, 0, 0, rfl, Sl.nil _ _ _ _ (Nat.zero_le _), Sl.nil _ _ _ _ (Nat.zero_le _), ?_, fun b hn => absurd hn (by omega)⟩
    iterate 3 refine Below.setCell ?_ (by simp) _
    exact q1
end Go.Proofs.YtpffieogkfndaaaGreatDoor

namespace Go.Proofs.YtpffieogkfndaaaGreatDoor
set_option maxRecDepth 20000
set_option linter.unusedVariables false
set_option linter.unusedSimpArgs false

theorem toNat_xor (a b : Bool) : (a ^^ b).toNat = a.toNat ^^^ b.toNat := by cases a <;> cases b <;> rfl
theorem xor_swap (a b c d : Nat) : (a ^^^ b) ^^^ (c ^^^ d) = (a ^^^ c) ^^^ (b ^^^ d) := by
  rw [Nat.xor_assoc, Nat.xor_assoc, ← Nat.xor_assoc b c d, Nat.xor_comm b c, Nat.xor_assoc]
theorem reg_xor (c c' : Nat) (m m' : Nat → Bool) (n : Nat) : reg (c ^^^ c') (fun i => m i ^^ m' i) n = reg c m n ^^^ reg c' m' n := by
  induction n with
  | zero => rfl
  | succ n ih =>
    simp only [reg]
    rw [ih, toNat_xor, xor_swap, step0_xor]
theorem step0_back {v r : Nat} (hr : r < 4294967296) (h : step0 r = v) (hv : v < 2147483648) : r = 2 * v := by
  have hb := testBit_step0 r 31
  rw [h] at hb
  have h1 : v.testBit 31 = false := Nat.testBit_lt_two_pow hv
  have h2 : r.testBit (31 + 1) = false := Nat.testBit_lt_two_pow hr
  have h3 : polyN.testBit 31 = true := by decide
  rw [h1, h2, h3, Nat.testBit_zero] at hb
  have h4 : r % 2 = 0 := by
    have : ¬ r % 2 = 1 := by intro e; rw [e] at hb; simp at hb
    omega
  unfold step0 at h
  rw [h4] at h
  simp at h
  omega
theorem xor_bit_lt {x j : Nat} {b : Bool} {v : Nat} (h : x ^^^ b.toNat = 2 * v) (hv : v < 2 ^ j) : x < 2 ^ (j + 1) ∧ x % 2 = b.toNat := by
  have e : x = 2 * v ^^^ b.toNat := by rw [← h, Nat.xor_assoc, Nat.xor_self, Nat.xor_zero]
  cases b
  · simp at e
    subst e
    rw [Nat.pow_succ]
    simp
    omega
  · have e2 : 2 * v ^^^ true.toNat = 2 * v + 1 := by
      apply Nat.eq_of_testBit_eq
      intro i
      rcases i with _ | i
      · rw [Nat.testBit_xor, Nat.testBit_zero, Nat.testBit_zero, Nat.testBit_zero]
        simp [Nat.add_mod]
      · rw [Nat.testBit_xor, Nat.testBit_succ, Nat.testBit_succ, Nat.testBit_succ]
        have h1 : 2 * v / 2 = v := by omega
        have h2 : (2 * v + 1) / 2 = v := by omega
        rw [h1, h2]
        simp
    rw [e2] at e
    subst e
    rw [Nat.pow_succ]
    simp
    omega
theorem reg_back (d : Nat → Bool) (n : Nat) (h : reg 0 d n = 0) : ∀ j, j ≤ n → j ≤ 32 → reg 0 d (n - j) < 2 ^ j ∧ (0 < j → reg 0 d (n - j) % 2 = (d (n - j)).toNat) := by
  intro j
  induction j with
  | zero => intro _ _; rw [Nat.sub_zero, h]; simp
  | succ j ih =>
    intro h1 h2
    have h3 := (ih (by omega) (by omega)).1
    have e : n - j = (n - (j + 1)) + 1 := by omega
    rw [e] at h3
    simp only [reg] at h3
    have hlt : reg 0 d (n - (j + 1)) ^^^ (d (n - (j + 1))).toNat < 4294967296 :=
      Nat.xor_lt_two_pow (n := 32) (reg_lt (by omega) d _) (by cases d (n - (j + 1)) <;> decide)
    have hj : 2 ^ j ≤ 2147483648 := Nat.pow_le_pow_right (n := 2) (by omega) (show j ≤ 31 by omega)
    have hb := step0_back hlt rfl (Nat.lt_of_lt_of_le h3 hj)
    have := xor_bit_lt hb h3
    exact ⟨this.1, fun _ => this.2⟩
theorem reg_zero (d : Nat → Bool) (f : Nat) (h : ∀ i, i < f → d i = false) : reg 0 d f = 0 := by
  induction f with
  | zero => rfl
  | succ f ih =>
    simp only [reg]
    rw [ih fun i hi => h i (by omega), h f (by omega)]
    rfl
theorem reg_tail (d : Nat → Bool) (a k : Nat) (h : ∀ i, a ≤ i → i < a + k → d i = false) (hz : reg 0 d (a + k) = 0) : reg 0 d a = 0 := by
  induction k with
  | zero => exact hz
  | succ k ih =>
    rw [← Nat.add_assoc] at hz
    simp only [reg] at hz
    rw [h (a + k) (by omega) (by omega)] at hz
    have := step0_back (Nat.xor_lt_two_pow (n := 32) (reg_lt (by omega) d _) (by decide)) hz (by omega)
    simp at this
    exact ih (fun i h1 h2 => h i h1 (by omega)) this
/-- a difference within 32 bits is seen -/
theorem reg_apart (d : Nat → Bool) (n f : Nat) (hf : f < n) (h0 : ∀ i, i < f → d i = false) (h1 : d f = true) (h2 : ∀ i, f + 32 ≤ i → i < n → d i = false) : reg 0 d n ≠ 0 := by
  intro hz
  obtain ⟨L, hL1, hL2, hL3, hz'⟩ : ∃ L, 0 < L ∧ L ≤ 32 ∧ f + L ≤ n ∧ reg 0 d (f + L) = 0 := by
    rcases Nat.lt_or_ge n (f + 32) with h | h
    · exact ⟨n - f, by omega, by omega, by omega, by rw [show f + (n - f) = n by omega]; exact hz⟩
    · refine ⟨32, by omega, by omega, h, reg_tail d (f + 32) (n - (f + 32)) (fun i a b => h2 i a (by omega)) ?_⟩
      rw [show f + 32 + (n - (f + 32)) = n by omega]
      exact hz
  have := (reg_back d (f + L) hz' L (by omega) hL2).2 hL1
  rw [Nat.add_sub_cancel, reg_zero d f h0, h1] at this
  simp at this
/-- TEXTS THAT ARE APART WITHIN 32 BITS HAVE UNLIKE SUMS -/
theorem sum_apart (t u : List UInt8) (hl : u.length = t.length) (f : Nat) (hf : f < 8 * t.length) (h0 : ∀ i, i < f → mbit u i = mbit t i) (h1 : mbit u f ≠ mbit t f) (h2 : ∀ i, f + 32 ≤ i → mbit u i = mbit t i) : sumL u ≠ sumL t := by
  intro e
  have e1 : reg 4294967295 (mbit u) (8 * t.length) = reg 4294967295 (mbit t) (8 * t.length) := by
    have r1 := sum_reg u
    have r2 := sum_reg t
    rw [hl] at r1
    have b1 := reg_lt (c := 4294967295) (by omega) (mbit u) (8 * t.length)
    have b2 := reg_lt (c := 4294967295) (by omega) (mbit t) (8 * t.length)
    omega
  have e2 := reg_xor 4294967295 4294967295 (mbit u) (mbit t) (8 * t.length)
  rw [e1, Nat.xor_self, Nat.xor_self] at e2
  refine reg_apart _ _ f hf (fun i hi => ?_) ?_ (fun i hi _ => ?_) e2
  · rw [h0 i hi]; cases mbit t i <;> rfl
  · revert h1; cases mbit u f <;> cases mbit t f <;> simp
  · rw [h2 i hi]; cases mbit t i <;> rfl

/-- a byte that is another one -/
theorem mbit_set (u : List UInt8) (i : Nat) (x : UInt8) (j : Nat) (h : j / 8 ≠ i) : mbit (u.set i x) j = mbit u j := by
  unfold mbit
  simp only [List.getD_eq_getElem?_getD, List.getElem?_set]
  rw [if_neg (Ne.symm h)]
theorem sum_byte (t : List UInt8) (i : Nat) (x : UInt8) (hi : i < t.length) (hx : x ≠ t[i]) : sumL (t.set i x) ≠ sumL t := by
  have hd : ∃ b, b < 8 ∧ x.toNat.testBit b ≠ t[i].toNat.testBit b := by
    refine Classical.byContradiction fun hn => hx ?_
    apply UInt8.toNat_inj.1
    apply Nat.eq_of_testBit_eq
    intro b
    rcases Nat.lt_or_ge b 8 with hb | hb
    · exact Classical.byContradiction fun h => hn ⟨b, hb, h⟩
    · rw [Nat.testBit_lt_two_pow (Nat.lt_of_lt_of_le x.toNat_lt (Nat.pow_le_pow_right (by omega) hb)), Nat.testBit_lt_two_pow (Nat.lt_of_lt_of_le t[i].toNat_lt (Nat.pow_le_pow_right (by omega) hb))]
  have hfind : ∃ b, (b < 8 ∧ x.toNat.testBit b ≠ t[i].toNat.testBit b) ∧ ∀ a, a < b → ¬ (a < 8 ∧ x.toNat.testBit a ≠ t[i].toNat.testBit a) := by
    obtain ⟨b, hb⟩ := hd
    induction b using Nat.strongRecOn with
    | _ b ih =>
      by_cases h : ∃ a, a < b ∧ (a < 8 ∧ x.toNat.testBit a ≠ t[i].toNat.testBit a)
      · obtain ⟨a, ha, hq⟩ := h
        exact ih a ha hq
      · exact ⟨b, hb, fun a ha hq => h ⟨a, ha, hq⟩⟩
  obtain ⟨b, ⟨hb8, hb⟩, hmin⟩ := hfind
  have hin : ∀ c, c < 8 → mbit (t.set i x) (8 * i + c) = x.toNat.testBit c ∧ mbit t (8 * i + c) = t[i].toNat.testBit c := by
    intro c hc
    unfold mbit
    rw [show (8 * i + c) / 8 = i by omega, show (8 * i + c) % 8 = c by omega]
    simp [List.getD_eq_getElem?_getD, hi]
  have hout : ∀ j, (j < 8 * i ∨ 8 * i + 8 ≤ j) → mbit (t.set i x) j = mbit t j := fun j hj => mbit_set t i x j (by omega)
  refine sum_apart t (t.set i x) (by simp) (8 * i + b) (by omega) (fun j hj => ?_) ?_ (fun j hj => hout j (by omega))
  · rcases Nat.lt_or_ge j (8 * i) with h | h
    · exact hout j (Or.inl h)
    · obtain ⟨c, rfl⟩ : ∃ c, j = 8 * i + c := ⟨j - 8 * i, by omega⟩
      rw [(hin c (by omega)).1, (hin c (by omega)).2]
      exact Classical.byContradiction fun h => hmin c (by omega) ⟨by omega, h⟩
  · rw [(hin b hb8).1, (hin b hb8).2]
    exact hb
end Go.Proofs.YtpffieogkfndaaaGreatDoor

namespace Go.Proofs.YtpffieogkfndaaaGreatDoor
set_option maxRecDepth 20000
set_option linter.unusedVariables false
set_option linter.unusedSimpArgs false
open Go.RowKit

theorem length_closeL (l : List UInt8) : (closeL l).length = l.length + 4 := by simp [closeL, le4]
end Go.Proofs.YtpffieogkfndaaaGreatDoor
