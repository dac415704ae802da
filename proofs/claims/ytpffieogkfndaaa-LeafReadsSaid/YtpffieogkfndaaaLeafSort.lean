/-
  Entries in order, plain: how they are sorted, which one stands first at a key and which last ahead of it; a leaf's length. No program stands here. No condition.
-/
import Derived.Test.YtpffieogkfndaaaLeafPlain
namespace Go.Proofs.Ytpffieogkfndaaa
open Go.RowKit
set_option maxRecDepth 20000

theorem less_iff (a b : KeyL) : lessKey a b = true ↔ cmpKey a b < 0 := by rw [← cmpKey_less]; simp
theorem less_trans {a b c : KeyL} (h1 : lessKey a b = true) (h2 : lessKey b c = true) : lessKey a c = true := by
  rw [less_iff] at *
  exact cmpKey_trans _ _ _ h1 h2
theorem less_irr (a : KeyL) : lessKey a a = false := by
  have := less_iff a a
  rw [(cmpKey_zero a a).2 rfl] at this
  simpa using this
/-- whatever isn't ahead, nor the same, stands behind -/
theorem less_conn {a b : KeyL} (h1 : lessKey a b = false) (h2 : a ≠ b) : lessKey b a = true := by
  have h3 := cmpKey_val a b
  have h4 := cmpKey_zero a b
  have h5 := less_iff a b
  rw [h1] at h5
  simp at h5
  rw [less_iff, cmpKey_swap a b]
  have : cmpKey a b ≠ 0 := fun e => h2 (h4.1 e)
  omega
def Rises (l : List EntL) : Prop := l.Pairwise fun a b => lessKey a.key b.key = true
theorem rises_pair : ∀ l : List EntL, risesL l = true ↔ Rises l
  | [] => by simp [risesL, Rises]
  | [a] => by simp [risesL, Rises]
  | a :: b :: l => by
    have ih := rises_pair (b :: l)
    simp only [risesL, Bool.and_eq_true]
    rw [ih]
    unfold Rises
    rw [List.pairwise_cons (a := a)]
    constructor
    · rintro ⟨h1, h2⟩
      refine ⟨fun x hx => ?_, h2⟩
      rcases List.mem_cons.1 hx with rfl | hx
      · exact h1
      · exact less_trans h1 ((List.pairwise_cons.1 h2).1 x hx)
    · rintro ⟨h1, h2⟩
      exact ⟨h1 b (by simp), h2⟩
/-- the first that isn't ahead of k; the last that is -/
def fromL (l : List EntL) (k : KeyL) : Option EntL := l.find? fun x => !lessKey x.key k
def beforeL (l : List EntL) (k : KeyL) : Option EntL := (l.filter fun x => lessKey x.key k).getLast?
def aheadN (l : List EntL) (k : KeyL) : Nat := (l.filter fun x => lessKey x.key k).length
theorem place_split {l m : List EntL} {k : KeyL} (h1 : ∀ x ∈ l, lessKey x.key k = true) (h2 : ∀ x ∈ m, lessKey x.key k = false) :
    aheadN (l ++ m) k = l.length ∧ fromL (l ++ m) k = m.head? ∧ beforeL (l ++ m) k = l.getLast? := by
  have f1 : l.filter (fun x => lessKey x.key k) = l := List.filter_eq_self.2 h1
  have f2 : m.filter (fun x => lessKey x.key k) = [] := by
    rw [List.filter_eq_nil_iff]
    intro x hx
    rw [h2 x hx]
    simp
  refine ⟨?_, ?_, ?_⟩
  · unfold aheadN
    rw [List.filter_append, f1, f2, List.append_nil]
  · unfold fromL
    rw [List.find?_append]
    have e1 : l.find? (fun x => !lessKey x.key k) = none := by
      rw [List.find?_eq_none]
      intro x hx
      rw [h1 x hx]
      simp
    rw [e1]
    cases m with
    | nil => rfl
    | cons a m =>
      simp only [Option.none_or, List.head?_cons]
      rw [List.find?_cons, h2 a (by simp)]
      rfl
  · unfold beforeL
    rw [List.filter_append, f1, f2, List.append_nil]
/-- in order: what stands ahead of a place stands ahead, what stands behind stands behind -/
theorem rises_split {l : List EntL} (hr : Rises l) (k : KeyL) (i : Nat) (hi : i ≤ l.length) (h1 : ∀ x, 0 < i → l[i - 1]? = some x → lessKey x.key k = true) (h2 : ∀ x, l[i]? = some x → lessKey x.key k = false) :
    aheadN l k = i ∧ fromL l k = l[i]? ∧ beforeL l k = if i = 0 then none else l[i - 1]? := by
  have hs : l.take i ++ l.drop i = l := List.take_append_drop i l
  have hp : Rises (l.take i ++ l.drop i) := by rw [hs]; exact hr
  obtain ⟨p1, p2, p3⟩ := List.pairwise_append.1 hp
  have a1 : ∀ x ∈ l.take i, lessKey x.key k = true := by
    intro x hx
    obtain ⟨j, hj, rfl⟩ := List.getElem_of_mem hx
    rw [List.length_take] at hj
    rw [List.getElem_take]
    have hl : i - 1 < l.length := by omega
    have hlast := h1 l[i - 1] (by omega) (List.getElem?_eq_getElem hl)
    by_cases hji : j = i - 1
    · subst hji
      exact hlast
    · exact less_trans (List.pairwise_iff_getElem.1 hr j (i - 1) (by omega) hl (by omega)) hlast
  have a2 : ∀ x ∈ l.drop i, lessKey x.key k = false := by
    intro x hx
    obtain ⟨j, hj, rfl⟩ := List.getElem_of_mem hx
    rw [List.length_drop] at hj
    rw [List.getElem_drop]
    have hl : i < l.length := by omega
    have hfirst := h2 l[i] (List.getElem?_eq_getElem hl)
    by_cases hj0 : j = 0
    · subst hj0
      exact hfirst
    · rcases hc : lessKey l[i + j].key k with _ | _
      · rfl
      · have := less_trans (List.pairwise_iff_getElem.1 hr i (i + j) hl (by omega) (by omega)) hc
        rw [hfirst] at this
        cases this
  have := place_split a1 a2
  rw [hs] at this
  refine ⟨by rw [this.1, List.length_take]; omega, by rw [this.2.1, List.head?_drop], ?_⟩
  rw [this.2.2, List.getLast?_eq_getElem?, List.length_take, Nat.min_eq_left hi]
  split
  · rename_i h0
    subst h0
    simp
  · rw [List.getElem?_take, if_pos (by omega)]
/-- one more, in its place; nothing, if it is there or isn't right -/
def insL (out : List EntL) (e : EntL) : List EntL :=
  if (out.any fun x => decide (x.key = e.key)) = false ∧ checkEntL e = 0 then out.take (aheadN out e.key) ++ (e :: out.drop (aheadN out e.key)) else out
def sortL (l : List EntL) : List EntL := l.foldl insL []
theorem sortL_snoc (l : List EntL) (e : EntL) : sortL (l ++ [e]) = insL (sortL l) e := by simp [sortL]
theorem rises_place {l : List EntL} (hr : Rises l) (k : KeyL) : (∀ x ∈ l.take (aheadN l k), lessKey x.key k = true) ∧ (∀ x ∈ l.drop (aheadN l k), lessKey x.key k = false) := by
  induction l with
  | nil => simp
  | cons a l ih =>
    obtain ⟨h1, h2⟩ := List.pairwise_cons.1 hr
    obtain ⟨i1, i2⟩ := ih h2
    rcases hc : lessKey a.key k with _ | _
    · have hall : ∀ x ∈ l, lessKey x.key k = false := fun x hx => by
        rcases hx2 : lessKey x.key k with _ | _
        · rfl
        · have := less_trans (h1 x hx) hx2
          rw [hc] at this
          cases this
      have h0 : aheadN (a :: l) k = 0 := by
        unfold aheadN
        rw [List.filter_cons, hc]
        simp only [Bool.false_eq_true, if_false, List.length_eq_zero_iff, List.filter_eq_nil_iff]
        intro x hx
        rw [hall x hx]
        simp
      rw [h0]
      refine ⟨by simp, fun x hx => ?_⟩
      rcases List.mem_cons.1 (by simpa using hx) with rfl | hx
      · exact hc
      · exact hall x hx
    · have h0 : aheadN (a :: l) k = aheadN l k + 1 := by
        unfold aheadN
        rw [List.filter_cons, hc]
        rfl
      rw [h0]
      simp only [List.take_succ_cons, List.drop_succ_cons, List.mem_cons, forall_eq_or_imp]
      exact ⟨⟨hc, i1⟩, i2⟩
theorem ins_good {out : List EntL} (e : EntL) (hr : Rises out) (hc : ∀ x ∈ out, checkEntL x = 0) : Rises (insL out e) ∧ (∀ x ∈ insL out e, checkEntL x = 0) ∧ (insL out e).length ≤ out.length + 1 := by
  unfold insL
  split
  · rename_i h
    obtain ⟨h1, h2⟩ := h
    have hs := rises_place hr e.key
    have hn : ∀ x ∈ out, x.key ≠ e.key := fun x hx => by
      have := List.any_eq_false.1 h1 x hx
      simpa using this
    generalize aheadN out e.key = i at *
    have hp : Rises (out.take i ++ out.drop i) := by rw [List.take_append_drop]; exact hr
    obtain ⟨p1, p2, p3⟩ := List.pairwise_append.1 hp
    refine ⟨?_, ?_, ?_⟩
    · refine List.pairwise_append.2 ⟨p1, List.pairwise_cons.2 ⟨fun x hx => ?_, p2⟩, fun x hx y hy => ?_⟩
      · exact less_conn (hs.2 x hx) (hn x (List.mem_of_mem_drop hx))
      · rcases List.mem_cons.1 hy with rfl | hy
        · exact hs.1 x hx
        · exact p3 x hx y hy
    · intro x hx
      rcases List.mem_append.1 hx with hx | hx
      · exact hc x (List.mem_of_mem_take hx)
      · rcases List.mem_cons.1 hx with rfl | hx
        · exact h2
        · exact hc x (List.mem_of_mem_drop hx)
    · simp only [List.length_append, List.length_take, List.length_cons, List.length_drop]
      omega
  · exact ⟨hr, hc, by omega⟩
theorem foldl_good : ∀ (l out : List EntL), Rises out → (∀ x ∈ out, checkEntL x = 0) → Rises (l.foldl insL out) ∧ (∀ x ∈ l.foldl insL out, checkEntL x = 0) ∧ (l.foldl insL out).length ≤ out.length + l.length
  | [], out, h1, h2 => ⟨h1, h2, by simp⟩
  | e :: l, out, h1, h2 => by
    obtain ⟨a, b, c⟩ := ins_good e h1 h2
    obtain ⟨a', b', c'⟩ := foldl_good l (insL out e) a b
    refine ⟨a', b', ?_⟩
    simp only [List.foldl_cons, List.length_cons]
    omega
theorem sortL_good (l : List EntL) : Rises (sortL l) ∧ (∀ x ∈ sortL l, checkEntL x = 0) ∧ (sortL l).length ≤ l.length := by
  have := foldl_good l [] List.Pairwise.nil (by simp)
  simpa [sortL] using this
theorem sortL_check (l : List EntL) (h : l.length ≤ 64) : checkLeafL (sortL l) = 0 := by
  obtain ⟨h1, h2, h3⟩ := sortL_good l
  unfold checkLeafL
  rw [if_neg (by omega), if_neg (by simpa using (firstErr_zero checkEntL _).2 h2), if_pos ((rises_pair _).2 h1)]
theorem numL_short {n : Nat} (h : n < 241) : (numL n).length = 1 := by unfold numL; rw [if_pos h]; rfl
theorem numL_mid {n : Nat} (h : n < 2288) : (numL n).length ≤ 2 := by
  unfold numL
  split
  · simp
  · simp
/-- a leaf is never longer than all its entries written out, with a few bytes each -/
def sumE (l : List EntL) : Nat := (l.map fun x => x.key.user.length + 8 + x.value.length + 6).sum
theorem body_small : ∀ (l : List EntL) (i : Nat) (a : List UInt8), (∀ e ∈ l, checkKey e.key = 0 ∧ e.value.length ≤ 512) → (leafBodyL i a l).length + 2 * l.length ≤ sumE l
  | [], _, _, _ => by simp [leafBodyL, sumE]
  | e :: l, i, a, h => by
    have ih := body_small l (i + 1) (fullL e.key) fun x hx => h x (by simp [hx])
    have h1 := h e (by simp)
    have h2 := checkKey_bounds h1.1
    have hf := fullL_len e.key
    have hn := leafN_le i a (fullL e.key)
    have hs : sumE (e :: l) = e.key.user.length + 8 + e.value.length + 6 + sumE l := by simp [sumE]
    simp only [leafBodyL, List.length_append, List.length_cons]
    generalize fullL e.key = f at *
    generalize leafN i a f = n at *
    have l1 := numL_short (n := n) (by omega)
    have l2 := numL_short (n := f.length - n) (by omega)
    have l3 := numL_mid (n := e.value.length) (by omega)
    unfold leafEntL
    simp only [List.length_append, List.length_drop]
    omega
theorem leaf_small (l : List EntL) (h : checkLeafL l = 0) : (leafBytesL l).length ≤ 4 + sumE l := by
  obtain ⟨_, h2, _⟩ := checkLeaf_zero h
  have hb := body_small l 0 [] h2
  have hs := starts_len l
  unfold leafBytesL
  simp only [List.length_append, twosL_len, hs, twoL, List.length_cons, List.length_nil]
  omega
theorem leaf_len (l : List EntL) (h : checkLeafL l = 0) : (leafBytesL l).length ≤ 40000 ∧ 2 ≤ (leafBytesL l).length := by
  obtain ⟨h1, h2, _⟩ := checkLeaf_zero h
  have hb := leafBody_len l 0 [] h2
  have hs := starts_len l
  unfold leafBytesL
  simp only [List.length_append, twosL_len, hs, twoL, List.length_cons, List.length_nil]
  omega
end Go.Proofs.Ytpffieogkfndaaa
