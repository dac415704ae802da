/-
  The map that a batch makes, plain: what an op makes of it, what a key has in it; the last op that is of a key tells it. No program stands here. No condition.
-/
import Derived.Test.YtfonincdhjkacaaBatchPlain
namespace Go.Proofs.Ytfonincdhjkacaa
set_option maxRecDepth 20000
open Go.RowKit

/-- what a map is behind an op -/
def applyGo (o : OpL) : Bool → List PairL → List PairL
  | done, [] => if done then [] else [⟨o.key, o.value⟩]
  | done, x :: m => (if !done && ltL o.key x.key then [⟨o.key, o.value⟩] else []) ++ (if coversL o x.key then [] else [x]) ++ applyGo o (done || ltL o.key x.key) m
def applyL (m : List PairL) (o : OpL) : List PairL := applyGo o (!decide (o.kind.toNat = 2)) m
def applyAllL (m : List PairL) (l : List OpL) : List PairL := l.foldl applyL m
def getL (m : List PairL) (key : List UInt8) : Option (List UInt8) := (m.find? (·.key == key)).map (·.value)

theorem getL_cons (x : PairL) (m : List PairL) (key : List UInt8) : getL (x :: m) key = if x.key == key then some x.value else getL m key := by
  unfold getL
  rw [List.find?_cons]
  split <;> simp_all
theorem covers_put {o : OpL} (h : o.kind.toNat = 2) (key : List UInt8) : coversL o key = (o.key == key) := by
  unfold coversL
  rw [if_neg (by omega)]
/-- what a key has in the map behind an op that has been laid -/
theorem get_done (o : OpL) (key : List UInt8) : ∀ m : List PairL, getL (applyGo o true m) key = if coversL o key then none else getL m key
  | [] => by simp [applyGo, getL]
  | x :: m => by
    have ih := get_done o key m
    simp only [applyGo, Bool.not_true, Bool.false_and, Bool.false_eq_true, if_false, List.nil_append, Bool.true_or]
    cases hc : coversL o x.key
    · simp only [Bool.false_eq_true, if_false, List.cons_append, List.nil_append]
      rw [getL_cons, getL_cons, ih]
      by_cases hk : x.key = key
      · subst hk
        simp [hc]
      · simp [hk]
    · simp only [if_true, List.nil_append]
      rw [ih, getL_cons]
      by_cases hk : x.key = key
      · subst hk
        simp [hc]
      · simp [hk]
theorem get_put (o : OpL) (ho : o.kind.toNat = 2) (key : List UInt8) : ∀ m : List PairL, getL (applyGo o false m) key = if o.key == key then some o.value else getL m key
  | [] => by
    simp only [applyGo, Bool.false_eq_true, if_false]
    rw [getL_cons]
  | x :: m => by
    have ih := get_put o ho key m
    simp only [applyGo, Bool.not_false, Bool.true_and, Bool.false_or]
    cases hl : ltL o.key x.key
    · simp only [Bool.false_eq_true, if_false, List.nil_append]
      rw [covers_put ho]
      by_cases hk : o.key = x.key
      · simp only [hk, beq_self_eq_true, if_true, List.nil_append]
        rw [ih, getL_cons, hk]
        split <;> rfl
      · rw [if_neg (by simpa using hk), List.cons_append, List.nil_append, getL_cons, getL_cons, ih]
        by_cases hx : x.key = key
        · subst hx
          simp [hk]
        · simp [hx]
    · simp only [if_true, List.cons_append, List.nil_append]
      rw [getL_cons]
      have hd := get_done o key m
      rw [covers_put ho] at hd
      rw [covers_put ho]
      by_cases hk : o.key = key
      · simp [hk]
      · have hk' : (o.key == key) = false := by simpa using hk
        rw [hk'] at hd ⊢
        simp only [Bool.false_eq_true, if_false] at hd ⊢
        by_cases hx : o.key = x.key
        · simp only [hx, beq_self_eq_true, if_true, List.nil_append]
          rw [hd, getL_cons, if_neg]
          rw [← hx]
          simpa using hk
        · rw [if_neg (by simpa using hx), List.cons_append, List.nil_append, getL_cons, getL_cons, hd]
theorem get_apply (m : List PairL) (o : OpL) (key : List UInt8) : getL (applyL m o) key = if coversL o key then (if o.kind.toNat = 2 then some o.value else none) else getL m key := by
  unfold applyL
  by_cases ho : o.kind.toNat = 2
  · simp only [ho, decide_true, Bool.not_true, if_true]
    rw [get_put o ho, covers_put ho]
  · simp only [ho, decide_false, Bool.not_false, if_false]
    exact get_done o key m
theorem over_snoc (l : List OpL) (o : OpL) (key : List UInt8) : overL (l ++ [o]) key = if coversL o key then some o else overL l key := by
  unfold overL
  rw [List.reverse_append, List.reverse_singleton, List.singleton_append, List.find?_cons]
  split <;> simp_all
theorem applyAll_snoc (m : List PairL) (l : List OpL) (o : OpL) : applyAllL m (l ++ [o]) = applyL (applyAllL m l) o := by
  unfold applyAllL
  rw [List.foldl_append]
  rfl
theorem applyAll_append (m : List PairL) (a b : List OpL) : applyAllL m (a ++ b) = applyAllL (applyAllL m a) b := by
  unfold applyAllL
  rw [List.foldl_append]
/-- THE LAST OP OF A KEY TELLS WHAT ALL OF THEM MAKE OF IT -/
theorem get_over (l : List OpL) (key : List UInt8) : getL (applyAllL [] l) key = match overL l key with | none => none | some o => if o.kind.toNat = 2 then some o.value else none := by
  have h : ∀ n : Nat, n ≤ l.length → getL (applyAllL [] (l.take n)) key = match overL (l.take n) key with | none => none | some o => if o.kind.toNat = 2 then some o.value else none := by
    intro n
    induction n with
    | zero => intro _; rfl
    | succ n ih =>
      intro hn
      have ih := ih (by omega)
      rw [List.take_succ_eq_append_getElem (by omega), applyAll_snoc, over_snoc, get_apply, ih]
      cases coversL l[n] key <;> simp
  have := h l.length (Nat.le_refl _)
  rw [List.take_length] at this
  exact this
theorem over_some (l : List OpL) (key : List UInt8) : (overL l key).isSome = l.any (coversL · key) := by
  unfold overL
  rw [Bool.eq_iff_iff, List.find?_isSome]
  simp
theorem over_covers {l : List OpL} {key : List UInt8} {o : OpL} (h : overL l key = some o) : coversL o key = true ∧ o ∈ l := by
  unfold overL at h
  have h1 := List.find?_some h
  have h2 := List.mem_of_find?_eq_some h
  exact ⟨h1, by simpa using h2⟩
theorem size_append (a b : List OpL) : sizeOpsL (a ++ b) = sizeOpsL a + sizeOpsL b := by
  unfold sizeOpsL
  rw [List.map_append, List.sum_append]
/-- how long a map may grow -/
theorem applyGo_len (o : OpL) : ∀ (done : Bool) (m : List PairL), (applyGo o done m).length ≤ m.length + (if done then 0 else 1)
  | done, [] => by cases done <;> simp [applyGo]
  | done, x :: m => by
    have ih := applyGo_len o (done || ltL o.key x.key) m
    simp only [applyGo]
    cases done <;> cases hl : ltL o.key x.key <;> cases hc : coversL o x.key <;> simp [hl] at ih ⊢ <;> omega
theorem apply_len (m : List PairL) (o : OpL) : (applyL m o).length ≤ m.length + 1 := by
  have := applyGo_len o (!decide (o.kind.toNat = 2)) m
  unfold applyL
  split at this <;> omega
theorem applyAll_len (l : List OpL) : ∀ m : List PairL, (applyAllL m l).length ≤ m.length + l.length := by
  induction l with
  | nil => intro m; simp [applyAllL]
  | cons o l ih =>
    intro m
    have h1 := ih (applyL m o)
    have h2 := apply_len m o
    simp only [applyAllL, List.foldl_cons, List.length_cons] at *
    omega
end Go.Proofs.Ytfonincdhjkacaa
