/-
  A region that draws its order, in which a store may come up ahead of a call that stands behind it in the text: behind operation j what it has done to the world (S j) is to be shown, and a load that operation j does not wait for may lean on it. No condition.
-/
import Derived.Test.YtfonincdhjkacaaHeld
namespace Go.Proofs.Ytfonincdhjkacaa
open Go.RowKit
set_option maxRecDepth 20000
section
variable {P : Program} {ops : Array Oper} {Q : Exit → Act → World → Prop} {md : Region.Mode} {S : Nat → World → World → Prop}

def AnyF (P : Program) (md : Region.Mode) (ops : Array Oper) (Q : Exit → Act → World → Prop) (S : Nat → World → World → Prop) : Nat → Array Bool → Act → World → Prop
  | 0, listed, a, w => Region.ready md ops listed = [] ∧ Q .normal a w
  | fuel + 1, listed, a, w =>
    (Region.ready md ops listed = [] → Q .normal a w) ∧
    ∀ j ∈ Region.ready md ops listed, wpOp P ops Q j (fun a' w' => S j w w' ∧ AnyF P md ops Q S fuel (listed.setIfInBounds j true) a' w') a w
theorem any_of_F : ∀ (fuel : Nat) (listed : Array Bool) (a : Act) (w : World), AnyF P md ops Q S fuel listed a w → wpAny P md ops Q fuel listed a w
  | 0, _, _, _, h => h
  | fuel + 1, _, _, _, h => ⟨h.1, fun j hj => wpOp_mono (fun a' w' q => any_of_F fuel _ a' w' q.2) (h.2 j hj)⟩
def waitsB (md : Region.Mode) (ops : Array Oper) (j i : Nat) : Bool := match ops[j]? with
  | some o => o.after.any fun e => Region.binds md e && e.on == i
  | none => false
theorem AnyF_first {i : Nat} {oi : Oper} {v : Value} {Si : World → Prop} (hi : ops[i]? = some oi) (hsel : ∀ (j : Nat) (o : Oper) cs b, ops[j]? = some o → o.op ≠ .select cs b)
    (hQ : ∀ c a w, Q (.panic c) (a.put oi.dst v) w → Q (.panic c) a w) (hS : ∀ j, j < ops.size → waitsB md ops j i = true ∨ j = i ∨ ∀ w w', Si w → S j w w' → Si w') (hSi : ∀ w, S i w w) :
    ∀ (fuel : Nat) (listed : Array Bool) (a : Act) (w : World),
      (∀ j oj, ops[j]? = some oj → j ≠ i → listed.getD j true = false → (∀ e ∈ oj.after, Region.binds md e = true → e.on ≠ i) → oi.apart ops oj = true) →
      i ∈ Region.ready md ops listed → YieldsIf P ops Si oi v a → Si w →
      AnyF P md ops Q S fuel (listed.setIfInBounds i true) (a.put oi.dst v) w → AnyF P md ops Q S (fuel + 1) listed a w
  | fuel, listed, a, w, hfree, hr, hy, h0, H => by
    have hun := (mem_ready.1 hr).1
    refine ⟨fun h => (by rw [h] at hr; cases hr), fun j hj => ?_⟩
    by_cases hji : j = i
    · subst hji
      exact hy.wpOp hi h0 ⟨hSi w, H⟩
    · obtain ⟨hjun, oj, hoj, hall⟩ := mem_ready.1 hj
      have hnot : ∀ e ∈ oj.after, Region.binds md e = true → e.on ≠ i := fun e he hb heq => by
        have h1 := hall e he hb
        rw [heq, unlisted hun] at h1
        cases h1
      have hSj : ∀ w w', Si w → S j w w' → Si w' := by
        rcases hS j (Array.getElem?_eq_some_iff.1 hoj).1 with h | h | h
        · unfold waitsB at h
          rw [hoj] at h
          obtain ⟨e, he, hb⟩ := Array.any_eq_true'.1 h
          simp only [Bool.and_eq_true, beq_iff_eq] at hb
          exact absurd hb.2 (hnot e he hb.1)
        · exact absurd h hji
        · exact h
      match fuel, H with
      | 0, H =>
        have := ready_mono hj hji
        rw [H.1] at this
        cases this
      | fuel + 1, H =>
        have h2 := wpOp_putIf hoj (hfree j oj hoj hji hjun hnot) (fun cs b => hsel i oi cs b hi) (fun cs b => hsel j oj cs b hoj) hQ hy (H.2 j (ready_mono hj hji))
        refine wpOp_mono (fun a' w' h3 => ⟨h3.2.1, ?_⟩) h2
        refine AnyF_first hi hsel hQ hS hSi fuel (listed.setIfInBounds j true) a' w' (fun k ok hk hki hkun hkno => hfree k ok hk hki ?_ hkno) (ready_mono hr (Ne.symm hji)) h3.1 (hSj _ _ h0 h3.2.1) ?_
        · by_cases hjk : j = k
          · subst hjk; exact hjun
          · rw [getD_set_ne true hjk] at hkun
            exact hkun
        · rw [Array.setIfInBounds_comm _ _ hji]
          exact h3.2.2
/-- number i is taken first -/
theorem takeF {i : Nat} {oi : Oper} {v : Value} {fuel : Nat} {listed : Array Bool} {a : Act} {w : World} (Si : World → Prop) (hi : ops[i]? = some oi)
    (hs : Region.noSelect ops = true) (hf : Region.free md ops listed i = true) (hr : (Region.ready md ops listed).contains i = true)
    (hS : ∀ j, j < ops.size → waitsB md ops j i = true ∨ j = i ∨ ∀ w w', Si w → S j w w' → Si w') (hSi : ∀ w, S i w w)
    (hQ : ∀ c a w, Q (.panic c) (a.put oi.dst v) w → Q (.panic c) a w) (hy : YieldsIf P ops Si oi v a) (h0 : Si w)
    (h : AnyF P md ops Q S fuel (listed.setIfInBounds i true) (a.put oi.dst v) w) : AnyF P md ops Q S (fuel + 1) listed a w :=
  AnyF_first hi (Region.noSelect_spec hs) hQ hS hSi fuel listed a w (Region.free_spec hi hf) (by simpa using hr) hy h0 h
def AllF (P : Program) (md : Region.Mode) (ops : Array Oper) (Q : Exit → Act → World → Prop) (S : Nat → World → World → Prop) (fuel : Nat) (listed : Array Bool) (a : Act) (w : World) (rs : List Nat) : Prop :=
  ∀ i ∈ rs, wpOp P ops Q i (fun a' w' => S i w w' ∧ AnyF P md ops Q S fuel (listed.setIfInBounds i true) a' w') a w
theorem AllF.nil {fuel : Nat} {listed : Array Bool} {a : Act} {w : World} : AllF P md ops Q S fuel listed a w [] := fun _ h => by cases h
theorem AllF.cons {fuel : Nat} {listed : Array Bool} {a : Act} {w : World} {i : Nat} {o : Oper} {rs : List Nat} (ho : ops[i]? = some o)
    (h : ∀ K : Act → World → Prop, (∀ a' w', S i w w' → AnyF P md ops Q S fuel (listed.setIfInBounds i true) a' w' → K a' w') → if Region.wanted o (yielded ops a.tmps) = true then Oper.wp P o a w K Q else K (a.put o.dst undef) w)
    (hs : AllF P md ops Q S fuel listed a w rs) : AllF P md ops Q S fuel listed a w (i :: rs) := fun j hj => by
  rcases List.mem_cons.1 hj with rfl | hj
  · exact wpOp_step ho fun K hK => h K fun a w hS hA => hK a w ⟨hS, hA⟩
  · exact hs j hj
theorem readyF {rs : List Nat} {fuel : Nat} {listed : Array Bool} {a : Act} {w : World} (hr : Region.ready md ops listed = rs) (hne : rs ≠ [])
    (h : AllF P md ops Q S fuel listed a w rs) : AnyF P md ops Q S (fuel + 1) listed a w := ⟨fun h0 => absurd (hr ▸ h0) hne, hr ▸ h⟩
theorem doneF {listed : Array Bool} {a : Act} {w : World} (hr : Region.ready md ops listed = []) (h : Q .normal a w) : ∀ fuel, AnyF P md ops Q S fuel listed a w
  | 0 => ⟨hr, h⟩
  | _ + 1 => ⟨fun _ => h, by rw [hr]; simp⟩
theorem regionF (S : Nat → World → World → Prop) {id : Nat} {a : Act} {w : World} (hm : P.follows .mixedOrders = true)
    (h : AnyF P .any ops Q S ops.size (Array.replicate ops.size false) a w.drew) : (Code.region id ops true).wp P Q a w :=
  wp_region_any hm (any_of_F _ _ _ _ h)
theorem nameF {fuel : Nat} {listed : Array Bool} {a : Act} {W : World} (h : ∀ w', w' = W → AnyF P md ops Q S fuel listed a w') : AnyF P md ops Q S fuel listed a W := h W rfl
end
end Go.Proofs.Ytfonincdhjkacaa
