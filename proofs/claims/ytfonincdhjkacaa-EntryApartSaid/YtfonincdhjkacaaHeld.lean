/-
  A region that draws its order, whose last operations (from number m on) wait for all those ahead of them: a load, or anything that yields its value in every world that meets S, may be taken first, and S is to be shown anew behind the first m operations alone. No condition.
-/
import Derived.Test.YtfonincdhjkacaaLib
import Derived.OrdersHeld
import Derived.RegionTactic
import Derived.StillTailTactics
namespace Go.Proofs.Ytfonincdhjkacaa
open Go.RowKit
set_option maxRecDepth 20000
section
variable {P : Program} {ops : Array Oper} {Q : Exit → Act → World → Prop} {md : Region.Mode} {m : Nat} {S : World → Prop}

/-- whatever order is picked from here on; S holds behind each of the first m operations -/
def AnyS (P : Program) (md : Region.Mode) (ops : Array Oper) (Q : Exit → Act → World → Prop) (m : Nat) (S : World → Prop) : Nat → Array Bool → Act → World → Prop
  | 0, listed, a, w => Region.ready md ops listed = [] ∧ Q .normal a w
  | fuel + 1, listed, a, w =>
    (Region.ready md ops listed = [] → Q .normal a w) ∧
    ∀ j ∈ Region.ready md ops listed, wpOp P ops Q j (fun a' w' => (j < m → S w') ∧ AnyS P md ops Q m S fuel (listed.setIfInBounds j true) a' w') a w
theorem any_of_S : ∀ (fuel : Nat) (listed : Array Bool) (a : Act) (w : World), AnyS P md ops Q m S fuel listed a w → wpAny P md ops Q fuel listed a w
  | 0, _, _, _, h => h
  | fuel + 1, _, _, _, h => ⟨h.1, fun j hj => wpOp_mono (fun a' w' q => any_of_S fuel _ a' w' q.2) (h.2 j hj)⟩
/-- every operation from number m on waits for number i -/
def tailWaits (md : Region.Mode) (ops : Array Oper) (m i : Nat) : Bool :=
  (List.range ops.size).all fun t => decide (t < m) || match ops[t]? with
    | some o => o.after.any fun e => Region.binds md e && e.on == i
    | none => true
theorem tailWaits_spec {i : Nat} (h : tailWaits md ops m i = true) {t : Nat} {ot : Oper} (ht : ops[t]? = some ot) (hm : m ≤ t) : ∃ e ∈ ot.after, Region.binds md e = true ∧ e.on = i := by
  have h1 := List.all_eq_true.1 h t (List.mem_range.2 (Array.getElem?_eq_some_iff.1 ht).1)
  rw [ht] at h1
  simp only [Bool.or_eq_true, decide_eq_true_eq] at h1
  rcases h1 with h1 | h1
  · omega
  · obtain ⟨e, he, hb⟩ := Array.any_eq_true'.1 h1
    simp only [Bool.and_eq_true, beq_iff_eq] at hb
    exact ⟨e, he, hb.1, hb.2⟩
theorem unlisted {listed : Array Bool} {i : Nat} (h : listed.getD i true = false) : listed.getD i false = false := by
  rcases Nat.lt_or_ge i listed.size with hl | hl
  · simp [hl] at h ⊢; exact h
  · simp [Array.getElem?_eq_none hl] at h
theorem AnyS_first {i : Nat} {oi : Oper} {v : Value} (hi : ops[i]? = some oi) (hsel : ∀ (j : Nat) (o : Oper) cs b, ops[j]? = some o → o.op ≠ .select cs b)
    (hQ : ∀ c a w, Q (.panic c) (a.put oi.dst v) w → Q (.panic c) a w) (ht : tailWaits md ops m i = true) (him : i < m) :
    ∀ (fuel : Nat) (listed : Array Bool) (a : Act) (w : World),
      (∀ j oj, ops[j]? = some oj → j ≠ i → listed.getD j true = false → (∀ e ∈ oj.after, Region.binds md e = true → e.on ≠ i) → oi.apart ops oj = true) →
      i ∈ Region.ready md ops listed → YieldsIf P ops S oi v a → S w →
      AnyS P md ops Q m S fuel (listed.setIfInBounds i true) (a.put oi.dst v) w → AnyS P md ops Q m S (fuel + 1) listed a w
  | fuel, listed, a, w, hfree, hr, hy, hS, H => by
    have hun := (mem_ready.1 hr).1
    refine ⟨fun h => (by rw [h] at hr; cases hr), fun j hj => ?_⟩
    by_cases hji : j = i
    · subst hji
      exact hy.wpOp hi hS ⟨fun _ => hS, H⟩
    · obtain ⟨hjun, oj, hoj, hall⟩ := mem_ready.1 hj
      have hnot : ∀ e ∈ oj.after, Region.binds md e = true → e.on ≠ i := fun e he hb heq => by
        have h1 := hall e he hb
        rw [heq, unlisted hun] at h1
        cases h1
      have hjm : j < m := by
        rcases Nat.lt_or_ge j m with h | h
        · exact h
        · obtain ⟨e, he, hb, hon⟩ := tailWaits_spec ht hoj h
          exact absurd hon (hnot e he hb)
      match fuel, H with
      | 0, H =>
        have := ready_mono hj hji
        rw [H.1] at this
        cases this
      | fuel + 1, H =>
        have h2 := wpOp_putIf hoj (hfree j oj hoj hji hjun hnot) (fun cs b => hsel i oi cs b hi) (fun cs b => hsel j oj cs b hoj) hQ hy (H.2 j (ready_mono hj hji))
        refine wpOp_mono (fun a' w' h3 => ⟨h3.2.1, ?_⟩) h2
        refine AnyS_first hi hsel hQ ht him fuel (listed.setIfInBounds j true) a' w' (fun k ok hk hki hkun hkno => hfree k ok hk hki ?_ hkno) (ready_mono hr (Ne.symm hji)) h3.1 (h3.2.1 hjm) ?_
        · by_cases hjk : j = k
          · subst hjk; exact hjun
          · rw [getD_set_ne true hjk] at hkun
            exact hkun
        · rw [Array.setIfInBounds_comm _ _ hji]
          exact h3.2.2
/-- number i is taken first -/
theorem takeS {i : Nat} {oi : Oper} {v : Value} {fuel : Nat} {listed : Array Bool} {a : Act} {w : World} (hi : ops[i]? = some oi)
    (hs : Region.noSelect ops = true) (hf : Region.free md ops listed i = true) (hr : (Region.ready md ops listed).contains i = true) (ht : tailWaits md ops m i = true) (him : decide (i < m) = true)
    (hQ : ∀ c a w, Q (.panic c) (a.put oi.dst v) w → Q (.panic c) a w) (hy : YieldsIf P ops S oi v a) (hS : S w)
    (h : AnyS P md ops Q m S fuel (listed.setIfInBounds i true) (a.put oi.dst v) w) : AnyS P md ops Q m S (fuel + 1) listed a w :=
  AnyS_first hi (Region.noSelect_spec hs) hQ ht (of_decide_eq_true him) fuel listed a w (Region.free_spec hi hf) (by simpa using hr) hy hS h
/-- number i alone may come up, and it is one of the first m: behind it S is shown -/
theorem readyS {i : Nat} {o : Oper} {fuel : Nat} {listed : Array Bool} {a : Act} {w : World} (hr : Region.ready md ops listed = [i]) (ho : ops[i]? = some o)
    (h : ∀ K : Act → World → Prop, (∀ a w, S w → AnyS P md ops Q m S fuel (listed.setIfInBounds i true) a w → K a w) → if Region.wanted o (yielded ops a.tmps) = true then Oper.wp P o a w K Q else K (a.put o.dst undef) w) :
    AnyS P md ops Q m S (fuel + 1) listed a w :=
  ⟨fun h0 => (by rw [hr] at h0; cases h0), fun j hj => by
    rw [hr] at hj
    obtain rfl : j = i := by simpa using hj
    exact wpOp_step ho fun K hK => h K fun a w hS hA => hK a w ⟨fun _ => hS, hA⟩⟩
/-- .. and it is one of the last -/
theorem tailS {i : Nat} {o : Oper} {fuel : Nat} {listed : Array Bool} {a : Act} {w : World} (hr : Region.ready md ops listed = [i]) (ho : ops[i]? = some o) (hm : decide (m ≤ i) = true)
    (h : ∀ K : Act → World → Prop, (∀ a w, AnyS P md ops Q m S fuel (listed.setIfInBounds i true) a w → K a w) → if Region.wanted o (yielded ops a.tmps) = true then Oper.wp P o a w K Q else K (a.put o.dst undef) w) :
    AnyS P md ops Q m S (fuel + 1) listed a w :=
  ⟨fun h0 => (by rw [hr] at h0; cases h0), fun j hj => by
    rw [hr] at hj
    obtain rfl : j = i := by simpa using hj
    exact wpOp_step ho fun K hK => h K fun a w hA => hK a w ⟨fun q => by have := of_decide_eq_true hm; omega, hA⟩⟩
theorem doneS {listed : Array Bool} {a : Act} {w : World} (hr : Region.ready md ops listed = []) (h : Q .normal a w) : ∀ fuel, AnyS P md ops Q m S fuel listed a w
  | 0 => ⟨hr, h⟩
  | _ + 1 => ⟨fun _ => h, by rw [hr]; simp⟩
/-- the beginning: from the world behind the draw -/
theorem regionS (m : Nat) (S : World → Prop) {id : Nat} {a : Act} {w : World} (hm : P.follows .mixedOrders = true)
    (h : AnyS P .any ops Q m S ops.size (Array.replicate ops.size false) a w.drew) : (Code.region id ops true).wp P Q a w :=
  wp_region_any hm (any_of_S _ _ _ _ h)
end
/-- a region whose first n operations only read, the last coming in one order: one walk, in the order of the text -/
theorem stillTail {P : Program} {id : Nat} {Q : Exit → Act → World → Prop} {a : Act} {w : World} {l : List Oper} (n : Nat) (hm : P.follows .mixedOrders = true) (hB : Region.lexTailB .any l.toArray n = true)
    (h : wpStill P l.toArray w.drew (fun a' => wpList P l.toArray Q (l.drop n) a' w.drew) (l.take n) a) : (Code.region id l.toArray true).wp P Q a w :=
  wp_region_still_tail n hm hB h
/-- what a variable that the call has boxed holds behind a call that writes new memory alone -/
theorem boxed {w w1 : World} {g : Nat} {cur : Array Value} {e : TypeId} (hb : Below w.heap.size w w1) (hg : w.heap[g]? = some (.cells cur e (0, 0))) :
    (∀ (j : Nat) u, cur[j]? = some u → w1.cell? ⟨g, j, none⟩ = some u) ∧ ∀ j : Nat, w1.frozen? ⟨g, j, none⟩ = false := by
  have hl : g < w.heap.size := (Array.getElem?_eq_some_iff.1 hg).1
  have h1 : w1.heap[g]? = some (.cells cur e (0, 0)) := (hb.block g hl).trans hg
  refine ⟨fun j u hu => ?_, fun j => ?_⟩
  · rw [cell_of_row w1 g j cur e (0, 0) h1]
    exact hu
  · simp [World.frozen?, h1]
theorem stays {w w' : World} (hb : Below w.heap.size w w') {a : Addr} {u : Value} (h : w.cell? a = some u) : w'.cell? a = some u := (hb.cell (World.block_lt_of_cell? _ _ h)).trans h
theorem set_same {w : World} {a : Addr} {u : Value} (h : w.cell? a = some u) (v : Value) : (w.setCell a v).cell? a = some v := World.cell?_setCell_same' w a v (by simp [h])
theorem set_other {w : World} {g j g' j' : Nat} {u : Value} (h : w.cell? ⟨g', j', none⟩ = some u) (v : Value) (hne : g ≠ g' ∨ j ≠ j') : (w.setCell ⟨g, j, none⟩ v).cell? ⟨g', j', none⟩ = some u := by
  rw [World.cell?_setCell_other]
  · exact h
  · intro e
    simp at e
    omega
/-- a cell of a lower block was written -/
theorem own_set {w : World} {B : Nat} {e : TypeId} {size : Nat} {A : Option Addr} {n c : Nat} {xs : List Value} (h : Own w B e size A n c xs) {g j : Nat} (hg : g < B) (v : Value) : Own (w.setCell ⟨g, j, none⟩ v) B e size A n c xs :=
  h.keep fun b hb => Below.heap_setCell w _ v b fun q => by
    have := (h.lt b hb).1
    simp at q
    omega
theorem sl_set {w : World} {size : Nat} {A : Option Addr} {n c : Nat} {xs : List Value} (h : Sl w size A n c xs) {g j : Nat} (hg : ∀ b, A.map (·.block) = some b → b ≠ g) (v : Value) : Sl (w.setCell ⟨g, j, none⟩ v) size A n c xs :=
  h.keep fun _ b hb => Below.heap_setCell w _ v b (hg b hb)
/-- a variable of three cells that was written whole -/
theorem box3 {w w' : World} {g : Nat} {u0 u1 u2 v0 v1 v2 : Value} (e : w' = ((w.setCell ⟨g, 0, none⟩ v0).setCell ⟨g, 1, none⟩ v1).setCell ⟨g, 2, none⟩ v2)
    (x0 : w.cell? ⟨g, 0, none⟩ = some u0) (x1 : w.cell? ⟨g, 1, none⟩ = some u1) (x2 : w.cell? ⟨g, 2, none⟩ = some u2) (x3 : ∀ j : Nat, w.frozen? ⟨g, j, none⟩ = false) :
    w'.cell? ⟨g, 0, none⟩ = some v0 ∧ w'.cell? ⟨g, 1, none⟩ = some v1 ∧ w'.cell? ⟨g, 2, none⟩ = some v2 ∧ (∀ j : Nat, w'.frozen? ⟨g, j, none⟩ = false) ∧ w.grownBy w' (some g) := by
  subst e
  refine ⟨set_other (set_other (set_same x0 _) _ (by omega)) _ (by omega), set_other (set_same (set_other x1 _ (by omega)) _) _ (by omega), set_same (set_other (set_other x2 _ (by omega)) _ (by omega)) _, fun j => ?_, ?_⟩
  · simp [x3]
  · exact only_set (only_set (only_set (World.grownBy.refl _ _) 0 v0) 1 v1) 2 v2
/-- the world of a walk, named -/
theorem nameW {P : Program} {c : Code} {Q : Exit → Act → World → Prop} {a : Act} {W : World} (h : ∀ w', w' = W → c.wp P Q a w') : c.wp P Q a W := h W rfl
theorem nameC {P : Program} {f : FuncId} {args : Array Value} {R : Ending → World → Prop} {W : World} (h : ∀ w', w' = W → Calls P f args w' R) : Calls P f args W R := h W rfl
theorem box1 (w : World) (o : Obj) : (w.alloc o).heap[w.heap.size]? = some o := heap_alloc_new w o
theorem box2 {w : World} {g : Nat} {x : Obj} (o : Obj) (h : w.heap[g]? = some x) : (w.alloc o).heap[g]? = some x := by
  rw [Below.heap_alloc w o g (Array.getElem?_eq_some_iff.1 h).1]
  exact h
/-- a variable of three cells that the call has boxed in block g -/
structure Bx (w : World) (g : Nat) (u0 u1 u2 : Value) : Prop where
  c0 : w.cell? ⟨g, 0, none⟩ = some u0
  c1 : w.cell? ⟨g, 1, none⟩ = some u1
  c2 : w.cell? ⟨g, 2, none⟩ = some u2
  fr : ∀ j : Nat, w.frozen? ⟨g, j, none⟩ = false
theorem Bx.lt {w : World} {g : Nat} {u0 u1 u2 : Value} (h : Bx w g u0 u1 u2) : g < w.heap.size := World.block_lt_of_cell? _ _ h.c0
theorem Bx.below {w w' : World} {g : Nat} {u0 u1 u2 : Value} (h : Bx w g u0 u1 u2) (hb : Below w.heap.size w w') : Bx w' g u0 u1 u2 :=
  ⟨stays hb h.c0, stays hb h.c1, stays hb h.c2, fun j => (hb.frozen (p := ⟨g, j, none⟩) h.lt).trans (h.fr j)⟩
theorem Bx.fresh (w : World) (u0 u1 u2 : Value) (e : TypeId) : Bx (w.alloc (.cells #[u0, u1, u2] e)) w.heap.size u0 u1 u2 := by
  have h := boxed (Below.refl _ _) (box1 w (.cells #[u0, u1, u2] e))
  exact ⟨h.1 0 _ rfl, h.1 1 _ rfl, h.1 2 _ rfl, h.2⟩
theorem Bx.set {w w' : World} {g : Nat} {u0 u1 u2 v0 v1 v2 : Value} (h : Bx w g u0 u1 u2) (e : w' = ((w.setCell ⟨g, 0, none⟩ v0).setCell ⟨g, 1, none⟩ v1).setCell ⟨g, 2, none⟩ v2) : Bx w' g v0 v1 v2 ∧ w.grownBy w' (some g) := by
  obtain ⟨a, b, c, d, f⟩ := box3 e h.c0 h.c1 h.c2 h.fr
  exact ⟨⟨a, b, c, d⟩, f⟩
theorem Bx.drew {w : World} {g : Nat} {u0 u1 u2 : Value} (h : Bx w g u0 u1 u2) : Bx w.drew g u0 u1 u2 := ⟨h.c0, h.c1, h.c2, h.fr⟩
theorem Bx.grown {w w' : World} {g g' : Nat} {u0 u1 u2 : Value} (h : Bx w g u0 u1 u2) (hg : w.grownBy w' (some g')) (hne : g ≠ g') : Bx w' g u0 u1 u2 := by
  have hh : w'.heap[g]? = w.heap[g]? := hg.block g h.lt (by simpa using hne)
  have hc : ∀ j : Nat, w'.cell? ⟨g, j, none⟩ = w.cell? ⟨g, j, none⟩ := fun j => World.cell?_of_block (a := ⟨g, j, none⟩) hh
  exact ⟨(hc 0).trans h.c0, (hc 1).trans h.c1, (hc 2).trans h.c2, fun j => (World.frozen?_of_block (a := ⟨g, j, none⟩) hh).trans (h.fr j)⟩
theorem Bx.grownO {w w' : World} {g : Nat} {row : Option Nat} {u0 u1 u2 : Value} (h : Bx w g u0 u1 u2) (hg : w.grownBy w' row) (hne : row ≠ some g) : Bx w' g u0 u1 u2 := by
  have hh : w'.heap[g]? = w.heap[g]? := hg.block g h.lt (fun e => hne e.symm)
  have hc : ∀ j : Nat, w'.cell? ⟨g, j, none⟩ = w.cell? ⟨g, j, none⟩ := fun j => World.cell?_of_block (a := ⟨g, j, none⟩) hh
  exact ⟨(hc 0).trans h.c0, (hc 1).trans h.c1, (hc 2).trans h.c2, fun j => (World.frozen?_of_block (a := ⟨g, j, none⟩) hh).trans (h.fr j)⟩
theorem still_of {P : Program} {f : FuncId} {args : Array Value} {w : World} {v : Value} (h : Calls P f args w fun e w' => e = .returned v ∧ w = w') : Calls P f args w fun e w' => e = .returned v ∧ w' = w :=
  h.mono fun _ _ ⟨a, b⟩ => ⟨a, b.symm⟩
end Go.Proofs.Ytfonincdhjkacaa
