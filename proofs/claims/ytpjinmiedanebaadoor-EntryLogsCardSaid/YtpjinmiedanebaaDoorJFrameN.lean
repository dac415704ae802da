/-
  HeldF, BatchMap, NoteCells, ReelAwake, Same6, ReelBackW, SealLaws1, Laid3, FrameN in one text. No condition but sizes.
-/
import Derived.Test.YtpjinmiedanebaaDoorJOpen
import Derived.Test.YtpjinmiedanebaaDoorJReelWalk
import Derived.Test.YtpjinmiedanebaaDoorJFrame
import Derived.Test.YtpjinmiedanebaaDoorReelRefFrame
import Derived.Test.YtpjinmiedanebaaDoorReelFrame
import Derived.Lib.SlBytesConst
import Derived.Test.YtpjinmiedanebaaDoorJFrameR
import Derived.BigQuiet
import Derived.Test.YtpjinmiedanebaaDoorReelRead
import Derived.LaidSub
import Derived.Lay
namespace Go.Proofs.YtpjinmiedanebaaDoor
open Go.RowKit
set_option maxRecDepth 20000
section
variable {P : Program} {ops : Array Oper} {Q : Exit → Act → World → Prop} {md : Region.Mode} {S : Nat → World → World → Prop}

def AnyF (P : Program) (md : Region.Mode) (ops : Array Oper) (Q : Exit → Act → World → Prop) (S : Nat → World → World → Prop) : Nat → Array Bool → Act → World → Prop
  | 0, listed, a, w => Region.ready md ops listed = [] ∧ Q .normal a w
  | fuel + 1, listed, a, w =>
    (Region.ready md ops listed = [] → Q .normal a w) ∧
    ∀ j ∈ Region.ready md ops listed, wpOp P ops Q j (fun a' w' => S j w w' ∧ AnyF P md ops Q S fuel (listed.setIfInBounds j true) a' w') a w
theorem any_of_F : ∀ (fuel : Nat) (listed : Array Bool) (a : Act) (w : World), AnyF P md ops Q S fuel listed a w → wpAny P md ops Q fuel listed a w
  | 0, _, _, _, h => h
  | fuel + 1, _, _, _, h => ⟨h.1, fun j hj => wpOp_mono (fun a' w' q => any_of_F fuel _ a' w' q.2) (h.2 j hj)⟩
def waitsB (md : Region.Mode) (ops : Array Oper) (j i : Nat) : Bool := match ops[j]? with
  | some o => o.after.any fun e => Region.binds md e && e.on == i
  | none => false
theorem AnyF_first {i : Nat} {oi : Oper} {v : Value} {Si : World → Prop} (hi : ops[i]? = some oi) (hsel : ∀ (j : Nat) (o : Oper) cs b, ops[j]? = some o → o.op ≠ .select cs b)
    (hQ : ∀ c a w, Q (.panic c) (a.put oi.dst v) w → Q (.panic c) a w) (hS : ∀ j, j < ops.size → waitsB md ops j i = true ∨ j = i ∨ ∀ w w', Si w → S j w w' → Si w') (hSi : ∀ w, S i w w) :
    ∀ (fuel : Nat) (listed : Array Bool) (a : Act) (w : World),
      (∀ j oj, ops[j]? = some oj → j ≠ i → listed.getD j true = false → (∀ e ∈ oj.after, Region.binds md e = true → e.on ≠ i) → oi.apart ops oj = true) →
      i ∈ Region.ready md ops listed → YieldsIf P ops Si oi v a → Si w →
      AnyF P md ops Q S fuel (listed.setIfInBounds i true) (a.put oi.dst v) w → AnyF P md ops Q S (fuel + 1) listed a w
  | fuel, listed, a, w, hfree, hr, hy, h0, H => by
    have hun := (mem_ready.1 hr).1
    refine ⟨fun h => (by rw [h] at hr; cases hr), fun j hj => ?_⟩
    by_cases hji : j = i
    · subst hji
      exact hy.wpOp hi h0 ⟨hSi w, H⟩
    · obtain ⟨hjun, oj, hoj, hall⟩ := mem_ready.1 hj
      have hnot : ∀ e ∈ oj.after, Region.binds md e = true → e.on ≠ i := fun e he hb heq => by
        have h1 := hall e he hb
        rw [heq, unlisted hun] at h1
        cases h1
      have hSj : ∀ w w', Si w → S j w w' → Si w' := by
        rcases hS j (Array.getElem?_eq_some_iff.1 hoj).1 with h | h | h
        · unfold waitsB at h
          rw [hoj] at h
          obtain ⟨e, he, hb⟩ := Array.any_eq_true'.1 h
          simp only [Bool.and_eq_true, beq_iff_eq] at hb
          exact absurd hb.2 (hnot e he hb.1)
        · exact absurd h hji
        · exact h
      match fuel, H with
      | 0, H =>
        have := ready_mono hj hji
        rw [H.1] at this
        cases this
      | fuel + 1, H =>
        have h2 := wpOp_putIf hoj (hfree j oj hoj hji hjun hnot) (fun cs b => hsel i oi cs b hi) (fun cs b => hsel j oj cs b hoj) hQ hy (H.2 j (ready_mono hj hji))
        refine wpOp_mono (fun a' w' h3 => ⟨h3.2.1, ?_⟩) h2
        refine AnyF_first hi hsel hQ hS hSi fuel (listed.setIfInBounds j true) a' w' (fun k ok hk hki hkun hkno => hfree k ok hk hki ?_ hkno) (ready_mono hr (Ne.symm hji)) h3.1 (hSj _ _ h0 h3.2.1) ?_
        · by_cases hjk : j = k
          · subst hjk; exact hjun
          · rw [getD_set_ne true hjk] at hkun
            exact hkun
        · rw [Array.setIfInBounds_comm _ _ hji]
          exact h3.2.2
/-- number i is taken first -/
theorem takeF {i : Nat} {oi : Oper} {v : Value} {fuel : Nat} {listed : Array Bool} {a : Act} {w : World} (Si : World → Prop) (hi : ops[i]? = some oi)
    (hs : Region.noSelect ops = true) (hf : Region.free md ops listed i = true) (hr : (Region.ready md ops listed).contains i = true)
    (hS : ∀ j, j < ops.size → waitsB md ops j i = true ∨ j = i ∨ ∀ w w', Si w → S j w w' → Si w') (hSi : ∀ w, S i w w)
    (hQ : ∀ c a w, Q (.panic c) (a.put oi.dst v) w → Q (.panic c) a w) (hy : YieldsIf P ops Si oi v a) (h0 : Si w)
    (h : AnyF P md ops Q S fuel (listed.setIfInBounds i true) (a.put oi.dst v) w) : AnyF P md ops Q S (fuel + 1) listed a w :=
  AnyF_first hi (Region.noSelect_spec hs) hQ hS hSi fuel listed a w (Region.free_spec hi hf) (by simpa using hr) hy h0 h
def AllF (P : Program) (md : Region.Mode) (ops : Array Oper) (Q : Exit → Act → World → Prop) (S : Nat → World → World → Prop) (fuel : Nat) (listed : Array Bool) (a : Act) (w : World) (rs : List Nat) : Prop :=
  ∀ i ∈ rs, wpOp P ops Q i (fun a' w' => S i w w' ∧ AnyF P md ops Q S fuel (listed.setIfInBounds i true) a' w') a w
theorem AllF.nil {fuel : Nat} {listed : Array Bool} {a : Act} {w : World} : AllF P md ops Q S fuel listed a w [] := fun _ h => by cases h
theorem AllF.cons {fuel : Nat} {listed : Array Bool} {a : Act} {w : World} {i : Nat} {o : Oper} {rs : List Nat} (ho : ops[i]? = some o)
    (h : ∀ K : Act → World → Prop, (∀ a' w', S i w w' → AnyF P md ops Q S fuel (listed.setIfInBounds i true) a' w' → K a' w') → if Region.wanted o (yielded ops a.tmps) = true then Oper.wp P o a w K Q else K (a.put o.dst undef) w)
    (hs : AllF P md ops Q S fuel listed a w rs) : AllF P md ops Q S fuel listed a w (i :: rs) := fun j hj => by
  rcases List.mem_cons.1 hj with rfl | hj
  · exact wpOp_step ho fun K hK => h K fun a w hS hA => hK a w ⟨hS, hA⟩
  · exact hs j hj
theorem readyF {rs : List Nat} {fuel : Nat} {listed : Array Bool} {a : Act} {w : World} (hr : Region.ready md ops listed = rs) (hne : rs ≠ [])
    (h : AllF P md ops Q S fuel listed a w rs) : AnyF P md ops Q S (fuel + 1) listed a w := ⟨fun h0 => absurd (hr ▸ h0) hne, hr ▸ h⟩
theorem doneF {listed : Array Bool} {a : Act} {w : World} (hr : Region.ready md ops listed = []) (h : Q .normal a w) : ∀ fuel, AnyF P md ops Q S fuel listed a w
  | 0 => ⟨hr, h⟩
  | _ + 1 => ⟨fun _ => h, by rw [hr]; simp⟩
theorem regionF (S : Nat → World → World → Prop) {id : Nat} {a : Act} {w : World} (hm : P.follows .mixedOrders = true)
    (h : AnyF P .any ops Q S ops.size (Array.replicate ops.size false) a w.drew) : (Code.region id ops true).wp P Q a w :=
  wp_region_any hm (any_of_F _ _ _ _ h)
theorem nameF {fuel : Nat} {listed : Array Bool} {a : Act} {W : World} (h : ∀ w', w' = W → AnyF P md ops Q S fuel listed a w') : AnyF P md ops Q S fuel listed a W := h W rfl
end
end Go.Proofs.YtpjinmiedanebaaDoor

namespace Go.Proofs.YtpjinmiedanebaaDoor
set_option maxRecDepth 20000
open Go.RowKit

/-- what a map is behind an op -/
def applyGo (o : OpL) : Bool → List PairL → List PairL
  | done, [] => if done then [] else [⟨o.key, o.value⟩]
  | done, x :: m => (if !done && ltL o.key x.key then [⟨o.key, o.value⟩] else []) ++ (if coversL o x.key then [] else [x]) ++ applyGo o (done || ltL o.key x.key) m
def applyL (m : List PairL) (o : OpL) : List PairL := applyGo o (!decide (o.kind.toNat = 2)) m
def applyAllL (m : List PairL) (l : List OpL) : List PairL := l.foldl applyL m
def getL (m : List PairL) (key : List UInt8) : Option (List UInt8) := (m.find? (·.key == key)).map (·.value)

theorem getL_cons (x : PairL) (m : List PairL) (key : List UInt8) : getL (x :: m) key = if x.key == key then some x.value else getL m key := by
  unfold getL
  rw [List.find?_cons]
  split <;> simp_all
theorem covers_put {o : OpL} (h : o.kind.toNat = 2) (key : List UInt8) : coversL o key = (o.key == key) := by
  unfold coversL
  rw [if_neg (by omega)]
/-- what a key has in the map behind an op that has been laid -/
theorem get_done (o : OpL) (key : List UInt8) : ∀ m : List PairL, getL (applyGo o true m) key = if coversL o key then none else getL m key
  | [] => by simp [applyGo, getL]
  | x :: m => by
    have ih := get_done o key m
    simp only [applyGo, Bool.not_true, Bool.false_and, Bool.false_eq_true, if_false, List.nil_append, Bool.true_or]
    cases hc : coversL o x.key
    · simp only [Bool.false_eq_true, if_false, List.cons_append, List.nil_append]
      rw [getL_cons, getL_cons, ih]
      by_cases hk : x.key = key
      · subst hk
        simp [hc]
      · simp [hk]
    · simp only [if_true, List.nil_append]
      rw [ih, getL_cons]
      by_cases hk : x.key = key
      · subst hk
        simp [hc]
      · simp [hk]
theorem get_put (o : OpL) (ho : o.kind.toNat = 2) (key : List UInt8) : ∀ m : List PairL, getL (applyGo o false m) key = if o.key == key then some o.value else getL m key
  | [] => by
    simp only [applyGo, Bool.false_eq_true, if_false]
    rw [getL_cons]
  | x :: m => by
    have ih := get_put o ho key m
    simp only [applyGo, Bool.not_false, Bool.true_and, Bool.false_or]
    cases hl : ltL o.key x.key
    · simp only [Bool.false_eq_true, if_false, List.nil_append]
      rw [covers_put ho]
      by_cases hk : o.key = x.key
      · simp only [hk, beq_self_eq_true, if_true, List.nil_append]
        rw [ih, getL_cons, hk]
        split <;> rfl
      · rw [if_neg (by simpa using hk), List.cons_append, List.nil_append, getL_cons, getL_cons, ih]
        by_cases hx : x.key = key
        · subst hx
          simp [hk]
        · simp [hx]
    · simp only [if_true, List.cons_append, List.nil_append]
      rw [getL_cons]
      have hd := get_done o key m
      rw [covers_put ho] at hd
      rw [covers_put ho]
      by_cases hk : o.key = key
      · simp [hk]
      · have hk' : (o.key == key) = false := by simpa using hk
        rw [hk'] at hd ⊢
        simp only [Bool.false_eq_true, if_false] at hd ⊢
        by_cases hx : o.key = x.key
        · simp only [hx, beq_self_eq_true, if_true, List.nil_append]
          rw [hd, getL_cons, if_neg]
          rw [← hx]
          simpa using hk
        · rw [if_neg (by simpa using hx), List.cons_append, List.nil_append, getL_cons, getL_cons, hd]
theorem get_apply (m : List PairL) (o : OpL) (key : List UInt8) : getL (applyL m o) key = if coversL o key then (if o.kind.toNat = 2 then some o.value else none) else getL m key := by
  unfold applyL
  by_cases ho : o.kind.toNat = 2
  · simp only [ho, decide_true, Bool.not_true, if_true]
    rw [get_put o ho, covers_put ho]
  · simp only [ho, decide_false, Bool.not_false, if_false]
    exact get_done o key m
theorem over_snoc (l : List OpL) (o : OpL) (key : List UInt8) : overL (l ++ [o]) key = if coversL o key then some o else overL l key := by
  unfold overL
  rw [List.reverse_append, List.reverse_singleton, List.singleton_append, List.find?_cons]
  split <;> simp_all
theorem applyAll_snoc (m : List PairL) (l : List OpL) (o : OpL) : applyAllL m (l ++ [o]) = applyL (applyAllL m l) o := by
  unfold applyAllL
  rw [List.foldl_append]
  rfl
theorem applyAll_append (m : List PairL) (a b : List OpL) : applyAllL m (a ++ b) = applyAllL (applyAllL m a) b := by
  unfold applyAllL
  rw [List.foldl_append]
/-- THE LAST OP OF A KEY TELLS WHAT ALL OF THEM MAKE OF IT -/
theorem get_over (l : List OpL) (key : List UInt8) : getL (applyAllL [] l) key = match overL l key with | none => none | some o => if o.kind.toNat = 2 then some o.value else none := by
  have h : ∀ n : Nat, n ≤ l.length → getL (applyAllL [] (l.take n)) key = match overL (l.take n) key with | none => none | some o => if o.kind.toNat = 2 then some o.value else none := by
    intro n
    induction n with
    | zero => intro _; rfl
    | succ n ih =>
      intro hn
      have ih := ih (by omega)
      rw [List.take_succ_eq_append_getElem (by omega), applyAll_snoc, over_snoc, get_apply, ih]
      cases coversL l[n] key <;> simp
  have := h l.length (Nat.le_refl _)
  rw [List.take_length] at this
  exact this
theorem over_some (l : List OpL) (key : List UInt8) : (overL l key).isSome = l.any (coversL · key) := by
  unfold overL
  rw [Bool.eq_iff_iff, List.find?_isSome]
  simp
theorem over_covers {l : List OpL} {key : List UInt8} {o : OpL} (h : overL l key = some o) : coversL o key = true ∧ o ∈ l := by
  unfold overL at h
  have h1 := List.find?_some h
  have h2 := List.mem_of_find?_eq_some h
  exact ⟨h1, by simpa using h2⟩
theorem size_append (a b : List OpL) : sizeOpsL (a ++ b) = sizeOpsL a + sizeOpsL b := by
  unfold sizeOpsL
  rw [List.map_append, List.sum_append]
/-- how long a map may grow -/
theorem applyGo_len (o : OpL) : ∀ (done : Bool) (m : List PairL), (applyGo o done m).length ≤ m.length + (if done then 0 else 1)
  | done, [] => by cases done <;> simp [applyGo]
  | done, x :: m => by
    have ih := applyGo_len o (done || ltL o.key x.key) m
    simp only [applyGo]
    cases done <;> cases hl : ltL o.key x.key <;> cases hc : coversL o x.key <;> simp [hl] at ih ⊢ <;> omega
theorem apply_len (m : List PairL) (o : OpL) : (applyL m o).length ≤ m.length + 1 := by
  have := applyGo_len o (!decide (o.kind.toNat = 2)) m
  unfold applyL
  split at this <;> omega
theorem applyAll_len (l : List OpL) : ∀ m : List PairL, (applyAllL m l).length ≤ m.length + l.length := by
  induction l with
  | nil => intro m; simp [applyAllL]
  | cons o l ih =>
    intro m
    have h1 := ih (applyL m o)
    have h2 := apply_len m o
    simp only [applyAllL, List.foldl_cons, List.length_cons] at *
    omega
end Go.Proofs.YtpjinmiedanebaaDoor

namespace Go.Proofs.YtpjinmiedanebaaDoor
open Go.RowKit
set_option maxRecDepth 20000
section
variable {w w' : World} {p : Nat → Prop} {A : Option Addr} {n c : Nat}
theorem SlR.noteAt {ls : List NoteL} (h : SlR w p A n c ls) {k : Nat} (hk : k < n) : ∃ (b o : Nat) (A3 : Option Addr) (n3 c3 : Nat) (A4 : Option Addr) (n4 c4 : Nat) (hl : k < ls.length), A = some ⟨b, o, none⟩ ∧
    w.cell? ⟨b, o + k * 4, none⟩ = some (.int .u8 (ls[k].kind.toNat : Int)) ∧ w.cell? ⟨b, o + k * 4 + 1, none⟩ = some (.int .u64 (ls[k].seq.toNat : Int)) ∧ w.cell? ⟨b, o + k * 4 + 2, none⟩ = some (.slice A3 n3 c3) ∧ w.cell? ⟨b, o + k * 4 + 3, none⟩ = some (.slice A4 n4 c4) ∧
    Sl w 1 A3 n3 c3 (bc ls[k].name) ∧ SlR w p A4 n4 c4 ls[k].ops := by
  obtain ⟨b, o, x, cs, rfl, hx, ⟨v, A4, n4, c4, rfl, hk', hv⟩, hcell⟩ := h.get hk
  obtain ⟨A3, n3, c3, rfl, hs3, _⟩ := hk'
  obtain ⟨hjl, rfl⟩ := List.getElem?_eq_some_iff.1 hx
  exact ⟨b, o, A3, n3, c3, A4, n4, c4, hjl, rfl, hcell 0 _ rfl, hcell 1 _ rfl, hcell 2 _ rfl, hcell 3 _ rfl, hs3, hv⟩
theorem OwnY.slB {B : Nat} {e t8 : TypeId} {ls : List OpL} (h : OwnY w B e t8 A n c ls) : SlR w (fun b => B ≤ b) A n c ls := by
  obtain ⟨xs, ho, hr⟩ := h
  exact ⟨xs, ho.sl, hr.move fun b _ hp => ⟨rfl, hp.2.1⟩, fun b hn e => (ho.lt b (by have := ho.cap; unfold blk; rw [if_neg (by omega)]; exact e)).1⟩
end
def noteV (x : NoteL) (A3 : Option Addr) (n3 c3 : Nat) (A4 : Option Addr) (n4 c4 : Nat) : Value := .agg #[.int .u8 (x.kind.toNat : Int), .int .u64 (x.seq.toNat : Int), .slice A3 n3 c3, .slice A4 n4 c4]
end Go.Proofs.YtpjinmiedanebaaDoor

namespace Go.Proofs.YtpjinmiedanebaaDoor
set_option maxRecDepth 20000
open Go.RowKit

theorem ex_f1 : framed 0 [97, 98] = (pieceL 1 [97, 98], 0) := by
  have h : framed ((0 : Nat) : Int) [97, 98] = (frameL 0 true [97, 98], 0) := framed_ok (by decide)
  rw [frameL_end 0 true [97, 98] (by decide)] at h
  exact h
theorem ex_f2 : framed 60 [120] = (List.replicate 4 0 ++ pieceL 1 [120], 0) := by
  have h : framed ((60 : Nat) : Int) [120] = (frameL 60 true [120], 0) := framed_ok (by decide)
  rw [frameL_end 60 true [120] (by decide)] at h
  exact h
theorem ex_f1d : (pieceL 1 [97, 98]).drop 4 = [2, 0, 1, 97, 98] := rfl
theorem ex_f2t : (List.replicate 4 0 ++ pieceL 1 [120]).take 4 = [0, 0, 0, 0] := rfl
/-- make([]byte, 4) -/
theorem run_mk4 (w : World) : (Instr.makeSlice 22 (.int .i64 4) (.int .i64 4)).run Tryd.prog w = .ok (.slice (some ⟨w.heap.size, 0, none⟩) 4 4) (w.alloc (.cells #[.int .u8 0, .int .u8 0, .int .u8 0, .int .u8 0] 5)) := by
  kernel_rfl
end Go.Proofs.YtpjinmiedanebaaDoor

namespace Go.Proofs.YtpjinmiedanebaaDoor
set_option maxRecDepth 20000
open Go.RowKit

end Go.Proofs.YtpjinmiedanebaaDoor

namespace Go.Proofs.YtpjinmiedanebaaDoor
set_option maxRecDepth 20000
open Go.RowKit

theorem few_le6 (ls : List (List UInt8)) (k long : Nat) : ∀ l ∈ fewL ls k long, l.length ≤ long := fun _ h => fewL_mem h
end Go.Proofs.YtpjinmiedanebaaDoor

namespace Go.Proofs.YtpjinmiedanebaaDoor
set_option maxRecDepth 20000
open Go.RowKit

theorem length_closeL (l : List UInt8) : (closeL l).length = l.length + 4 := by simp [closeL, le4]
theorem open_close (l : List UInt8) : openL (closeL l) = (l, 0) := by
  have h1 := length_closeL l
  have h2 : (closeL l).take ((closeL l).length - 4) = l := by
    rw [h1, Nat.add_sub_cancel]
    unfold closeL
    exact List.take_left
  unfold openL
  rw [if_neg (by omega), h2]
  simp

end Go.Proofs.YtpjinmiedanebaaDoor

namespace Go.Proofs.YtpjinmiedanebaaDoor
set_option maxRecDepth 20000
open Go.RowKit

theorem quarter_laid3 {W : World} (h : laidMetH Tryd.prog [("unicode/utf8.acceptRanges", Rows.laid_unicode_utf8_acceptRanges), ("bartizan/seal.quarter", Rows.laid_bartizan_seal_quarter), ("unicode/utf8.first", Rows.laid_unicode_utf8_first)] W) : Quarter W := by
  have h2 := laidMetH.filter (fun x => x.1 == "bartizan/seal.quarter") h
  rw [show List.filter (fun x : String × DataW Unit => x.1 == "bartizan/seal.quarter") [("unicode/utf8.acceptRanges", Rows.laid_unicode_utf8_acceptRanges), ("bartizan/seal.quarter", Rows.laid_bartizan_seal_quarter), ("unicode/utf8.first", Rows.laid_unicode_utf8_first)] = [("bartizan/seal.quarter", Rows.laid_bartizan_seal_quarter)] from by kernel_rfl] at h2
  exact quarter_laid h2
/-- A WORLD FOR THE WITNESS: the three tables laid -/
noncomputable def laidWorld3 (os : Os) : World := World.laidAll Tryd.prog os [("unicode/utf8.acceptRanges", Rows.laid_unicode_utf8_acceptRanges), ("bartizan/seal.quarter", Rows.laid_bartizan_seal_quarter), ("unicode/utf8.first", Rows.laid_unicode_utf8_first)]
theorem laidWorld3_met (os : Os) (args : Array Value) : laidMet Tryd.prog [("unicode/utf8.acceptRanges", Rows.laid_unicode_utf8_acceptRanges), ("bartizan/seal.quarter", Rows.laid_bartizan_seal_quarter), ("unicode/utf8.first", Rows.laid_unicode_utf8_first)] ((laidWorld3 os).forCall (fun _ _ => 0) ⟨#[], args, []⟩).memory :=
  laidMet_laidAll _ (by kernel_rfl) (by kernel_rfl)
end Go.Proofs.YtpjinmiedanebaaDoor

namespace Go.Proofs.YtpjinmiedanebaaDoor
set_option maxRecDepth 20000
theorem cellsNote : Tryd.prog.cellsOf 41 = Rep.size NoteL := by kernel_rfl
end Go.Proofs.YtpjinmiedanebaaDoor
