/-
  Open, OpenR, Head, FrameP, FrameR in one text. (Printed by merge.py out of them.) No condition.
-/
import Derived.Test.YtpffieogkfndaaaGLib
import Derived.ProofKit
import Derived.OpenShut
import Derived.Carry
import Derived.Deep.Matrix
import Derived.Test.YtpffieogkfndaaaRows
import Derived.Test.YtpffieogkfndaaaChecked
import Derived.JoinedOf
import Derived.KernelRfl
import Derived.Test.YtpffieogkfndaaaGByt
import Derived.WalkKit
import Derived.Deep.DeepHandedRow
import Derived.Deep.DeepWitnessRowRef
namespace Go.Proofs.Ytpffieogkfndaaa
set_option maxRecDepth 20000
open Go.ChangeShapes Go.WideShapes Go.ChangeAt Go.RowKit Go.Deep

section
variable {H : Type} {enc : TypeId × Value → H} {P : Program}
/-- what was read reads the same where nothing of it has turned -/
theorem trodAll_keep (hl : laidOutB P = true) {W W' : World} {sp : Nat → Bool} : ∀ (ts : List TypeId) (vs : List Value) (ds : List (DataW H)) (ps : List MemPlace), (∀ t ∈ ts, P.readableRec t = true ∧ t < P.types.size) →
    DataW.TrodAll enc P W 0 (fun _ => true) true ts vs ds ps → (∀ x ∈ ps, W.sameAt W' x) → (∀ x ∈ ps, sp x.block = true) → DataW.TrodAll enc P W' 0 sp true ts vs ds ps
  | [], vs, ds, ps, _, h, _, _ => by
    obtain ⟨rfl, rfl, rfl⟩ := trodAll_nil h
    exact trodAll_mk0
  | t :: ts, vs, ds, ps, hr, h, hs, hp => by
    obtain ⟨v, vs', d, ds', p, q, rfl, rfl, rfl, h0, h1⟩ := trodAll_cons h
    have hr0 := hr t (by simp)
    exact trodAll_cons_mk (WideElems.Trod_stays hl hr0.1 hr0.2 h0 (fun x hx => hs x (by simp [hx])) (fun x hx => hp x (by simp [hx])))
      (trodAll_keep hl ts vs' ds' q (fun u hu => hr u (by simp [hu])) h1 (fun x hx => hs x (by simp [hx])) (fun x hx => hp x (by simp [hx])))

/-- THE LAST STEP OF A LAW: it has returned true and written new memory alone -/
theorem law_post (hl : laidOutB P = true) {f : Func} {s : ChangeSpec} {tb : TypeId} {W W' : World} {args : Array Value} {ds : List (DataW H)} {before : List MemPlace}
    (hread : f.params.toList.all (fun t => P.readableRec t && decide (t < P.types.size)) = true) (hvars : s.vars = [])
    (hW : DataW.Whole enc P f.params.toList s.vars false W args.toList ds [] before)
    (hres : f.resultTypes = #[tb]) (htb : P.underlying tb = some .bool)
    (hs : s.fn H (ds ++ []) = { results := [.lit (.bool true)], args := ds }) (hb : Below W.heap.size W W') :
    s.post enc P f false true false false W args (.bool true) W' := by
  have hW' := hW
  obtain ⟨p, q, hA, hV, rfl, hz, hn⟩ := hW
  rw [hvars] at hV
  have hq : q = [] := (trodVars_none hV).2
  subst hq
  have hlt : ∀ x ∈ p ++ [], x.block < W.heap.size := fun x hx => hW'.lt x hx
  have hr : ∀ t ∈ f.params.toList, P.readableRec t = true ∧ t < P.types.size := fun t ht => by
    have := List.all_eq_true.1 hread t ht
    simpa using this
  have keep : ∀ sp : Nat → Bool, (∀ x ∈ p ++ [], sp x.block = true) → DataW.TrodAll enc P W' 0 sp true f.params.toList args.toList ds p := fun sp hsp =>
    trodAll_keep hl _ _ _ _ hr hA (fun x hx => hb.same (hlt x (by simpa using hx))) (fun x hx => hsp x (by simpa using hx))
  have hone : ∀ (b : Nat) (sp : Nat → Bool) (hd : Bool), DataW.TrodAll enc P W' b sp hd f.resultTypes.toList ((Value.bool true).resultList f.resultTypes.size) (s.fn H (ds ++ [])).results [] := fun b sp hd => by
    rw [hs, hres]
    exact trodAll_mk1 (shut_bool htb true)
  have hold : ∀ x ∈ p ++ [], (fun b => decide (b < W.heap.size)) x.block = true := fun x hx => by simpa using hlt x hx
  refine ⟨ds, [], p ++ [], [], p, [], hW', hone _ _ _, ?_, ?_, World.keptBut_mono (fun x hx => ⟨hx, Or.inr (by simpa using hx)⟩) (hb.frame (· ∈ p ++ [])), fun h => by cases h⟩
  · rw [hs]; exact keep _ hold
  · rw [hs, hvars]; exact rfl

theorem addr_plain {w : World} {a : Addr} {v : Value} (h : w.cell? a = some v) : a = ⟨a.block, a.off, none⟩ := by
  unfold World.cell? at h
  split at h
  · split at h
    · cases h
    · rename_i hs
      cases a with
      | mk b o s => cases s with
        | none => rfl
        | some _ => simp at hs
  · cases h
/-- numbers that are bytes -/
theorem byte_cells {w : World} {a : Addr} {n : Nat} {zs : List Int} (hn : n ≤ zs.length) (hcell : ∀ i, i < n → w.cell? (a.add i) = some (.int .u8 (zs.getD i 0))) (hwz : ∀ z ∈ zs, (Lit.int .u8 z).wf = true) :
    ∃ l : List UInt8, l.length = n ∧ (0 < n → a = ⟨a.block, a.off, none⟩ ∧ ∀ (j : Nat) u, (bc l)[j]? = some u → w.cell? ⟨a.block, a.off + j, none⟩ = some u) := by
  refine ⟨(zs.take n).map fun z => UInt8.ofNat z.toNat, by simp; omega, fun h0 => ?_⟩
  have ha : a = ⟨a.block, a.off, none⟩ := addr_plain (by simpa [Addr.add] using hcell 0 h0)
  refine ⟨ha, fun j u hu => ?_⟩
  have hj : j < n := by
    have := (List.getElem?_eq_some_iff.1 hu).1
    simp at this
    omega
  have hjz : j < zs.length := by omega
  have h1 := hcell j hj
  rw [ha, Addr.add_lit] at h1
  rw [h1, ← hu, bc_get]
  have hb := bounds_u8 (hwz zs[j] (List.getElem_mem hjz))
  simp [hj, List.getElem?_eq_getElem hjz, List.getD]
  omega
/-- bytes that came in -/
theorem open_bytes {t e : TypeId} (ht : P.underlying t = some (.slice e)) (he : P.underlying e = some (.int .u8)) (hc : P.cellsOf e = 1) {w : World} {base : Nat} {r : Reach} {b0 : Nat} {held : Bool} {v : Value} {d : DataW H} {p : List MemPlace}
    (hv : Value.okWide P w r b0 t v) (h : DataW.Trod enc P w base (fun _ => true) held t v d p) : ∃ (A : Option Addr) (n c : Nat) (l : List UInt8), v = .slice A n c ∧ Sl w 1 A n c (bc l) := by
  obtain ⟨a0, len, cap, rfl⟩ := okWide_slice ht hv
  obtain ⟨fuel, hf⟩ := h
  rcases open_ints ht he hc hf with ⟨hcs, hx⟩ | ⟨a, len', cap', zs, hcs, _, hl, hm, hz, hx, hcell, hwz⟩
  · have e0 : Value.slice a0 len cap = Value.slice none 0 0 := by simpa [Value.cells] using hcs
    rw [e0]
    exact ⟨none, 0, 0, [], rfl, Sl.nil _ _ _ _ (Nat.zero_le _)⟩
  · have e0 : Value.slice a0 len cap = Value.slice (some a) len' cap' := by simpa [Value.cells] using hcs
    rw [e0]
    simp only [↓reduceIte] at hz
    obtain ⟨l, hlen, hcl⟩ := byte_cells (n := len') (by omega) (fun i hi => hcell i (by omega)) hwz
    refine ⟨some a, len', cap', l, rfl, by simp [hlen], hl, hm, fun h0 => ?_⟩
    obtain ⟨ha, hc'⟩ := hcl h0
    exact ⟨a.block, a.off, congrArg some ha, hc'⟩
/-- lists of bytes that came in -/
theorem open_parts {t e q : TypeId} (ht : P.underlying t = some (.slice e)) (he : P.underlying e = some (.slice q)) (hq : P.underlying q = some (.int .u8)) (ce : P.cellsOf e = 1) (cq : P.cellsOf q = 1)
    {w : World} {base : Nat} {r : Reach} {b0 : Nat} {held : Bool} {v : Value} {d : DataW H} {p : List MemPlace}
    (hv : Value.okWide P w r b0 t v) (h : DataW.Trod enc P w base (fun _ => true) held t v d p) : ∃ (A : Option Addr) (n c : Nat) (vs : List Value) (ls : List (List UInt8)), v = .slice A n c ∧ Sl w 1 A n c vs ∧ PartsOf w vs ls := by
  obtain ⟨a0, len, cap, rfl⟩ := okWide_slice ht hv
  obtain ⟨fuel, hf⟩ := h
  rcases open_int_rows ht he hq ce cq hf with ⟨hcs, hx⟩ | ⟨a, len', cap', A, L, C, Z, hcs, _, hl, hm, hx, hrow⟩
  · have e0 : Value.slice a0 len cap = Value.slice none 0 0 := by simpa [Value.cells] using hcs
    rw [e0]
    exact ⟨none, 0, 0, [], [], rfl, Sl.nil _ _ _ _ (Nat.zero_le _), rfl, fun i v l hv => by simp at hv⟩
  · have e0 : Value.slice a0 len cap = Value.slice (some a) len' cap' := by simpa [Value.cells] using hcs
    rw [e0]
    have each : ∀ i, i < len' → ∃ l : List UInt8, Sl w 1 (A i) (L i) (C i) (bc l) := by
      intro i hi
      obtain ⟨h1, h2, h3, h4, h5, h6, h7⟩ := hrow i (by omega)
      cases hA : A i with
      | none =>
        have : C i = 0 := h6 hA
        have h0 : L i = 0 := by omega
        rw [h0]
        exact ⟨[], Sl.nil _ _ _ _ h3⟩
      | some ad =>
        obtain ⟨l, hlen, hcl⟩ := byte_cells (a := ad) (n := L i) (zs := Z i) (by omega) (fun j hj => (h7 ad hA).2 j (by omega)) h5
        refine ⟨l, by simp [hlen], h2, h3, fun h0 => ?_⟩
        obtain ⟨ha, hc'⟩ := hcl h0
        exact ⟨ad.block, ad.off, congrArg some ha, hc'⟩
    have pick : ∃ f : Nat → List UInt8, ∀ i, i < len' → Sl w 1 (A i) (L i) (C i) (bc (f i)) :=
      ⟨fun i => if h : i < len' then Classical.choose (each i h) else [], fun i hi => by simp only [dif_pos hi]; exact Classical.choose_spec (each i hi)⟩
    obtain ⟨f, hf'⟩ := pick
    refine ⟨some a, len', cap', (List.range len').map (fun i => .slice (A i) (L i) (C i)), (List.range len').map f, rfl, ⟨by simp, hl, hm, fun h0 => ?_⟩, by simp, fun i v l hv hl' => ?_⟩
    · have ha : a = ⟨a.block, a.off, none⟩ := addr_plain (by simpa [Addr.add] using (hrow 0 (by omega)).1)
      refine ⟨a.block, a.off, congrArg some ha, fun j u hu => ?_⟩
      have hj : j < len' := by
        have := (List.getElem?_eq_some_iff.1 hu).1
        simpa using this
      have h1 := (hrow j (by omega)).1
      rw [ha, Addr.add_lit] at h1
      rw [h1, ← hu]
      simp [hj]
    · have hi : i < len' := by
        have := (List.getElem?_eq_some_iff.1 hv).1
        simpa using this
      simp [hi] at hv hl'
      subst hv
      subst hl'
      exact ⟨A i, L i, C i, rfl, hf' i hi⟩
end
end Go.Proofs.Ytpffieogkfndaaa

namespace Go.Proofs.Ytpffieogkfndaaa
set_option maxRecDepth 20000
open Go.ChangeShapes Go.WideShapes Go.ChangeAt Go.RowKit Go.Deep

/-- whatever reads as a datum of type t is cells of an α -/
def Opens (P : Program) (t : TypeId) (α : Type) [Rep α] : Prop :=
  ∀ (H : Type) (enc : TypeId × Value → H) (w : World) (base : Nat) (held : Bool) (fuel : Nat) (cs : List Value) (x : DataW H × List MemPlace),
    DataW.trod enc P w base (fun _ => true) held fuel t cs = some x → ∃ a : α, Rep.cells w (fun _ => True) cs a
section
variable {P : Program}
theorem row_of {α : Type} [Rep α] {w : World} : ∀ (n : Nat) (f : Nat → List Value), (∀ i, i < n → ∃ a : α, Rep.cells w (fun _ => True) (f i) a) → ∃ ls : List α, ls.length = n ∧ RowC w (fun _ => True) ((List.range n).flatMap f) ls
  | 0, _, _ => ⟨[], rfl, by simp [RowC]⟩
  | n + 1, f, h => by
    obtain ⟨ls, hl, hr⟩ := row_of n f fun i hi => h i (by omega)
    obtain ⟨a, ha⟩ := h n (by omega)
    refine ⟨ls ++ [a], by simp [hl], ?_⟩
    rw [List.range_succ, List.flatMap_append]
    exact hr.append (by simpa using RowC.single ha)
theorem flat_get {f : Nat → List Value} {s : Nat} : ∀ (n : Nat), (∀ i, i < n → (f i).length = s) → ∀ j, j < n * s → ((List.range n).flatMap f)[j]? = (f (j / s))[j % s]?
  | 0, _, j, hj => by omega
  | n + 1, h, j, hj => by
    have hl : ((List.range n).flatMap f).length = n * s := by
      rw [List.length_flatMap]
      have : (List.range n).map (fun i => (f i).length) = List.replicate n s := by
        rw [List.eq_replicate_iff]
        refine ⟨by simp, fun b hb => ?_⟩
        obtain ⟨i, hi, rfl⟩ := List.mem_map.1 hb
        exact h i (by have := List.mem_range.1 hi; omega)
      rw [this]
      simp
    rw [List.range_succ, List.flatMap_append]
    rcases Nat.lt_or_ge j (n * s) with h1 | h1
    · rw [List.getElem?_append_left (by omega)]
      exact flat_get n (fun i hi => h i (by omega)) j h1
    · rw [List.getElem?_append_right (by omega), hl]
      have hs : 0 < s := by
        rcases Nat.eq_zero_or_pos s with h0 | h0
        · subst h0; omega
        · exact h0
      rw [Nat.add_mul, Nat.one_mul] at hj
      have e1 : j / s = n := by
        rw [Nat.div_eq_iff hs]
        constructor
        · omega
        · omega
      have e2 : j % s = j - n * s := by
        have := Nat.div_add_mod j s
        rw [e1, Nat.mul_comm] at this
        omega
      rw [e1, e2]
      simp
/-- cells of a slice -/
theorem open_rowC {α : Type} [Rep α] {t e : TypeId} (ht : P.underlying t = some (.slice e)) (hc : P.cellsOf e = Rep.size α) (ho : Opens P e α)
    {H : Type} {enc : TypeId × Value → H} {w : World} {base : Nat} {held : Bool} {fuel : Nat} {cs : List Value} {x : DataW H × List MemPlace} (h : DataW.trod enc P w base (fun _ => true) held fuel t cs = some x) :
    ∃ (A : Option Addr) (n c : Nat) (ls : List α), cs = [.slice A n c] ∧ SlR w (fun _ => True) A n c ls := by
  rcases open_slice ht h with ⟨hcs, hx⟩ | ⟨a, len, cap, m, k, D, Pl, hcs, _, hl, hm, hmm, hx, hcell⟩
  · exact ⟨none, 0, 0, [], hcs, SlR.nilnil _ _⟩
  · simp only [↓reduceIte] at hmm
    subst hmm
    obtain ⟨f, hf⟩ := choose_lt (α := List Value) (p := fun i cs' => w.cells? base (a.add (i * P.cellsOf e)) (P.cellsOf e) = some cs' ∧ DataW.trod enc P w base (fun _ => true) held k e cs' = some (D i, Pl i)) hcell
    have hR : ∀ i, i < len → ∃ b : α, Rep.cells w (fun _ => True) (f i) b := fun i hi => ho H enc w base held k (f i) _ (hf i (by omega)).2
    obtain ⟨ls, hls, hrow⟩ := row_of (α := α) len f hR
    refine ⟨_, _, _, ls, hcs, _, ⟨by rw [hrow.len, hls], hl, hm, fun h0 => ?_⟩, hrow, fun _ _ _ => trivial⟩
    have hpos : 0 < Rep.size α := Rep.pos
    have ha : a = ⟨a.block, a.off, none⟩ := by
      have h1 := (hf 0 (by omega)).1
      obtain ⟨_, h2, h3⟩ := World.cells?_some h1
      have h4 := h3 0 (by omega)
      have h5 : 0 < (f 0).length := by omega
      rw [List.getElem?_eq_getElem h5] at h4
      exact addr_plain (by simpa [Addr.add] using h4)
    refine ⟨a.block, a.off, congrArg some ha, fun j u hu => ?_⟩
    have hflen : ∀ i, i < len → (f i).length = Rep.size α := fun i hi => by
      obtain ⟨b, hb⟩ := hR i hi
      exact Rep.len hb
    have hj : j < len * Rep.size α := by
      have h1 := (List.getElem?_eq_some_iff.1 hu).1
      rw [hrow.len, hls] at h1
      exact h1
    rw [flat_get len hflen j hj] at hu
    have hi : j / Rep.size α < len := (Nat.div_lt_iff_lt_mul hpos).2 hj
    obtain ⟨_, h2, h3⟩ := World.cells?_some (hf _ (show j / Rep.size α < m by omega)).1
    have hmod : j % Rep.size α < Rep.size α := Nat.mod_lt _ hpos
    have h4 := h3 (j % Rep.size α) (by omega)
    rw [hu] at h4
    rw [ha, hc] at h4
    rw [Addr.add_lit, Addr.add_lit, Nat.add_assoc] at h4
    have e1 : j / Rep.size α * Rep.size α + j % Rep.size α = j := by
      rw [Nat.mul_comm]
      exact Nat.div_add_mod j _
    rw [e1] at h4
    exact h4
theorem opens_bytes {t e : TypeId} (ht : P.underlying t = some (.slice e)) (he : P.underlying e = some (.int .u8)) (hc : P.cellsOf e = 1) : Opens P t (List UInt8) := by
  intro H enc w base held fuel cs x h
  rcases open_ints ht he hc h with ⟨hcs, hx⟩ | ⟨a, len', cap', zs, hcs, _, hl, hm, hz, hx, hcell, hwz⟩
  · exact ⟨[], _, hcs, none, 0, 0, rfl, Sl.nil _ _ _ _ (Nat.zero_le _), fun _ _ _ => trivial⟩
  · simp only [↓reduceIte] at hz
    obtain ⟨l, hlen, hcl⟩ := byte_cells (n := len') (by omega) (fun i hi => hcell i (by omega)) hwz
    refine ⟨l, _, hcs, some a, len', cap', rfl, ⟨by simp [hlen], hl, hm, fun h0 => ?_⟩, fun _ _ _ => trivial⟩
    obtain ⟨ha, hc'⟩ := hcl h0
    exact ⟨a.block, a.off, congrArg some ha, hc'⟩
theorem one_bytes {w : World} {cs : List Value} {l : List UInt8} (h : Rep.cells w (fun _ => True) cs l) : ∃ v, cs = [v] ∧ Bk w (fun _ => True) v l := h
section
variable {H : Type} {enc : TypeId × Value → H} {w : World} {base : Nat} {held : Bool} {fuel : Nat} {cs : List Value} {x : DataW H × List MemPlace}
theorem open_u64c {t : TypeId} (ht : P.underlying t = some (.int .u64)) (h : DataW.trod enc P w base (fun _ => true) held fuel t cs = some x) : ∃ n : UInt64, cs = [u64v n] := by
  obtain ⟨z, hcs, _, hw⟩ := DataW.trod_int ht h
  have hb := bounds_u64 hw
  obtain ⟨n, rfl⟩ := Int.eq_ofNat_of_zero_le hb.1
  refine ⟨UInt64.ofNat n, ?_⟩
  rw [hcs]
  unfold u64v
  have : (UInt64.ofNat n).toNat = n := by
    rw [UInt64.toNat_ofNat']
    exact Nat.mod_eq_of_lt (by omega)
  rw [this]
theorem open_u8c {t : TypeId} (ht : P.underlying t = some (.int .u8)) (h : DataW.trod enc P w base (fun _ => true) held fuel t cs = some x) : ∃ n : UInt8, cs = [u8v n] := by
  obtain ⟨z, hcs, _, hw⟩ := DataW.trod_int ht h
  have hb := bounds_u8 hw
  obtain ⟨n, rfl⟩ := Int.eq_ofNat_of_zero_le hb.1
  refine ⟨UInt8.ofNat n, ?_⟩
  rw [hcs]
  unfold u8v
  have : (UInt8.ofNat n).toNat = n := by
    rw [UInt8.toNat_ofNat']
    exact Nat.mod_eq_of_lt (by omega)
  rw [this]
end
theorem opens_u64 {t : TypeId} (ht : P.underlying t = some (.int .u64)) : Opens P t UInt64 := by
  intro H enc w base held fuel cs x h
  exact open_u64c ht h
/-- a struct's fields: where each lies, its type -/
def laysF (fs : Array Field) : List (Nat × TypeId) := fs.toList.map fun f => (f.offset, f.type)
theorem struct_get {fs : Array Field} {l : List (Nat × TypeId)} (hl : laysF fs = l) (i : Nat) {o : Nat} {t : TypeId} (h : l[i]? = some (o, t)) : ∃ f, fs[i]? = some f ∧ f.offset = o ∧ f.type = t := by
  subst hl
  unfold laysF at h
  rw [List.getElem?_map] at h
  obtain ⟨f, hf, he⟩ := Option.map_eq_some_iff.1 h
  simp only [Prod.mk.injEq] at he
  exact ⟨f, by simpa using hf, he.1, he.2⟩
/-- field i of a struct that was read -/
theorem field_read {t : TypeId} {fs : Array Field} {l : List (Nat × TypeId)} {H : Type} {enc : TypeId × Value → H} {w : World} {base : Nat} {held : Bool} {fuel : Nat} {cs : List Value} {x : DataW H × List MemPlace}
    (ht : P.underlying t = some (.struct fs)) (hl : laysF fs = l) (h : DataW.trod enc P w base (fun _ => true) held fuel t cs = some x) :
    cs.length = P.cellsOf t ∧ ∃ n, ∀ (i o : Nat) (u : TypeId), l[i]? = some (o, u) → ∃ y, DataW.trod enc P w base (fun _ => true) held n u ((cs.drop o).take (P.cellsOf u)) = some y := by
  obtain ⟨xs, n, _, _, hlen, hxl, hf⟩ := DataW.trod_struct ht h
  refine ⟨hlen, n, fun i o u hi => ?_⟩
  obtain ⟨f, hfi, rfl, rfl⟩ := struct_get hl i hi
  have h1 := hf i f hfi
  have h2 : i < xs.length := by
    rw [hxl]
    exact (Array.getElem?_eq_some_iff.1 hfi).1
  rw [List.getElem?_eq_getElem h2] at h1
  exact ⟨_, h1⟩
theorem three_cells {cs : List Value} (h : cs.length = 3) : ∃ a b c, cs = [a, b, c] := by
  match cs, h with
  | [a, b, c], _ => exact ⟨a, b, c, rfl⟩
theorem four_cells {cs : List Value} (h : cs.length = 4) : ∃ a b c d, cs = [a, b, c, d] := by
  match cs, h with
  | [a, b, c, d], _ => exact ⟨a, b, c, d, rfl⟩
theorem opens_key {t tb u64 u8 : TypeId} {fs : Array Field} (ht : P.underlying t = some (.struct fs)) (hl : laysF fs = [(0, tb), (1, u64), (2, u8)]) (hc : P.cellsOf t = 3 ∧ P.cellsOf tb = 1 ∧ P.cellsOf u64 = 1 ∧ P.cellsOf u8 = 1)
    (hb : P.underlying tb = some (.slice u8)) (h64 : P.underlying u64 = some (.int .u64)) (h8 : P.underlying u8 = some (.int .u8)) : Opens P t KeyL := by
  intro H enc w base held fuel cs x h
  obtain ⟨hlen, n, hf⟩ := field_read ht hl h
  obtain ⟨a, b, c, rfl⟩ := three_cells (hlen.trans hc.1)
  obtain ⟨y0, h0⟩ := hf 0 0 tb rfl
  obtain ⟨y1, h1⟩ := hf 1 1 u64 rfl
  obtain ⟨y2, h2⟩ := hf 2 2 u8 rfl
  rw [hc.2.1] at h0
  rw [hc.2.2.1] at h1
  rw [hc.2.2.2] at h2
  simp at h0 h1 h2
  obtain ⟨l, v, e0, hv⟩ := opens_bytes hb h8 hc.2.2.2 H enc w base held n _ _ h0
  obtain ⟨s, e1⟩ := open_u64c h64 h1
  obtain ⟨k, e2⟩ := open_u8c h8 h2
  simp at e0 e1 e2
  subst e0 e1 e2
  exact ⟨⟨l, s, k⟩, a, rfl, hv⟩
theorem opens_op {t tb u8 : TypeId} {fs : Array Field} (ht : P.underlying t = some (.struct fs)) (hl : laysF fs = [(0, u8), (1, tb), (2, tb)]) (hc : P.cellsOf t = 3 ∧ P.cellsOf tb = 1 ∧ P.cellsOf u8 = 1)
    (hb : P.underlying tb = some (.slice u8)) (h8 : P.underlying u8 = some (.int .u8)) : Opens P t OpL := by
  intro H enc w base held fuel cs x h
  obtain ⟨hlen, n, hf⟩ := field_read ht hl h
  obtain ⟨a, b, c, rfl⟩ := three_cells (hlen.trans hc.1)
  obtain ⟨y0, h0⟩ := hf 0 0 u8 rfl
  obtain ⟨y1, h1⟩ := hf 1 1 tb rfl
  obtain ⟨y2, h2⟩ := hf 2 2 tb rfl
  rw [hc.2.2] at h0
  rw [hc.2.1] at h1 h2
  simp at h0 h1 h2
  obtain ⟨k, e0⟩ := open_u8c h8 h0
  obtain ⟨l1, v1, e1, hv1⟩ := opens_bytes hb h8 hc.2.2 H enc w base held n _ _ h1
  obtain ⟨l2, v2, e2, hv2⟩ := opens_bytes hb h8 hc.2.2 H enc w base held n _ _ h2
  simp at e0 e1 e2
  subst e0 e1 e2
  exact ⟨⟨k, l1, l2⟩, b, c, rfl, hv1, hv2⟩
theorem opens_span {t tb u64 u8 : TypeId} {fs : Array Field} (ht : P.underlying t = some (.struct fs)) (hl : laysF fs = [(0, tb), (1, tb), (2, u64)]) (hc : P.cellsOf t = 3 ∧ P.cellsOf tb = 1 ∧ P.cellsOf u64 = 1 ∧ P.cellsOf u8 = 1)
    (hb : P.underlying tb = some (.slice u8)) (h64 : P.underlying u64 = some (.int .u64)) (h8 : P.underlying u8 = some (.int .u8)) : Opens P t SpanL := by
  intro H enc w base held fuel cs x h
  obtain ⟨hlen, n, hf⟩ := field_read ht hl h
  obtain ⟨a, b, c, rfl⟩ := three_cells (hlen.trans hc.1)
  obtain ⟨y0, h0⟩ := hf 0 0 tb rfl
  obtain ⟨y1, h1⟩ := hf 1 1 tb rfl
  obtain ⟨y2, h2⟩ := hf 2 2 u64 rfl
  rw [hc.2.1] at h0 h1
  rw [hc.2.2.1] at h2
  simp at h0 h1 h2
  obtain ⟨l1, v1, e1, hv1⟩ := opens_bytes hb h8 hc.2.2.2 H enc w base held n _ _ h0
  obtain ⟨l2, v2, e2, hv2⟩ := opens_bytes hb h8 hc.2.2.2 H enc w base held n _ _ h1
  obtain ⟨s, e3⟩ := open_u64c h64 h2
  simp at e1 e2 e3
  subst e1 e2 e3
  exact ⟨⟨l1, l2, s⟩, a, b, rfl, hv1, hv2⟩
/-- an entry: a version (its three cells), then a value -/
theorem opens_ent {t tk tb u64 u8 : TypeId} {fs ks : Array Field} (ht : P.underlying t = some (.struct fs)) (hl : laysF fs = [(0, tk), (3, tb)]) (htk : P.underlying tk = some (.struct ks)) (hlk : laysF ks = [(0, tb), (1, u64), (2, u8)])
    (hc : P.cellsOf t = 4 ∧ P.cellsOf tk = 3 ∧ P.cellsOf tb = 1 ∧ P.cellsOf u64 = 1 ∧ P.cellsOf u8 = 1)
    (hb : P.underlying tb = some (.slice u8)) (h64 : P.underlying u64 = some (.int .u64)) (h8 : P.underlying u8 = some (.int .u8)) : Opens P t EntL := by
  intro H enc w base held fuel cs x h
  obtain ⟨hlen, n, hf⟩ := field_read ht hl h
  obtain ⟨a, b, c, d, rfl⟩ := four_cells (hlen.trans hc.1)
  obtain ⟨y0, h0⟩ := hf 0 0 tk rfl
  obtain ⟨y1, h1⟩ := hf 1 3 tb rfl
  rw [hc.2.1] at h0
  rw [hc.2.2.1] at h1
  simp at h0 h1
  obtain ⟨⟨u, s, k⟩, v, e, hv⟩ := opens_key htk hlk ⟨hc.2.1, hc.2.2.1, hc.2.2.2.1, hc.2.2.2.2⟩ hb h64 h8 H enc w base held n _ _ h0
  obtain ⟨l2, v2, e2, hv2⟩ := opens_bytes hb h8 hc.2.2.2.2 H enc w base held n _ _ h1
  simp at e e2
  obtain ⟨rfl, rfl, rfl⟩ := e
  subst e2
  exact ⟨⟨⟨u, s, k⟩, l2⟩, a, d, rfl, hv, hv2⟩
theorem opens_note {t tb to top u64 u8 : TypeId} {fs os : Array Field} (ht : P.underlying t = some (.struct fs)) (hl : laysF fs = [(0, u8), (1, u64), (2, tb), (3, to)]) (hto : P.underlying to = some (.slice top)) (htop : P.underlying top = some (.struct os))
    (hlo : laysF os = [(0, u8), (1, tb), (2, tb)]) (hc : P.cellsOf t = 4 ∧ P.cellsOf to = 1 ∧ P.cellsOf top = 3 ∧ P.cellsOf tb = 1 ∧ P.cellsOf u64 = 1 ∧ P.cellsOf u8 = 1)
    (hb : P.underlying tb = some (.slice u8)) (h64 : P.underlying u64 = some (.int .u64)) (h8 : P.underlying u8 = some (.int .u8)) : Opens P t NoteL := by
  intro H enc w base held fuel cs x h
  obtain ⟨hlen, n, hf⟩ := field_read ht hl h
  obtain ⟨a, b, c, d, rfl⟩ := four_cells (hlen.trans hc.1)
  obtain ⟨y0, h0⟩ := hf 0 0 u8 rfl
  obtain ⟨y1, h1⟩ := hf 1 1 u64 rfl
  obtain ⟨y2, h2⟩ := hf 2 2 tb rfl
  obtain ⟨y3, h3⟩ := hf 3 3 to rfl
  rw [hc.2.2.2.2.2] at h0
  rw [hc.2.2.2.2.1] at h1
  rw [hc.2.2.2.1] at h2
  rw [hc.2.1] at h3
  simp at h0 h1 h2 h3
  obtain ⟨k, e0⟩ := open_u8c h8 h0
  obtain ⟨s, e1⟩ := open_u64c h64 h1
  obtain ⟨l2, v2, e2, hv2⟩ := opens_bytes hb h8 hc.2.2.2.2.2 H enc w base held n _ _ h2
  obtain ⟨A, m, cc, ops, e3, ho⟩ := open_rowC (α := OpL) hto hc.2.2.1 (opens_op htop hlo ⟨hc.2.2.1, hc.2.2.2.1, hc.2.2.2.2.2⟩ hb h8) h3
  simp at e0 e1 e2 e3
  subst e0 e1 e2 e3
  exact ⟨⟨k, s, l2, ops⟩, c, A, m, cc, rfl, hv2, ho⟩
/-- a struct that came in -/
theorem open_rec {α : Type} [Rep α] {t : TypeId} {fs : Array Field} (ht : P.underlying t = some (.struct fs)) (ho : Opens P t α) {H : Type} {enc : TypeId × Value → H} {w : World} {base : Nat} {r : Reach} {b0 : Nat} {held : Bool} {v : Value} {d : DataW H} {p : List MemPlace}
    (hv : Value.okWide P w r b0 t v) (h : DataW.Trod enc P w base (fun _ => true) held t v d p) : ∃ (cs : List Value) (a : α), v = .agg cs.toArray ∧ Rep.cells w (fun _ => True) cs a := by
  obtain ⟨cs, rfl, _⟩ := okWide_struct ht hv
  obtain ⟨fuel, hf⟩ := h
  obtain ⟨a, ha⟩ := ho H enc w base held fuel _ _ hf
  exact ⟨cs.toList, a, by simp, by simpa [Value.cells] using ha⟩
/-- a list of records that came in -/
theorem open_recs {α : Type} [Rep α] {t e : TypeId} (ht : P.underlying t = some (.slice e)) (hc : P.cellsOf e = Rep.size α) (ho : Opens P e α) {H : Type} {enc : TypeId × Value → H} {w : World} {base : Nat} {r : Reach} {b0 : Nat} {held : Bool} {v : Value} {d : DataW H} {p : List MemPlace}
    (hv : Value.okWide P w r b0 t v) (h : DataW.Trod enc P w base (fun _ => true) held t v d p) : ∃ (A : Option Addr) (n c : Nat) (ls : List α), v = .slice A n c ∧ SlR w (fun _ => True) A n c ls := by
  obtain ⟨a0, len, cap, rfl⟩ := okWide_slice ht hv
  obtain ⟨fuel, hf⟩ := h
  obtain ⟨A, n, c, ls, e, hs⟩ := open_rowC ht hc ho hf
  simp [Value.cells] at e
  obtain ⟨rfl, rfl, rfl⟩ := e
  exact ⟨_, _, _, ls, rfl, hs⟩
end
end Go.Proofs.Ytpffieogkfndaaa

namespace Go.Proofs.Ytpffieogkfndaaa
set_option maxRecDepth 20000
theorem heads {P : Program} {rest : List (List Char)} (h : behindMainWord (wordsSigns P.initOrder.toList) = "cut".toList :: rest) (h1 : P.laysLater = false) (h2 : P.bearsReflect = false) (h3 : P.doorRows = []) :
    P.mayEnter = true ∧ P.liftsFinal = false ∧ P.make = some .cut := by
  have hs : stripLifts liftWords ("cut".toList :: rest) = ([], "cut".toList :: rest) := by kernel_rfl
  refine ⟨?_, ?_, ?_⟩
  · unfold Program.mayEnter
    rw [h]
    simp only [hs, h1, h2, Program.doorFits, h3]
    kernel_rfl
  · unfold Program.liftsFinal Program.headLifts
    simp only [h, hs]
    kernel_rfl
  · unfold Program.make
    rw [h]
    kernel_rfl
theorem head_of {P : Program} {l : List Char} (h : P.initOrder = String.ofList l) (hw : behindMainWord (wordsSigns l) = "cut".toList :: (behindMainWord (wordsSigns l)).tail) :
    ∃ rest, behindMainWord (wordsSigns P.initOrder.toList) = "cut".toList :: rest := ⟨_, by rw [h, String.toList_ofList]; exact hw⟩
theorem headIs : ∃ rest, behindMainWord (wordsSigns Try.prog.initOrder.toList) = "cut".toList :: rest := head_of (l := _) rfl (by kernel_rfl)
theorem headAll : Try.prog.mayEnter = true ∧ Try.prog.liftsFinal = false ∧ Try.prog.make = some .cut := by
  obtain ⟨_, h⟩ := headIs
  exact heads h (by kernel_rfl) (by kernel_rfl) (by kernel_rfl)
theorem headMay : Try.prog.mayEnter = true := headAll.1
theorem headLift : Try.prog.liftsFinal = false := headAll.2.1
theorem headMake : Try.prog.make = some .cut := headAll.2.2
end Go.Proofs.Ytpffieogkfndaaa

namespace Go.Proofs.Ytpffieogkfndaaa
set_option maxRecDepth 20000
open Go.ChangeShapes Go.WideShapes Go.ChangeAt Go.RowKit

theorem own : ownKnob Try.prog.godebug = none := by kernel_rfl
theorem cellsU8 : Try.prog.cellsOf 5 = 1 := by kernel_rfl
theorem cellsB : Try.prog.cellsOf 22 = 1 := by kernel_rfl
theorem laidOut : laidOutB Try.prog = true := by kernel_rfl
/-- A WORLD FOR THE WITNESS -/
noncomputable def laidWorld (os : Os) : World := World.holding Try.prog os ⟨#[], #[], []⟩
end Go.Proofs.Ytpffieogkfndaaa

namespace Go.Proofs.Ytpffieogkfndaaa
set_option maxRecDepth 20000
open Go.ChangeShapes Go.WideShapes Go.ChangeAt Go.RowKit

theorem opensKey : Opens Try.prog 25 KeyL :=
  opens_key (tb := 22) (u64 := 23) (u8 := 5) Try.underlying25 (by kernel_rfl) ⟨by kernel_rfl, by kernel_rfl, by kernel_rfl, by kernel_rfl⟩ Try.underlying22 Try.underlying23 Try.underlying5
theorem opensEnt : Opens Try.prog 37 EntL :=
  opens_ent (tk := 25) (tb := 22) (u64 := 23) (u8 := 5) Try.underlying37 (by kernel_rfl) Try.underlying25 (by kernel_rfl) ⟨by kernel_rfl, by kernel_rfl, by kernel_rfl, by kernel_rfl, by kernel_rfl⟩ Try.underlying22 Try.underlying23 Try.underlying5
theorem cellsEnt : Try.prog.cellsOf 37 = Rep.size EntL := by kernel_rfl
theorem opensU64 : Opens Try.prog 23 UInt64 := opens_u64 Try.underlying23
theorem cellsU64 : Try.prog.cellsOf 23 = Rep.size UInt64 := by kernel_rfl
end Go.Proofs.Ytpffieogkfndaaa
