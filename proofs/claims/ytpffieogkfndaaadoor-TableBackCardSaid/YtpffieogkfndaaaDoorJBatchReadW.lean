/-
  Open, SealAwake, Frame, OpenR, FrameR, LeafSort, RowsStep, BatchFew, KeyAfterW, TabBounds, BatchReadW in one text. No condition but sizes.
-/
import Derived.Test.YtpffieogkfndaaaDoorJHeldF
import Derived.ProofKit
import Derived.OpenShut
import Derived.Carry
import Derived.Deep.Matrix
import Derived.Test.YtpffieogkfndaaaDoorJBloomRef
import Derived.Lib.SlBytesConst
import Derived.Test.YtpffieogkfndaaaDoorCards
import Derived.Test.YtpffieogkfndaaaDoorTie
import Derived.WalkKit
import Derived.Deep.DeepHandedRow
import Derived.Deep.DeepWitnessRowRef
import Derived.Lib.LaidTab
import Derived.Test.YtpffieogkfndaaaDoorJAtomWalk
import Derived.Test.YtpffieogkfndaaaDoorJKeyReadW
import Derived.Test.YtpffieogkfndaaaDoorJBridge
import Derived.Test.YtpffieogkfndaaaDoorJKeyMake
import Derived.Deep.CutRange
import Derived.Test.YtpffieogkfndaaaDoorJTabOpenP
import Derived.Test.YtpffieogkfndaaaDoorAtomRTake
namespace Go.Proofs.YtpffieogkfndaaaDoor
set_option maxRecDepth 20000
set_option linter.unusedVariables false
set_option linter.unusedSimpArgs false
open Go.ChangeShapes Go.WideShapes Go.ChangeAt Go.RowKit Go.Deep

section
variable {H : Type} {enc : TypeId × Value → H} {P : Program}
/-- what was read reads the same where nothing of it has turned -/
theorem trodAll_keep (hl : laidOutB P = true) {W W' : World} {sp : Nat → Bool} : ∀ (ts : List TypeId) (vs : List Value) (ds : List (DataW H)) (ps : List MemPlace), (∀ t ∈ ts, P.readableRec t = true ∧ t < P.types.size) →
    DataW.TrodAll enc P W 0 (fun _ => true) true ts vs ds ps → (∀ x ∈ ps, W.sameAt W' x) → (∀ x ∈ ps, sp x.block = true) → DataW.TrodAll enc P W' 0 sp true ts vs ds ps
  | [], vs, ds, ps, _, h, _, _ => by
    obtain ⟨rfl, rfl, rfl⟩ := trodAll_nil h
    exact trodAll_mk0
  | t :: ts, vs, ds, ps, hr, h, hs, hp => by
    obtain ⟨v, vs', d, ds', p, q, rfl, rfl, rfl, h0, h1⟩ := trodAll_cons h
    have hr0 := hr t (by simp)
    exact trodAll_cons_mk (WideElems.Trod_stays hl hr0.1 hr0.2 h0 (fun x hx => hs x (by simp [hx])) (fun x hx => hp x (by simp [hx])))
      (trodAll_keep hl ts vs' ds' q (fun u hu => hr u (by simp [hu])) h1 (fun x hx => hs x (by simp [hx])) (fun x hx => hp x (by simp [hx])))

/-- THE LAST STEP OF A LAW: it has returned true and written new memory alone -/
theorem law_post (hl : laidOutB P = true) {f : Func} {s : ChangeSpec} {tb : TypeId} {W W' : World} {args : Array Value} {ds : List (DataW H)} {before : List MemPlace}
    (hread : f.params.toList.all (fun t => P.readableRec t && decide (t < P.types.size)) = true) (hvars : s.vars = [])
    (hW : DataW.Whole enc P f.params.toList s.vars false W args.toList ds [] before)
    (hres : f.resultTypes = #[tb]) (htb : P.underlying tb = some .bool)
    (hs : s.fn H (ds ++ []) = { results := [.lit (.bool true)], args := ds }) (hb : Below W.heap.size W W') :
    s.post enc P f false true false false W args (.bool true) W' := by
  have hW' := hW
  obtain ⟨p, q, hA, hV, rfl, hz, hn⟩ := hW
  rw [hvars] at hV
  have hq : q = [] := (trodVars_none hV).2
  subst hq
  have hlt : ∀ x ∈ p ++ [], x.block < W.heap.size := fun x hx => hW'.lt x hx
  have hr : ∀ t ∈ f.params.toList, P.readableRec t = true ∧ t < P.types.size := fun t ht => by
    have := List.all_eq_true.1 hread t ht
    simpa using this
  have keep : ∀ sp : Nat → Bool, (∀ x ∈ p ++ [], sp x.block = true) → DataW.TrodAll enc P W' 0 sp true f.params.toList args.toList ds p := fun sp hsp =>
    trodAll_keep hl _ _ _ _ hr hA (fun x hx => hb.same (hlt x (by simpa using hx))) (fun x hx => hsp x (by simpa using hx))
  have hone : ∀ (b : Nat) (sp : Nat → Bool) (hd : Bool), DataW.TrodAll enc P W' b sp hd f.resultTypes.toList ((Value.bool true).resultList f.resultTypes.size) (s.fn H (ds ++ [])).results [] := fun b sp hd => by
    rw [hs, hres]
    exact trodAll_mk1 (shut_bool htb true)
  have hold : ∀ x ∈ p ++ [], (fun b => decide (b < W.heap.size)) x.block = true := fun x hx => by simpa using hlt x hx
  refine ⟨ds, [], p ++ [], [], p, [], hW', hone _ _ _, ?_, ?_, World.keptBut_mono (fun x hx => ⟨hx, Or.inr (by simpa using hx)⟩) (hb.frame (· ∈ p ++ [])), fun h => by cases h⟩
  · rw [hs]; exact keep _ hold
  · rw [hs, hvars]; exact rfl

theorem addr_plain {w : World} {a : Addr} {v : Value} (h : w.cell? a = some v) : a = ⟨a.block, a.off, none⟩ := by
  unfold World.cell? at h
  split at h
  · split at h
    · cases h
    · rename_i hs
      cases a with
      | mk b o s => cases s with
        | none => rfl
        | some _ => simp at hs
  · cases h
/-- numbers that are bytes -/
theorem byte_cells {w : World} {a : Addr} {n : Nat} {zs : List Int} (hn : n ≤ zs.length) (hcell : ∀ i, i < n → w.cell? (a.add i) = some (.int .u8 (zs.getD i 0))) (hwz : ∀ z ∈ zs, (Lit.int .u8 z).wf = true) :
    ∃ l : List UInt8, l.length = n ∧ (0 < n → a = ⟨a.block, a.off, none⟩ ∧ ∀ (j : Nat) u, (bc l)[j]? = some u → w.cell? ⟨a.block, a.off + j, none⟩ = some u) := by
  refine ⟨(zs.take n).map fun z => UInt8.ofNat z.toNat, by simp; omega, fun h0 => ?_⟩
  have ha : a = ⟨a.block, a.off, none⟩ := addr_plain (by simpa [Addr.add] using hcell 0 h0)
  refine ⟨ha, fun j u hu => ?_⟩
  have hj : j < n := by
    have := (List.getElem?_eq_some_iff.1 hu).1
    simp at this
    omega
  have hjz : j < zs.length := by omega
  have h1 := hcell j hj
  rw [ha, Addr.add_lit] at h1
  rw [h1, ← hu, bc_get]
  have hb := bounds_u8 (hwz zs[j] (List.getElem_mem hjz))
  simp [hj, List.getElem?_eq_getElem hjz, List.getD]
  omega
end
end Go.Proofs.YtpffieogkfndaaaDoor

namespace Go.Proofs.YtpffieogkfndaaaDoor
set_option maxRecDepth 20000
set_option linter.unusedVariables false
set_option linter.unusedSimpArgs false
open Go.RowKit
def s9 : List UInt8 := [49, 50, 51, 52, 53, 54, 55, 56, 57]
end Go.Proofs.YtpffieogkfndaaaDoor

namespace Go.Proofs.YtpffieogkfndaaaDoor
set_option maxRecDepth 20000
set_option linter.unusedVariables false
set_option linter.unusedSimpArgs false
open Go.ChangeShapes Go.WideShapes Go.ChangeAt Go.RowKit

theorem own : ownKnob Tryd.prog.godebug = none := by kernel_rfl
theorem laidOut : laidOutB Tryd.prog = true := by kernel_rfl
theorem gTab : Tryd.prog.globalNamed "bartizan/seal.quarter" = some 0 := by kernel_rfl
theorem gTabType : (Tryd.prog.globals[0]?).map (·.type) = some 127 := by kernel_rfl
theorem cellsTab : Tryd.prog.cellsOf 127 = 16 := by kernel_rfl
theorem cellsU32 : Tryd.prog.cellsOf 96 = 1 := by kernel_rfl
/-- the table's numbers, as integers -/
def quarterZ : List Int := quarterL.map fun (n : Nat) => (n : Int)
/-- WHAT THE ROW's LIST GIVES -/
theorem quarter_laid {W : World} {rest : List (String × DataW Unit)} (h : laidMet Tryd.prog (("bartizan/seal.quarter", Rows.laid_bartizan_seal_quarter) :: rest) W) : Quarter W := by
  have ht : Lib.TabIs Tryd.prog W "bartizan/seal.quarter" .u32 quarterZ :=
    Lib.tabIs_of_head (rest := rest) gTab gTabType Tryd.underlying127 Tryd.underlying96 cellsU32 cellsTab h
  intro i hi
  have := ht.cell gTab i (by simpa [quarterZ, quarterL] using hi)
  rw [this]
  congr 2
  rcases Nat.lt_or_ge i 16 with h | h
  · have : ∀ i : Fin 16, quarterZ.getD i.val 0 = ((quarterL.getD i.val 0 : Nat) : Int) := by decide
    exact this ⟨i, h⟩
  · omega
/-- A WORLD FOR THE WITNESS: the table holding what its initialiser lays -/
noncomputable def laidWorld (os : Os) : World :=
  { World.holding Tryd.prog os ⟨#[], #[], []⟩ with heap := (World.holding Tryd.prog os ⟨#[], #[], []⟩).heap.modify 0 fun
      | .cells _ t frozen => .cells (quarterZ.map (Value.int .u32)).toArray t frozen
      | o => o }
end Go.Proofs.YtpffieogkfndaaaDoor

namespace Go.Proofs.YtpffieogkfndaaaDoor
set_option maxRecDepth 20000
set_option linter.unusedVariables false
set_option linter.unusedSimpArgs false
open Go.ChangeShapes Go.WideShapes Go.ChangeAt Go.RowKit Go.Deep

/-- whatever reads as a datum of type t is cells of an α -/
def Opens (P : Program) (t : TypeId) (α : Type) [Rep α] : Prop :=
  ∀ (H : Type) (enc : TypeId × Value → H) (w : World) (base : Nat) (held : Bool) (fuel : Nat) (cs : List Value) (x : DataW H × List MemPlace),
    DataW.trod enc P w base (fun _ => true) held fuel t cs = some x → ∃ a : α, Rep.cells w (fun _ => True) cs a
section
variable {P : Program}
theorem row_of {α : Type} [Rep α] {w : World} : ∀ (n : Nat) (f : Nat → List Value), (∀ i, i < n → ∃ a : α, Rep.cells w (fun _ => True) (f i) a) → ∃ ls : List α, ls.length = n ∧ RowC w (fun _ => True) ((List.range n).flatMap f) ls
  | 0, _, _ => ⟨[], rfl, by simp [RowC]⟩
  | n + 1, f, h => by
    obtain ⟨ls, hl, hr⟩ := row_of n f fun i hi => h i (by omega)
    obtain ⟨a, ha⟩ := h n (by omega)
    refine ⟨ls ++ [a], by simp [hl], ?_⟩
    rw [List.range_succ, List.flatMap_append]
    exact hr.append (by simpa using RowC.single ha)
theorem flat_get {f : Nat → List Value} {s : Nat} : ∀ (n : Nat), (∀ i, i < n → (f i).length = s) → ∀ j, j < n * s → ((List.range n).flatMap f)[j]? = (f (j / s))[j % s]?
  | 0, _, j, hj => by omega
  | n + 1, h, j, hj => by
    have hl : ((List.range n).flatMap f).length = n * s := by
      rw [List.length_flatMap]
      have : (List.range n).map (fun i => (f i).length) = List.replicate n s := by
        rw [List.eq_replicate_iff]
        refine ⟨by simp, fun b hb => ?_⟩
        obtain ⟨i, hi, rfl⟩ := List.mem_map.1 hb
        exact h i (by have := List.mem_range.1 hi; omega)
      rw [this]
      simp
    rw [List.range_succ, List.flatMap_append]
    rcases Nat.lt_or_ge j (n * s) with h1 | h1
    · rw [List.getElem?_append_left (by omega)]
      exact flat_get n (fun i hi => h i (by omega)) j h1
    · rw [List.getElem?_append_right (by omega), hl]
      have hs : 0 < s := by
        rcases Nat.eq_zero_or_pos s with h0 | h0
        · subst h0; omega
        · exact h0
      rw [Nat.add_mul, Nat.one_mul] at hj
      have e1 : j / s = n := by
        rw [Nat.div_eq_iff hs]
        constructor
        · omega
        · omega
      have e2 : j % s = j - n * s := by
        have := Nat.div_add_mod j s
        rw [e1, Nat.mul_comm] at this
        omega
      rw [e1, e2]
      simp
/-- cells of a slice -/
theorem open_rowC {α : Type} [Rep α] {t e : TypeId} (ht : P.underlying t = some (.slice e)) (hc : P.cellsOf e = Rep.size α) (ho : Opens P e α)
    {H : Type} {enc : TypeId × Value → H} {w : World} {base : Nat} {held : Bool} {fuel : Nat} {cs : List Value} {x : DataW H × List MemPlace} (h : DataW.trod enc P w base (fun _ => true) held fuel t cs = some x) :
    ∃ (A : Option Addr) (n c : Nat) (ls : List α), cs = [.slice A n c] ∧ SlR w (fun _ => True) A n c ls := by
  rcases open_slice ht h with ⟨hcs, hx⟩ | ⟨a, len, cap, m, k, D, Pl, hcs, _, hl, hm, hmm, hx, hcell⟩
  · exact ⟨none, 0, 0, [], hcs, SlR.nilnil _ _⟩
  · simp only [↓reduceIte] at hmm
    subst hmm
    obtain ⟨f, hf⟩ := choose_lt (α := List Value) (p := fun i cs' => w.cells? base (a.add (i * P.cellsOf e)) (P.cellsOf e) = some cs' ∧ DataW.trod enc P w base (fun _ => true) held k e cs' = some (D i, Pl i)) hcell
    have hR : ∀ i, i < len → ∃ b : α, Rep.cells w (fun _ => True) (f i) b := fun i hi => ho H enc w base held k (f i) _ (hf i (by omega)).2
    obtain ⟨ls, hls, hrow⟩ := row_of (α := α) len f hR
    refine ⟨_, _, _, ls, hcs, _, ⟨by rw [hrow.len, hls], hl, hm, fun h0 => ?_⟩, hrow, fun _ _ _ => trivial⟩
    have hpos : 0 < Rep.size α := Rep.pos
    have ha : a = ⟨a.block, a.off, none⟩ := by
      have h1 := (hf 0 (by omega)).1
      obtain ⟨_, h2, h3⟩ := World.cells?_some h1
      have h4 := h3 0 (by omega)
      have h5 : 0 < (f 0).length := by omega
      rw [List.getElem?_eq_getElem h5] at h4
      exact addr_plain (by simpa [Addr.add] using h4)
    refine ⟨a.block, a.off, congrArg some ha, fun j u hu => ?_⟩
    have hflen : ∀ i, i < len → (f i).length = Rep.size α := fun i hi => by
      obtain ⟨b, hb⟩ := hR i hi
      exact Rep.len hb
    have hj : j < len * Rep.size α := by
      have h1 := (List.getElem?_eq_some_iff.1 hu).1
      rw [hrow.len, hls] at h1
      exact h1
    rw [flat_get len hflen j hj] at hu
    have hi : j / Rep.size α < len := (Nat.div_lt_iff_lt_mul hpos).2 hj
    obtain ⟨_, h2, h3⟩ := World.cells?_some (hf _ (show j / Rep.size α < m by omega)).1
    have hmod : j % Rep.size α < Rep.size α := Nat.mod_lt _ hpos
    have h4 := h3 (j % Rep.size α) (by omega)
    rw [hu] at h4
    rw [ha, hc] at h4
    rw [Addr.add_lit, Addr.add_lit, Nat.add_assoc] at h4
    have e1 : j / Rep.size α * Rep.size α + j % Rep.size α = j := by
      rw [Nat.mul_comm]
      exact Nat.div_add_mod j _
    rw [e1] at h4
    exact h4
theorem opens_bytes {t e : TypeId} (ht : P.underlying t = some (.slice e)) (he : P.underlying e = some (.int .u8)) (hc : P.cellsOf e = 1) : Opens P t (List UInt8) := by
  intro H enc w base held fuel cs x h
  rcases open_ints ht he hc h with ⟨hcs, hx⟩ | ⟨a, len', cap', zs, hcs, _, hl, hm, hz, hx, hcell, hwz⟩
  · exact ⟨[], _, hcs, none, 0, 0, rfl, Sl.nil _ _ _ _ (Nat.zero_le _), fun _ _ _ => trivial⟩
  · simp only [↓reduceIte] at hz
    obtain ⟨l, hlen, hcl⟩ := byte_cells (n := len') (by omega) (fun i hi => hcell i (by omega)) hwz
    refine ⟨l, _, hcs, some a, len', cap', rfl, ⟨by simp [hlen], hl, hm, fun h0 => ?_⟩, fun _ _ _ => trivial⟩
    obtain ⟨ha, hc'⟩ := hcl h0
    exact ⟨a.block, a.off, congrArg some ha, hc'⟩
section
variable {H : Type} {enc : TypeId × Value → H} {w : World} {base : Nat} {held : Bool} {fuel : Nat} {cs : List Value} {x : DataW H × List MemPlace}
theorem open_u64c {t : TypeId} (ht : P.underlying t = some (.int .u64)) (h : DataW.trod enc P w base (fun _ => true) held fuel t cs = some x) : ∃ n : UInt64, cs = [u64v n] := by
  obtain ⟨z, hcs, _, hw⟩ := DataW.trod_int ht h
  have hb := bounds_u64 hw
  obtain ⟨n, rfl⟩ := Int.eq_ofNat_of_zero_le hb.1
  refine ⟨UInt64.ofNat n, ?_⟩
  rw [hcs]
  unfold u64v
  have : (UInt64.ofNat n).toNat = n := by
    rw [UInt64.toNat_ofNat']
    exact Nat.mod_eq_of_lt (by omega)
  rw [this]
theorem open_u8c {t : TypeId} (ht : P.underlying t = some (.int .u8)) (h : DataW.trod enc P w base (fun _ => true) held fuel t cs = some x) : ∃ n : UInt8, cs = [u8v n] := by
  obtain ⟨z, hcs, _, hw⟩ := DataW.trod_int ht h
  have hb := bounds_u8 hw
  obtain ⟨n, rfl⟩ := Int.eq_ofNat_of_zero_le hb.1
  refine ⟨UInt8.ofNat n, ?_⟩
  rw [hcs]
  unfold u8v
  have : (UInt8.ofNat n).toNat = n := by
    rw [UInt8.toNat_ofNat']
    exact Nat.mod_eq_of_lt (by omega)
  rw [this]
end
/-- a struct's fields: where each lies, its type -/
def laysF (fs : Array Field) : List (Nat × TypeId) := fs.toList.map fun f => (f.offset, f.type)
theorem struct_get {fs : Array Field} {l : List (Nat × TypeId)} (hl : laysF fs = l) (i : Nat) {o : Nat} {t : TypeId} (h : l[i]? = some (o, t)) : ∃ f, fs[i]? = some f ∧ f.offset = o ∧ f.type = t := by
  subst hl
  unfold laysF at h
  rw [List.getElem?_map] at h
  obtain ⟨f, hf, he⟩ := Option.map_eq_some_iff.1 h
  simp only [Prod.mk.injEq] at he
  exact ⟨f, by simpa using hf, he.1, he.2⟩
/-- field i of a struct that was read -/
theorem field_read {t : TypeId} {fs : Array Field} {l : List (Nat × TypeId)} {H : Type} {enc : TypeId × Value → H} {w : World} {base : Nat} {held : Bool} {fuel : Nat} {cs : List Value} {x : DataW H × List MemPlace}
    (ht : P.underlying t = some (.struct fs)) (hl : laysF fs = l) (h : DataW.trod enc P w base (fun _ => true) held fuel t cs = some x) :
    cs.length = P.cellsOf t ∧ ∃ n, ∀ (i o : Nat) (u : TypeId), l[i]? = some (o, u) → ∃ y, DataW.trod enc P w base (fun _ => true) held n u ((cs.drop o).take (P.cellsOf u)) = some y := by
  obtain ⟨xs, n, _, _, hlen, hxl, hf⟩ := DataW.trod_struct ht h
  refine ⟨hlen, n, fun i o u hi => ?_⟩
  obtain ⟨f, hfi, rfl, rfl⟩ := struct_get hl i hi
  have h1 := hf i f hfi
  have h2 : i < xs.length := by
    rw [hxl]
    exact (Array.getElem?_eq_some_iff.1 hfi).1
  rw [List.getElem?_eq_getElem h2] at h1
  exact ⟨_, h1⟩
theorem three_cells {cs : List Value} (h : cs.length = 3) : ∃ a b c, cs = [a, b, c] := by
  match cs, h with
  | [a, b, c], _ => exact ⟨a, b, c, rfl⟩
theorem four_cells {cs : List Value} (h : cs.length = 4) : ∃ a b c d, cs = [a, b, c, d] := by
  match cs, h with
  | [a, b, c, d], _ => exact ⟨a, b, c, d, rfl⟩
theorem opens_key {t tb u64 u8 : TypeId} {fs : Array Field} (ht : P.underlying t = some (.struct fs)) (hl : laysF fs = [(0, tb), (1, u64), (2, u8)]) (hc : P.cellsOf t = 3 ∧ P.cellsOf tb = 1 ∧ P.cellsOf u64 = 1 ∧ P.cellsOf u8 = 1)
    (hb : P.underlying tb = some (.slice u8)) (h64 : P.underlying u64 = some (.int .u64)) (h8 : P.underlying u8 = some (.int .u8)) : Opens P t KeyL := by
  intro H enc w base held fuel cs x h
  obtain ⟨hlen, n, hf⟩ := field_read ht hl h
  obtain ⟨a, b, c, rfl⟩ := three_cells (hlen.trans hc.1)
  obtain ⟨y0, h0⟩ := hf 0 0 tb rfl
  obtain ⟨y1, h1⟩ := hf 1 1 u64 rfl
  obtain ⟨y2, h2⟩ := hf 2 2 u8 rfl
  rw [hc.2.1] at h0
  rw [hc.2.2.1] at h1
  rw [hc.2.2.2] at h2
  simp at h0 h1 h2
  obtain ⟨l, v, e0, hv⟩ := opens_bytes hb h8 hc.2.2.2 H enc w base held n _ _ h0
  obtain ⟨s, e1⟩ := open_u64c h64 h1
  obtain ⟨k, e2⟩ := open_u8c h8 h2
  simp at e0 e1 e2
  subst e0 e1 e2
  exact ⟨⟨l, s, k⟩, a, rfl, hv⟩
theorem opens_span {t tb u64 u8 : TypeId} {fs : Array Field} (ht : P.underlying t = some (.struct fs)) (hl : laysF fs = [(0, tb), (1, tb), (2, u64)]) (hc : P.cellsOf t = 3 ∧ P.cellsOf tb = 1 ∧ P.cellsOf u64 = 1 ∧ P.cellsOf u8 = 1)
    (hb : P.underlying tb = some (.slice u8)) (h64 : P.underlying u64 = some (.int .u64)) (h8 : P.underlying u8 = some (.int .u8)) : Opens P t SpanL := by
  intro H enc w base held fuel cs x h
  obtain ⟨hlen, n, hf⟩ := field_read ht hl h
  obtain ⟨a, b, c, rfl⟩ := three_cells (hlen.trans hc.1)
  obtain ⟨y0, h0⟩ := hf 0 0 tb rfl
  obtain ⟨y1, h1⟩ := hf 1 1 tb rfl
  obtain ⟨y2, h2⟩ := hf 2 2 u64 rfl
  rw [hc.2.1] at h0 h1
  rw [hc.2.2.1] at h2
  simp at h0 h1 h2
  obtain ⟨l1, v1, e1, hv1⟩ := opens_bytes hb h8 hc.2.2.2 H enc w base held n _ _ h0
  obtain ⟨l2, v2, e2, hv2⟩ := opens_bytes hb h8 hc.2.2.2 H enc w base held n _ _ h1
  obtain ⟨s, e3⟩ := open_u64c h64 h2
  simp at e1 e2 e3
  subst e1 e2 e3
  exact ⟨⟨l1, l2, s⟩, a, b, rfl, hv1, hv2⟩
/-- an entry: a version (its three cells), then a value -/
theorem opens_ent {t tk tb u64 u8 : TypeId} {fs ks : Array Field} (ht : P.underlying t = some (.struct fs)) (hl : laysF fs = [(0, tk), (3, tb)]) (htk : P.underlying tk = some (.struct ks)) (hlk : laysF ks = [(0, tb), (1, u64), (2, u8)])
    (hc : P.cellsOf t = 4 ∧ P.cellsOf tk = 3 ∧ P.cellsOf tb = 1 ∧ P.cellsOf u64 = 1 ∧ P.cellsOf u8 = 1)
    (hb : P.underlying tb = some (.slice u8)) (h64 : P.underlying u64 = some (.int .u64)) (h8 : P.underlying u8 = some (.int .u8)) : Opens P t EntL := by
  intro H enc w base held fuel cs x h
  obtain ⟨hlen, n, hf⟩ := field_read ht hl h
  obtain ⟨a, b, c, d, rfl⟩ := four_cells (hlen.trans hc.1)
  obtain ⟨y0, h0⟩ := hf 0 0 tk rfl
  obtain ⟨y1, h1⟩ := hf 1 3 tb rfl
  rw [hc.2.1] at h0
  rw [hc.2.2.1] at h1
  simp at h0 h1
  obtain ⟨⟨u, s, k⟩, v, e, hv⟩ := opens_key htk hlk ⟨hc.2.1, hc.2.2.1, hc.2.2.2.1, hc.2.2.2.2⟩ hb h64 h8 H enc w base held n _ _ h0
  obtain ⟨l2, v2, e2, hv2⟩ := opens_bytes hb h8 hc.2.2.2.2 H enc w base held n _ _ h1
  simp at e e2
  obtain ⟨rfl, rfl, rfl⟩ := e
  subst e2
  exact ⟨⟨⟨u, s, k⟩, l2⟩, a, d, rfl, hv, hv2⟩
/-- a list of records that came in -/
theorem open_recs {α : Type} [Rep α] {t e : TypeId} (ht : P.underlying t = some (.slice e)) (hc : P.cellsOf e = Rep.size α) (ho : Opens P e α) {H : Type} {enc : TypeId × Value → H} {w : World} {base : Nat} {r : Reach} {b0 : Nat} {held : Bool} {v : Value} {d : DataW H} {p : List MemPlace}
    (hv : Value.okWide P w r b0 t v) (h : DataW.Trod enc P w base (fun _ => true) held t v d p) : ∃ (A : Option Addr) (n c : Nat) (ls : List α), v = .slice A n c ∧ SlR w (fun _ => True) A n c ls := by
  obtain ⟨a0, len, cap, rfl⟩ := okWide_slice ht hv
  obtain ⟨fuel, hf⟩ := h
  obtain ⟨A, n, c, ls, e, hs⟩ := open_rowC ht hc ho hf
  simp [Value.cells] at e
  obtain ⟨rfl, rfl, rfl⟩ := e
  exact ⟨_, _, _, ls, rfl, hs⟩
end
end Go.Proofs.YtpffieogkfndaaaDoor

namespace Go.Proofs.YtpffieogkfndaaaDoor
set_option maxRecDepth 20000
set_option linter.unusedVariables false
set_option linter.unusedSimpArgs false
open Go.ChangeShapes Go.WideShapes Go.ChangeAt Go.RowKit

theorem opensEnt : Opens Tryd.prog 45 EntL :=
  opens_ent (tk := 43) (tb := 29) (u64 := 41) (u8 := 5) Tryd.underlying45 (by kernel_rfl) Tryd.underlying43 (by kernel_rfl) ⟨by kernel_rfl, by kernel_rfl, by kernel_rfl, by kernel_rfl, by kernel_rfl⟩ Tryd.underlying29 Tryd.underlying41 Tryd.underlying5
theorem cellsEnt : Tryd.prog.cellsOf 45 = Rep.size EntL := by kernel_rfl
end Go.Proofs.YtpffieogkfndaaaDoor

namespace Go.Proofs.YtpffieogkfndaaaDoor
open Go.RowKit
set_option maxRecDepth 20000
set_option linter.unusedVariables false
set_option linter.unusedSimpArgs false

theorem less_iff (a b : KeyL) : lessKey a b = true ↔ cmpKey a b < 0 := by rw [← cmpKey_less]; simp
theorem less_trans {a b c : KeyL} (h1 : lessKey a b = true) (h2 : lessKey b c = true) : lessKey a c = true := by
  rw [less_iff] at *
  exact cmpKey_trans _ _ _ h1 h2
/-- whatever isn't ahead, nor the same, stands behind -/
theorem less_conn {a b : KeyL} (h1 : lessKey a b = false) (h2 : a ≠ b) : lessKey b a = true := by
  have h3 := cmpKey_val a b
  have h4 := cmpKey_zero a b
  have h5 := less_iff a b
  rw [h1] at h5
  simp at h5
  rw [less_iff, cmpKey_swap a b]
  have : cmpKey a b ≠ 0 := fun e => h2 (h4.1 e)
  omega
def Rises (l : List EntL) : Prop := l.Pairwise fun a b => lessKey a.key b.key = true
theorem rises_pair : ∀ l : List EntL, risesL l = true ↔ Rises l
  | [] => by simp [risesL, Rises]
  | [a] => by simp [risesL, Rises]
  | a :: b :: l => by
    have ih := rises_pair (b :: l)
    simp only [risesL, Bool.and_eq_true]
    rw [ih]
    unfold Rises
    rw [List.pairwise_cons (a := a)]
    constructor
    · rintro ⟨h1, h2⟩
      refine ⟨fun x hx => ?_, h2⟩
      rcases List.mem_cons.1 hx with rfl | hx
      · exact h1
      · exact less_trans h1 ((List.pairwise_cons.1 h2).1 x hx)
    · rintro ⟨h1, h2⟩
      exact ⟨h1 b (by simp), h2⟩
/-- the first that isn't ahead of k; the last that is -/
def fromL (l : List EntL) (k : KeyL) : Option EntL := l.find? fun x => !lessKey x.key k
def beforeL (l : List EntL) (k : KeyL) : Option EntL := (l.filter fun x => lessKey x.key k).getLast?
def aheadN (l : List EntL) (k : KeyL) : Nat := (l.filter fun x => lessKey x.key k).length
theorem place_split {l m : List EntL} {k : KeyL} (h1 : ∀ x ∈ l, lessKey x.key k = true) (h2 : ∀ x ∈ m, lessKey x.key k = false) :
    aheadN (l ++ m) k = l.length ∧ fromL (l ++ m) k = m.head? ∧ beforeL (l ++ m) k = l.getLast? := by
  have f1 : l.filter (fun x => lessKey x.key k) = l := List.filter_eq_self.2 h1
  have f2 : m.filter (fun x => lessKey x.key k) = [] := by
    rw [List.filter_eq_nil_iff]
    intro x hx
    rw [h2 x hx]
    simp
  refine ⟨?_, ?_, ?_⟩
  · unfold aheadN
    rw [List.filter_append, f1, f2, List.append_nil]
  · unfold fromL
    rw [List.find?_append]
    have e1 : l.find? (fun x => !lessKey x.key k) = none := by
      rw [List.find?_eq_none]
      intro x hx
      rw [h1 x hx]
      simp
    rw [e1]
    cases m with
    | nil => rfl
    | cons a m =>
      simp only [Option.none_or, List.head?_cons]
      rw [List.find?_cons, h2 a (by simp)]
      rfl
  · unfold beforeL
    rw [List.filter_append, f1, f2, List.append_nil]
/-- in order: what stands ahead of a place stands ahead, what stands behind stands behind -/
theorem rises_split {l : List EntL} (hr : Rises l) (k : KeyL) (i : Nat) (hi : i ≤ l.length) (h1 : ∀ x, 0 < i → l[i - 1]? = some x → lessKey x.key k = true) (h2 : ∀ x, l[i]? = some x → lessKey x.key k = false) :
    aheadN l k = i ∧ fromL l k = l[i]? ∧ beforeL l k = if i = 0 then none else l[i - 1]? := by
  have hs : l.take i ++ l.drop i = l := List.take_append_drop i l
  have hp : Rises (l.take i ++ l.drop i) := by rw [hs]; exact hr
  obtain ⟨p1, p2, p3⟩ := List.pairwise_append.1 hp
  have a1 : ∀ x ∈ l.take i, lessKey x.key k = true := by
    intro x hx
    obtain ⟨j, hj, rfl⟩ := List.getElem_of_mem hx
    rw [List.length_take] at hj
    rw [List.getElem_take]
    have hl : i - 1 < l.length := by omega
    have hlast := h1 l[i - 1] (by omega) (List.getElem?_eq_getElem hl)
    by_cases hji : j = i - 1
    · subst hji
      exact hlast
    · exact less_trans (List.pairwise_iff_getElem.1 hr j (i - 1) (by omega) hl (by omega)) hlast
  have a2 : ∀ x ∈ l.drop i, lessKey x.key k = false := by
    intro x hx
    obtain ⟨j, hj, rfl⟩ := List.getElem_of_mem hx
    rw [List.length_drop] at hj
    rw [List.getElem_drop]
    have hl : i < l.length := by omega
    have hfirst := h2 l[i] (List.getElem?_eq_getElem hl)
    by_cases hj0 : j = 0
    · subst hj0
      exact hfirst
    · rcases hc : lessKey l[i + j].key k with _ | _
      · rfl
      · have := less_trans (List.pairwise_iff_getElem.1 hr i (i + j) hl (by omega) (by omega)) hc
        rw [hfirst] at this
        cases this
  have := place_split a1 a2
  rw [hs] at this
  refine ⟨by rw [this.1, List.length_take]; omega, by rw [this.2.1, List.head?_drop], ?_⟩
  rw [this.2.2, List.getLast?_eq_getElem?, List.length_take, Nat.min_eq_left hi]
  split
  · rename_i h0
    subst h0
    simp
  · rw [List.getElem?_take, if_pos (by omega)]
/-- one more, in its place; nothing, if it is there or isn't right -/
def insL (out : List EntL) (e : EntL) : List EntL :=
  if (out.any fun x => decide (x.key = e.key)) = false ∧ checkEntL e = 0 then out.take (aheadN out e.key) ++ (e :: out.drop (aheadN out e.key)) else out
def sortL (l : List EntL) : List EntL := l.foldl insL []
theorem sortL_snoc (l : List EntL) (e : EntL) : sortL (l ++ [e]) = insL (sortL l) e := by simp [sortL]
theorem rises_place {l : List EntL} (hr : Rises l) (k : KeyL) : (∀ x ∈ l.take (aheadN l k), lessKey x.key k = true) ∧ (∀ x ∈ l.drop (aheadN l k), lessKey x.key k = false) := by
  induction l with
  | nil => simp
  | cons a l ih =>
    obtain ⟨h1, h2⟩ := List.pairwise_cons.1 hr
    obtain ⟨i1, i2⟩ := ih h2
    rcases hc : lessKey a.key k with _ | _
    · have hall : ∀ x ∈ l, lessKey x.key k = false := fun x hx => by
        rcases hx2 : lessKey x.key k with _ | _
        · rfl
        · have := less_trans (h1 x hx) hx2
          rw [hc] at this
          cases this
      have h0 : aheadN (a :: l) k = 0 := by
        unfold aheadN
        rw [List.filter_cons, hc]
        simp only [Bool.false_eq_true, if_false, List.length_eq_zero_iff, List.filter_eq_nil_iff]
        intro x hx
        rw [hall x hx]
        simp
      rw [h0]
      refine ⟨by simp, fun x hx => ?_⟩
      rcases List.mem_cons.1 (by simpa using hx) with rfl | hx
      · exact hc
      · exact hall x hx
    · have h0 : aheadN (a :: l) k = aheadN l k + 1 := by
        unfold aheadN
        rw [List.filter_cons, hc]
        rfl
      rw [h0]
      simp only [List.take_succ_cons, List.drop_succ_cons, List.mem_cons, forall_eq_or_imp]
      exact ⟨⟨hc, i1⟩, i2⟩
theorem ins_good {out : List EntL} (e : EntL) (hr : Rises out) (hc : ∀ x ∈ out, checkEntL x = 0) : Rises (insL out e) ∧ (∀ x ∈ insL out e, checkEntL x = 0) ∧ (insL out e).length ≤ out.length + 1 := by
  unfold insL
  split
  · rename_i h
    obtain ⟨h1, h2⟩ := h
    have hs := rises_place hr e.key
    have hn : ∀ x ∈ out, x.key ≠ e.key := fun x hx => by
      have := List.any_eq_false.1 h1 x hx
      simpa using this
    generalize aheadN out e.key = i at *
    have hp : Rises (out.take i ++ out.drop i) := by rw [List.take_append_drop]; exact hr
    obtain ⟨p1, p2, p3⟩ := List.pairwise_append.1 hp
    refine ⟨?_, ?_, ?_⟩
    · refine List.pairwise_append.2 ⟨p1, List.pairwise_cons.2 ⟨fun x hx => ?_, p2⟩, fun x hx y hy => ?_⟩
      · exact less_conn (hs.2 x hx) (hn x (List.mem_of_mem_drop hx))
      · rcases List.mem_cons.1 hy with rfl | hy
        · exact hs.1 x hx
        · exact p3 x hx y hy
    · intro x hx
      rcases List.mem_append.1 hx with hx | hx
      · exact hc x (List.mem_of_mem_take hx)
      · rcases List.mem_cons.1 hx with rfl | hx
        · exact h2
        · exact hc x (List.mem_of_mem_drop hx)
    · simp only [List.length_append, List.length_take, List.length_cons, List.length_drop]
      omega
  · exact ⟨hr, hc, by omega⟩
theorem foldl_good : ∀ (l out : List EntL), Rises out → (∀ x ∈ out, checkEntL x = 0) → Rises (l.foldl insL out) ∧ (∀ x ∈ l.foldl insL out, checkEntL x = 0) ∧ (l.foldl insL out).length ≤ out.length + l.length
  | [], out, h1, h2 => ⟨h1, h2, by simp⟩
  | e :: l, out, h1, h2 => by
    obtain ⟨a, b, c⟩ := ins_good e h1 h2
    obtain ⟨a', b', c'⟩ := foldl_good l (insL out e) a b
    refine ⟨a', b', ?_⟩
    simp only [List.foldl_cons, List.length_cons]
    omega
theorem sortL_good (l : List EntL) : Rises (sortL l) ∧ (∀ x ∈ sortL l, checkEntL x = 0) ∧ (sortL l).length ≤ l.length := by
  have := foldl_good l [] List.Pairwise.nil (by simp)
  simpa [sortL] using this
theorem leaf_len (l : List EntL) (h : checkLeafL l = 0) : (leafBytesL l).length ≤ 40000 ∧ 2 ≤ (leafBytesL l).length := by
  obtain ⟨h1, h2, _⟩ := checkLeaf_zero h
  have hb := leafBody_len l 0 [] h2
  have hs := starts_len l
  unfold leafBytesL
  simp only [List.length_append, twosL_len, hs, twoL, List.length_cons, List.length_nil]
  omega
end Go.Proofs.YtpffieogkfndaaaDoor

namespace Go.Proofs.YtpffieogkfndaaaDoor
open Go.RowKit
set_option maxRecDepth 20000
set_option linter.unusedVariables false
set_option linter.unusedSimpArgs false
theorem step_appR {α : Type} [Rep α] {ops : Array Oper} {o : Oper} {a : Act} {w : World} {K : Act → World → Prop} {Q : Exit → Act → World → Prop} {E : Prop} (hgd : o.guard = none) (s x : Operand) (t : TypeId)
    (ho : o.op = .call { callee := .builtin .append, args := #[s, x], argTypes := #[t, t] })
    (B : Nat) (e : TypeId) (z : Value) (bytes : Nat) (ht : Tryd.prog.underlying t = some (.slice e)) (hi : (Tryd.prog.info? e).map (fun i => (i.zero, i.size, i.bytes)) = some (some z, Rep.size α, bytes))
    (hzs : z.cells.size = Rep.size α)
    (A : Option Addr) (n c : Nat) (ls : List α) (hsv : a.eval s = .slice A n c) (hown : OwnR w B e A n c ls)
    (p : Nat → Prop) (A2 : Option Addr) (m c2 : Nat) (ms : List α) (hx : a.eval x = .slice A2 m c2) (hs : ∃ xs, Sl w (Rep.size α) A2 m c2 xs ∧ RowC w p xs ms) (hp : ∀ b, b < w.heap.size → p b → b < B ∨ NotTy w e b)
    (h63 : n + m ≤ maxLen) (hbytes : (n + m) * bytes ≤ 140737488355328) (hB : B ≤ w.heap.size)
    (h : ∀ A' c' w', OwnR w' B e A' (n + m) c' (ls ++ ms) → w.grownBy w' (blk A c) → (blk A' c' = blk A c ∨ blk A' c' = some w.heap.size) → K (a.put o.dst (.slice A' (n + m) c')) w') :
    if Region.wanted o (yielded ops a.tmps) = true then Oper.wp Tryd.prog o a w K Q else E := by
  have hw : Region.wanted o (yielded ops a.tmps) = true := by simp [Region.wanted, hgd]
  rw [if_pos hw]
  obtain ⟨i, hi1, hz, hs1, hb1⟩ := info_parts hi
  obtain ⟨xs, hO, hR⟩ := hown
  obtain ⟨ys, hS, hR2⟩ := hs
  obtain ⟨A', c', w', hrun, h2, h3, h4⟩ := run_append_own2 (P := Tryd.prog) w B t o.type e i _ (Rep.size α) bytes ht hi1 hz hs1 hb1 hzs A n c xs hO A2 m c2 ys hS hR2.one h63 hbytes hB
  unfold Oper.wp execOp
  simp only [ho, resolve, invoke, builtin, Sem.run_bind, Sem.run_pure, Result.andThen_ok, List.map_toArray, List.map_cons, List.map_nil, hsv, hx, hrun]
  exact h A' c' w' ⟨_, h2, (hR.move (grown_apart hO h3)).append (hR2.move fun b hl hpb => grown_apart hO h3 b hl (hp b hl hpb))⟩ h3 h4
end Go.Proofs.YtpffieogkfndaaaDoor

namespace Go.Proofs.YtpffieogkfndaaaDoor
open Go.RowKit
set_option maxRecDepth 20000
set_option linter.unusedVariables false
set_option linter.unusedSimpArgs false
theorem Bk.ownT {w : World} {B : Nat} {e e' : TypeId} {A : Option Addr} {n c : Nat} {l : List UInt8} (hne : e ≠ e') (h : Own w B e 1 A n c (bc l)) : Bk w (NotTy w e') (.slice A n c) l := by
  refine ⟨A, n, c, rfl, h.sl, fun b hn hb cur fr hh => ?_⟩
  obtain ⟨g, o, cur', rfl, _, hh', _⟩ := h.row (by have := h.cap; omega)
  simp at hb
  subst hb
  rw [hh'] at hh
  simp at hh
  exact hne hh.2.1
end Go.Proofs.YtpffieogkfndaaaDoor

namespace Go.Proofs.YtpffieogkfndaaaDoor
open Go.RowKit
set_option maxRecDepth 20000
set_option linter.unusedVariables false
set_option linter.unusedSimpArgs false
set_option maxHeartbeats 2000000 in
theorem after_any (w : World) (A : Option Addr) (n c : Nat) (l : List UInt8) (h : Sl w 1 A n c (bc l)) (hn : n ≤ 1000000) :
    Calls Tryd.prog 46 #[.slice A n c] w (NewB w (l ++ [0])) := by
  have hl := h.lenb
  have cc := fun w' (hb : Below w.heap.size w w') => clone_any w' A n c l (h.below (by omega) hb) (by omega)
  have Cc := Lib.hid cc
  have Hl := Lib.hid hl
  clear cc hl h
  go_enter Tryd.func46, Tryd.ntmps46
  go_wp2_with fail
  refine (Cc.out _ (Below.refl _ _)).mono ?_
  rintro e w1 ⟨A1, n1, c1, rfl, ho, hb⟩
  have e1 := ho.len'
  have hsz := hb.size
  have hlit : Sl (w1.alloc (.cells #[.int .u8 0] 5)) 1 (some ⟨w1.heap.size, 0, none⟩) 1 1 (bc [0]) := Sl.lit w1 _ _ 1 _ _ rfl (by unfold maxLen; omega) rfl
  have hoa : OwnB (w1.alloc (.cells #[.int .u8 0] 5)) w.heap.size A1 n1 c1 l := Own.below ho ((Below.refl w1.heap.size w1).alloc (Nat.le_refl _) _)
  have E1 := Lib.hid e1
  clear e1 ho
  go_wp2_with (at_builtin; refine wpList_appB _ rfl (.tmp 4) (.tmp 5) rfl w.heap.size A1 n1 c1 _ rfl hoa _ 1 1 _ rfl hlit ?_ ?_ ?_)
  · have h1 := E1.out; have h2 := Hl.out; omega
  · simp; omega
  intro A2 c2 w2 ho2 hg2 _
  go_wp2
  go_ret
  exact ⟨A2, _, c2, rfl, ho2, (hb.alloc hsz _).grown hg2 (by simp; omega) (fun q hq => (Own.lt hoa q hq).1)⟩
end Go.Proofs.YtpffieogkfndaaaDoor

namespace Go.Proofs.YtpffieogkfndaaaDoor
set_option maxRecDepth 20000
set_option linter.unusedVariables false
set_option linter.unusedSimpArgs false
def bndStep (b : List UInt8 × List UInt8) (s : SpanL) : List UInt8 × List UInt8 := (if b.1.length = 0 ∨ ltL s.lo b.1 = true then s.lo else b.1, if ltL b.2 s.hi = true then s.hi else b.2)
def bndL (l : List EntL) : List UInt8 × List UInt8 := match l.head?, l.getLast? with
  | some a, some z => (a.key.user, z.key.user ++ [0])
  | _, _ => ([], [])
def boundsL (l : List EntL) (sp : List SpanL) : List UInt8 × List UInt8 := sp.foldl bndStep (bndL l)
end Go.Proofs.YtpffieogkfndaaaDoor

namespace Go.Proofs.YtpffieogkfndaaaDoor
open Go.RowKit
set_option maxRecDepth 20000
set_option linter.unusedVariables false
set_option linter.unusedSimpArgs false
theorem takeText_len (p : List UInt8) (m : Int) : (takeTextL p m).2.1.length ≤ p.length := by
  have h := takeL_len p
  unfold takeTextL
  repeat' split
  · simp
  · simp
  · simp
  · simp only [List.length_drop]
    omega
end Go.Proofs.YtpffieogkfndaaaDoor
