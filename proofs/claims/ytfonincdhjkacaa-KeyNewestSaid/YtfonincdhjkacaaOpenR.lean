/-
  From a row's reading of its arguments to records and lists of records, in the words of the walks. No condition.
-/
import Derived.Test.YtfonincdhjkacaaOpen
import Derived.Test.YtfonincdhjkacaaRecs
namespace Go.Proofs.Ytfonincdhjkacaa
set_option maxRecDepth 20000
open Go.ChangeShapes Go.WideShapes Go.ChangeAt Go.RowKit Go.Deep

/-- whatever reads as a datum of type t is cells of an α -/
def Opens (P : Program) (t : TypeId) (α : Type) [Rep α] : Prop :=
  ∀ (H : Type) (enc : TypeId × Value → H) (w : World) (base : Nat) (held : Bool) (fuel : Nat) (cs : List Value) (x : DataW H × List MemPlace),
    DataW.trod enc P w base (fun _ => true) held fuel t cs = some x → ∃ a : α, Rep.cells w (fun _ => True) cs a
section
variable {P : Program}
theorem row_of {α : Type} [Rep α] {w : World} : ∀ (n : Nat) (f : Nat → List Value), (∀ i, i < n → ∃ a : α, Rep.cells w (fun _ => True) (f i) a) → ∃ ls : List α, ls.length = n ∧ RowC w (fun _ => True) ((List.range n).flatMap f) ls
  | 0, _, _ => ⟨[], rfl, by simp [RowC]⟩
  | n + 1, f, h => by
    obtain ⟨ls, hl, hr⟩ := row_of n f fun i hi => h i (by omega)
    obtain ⟨a, ha⟩ := h n (by omega)
    refine ⟨ls ++ [a], by simp [hl], ?_⟩
    rw [List.range_succ, List.flatMap_append]
    exact hr.append (by simpa using RowC.single ha)
theorem flat_get {f : Nat → List Value} {s : Nat} : ∀ (n : Nat), (∀ i, i < n → (f i).length = s) → ∀ j, j < n * s → ((List.range n).flatMap f)[j]? = (f (j / s))[j % s]?
  | 0, _, j, hj => by omega
  | n + 1, h, j, hj => by
    have hl : ((List.range n).flatMap f).length = n * s := by
      rw [List.length_flatMap]
      have : (List.range n).map (fun i => (f i).length) = List.replicate n s := by
        rw [List.eq_replicate_iff]
        refine ⟨by simp, fun b hb => ?_⟩
        obtain ⟨i, hi, rfl⟩ := List.mem_map.1 hb
        exact h i (by have := List.mem_range.1 hi; omega)
      rw [this]
      simp
    rw [List.range_succ, List.flatMap_append]
    rcases Nat.lt_or_ge j (n * s) with h1 | h1
    · rw [List.getElem?_append_left (by omega)]
      exact flat_get n (fun i hi => h i (by omega)) j h1
    · rw [List.getElem?_append_right (by omega), hl]
      have hs : 0 < s := by
        rcases Nat.eq_zero_or_pos s with h0 | h0
        · subst h0; omega
        · exact h0
      rw [Nat.add_mul, Nat.one_mul] at hj
      have e1 : j / s = n := by
        rw [Nat.div_eq_iff hs]
        constructor
        · omega
        · omega
      have e2 : j % s = j - n * s := by
        have := Nat.div_add_mod j s
        rw [e1, Nat.mul_comm] at this
        omega
      rw [e1, e2]
      simp
/-- cells of a slice -/
theorem open_rowC {α : Type} [Rep α] {t e : TypeId} (ht : P.underlying t = some (.slice e)) (hc : P.cellsOf e = Rep.size α) (ho : Opens P e α)
    {H : Type} {enc : TypeId × Value → H} {w : World} {base : Nat} {held : Bool} {fuel : Nat} {cs : List Value} {x : DataW H × List MemPlace} (h : DataW.trod enc P w base (fun _ => true) held fuel t cs = some x) :
    ∃ (A : Option Addr) (n c : Nat) (ls : List α), cs = [.slice A n c] ∧ SlR w (fun _ => True) A n c ls := by
  rcases open_slice ht h with ⟨hcs, hx⟩ | ⟨a, len, cap, m, k, D, Pl, hcs, _, hl, hm, hmm, hx, hcell⟩
  · exact ⟨none, 0, 0, [], hcs, SlR.nilnil _ _⟩
  · simp only [↓reduceIte] at hmm
    subst hmm
    obtain ⟨f, hf⟩ := choose_lt (α := List Value) (p := fun i cs' => w.cells? base (a.add (i * P.cellsOf e)) (P.cellsOf e) = some cs' ∧ DataW.trod enc P w base (fun _ => true) held k e cs' = some (D i, Pl i)) hcell
    have hR : ∀ i, i < len → ∃ b : α, Rep.cells w (fun _ => True) (f i) b := fun i hi => ho H enc w base held k (f i) _ (hf i (by omega)).2
    obtain ⟨ls, hls, hrow⟩ := row_of (α := α) len f hR
    refine ⟨_, _, _, ls, hcs, _, ⟨by rw [hrow.len, hls], hl, hm, fun h0 => ?_⟩, hrow, fun _ _ _ => trivial⟩
    have hpos : 0 < Rep.size α := Rep.pos
    have ha : a = ⟨a.block, a.off, none⟩ := by
      have h1 := (hf 0 (by omega)).1
      obtain ⟨_, h2, h3⟩ := World.cells?_some h1
      have h4 := h3 0 (by omega)
      have h5 : 0 < (f 0).length := by omega
      rw [List.getElem?_eq_getElem h5] at h4
      exact addr_plain (by simpa [Addr.add] using h4)
    refine ⟨a.block, a.off, congrArg some ha, fun j u hu => ?_⟩
    have hflen : ∀ i, i < len → (f i).length = Rep.size α := fun i hi => by
      obtain ⟨b, hb⟩ := hR i hi
      exact Rep.len hb
    have hj : j < len * Rep.size α := by
      have h1 := (List.getElem?_eq_some_iff.1 hu).1
      rw [hrow.len, hls] at h1
      exact h1
    rw [flat_get len hflen j hj] at hu
    have hi : j / Rep.size α < len := (Nat.div_lt_iff_lt_mul hpos).2 hj
    obtain ⟨_, h2, h3⟩ := World.cells?_some (hf _ (show j / Rep.size α < m by omega)).1
    have hmod : j % Rep.size α < Rep.size α := Nat.mod_lt _ hpos
    have h4 := h3 (j % Rep.size α) (by omega)
    rw [hu] at h4
    rw [ha, hc] at h4
    rw [Addr.add_lit, Addr.add_lit, Nat.add_assoc] at h4
    have e1 : j / Rep.size α * Rep.size α + j % Rep.size α = j := by
      rw [Nat.mul_comm]
      exact Nat.div_add_mod j _
    rw [e1] at h4
    exact h4
theorem opens_bytes {t e : TypeId} (ht : P.underlying t = some (.slice e)) (he : P.underlying e = some (.int .u8)) (hc : P.cellsOf e = 1) : Opens P t (List UInt8) := by
  intro H enc w base held fuel cs x h
  rcases open_ints ht he hc h with ⟨hcs, hx⟩ | ⟨a, len', cap', zs, hcs, _, hl, hm, hz, hx, hcell, hwz⟩
  · exact ⟨[], _, hcs, none, 0, 0, rfl, Sl.nil _ _ _ _ (Nat.zero_le _), fun _ _ _ => trivial⟩
  · simp only [↓reduceIte] at hz
    obtain ⟨l, hlen, hcl⟩ := byte_cells (n := len') (by omega) (fun i hi => hcell i (by omega)) hwz
    refine ⟨l, _, hcs, some a, len', cap', rfl, ⟨by simp [hlen], hl, hm, fun h0 => ?_⟩, fun _ _ _ => trivial⟩
    obtain ⟨ha, hc'⟩ := hcl h0
    exact ⟨a.block, a.off, congrArg some ha, hc'⟩
theorem one_bytes {w : World} {cs : List Value} {l : List UInt8} (h : Rep.cells w (fun _ => True) cs l) : ∃ v, cs = [v] ∧ Bk w (fun _ => True) v l := h
section
variable {H : Type} {enc : TypeId × Value → H} {w : World} {base : Nat} {held : Bool} {fuel : Nat} {cs : List Value} {x : DataW H × List MemPlace}
theorem open_u64c {t : TypeId} (ht : P.underlying t = some (.int .u64)) (h : DataW.trod enc P w base (fun _ => true) held fuel t cs = some x) : ∃ n : UInt64, cs = [u64v n] := by
  obtain ⟨z, hcs, _, hw⟩ := DataW.trod_int ht h
  have hb := bounds_u64 hw
  obtain ⟨n, rfl⟩ := Int.eq_ofNat_of_zero_le hb.1
  refine ⟨UInt64.ofNat n, ?_⟩
  rw [hcs]
  unfold u64v
  have : (UInt64.ofNat n).toNat = n := by
    rw [UInt64.toNat_ofNat']
    exact Nat.mod_eq_of_lt (by omega)
  rw [this]
theorem open_u8c {t : TypeId} (ht : P.underlying t = some (.int .u8)) (h : DataW.trod enc P w base (fun _ => true) held fuel t cs = some x) : ∃ n : UInt8, cs = [u8v n] := by
  obtain ⟨z, hcs, _, hw⟩ := DataW.trod_int ht h
  have hb := bounds_u8 hw
  obtain ⟨n, rfl⟩ := Int.eq_ofNat_of_zero_le hb.1
  refine ⟨UInt8.ofNat n, ?_⟩
  rw [hcs]
  unfold u8v
  have : (UInt8.ofNat n).toNat = n := by
    rw [UInt8.toNat_ofNat']
    exact Nat.mod_eq_of_lt (by omega)
  rw [this]
end
theorem opens_u64 {t : TypeId} (ht : P.underlying t = some (.int .u64)) : Opens P t UInt64 := by
  intro H enc w base held fuel cs x h
  exact open_u64c ht h
/-- a struct's fields: where each lies, its type -/
def laysF (fs : Array Field) : List (Nat × TypeId) := fs.toList.map fun f => (f.offset, f.type)
theorem struct_get {fs : Array Field} {l : List (Nat × TypeId)} (hl : laysF fs = l) (i : Nat) {o : Nat} {t : TypeId} (h : l[i]? = some (o, t)) : ∃ f, fs[i]? = some f ∧ f.offset = o ∧ f.type = t := by
  subst hl
  unfold laysF at h
  rw [List.getElem?_map] at h
  obtain ⟨f, hf, he⟩ := Option.map_eq_some_iff.1 h
  simp only [Prod.mk.injEq] at he
  exact ⟨f, by simpa using hf, he.1, he.2⟩
/-- field i of a struct that was read -/
theorem field_read {t : TypeId} {fs : Array Field} {l : List (Nat × TypeId)} {H : Type} {enc : TypeId × Value → H} {w : World} {base : Nat} {held : Bool} {fuel : Nat} {cs : List Value} {x : DataW H × List MemPlace}
    (ht : P.underlying t = some (.struct fs)) (hl : laysF fs = l) (h : DataW.trod enc P w base (fun _ => true) held fuel t cs = some x) :
    cs.length = P.cellsOf t ∧ ∃ n, ∀ (i o : Nat) (u : TypeId), l[i]? = some (o, u) → ∃ y, DataW.trod enc P w base (fun _ => true) held n u ((cs.drop o).take (P.cellsOf u)) = some y := by
  obtain ⟨xs, n, _, _, hlen, hxl, hf⟩ := DataW.trod_struct ht h
  refine ⟨hlen, n, fun i o u hi => ?_⟩
  obtain ⟨f, hfi, rfl, rfl⟩ := struct_get hl i hi
  have h1 := hf i f hfi
  have h2 : i < xs.length := by
    rw [hxl]
    exact (Array.getElem?_eq_some_iff.1 hfi).1
  rw [List.getElem?_eq_getElem h2] at h1
  exact ⟨_, h1⟩
theorem three_cells {cs : List Value} (h : cs.length = 3) : ∃ a b c, cs = [a, b, c] := by
  match cs, h with
  | [a, b, c], _ => exact ⟨a, b, c, rfl⟩
theorem four_cells {cs : List Value} (h : cs.length = 4) : ∃ a b c d, cs = [a, b, c, d] := by
  match cs, h with
  | [a, b, c, d], _ => exact ⟨a, b, c, d, rfl⟩
theorem opens_key {t tb u64 u8 : TypeId} {fs : Array Field} (ht : P.underlying t = some (.struct fs)) (hl : laysF fs = [(0, tb), (1, u64), (2, u8)]) (hc : P.cellsOf t = 3 ∧ P.cellsOf tb = 1 ∧ P.cellsOf u64 = 1 ∧ P.cellsOf u8 = 1)
    (hb : P.underlying tb = some (.slice u8)) (h64 : P.underlying u64 = some (.int .u64)) (h8 : P.underlying u8 = some (.int .u8)) : Opens P t KeyL := by
  intro H enc w base held fuel cs x h
  obtain ⟨hlen, n, hf⟩ := field_read ht hl h
  obtain ⟨a, b, c, rfl⟩ := three_cells (hlen.trans hc.1)
  obtain ⟨y0, h0⟩ := hf 0 0 tb rfl
  obtain ⟨y1, h1⟩ := hf 1 1 u64 rfl
  obtain ⟨y2, h2⟩ := hf 2 2 u8 rfl
  rw [hc.2.1] at h0
  rw [hc.2.2.1] at h1
  rw [hc.2.2.2] at h2
  simp at h0 h1 h2
  obtain ⟨l, v, e0, hv⟩ := opens_bytes hb h8 hc.2.2.2 H enc w base held n _ _ h0
  obtain ⟨s, e1⟩ := open_u64c h64 h1
  obtain ⟨k, e2⟩ := open_u8c h8 h2
  simp at e0 e1 e2
  subst e0 e1 e2
  exact ⟨⟨l, s, k⟩, a, rfl, hv⟩
theorem opens_op {t tb u8 : TypeId} {fs : Array Field} (ht : P.underlying t = some (.struct fs)) (hl : laysF fs = [(0, u8), (1, tb), (2, tb)]) (hc : P.cellsOf t = 3 ∧ P.cellsOf tb = 1 ∧ P.cellsOf u8 = 1)
    (hb : P.underlying tb = some (.slice u8)) (h8 : P.underlying u8 = some (.int .u8)) : Opens P t OpL := by
  intro H enc w base held fuel cs x h
  obtain ⟨hlen, n, hf⟩ := field_read ht hl h
  obtain ⟨a, b, c, rfl⟩ := three_cells (hlen.trans hc.1)
  obtain ⟨y0, h0⟩ := hf 0 0 u8 rfl
  obtain ⟨y1, h1⟩ := hf 1 1 tb rfl
  obtain ⟨y2, h2⟩ := hf 2 2 tb rfl
  rw [hc.2.2] at h0
  rw [hc.2.1] at h1 h2
  simp at h0 h1 h2
  obtain ⟨k, e0⟩ := open_u8c h8 h0
  obtain ⟨l1, v1, e1, hv1⟩ := opens_bytes hb h8 hc.2.2 H enc w base held n _ _ h1
  obtain ⟨l2, v2, e2, hv2⟩ := opens_bytes hb h8 hc.2.2 H enc w base held n _ _ h2
  simp at e0 e1 e2
  subst e0 e1 e2
  exact ⟨⟨k, l1, l2⟩, b, c, rfl, hv1, hv2⟩
theorem opens_span {t tb u64 u8 : TypeId} {fs : Array Field} (ht : P.underlying t = some (.struct fs)) (hl : laysF fs = [(0, tb), (1, tb), (2, u64)]) (hc : P.cellsOf t = 3 ∧ P.cellsOf tb = 1 ∧ P.cellsOf u64 = 1 ∧ P.cellsOf u8 = 1)
    (hb : P.underlying tb = some (.slice u8)) (h64 : P.underlying u64 = some (.int .u64)) (h8 : P.underlying u8 = some (.int .u8)) : Opens P t SpanL := by
  intro H enc w base held fuel cs x h
  obtain ⟨hlen, n, hf⟩ := field_read ht hl h
  obtain ⟨a, b, c, rfl⟩ := three_cells (hlen.trans hc.1)
  obtain ⟨y0, h0⟩ := hf 0 0 tb rfl
  obtain ⟨y1, h1⟩ := hf 1 1 tb rfl
  obtain ⟨y2, h2⟩ := hf 2 2 u64 rfl
  rw [hc.2.1] at h0 h1
  rw [hc.2.2.1] at h2
  simp at h0 h1 h2
  obtain ⟨l1, v1, e1, hv1⟩ := opens_bytes hb h8 hc.2.2.2 H enc w base held n _ _ h0
  obtain ⟨l2, v2, e2, hv2⟩ := opens_bytes hb h8 hc.2.2.2 H enc w base held n _ _ h1
  obtain ⟨s, e3⟩ := open_u64c h64 h2
  simp at e1 e2 e3
  subst e1 e2 e3
  exact ⟨⟨l1, l2, s⟩, a, b, rfl, hv1, hv2⟩
/-- an entry: a version (its three cells), then a value -/
theorem opens_ent {t tk tb u64 u8 : TypeId} {fs ks : Array Field} (ht : P.underlying t = some (.struct fs)) (hl : laysF fs = [(0, tk), (3, tb)]) (htk : P.underlying tk = some (.struct ks)) (hlk : laysF ks = [(0, tb), (1, u64), (2, u8)])
    (hc : P.cellsOf t = 4 ∧ P.cellsOf tk = 3 ∧ P.cellsOf tb = 1 ∧ P.cellsOf u64 = 1 ∧ P.cellsOf u8 = 1)
    (hb : P.underlying tb = some (.slice u8)) (h64 : P.underlying u64 = some (.int .u64)) (h8 : P.underlying u8 = some (.int .u8)) : Opens P t EntL := by
  intro H enc w base held fuel cs x h
  obtain ⟨hlen, n, hf⟩ := field_read ht hl h
  obtain ⟨a, b, c, d, rfl⟩ := four_cells (hlen.trans hc.1)
  obtain ⟨y0, h0⟩ := hf 0 0 tk rfl
  obtain ⟨y1, h1⟩ := hf 1 3 tb rfl
  rw [hc.2.1] at h0
  rw [hc.2.2.1] at h1
  simp at h0 h1
  obtain ⟨⟨u, s, k⟩, v, e, hv⟩ := opens_key htk hlk ⟨hc.2.1, hc.2.2.1, hc.2.2.2.1, hc.2.2.2.2⟩ hb h64 h8 H enc w base held n _ _ h0
  obtain ⟨l2, v2, e2, hv2⟩ := opens_bytes hb h8 hc.2.2.2.2 H enc w base held n _ _ h1
  simp at e e2
  obtain ⟨rfl, rfl, rfl⟩ := e
  subst e2
  exact ⟨⟨⟨u, s, k⟩, l2⟩, a, d, rfl, hv, hv2⟩
theorem opens_note {t tb to top u64 u8 : TypeId} {fs os : Array Field} (ht : P.underlying t = some (.struct fs)) (hl : laysF fs = [(0, u8), (1, u64), (2, tb), (3, to)]) (hto : P.underlying to = some (.slice top)) (htop : P.underlying top = some (.struct os))
    (hlo : laysF os = [(0, u8), (1, tb), (2, tb)]) (hc : P.cellsOf t = 4 ∧ P.cellsOf to = 1 ∧ P.cellsOf top = 3 ∧ P.cellsOf tb = 1 ∧ P.cellsOf u64 = 1 ∧ P.cellsOf u8 = 1)
    (hb : P.underlying tb = some (.slice u8)) (h64 : P.underlying u64 = some (.int .u64)) (h8 : P.underlying u8 = some (.int .u8)) : Opens P t NoteL := by
  intro H enc w base held fuel cs x h
  obtain ⟨hlen, n, hf⟩ := field_read ht hl h
  obtain ⟨a, b, c, d, rfl⟩ := four_cells (hlen.trans hc.1)
  obtain ⟨y0, h0⟩ := hf 0 0 u8 rfl
  obtain ⟨y1, h1⟩ := hf 1 1 u64 rfl
  obtain ⟨y2, h2⟩ := hf 2 2 tb rfl
  obtain ⟨y3, h3⟩ := hf 3 3 to rfl
  rw [hc.2.2.2.2.2] at h0
  rw [hc.2.2.2.2.1] at h1
  rw [hc.2.2.2.1] at h2
  rw [hc.2.1] at h3
  simp at h0 h1 h2 h3
  obtain ⟨k, e0⟩ := open_u8c h8 h0
  obtain ⟨s, e1⟩ := open_u64c h64 h1
  obtain ⟨l2, v2, e2, hv2⟩ := opens_bytes hb h8 hc.2.2.2.2.2 H enc w base held n _ _ h2
  obtain ⟨A, m, cc, ops, e3, ho⟩ := open_rowC (α := OpL) hto hc.2.2.1 (opens_op htop hlo ⟨hc.2.2.1, hc.2.2.2.1, hc.2.2.2.2.2⟩ hb h8) h3
  simp at e0 e1 e2 e3
  subst e0 e1 e2 e3
  exact ⟨⟨k, s, l2, ops⟩, c, A, m, cc, rfl, hv2, ho⟩
/-- a struct that came in -/
theorem open_rec {α : Type} [Rep α] {t : TypeId} {fs : Array Field} (ht : P.underlying t = some (.struct fs)) (ho : Opens P t α) {H : Type} {enc : TypeId × Value → H} {w : World} {base : Nat} {r : Reach} {b0 : Nat} {held : Bool} {v : Value} {d : DataW H} {p : List MemPlace}
    (hv : Value.okWide P w r b0 t v) (h : DataW.Trod enc P w base (fun _ => true) held t v d p) : ∃ (cs : List Value) (a : α), v = .agg cs.toArray ∧ Rep.cells w (fun _ => True) cs a := by
  obtain ⟨cs, rfl, _⟩ := okWide_struct ht hv
  obtain ⟨fuel, hf⟩ := h
  obtain ⟨a, ha⟩ := ho H enc w base held fuel _ _ hf
  exact ⟨cs.toList, a, by simp, by simpa [Value.cells] using ha⟩
/-- a list of records that came in -/
theorem open_recs {α : Type} [Rep α] {t e : TypeId} (ht : P.underlying t = some (.slice e)) (hc : P.cellsOf e = Rep.size α) (ho : Opens P e α) {H : Type} {enc : TypeId × Value → H} {w : World} {base : Nat} {r : Reach} {b0 : Nat} {held : Bool} {v : Value} {d : DataW H} {p : List MemPlace}
    (hv : Value.okWide P w r b0 t v) (h : DataW.Trod enc P w base (fun _ => true) held t v d p) : ∃ (A : Option Addr) (n c : Nat) (ls : List α), v = .slice A n c ∧ SlR w (fun _ => True) A n c ls := by
  obtain ⟨a0, len, cap, rfl⟩ := okWide_slice ht hv
  obtain ⟨fuel, hf⟩ := h
  obtain ⟨A, n, c, ls, e, hs⟩ := open_rowC ht hc ho hf
  simp [Value.cells] at e
  obtain ⟨rfl, rfl, rfl⟩ := e
  exact ⟨_, _, _, ls, rfl, hs⟩
end
end Go.Proofs.Ytfonincdhjkacaa
