/-
  From a row's reading of its arguments to the words of the walks, and back: bytes, lists of bytes, numbers; and the last step of a law that returns true, whatever its arguments. No condition.
-/
import Derived.Test.YtfonincdhjkacaaLib
import Derived.ProofKit
import Derived.OpenShut
import Derived.Carry
import Derived.Deep.Matrix
namespace Go.Proofs.Ytfonincdhjkacaa
set_option maxRecDepth 20000
open Go.ChangeShapes Go.WideShapes Go.ChangeAt Go.RowKit Go.Deep

section
variable {H : Type} {enc : TypeId × Value → H} {P : Program}
/-- what was read reads the same where nothing of it has turned -/
theorem trodAll_keep (hl : laidOutB P = true) {W W' : World} {sp : Nat → Bool} : ∀ (ts : List TypeId) (vs : List Value) (ds : List (DataW H)) (ps : List MemPlace), (∀ t ∈ ts, P.readableRec t = true ∧ t < P.types.size) →
    DataW.TrodAll enc P W 0 (fun _ => true) true ts vs ds ps → (∀ x ∈ ps, W.sameAt W' x) → (∀ x ∈ ps, sp x.block = true) → DataW.TrodAll enc P W' 0 sp true ts vs ds ps
  | [], vs, ds, ps, _, h, _, _ => by
    obtain ⟨rfl, rfl, rfl⟩ := trodAll_nil h
    exact trodAll_mk0
  | t :: ts, vs, ds, ps, hr, h, hs, hp => by
    obtain ⟨v, vs', d, ds', p, q, rfl, rfl, rfl, h0, h1⟩ := trodAll_cons h
    have hr0 := hr t (by simp)
    exact trodAll_cons_mk (WideElems.Trod_stays hl hr0.1 hr0.2 h0 (fun x hx => hs x (by simp [hx])) (fun x hx => hp x (by simp [hx])))
      (trodAll_keep hl ts vs' ds' q (fun u hu => hr u (by simp [hu])) h1 (fun x hx => hs x (by simp [hx])) (fun x hx => hp x (by simp [hx])))

/-- THE LAST STEP OF A LAW: it has returned true and written new memory alone -/
theorem law_post (hl : laidOutB P = true) {f : Func} {s : ChangeSpec} {tb : TypeId} {W W' : World} {args : Array Value} {ds : List (DataW H)} {before : List MemPlace}
    (hread : f.params.toList.all (fun t => P.readableRec t && decide (t < P.types.size)) = true) (hvars : s.vars = [])
    (hW : DataW.Whole enc P f.params.toList s.vars false W args.toList ds [] before)
    (hres : f.resultTypes = #[tb]) (htb : P.underlying tb = some .bool)
    (hs : s.fn H (ds ++ []) = { results := [.lit (.bool true)], args := ds }) (hb : Below W.heap.size W W') :
    s.post enc P f false true false false W args (.bool true) W' := by
  have hW' := hW
  obtain ⟨p, q, hA, hV, rfl, hz, hn⟩ := hW
  rw [hvars] at hV
  have hq : q = [] := (trodVars_none hV).2
  subst hq
  have hlt : ∀ x ∈ p ++ [], x.block < W.heap.size := fun x hx => hW'.lt x hx
  have hr : ∀ t ∈ f.params.toList, P.readableRec t = true ∧ t < P.types.size := fun t ht => by
    have := List.all_eq_true.1 hread t ht
    simpa using this
  have keep : ∀ sp : Nat → Bool, (∀ x ∈ p ++ [], sp x.block = true) → DataW.TrodAll enc P W' 0 sp true f.params.toList args.toList ds p := fun sp hsp =>
    trodAll_keep hl _ _ _ _ hr hA (fun x hx => hb.same (hlt x (by simpa using hx))) (fun x hx => hsp x (by simpa using hx))
  have hone : ∀ (b : Nat) (sp : Nat → Bool) (hd : Bool), DataW.TrodAll enc P W' b sp hd f.resultTypes.toList ((Value.bool true).resultList f.resultTypes.size) (s.fn H (ds ++ [])).results [] := fun b sp hd => by
    rw [hs, hres]
    exact trodAll_mk1 (shut_bool htb true)
  have hold : ∀ x ∈ p ++ [], (fun b => decide (b < W.heap.size)) x.block = true := fun x hx => by simpa using hlt x hx
  refine ⟨ds, [], p ++ [], [], p, [], hW', hone _ _ _, ?_, ?_, World.keptBut_mono (fun x hx => ⟨hx, Or.inr (by simpa using hx)⟩) (hb.frame (· ∈ p ++ [])), fun h => by cases h⟩
  · rw [hs]; exact keep _ hold
  · rw [hs, hvars]; exact rfl

theorem addr_plain {w : World} {a : Addr} {v : Value} (h : w.cell? a = some v) : a = ⟨a.block, a.off, none⟩ := by
  unfold World.cell? at h
  split at h
  · split at h
    · cases h
    · rename_i hs
      cases a with
      | mk b o s => cases s with
        | none => rfl
        | some _ => simp at hs
  · cases h
/-- numbers that are bytes -/
theorem byte_cells {w : World} {a : Addr} {n : Nat} {zs : List Int} (hn : n ≤ zs.length) (hcell : ∀ i, i < n → w.cell? (a.add i) = some (.int .u8 (zs.getD i 0))) (hwz : ∀ z ∈ zs, (Lit.int .u8 z).wf = true) :
    ∃ l : List UInt8, l.length = n ∧ (0 < n → a = ⟨a.block, a.off, none⟩ ∧ ∀ (j : Nat) u, (bc l)[j]? = some u → w.cell? ⟨a.block, a.off + j, none⟩ = some u) := by
  refine ⟨(zs.take n).map fun z => UInt8.ofNat z.toNat, by simp; omega, fun h0 => ?_⟩
  have ha : a = ⟨a.block, a.off, none⟩ := addr_plain (by simpa [Addr.add] using hcell 0 h0)
  refine ⟨ha, fun j u hu => ?_⟩
  have hj : j < n := by
    have := (List.getElem?_eq_some_iff.1 hu).1
    simp at this
    omega
  have hjz : j < zs.length := by omega
  have h1 := hcell j hj
  rw [ha, Addr.add_lit] at h1
  rw [h1, ← hu, bc_get]
  have hb := bounds_u8 (hwz zs[j] (List.getElem_mem hjz))
  simp [hj, List.getElem?_eq_getElem hjz, List.getD]
  omega
/-- bytes that came in -/
theorem open_bytes {t e : TypeId} (ht : P.underlying t = some (.slice e)) (he : P.underlying e = some (.int .u8)) (hc : P.cellsOf e = 1) {w : World} {base : Nat} {r : Reach} {b0 : Nat} {held : Bool} {v : Value} {d : DataW H} {p : List MemPlace}
    (hv : Value.okWide P w r b0 t v) (h : DataW.Trod enc P w base (fun _ => true) held t v d p) : ∃ (A : Option Addr) (n c : Nat) (l : List UInt8), v = .slice A n c ∧ Sl w 1 A n c (bc l) := by
  obtain ⟨a0, len, cap, rfl⟩ := okWide_slice ht hv
  obtain ⟨fuel, hf⟩ := h
  rcases open_ints ht he hc hf with ⟨hcs, hx⟩ | ⟨a, len', cap', zs, hcs, _, hl, hm, hz, hx, hcell, hwz⟩
  · have e0 : Value.slice a0 len cap = Value.slice none 0 0 := by simpa [Value.cells] using hcs
    rw [e0]
    exact ⟨none, 0, 0, [], rfl, Sl.nil _ _ _ _ (Nat.zero_le _)⟩
  · have e0 : Value.slice a0 len cap = Value.slice (some a) len' cap' := by simpa [Value.cells] using hcs
    rw [e0]
    simp only [↓reduceIte] at hz
    obtain ⟨l, hlen, hcl⟩ := byte_cells (n := len') (by omega) (fun i hi => hcell i (by omega)) hwz
    refine ⟨some a, len', cap', l, rfl, by simp [hlen], hl, hm, fun h0 => ?_⟩
    obtain ⟨ha, hc'⟩ := hcl h0
    exact ⟨a.block, a.off, congrArg some ha, hc'⟩
/-- lists of bytes that came in -/
theorem open_parts {t e q : TypeId} (ht : P.underlying t = some (.slice e)) (he : P.underlying e = some (.slice q)) (hq : P.underlying q = some (.int .u8)) (ce : P.cellsOf e = 1) (cq : P.cellsOf q = 1)
    {w : World} {base : Nat} {r : Reach} {b0 : Nat} {held : Bool} {v : Value} {d : DataW H} {p : List MemPlace}
    (hv : Value.okWide P w r b0 t v) (h : DataW.Trod enc P w base (fun _ => true) held t v d p) : ∃ (A : Option Addr) (n c : Nat) (vs : List Value) (ls : List (List UInt8)), v = .slice A n c ∧ Sl w 1 A n c vs ∧ PartsOf w vs ls := by
  obtain ⟨a0, len, cap, rfl⟩ := okWide_slice ht hv
  obtain ⟨fuel, hf⟩ := h
  rcases open_int_rows ht he hq ce cq hf with ⟨hcs, hx⟩ | ⟨a, len', cap', A, L, C, Z, hcs, _, hl, hm, hx, hrow⟩
  · have e0 : Value.slice a0 len cap = Value.slice none 0 0 := by simpa [Value.cells] using hcs
    rw [e0]
    exact ⟨none, 0, 0, [], [], rfl, Sl.nil _ _ _ _ (Nat.zero_le _), rfl, fun i v l hv => by simp at hv⟩
  · have e0 : Value.slice a0 len cap = Value.slice (some a) len' cap' := by simpa [Value.cells] using hcs
    rw [e0]
    have each : ∀ i, i < len' → ∃ l : List UInt8, Sl w 1 (A i) (L i) (C i) (bc l) := by
      intro i hi
      obtain ⟨h1, h2, h3, h4, h5, h6, h7⟩ := hrow i (by omega)
      cases hA : A i with
      | none =>
        have : C i = 0 := h6 hA
        have h0 : L i = 0 := by omega
        rw [h0]
        exact ⟨[], Sl.nil _ _ _ _ h3⟩
      | some ad =>
        obtain ⟨l, hlen, hcl⟩ := byte_cells (a := ad) (n := L i) (zs := Z i) (by omega) (fun j hj => (h7 ad hA).2 j (by omega)) h5
        refine ⟨l, by simp [hlen], h2, h3, fun h0 => ?_⟩
        obtain ⟨ha, hc'⟩ := hcl h0
        exact ⟨ad.block, ad.off, congrArg some ha, hc'⟩
    have pick : ∃ f : Nat → List UInt8, ∀ i, i < len' → Sl w 1 (A i) (L i) (C i) (bc (f i)) :=
      ⟨fun i => if h : i < len' then Classical.choose (each i h) else [], fun i hi => by simp only [dif_pos hi]; exact Classical.choose_spec (each i hi)⟩
    obtain ⟨f, hf'⟩ := pick
    refine ⟨some a, len', cap', (List.range len').map (fun i => .slice (A i) (L i) (C i)), (List.range len').map f, rfl, ⟨by simp, hl, hm, fun h0 => ?_⟩, by simp, fun i v l hv hl' => ?_⟩
    · have ha : a = ⟨a.block, a.off, none⟩ := addr_plain (by simpa [Addr.add] using (hrow 0 (by omega)).1)
      refine ⟨a.block, a.off, congrArg some ha, fun j u hu => ?_⟩
      have hj : j < len' := by
        have := (List.getElem?_eq_some_iff.1 hu).1
        simpa using this
      have h1 := (hrow j (by omega)).1
      rw [ha, Addr.add_lit] at h1
      rw [h1, ← hu]
      simp [hj]
    · have hi : i < len' := by
        have := (List.getElem?_eq_some_iff.1 hv).1
        simpa using this
      simp [hi] at hv hl'
      subst hv
      subst hl'
      exact ⟨A i, L i, C i, rfl, hf' i hi⟩
end
end Go.Proofs.Ytfonincdhjkacaa
