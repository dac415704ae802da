/-
  Open, Recs in one text. No condition but sizes.
-/
import Derived.Test.YtpffieogkfndaaaGreatDoorJBytes
import Derived.ProofKit
import Derived.OpenShut
import Derived.Carry
import Derived.Deep.Matrix
import Derived.Test.YtpffieogkfndaaaGreatDoorJAtomPlain
namespace Go.Proofs.YtpffieogkfndaaaGreatDoor
set_option maxRecDepth 20000
set_option linter.unusedVariables false
set_option linter.unusedSimpArgs false
open Go.ChangeShapes Go.WideShapes Go.ChangeAt Go.RowKit Go.Deep

section
variable {H : Type} {enc : TypeId × Value → H} {P : Program}
/-- what was read reads the same where nothing of it has turned -/
theorem trodAll_keep (hl : laidOutB P = true) {W W' : World} {sp : Nat → Bool} : ∀ (ts : List TypeId) (vs : List Value) (ds : List (DataW H)) (ps : List MemPlace), (∀ t ∈ ts, P.readableRec t = true ∧ t < P.types.size) →
    DataW.TrodAll enc P W 0 (fun _ => true) true ts vs ds ps → (∀ x ∈ ps, W.sameAt W' x) → (∀ x ∈ ps, sp x.block = true) → DataW.TrodAll enc P W' 0 sp true ts vs ds ps
  | [], vs, ds, ps, _, h, _, _ => by
    obtain ⟨rfl, rfl, rfl⟩ := trodAll_nil h
    exact trodAll_mk0
  | t :: ts, vs, ds, ps, hr, h, hs, hp => by
    obtain ⟨v, vs', d, ds', p, q, rfl, rfl, rfl, h0, h1⟩ := trodAll_cons h
    have hr0 := hr t (by simp)
    exact trodAll_cons_mk (WideElems.Trod_stays hl hr0.1 hr0.2 h0 (fun x hx => hs x (by simp [hx])) (fun x hx => hp x (by simp [hx])))
      (trodAll_keep hl ts vs' ds' q (fun u hu => hr u (by simp [hu])) h1 (fun x hx => hs x (by simp [hx])) (fun x hx => hp x (by simp [hx])))

/-- THE LAST STEP OF A LAW: it has returned true and written new memory alone -/
theorem law_post (hl : laidOutB P = true) {f : Func} {s : ChangeSpec} {tb : TypeId} {W W' : World} {args : Array Value} {ds : List (DataW H)} {before : List MemPlace}
    (hread : f.params.toList.all (fun t => P.readableRec t && decide (t < P.types.size)) = true) (hvars : s.vars = [])
    (hW : DataW.Whole enc P f.params.toList s.vars false W args.toList ds [] before)
    (hres : f.resultTypes = #[tb]) (htb : P.underlying tb = some .bool)
    (hs : s.fn H (ds ++ []) = { results := [.lit (.bool true)], args := ds }) (hb : Below W.heap.size W W') :
    s.post enc P f false true false false W args (.bool true) W' := by
  have hW' := hW
  obtain ⟨p, q, hA, hV, rfl, hz, hn⟩ := hW
  rw [hvars] at hV
  have hq : q = [] := (trodVars_none hV).2
  subst hq
  have hlt : ∀ x ∈ p ++ [], x.block < W.heap.size := fun x hx => hW'.lt x hx
  have hr : ∀ t ∈ f.params.toList, P.readableRec t = true ∧ t < P.types.size := fun t ht => by
    have := List.all_eq_true.1 hread t ht
    simpa using this
  have keep : ∀ sp : Nat → Bool, (∀ x ∈ p ++ [], sp x.block = true) → DataW.TrodAll enc P W' 0 sp true f.params.toList args.toList ds p := fun sp hsp =>
    trodAll_keep hl _ _ _ _ hr hA (fun x hx => hb.same (hlt x (by simpa using hx))) (fun x hx => hsp x (by simpa using hx))
  have hone : ∀ (b : Nat) (sp : Nat → Bool) (hd : Bool), DataW.TrodAll enc P W' b sp hd f.resultTypes.toList ((Value.bool true).resultList f.resultTypes.size) (s.fn H (ds ++ [])).results [] := fun b sp hd => by
    rw [hs, hres]
    exact trodAll_mk1 (shut_bool htb true)
  have hold : ∀ x ∈ p ++ [], (fun b => decide (b < W.heap.size)) x.block = true := fun x hx => by simpa using hlt x hx
  refine ⟨ds, [], p ++ [], [], p, [], hW', hone _ _ _, ?_, ?_, World.keptBut_mono (fun x hx => ⟨hx, Or.inr (by simpa using hx)⟩) (hb.frame (· ∈ p ++ [])), fun h => by cases h⟩
  · rw [hs]; exact keep _ hold
  · rw [hs, hvars]; exact rfl

theorem addr_plain {w : World} {a : Addr} {v : Value} (h : w.cell? a = some v) : a = ⟨a.block, a.off, none⟩ := by
  unfold World.cell? at h
  split at h
  · split at h
    · cases h
    · rename_i hs
      cases a with
      | mk b o s => cases s with
        | none => rfl
        | some _ => simp at hs
  · cases h
/-- numbers that are bytes -/
theorem byte_cells {w : World} {a : Addr} {n : Nat} {zs : List Int} (hn : n ≤ zs.length) (hcell : ∀ i, i < n → w.cell? (a.add i) = some (.int .u8 (zs.getD i 0))) (hwz : ∀ z ∈ zs, (Lit.int .u8 z).wf = true) :
    ∃ l : List UInt8, l.length = n ∧ (0 < n → a = ⟨a.block, a.off, none⟩ ∧ ∀ (j : Nat) u, (bc l)[j]? = some u → w.cell? ⟨a.block, a.off + j, none⟩ = some u) := by
  refine ⟨(zs.take n).map fun z => UInt8.ofNat z.toNat, by simp; omega, fun h0 => ?_⟩
  have ha : a = ⟨a.block, a.off, none⟩ := addr_plain (by simpa [Addr.add] using hcell 0 h0)
  refine ⟨ha, fun j u hu => ?_⟩
  have hj : j < n := by
    have := (List.getElem?_eq_some_iff.1 hu).1
    simp at this
    omega
  have hjz : j < zs.length := by omega
  have h1 := hcell j hj
  rw [ha, Addr.add_lit] at h1
  rw [h1, ← hu, bc_get]
  have hb := bounds_u8 (hwz zs[j] (List.getElem_mem hjz))
  simp [hj, List.getElem?_eq_getElem hjz, List.getD]
  omega
/-- bytes that came in -/
theorem open_bytes {t e : TypeId} (ht : P.underlying t = some (.slice e)) (he : P.underlying e = some (.int .u8)) (hc : P.cellsOf e = 1) {w : World} {base : Nat} {r : Reach} {b0 : Nat} {held : Bool} {v : Value} {d : DataW H} {p : List MemPlace}
    (hv : Value.okWide P w r b0 t v) (h : DataW.Trod enc P w base (fun _ => true) held t v d p) : ∃ (A : Option Addr) (n c : Nat) (l : List UInt8), v = .slice A n c ∧ Sl w 1 A n c (bc l) := by
  obtain ⟨a0, len, cap, rfl⟩ := okWide_slice ht hv
  obtain ⟨fuel, hf⟩ := h
  rcases open_ints ht he hc hf with ⟨hcs, hx⟩ | ⟨a, len', cap', zs, hcs, _, hl, hm, hz, hx, hcell, hwz⟩
  · have e0 : Value.slice a0 len cap = Value.slice none 0 0 := by simpa [Value.cells] using hcs
    rw [e0]
    exact ⟨none, 0, 0, [], rfl, Sl.nil _ _ _ _ (Nat.zero_le _)⟩
  · have e0 : Value.slice a0 len cap = Value.slice (some a) len' cap' := by simpa [Value.cells] using hcs
    rw [e0]
    simp only [↓reduceIte] at hz
    obtain ⟨l, hlen, hcl⟩ := byte_cells (n := len') (by omega) (fun i hi => hcell i (by omega)) hwz
    refine ⟨some a, len', cap', l, rfl, by simp [hlen], hl, hm, fun h0 => ?_⟩
    obtain ⟨ha, hc'⟩ := hcl h0
    exact ⟨a.block, a.off, congrArg some ha, hc'⟩
end
end Go.Proofs.YtpffieogkfndaaaGreatDoor

namespace Go.Proofs.YtpffieogkfndaaaGreatDoor
set_option maxRecDepth 20000
set_option linter.unusedVariables false
set_option linter.unusedSimpArgs false
open Go.RowKit

structure KeyL where
  user : List UInt8
  seq : UInt64
  kind : UInt8
  deriving DecidableEq
structure OpL where
  kind : UInt8
  key : List UInt8
  value : List UInt8
  deriving DecidableEq
structure EntL where
  key : KeyL
  value : List UInt8
  deriving DecidableEq
structure SpanL where
  lo : List UInt8
  hi : List UInt8
  seq : UInt64
  deriving DecidableEq
structure PairL where
  key : List UInt8
  value : List UInt8
  deriving DecidableEq
structure NoteL where
  kind : UInt8
  seq : UInt64
  name : List UInt8
  ops : List OpL
  deriving DecidableEq
def u8v (x : UInt8) : Value := .int .u8 (x.toNat : Int)
def u64v (x : UInt64) : Value := .int .u64 (x.toNat : Int)
theorem bk_one {w : World} {p : Nat → Prop} {v : Value} {l : List UInt8} (h : Bk w p v l) : v.oneCell' = true := by
  obtain ⟨A, n, c, rfl, _⟩ := h
  rfl
instance : Rep (List UInt8) where
  size := 1
  cells w p cs l := ∃ v, cs = [v] ∧ Bk w p v l
  pos := by omega
  len := by rintro w p cs x ⟨v, rfl, _⟩; rfl
  one := by
    rintro w p cs x ⟨v, rfl, h⟩ u hu
    simp at hu
    subst hu
    exact bk_one h
  move := by
    rintro w w' p q cs x ⟨v, rfl, h⟩ hm
    exact ⟨v, rfl, h.move hm⟩
instance : Rep UInt64 where
  size := 1
  cells _ _ cs x := cs = [u64v x]
  pos := by omega
  len := by rintro w p cs x rfl; rfl
  one := by
    rintro w p cs x rfl u hu
    simp at hu
    subst hu
    rfl
  move := by
    rintro w w' p q cs x rfl hm
    rfl
instance : Rep KeyL where
  size := 3
  cells w p cs k := ∃ v, cs = [v, u64v k.seq, u8v k.kind] ∧ Bk w p v k.user
  pos := by omega
  len := by rintro w p cs x ⟨v, rfl, _⟩; rfl
  one := by
    rintro w p cs x ⟨v, rfl, h⟩ u hu
    simp at hu
    rcases hu with rfl | rfl | rfl
    · exact bk_one h
    · rfl
    · rfl
  move := by
    rintro w w' p q cs x ⟨v, rfl, h⟩ hm
    exact ⟨v, rfl, h.move hm⟩
instance : Rep OpL where
  size := 3
  cells w p cs o := ∃ v v', cs = [u8v o.kind, v, v'] ∧ Bk w p v o.key ∧ Bk w p v' o.value
  pos := by omega
  len := by rintro w p cs x ⟨v, v', rfl, _⟩; rfl
  one := by
    rintro w p cs x ⟨v, v', rfl, h, h'⟩ u hu
    simp at hu
    rcases hu with rfl | rfl | rfl
    · rfl
    · exact bk_one h
    · exact bk_one h'
  move := by
    rintro w w' p q cs x ⟨v, v', rfl, h, h'⟩ hm
    exact ⟨v, v', rfl, h.move hm, h'.move hm⟩
instance : Rep EntL where
  size := 4
  cells w p cs o := ∃ v v', cs = [v, u64v o.key.seq, u8v o.key.kind, v'] ∧ Bk w p v o.key.user ∧ Bk w p v' o.value
  pos := by omega
  len := by rintro w p cs x ⟨v, v', rfl, _⟩; rfl
  one := by
    rintro w p cs x ⟨v, v', rfl, h, h'⟩ u hu
    simp at hu
    rcases hu with rfl | rfl | rfl | rfl
    · exact bk_one h
    · rfl
    · rfl
    · exact bk_one h'
  move := by
    rintro w w' p q cs x ⟨v, v', rfl, h, h'⟩ hm
    exact ⟨v, v', rfl, h.move hm, h'.move hm⟩
instance : Rep SpanL where
  size := 3
  cells w p cs o := ∃ v v', cs = [v, v', u64v o.seq] ∧ Bk w p v o.lo ∧ Bk w p v' o.hi
  pos := by omega
  len := by rintro w p cs x ⟨v, v', rfl, _⟩; rfl
  one := by
    rintro w p cs x ⟨v, v', rfl, h, h'⟩ u hu
    simp at hu
    rcases hu with rfl | rfl | rfl
    · exact bk_one h
    · exact bk_one h'
    · rfl
  move := by
    rintro w w' p q cs x ⟨v, v', rfl, h, h'⟩ hm
    exact ⟨v, v', rfl, h.move hm, h'.move hm⟩
instance : Rep PairL where
  size := 2
  cells w p cs o := ∃ v v', cs = [v, v'] ∧ Bk w p v o.key ∧ Bk w p v' o.value
  pos := by omega
  len := by rintro w p cs x ⟨v, v', rfl, _⟩; rfl
  one := by
    rintro w p cs x ⟨v, v', rfl, h, h'⟩ u hu
    simp at hu
    rcases hu with rfl | rfl
    · exact bk_one h
    · exact bk_one h'
  move := by
    rintro w w' p q cs x ⟨v, v', rfl, h, h'⟩ hm
    exact ⟨v, v', rfl, h.move hm, h'.move hm⟩
instance : Rep NoteL where
  size := 4
  cells w p cs o := ∃ v A n c, cs = [u8v o.kind, u64v o.seq, v, .slice A n c] ∧ Bk w p v o.name ∧ SlR w p A n c o.ops
  pos := by omega
  len := by rintro w p cs x ⟨v, A, n, c, rfl, _⟩; rfl
  one := by
    rintro w p cs x ⟨v, A, n, c, rfl, h, h'⟩ u hu
    simp at hu
    rcases hu with rfl | rfl | rfl | rfl
    · rfl
    · rfl
    · exact bk_one h
    · rfl
  move := by
    rintro w w' p q cs x ⟨v, A, n, c, rfl, h, h'⟩ hm
    exact ⟨v, A, n, c, rfl, h.move hm, h'.move hm⟩
end Go.Proofs.YtpffieogkfndaaaGreatDoor
