/-
  Spans, TabGet, BloomHasW, StepX, LeafNums, LeafVersion in one text. No condition but sizes.
-/
import Derived.Test.YtpffieogkfndaaaDoorJRowsY
import Derived.Test.YtpffieogkfndaaaDoorJRowsL
import Derived.Test.YtpffieogkfndaaaDoorJTabOpenP
import Derived.Test.YtpffieogkfndaaaDoorJBatchReadW
import Derived.Test.YtpffieogkfndaaaDoorJKeyMake
import Derived.Test.YtpffieogkfndaaaDoorJBloomRef
import Derived.Test.YtpffieogkfndaaaDoorJBridge
import Derived.Test.YtpffieogkfndaaaDoorLeafBuildR
import Derived.Test.YtpffieogkfndaaaDoorJKeyReadW
import Derived.Test.YtpffieogkfndaaaDoorJHeldF
namespace Go.Proofs.YtpffieogkfndaaaDoor
set_option maxRecDepth 20000
set_option linter.unusedVariables false
set_option linter.unusedSimpArgs false
open Go.RowKit
/-- a span's places in a row -/
theorem SlR.spanAt {w : World} {p : Nat → Prop} {A : Option Addr} {n c : Nat} {ls : List SpanL} (h : SlR w p A n c ls) {k : Nat} (hk : k < n) : ∃ (b o : Nat) (A3 : Option Addr) (n3 c3 : Nat) (A4 : Option Addr) (n4 c4 : Nat) (hl : k < ls.length), A = some ⟨b, o, none⟩ ∧
    w.cell? ⟨b, o + k * 3, none⟩ = some (.slice A3 n3 c3) ∧ w.cell? ⟨b, o + k * 3 + 1, none⟩ = some (.slice A4 n4 c4) ∧ w.cell? ⟨b, o + k * 3 + 2, none⟩ = some (.int .u64 (ls[k].seq.toNat : Int)) ∧
    Sl w 1 A3 n3 c3 (bc ls[k].lo) ∧ (∀ b, 0 < n3 → A3.map (·.block) = some b → p b) ∧ Sl w 1 A4 n4 c4 (bc ls[k].hi) ∧ (∀ b, 0 < n4 → A4.map (·.block) = some b → p b) := by
  obtain ⟨b, o, x, cs, rfl, hx, ⟨v, v', rfl, hk', hv⟩, hcell⟩ := h.get hk
  obtain ⟨A3, n3, c3, rfl, hs3, h3⟩ := hk'
  obtain ⟨A4, n4, c4, rfl, hs4, h4⟩ := hv
  obtain ⟨hjl, rfl⟩ := List.getElem?_eq_some_iff.1 hx
  exact ⟨b, o, A3, n3, c3, A4, n4, c4, hjl, rfl, hcell 0 _ rfl, hcell 1 _ rfl, hcell 2 _ rfl, hs3, h3, hs4, h4⟩
/-- a row of one span, just made -/
theorem spanRow (w : World) (x : SpanL) (s : Nat) (hs : x.seq.toNat = s) (p : Nat → Prop) (A3 : Option Addr) (n3 c3 : Nat) (A4 : Option Addr) (n4 c4 : Nat) (s3 : Sl w 1 A3 n3 c3 (bc x.lo)) (h3 : ∀ b, 0 < n3 → A3.map (·.block) = some b → p b) (s4 : Sl w 1 A4 n4 c4 (bc x.hi)) (h4 : ∀ b, 0 < n4 → A4.map (·.block) = some b → p b) (e : TypeId) :
    ∃ xs, Sl (w.alloc (.cells #[.slice A3 n3 c3, .slice A4 n4 c4, .int .u64 (s : Int)] e)) 3 (some ⟨w.heap.size, 0, none⟩) 1 1 xs ∧ RowC (w.alloc (.cells #[.slice A3 n3 c3, .slice A4 n4 c4, .int .u64 (s : Int)] e)) p xs [x] := by
  subst hs
  have al := (Below.refl w.heap.size w).alloc (Nat.le_refl _) (.cells #[.slice A3 n3 c3, .slice A4 n4 c4, .int .u64 (x.seq.toNat : Int)] e)
  exact ⟨_, ⟨rfl, Nat.le_refl _, by unfold maxLen; omega, fun _ => ⟨w.heap.size, 0, rfl, fun j u hu => by rw [cell_of_row _ _ _ _ _ _ (heap_alloc_new w _)]; simpa [u64v] using hu⟩⟩, RowC.single ⟨_, _, rfl, ⟨A3, n3, c3, rfl, s3.below (by omega) al, h3⟩, ⟨A4, n4, c4, rfl, s4.below (by omega) al, h4⟩⟩⟩
theorem infoSpan : (Tryd.prog.info? 48).map (fun i => (i.zero, i.size, i.bytes)) = some (some (.agg #[.slice none 0 0, .slice none 0 0, .int .u64 0]), 3, 56) := by kernel_rfl
def fewSpans (l : List SpanL) (n : Nat) : List SpanL := (l.take n).map fun s => ⟨s.lo.take 80, s.hi.take 80, s.seq⟩
def rightSpans (l : List SpanL) : List SpanL := l.filter fun s => decide (checkSpanL s = 0)
theorem rightSpans_all (l : List SpanL) (h : ∀ s ∈ l, checkSpanL s = 0) : rightSpans l = l := by
  unfold rightSpans
  rw [List.filter_eq_self]
  intro s hs
  simpa using h s hs
theorem fewSpans_len (l : List SpanL) (n : Nat) : (fewSpans l n).length ≤ n := by unfold fewSpans; simp; omega
end Go.Proofs.YtpffieogkfndaaaDoor

namespace Go.Proofs.YtpffieogkfndaaaDoor
set_option maxRecDepth 20000
set_option linter.unusedVariables false
set_option linter.unusedSimpArgs false
/-- the leaf where one looks; the entry there -/
def findLeaf (l : List EntL) (at_ : KeyL) : Option Nat := (List.range (leafCount l)).find? fun i => decide (0 ≤ cmpKey (lastKey (chunkL l i)) at_)
def versionL (l : List EntL) (key : List UInt8) (seq : UInt64) : Option EntL :=
  if hasL (buildL 10 (usersL l)) key = true then
    match findLeaf l (uptoKey key seq) with
    | none => none
    | some i => match fromL (chunkL l i) (uptoKey key seq) with
      | none => none
      | some e => if e.key.user = key then some e else none
  else none
def getL (l : List EntL) (sp : List SpanL) (key : List UInt8) (seq : UInt64) : List UInt8 × Nat × Nat :=
  match versionL l key seq with
  | none => if coverL sp key seq.toNat = 0 then ([], 0, 0) else ([], coverL sp key seq.toNat, 2)
  | some e => if e.key.seq.toNat < coverL sp key seq.toNat then ([], coverL sp key seq.toNat, 2) else if e.key.kind.toNat = 1 then ([], e.key.seq.toNat, 2) else (e.value, e.key.seq.toNat, 1)
end Go.Proofs.YtpffieogkfndaaaDoor

namespace Go.Proofs.YtpffieogkfndaaaDoor
set_option maxRecDepth 20000
set_option linter.unusedVariables false
set_option linter.unusedSimpArgs false
open Go.RowKit

attribute [local go_sem] Oper.semAt_some

theorem cell_new1 (w : World) (v : Value) (t : TypeId) : (w.alloc (.cells #[v] t)).cell? ⟨w.heap.size, 0, none⟩ = some v ∧ (w.alloc (.cells #[v] t)).frozen? ⟨w.heap.size, 0, none⟩ = false := by
  have h := heap_alloc_new w (.cells #[v] t)
  exact ⟨by unfold World.cell?; rw [h]; rfl, by unfold World.frozen?; rw [h]; rfl⟩
theorem cell_old {w : World} {a : Addr} {v : Value} (o : Obj) (h : w.cell? a = some v) : (w.alloc o).cell? a = some v := (World.cell?_alloc_lt _ _ _ (World.block_lt_of_cell? _ _ h)).trans h
theorem frozen_old {w : World} {a : Addr} {v : Value} (o : Obj) (h : w.cell? a = some v) (hf : w.frozen? a = false) : (w.alloc o).frozen? a = false := (frozen_kept h (World.grownBy_alloc w o none) (fun r e => by cases e)).trans hf
theorem bit_live (y i : Nat) (hy : y < 256) : (bits .and .u8 ((y : Nat) / 2 ^ i : Int) 1 == 0) = !(y.testBit i) := by
  have e : ((y : Nat) : Int) / 2 ^ i = ((y / 2 ^ i : Nat) : Int) := by simp
  have hle : y / 2 ^ i ≤ y := Nat.div_le_self _ _
  have e2 := u8_and_nat (y / 2 ^ i) 1 (by omega) (by omega)
  rw [Nat.and_one_is_mod] at e2
  have e3 : bits .and .u8 ((y / 2 ^ i : Nat) : Int) 1 = ((y / 2 ^ i % 2 : Nat) : Int) := e2
  rw [e, e3, Nat.testBit_eq_decide_div_mod_eq, Bool.eq_iff_iff]
  simp only [beq_iff_eq, Bool.not_eq_true', decide_eq_false_iff_not]
  omega
set_option maxRecDepth 100000 in
set_option maxHeartbeats 2000000 in
theorem has_any (w : World) (A : Option Addr) (n c : Nat) (f : List UInt8) (h : Sl w 1 A n c (bc f)) (Ak : Option Addr) (nk ck : Nat) (key : List UInt8) (hk : Sl w 1 Ak nk ck (bc key)) (hq : Quarter w) (hn : n ≤ 100000) :
    Calls Tryd.prog 85 #[.slice A n c, .slice Ak nk ck] w fun e w' => e = .returned (.bool (hasL f key)) ∧ Below w.heap.size w w' := by
  have Hl : Hid (f.length = n) := h.lenb
  have hcm := h.capm
  have hcc := h.cap
  unfold maxLen at hcm
  refine (callsIn_wide (n := 5)).1 ?_
  refine callsIn_of_wp_marks Tryd.func85 rfl trivial ?_ rfl
  simp only [Tryd.ntmps85, List.size_toArray, List.length_cons, List.length_nil, Nat.reduceAdd, Nat.reduceSub, Array.replicate_succ, Array.replicate_zero, List.push_toArray, List.append_toArray, List.nil_append, List.cons_append]
  have cA := cell_new1 w (.slice A n c) 29
  have cR := cell_new1 (w.alloc (.cells #[.slice A n c] 29)) (.bool false) 4
  simp only [World.size_alloc] at cR
  have hb0 : Below w.heap.size w ((w.alloc (.cells #[.slice A n c] 29)).alloc (.cells #[.bool false] 4)) := ((Below.refl _ w).alloc (Nat.le_refl _) _).alloc (by simp) _
  by_cases h8 : n < 9
  · have e1 : hasL f key = true := by unfold hasL; rw [if_pos (.inl (by have := Hl.out; omega))]
    rw [e1]
    have d1 : decide ((n : Int) - 1 < 8) = true := by simp; omega
    gi_wp2
    refine ⟨.bool true, ?_, rfl, ((Below.refl _ w).alloc (Nat.le_refl _) _).alloc (by simp) _⟩
    simp [results, Tryd.f85, go_sem]
  · obtain ⟨k, rfl⟩ : ∃ k, n = k + 1 := ⟨n - 1, by omega⟩
    have d1 : decide ((k : Int) < 8) = false := by simp; omega
    have hn1 : k < f.length := by have := Hl.out; omega
    obtain ⟨g, o, x, rfl, hx, hxl, hcell⟩ := h.byte hn1
    have hgl := World.block_lt_of_cell? _ _ hcell
    have hcell2 := (hb0.cell (p := ⟨g, o + k, none⟩) hgl).trans hcell
    by_cases h1 : x < 1
    · have e1 : hasL f key = true := by
        unfold hasL
        have := Hl.out
        rw [show f.length - 1 = k by omega, List.getElem?_eq_getElem hn1, Option.getD_some, hx]
        exact if_pos (.inr (.inl h1))
      rw [e1]
      obtain rfl : x = 0 := by omega
      clear hx
      gi_wp2
      refine ⟨.bool true, ?_, rfl, ((Below.refl _ w).alloc (Nat.le_refl _) _).alloc (by simp) _⟩
      simp [results, Tryd.f85, go_sem]
    by_cases h2 : 30 < x
    · have e1 : hasL f key = true := by
        unfold hasL
        have := Hl.out
        rw [show f.length - 1 = k by omega, List.getElem?_eq_getElem hn1, Option.getD_some, hx]
        exact if_pos (.inr (.inr h2))
      rw [e1]
      have d2 : decide ((x : Int) < 1) = false := by simp; omega
      have d3 : decide (30 < (x : Int)) = true := by simp; omega
      clear hx
      gi_wp2
      refine ⟨.bool true, ?_, rfl, ((Below.refl _ w).alloc (Nat.le_refl _) _).alloc (by simp) _⟩
      simp [results, Tryd.f85, go_sem]
    have e1 : hasL f key = (probesL key (8 * k) x).all (bitL f) := by
      unfold hasL
      have := Hl.out
      rw [show f.length - 1 = k by omega, List.getElem?_eq_getElem hn1]
      simp only [Option.getD_some, hx]
      rw [if_neg (by omega)]
    rw [e1]
    have E1 := Lib.hid e1
    have d2 : decide ((x : Int) < 1) = false := by simp; omega
    have d3 : decide (30 < (x : Int)) = false := by simp; omega
    have hm : 0 < 8 * k := by omega
    clear hx e1
    gi_wp2_with fail
    refine ⟨trivial, callsIn_wide.2 ((each_any _ _ _ _ _ _).mono ?_)⟩
    rintro e w' ⟨rfl, rfl⟩
    gi_wp2
    obtain ⟨w0, hw0⟩ : ∃ w0, (w.alloc (.cells #[.slice (some ⟨g, o, none⟩) (k + 1) c] 29)).alloc (.cells #[.bool false] 4) = w0 := ⟨_, rfl⟩
    have hs0 : w.heap.size + 1 + 1 = w0.heap.size := by rw [← hw0]; simp
    rw [hw0] at cR hb0 hcell2
    have cA0 : w0.cell? ⟨w.heap.size, 0, none⟩ = some (.slice (some ⟨g, o, none⟩) (k + 1) c) := by rw [← hw0]; exact cell_old _ cA.1
    have hk0 : Sl w0 1 Ak nk ck (bc key) := hk.below (by omega) hb0
    have hq0 := hq.below hb0
    rw [hw0]
    have k1 := cell_new1 w0 (.slice Ak nk ck) 29
    have k2 := cell_new1 (w0.alloc (.cells #[.slice Ak nk ck] 29)) (.int .i64 (x : Int)) 3
    have k3 := cell_new1 ((w0.alloc (.cells #[.slice Ak nk ck] 29)).alloc (.cells #[.int .i64 (x : Int)] 3)) (.int .u32 (8 * (k : Int))) 96
    obtain ⟨w3, hw3⟩ : ∃ w3, ((w0.alloc (.cells #[.slice Ak nk ck] 29)).alloc (.cells #[.int .i64 (x : Int)] 3)).alloc (.cells #[.int .u32 (8 * (k : Int))] 96) = w3 := ⟨_, rfl⟩
    have hb3 : Below w0.heap.size w0 w3 := by rw [← hw3]; exact (((Below.refl _ w0).alloc (Nat.le_refl _) _).alloc (by simp) _).alloc (by simp; omega) _
    have k1' : w3.cell? ⟨w0.heap.size, 0, none⟩ = some (.slice Ak nk ck) := by rw [← hw3]; exact cell_old _ (cell_old _ k1.1)
    have k2' : w3.cell? ⟨w0.heap.size + 1, 0, none⟩ = some (.int .i64 (x : Int)) := by rw [← hw3, ← World.size_alloc w0]; exact cell_old _ k2.1
    have k3' : w3.cell? ⟨w0.heap.size + 1 + 1, 0, none⟩ = some (.int .u32 (8 * (k : Int))) := by rw [← hw3]; simp only [World.size_alloc] at k3; exact k3.1
    have hs3 : w3.heap.size = w0.heap.size + 1 + 1 + 1 := by rw [← hw3]; simp
    have hB3 : Below w.heap.size w w3 := hb0.trans (hb3.mono hb0.size)
    rw [hw3]
    rw [← hs0] at k1' k2' k3'
    refine range_one rfl (by omega) (p := 36) (q := 6) (gf := 81) rfl trivial (enters_of Tryd.func81 (by kernel_rfl) rfl)
      (each_stops _ (by omega) _ _ _ Ak nk ck key x (8 * k) hm (by omega) w3 k1' k2' k3' (hk0.below (by omega) hb3) (hq0.below hb3)) keep1_t (keep1_b (by omega)) (Below.refl _ _)
      (fun pre W => ((∀ v ∈ pre, bitL f v.val = true) ∧ W.cell? ⟨w.heap.size, 0, none⟩ = some (.slice (some ⟨g, o, none⟩) (k + 1) c) ∧ W.cell? ⟨w.heap.size + 1, 0, none⟩ = some (.bool false) ∧ W.frozen? ⟨w.heap.size + 1, 0, none⟩ = false) ∧ Below w.heap.size w W)
      (fun cd pre W => (cd = .ret ∧ (∃ v ∈ pre, bitL f v.val = false) ∧ W.cell? ⟨w.heap.size + 1, 0, none⟩ = some (.bool false)) ∧ Below w.heap.size w W)
      (OwnFrom.and (Go.Own.from (fun s A B row hs hg hr => ⟨hs.1, cell_kept hs.2.1 hg hr, cell_kept hs.2.2.1 hg hr, (frozen_kept hs.2.2.1 hg hr).trans hs.2.2.2⟩) _) (ownFrom_below (Nat.le_refl _) (by omega)))
      (fun cd => OwnFrom.and (Go.Own.from (fun s A B row hs hg hr => ⟨hs.1, hs.2.1, cell_kept hs.2.2 hg hr⟩) _) (ownFrom_below (Nat.le_refl _) (by omega)))
      ⟨⟨by simp, ?_, ?_, ?_⟩, hB3⟩ (by simp) ?body ?done ?stop
    · exact (hb3.cell (p := ⟨w.heap.size, 0, none⟩) (by show w.heap.size < _; omega)).trans cA0
    · exact (hb3.cell (p := ⟨w.heap.size + 1, 0, none⟩) (by show w.heap.size + 1 < _; omega)).trans cR.1
    · rw [← hw3]; exact frozen_old _ (cell_old _ (cell_old _ cR.1)) (frozen_old _ (cell_old _ cR.1) (frozen_old _ cR.1 cR.2))
    case body =>
      rintro l pre v W ⟨⟨hp, hcA, hcR, hfR⟩, hB⟩ _
      obtain ⟨v, hv⟩ := v
      have hvl : v / 8 < f.length := by have := Hl.out; omega
      obtain ⟨g', o', y, eA, hy, hyl, hycell⟩ := (h.below (by omega) hB).byte hvl
      obtain ⟨rfl, rfl⟩ : g = g' ∧ o = o' := by simpa using eA
      have hbit : bitL f v = y.testBit (v % 8) := by unfold bitL; rw [List.getElem?_eq_getElem hvl, Option.getD_some, hy]
      have Hbit := Lib.hid hbit
      have hv8 : v / 8 < k + 1 := by omega
      clear hy hbit eA hcell hcell2 h
      gi_wp2
      all_goals rename_i hx
      all_goals rw [bit_live y _ hyl] at hx
      · have hbf : bitL f v = false := by rw [Hbit.out]; simpa using hx
        exact ⟨KeepsOthers.setCell _ _ _, ⟨rfl, ⟨⟨v, hv⟩, by simp, hbf⟩, World.cell?_setCell_same' _ _ _ (by rw [hcR]; rfl)⟩, hB.setCell (p := ⟨w.heap.size + 1, 0, none⟩) (by simp) _⟩
      · have hbt : bitL f v = true := by rw [Hbit.out]; simpa using hx
        refine ⟨KeepsOthers.refl _, rfl, ⟨fun u hu => ?_, hcA, hcR, hfR⟩, hB⟩
        rcases List.mem_append.1 hu with h1 | h1
        · exact hp u h1
        · obtain rfl : u = ⟨v, hv⟩ := by simpa using h1
          exact hbt
    case done =>
      rintro D ys W hD rfl ⟨⟨hp, _, hcR, hfR⟩, hB⟩ hK
      have eall : (probesL key (8 * k) x).all (bitL f) = true := by
        rw [List.all_eq_true]
        intro u hu
        rw [← comeL_val key hm x] at hu
        obtain ⟨v, hv, rfl⟩ := List.mem_map.1 hu
        exact hp v hv
      gi_wp2
      have hK' := (KeepsOthers.setCell W ⟨w.heap.size + 1, 0, none⟩ (.bool true)).same D _ hK rfl
      refine ⟨by simp, .inl ⟨_, _, rfl, run_takeDeferred hK', ?_⟩⟩
      have hc5 := cell_kept (World.cell?_setCell_same' W ⟨w.heap.size + 1, 0, none⟩ (.bool true) (by rw [hcR]; rfl)) (grownBy_putObj' _ D (.deferred none)) (fun r e => by cases e; exact ⟨_, hK', rfl⟩)
      refine ⟨.bool true, ?_, by rw [eall], (hB.setCell (p := ⟨w.heap.size + 1, 0, none⟩) (by simp) _).trans (belowK_b (w := w) (Nat.le_refl _) _ D _ _ (by have := hB3.size; omega) hK' rfl rfl)⟩
      simp [results, Tryd.f85, go_sem, hc5]
    case stop =>
      rintro D cd pre W hD ⟨j, hj, rfl⟩ ⟨⟨rfl, ⟨v, hv, hbf⟩, hcR⟩, hB⟩ hK
      have eall : (probesL key (8 * k) x).all (bitL f) = false := by
        rw [List.all_eq_false]
        refine ⟨v.val, ?_, by rw [hbf]; simp⟩
        have h1 : v.val ∈ (comeL key hm j).map (·.val) := List.mem_map.2 ⟨v, hv, rfl⟩
        rw [comeL_val] at h1
        obtain ⟨i, hi, he⟩ := probesL_mem.1 h1
        exact probesL_mem.2 ⟨i, by omega, he⟩
      gi_wp2
      refine ⟨by simp, .inl ⟨_, _, rfl, run_takeDeferred hK, ?_⟩⟩
      have hc5 := cell_kept hcR (grownBy_putObj' _ D (.deferred none)) (fun r e => by cases e; exact ⟨_, hK, rfl⟩)
      refine ⟨.bool false, ?_, by rw [eall], hB.trans (belowK_b (w := w) (Nat.le_refl _) W D _ _ (by have := hB3.size; omega) hK rfl rfl)⟩
      simp [results, Tryd.f85, go_sem, hc5]
end Go.Proofs.YtpffieogkfndaaaDoor

namespace Go.Proofs.YtpffieogkfndaaaDoor
open Go.RowKit
set_option maxRecDepth 20000
set_option linter.unusedVariables false
set_option linter.unusedSimpArgs false
theorem step_appX {α : Type} [Rep α] {ops : Array Oper} {o : Oper} {a : Act} {w : World} {K : Act → World → Prop} {Q : Exit → Act → World → Prop} {E : Prop} (hgd : o.guard = none) (s x : Operand) (t : TypeId)
    (ho : o.op = .call { callee := .builtin .append, args := #[s, x], argTypes := #[t, t] })
    (B : Nat) (e : TypeId) (z : Value) (bytes : Nat) (ht : Tryd.prog.underlying t = some (.slice e)) (hi : (Tryd.prog.info? e).map (fun i => (i.zero, i.size, i.bytes)) = some (some z, Rep.size α, bytes))
    (hzs : z.cells.size = Rep.size α)
    (A : Option Addr) (n c : Nat) (ls : List α) (hsv : a.eval s = .slice A n c) (hown : OwnX w B e A n c ls)
    (A2 : Option Addr) (m c2 : Nat) (ms : List α) (hx : a.eval x = .slice A2 m c2) (hs : ∃ xs, Sl w (Rep.size α) A2 m c2 xs ∧ RowC w (fun b => blk A c ≠ some b) xs ms)
    (h63 : n + m ≤ maxLen) (hbytes : (n + m) * bytes ≤ 140737488355328) (hB : B ≤ w.heap.size)
    (h : ∀ A' c' w', OwnX w' B e A' (n + m) c' (ls ++ ms) → w.grownBy w' (blk A c) → (blk A' c' = blk A c ∨ blk A' c' = some w.heap.size) → K (a.put o.dst (.slice A' (n + m) c')) w') :
    if Region.wanted o (yielded ops a.tmps) = true then Oper.wp Tryd.prog o a w K Q else E := by
  have hw : Region.wanted o (yielded ops a.tmps) = true := by simp [Region.wanted, hgd]
  rw [if_pos hw]
  obtain ⟨A', c', w', hrun, h2, h3, h4⟩ := row_app Tryd.prog w t o.type z bytes ht hi hzs hown A2 m c2 ms hs h63 hbytes hB
  unfold Oper.wp execOp
  simp only [ho, resolve, invoke, builtin, Sem.run_bind, Sem.run_pure, Result.andThen_ok, List.map_toArray, List.map_cons, List.map_nil, hsv, hx, hrun]
  exact h A' c' w' h2 h3 h4
end Go.Proofs.YtpffieogkfndaaaDoor

namespace Go.Proofs.YtpffieogkfndaaaDoor
open Go.RowKit
set_option maxRecDepth 20000
set_option linter.unusedVariables false
set_option linter.unusedSimpArgs false
def numsL : Nat → List UInt8 → Option (List Nat × List UInt8)
  | 0, p => some ([], p)
  | n + 1, p => if (takeL p).2.2 = 0 ∧ (takeL p).1 ≤ 65536 then (numsL n (takeL p).2.1).map fun x => ((takeL p).1 :: x.1, x.2) else none
def contU (outs : List Nat) (o : Option (List Nat × List UInt8)) : Option (List Nat × List UInt8) := o.map fun x => (outs ++ x.1, x.2)
theorem contU_nil (o : Option (List Nat × List UInt8)) : contU [] o = o := by
  cases o with
  | none => rfl
  | some x => rfl
theorem contU_step (outs : List Nat) (n : Nat) (p : List UInt8) (h : (takeL p).2.2 = 0 ∧ (takeL p).1 ≤ 65536) : contU outs (numsL (n + 1) p) = contU (outs ++ [(takeL p).1]) (numsL n (takeL p).2.1) := by
  simp only [numsL]
  rw [if_pos h]
  unfold contU
  cases numsL n (takeL p).2.1 with
  | none => rfl
  | some x => simp
/-- numbers, bytes and whether they are so that a call gives back -/
def GotNums (w : World) (r : Option (List Nat × List UInt8)) (e : Ending) (w' : World) : Prop :=
  ∃ (A : Option Addr) (n c : Nat) (B : Option Addr) (m d : Nat), e = .returned (.tuple #[.slice A n c, .slice B m d, .bool r.isSome]) ∧ Sl w' 1 A n c (ic (r.getD ([], [])).1) ∧ Sl w' 1 B m d (bc (r.getD ([], [])).2) ∧ Below w.heap.size w w' ∧ NewAt w A n ∧ NewAt w B m
set_option maxHeartbeats 8000000 in
theorem nums_any (w : World) (A : Option Addr) (n c : Nat) (p : List UInt8) (k : Nat) (h : Sl w 1 A n c (bc p)) (hn : n ≤ 1000000) (hk : k ≤ 1000) (hk0 : 0 < k) :
    Calls Tryd.prog 93 #[.slice A n c, .int .i64 (k : Int)] w (GotNums w (numsL k p)) := by
  obtain ⟨r, hr⟩ : ∃ r, numsL k p = r := ⟨_, rfl⟩
  rw [hr]
  have hl := h.lenb
  have Hr := Lib.hid hr
  have hp : p.length ≤ 1000000 := by omega
  clear hr hl
  go_enter Tryd.func93, Tryd.ntmps93
  go_wp2
  go_loopw [0, 7, 12] (fun q s i wr => ∃ j : Nat, j ≤ k ∧ i = .int .i64 j ∧ Below w.heap.size w wr ∧ ∃ A2 n2 c2 outs A3 n3 c3 rest, s = .slice A2 n2 c2 ∧ Own wr w.heap.size 3 1 A2 n2 c2 (ic outs) ∧ outs.length = j ∧ q = .slice A3 n3 c3 ∧ Sl wr 1 A3 n3 c3 (bc rest) ∧ (∀ b, 0 < n3 → A3.map (·.block) = some b → blk A2 c2 ≠ some b ∧ (0 < j → w.heap.size ≤ b)) ∧ rest.length ≤ 1000000 ∧ Hid (numsL k p = contU outs (numsL (k - j) rest))) (fun _ _ i _ => k - (intOf i).toNat)
  case atStart => exact ⟨0, Nat.zero_le _, rfl, Below.refl _ _, none, 0, 0, [], A, n, c, p, rfl, Own.nil _ _ _ _ _, rfl, rfl, h, fun b _ _ => ⟨fun e => by simp [blk] at e, fun q => absurd q (by omega)⟩, hp, Lib.hid (by rw [contU_nil]; rfl)⟩
  case round =>
    clear h
    obtain ⟨j, hj, rfl, hbr, A2, n2, c2, outs, A3, n3, c3, rest, rfl, ho2, hol, rfl, s3, hne, hrl, Hc⟩ := hrel
    by_cases hlt : j < k
    case neg =>
      obtain rfl : k = j := by omega
      have er : some (outs, rest) = r := by rw [← Hr.out, Hc.out, Nat.sub_self]; simp [numsL, contU]
      subst er
      go_wp2
      refine bodyPost_ret (v := .tuple #[.slice A2 n2 c2, .slice A3 n3 c3, .bool true]) (by simp [results, Tryd.results93, go_sem]) rfl ?_
      refine ⟨A2, n2, c2, A3, n3, c3, rfl, ho2.sl, s3, hbr, fun b hn e => ?_, fun b hn e => (hne b hn e).2 hk0⟩
      have := ho2.lt b (by have := ho2.cap; unfold blk; rw [if_neg (by omega)]; exact e)
      exact this.1
    have hc := take_any wr A3 n3 c3 rest s3 (by have := s3.lenb; omega)
    have hll := takeL_len rest
    have hlt64 := takeL_lt rest
    have hst := contU_step outs (k - (j + 1)) rest
    have hst2 : ¬ ((takeL rest).2.2 = 0 ∧ (takeL rest).1 ≤ 65536) → contU outs (numsL (k - (j + 1) + 1) rest) = none := fun hh => by
      simp only [numsL]
      rw [if_neg hh]
      rfl
    rw [show k - (j + 1) + 1 = k - j by omega, ← Hc.out, Hr.out] at hst hst2
    unfold TookB at hc
    generalize takeL rest = a at *
    obtain ⟨N, q, e1⟩ := a
    simp only at hc hll hlt64 hst hst2
    have hn2 := ho2.len
    rw [ic_len] at hn2
    have C := Lib.hid hc
    have Zr := Lib.hid hbr.size
    have Hst := Lib.hid hst
    have Hst2 := Lib.hid hst2
    have Hol := Lib.hid hol
    have Hq : Hid (q.length ≤ 1000000) := by unfold Hid; omega
    have hn2b : n2 ≤ 1000 := by omega
    have Hjk : Hid (j < k) := hlt
    clear hc hll hst hst2 hol hn2 s3 hrl hne
    go_wp2_with fail
    refine C.out.mono ?_
    rintro e w1 ⟨A4, n4, c4, rfl, o4, hb⟩
    have ho2 := Own.below ho2 hb
    have hbr := hbr.trans (hb.mono hbr.size)
    clear hb C
    by_cases z1 : e1 = 0
    case neg =>
      have er : none = r := (Hst2.out (fun hh => z1 hh.1)).symm
      subst er
      have i1 : ((e1 : Int) == 0) = false := by rw [beq_eq_false_iff_ne]; omega
      have i2 : ((e1 : Int) != 0) = true := by rw [bne_iff_ne]; omega
      clear z1
      go_wp2
      refine bodyPost_ret (v := .tuple #[.slice none 0 0, .slice none 0 0, .bool false]) (by simp [results, Tryd.results93, go_sem]) rfl ?_
      exact ⟨none, 0, 0, none, 0, 0, rfl, Sl.nil _ _ _ _ (Nat.zero_le _), sl_none _, hbr, none_new _, none_new _⟩
    subst z1
    by_cases z2 : N ≤ 65536
    case neg =>
      have er : none = r := (Hst2.out (fun hh => z2 hh.2)).symm
      subst er
      have i1 : decide ((65536 : Int) < (N : Int)) = true := decide_eq_true (by omega)
      clear z2
      go_wp2
      refine bodyPost_ret (v := .tuple #[.slice none 0 0, .slice none 0 0, .bool false]) (by simp [results, Tryd.results93, go_sem]) rfl ?_
      exact ⟨none, 0, 0, none, 0, 0, rfl, Sl.nil _ _ _ _ (Nat.zero_le _), sl_none _, hbr, none_new _, none_new _⟩
    have i1 : decide ((65536 : Int) < (N : Int)) = false := decide_eq_false (by omega)
    have hst3 : r = contU (outs ++ [N]) (numsL (k - (j + 1)) q) := Hst.out ⟨(by first | rfl | trivial), z2⟩
    have Hst3 := Lib.hid hst3
    have hwr : IntKind.i64.wrap (N : Int) = (N : Int) := by rw [IntKind.wrap_i64]; omega
    have hlit : Sl (w1.alloc (.cells #[.int .i64 (N : Int)] 3)) 1 (some ⟨w1.heap.size, 0, none⟩) 1 1 (ic [N]) := Sl.lit w1 _ _ 1 _ _ rfl (by unfold maxLen; omega) rfl
    have al := (Below.refl w1.heap.size w1).alloc (Nat.le_refl _) (.cells #[.int .i64 (N : Int)] 3)
    have ho2 := Own.below ho2 al
    have o4 : OwnB _ _ _ _ _ _ := Own.below o4 al
    have hbr := hbr.trans (al.mono hbr.size)
    obtain ⟨iI, hiI, hzI, hsI, hbI⟩ := info_parts infoInt
    clear al hst3
    go_wp2_with (at_builtin; refine wpList_app _ rfl (.tmp 26) (.tmp 29) 135 rfl w.heap.size 3 iI _ 1 8 Tryd.underlying135 hiI hzI hsI hbI rfl A2 n2 c2 (ic outs) rfl ho2 _ 1 1 (ic [N]) rfl hlit (ic_one _) ?_ ?_ ?_ ?_)
    · unfold maxLen; omega
    · omega
    · exact hbr.size
    intro A5 c5 w5 ho5 hg5 hx5
    rw [← ic_append] at ho5
    have o45 : OwnB w5 _ _ _ _ _ := Own.grown o4 hg5 (own_apart o4 ho2 (by decide))
    have hbr := hbr.grown hg5 hbr.size (fun b hb => (Own.lt ho2 b hb).1)
    have hne5 : ∀ b, 0 < n4 → A4.map (·.block) = some b → blk A5 c5 ≠ some b ∧ (0 < j + 1 → w.heap.size ≤ b) := fun b hn e => by
      have e4 : blk A4 c4 = some b := by have := (OwnB.sl o4).cap; unfold blk; rw [if_neg (by omega)]; exact e
      refine ⟨fun h5 => ?_, fun _ => by have := (Own.lt o4 b e4).1; have := Zr.out; omega⟩
      rcases hx5 with q | q
      · exact own_apart o4 ho2 (by decide) b e4 (q ▸ h5)
      · rw [q] at h5
        have := (Own.lt o4 b e4).2
        simp at h5
        simp at this
        omega
    have Hne5 := Lib.hid hne5
    clear hiI hzI hsI hbI hlit hg5 hx5 o4 ho2 hne5
    go_wp2
    go_roundw
    case rel => exact ⟨j + 1, by have := Hjk.out; omega, by go_num, hbr, A5, _, c5, outs ++ [N], A4, n4, c4, q, rfl, ho5, by rw [List.length_append, Hol.out]; rfl, rfl, OwnB.sl o45, Hne5.out, Hq.out, Lib.hid (by rw [Hr.out]; exact Hst3.out)⟩
    case measure => have := Hjk.out; simp [intOf]; omega
end Go.Proofs.YtpffieogkfndaaaDoor

namespace Go.Proofs.YtpffieogkfndaaaDoor
open Go.RowKit
set_option maxRecDepth 20000
set_option linter.unusedVariables false
set_option linter.unusedSimpArgs false
theorem leval_drop' (l : List UInt8) (j : Nat) (hj : j < l.length) : leval (l.drop j) = leval (l.drop (j + 1)) * 256 + (l[j]).toNat := by
  rw [List.drop_eq_getElem_cons hj]
  rfl
set_option maxHeartbeats 8000000 in
theorem version_any (w : World) (A : Option Addr) (n c : Nat) (f : List UInt8) (h : Sl w 1 A n c (bc f)) (h8 : 8 ≤ n) (hn : n ≤ 1000000) :
    Calls Tryd.prog 94 #[.slice A n c] w fun e w' => ∃ A' n' c', e = .returned (.agg #[.slice A' n' c', .int .u64 ((verL f).seq.toNat : Int), .int .u8 ((verL f).kind.toNat : Int)]) ∧ OwnB w' w.heap.size A' n' c' (verL f).user ∧ Below w.heap.size w w' := by
  have hl := h.lenb
  obtain ⟨u, hu⟩ : ∃ u, u = f.length - 8 := ⟨_, rfl⟩
  have hv : verL f = keyOfN (f.take u) (leval (f.drop u)) := by unfold verL; rw [hu]
  have hr8 : (f.drop u).length = 8 := by rw [List.length_drop]; omega
  have hun : n = u + 8 := by omega
  have hw1 : IntKind.i64.wrap ((n : Int) - 8) = (u : Int) := by rw [IntKind.wrap_i64]; omega
  have hw2 : (n : Int) - 8 = (u : Int) := by omega
  obtain ⟨hrc, hsc⟩ := cutH h .i64 (u : Int) u rfl (by omega)
  have hcap := h.cap
  have hcm := h.capm
  unfold maxLen at hcm
  rw [hv]
  have k3 : (keyOfN (f.take u) (leval (f.drop u))).user = f.take u := rfl
  rw [k3]
  obtain ⟨ks, hks⟩ : ∃ ks, (keyOfN (f.take u) (leval (f.drop u))).seq.toNat = ks := ⟨_, rfl⟩
  obtain ⟨kd, hkd⟩ : ∃ kd, (keyOfN (f.take u) (leval (f.drop u))).kind.toNat = kd := ⟨_, rfl⟩
  rw [hks, hkd]
  have Hks := Lib.hid hks
  have Hkd := Lib.hid hkd
  have cc := fun w' (hb : Below w.heap.size w w') => clone_any w' A u c (f.take u) (hsc.below (by omega) hb) (by omega)
  have al := (Below.refl w.heap.size w).alloc (Nat.le_refl _) (.cells #[.slice none 0 0, .int .u64 0, .int .u8 0] 43)
  have kR := Bx.fresh w (.slice none 0 0) (.int .u64 0) (.int .u8 0) 43
  generalize hW : (w.alloc (.cells #[.slice none 0 0, .int .u64 0, .int .u8 0] 43)) = w0 at *
  have h0 := h.below (by omega) al
  have zR := kR.lt
  have Cc := Lib.hid cc
  have Hu := Lib.hid hu
  have Hl := Lib.hid hl
  have Hr8 := Lib.hid hr8
  have hub : u ≤ 1000000 := by omega
  have Hun := Lib.hid hun
  clear cc hu hl hr8 hv hsc h hun k3 hks hkd
  go_enter Tryd.func94, Tryd.ntmps94
  go_wp2
  try rw [hW]
  clear hW
  go_loopw [3, 5] (fun a i wr => ∃ (j v : Nat) (z : Int), z = 7 - (j : Int) ∧ j ≤ 8 ∧ i = .int .i64 z ∧ a = .int .u64 (v : Int) ∧ Hid (v = leval ((f.drop u).drop (8 - j))) ∧ w0 = wr) (fun _ i _ => (intOf i + 1).toNat)
  case atStart => exact ⟨0, 0, 7, by omega, by omega, rfl, rfl, by unfold Hid; rw [List.drop_of_length_le (by rw [Hr8.out]; omega)]; rfl, rfl⟩
  case round =>
    obtain ⟨j, v, z, hz, hj, rfl, rfl, Hv, rfl⟩ := hrel
    by_cases hj8 : j < 8
    · obtain ⟨t, ht⟩ : ∃ t : Nat, t = 7 - j := ⟨_, rfl⟩
      obtain rfl : z = (t : Int) := by omega
      have htl : t < (f.drop u).length := by rw [Hr8.out]; omega
      have hutl : u + t < f.length := by rw [Hl.out, Hun.out]; omega
      obtain ⟨bb, o, x, rfl, hx, hxl, hcell⟩ := h0.byte hutl
      have hstep := leval_drop' (f.drop u) t htl
      rw [List.getElem_drop, hx, show t + 1 = 8 - j by omega, ← Hv.out] at hstep
      have hvb : v < 72057594037927936 := by
        rw [Hv.out]
        have h1 := leval_lt ((f.drop u).drop (8 - j))
        have h2 : (256 : Nat) ^ ((f.drop u).drop (8 - j)).length ≤ 256 ^ 7 := Nat.pow_le_pow_right (by omega) (by rw [List.length_drop, Hr8.out]; omega)
        have : (256 : Nat) ^ 7 = 72057594037927936 := rfl
        omega
      have eo : bits .or .u64 ((v : Int) * 256) (x : Int) = ((v * 256 + x : Nat) : Int) := by
        have h1 := u64_or_nat (v * 256) x (by omega) (by omega)
        rw [nat_join 8 _ _ (by omega) (by omega)] at h1
        rw [← h1]
        simp
      obtain ⟨ut, hut⟩ : ∃ ut, ut = u + t := ⟨_, rfl⟩
      rw [← hut] at hcell
      have hs1 : (u : Int) + (t : Int) = (ut : Int) := by omega
      have hutn : ut < n := by have := Hun.out; omega
      have Hstep := Lib.hid hstep
      have Ht := Lib.hid ht
      have Hj8 := Lib.hid hj8
      clear hz hj hj8 ht hstep hx htl hutl hut
      go_wp2
      go_roundw
      case rel => exact ⟨j + 1, v * 256 + x, (t : Int) - 1, by have := Ht.out; have := Hj8.out; omega, by have := Hj8.out; omega, by simp, by go_num, by unfold Hid; rw [← Hstep.out]; congr 2; have := Ht.out; omega, (by first | rfl | trivial)⟩
      case measure => simp [intOf]
    · obtain rfl : j = 8 := by omega
      obtain rfl : z = -1 := by omega
      have hN := Hv.out
      rw [Nat.sub_self, List.drop_zero] at hN
      have hvl : v < 18446744073709551616 := by
        rw [hN]
        have h1 := leval_lt (f.drop u)
        rw [Hr8.out] at h1
        exact h1
      have k1 := Hks.out
      have k2 := Hkd.out
      rw [← hN] at k1 k2
      have f1 : (v : Int) / 256 = (ks : Int) := by
        unfold keyOfN at k1
        rw [UInt64.toNat_ofNat', Nat.mod_eq_of_lt (by omega)] at k1
        omega
      have f2 : (v : Int) % 256 = (kd : Int) := by
        unfold keyOfN at k2
        simp at k2
        omega
      clear hj8 hz hj hN k1 k2 Hv hw1 hw2
      go_wp2_with fail
      refine (Cc.out _ al).mono ?_
      rintro e w2 ⟨A2, n2, c2, rfl, o2, hb2⟩
      have kR := kR.below hb2
      obtain ⟨x0, x1, x2, x3⟩ := id kR
      have hq := al.trans (hb2.mono al.size)
      clear hrc
      go_wp2
      refine bodyPost_ret (v := .agg #[.slice A2 n2 c2, .int .u64 (ks : Int), .int .u8 (kd : Int)]) (by simp [results, Tryd.results94, go_sem, x0, x1, x2]) rfl ⟨A2, n2, c2, rfl, ?_, ?_⟩
      · refine Own.mono (B := w0.heap.size) ?_ al.size
        iterate 3 refine own_set ?_ (by omega) _
        exact o2
      · iterate 3 refine Below.setCell ?_ (by simp) _
        exact hq
end Go.Proofs.YtpffieogkfndaaaDoor
