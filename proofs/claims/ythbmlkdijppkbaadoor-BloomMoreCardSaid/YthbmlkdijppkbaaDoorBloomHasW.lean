/-
  What bloom.Has answers. The table lies in its variable.
-/
import Derived.Test.YthbmlkdijppkbaaDoorBloomWalk
import Derived.Test.YthbmlkdijppkbaaDoorRange
namespace Go.Proofs.YthbmlkdijppkbaaDoor
open Go.RowKit

attribute [local go_sem] Oper.semAt_some

theorem cell_new1 (w : World) (v : Value) (t : TypeId) : (w.alloc (.cells #[v] t)).cell? ⟨w.heap.size, 0, none⟩ = some v ∧ (w.alloc (.cells #[v] t)).frozen? ⟨w.heap.size, 0, none⟩ = false := by
  have h := heap_alloc_new w (.cells #[v] t)
  exact ⟨by unfold World.cell?; rw [h]; rfl, by unfold World.frozen?; rw [h]; rfl⟩
theorem cell_old {w : World} {a : Addr} {v : Value} (o : Obj) (h : w.cell? a = some v) : (w.alloc o).cell? a = some v := (World.cell?_alloc_lt _ _ _ (World.block_lt_of_cell? _ _ h)).trans h
theorem frozen_old {w : World} {a : Addr} {v : Value} (o : Obj) (h : w.cell? a = some v) (hf : w.frozen? a = false) : (w.alloc o).frozen? a = false := (frozen_kept h (World.grownBy_alloc w o none) (fun r e => by cases e)).trans hf
theorem bit_live (y i : Nat) (hy : y < 256) : (bits .and .u8 ((y : Nat) / 2 ^ i : Int) 1 == 0) = !(y.testBit i) := by
  have e : ((y : Nat) : Int) / 2 ^ i = ((y / 2 ^ i : Nat) : Int) := by simp
  have hle : y / 2 ^ i ≤ y := Nat.div_le_self _ _
  have e2 := u8_and_nat (y / 2 ^ i) 1 (by omega) (by omega)
  rw [Nat.and_one_is_mod] at e2
  have e3 : bits .and .u8 ((y / 2 ^ i : Nat) : Int) 1 = ((y / 2 ^ i % 2 : Nat) : Int) := e2
  rw [e, e3, Nat.testBit_eq_decide_div_mod_eq, Bool.eq_iff_iff]
  simp only [beq_iff_eq, Bool.not_eq_true', decide_eq_false_iff_not]
  omega
set_option maxRecDepth 100000 in
set_option maxHeartbeats 2000000 in
theorem has_any (w : World) (A : Option Addr) (n c : Nat) (f : List UInt8) (h : Sl w 1 A n c (bc f)) (Ak : Option Addr) (nk ck : Nat) (key : List UInt8) (hk : Sl w 1 Ak nk ck (bc key)) (hq : Quarter w) (hn : n ≤ 100000) :
    Calls Tryd.prog 40 #[.slice A n c, .slice Ak nk ck] w fun e w' => e = .returned (.bool (hasL f key)) ∧ Below w.heap.size w w' := by
  have Hl : Hid (f.length = n) := h.lenb
  have hcm := h.capm
  have hcc := h.cap
  unfold maxLen at hcm
  refine (callsIn_wide (n := 5)).1 ?_
  refine callsIn_of_wp_marks Tryd.func40 rfl trivial ?_ rfl
  simp only [Tryd.ntmps40, List.size_toArray, List.length_cons, List.length_nil, Nat.reduceAdd, Nat.reduceSub, Array.replicate_succ, Array.replicate_zero, List.push_toArray, List.append_toArray, List.nil_append, List.cons_append]
  have cA := cell_new1 w (.slice A n c) 24
  have cR := cell_new1 (w.alloc (.cells #[.slice A n c] 24)) (.bool false) 4
  simp only [World.size_alloc] at cR
  have hb0 : Below w.heap.size w ((w.alloc (.cells #[.slice A n c] 24)).alloc (.cells #[.bool false] 4)) := ((Below.refl _ w).alloc (Nat.le_refl _) _).alloc (by simp) _
  by_cases h8 : n < 9
  · have e1 : hasL f key = true := by unfold hasL; rw [if_pos (.inl (by have := Hl.out; omega))]
    rw [e1]
    have d1 : decide ((n : Int) - 1 < 8) = true := by simp; omega
    gi_wp2
    refine ⟨.bool true, ?_, rfl, ((Below.refl _ w).alloc (Nat.le_refl _) _).alloc (by simp) _⟩
    simp [results, Tryd.f40, go_sem]
  · obtain ⟨k, rfl⟩ : ∃ k, n = k + 1 := ⟨n - 1, by omega⟩
    have d1 : decide ((k : Int) < 8) = false := by simp; omega
    have hn1 : k < f.length := by have := Hl.out; omega
    obtain ⟨g, o, x, rfl, hx, hxl, hcell⟩ := h.byte hn1
    have hgl := World.block_lt_of_cell? _ _ hcell
    have hcell2 := (hb0.cell (p := ⟨g, o + k, none⟩) hgl).trans hcell
    by_cases h1 : x < 1
    · have e1 : hasL f key = true := by
        unfold hasL
        have := Hl.out
        rw [show f.length - 1 = k by omega, List.getElem?_eq_getElem hn1, Option.getD_some, hx]
        exact if_pos (.inr (.inl h1))
      rw [e1]
      obtain rfl : x = 0 := by omega
      clear hx
      gi_wp2
      refine ⟨.bool true, ?_, rfl, ((Below.refl _ w).alloc (Nat.le_refl _) _).alloc (by simp) _⟩
      simp [results, Tryd.f40, go_sem]
    by_cases h2 : 30 < x
    · have e1 : hasL f key = true := by
        unfold hasL
        have := Hl.out
        rw [show f.length - 1 = k by omega, List.getElem?_eq_getElem hn1, Option.getD_some, hx]
        exact if_pos (.inr (.inr h2))
      rw [e1]
      have d2 : decide ((x : Int) < 1) = false := by simp; omega
      have d3 : decide (30 < (x : Int)) = true := by simp; omega
      clear hx
      gi_wp2
      refine ⟨.bool true, ?_, rfl, ((Below.refl _ w).alloc (Nat.le_refl _) _).alloc (by simp) _⟩
      simp [results, Tryd.f40, go_sem]
    have e1 : hasL f key = (probesL key (8 * k) x).all (bitL f) := by
      unfold hasL
      have := Hl.out
      rw [show f.length - 1 = k by omega, List.getElem?_eq_getElem hn1]
      simp only [Option.getD_some, hx]
      rw [if_neg (by omega)]
    rw [e1]
    have E1 := Lib.hid e1
    have d2 : decide ((x : Int) < 1) = false := by simp; omega
    have d3 : decide (30 < (x : Int)) = false := by simp; omega
    have hm : 0 < 8 * k := by omega
    clear hx e1
    gi_wp2_with fail
    refine ⟨trivial, callsIn_wide.2 ((each_any _ _ _ _ _ _).mono ?_)⟩
    rintro e w' ⟨rfl, rfl⟩
    gi_wp2
    obtain ⟨w0, hw0⟩ : ∃ w0, (w.alloc (.cells #[.slice (some ⟨g, o, none⟩) (k + 1) c] 24)).alloc (.cells #[.bool false] 4) = w0 := ⟨_, rfl⟩
    have hs0 : w.heap.size + 1 + 1 = w0.heap.size := by rw [← hw0]; simp
    rw [hw0] at cR hb0 hcell2
    have cA0 : w0.cell? ⟨w.heap.size, 0, none⟩ = some (.slice (some ⟨g, o, none⟩) (k + 1) c) := by rw [← hw0]; exact cell_old _ cA.1
    have hk0 : Sl w0 1 Ak nk ck (bc key) := hk.below (by omega) hb0
    have hq0 := hq.below hb0
    rw [hw0]
    have k1 := cell_new1 w0 (.slice Ak nk ck) 24
    have k2 := cell_new1 (w0.alloc (.cells #[.slice Ak nk ck] 24)) (.int .i64 (x : Int)) 3
    have k3 := cell_new1 ((w0.alloc (.cells #[.slice Ak nk ck] 24)).alloc (.cells #[.int .i64 (x : Int)] 3)) (.int .u32 (8 * (k : Int))) 26
    obtain ⟨w3, hw3⟩ : ∃ w3, ((w0.alloc (.cells #[.slice Ak nk ck] 24)).alloc (.cells #[.int .i64 (x : Int)] 3)).alloc (.cells #[.int .u32 (8 * (k : Int))] 26) = w3 := ⟨_, rfl⟩
    have hb3 : Below w0.heap.size w0 w3 := by rw [← hw3]; exact (((Below.refl _ w0).alloc (Nat.le_refl _) _).alloc (by simp) _).alloc (by simp; omega) _
    have k1' : w3.cell? ⟨w0.heap.size, 0, none⟩ = some (.slice Ak nk ck) := by rw [← hw3]; exact cell_old _ (cell_old _ k1.1)
    have k2' : w3.cell? ⟨w0.heap.size + 1, 0, none⟩ = some (.int .i64 (x : Int)) := by rw [← hw3, ← World.size_alloc w0]; exact cell_old _ k2.1
    have k3' : w3.cell? ⟨w0.heap.size + 1 + 1, 0, none⟩ = some (.int .u32 (8 * (k : Int))) := by rw [← hw3]; simp only [World.size_alloc] at k3; exact k3.1
    have hs3 : w3.heap.size = w0.heap.size + 1 + 1 + 1 := by rw [← hw3]; simp
    have hB3 : Below w.heap.size w w3 := hb0.trans (hb3.mono hb0.size)
    rw [hw3]
    rw [← hs0] at k1' k2' k3'
    refine range_one rfl (by omega) (p := 36) (q := 6) (gf := 62) rfl trivial (enters_of Tryd.func62 (by kernel_rfl) rfl)
      (each_stops _ (by omega) _ _ _ Ak nk ck key x (8 * k) hm (by omega) w3 k1' k2' k3' (hk0.below (by omega) hb3) (hq0.below hb3)) keep1_t (keep1_b (by omega)) (Below.refl _ _)
      (fun pre W => ((∀ v ∈ pre, bitL f v.val = true) ∧ W.cell? ⟨w.heap.size, 0, none⟩ = some (.slice (some ⟨g, o, none⟩) (k + 1) c) ∧ W.cell? ⟨w.heap.size + 1, 0, none⟩ = some (.bool false) ∧ W.frozen? ⟨w.heap.size + 1, 0, none⟩ = false) ∧ Below w.heap.size w W)
      (fun cd pre W => (cd = .ret ∧ (∃ v ∈ pre, bitL f v.val = false) ∧ W.cell? ⟨w.heap.size + 1, 0, none⟩ = some (.bool false)) ∧ Below w.heap.size w W)
      (OwnFrom.and (Go.Own.from (fun s A B row hs hg hr => ⟨hs.1, cell_kept hs.2.1 hg hr, cell_kept hs.2.2.1 hg hr, (frozen_kept hs.2.2.1 hg hr).trans hs.2.2.2⟩) _) (ownFrom_below (Nat.le_refl _) (by omega)))
      (fun cd => OwnFrom.and (Go.Own.from (fun s A B row hs hg hr => ⟨hs.1, hs.2.1, cell_kept hs.2.2 hg hr⟩) _) (ownFrom_below (Nat.le_refl _) (by omega)))
      ⟨⟨by simp, ?_, ?_, ?_⟩, hB3⟩ (by simp) ?body ?done ?stop
    · exact (hb3.cell (p := ⟨w.heap.size, 0, none⟩) (by show w.heap.size < _; omega)).trans cA0
    · exact (hb3.cell (p := ⟨w.heap.size + 1, 0, none⟩) (by show w.heap.size + 1 < _; omega)).trans cR.1
    · rw [← hw3]; exact frozen_old _ (cell_old _ (cell_old _ cR.1)) (frozen_old _ (cell_old _ cR.1) (frozen_old _ cR.1 cR.2))
    case body =>
      rintro l pre v W ⟨⟨hp, hcA, hcR, hfR⟩, hB⟩ _
      obtain ⟨v, hv⟩ := v
      have hvl : v / 8 < f.length := by have := Hl.out; omega
      obtain ⟨g', o', y, eA, hy, hyl, hycell⟩ := (h.below (by omega) hB).byte hvl
      obtain ⟨rfl, rfl⟩ : g = g' ∧ o = o' := by simpa using eA
      have hbit : bitL f v = y.testBit (v % 8) := by unfold bitL; rw [List.getElem?_eq_getElem hvl, Option.getD_some, hy]
      have Hbit := Lib.hid hbit
      have hv8 : v / 8 < k + 1 := by omega
      clear hy hbit eA hcell hcell2 h
      gi_wp2
      all_goals rename_i hx
      all_goals rw [bit_live y _ hyl] at hx
      · have hbf : bitL f v = false := by rw [Hbit.out]; simpa using hx
        exact ⟨KeepsOthers.setCell _ _ _, ⟨rfl, ⟨⟨v, hv⟩, by simp, hbf⟩, World.cell?_setCell_same' _ _ _ (by rw [hcR]; rfl)⟩, hB.setCell (p := ⟨w.heap.size + 1, 0, none⟩) (by simp) _⟩
      · have hbt : bitL f v = true := by rw [Hbit.out]; simpa using hx
        refine ⟨KeepsOthers.refl _, rfl, ⟨fun u hu => ?_, hcA, hcR, hfR⟩, hB⟩
        rcases List.mem_append.1 hu with h1 | h1
        · exact hp u h1
        · obtain rfl : u = ⟨v, hv⟩ := by simpa using h1
          exact hbt
    case done =>
      rintro D ys W hD rfl ⟨⟨hp, _, hcR, hfR⟩, hB⟩ hK
      have eall : (probesL key (8 * k) x).all (bitL f) = true := by
        rw [List.all_eq_true]
        intro u hu
        rw [← comeL_val key hm x] at hu
        obtain ⟨v, hv, rfl⟩ := List.mem_map.1 hu
        exact hp v hv
      gi_wp2
      have hK' := (KeepsOthers.setCell W ⟨w.heap.size + 1, 0, none⟩ (.bool true)).same D _ hK rfl
      refine ⟨by simp, .inl ⟨_, _, rfl, run_takeDeferred hK', ?_⟩⟩
      have hc5 := cell_kept (World.cell?_setCell_same' W ⟨w.heap.size + 1, 0, none⟩ (.bool true) (by rw [hcR]; rfl)) (grownBy_putObj' _ D (.deferred none)) (fun r e => by cases e; exact ⟨_, hK', rfl⟩)
      refine ⟨.bool true, ?_, by rw [eall], (hB.setCell (p := ⟨w.heap.size + 1, 0, none⟩) (by simp) _).trans (belowK_b (w := w) (Nat.le_refl _) _ D _ _ (by have := hB3.size; omega) hK' rfl rfl)⟩
      simp [results, Tryd.f40, go_sem, hc5]
    case stop =>
      rintro D cd pre W hD ⟨j, hj, rfl⟩ ⟨⟨rfl, ⟨v, hv, hbf⟩, hcR⟩, hB⟩ hK
      have eall : (probesL key (8 * k) x).all (bitL f) = false := by
        rw [List.all_eq_false]
        refine ⟨v.val, ?_, by rw [hbf]; simp⟩
        have h1 : v.val ∈ (comeL key hm j).map (·.val) := List.mem_map.2 ⟨v, hv, rfl⟩
        rw [comeL_val] at h1
        obtain ⟨i, hi, he⟩ := probesL_mem.1 h1
        exact probesL_mem.2 ⟨i, by omega, he⟩
      gi_wp2
      refine ⟨by simp, .inl ⟨_, _, rfl, run_takeDeferred hK, ?_⟩⟩
      have hc5 := cell_kept hcR (grownBy_putObj' _ D (.deferred none)) (fun r e => by cases e; exact ⟨_, hK, rfl⟩)
      refine ⟨.bool false, ?_, by rw [eall], hB.trans (belowK_b (w := w) (Nat.le_refl _) W D _ _ (by have := hB3.size; omega) hK rfl rfl)⟩
      simp [results, Tryd.f40, go_sem, hc5]
end Go.Proofs.YthbmlkdijppkbaaDoor
