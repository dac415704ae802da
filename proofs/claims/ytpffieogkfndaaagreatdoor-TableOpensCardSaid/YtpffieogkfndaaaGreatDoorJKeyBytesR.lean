/-
  BloomHasW, KeyBytesR in one text. No condition but sizes.
-/
import Derived.Test.YtpffieogkfndaaaGreatDoorJBloomWalk
import Derived.Test.YtpffieogkfndaaaGreatDoorJSpans
import Derived.Test.YtpffieogkfndaaaGreatDoorJKeyAfterW
import Derived.Test.YtpffieogkfndaaaGreatDoorJAtomWalk
import Derived.Test.YtpffieogkfndaaaGreatDoorJRowsX
import Derived.Deep.CutRange
namespace Go.Proofs.YtpffieogkfndaaaGreatDoor
set_option maxRecDepth 20000
set_option linter.unusedVariables false
set_option linter.unusedSimpArgs false
open Go.RowKit

attribute [local go_sem] Oper.semAt_some

theorem cell_new1 (w : World) (v : Value) (t : TypeId) : (w.alloc (.cells #[v] t)).cell? ⟨w.heap.size, 0, none⟩ = some v ∧ (w.alloc (.cells #[v] t)).frozen? ⟨w.heap.size, 0, none⟩ = false := by
  have h := heap_alloc_new w (.cells #[v] t)
  exact ⟨by unfold World.cell?; rw [h]; rfl, by unfold World.frozen?; rw [h]; rfl⟩
theorem cell_old {w : World} {a : Addr} {v : Value} (o : Obj) (h : w.cell? a = some v) : (w.alloc o).cell? a = some v := (World.cell?_alloc_lt _ _ _ (World.block_lt_of_cell? _ _ h)).trans h
theorem frozen_old {w : World} {a : Addr} {v : Value} (o : Obj) (h : w.cell? a = some v) (hf : w.frozen? a = false) : (w.alloc o).frozen? a = false := (frozen_kept h (World.grownBy_alloc w o none) (fun r e => by cases e)).trans hf
theorem bit_live (y i : Nat) (hy : y < 256) : (bits .and .u8 ((y : Nat) / 2 ^ i : Int) 1 == 0) = !(y.testBit i) := by
  have e : ((y : Nat) : Int) / 2 ^ i = ((y / 2 ^ i : Nat) : Int) := by simp
  have hle : y / 2 ^ i ≤ y := Nat.div_le_self _ _
  have e2 := u8_and_nat (y / 2 ^ i) 1 (by omega) (by omega)
  rw [Nat.and_one_is_mod] at e2
  have e3 : bits .and .u8 ((y / 2 ^ i : Nat) : Int) 1 = ((y / 2 ^ i % 2 : Nat) : Int) := e2
  rw [e, e3, Nat.testBit_eq_decide_div_mod_eq, Bool.eq_iff_iff]
  simp only [beq_iff_eq, Bool.not_eq_true', decide_eq_false_iff_not]
  omega
set_option maxRecDepth 100000 in
set_option maxHeartbeats 2000000 in
theorem has_any (w : World) (A : Option Addr) (n c : Nat) (f : List UInt8) (h : Sl w 1 A n c (bc f)) (Ak : Option Addr) (nk ck : Nat) (key : List UInt8) (hk : Sl w 1 Ak nk ck (bc key)) (hq : Quarter w) (hn : n ≤ 100000) :
    Calls Tryz.prog 75 #[.slice A n c, .slice Ak nk ck] w fun e w' => e = .returned (.bool (hasL f key)) ∧ Below w.heap.size w w' := by
  have Hl : Hid (f.length = n) := h.lenb
  have hcm := h.capm
  have hcc := h.cap
  unfold maxLen at hcm
  refine (callsIn_wide (n := 5)).1 ?_
  refine callsIn_of_wp_marks Tryz.func75 rfl trivial ?_ rfl
  simp only [Tryz.ntmps75, List.size_toArray, List.length_cons, List.length_nil, Nat.reduceAdd, Nat.reduceSub, Array.replicate_succ, Array.replicate_zero, List.push_toArray, List.append_toArray, List.nil_append, List.cons_append]
  have cA := cell_new1 w (.slice A n c) 29
  have cR := cell_new1 (w.alloc (.cells #[.slice A n c] 29)) (.bool false) 4
  simp only [World.size_alloc] at cR
  have hb0 : Below w.heap.size w ((w.alloc (.cells #[.slice A n c] 29)).alloc (.cells #[.bool false] 4)) := ((Below.refl _ w).alloc (Nat.le_refl _) _).alloc (by simp) _
  by_cases h8 : n < 9
  · have e1 : hasL f key = true := by unfold hasL; rw [if_pos (.inl (by have := Hl.out; omega))]
    rw [e1]
    have d1 : decide ((n : Int) - 1 < 8) = true := by simp; omega
    gi_wp2
    refine ⟨.bool true, ?_, rfl, ((Below.refl _ w).alloc (Nat.le_refl _) _).alloc (by simp) _⟩
    simp [results, Tryz.f75, go_sem]
  · obtain ⟨k, rfl⟩ : ∃ k, n = k + 1 := ⟨n - 1, by omega⟩
    have d1 : decide ((k : Int) < 8) = false := by simp; omega
    have hn1 : k < f.length := by have := Hl.out; omega
    obtain ⟨g, o, x, rfl, hx, hxl, hcell⟩ := h.byte hn1
    have hgl := World.block_lt_of_cell? _ _ hcell
    have hcell2 := (hb0.cell (p := ⟨g, o + k, none⟩) hgl).trans hcell
    by_cases h1 : x < 1
    · have e1 : hasL f key = true := by
        unfold hasL
        have := Hl.out
        rw [show f.length - 1 = k by omega, List.getElem?_eq_getElem hn1, Option.getD_some, hx]
        exact if_pos (.inr (.inl h1))
      rw [e1]
      obtain rfl : x = 0 := by omega
      clear hx
      gi_wp2
      refine ⟨.bool true, ?_, rfl, ((Below.refl _ w).alloc (Nat.le_refl _) _).alloc (by simp) _⟩
      simp [results, Tryz.f75, go_sem]
    by_cases h2 : 30 < x
    · have e1 : hasL f key = true := by
        unfold hasL
        have := Hl.out
        rw [show f.length - 1 = k by omega, List.getElem?_eq_getElem hn1, Option.getD_some, hx]
        exact if_pos (.inr (.inr h2))
      rw [e1]
      have d2 : decide ((x : Int) < 1) = false := by simp; omega
      have d3 : decide (30 < (x : Int)) = true := by simp; omega
      clear hx
      gi_wp2
      refine ⟨.bool true, ?_, rfl, ((Below.refl _ w).alloc (Nat.le_refl _) _).alloc (by simp) _⟩
      simp [results, Tryz.f75, go_sem]
    have e1 : hasL f key = (probesL key (8 * k) x).all (bitL f) := by
      unfold hasL
      have := Hl.out
      rw [show f.length - 1 = k by omega, List.getElem?_eq_getElem hn1]
      simp only [Option.getD_some, hx]
      rw [if_neg (by omega)]
    rw [e1]
    have E1 := Lib.hid e1
    have d2 : decide ((x : Int) < 1) = false := by simp; omega
    have d3 : decide (30 < (x : Int)) = false := by simp; omega
    have hm : 0 < 8 * k := by omega
    clear hx e1
    gi_wp2_with fail
    refine ⟨trivial, callsIn_wide.2 ((each_any _ _ _ _ _ _).mono ?_)⟩
    rintro e w' ⟨rfl, rfl⟩
    gi_wp2
    obtain ⟨w0, hw0⟩ : ∃ w0, (w.alloc (.cells #[.slice (some ⟨g, o, none⟩) (k + 1) c] 29)).alloc (.cells #[.bool false] 4) = w0 := ⟨_, rfl⟩
    have hs0 : w.heap.size + 1 + 1 = w0.heap.size := by rw [← hw0]; simp
    rw [hw0] at cR hb0 hcell2
    have cA0 : w0.cell? ⟨w.heap.size, 0, none⟩ = some (.slice (some ⟨g, o, none⟩) (k + 1) c) := by rw [← hw0]; exact cell_old _ cA.1
    have hk0 : Sl w0 1 Ak nk ck (bc key) := hk.below (by omega) hb0
    have hq0 := hq.below hb0
    rw [hw0]
    have k1 := cell_new1 w0 (.slice Ak nk ck) 29
    have k2 := cell_new1 (w0.alloc (.cells #[.slice Ak nk ck] 29)) (.int .i64 (x : Int)) 3
    have k3 := cell_new1 ((w0.alloc (.cells #[.slice Ak nk ck] 29)).alloc (.cells #[.int .i64 (x : Int)] 3)) (.int .u32 (8 * (k : Int))) 126
    obtain ⟨w3, hw3⟩ : ∃ w3, ((w0.alloc (.cells #[.slice Ak nk ck] 29)).alloc (.cells #[.int .i64 (x : Int)] 3)).alloc (.cells #[.int .u32 (8 * (k : Int))] 126) = w3 := ⟨_, rfl⟩
    have hb3 : Below w0.heap.size w0 w3 := by rw [← hw3]; exact (((Below.refl _ w0).alloc (Nat.le_refl _) _).alloc (by simp) _).alloc (by simp; omega) _
    have k1' : w3.cell? ⟨w0.heap.size, 0, none⟩ = some (.slice Ak nk ck) := by rw [← hw3]; exact cell_old _ (cell_old _ k1.1)
    have k2' : w3.cell? ⟨w0.heap.size + 1, 0, none⟩ = some (.int .i64 (x : Int)) := by rw [← hw3, ← World.size_alloc w0]; exact cell_old _ k2.1
    have k3' : w3.cell? ⟨w0.heap.size + 1 + 1, 0, none⟩ = some (.int .u32 (8 * (k : Int))) := by rw [← hw3]; simp only [World.size_alloc] at k3; exact k3.1
    have hs3 : w3.heap.size = w0.heap.size + 1 + 1 + 1 := by rw [← hw3]; simp
    have hB3 : Below w.heap.size w w3 := hb0.trans (hb3.mono hb0.size)
    rw [hw3]
    rw [← hs0] at k1' k2' k3'
    refine range_one rfl (by omega) (p := 36) (q := 6) (gf := 114) rfl trivial (enters_of Tryz.func114 (by kernel_rfl) rfl)
      (each_stops _ (by omega) _ _ _ Ak nk ck key x (8 * k) hm (by omega) w3 k1' k2' k3' (hk0.below (by omega) hb3) (hq0.below hb3)) keep1_t (keep1_b (by omega)) (Below.refl _ _)
      (fun pre W => ((∀ v ∈ pre, bitL f v.val = true) ∧ W.cell? ⟨w.heap.size, 0, none⟩ = some (.slice (some ⟨g, o, none⟩) (k + 1) c) ∧ W.cell? ⟨w.heap.size + 1, 0, none⟩ = some (.bool false) ∧ W.frozen? ⟨w.heap.size + 1, 0, none⟩ = false) ∧ Below w.heap.size w W)
      (fun cd pre W => (cd = .ret ∧ (∃ v ∈ pre, bitL f v.val = false) ∧ W.cell? ⟨w.heap.size + 1, 0, none⟩ = some (.bool false)) ∧ Below w.heap.size w W)
      (OwnFrom.and (Go.Own.from (fun s A B row hs hg hr => ⟨hs.1, cell_kept hs.2.1 hg hr, cell_kept hs.2.2.1 hg hr, (frozen_kept hs.2.2.1 hg hr).trans hs.2.2.2⟩) _) (ownFrom_below (Nat.le_refl _) (by omega)))
      (fun cd => OwnFrom.and (Go.Own.from (fun s A B row hs hg hr => ⟨hs.1, hs.2.1, cell_kept hs.2.2 hg hr⟩) _) (ownFrom_below (Nat.le_refl _) (by omega)))
      ⟨⟨by simp, ?_, ?_, ?_⟩, hB3⟩ (by simp) ?body ?done ?stop
    · exact (hb3.cell (p := ⟨w.heap.size, 0, none⟩) (by show w.heap.size < _; omega)).trans cA0
    · exact (hb3.cell (p := ⟨w.heap.size + 1, 0, none⟩) (by show w.heap.size + 1 < _; omega)).trans cR.1
    · rw [← hw3]; exact frozen_old _ (cell_old _ (cell_old _ cR.1)) (frozen_old _ (cell_old _ cR.1) (frozen_old _ cR.1 cR.2))
    case body =>
      rintro l pre v W ⟨⟨hp, hcA, hcR, hfR⟩, hB⟩ _
      obtain ⟨v, hv⟩ := v
      have hvl : v / 8 < f.length := by have := Hl.out; omega
      obtain ⟨g', o', y, eA, hy, hyl, hycell⟩ := (h.below (by omega) hB).byte hvl
      obtain ⟨rfl, rfl⟩ : g = g' ∧ o = o' := by simpa using eA
      have hbit : bitL f v = y.testBit (v % 8) := by unfold bitL; rw [List.getElem?_eq_getElem hvl, Option.getD_some, hy]
      have Hbit := Lib.hid hbit
      have hv8 : v / 8 < k + 1 := by omega
      clear hy hbit eA hcell hcell2 h
      gi_wp2
      all_goals rename_i hx
      all_goals rw [bit_live y _ hyl] at hx
      · have hbf : bitL f v = false := by rw [Hbit.out]; simpa using hx
        exact ⟨KeepsOthers.setCell _ _ _, ⟨rfl, ⟨⟨v, hv⟩, by simp, hbf⟩, World.cell?_setCell_same' _ _ _ (by rw [hcR]; rfl)⟩, hB.setCell (p := ⟨w.heap.size + 1, 0, none⟩) (by simp) _⟩
      · have hbt : bitL f v = true := by rw [Hbit.out]; simpa using hx
        refine ⟨KeepsOthers.refl _, rfl, ⟨fun u hu => ?_, hcA, hcR, hfR⟩, hB⟩
        rcases List.mem_append.1 hu with h1 | h1
        · exact hp u h1
        · obtain rfl : u = ⟨v, hv⟩ := by simpa using h1
          exact hbt
    case done =>
      rintro D ys W hD rfl ⟨⟨hp, _, hcR, hfR⟩, hB⟩ hK
      have eall : (probesL key (8 * k) x).all (bitL f) = true := by
        rw [List.all_eq_true]
        intro u hu
        rw [← comeL_val key hm x] at hu
        obtain ⟨v, hv, rfl⟩ := List.mem_map.1 hu
        exact hp v hv
      gi_wp2
      have hK' := (KeepsOthers.setCell W ⟨w.heap.size + 1, 0, none⟩ (.bool true)).same D _ hK rfl
      refine ⟨by simp, .inl ⟨_, _, rfl, run_takeDeferred hK', ?_⟩⟩
      have hc5 := cell_kept (World.cell?_setCell_same' W ⟨w.heap.size + 1, 0, none⟩ (.bool true) (by rw [hcR]; rfl)) (grownBy_putObj' _ D (.deferred none)) (fun r e => by cases e; exact ⟨_, hK', rfl⟩)
      refine ⟨.bool true, ?_, by rw [eall], (hB.setCell (p := ⟨w.heap.size + 1, 0, none⟩) (by simp) _).trans (belowK_b (w := w) (Nat.le_refl _) _ D _ _ (by have := hB3.size; omega) hK' rfl rfl)⟩
      simp [results, Tryz.f75, go_sem, hc5]
    case stop =>
      rintro D cd pre W hD ⟨j, hj, rfl⟩ ⟨⟨rfl, ⟨v, hv, hbf⟩, hcR⟩, hB⟩ hK
      have eall : (probesL key (8 * k) x).all (bitL f) = false := by
        rw [List.all_eq_false]
        refine ⟨v.val, ?_, by rw [hbf]; simp⟩
        have h1 : v.val ∈ (comeL key hm j).map (·.val) := List.mem_map.2 ⟨v, hv, rfl⟩
        rw [comeL_val] at h1
        obtain ⟨i, hi, he⟩ := probesL_mem.1 h1
        exact probesL_mem.2 ⟨i, by omega, he⟩
      gi_wp2
      refine ⟨by simp, .inl ⟨_, _, rfl, run_takeDeferred hK, ?_⟩⟩
      have hc5 := cell_kept hcR (grownBy_putObj' _ D (.deferred none)) (fun r e => by cases e; exact ⟨_, hK, rfl⟩)
      refine ⟨.bool false, ?_, by rw [eall], hB.trans (belowK_b (w := w) (Nat.le_refl _) W D _ _ (by have := hB3.size; omega) hK rfl rfl)⟩
      simp [results, Tryz.f75, go_sem, hc5]
end Go.Proofs.YtpffieogkfndaaaGreatDoor

namespace Go.Proofs.YtpffieogkfndaaaGreatDoor
open Go.RowKit
set_option maxRecDepth 20000
set_option linter.unusedVariables false
set_option linter.unusedSimpArgs false
set_option maxHeartbeats 8000000 in
theorem rkbytes_any (w : World) (A : Option Addr) (n c : Nat) (k : KeyL) (h : Sl w 1 A n c (bc k.user)) :
    Calls Tryz.prog 51 #[.agg #[.slice A n c, .int .u64 (k.seq.toNat : Int), .int .u8 (k.kind.toNat : Int)]] w (GotBE w (keyBE k).1 (keyBE k).2) := by
  have ck := fun (w' : World) (hb : Below w.heap.size w w') => rcheck_any w' A n c k (h.below (by omega) hb)
  by_cases hc : checkKey k = 0
  · have e : keyBE k = (textL k.user ++ le8 (keyN k), 0) := by unfold keyBE; rw [if_pos hc]; rfl
    rw [e]
    simp only [hc] at ck
    clear e
    have hlen := h.lenb
    have hb0 := hc
    unfold checkKey at hb0
    have hs : k.seq.toNat < 72057594037927936 ∧ n ≤ 64 := by
      repeat' split at hb0
      all_goals omega
    unfold keyN
    have hd := k.kind.toNat_lt
    have ct := fun (w' : World) (hb : Below w.heap.size w w') => rtext_any w' A n c k.user (h.below (by omega) hb) (by omega)
    have htl : (textL k.user).length ≤ 73 := by
      have := (num_len k.user.length).2
      unfold textL
      rw [List.length_append]
      omega
    generalize textL k.user = t at *
    generalize k.seq.toNat = s at *
    generalize k.kind.toNat = d at *
    have hlit0 : ∀ w' : World, Sl (w'.alloc (.cells #[.int .u8 (d : Int)] 5)) 1 (some ⟨w'.heap.size, 0, none⟩) 1 1 (bc [UInt8.ofNat d]) := fun w' =>
      Sl.lit w' _ _ 1 _ _ rfl (by unfold maxLen; omega) (by simp [bc]; omega)
    have hone : (le8 (s * 256 + d)).take 1 = [UInt8.ofNat d] := by
      rw [le8_take _ 0 (by omega), List.take_zero, List.nil_append]
      congr 1
      apply UInt8.toNat_inj.1
      simp
    have hdiv : ∀ j, (s * 256 + d) / 256 ^ (j + 1) = s / 256 ^ j := by
      intro j
      rw [Nat.pow_succ, Nat.mul_comm (256 ^ j) 256, ← Nat.div_div_eq_div_mul]
      congr 1
      omega
    have htake := fun j (hj : j < 8) => le8_take (s * 256 + d) j hj
    have hl8 := le8_len (s * 256 + d)
    generalize le8 (s * 256 + d) = L at *
    have hs1 := hs.1
    have Ck := Lib.hid ck
    have Ct := Lib.hid ct
    have Htl := Lib.hid htl
    have Hone := Lib.hid hone
    have Hdiv := Lib.hid hdiv
    have Htake := Lib.hid htake
    have Hl8 := Lib.hid hl8
    have Hlit0 := Lib.hid hlit0
    have Hs1 := Lib.hid hs1
    clear ck ct hc hb0 h hlen htl hs hone hdiv htake hl8 hlit0 hd hs1
    have hbA := (Below.refl w.heap.size w).alloc (Nat.le_refl _) (.cells #[.slice A n c, .int .u64 (s : Int), .int .u8 (d : Int)] 67)
    have hk := Bx.fresh w (.slice A n c) (.int .u64 (s : Int)) (.int .u8 (d : Int)) 67
    go_enter Tryz.func51, Tryz.ntmps51
    go_wp2_with fail
    refine (Ck.out _ hbA).mono ?_
    rintro e w1 ⟨rfl, hb1⟩
    have q1 := (hbA.trans (hb1.mono hbA.size)).drew
    have hk := (hk.below hb1).drew
    clear hb1 hbA
    go_wp2_with fail
    go_cut [5] from 7 (fun s5 wx => ∃ (B : Option Addr) (m p : Nat), s5 = .slice B m p ∧ OwnB wx w.heap.size B m p (t ++ [UInt8.ofNat d]) ∧ Below w.heap.size w wx ∧ Bx wx w.heap.size (.slice A n c) (.int .u64 (s : Int)) (.int .u8 (d : Int)))
    case first =>
      generalize hW : w1.drew = w2 at *
      refine regionF (fun _ wa wb => Bx wa w.heap.size (.slice A n c) (.int .u64 (s : Int)) (.int .u8 (d : Int)) → Bx wb w.heap.size (.slice A n c) (.int .u64 (s : Int)) (.int .u8 (d : Int))) (by kernel_rfl) ?_
      rw [hW]
      clear hW
      refine takeP (i := 0) (v := ?_) rfl hk ?hy ?_
      case hy =>
        intro wS hSw
        clear hSw
        go_simp
        try with_reducible rfl
      refine takeP (i := 1) (v := ?_) rfl hk ?hy ?_
      case hy =>
        intro wS hSw
        obtain ⟨x0, x1, x2, x3⟩ := hSw
        go_simp
        try with_reducible rfl
      refine takeP (i := 3) (v := ?_) rfl hk ?hy ?_
      case hy =>
        intro wS hSw
        clear hSw
        go_simp
        try with_reducible rfl
      refine takeP (i := 4) (v := ?_) rfl hk ?hy ?_
      case hy =>
        intro wS hSw
        obtain ⟨x0, x1, x2, x3⟩ := hSw
        go_simp
        try with_reducible rfl
      refine readyF (rs := [2, 5]) (by kernel_rfl) (by simp) ?_
      refine AllF.cons rfl (fun K hK => ?_) ?_
      · go_simp
        refine (Ct.out _ q1).mono ?_
        rintro e w3 ⟨A3, n3, c3, rfl, ho3, hb3⟩
        refine hK _ _ (fun h => h.below hb3) ?_
        clear hK K
        have hz := hk.lt
        have ho3 := Own.mono (B' := w.heap.size + 1) ho3 hz
        have hk := hk.below hb3
        have q3 := q1.trans (hb3.mono q1.size)
        refine readyF (rs := [5]) (by kernel_rfl) (by simp) ?_
        refine AllF.cons rfl (fun K hK => ?_) AllF.nil
        go_simp
        refine hK _ _ (fun h => h.below ((Below.refl _ _).alloc (Nat.le_refl _) _)) ?_
        clear hK K
        have hlit := Hlit0.out w3
        have bl := (Below.refl w3.heap.size w3).alloc (Nat.le_refl _) (.cells #[.int .u8 (d : Int)] 5)
        have ho3 := Own.below ho3 bl
        have hk := hk.below bl
        have q4 := q3.trans (bl.mono q3.size)
        generalize (w3.alloc (.cells #[.int .u8 (d : Int)] 5)) = w4 at *
        refine readyF (rs := [6]) (by kernel_rfl) (by simp) ?_
        refine AllF.cons rfl (fun K hK => ?_) AllF.nil
        refine step_appB (by rfl) (.tmp 14) (.tmp 17) (by rfl) (w.heap.size + 1) A3 n3 c3 _ (by rfl) ho3 _ 1 1 _ (by rfl) hlit (by have h1 := OwnB.len' (l := t) ho3; have h2 := Htl.out; omega) hk.lt ?_
        intro A4 c4 w5 ho5 hg5 hx5
        have hne : blk A3 c3 ≠ some w.heap.size := fun e => by have := (Own.lt ho3 _ e).1; omega
        refine hK _ _ (fun h => Bx.grownO h hg5 hne) ?_
        clear hK K
        have hk := Bx.grownO hk hg5 hne
        have q5 := q4.grown hg5 q4.size (fun k e => by have := (Own.lt ho3 _ e).1; omega)
        refine takeP (i := 7) (v := ?_) rfl hk ?hy ?_
        case hy =>
          intro wS hSw
          clear hSw
          go_simp
          try with_reducible rfl
        refine doneF (by kernel_rfl) ?_ _
        try simp only [List.getElem_toArray, List.getElem_cons_succ, List.getElem_cons_zero, Act.put, List.setIfInBounds_toArray, List.set_cons_zero, List.set_cons_succ]
        go_wp2_with fail
        go_meet
        exact ⟨A4, _, c4, rfl, Own.mono ho5 (by omega), q5, hk⟩
      refine AllF.cons rfl (fun K hK => ?_) AllF.nil
      go_simp
      refine hK _ _ (fun h => h.below ((Below.refl _ _).alloc (Nat.le_refl _) _)) ?_
      clear hK K
      have hlit := Hlit0.out w2
      have hz := hk.lt
      have bl := (Below.refl w2.heap.size w2).alloc (Nat.le_refl _) (.cells #[.int .u8 (d : Int)] 5)
      have hk := hk.below bl
      have q3 := q1.trans (bl.mono q1.size)
      have hz2 := bl.size
      generalize (w2.alloc (.cells #[.int .u8 (d : Int)] 5)) = w4 at *
      refine readyF (rs := [2]) (by kernel_rfl) (by simp) ?_
      refine AllF.cons rfl (fun K hK => ?_) AllF.nil
      go_simp
      refine (Ct.out _ q3).mono ?_
      rintro e w3 ⟨A3, n3, c3, rfl, ho3, hb3⟩
      refine hK _ _ (fun h => h.below hb3) ?_
      clear hK K
      have ho3 := Own.mono (B' := w.heap.size + 1) ho3 (by omega)
      have hk := hk.below hb3
      have hlit := hlit.below (by omega) hb3
      have q4 := q3.trans (hb3.mono q3.size)
      refine readyF (rs := [6]) (by kernel_rfl) (by simp) ?_
      refine AllF.cons rfl (fun K hK => ?_) AllF.nil
      refine step_appB (by rfl) (.tmp 14) (.tmp 17) (by rfl) (w.heap.size + 1) A3 n3 c3 _ (by rfl) ho3 _ 1 1 _ (by rfl) hlit (by have h1 := OwnB.len' (l := t) ho3; have h2 := Htl.out; omega) hk.lt ?_
      intro A4 c4 w5 ho5 hg5 hx5
      have hne : blk A3 c3 ≠ some w.heap.size := fun e => by have := (Own.lt ho3 _ e).1; omega
      refine hK _ _ (fun h => Bx.grownO h hg5 hne) ?_
      clear hK K
      have hk := Bx.grownO hk hg5 hne
      have q5 := q4.grown hg5 q4.size (fun k e => by have := (Own.lt ho3 _ e).1; omega)
      refine takeP (i := 7) (v := ?_) rfl hk ?hy ?_
      case hy =>
        intro wS hSw
        clear hSw
        go_simp
        try with_reducible rfl
      refine doneF (by kernel_rfl) ?_ _
      try simp only [List.getElem_toArray, List.getElem_cons_succ, List.getElem_cons_zero, Act.put, List.setIfInBounds_toArray, List.set_cons_zero, List.set_cons_succ]
      go_wp2_with fail
      go_meet
      exact ⟨A4, _, c4, rfl, Own.mono ho5 (by omega), q5, hk⟩
    case rest =>
      obtain ⟨B, m, p, rfl, ho, q2, hk⟩ := hcut
      obtain ⟨x0, x1, x2, x3⟩ := id hk
      clear q1
      go_wp2
      go_loopw [5, 6, 21] (fun a b i wr => ∃ (j v : Nat), Hid (v = s / 256 ^ j) ∧ j ≤ 7 ∧ i = .int .i64 (j : Int) ∧ b = .int .u64 (v : Int) ∧ Below w.heap.size w wr ∧ ∃ (B : Option Addr) (m p : Nat), a = .slice B m p ∧ OwnB wr w.heap.size B m p (t ++ L.take (j + 1))) (fun _ _ i _ => (7 - intOf i).toNat)
      case atStart => exact ⟨0, s, by unfold Hid; simp, by omega, rfl, rfl, q2, B, m, p, rfl, by rw [Nat.zero_add, Hone.out]; exact ho⟩
      case round =>
        obtain ⟨j, v, Hv, hj, rfl, rfl, hbr, B2, m2, p2, rfl, ho2⟩ := hrel
        have hm := OwnB.len' ho2
        rw [List.length_append, List.length_take, Hl8.out] at hm
        have Hm := Lib.hid hm
        clear hm
        have hsz := hbr.size
        by_cases hj7 : j < 7
        · have hvl : v < 18446744073709551616 := by rw [Hv.out]; exact Nat.lt_of_le_of_lt (Nat.div_le_self _ _) (by have := Hs1.out; omega)
          have hlit : Sl (wr.alloc (.cells #[.int .u8 ((v : Int) % 256)] 5)) 1 (some ⟨wr.heap.size, 0, none⟩) 1 1 (bc [UInt8.ofNat v]) :=
            Sl.lit wr _ _ 1 _ _ rfl (by unfold maxLen; omega) (by simp [bc])
          have hoa : OwnB (wr.alloc (.cells #[.int .u8 ((v : Int) % 256)] 5)) w.heap.size B2 m2 p2 (t ++ L.take (j + 1)) := Own.below ho2 ((Below.refl wr.heap.size wr).alloc (Nat.le_refl _) _)
          have hmore := Htake.out (j + 1) (by omega)
          rw [Hdiv.out, ← Hv.out] at hmore
          have Hmore := Lib.hid hmore
          have Hj := Lib.hid hj7
          clear hmore ho2 hj
          go_wp2_with (at_builtin; refine wpList_appB _ rfl (.tmp 23) (.tmp 27) rfl w.heap.size B2 m2 p2 _ rfl hoa _ 1 1 _ rfl hlit ?_ ?_ ?_)
          · have h1 := Hm.out; have h2 := Htl.out; omega
          · simp; omega
          intro A4 c4 w4 ho4 hg4 _
          go_wp2
          go_roundw
          case rel =>
            refine ⟨j + 1, v / 256, ?_, by have := Hj.out; omega, by go_num, by simp, (hbr.alloc hsz _).grown hg4 (by simp; omega) (fun q hq => (Own.lt hoa q hq).1), A4, _, c4, rfl, ?_⟩
            · unfold Hid; rw [Hv.out, Nat.div_div_eq_div_mul, Nat.pow_succ]
            · rw [Hmore.out]
              exact ho4
          case measure => have := Hj.out; simp [intOf]; omega
        · obtain rfl : j = 7 := by omega
          rw [List.take_of_length_le (by rw [Hl8.out]; omega)] at ho2
          go_wp2
          go_ret2
          exact ⟨B2, m2, p2, rfl, ho2, hbr⟩
  · have e : keyBE k = ([], checkKey k) := by unfold keyBE; rw [if_neg hc]
    rw [e]
    clear e
    generalize checkKey k = q at *
    have hq : ((q : Int) == 0) = false := by rw [beq_eq_false_iff_ne]; omega
    have hq2 : ((q : Int) != 0) = true := by rw [bne_iff_ne]; omega
    generalize k.seq.toNat = s at *
    generalize k.kind.toNat = d at *
    have Ck := Lib.hid ck
    clear ck hc h
    go_enter Tryz.func51, Tryz.ntmps51
    go_wp2_with fail
    have hbA := (Below.refl w.heap.size w).alloc (Nat.le_refl _) (.cells #[.slice A n c, .int .u64 (s : Int), .int .u8 (d : Int)] 67)
    refine (Ck.out _ hbA).mono ?_
    rintro e w1 ⟨rfl, hb1⟩
    go_wp2
    go_ret2
    exact ⟨none, 0, 0, rfl, Own.nil _ _ _ _ _, hbA.trans (hb1.mono hbA.size)⟩
end Go.Proofs.YtpffieogkfndaaaGreatDoor
