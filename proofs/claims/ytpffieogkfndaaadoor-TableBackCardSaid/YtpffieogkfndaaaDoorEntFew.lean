/-
  The references' Few, Twin, Twins of entries. (Printed by genent2.py.) No condition but sizes.
-/
import Derived.Test.YtpffieogkfndaaaDoorJSpanOne
import Derived.Test.YtpffieogkfndaaaDoorJLeafVersion
import Derived.Test.YtpffieogkfndaaaDoorJRowsY
import Derived.Test.YtpffieogkfndaaaDoorJBatchReadW
namespace Go.Proofs.YtpffieogkfndaaaDoor
open Go.RowKit
set_option maxRecDepth 20000
set_option linter.unusedVariables false
set_option linter.unusedSimpArgs false
theorem OwnX.drew {α : Type} [Rep α] {w : World} {B : Nat} {e : TypeId} {A : Option Addr} {n c : Nat} {ls : List α} (h : OwnX w B e A n c ls) : OwnX w.drew B e A n c ls := h.below (below_drew (Below.refl _ _))
theorem infoEnt : (Tryd.prog.info? 45).map (fun i => (i.zero, i.size, i.bytes)) = some (some (.agg #[.slice none 0 0, .int .u64 0, .int .u8 0, .slice none 0 0]), 4, 64) := by kernel_rfl
def cutEnt (e : EntL) : EntL := ⟨⟨e.key.user.take 80, e.key.seq, e.key.kind⟩, e.value.take 600⟩
def fewEnts (l : List EntL) (n : Nat) : List EntL := (l.take n).map cutEnt
theorem fewe_step (ls : List EntL) (k j : Nat) (hj : j < ls.length) : fewEnts (ls.take (j + 1)) k = if j < k then fewEnts (ls.take j) k ++ [cutEnt ls[j]] else fewEnts (ls.take j) k := by
  unfold fewEnts
  by_cases h : j < k
  · rw [if_pos h, List.take_take, List.take_take, Nat.min_eq_right (by omega), Nat.min_eq_right (by omega), List.take_succ_eq_append_getElem hj, List.map_append]
    rfl
  · rw [if_neg h, List.take_take, List.take_take, Nat.min_eq_left (by omega), Nat.min_eq_left (by omega)]
theorem fewe_bounds (ls : List EntL) (k : Nat) : (fewEnts ls k).length ≤ k ∧ ∀ e ∈ fewEnts ls k, e.key.user.length ≤ 80 ∧ e.value.length ≤ 600 := by
  unfold fewEnts
  refine ⟨by simp; omega, fun e he => ?_⟩
  obtain ⟨x, _, rfl⟩ := List.mem_map.1 he
  simp [cutEnt]
  omega
theorem entRow (w : World) (q : Nat → Prop) (x : EntL) (A3 : Option Addr) (n3 c3 : Nat) (A4 : Option Addr) (n4 c4 : Nat) (s3 : Sl w 1 A3 n3 c3 (bc x.key.user)) (s4 : Sl w 1 A4 n4 c4 (bc x.value))
    (h3 : ∀ b, 0 < n3 → A3.map (·.block) = some b → q b) (h4 : ∀ b, 0 < n4 → A4.map (·.block) = some b → q b) :
    ∃ xs, Sl (w.alloc (.cells #[.slice A3 n3 c3, .int .u64 (x.key.seq.toNat : Int), .int .u8 (x.key.kind.toNat : Int), .slice A4 n4 c4] 45)) 4 (some ⟨w.heap.size, 0, none⟩) 1 1 xs ∧ RowC (w.alloc (.cells #[.slice A3 n3 c3, .int .u64 (x.key.seq.toNat : Int), .int .u8 (x.key.kind.toNat : Int), .slice A4 n4 c4] 45)) q xs [x] := by
  have al := (Below.refl w.heap.size w).alloc (Nat.le_refl _) (.cells #[.slice A3 n3 c3, .int .u64 (x.key.seq.toNat : Int), .int .u8 (x.key.kind.toNat : Int), .slice A4 n4 c4] 45)
  exact ⟨_, ⟨rfl, Nat.le_refl _, by unfold maxLen; omega, fun _ => ⟨w.heap.size, 0, rfl, fun j u hu => by rw [cell_of_row _ _ _ _ _ _ (heap_alloc_new w _)]; simpa [u8v, u64v] using hu⟩⟩, RowC.single ⟨_, _, rfl, ⟨A3, n3, c3, rfl, s3.below (by omega) al, h3⟩, ⟨A4, n4, c4, rfl, s4.below (by omega) al, h4⟩⟩⟩
theorem entRow' {w : World} {q : Nat → Prop} {x : EntL} {s d : Nat} (hs : x.key.seq.toNat = s) (hd : x.key.kind.toNat = d) {A3 : Option Addr} {n3 c3 : Nat} {A4 : Option Addr} {n4 c4 : Nat} (s3 : Sl w 1 A3 n3 c3 (bc x.key.user)) (s4 : Sl w 1 A4 n4 c4 (bc x.value))
    (h3 : ∀ b, 0 < n3 → A3.map (·.block) = some b → q b) (h4 : ∀ b, 0 < n4 → A4.map (·.block) = some b → q b) :
    ∃ xs, Sl (w.alloc (.cells #[.slice A3 n3 c3, .int .u64 (s : Int), .int .u8 (d : Int), .slice A4 n4 c4] 45)) (Rep.size EntL) (some ⟨w.heap.size, 0, none⟩) 1 1 xs ∧ RowC (w.alloc (.cells #[.slice A3 n3 c3, .int .u64 (s : Int), .int .u8 (d : Int), .slice A4 n4 c4] 45)) q xs [x] := by
  subst hs hd
  exact entRow w q x A3 n3 c3 A4 n4 c4 s3 s4 h3 h4
set_option maxHeartbeats 8000000 in
theorem fewents_any (w : World) (p : Nat → Prop) (A : Option Addr) (n c : Nat) (ls : List EntL) (k : Nat) (h : SlR w p A n c ls) (hk : k ≤ 1000) :
    Calls Tryd.prog 6 #[.slice A n c, .int .i64 (k : Int)] w fun e w' => ∃ A' n' c', e = .returned (.slice A' n' c') ∧ OwnX w' w.heap.size 45 A' n' c' (fewEnts ls k) ∧ Below w.heap.size w w' := by
  have hcp := h.cap
  unfold maxLen at hcp
  have hl := h.lenR
  have Hl := Lib.hid hl
  clear hl
  go_enter Tryd.func6, Tryd.ntmps6
  go_wp2
  go_loopw [5, 10] (fun s q wr => ∃ j : Nat, j ≤ n ∧ q = .int .i64 j ∧ Below w.heap.size w wr ∧ ∃ A2 n2 c2, s = .slice A2 n2 c2 ∧ OwnX wr w.heap.size 45 A2 n2 c2 (fewEnts (ls.take j) k)) (fun _ q _ => n - (intOf q).toNat)
  case atStart => exact ⟨0, Nat.zero_le _, rfl, Below.refl _ _, none, 0, 0, rfl, (show fewEnts (ls.take 0) k = [] from by simp [fewEnts]) ▸ OwnX.nil _ _ _ _⟩
  case round =>
    obtain ⟨j, hj, rfl, hbr, A2, n2, c2, rfl, ho2⟩ := hrel
    by_cases hlt : j < n
    case neg =>
      obtain rfl : n = j := by omega
      rw [List.take_of_length_le (by have := Hl.out; omega)] at ho2
      go_wp2
      go_ret
      exact ⟨A2, n2, c2, rfl, ho2, hbr⟩
    obtain ⟨b, o, A3, n3, c3, A4, n4, c4, hjl, rfl, d0, d1, d2, d3, hs3, hs4⟩ := h.entAt hlt
    have d0 := stays hbr d0
    have d1 := stays hbr d1
    have d2 := stays hbr d2
    have d3 := stays hbr d3
    have hst := fewe_step ls k j hjl
    have hcut : cutEnt ls[j] = ⟨⟨ls[j].key.user.take 80, ls[j].key.seq, ls[j].key.kind⟩, ls[j].value.take 600⟩ := rfl
    have hn2 : n2 ≤ 1000 := by
      have h1 := ho2.lenR
      unfold fewEnts at h1
      rw [List.length_map, List.length_take] at h1
      omega
    have c1 := fun w' (hb : Below w.heap.size w w') => cut_any w' A3 n3 c3 ls[j].key.user 80 (hs3.below (by omega) hb) (by omega)
    have c2' := fun w' (hb : Below w.heap.size w w') => cut_any w' A4 n4 c4 ls[j].value 600 (hs4.below (by omega) hb) (by omega)
    have hrow := fun w' A5 n5 c5 A6 n6 c6 q (s3 : Sl w' 1 A5 n5 c5 _) (s4 : Sl w' 1 A6 n6 c6 _) h3 h4 => entRow w' q (cutEnt ls[j]) A5 n5 c5 A6 n6 c6 s3 s4 h3 h4
    rw [hcut] at hrow hst
    generalize ls[j].key.user.take 80 = y at *
    generalize ls[j].value.take 600 = z at *
    generalize ls[j].key.seq = S at *
    generalize ls[j].key.kind = D at *
    generalize hS : S.toNat = s at *
    generalize hD : D.toNat = d at *
    have C1 := Lib.hid c1
    have C2 := Lib.hid c2'
    have Hst := Lib.hid hst
    have Hrow := Lib.hid hrow
    clear hst c1 c2' hcut hs3 hs4 hrow hS hD
    have al := (Below.refl wr.heap.size wr).alloc (Nat.le_refl _) (.cells #[.slice A3 n3 c3, .int .u64 (s : Int), .int .u8 (d : Int), .slice A4 n4 c4] 45)
    have kE := Bx4.fresh wr (.slice A3 n3 c3) (.int .u64 (s : Int)) (.int .u8 (d : Int)) (.slice A4 n4 c4) 45
    have L2 := Lib.hid fun b hb => (ho2.lt b hb)
    have ho2 := ho2.below al
    have hbr := hbr.trans (al.mono hbr.size)
    have Hjn : Hid (j < n) := hlt
    generalize hW1 : (wr.alloc (.cells #[.slice A3 n3 c3, .int .u64 (s : Int), .int .u8 (d : Int), .slice A4 n4 c4] 45)) = w1 at *
    have zr : wr.heap.size < w1.heap.size := kE.lt
    clear al
    obtain ⟨x0, x1, x2, x3, x4⟩ := id kE
    by_cases hjk : j < k
    case neg =>
      have hjk' : decide ((j : Int) < (k : Int)) = false := decide_eq_false (by omega)
      have hst := Hst.out
      rw [if_neg hjk] at hst
      have Hst := Lib.hid hst
      clear hst
      go_wp2
      go_roundw
      case rel => exact ⟨j + 1, by omega, by go_num, hbr, A2, n2, c2, rfl, by rw [Hst.out]; exact ho2⟩
      case measure => simp [intOf]; omega
    have hjk' : decide ((j : Int) < (k : Int)) = true := decide_eq_true (by omega)
    have hst := Hst.out
    rw [if_pos hjk] at hst
    have Hst := Lib.hid hst
    clear hst
    go_wp2_with fail
    clear hW1 x0 x1 x2 x3 x4 d0 d1 d2 d3
    have hbr := below_drew hbr
    have ho2 := OwnX.drew ho2
    have kE := kE.drew
    have zr : wr.heap.size < (World.drew w1).heap.size := zr
    generalize hW : World.drew _ = w0 at *
    refine regionF (fun _ wa wb => Bx4 wa wr.heap.size (.slice A3 n3 c3) (.int .u64 (s : Int)) (.int .u8 (d : Int)) (.slice A4 n4 c4) → Bx4 wb wr.heap.size (.slice A3 n3 c3) (.int .u64 (s : Int)) (.int .u8 (d : Int)) (.slice A4 n4 c4)) (by kernel_rfl) ?_
    rw [hW]
    clear hW
    have hX := Below.refl w0.heap.size w0
    refine takeP (i := 0) (v := ?_) rfl kE ?hy ?_
    case hy =>
      intro wS hSw
      clear hSw
      go_simp
      try with_reducible rfl
    refine takeP (i := 1) (v := ?_) rfl kE ?hy ?_
    case hy =>
      intro wS hSw
      clear hSw
      go_simp
      try with_reducible rfl
    refine takeP (i := 2) (v := ?_) rfl kE ?hy ?_
    case hy =>
      intro wS hSw
      clear hSw
      go_simp
      try with_reducible rfl
    refine takeP (i := 3) (v := ?_) rfl kE ?hy ?_
    case hy =>
      intro wS hSw
      obtain ⟨x0, x1, x2, x3, x4⟩ := id hSw
      clear hSw
      go_simp
      try with_reducible rfl
    refine takeP (i := 5) (v := ?_) rfl kE ?hy ?_
    case hy =>
      intro wS hSw
      clear hSw
      go_simp
      try with_reducible rfl
    refine takeP (i := 6) (v := ?_) rfl kE ?hy ?_
    case hy =>
      intro wS hSw
      clear hSw
      go_simp
      try with_reducible rfl
    refine takeP (i := 7) (v := ?_) rfl kE ?hy ?_
    case hy =>
      intro wS hSw
      obtain ⟨x0, x1, x2, x3, x4⟩ := id hSw
      clear hSw
      go_simp
      try with_reducible rfl
    refine takeP (i := 8) (v := ?_) rfl kE ?hy ?_
    case hy =>
      intro wS hSw
      clear hSw
      go_simp
      try with_reducible rfl
    refine takeP (i := 9) (v := ?_) rfl kE ?hy ?_
    case hy =>
      intro wS hSw
      clear hSw
      go_simp
      try with_reducible rfl
    refine takeP (i := 10) (v := ?_) rfl kE ?hy ?_
    case hy =>
      intro wS hSw
      obtain ⟨x0, x1, x2, x3, x4⟩ := id hSw
      clear hSw
      go_simp
      try with_reducible rfl
    refine takeP (i := 12) (v := ?_) rfl kE ?hy ?_
    case hy =>
      intro wS hSw
      clear hSw
      go_simp
      try with_reducible rfl
    refine takeP (i := 13) (v := ?_) rfl kE ?hy ?_
    case hy =>
      intro wS hSw
      obtain ⟨x0, x1, x2, x3, x4⟩ := id hSw
      clear hSw
      go_simp
      try with_reducible rfl
    try simp only [List.getElem_toArray, List.getElem_cons_succ, List.getElem_cons_zero, Act.put, List.setIfInBounds_toArray, List.set_cons_zero, List.set_cons_succ]
    refine readyF (rs := [4]) (by kernel_rfl) (by simp) ?_
    refine AllF.cons rfl (fun K hK => ?_) AllF.nil
    go_simp
    refine (C1.out _ hbr).mono ?_
    rintro e w0_4 ⟨A5, n5, c5, rfl, ho5, hb⟩
    refine hK _ _ (fun h => h.below hb) ?_
    clear hK K
    have ho5 := Own.mono ho5 hX.size
    have kE := kE.below hb
    have hX := hX.trans (hb.mono hX.size)
    have hbr := hbr.trans (hb.mono hbr.size)
    have ho2 := OwnX.below ho2 hb
    clear hb
    refine takeP (i := 11) (v := ?_) rfl kE ?hy ?_
    case hy =>
      intro wS hSw
      clear hSw
      go_simp
      try with_reducible rfl
    try simp only [List.getElem_toArray, List.getElem_cons_succ, List.getElem_cons_zero, Act.put, List.setIfInBounds_toArray, List.set_cons_zero, List.set_cons_succ]
    refine readyF (rs := [14]) (by kernel_rfl) (by simp) ?_
    refine AllF.cons rfl (fun K hK => ?_) AllF.nil
    go_simp
    refine (C2.out _ hbr).mono ?_
    rintro e w0_4_14 ⟨A6, n6, c6, rfl, ho6, hb⟩
    refine hK _ _ (fun h => h.below hb) ?_
    clear hK K
    have ho6 := Own.mono ho6 hX.size
    have kE := kE.below hb
    have hX := hX.trans (hb.mono hX.size)
    have hbr := hbr.trans (hb.mono hbr.size)
    have ho2 := OwnX.below ho2 hb
    have ho5 := Own.below ho5 hb
    clear hb
    refine takeP (i := 15) (v := ?_) rfl kE ?hy ?_
    case hy =>
      intro wS hSw
      clear hSw
      go_simp
      try with_reducible rfl
    try simp only [List.getElem_toArray, List.getElem_cons_succ, List.getElem_cons_zero, Act.put, List.setIfInBounds_toArray, List.set_cons_zero, List.set_cons_succ]
    refine readyF (rs := [16]) (by kernel_rfl) (by simp) ?_
    refine AllF.cons rfl (fun K hK => ?_) AllF.nil
    go_simp
    refine hK _ _ (fun h => h.below ((Below.refl _ _).alloc (Nat.le_refl _) _)) ?_
    clear hK K
    have hb := (Below.refl w0_4_14.heap.size w0_4_14).alloc (Nat.le_refl _) (.cells #[.slice A5 n5 c5, .int .u64 (s : Int), .int .u8 (d : Int), .slice A6 n6 c6] 45)
    have hrow := Hrow.out w0_4_14 A5 n5 c5 A6 n6 c6 (fun b => blk A2 c2 ≠ some b) (OwnB.sl ho5) (OwnB.sl ho6) (fun b hn e q => by have := ((Own.ownU ho5) b hn e).1; have := L2.out b q; omega) (fun b hn e q => by have := ((Own.ownU ho6) b hn e).1; have := L2.out b q; omega)
    generalize (w0_4_14.alloc (.cells #[.slice A5 n5 c5, .int .u64 (s : Int), .int .u8 (d : Int), .slice A6 n6 c6] 45)) = w0_4_14_16 at *
    have kE := kE.below hb
    have hX := hX.trans (hb.mono hX.size)
    have hbr := hbr.trans (hb.mono hbr.size)
    have ho2 := OwnX.below ho2 hb
    have ho5 := Own.below ho5 hb
    have ho6 := Own.below ho6 hb
    clear hb
    refine readyF (rs := [17]) (by kernel_rfl) (by simp) ?_
    refine AllF.cons rfl (fun K hK => ?_) AllF.nil
    have hne : blk A2 c2 ≠ some wr.heap.size := fun e => by have := L2.out _ e; omega
    refine step_appX (α := EntL) (by rfl) (.tmp 18) (.tmp 34) 22 (by rfl) w.heap.size 45 _ 64 Tryd.underlying22 infoEnt rfl A2 n2 c2 _ (by rfl) ho2 _ 1 1 _ (by rfl) hrow (by unfold maxLen; omega) (by omega) (hbr.size) ?_
    intro A7 c7 w0_4_14_16_17 ho7 hg hx
    refine hK _ _ (fun h => h.grownO hg hne) ?_
    clear hK K
    have kE := kE.grownO hg hne
    have hbr := hbr.grown hg hbr.size (fun b hb => (OwnX.lt ho2 b hb).1)
    clear hg hx ho2
    refine takeP (i := 18) (v := ?_) rfl kE ?hy ?_
    case hy =>
      intro wS hSw
      clear hSw
      go_simp
      try with_reducible rfl
    try simp only [List.getElem_toArray, List.getElem_cons_succ, List.getElem_cons_zero, Act.put, List.setIfInBounds_toArray, List.set_cons_zero, List.set_cons_succ]
    refine doneF (by kernel_rfl) ?_ _
    try simp only [List.getElem_toArray, List.getElem_cons_succ, List.getElem_cons_zero, Act.put, List.setIfInBounds_toArray, List.set_cons_zero, List.set_cons_succ]
    go_wp2
    go_roundw
    case rel => exact ⟨j + 1, by omega, by go_num, hbr, A7, _, c7, rfl, by rw [Hst.out]; exact ho7⟩
    case measure => simp [intOf]; omega
end Go.Proofs.YtpffieogkfndaaaDoor
