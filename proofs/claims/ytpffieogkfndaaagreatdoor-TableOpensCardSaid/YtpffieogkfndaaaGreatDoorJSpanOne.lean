/-
  LeafVersion, SpanOne in one text. No condition but sizes.
-/
import Derived.Test.YtpffieogkfndaaaGreatDoorJBloomWalk
import Derived.Test.YtpffieogkfndaaaGreatDoorJBloomRef
import Derived.Test.YtpffieogkfndaaaGreatDoorJHeld
import Derived.Test.YtpffieogkfndaaaGreatDoorJSpanCheck
namespace Go.Proofs.YtpffieogkfndaaaGreatDoor
open Go.RowKit
set_option maxRecDepth 20000
set_option linter.unusedVariables false
set_option linter.unusedSimpArgs false
theorem leval_drop' (l : List UInt8) (j : Nat) (hj : j < l.length) : leval (l.drop j) = leval (l.drop (j + 1)) * 256 + (l[j]).toNat := by
  rw [List.drop_eq_getElem_cons hj]
  rfl
set_option maxHeartbeats 8000000 in
theorem version_any (w : World) (A : Option Addr) (n c : Nat) (f : List UInt8) (h : Sl w 1 A n c (bc f)) (h8 : 8 ≤ n) (hn : n ≤ 1000000) :
    Calls Tryz.prog 126 #[.slice A n c] w fun e w' => ∃ A' n' c', e = .returned (.agg #[.slice A' n' c', .int .u64 ((verL f).seq.toNat : Int), .int .u8 ((verL f).kind.toNat : Int)]) ∧ OwnB w' w.heap.size A' n' c' (verL f).user ∧ Below w.heap.size w w' := by
  have hl := h.lenb
  obtain ⟨u, hu⟩ : ∃ u, u = f.length - 8 := ⟨_, rfl⟩
  have hv : verL f = keyOfN (f.take u) (leval (f.drop u)) := by unfold verL; rw [hu]
  have hr8 : (f.drop u).length = 8 := by rw [List.length_drop]; omega
  have hun : n = u + 8 := by omega
  have hw1 : IntKind.i64.wrap ((n : Int) - 8) = (u : Int) := by rw [IntKind.wrap_i64]; omega
  have hw2 : (n : Int) - 8 = (u : Int) := by omega
  obtain ⟨hrc, hsc⟩ := cutH h .i64 (u : Int) u rfl (by omega)
  have hcap := h.cap
  have hcm := h.capm
  unfold maxLen at hcm
  rw [hv]
  have k3 : (keyOfN (f.take u) (leval (f.drop u))).user = f.take u := rfl
  rw [k3]
  obtain ⟨ks, hks⟩ : ∃ ks, (keyOfN (f.take u) (leval (f.drop u))).seq.toNat = ks := ⟨_, rfl⟩
  obtain ⟨kd, hkd⟩ : ∃ kd, (keyOfN (f.take u) (leval (f.drop u))).kind.toNat = kd := ⟨_, rfl⟩
  rw [hks, hkd]
  have Hks := Lib.hid hks
  have Hkd := Lib.hid hkd
  have cc := fun w' (hb : Below w.heap.size w w') => clone_any w' A u c (f.take u) (hsc.below (by omega) hb) (by omega)
  have al := (Below.refl w.heap.size w).alloc (Nat.le_refl _) (.cells #[.slice none 0 0, .int .u64 0, .int .u8 0] 67)
  have kR := Bx.fresh w (.slice none 0 0) (.int .u64 0) (.int .u8 0) 67
  generalize hW : (w.alloc (.cells #[.slice none 0 0, .int .u64 0, .int .u8 0] 67)) = w0 at *
  have h0 := h.below (by omega) al
  have zR := kR.lt
  have Cc := Lib.hid cc
  have Hu := Lib.hid hu
  have Hl := Lib.hid hl
  have Hr8 := Lib.hid hr8
  have hub : u ≤ 1000000 := by omega
  have Hun := Lib.hid hun
  clear cc hu hl hr8 hv hsc h hun k3 hks hkd
  go_enter Tryz.func126, Tryz.ntmps126
  go_wp2
  try rw [hW]
  clear hW
  go_loopw [3, 5] (fun a i wr => ∃ (j v : Nat) (z : Int), z = 7 - (j : Int) ∧ j ≤ 8 ∧ i = .int .i64 z ∧ a = .int .u64 (v : Int) ∧ Hid (v = leval ((f.drop u).drop (8 - j))) ∧ w0 = wr) (fun _ i _ => (intOf i + 1).toNat)
  case atStart => exact ⟨0, 0, 7, by omega, by omega, rfl, rfl, by unfold Hid; rw [List.drop_of_length_le (by rw [Hr8.out]; omega)]; rfl, rfl⟩
  case round =>
    obtain ⟨j, v, z, hz, hj, rfl, rfl, Hv, rfl⟩ := hrel
    by_cases hj8 : j < 8
    · obtain ⟨t, ht⟩ : ∃ t : Nat, t = 7 - j := ⟨_, rfl⟩
      obtain rfl : z = (t : Int) := by omega
      have htl : t < (f.drop u).length := by rw [Hr8.out]; omega
      have hutl : u + t < f.length := by rw [Hl.out, Hun.out]; omega
      obtain ⟨bb, o, x, rfl, hx, hxl, hcell⟩ := h0.byte hutl
      have hstep := leval_drop' (f.drop u) t htl
      rw [List.getElem_drop, hx, show t + 1 = 8 - j by omega, ← Hv.out] at hstep
      have hvb : v < 72057594037927936 := by
        rw [Hv.out]
        have h1 := leval_lt ((f.drop u).drop (8 - j))
        have h2 : (256 : Nat) ^ ((f.drop u).drop (8 - j)).length ≤ 256 ^ 7 := Nat.pow_le_pow_right (by omega) (by rw [List.length_drop, Hr8.out]; omega)
        have : (256 : Nat) ^ 7 = 72057594037927936 := rfl
        omega
      have eo : bits .or .u64 ((v : Int) * 256) (x : Int) = ((v * 256 + x : Nat) : Int) := by
        have h1 := u64_or_nat (v * 256) x (by omega) (by omega)
        rw [nat_join 8 _ _ (by omega) (by omega)] at h1
        rw [← h1]
        simp
      obtain ⟨ut, hut⟩ : ∃ ut, ut = u + t := ⟨_, rfl⟩
      rw [← hut] at hcell
      have hs1 : (u : Int) + (t : Int) = (ut : Int) := by omega
      have hutn : ut < n := by have := Hun.out; omega
      have Hstep := Lib.hid hstep
      have Ht := Lib.hid ht
      have Hj8 := Lib.hid hj8
      clear hz hj hj8 ht hstep hx htl hutl hut
      go_wp2
      go_roundw
      case rel => exact ⟨j + 1, v * 256 + x, (t : Int) - 1, by have := Ht.out; have := Hj8.out; omega, by have := Hj8.out; omega, by simp, by go_num, by unfold Hid; rw [← Hstep.out]; congr 2; have := Ht.out; omega, (by first | rfl | trivial)⟩
      case measure => simp [intOf]
    · obtain rfl : j = 8 := by omega
      obtain rfl : z = -1 := by omega
      have hN := Hv.out
      rw [Nat.sub_self, List.drop_zero] at hN
      have hvl : v < 18446744073709551616 := by
        rw [hN]
        have h1 := leval_lt (f.drop u)
        rw [Hr8.out] at h1
        exact h1
      have k1 := Hks.out
      have k2 := Hkd.out
      rw [← hN] at k1 k2
      have f1 : (v : Int) / 256 = (ks : Int) := by
        unfold keyOfN at k1
        rw [UInt64.toNat_ofNat', Nat.mod_eq_of_lt (by omega)] at k1
        omega
      have f2 : (v : Int) % 256 = (kd : Int) := by
        unfold keyOfN at k2
        simp at k2
        omega
      clear hj8 hz hj hN k1 k2 Hv hw1 hw2
      go_wp2_with fail
      refine (Cc.out _ al).mono ?_
      rintro e w2 ⟨A2, n2, c2, rfl, o2, hb2⟩
      have kR := kR.below hb2
      obtain ⟨x0, x1, x2, x3⟩ := id kR
      have hq := al.trans (hb2.mono al.size)
      clear hrc
      go_wp2
      refine bodyPost_ret (v := .agg #[.slice A2 n2 c2, .int .u64 (ks : Int), .int .u8 (kd : Int)]) (by simp [results, Tryz.results126, go_sem, x0, x1, x2]) rfl ⟨A2, n2, c2, rfl, ?_, ?_⟩
      · refine Own.mono (B := w0.heap.size) ?_ al.size
        iterate 3 refine own_set ?_ (by omega) _
        exact o2
      · iterate 3 refine Below.setCell ?_ (by simp) _
        exact hq
end Go.Proofs.YtpffieogkfndaaaGreatDoor

namespace Go.Proofs.YtpffieogkfndaaaGreatDoor
open Go.RowKit
set_option maxRecDepth 20000
set_option linter.unusedVariables false
set_option linter.unusedSimpArgs false
/-- a span whose bytes are the call's own -/
def GotSpan (w : World) (x : SpanL) (e : Ending) (w' : World) : Prop :=
  ∃ A3 n3 c3 A4 n4 c4, e = .returned (.agg #[.slice A3 n3 c3, .slice A4 n4 c4, .int .u64 (x.seq.toNat : Int)]) ∧ OwnB w' w.heap.size A3 n3 c3 x.lo ∧ OwnB w' w.heap.size A4 n4 c4 x.hi ∧ Below w.heap.size w w'
set_option maxHeartbeats 8000000 in
theorem sone_any (w : World) (A3 : Option Addr) (n3 c3 : Nat) (A4 : Option Addr) (n4 c4 : Nat) (x : SpanL) (hs3 : Sl w 1 A3 n3 c3 (bc x.lo)) (hs4 : Sl w 1 A4 n4 c4 (bc x.hi)) (hn3 : n3 ≤ 1000000) (hn4 : n4 ≤ 1000000) :
    Calls Tryz.prog 108 #[.agg #[.slice A3 n3 c3, .slice A4 n4 c4, .int .u64 (x.seq.toNat : Int)]] w (GotSpan w x) := by
  unfold GotSpan
  generalize x.seq.toNat = d at *
  generalize x.lo = y at *
  generalize x.hi = z at *
  go_enter Tryz.func108, Tryz.ntmps108
  go_wp2_with fail
  have al := (Below.refl w.heap.size w).alloc (Nat.le_refl _) (.cells #[.slice A3 n3 c3, .slice A4 n4 c4, .int .u64 (d : Int)] 72)
  have kB := Bx.fresh w (.slice A3 n3 c3) (.slice A4 n4 c4) (.int .u64 (d : Int)) 72
  have hs3 := hs3.below (by omega) al
  have hs4 := hs4.below (by omega) al
  have e1 : (w.alloc (.cells #[.slice A3 n3 c3, .slice A4 n4 c4, .int .u64 (d : Int)] 72)).heap.size = w.heap.size + 1 := by simp
  generalize (w.alloc (.cells #[.slice A3 n3 c3, .slice A4 n4 c4, .int .u64 (d : Int)] 72)) = w1 at *
  have al1 := (Below.refl w1.heap.size w1).alloc (Nat.le_refl _) (.cells #[.slice none 0 0, .slice none 0 0, .int .u64 0] 72)
  have kC := Bx.fresh w1 (.slice none 0 0) (.slice none 0 0) (.int .u64 0) 72
  rw [e1] at kC
  have kB := kB.below al1
  have hs3 := hs3.below (by omega) al1
  have hs4 := hs4.below (by omega) al1
  have hbr := al.trans (al1.mono al.size)
  generalize (w1.alloc (.cells #[.slice none 0 0, .slice none 0 0, .int .u64 0] 72)) = w2 at *
  clear al al1
  have kB := kB.drew
  have kC := kC.drew
  have hs3 := hs3.drew
  have hs4 := hs4.drew
  have hbr := hbr.drew
  refine regionS 10 (fun w' => Bx w' w.heap.size (.slice A3 n3 c3) (.slice A4 n4 c4) (.int .u64 (d : Int))) (by kernel_rfl) ?_
  try (change AnyS _ _ _ _ _ _ _ _ _ (World.drew _))
  generalize w2.drew = w3 at *
  have hlt3 := kC.lt
  refine takeS (i := 0) (v := ?_) rfl (by kernel_rfl) (by kernel_rfl) (by kernel_rfl) (by kernel_rfl) (by kernel_rfl) (fun _ _ _ h => h) (Or.inl ⟨by kernel_rfl, ?_⟩) kB ?_
  case refine_2 =>
    intro wS hSw
    clear hSw
    go_simp
    try with_reducible rfl
  try simp only [List.getElem_toArray, List.getElem_cons_succ, List.getElem_cons_zero, Act.put, List.setIfInBounds_toArray, List.set_cons_zero, List.set_cons_succ]
  refine takeS (i := 1) (v := ?_) rfl (by kernel_rfl) (by kernel_rfl) (by kernel_rfl) (by kernel_rfl) (by kernel_rfl) (fun _ _ _ h => h) (Or.inl ⟨by kernel_rfl, ?_⟩) kB ?_
  case refine_2 =>
    intro wS hSw
    obtain ⟨x0, x1, x2, x3⟩ := hSw
    go_simp
    try with_reducible rfl
  try simp only [List.getElem_toArray, List.getElem_cons_succ, List.getElem_cons_zero, Act.put, List.setIfInBounds_toArray, List.set_cons_zero, List.set_cons_succ]
  refine takeS (i := 3) (v := ?_) rfl (by kernel_rfl) (by kernel_rfl) (by kernel_rfl) (by kernel_rfl) (by kernel_rfl) (fun _ _ _ h => h) (Or.inl ⟨by kernel_rfl, ?_⟩) kB ?_
  case refine_2 =>
    intro wS hSw
    clear hSw
    go_simp
    try with_reducible rfl
  try simp only [List.getElem_toArray, List.getElem_cons_succ, List.getElem_cons_zero, Act.put, List.setIfInBounds_toArray, List.set_cons_zero, List.set_cons_succ]
  refine takeS (i := 4) (v := ?_) rfl (by kernel_rfl) (by kernel_rfl) (by kernel_rfl) (by kernel_rfl) (by kernel_rfl) (fun _ _ _ h => h) (Or.inl ⟨by kernel_rfl, ?_⟩) kB ?_
  case refine_2 =>
    intro wS hSw
    obtain ⟨x0, x1, x2, x3⟩ := hSw
    go_simp
    try with_reducible rfl
  try simp only [List.getElem_toArray, List.getElem_cons_succ, List.getElem_cons_zero, Act.put, List.setIfInBounds_toArray, List.set_cons_zero, List.set_cons_succ]
  refine takeS (i := 6) (v := ?_) rfl (by kernel_rfl) (by kernel_rfl) (by kernel_rfl) (by kernel_rfl) (by kernel_rfl) (fun _ _ _ h => h) (Or.inl ⟨by kernel_rfl, ?_⟩) kB ?_
  case refine_2 =>
    intro wS hSw
    clear hSw
    go_simp
    try with_reducible rfl
  try simp only [List.getElem_toArray, List.getElem_cons_succ, List.getElem_cons_zero, Act.put, List.setIfInBounds_toArray, List.set_cons_zero, List.set_cons_succ]
  refine takeS (i := 7) (v := ?_) rfl (by kernel_rfl) (by kernel_rfl) (by kernel_rfl) (by kernel_rfl) (by kernel_rfl) (fun _ _ _ h => h) (Or.inl ⟨by kernel_rfl, ?_⟩) kB ?_
  case refine_2 =>
    intro wS hSw
    obtain ⟨x0, x1, x2, x3⟩ := hSw
    go_simp
    try with_reducible rfl
  try simp only [List.getElem_toArray, List.getElem_cons_succ, List.getElem_cons_zero, Act.put, List.setIfInBounds_toArray, List.set_cons_zero, List.set_cons_succ]
  refine readyS (i := 2) (by kernel_rfl) rfl (fun K hK => ?_)
  go_simp
  refine (clone_any _ A3 n3 c3 _ hs3 (by omega)).mono ?_
  rintro e w4 ⟨A5, n5, c5, rfl, ho5, hb4⟩
  refine hK _ _ (kB.below hb4) ?_
  clear hK K
  have kB := kB.below hb4
  have kC := kC.below hb4
  have hbr := hbr.trans (hb4.mono hbr.size)
  have hs4 := hs4.below (by omega) hb4
  clear hb4
  have hlt4 := kC.lt
  refine readyS (i := 5) (by kernel_rfl) rfl (fun K hK => ?_)
  go_simp
  refine (clone_any _ A4 n4 c4 _ hs4 (by omega)).mono ?_
  rintro e w4 ⟨A6, n6, c6, rfl, ho6, hb4⟩
  refine hK _ _ (kB.below hb4) ?_
  clear hK K
  have kB := kB.below hb4
  have kC := kC.below hb4
  have hbr := hbr.trans (hb4.mono hbr.size)
  have ho5 := Own.below ho5 hb4
  refine takeS (i := 8) (v := ?_) rfl (by kernel_rfl) (by kernel_rfl) (by kernel_rfl) (by kernel_rfl) (by kernel_rfl) (fun _ _ _ h => h) (Or.inl ⟨by kernel_rfl, ?_⟩) kB ?_
  case refine_2 =>
    intro wS hSw
    clear hSw
    go_simp
    try with_reducible rfl
  try simp only [List.getElem_toArray, List.getElem_cons_succ, List.getElem_cons_zero, Act.put, List.setIfInBounds_toArray, List.set_cons_zero, List.set_cons_succ]
  refine readyS (i := 9) (by kernel_rfl) rfl (fun K hK => ?_)
  obtain ⟨y0, y1, y2, y3⟩ := id kC
  go_simp
  obtain ⟨kD, hg⟩ := Bx.set (v0 := .slice A5 n5 c5) (v1 := .slice A6 n6 c6) (v2 := .int .u64 (d : Int)) kC rfl
  refine hK _ _ (kB.grown hg (by omega)) ?_
  clear hK K
  refine doneS (by kernel_rfl) ?_ _
  try simp only [List.getElem_toArray, List.getElem_cons_succ, List.getElem_cons_zero, Act.put, List.setIfInBounds_toArray, List.set_cons_zero, List.set_cons_succ]
  have hb9 := hbr.grown hg hbr.size (fun b hb => by simp at hb; omega)
  have ho5 := own_set (own_set (own_set ho5 (g := w.heap.size + 1) (j := 0) hlt3 (.slice A5 n5 c5)) (g := w.heap.size + 1) (j := 1) hlt3 (.slice A6 n6 c6)) (g := w.heap.size + 1) (j := 2) hlt3 (.int .u64 (d : Int))
  have ho6 := own_set (own_set (own_set ho6 (g := w.heap.size + 1) (j := 0) hlt4 (.slice A5 n5 c5)) (g := w.heap.size + 1) (j := 1) hlt4 (.slice A6 n6 c6)) (g := w.heap.size + 1) (j := 2) hlt4 (.int .u64 (d : Int))
  obtain ⟨y0, y1, y2, y3⟩ := kD
  go_wp2
  refine bodyPost_ret (v := .agg #[.slice A5 n5 c5, .slice A6 n6 c6, .int .u64 (d : Int)]) (by simp [results, Tryz.results108, go_sem, y0, y1, y2]) rfl ?_
  exact ⟨A5, n5, c5, A6, n6, c6, rfl, Own.mono ho5 (by omega), Own.mono ho6 (by omega), hb9⟩
end Go.Proofs.YtpffieogkfndaaaGreatDoor
