/-
  leaf.From and leaf.Before. (Printed by genleaf14.py.) No condition but a size.
-/
import Derived.Test.YtpffieogkfndaaaLeafPlace
namespace Go.Proofs.Ytpffieogkfndaaa
open Go.RowKit
set_option maxRecDepth 20000
/-- an entry that a call gives back, whether there is one, and an error's number -/
def GotAt (w : World) (o : Option EntL) (q : Nat) (e : Ending) (w' : World) : Prop :=
  ∃ (A : Option Addr) (n c : Nat) (B : Option Addr) (m d : Nat), e = .returned (.tuple #[.agg #[.slice A n c, .int .u64 ((o.getD ⟨⟨[], 0, 0⟩, []⟩).key.seq.toNat : Int), .int .u8 ((o.getD ⟨⟨[], 0, 0⟩, []⟩).key.kind.toNat : Int), .slice B m d], .bool o.isSome, .int .i64 (q : Int)]) ∧
    Sl w' 1 A n c (bc (o.getD ⟨⟨[], 0, 0⟩, []⟩).key.user) ∧ Sl w' 1 B m d (bc (o.getD ⟨⟨[], 0, 0⟩, []⟩).value) ∧ Below w.heap.size w w'
set_option maxHeartbeats 8000000 in
theorem from12_any (w : World) (A : Option Addr) (n c : Nat) (p : List UInt8) (h : Sl w 1 A n c (bc p)) (hn : n ≤ 65536) (A2 : Option Addr) (n2 c2 : Nat) (k : KeyL) (s2 : Sl w 1 A2 n2 c2 (bc k.user)) :
    Calls Try.prog 11 #[.slice A n c, .agg #[.slice A2 n2 c2, .int .u64 (k.seq.toNat : Int), .int .u8 (k.kind.toNat : Int)]] w (GotAt w (fromL ((readLeafL p).getD []) k) (if (readLeafL p).isSome then 0 else 4)) := by
  have hb1 := (Below.refl w.heap.size w).alloc (Nat.le_refl _) (.cells #[.slice A2 n2 c2, .int .u64 (k.seq.toNat : Int), .int .u8 (k.kind.toNat : Int)] 25)
  have kK := Bx.fresh w (.slice A2 n2 c2) (.int .u64 (k.seq.toNat : Int)) (.int .u8 (k.kind.toNat : Int)) 25
  have cp := fun w' (hb : Below w.heap.size w w') => place_any w' A n c p (h.below (by omega) hb) hn A2 n2 c2 k (s2.below (by omega) hb)
  generalize k.seq.toNat = s at *
  generalize k.kind.toNat = d at *
  generalize hW : (w.alloc (.cells #[.slice A2 n2 c2, .int .u64 (s : Int), .int .u8 (d : Int)] 25)) = w1 at *
  have al := (Below.refl w1.heap.size w1).alloc (Nat.le_refl _) (.cells #[.slice none 0 0, .int .u64 0, .int .u8 0, .slice none 0 0] 37)
  have kR := Bx4.fresh w1 (.slice none 0 0) (.int .u64 0) (.int .u8 0) (.slice none 0 0) 37
  have kK := kK.below al
  have zR0 := hb1.size
  have hb2 := hb1.trans (al.mono hb1.size)
  generalize hW2 : (w1.alloc (.cells #[.slice none 0 0, .int .u64 0, .int .u8 0, .slice none 0 0] 37)) = w2 at *
  obtain ⟨gR, hgR⟩ : ∃ gR, gR = w1.heap.size := ⟨_, rfl⟩
  rw [← hgR] at kR zR0
  unfold GotPlace at cp
  generalize readLeafL p = r at *
  generalize r.getD [] = ls at *
  generalize hq : (if r.isSome then 0 else 4 : Nat) = q at *
  obtain ⟨O, hO⟩ : ∃ O, fromL ls k = O := ⟨_, rfl⟩
  rw [hO]
  have HO := Lib.hid hO
  have Cp := Lib.hid cp
  clear cp h s2 al hq hO
  obtain ⟨x0, x1, x2, x3⟩ := id kK
  go_enter Try.func11, Try.ntmps11
  go_wp2_with fail
  try rw [hW]
  try rw [hW2]
  try rw [← hgR]
  clear hW hW2 hgR x0 x1 x2 x3
  refine (Cp.out _ hb2).mono ?_
  rintro e w3 ⟨A6, n6, c6, i, rfl, h6, hb3, hi6, hF, hB⟩
  have kR0 := kR
  have kR := kR.below hb3
  have hq := hb2.trans (hb3.mono hb2.size)
  have zR : gR < w2.heap.size := by have := kR0.lt; omega
  have hn6 := h6.lenR
  have Hn6 := Lib.hid hn6
  have hcp6 := h6.cap
  have hcm6 := hcp6.2
  unfold maxLen at hcm6
  have HF := Lib.hid hF
  have HB := Lib.hid hB
  clear hn6 hF hB Cp hb3
  by_cases hin : i = n6
  case pos =>
    have e1 : ((i : Int) == (n6 : Int)) = true := by rw [beq_iff_eq]; omega
    obtain ⟨x0, x1, x2, x3, x4⟩ := id kR
    have hN : O = none := by have hF := HF.out; have hB := HB.out; rw [← HO.out]; rw [hF, List.getElem?_eq_none (by have := Hn6.out; omega)]
    subst hN
    go_wp2
    refine bodyPost_ret (v := .tuple #[.agg #[.slice none 0 0, .int .u64 0, .int .u8 0, .slice none 0 0], .bool false, .int .i64 (q : Int)]) (by simp [results, Try.results11, go_sem, x0, x1, x2, x3]) rfl ?_
    refine ⟨none, 0, 0, none, 0, 0, rfl, sl_none _, sl_none _, ?_⟩
    iterate 4 refine Below.setCell ?_ (by omega) _
    exact hq
  have e1 : ((i : Int) == (n6 : Int)) = false := by rw [beq_eq_false_iff_ne]; omega
  have hii : i < n6 := by omega
  obtain ⟨bb, o, A3, n3, c3, A4, n4, c4, hjl, rfl, d0, d1, d2, d3, g3, g4⟩ := h6.entAt hii
  obtain ⟨bb', o', x, cs, hbo, hx, ⟨v, v', rfl, ⟨_, _, _, rfl, _, hN3⟩, ⟨_, _, _, rfl, _, hN4⟩⟩, hcell⟩ := h6.get hii
  obtain ⟨rfl, rfl⟩ : bb = bb' ∧ o = o' := by simpa using hbo
  have hc0 : w3.cell? ⟨bb, o + i * 4, none⟩ = _ := hcell 0 _ rfl
  have hc3 : w3.cell? ⟨bb, o + i * 4 + 3, none⟩ = _ := hcell 3 _ rfl
  rw [d0] at hc0
  rw [d3] at hc3
  obtain ⟨rfl, rfl, rfl⟩ : A3 = _ ∧ n3 = _ ∧ c3 = _ := by simpa using hc0
  obtain ⟨rfl, rfl, rfl⟩ : A4 = _ ∧ n4 = _ ∧ c4 = _ := by simpa using hc3
  have hN : O = some ls[i] := by have hF := HF.out; have hB := HB.out; rw [← HO.out]; rw [hF]; exact List.getElem?_eq_getElem hjl
  clear HO
  generalize ls[i] = X at *
  subst hN
  obtain ⟨x0, x1, x2, x3, x4⟩ := id kR
  clear hc0 hc3 hcell hbo hx
  go_wp2
  refine bodyPost_ret (v := .tuple #[.agg #[.slice A3 n3 c3, .int .u64 (X.key.seq.toNat : Int), .int .u8 (X.key.kind.toNat : Int), .slice A4 n4 c4], .bool true, .int .i64 (q : Int)]) (by simp [results, Try.results11, go_sem, x0, x1, x2, x3]) rfl ?_
  obtain ⟨_, hgs⟩ := Bx4.set kR (v0 := .slice A3 n3 c3) (v1 := .int .u64 (X.key.seq.toNat : Int)) (v2 := .int .u8 (X.key.kind.toNat : Int)) (v3 := .slice A4 n4 c4)
  exact ⟨A3, n3, c3, A4, n4, c4, rfl, g3.grown (by omega) hgs (fun hn b e q => by have := hN3 b hn e; simp at q; omega), g4.grown (by omega) hgs (fun hn b e q => by have := hN4 b hn e; simp at q; omega), hq.grown hgs hq.size (fun b hb => by simp at hb; omega)⟩
set_option maxHeartbeats 8000000 in
theorem before12_any (w : World) (A : Option Addr) (n c : Nat) (p : List UInt8) (h : Sl w 1 A n c (bc p)) (hn : n ≤ 65536) (A2 : Option Addr) (n2 c2 : Nat) (k : KeyL) (s2 : Sl w 1 A2 n2 c2 (bc k.user)) :
    Calls Try.prog 13 #[.slice A n c, .agg #[.slice A2 n2 c2, .int .u64 (k.seq.toNat : Int), .int .u8 (k.kind.toNat : Int)]] w (GotAt w (beforeL ((readLeafL p).getD []) k) (if (readLeafL p).isSome then 0 else 4)) := by
  have hb1 := (Below.refl w.heap.size w).alloc (Nat.le_refl _) (.cells #[.slice A2 n2 c2, .int .u64 (k.seq.toNat : Int), .int .u8 (k.kind.toNat : Int)] 25)
  have kK := Bx.fresh w (.slice A2 n2 c2) (.int .u64 (k.seq.toNat : Int)) (.int .u8 (k.kind.toNat : Int)) 25
  have cp := fun w' (hb : Below w.heap.size w w') => place_any w' A n c p (h.below (by omega) hb) hn A2 n2 c2 k (s2.below (by omega) hb)
  generalize k.seq.toNat = s at *
  generalize k.kind.toNat = d at *
  generalize hW : (w.alloc (.cells #[.slice A2 n2 c2, .int .u64 (s : Int), .int .u8 (d : Int)] 25)) = w1 at *
  have al := (Below.refl w1.heap.size w1).alloc (Nat.le_refl _) (.cells #[.slice none 0 0, .int .u64 0, .int .u8 0, .slice none 0 0] 37)
  have kR := Bx4.fresh w1 (.slice none 0 0) (.int .u64 0) (.int .u8 0) (.slice none 0 0) 37
  have kK := kK.below al
  have zR0 := hb1.size
  have hb2 := hb1.trans (al.mono hb1.size)
  generalize hW2 : (w1.alloc (.cells #[.slice none 0 0, .int .u64 0, .int .u8 0, .slice none 0 0] 37)) = w2 at *
  obtain ⟨gR, hgR⟩ : ∃ gR, gR = w1.heap.size := ⟨_, rfl⟩
  rw [← hgR] at kR zR0
  unfold GotPlace at cp
  generalize readLeafL p = r at *
  generalize r.getD [] = ls at *
  generalize hq : (if r.isSome then 0 else 4 : Nat) = q at *
  obtain ⟨O, hO⟩ : ∃ O, beforeL ls k = O := ⟨_, rfl⟩
  rw [hO]
  have HO := Lib.hid hO
  have Cp := Lib.hid cp
  clear cp h s2 al hq hO
  obtain ⟨x0, x1, x2, x3⟩ := id kK
  go_enter Try.func13, Try.ntmps13
  go_wp2_with fail
  try rw [hW]
  try rw [hW2]
  try rw [← hgR]
  clear hW hW2 hgR x0 x1 x2 x3
  refine (Cp.out _ hb2).mono ?_
  rintro e w3 ⟨A6, n6, c6, i, rfl, h6, hb3, hi6, hF, hB⟩
  have kR0 := kR
  have kR := kR.below hb3
  have hq := hb2.trans (hb3.mono hb2.size)
  have zR : gR < w2.heap.size := by have := kR0.lt; omega
  have hn6 := h6.lenR
  have Hn6 := Lib.hid hn6
  have hcp6 := h6.cap
  have hcm6 := hcp6.2
  unfold maxLen at hcm6
  have HF := Lib.hid hF
  have HB := Lib.hid hB
  clear hn6 hF hB Cp hb3
  by_cases hin : i = 0
  case pos =>
    subst hin
    have e1 : (((0 : Nat) : Int) == 0) = true := by simp
    obtain ⟨x0, x1, x2, x3, x4⟩ := id kR
    have hN : O = none := by have hF := HF.out; have hB := HB.out; rw [← HO.out]; rw [hB, if_pos rfl]
    subst hN
    go_wp2
    refine bodyPost_ret (v := .tuple #[.agg #[.slice none 0 0, .int .u64 0, .int .u8 0, .slice none 0 0], .bool false, .int .i64 (q : Int)]) (by simp [results, Try.results13, go_sem, x0, x1, x2, x3]) rfl ?_
    refine ⟨none, 0, 0, none, 0, 0, rfl, sl_none _, sl_none _, ?_⟩
    iterate 4 refine Below.setCell ?_ (by omega) _
    exact hq
  have e1 : ((i : Int) == 0) = false := by rw [beq_eq_false_iff_ne]; omega
  obtain ⟨i1, hi1⟩ : ∃ i1, i - 1 = i1 := ⟨_, rfl⟩
  have hii : i1 < n6 := by omega
  have hw : IntKind.i64.wrap ((i : Int) - 1) = (i1 : Int) := by rw [IntKind.wrap_i64]; omega
  have hw2 : (i : Int) - 1 = (i1 : Int) := by omega
  obtain ⟨bb, o, A3, n3, c3, A4, n4, c4, hjl, rfl, d0, d1, d2, d3, g3, g4⟩ := h6.entAt hii
  obtain ⟨bb', o', x, cs, hbo, hx, ⟨v, v', rfl, ⟨_, _, _, rfl, _, hN3⟩, ⟨_, _, _, rfl, _, hN4⟩⟩, hcell⟩ := h6.get hii
  obtain ⟨rfl, rfl⟩ : bb = bb' ∧ o = o' := by simpa using hbo
  have hc0 : w3.cell? ⟨bb, o + i1 * 4, none⟩ = _ := hcell 0 _ rfl
  have hc3 : w3.cell? ⟨bb, o + i1 * 4 + 3, none⟩ = _ := hcell 3 _ rfl
  rw [d0] at hc0
  rw [d3] at hc3
  obtain ⟨rfl, rfl, rfl⟩ : A3 = _ ∧ n3 = _ ∧ c3 = _ := by simpa using hc0
  obtain ⟨rfl, rfl, rfl⟩ : A4 = _ ∧ n4 = _ ∧ c4 = _ := by simpa using hc3
  have hN : O = some ls[i1] := by have hF := HF.out; have hB := HB.out; rw [← HO.out]; rw [hB, if_neg hin, hi1]; exact List.getElem?_eq_getElem hjl
  clear HO
  generalize ls[i1] = X at *
  subst hN
  obtain ⟨x0, x1, x2, x3, x4⟩ := id kR
  clear hc0 hc3 hcell hbo hx
  go_wp2
  refine bodyPost_ret (v := .tuple #[.agg #[.slice A3 n3 c3, .int .u64 (X.key.seq.toNat : Int), .int .u8 (X.key.kind.toNat : Int), .slice A4 n4 c4], .bool true, .int .i64 (q : Int)]) (by simp [results, Try.results13, go_sem, x0, x1, x2, x3]) rfl ?_
  obtain ⟨_, hgs⟩ := Bx4.set kR (v0 := .slice A3 n3 c3) (v1 := .int .u64 (X.key.seq.toNat : Int)) (v2 := .int .u8 (X.key.kind.toNat : Int)) (v3 := .slice A4 n4 c4)
  exact ⟨A3, n3, c3, A4, n4, c4, rfl, g3.grown (by omega) hgs (fun hn b e q => by have := hN3 b hn e; simp at q; omega), g4.grown (by omega) hgs (fun hn b e q => by have := hN4 b hn e; simp at q; omega), hq.grown hgs hq.size (fun b hb => by simp at hb; omega)⟩
end Go.Proofs.Ytpffieogkfndaaa
