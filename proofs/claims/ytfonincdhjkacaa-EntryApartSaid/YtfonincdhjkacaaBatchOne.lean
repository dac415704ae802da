/-
  An op of its own. (Printed by genbatchone.py.) No condition.
-/
import Derived.Test.YtfonincdhjkacaaBatchFew
namespace Go.Proofs.Ytfonincdhjkacaa
open Go.RowKit
set_option maxRecDepth 20000
/-- an op whose bytes are the call's own -/
def GotOp (w : World) (x : OpL) (e : Ending) (w' : World) : Prop :=
  ∃ A3 n3 c3 A4 n4 c4, e = .returned (.agg #[.int .u8 (x.kind.toNat : Int), .slice A3 n3 c3, .slice A4 n4 c4]) ∧ OwnB w' w.heap.size A3 n3 c3 x.key ∧ OwnB w' w.heap.size A4 n4 c4 x.value ∧ Below w.heap.size w w'
set_option maxHeartbeats 8000000 in
theorem one_any (w : World) (A3 : Option Addr) (n3 c3 : Nat) (A4 : Option Addr) (n4 c4 : Nat) (x : OpL) (hs3 : Sl w 1 A3 n3 c3 (bc x.key)) (hs4 : Sl w 1 A4 n4 c4 (bc x.value)) (hn3 : n3 ≤ 10000) (hn4 : n4 ≤ 10000) :
    Calls Try.prog 80 #[.agg #[.int .u8 (x.kind.toNat : Int), .slice A3 n3 c3, .slice A4 n4 c4]] w (GotOp w x) := by
  unfold GotOp
  generalize x.kind = d at *
  generalize x.key = y at *
  generalize x.value = z at *
  go_enter Try.func80, Try.ntmps80
  go_wp2_with fail
  have al := (Below.refl w.heap.size w).alloc (Nat.le_refl _) (.cells #[.int .u8 (d.toNat : Int), .slice A3 n3 c3, .slice A4 n4 c4] 47)
  have kB := Bx.fresh w (.int .u8 (d.toNat : Int)) (.slice A3 n3 c3) (.slice A4 n4 c4) 47
  have hs3 := hs3.below (by omega) al
  have hs4 := hs4.below (by omega) al
  have e1 : (w.alloc (.cells #[.int .u8 (d.toNat : Int), .slice A3 n3 c3, .slice A4 n4 c4] 47)).heap.size = w.heap.size + 1 := by simp
  generalize (w.alloc (.cells #[.int .u8 (d.toNat : Int), .slice A3 n3 c3, .slice A4 n4 c4] 47)) = w1 at *
  have al1 := (Below.refl w1.heap.size w1).alloc (Nat.le_refl _) (.cells #[.int .u8 0, .slice none 0 0, .slice none 0 0] 47)
  have kC := Bx.fresh w1 (.int .u8 0) (.slice none 0 0) (.slice none 0 0) 47
  rw [e1] at kC
  have kB := kB.below al1
  have hs3 := hs3.below (by omega) al1
  have hs4 := hs4.below (by omega) al1
  have hbr := al.trans (al1.mono al.size)
  generalize (w1.alloc (.cells #[.int .u8 0, .slice none 0 0, .slice none 0 0] 47)) = w2 at *
  clear al al1
  have kB := kB.drew
  have kC := kC.drew
  have hs3 := hs3.drew
  have hs4 := hs4.drew
  have hbr := hbr.drew
  refine regionS 10 (fun w' => Bx w' w.heap.size (.int .u8 (d.toNat : Int)) (.slice A3 n3 c3) (.slice A4 n4 c4)) (by kernel_rfl) ?_
  try (change AnyS _ _ _ _ _ _ _ _ _ (World.drew _))
  generalize w2.drew = w3 at *
  have hlt3 := kC.lt
  refine takeS (i := 0) (v := ?_) rfl (by kernel_rfl) (by kernel_rfl) (by kernel_rfl) (by kernel_rfl) (by kernel_rfl) (fun _ _ _ h => h) (Or.inl ⟨by kernel_rfl, ?_⟩) kB ?_
  case refine_2 =>
    intro wS hSw
    clear hSw
    go_simp
    try with_reducible rfl
  try simp only [List.getElem_toArray, List.getElem_cons_succ, List.getElem_cons_zero, Act.put, List.setIfInBounds_toArray, List.set_cons_zero, List.set_cons_succ]
  refine takeS (i := 1) (v := ?_) rfl (by kernel_rfl) (by kernel_rfl) (by kernel_rfl) (by kernel_rfl) (by kernel_rfl) (fun _ _ _ h => h) (Or.inl ⟨by kernel_rfl, ?_⟩) kB ?_
  case refine_2 =>
    intro wS hSw
    obtain ⟨x0, x1, x2, x3⟩ := hSw
    go_simp
    try with_reducible rfl
  try simp only [List.getElem_toArray, List.getElem_cons_succ, List.getElem_cons_zero, Act.put, List.setIfInBounds_toArray, List.set_cons_zero, List.set_cons_succ]
  refine takeS (i := 2) (v := ?_) rfl (by kernel_rfl) (by kernel_rfl) (by kernel_rfl) (by kernel_rfl) (by kernel_rfl) (fun _ _ _ h => h) (Or.inl ⟨by kernel_rfl, ?_⟩) kB ?_
  case refine_2 =>
    intro wS hSw
    clear hSw
    go_simp
    try with_reducible rfl
  try simp only [List.getElem_toArray, List.getElem_cons_succ, List.getElem_cons_zero, Act.put, List.setIfInBounds_toArray, List.set_cons_zero, List.set_cons_succ]
  refine takeS (i := 3) (v := ?_) rfl (by kernel_rfl) (by kernel_rfl) (by kernel_rfl) (by kernel_rfl) (by kernel_rfl) (fun _ _ _ h => h) (Or.inl ⟨by kernel_rfl, ?_⟩) kB ?_
  case refine_2 =>
    intro wS hSw
    obtain ⟨x0, x1, x2, x3⟩ := hSw
    go_simp
    try with_reducible rfl
  try simp only [List.getElem_toArray, List.getElem_cons_succ, List.getElem_cons_zero, Act.put, List.setIfInBounds_toArray, List.set_cons_zero, List.set_cons_succ]
  refine takeS (i := 5) (v := ?_) rfl (by kernel_rfl) (by kernel_rfl) (by kernel_rfl) (by kernel_rfl) (by kernel_rfl) (fun _ _ _ h => h) (Or.inl ⟨by kernel_rfl, ?_⟩) kB ?_
  case refine_2 =>
    intro wS hSw
    clear hSw
    go_simp
    try with_reducible rfl
  try simp only [List.getElem_toArray, List.getElem_cons_succ, List.getElem_cons_zero, Act.put, List.setIfInBounds_toArray, List.set_cons_zero, List.set_cons_succ]
  refine takeS (i := 6) (v := ?_) rfl (by kernel_rfl) (by kernel_rfl) (by kernel_rfl) (by kernel_rfl) (by kernel_rfl) (fun _ _ _ h => h) (Or.inl ⟨by kernel_rfl, ?_⟩) kB ?_
  case refine_2 =>
    intro wS hSw
    obtain ⟨x0, x1, x2, x3⟩ := hSw
    go_simp
    try with_reducible rfl
  try simp only [List.getElem_toArray, List.getElem_cons_succ, List.getElem_cons_zero, Act.put, List.setIfInBounds_toArray, List.set_cons_zero, List.set_cons_succ]
  refine readyS (i := 4) (by kernel_rfl) rfl (fun K hK => ?_)
  go_simp
  refine (clone_any _ A3 n3 c3 _ hs3 (by omega)).mono ?_
  rintro e w4 ⟨A5, n5, c5, rfl, ho5, hb4⟩
  refine hK _ _ (kB.below hb4) ?_
  clear hK K
  have kB := kB.below hb4
  have kC := kC.below hb4
  have hbr := hbr.trans (hb4.mono hbr.size)
  have hs4 := hs4.below (by omega) hb4
  clear hb4
  have hlt4 := kC.lt
  refine readyS (i := 7) (by kernel_rfl) rfl (fun K hK => ?_)
  go_simp
  refine (clone_any _ A4 n4 c4 _ hs4 (by omega)).mono ?_
  rintro e w4 ⟨A6, n6, c6, rfl, ho6, hb4⟩
  refine hK _ _ (kB.below hb4) ?_
  clear hK K
  have kB := kB.below hb4
  have kC := kC.below hb4
  have hbr := hbr.trans (hb4.mono hbr.size)
  have ho5 := Own.below ho5 hb4
  refine takeS (i := 8) (v := ?_) rfl (by kernel_rfl) (by kernel_rfl) (by kernel_rfl) (by kernel_rfl) (by kernel_rfl) (fun _ _ _ h => h) (Or.inl ⟨by kernel_rfl, ?_⟩) kB ?_
  case refine_2 =>
    intro wS hSw
    clear hSw
    go_simp
    try with_reducible rfl
  try simp only [List.getElem_toArray, List.getElem_cons_succ, List.getElem_cons_zero, Act.put, List.setIfInBounds_toArray, List.set_cons_zero, List.set_cons_succ]
  refine readyS (i := 9) (by kernel_rfl) rfl (fun K hK => ?_)
  obtain ⟨y0, y1, y2, y3⟩ := id kC
  go_simp
  obtain ⟨kD, hg⟩ := Bx.set (v0 := .int .u8 (d.toNat : Int)) (v1 := .slice A5 n5 c5) (v2 := .slice A6 n6 c6) kC rfl
  refine hK _ _ (kB.grown hg (by omega)) ?_
  clear hK K
  refine doneS (by kernel_rfl) ?_ _
  try simp only [List.getElem_toArray, List.getElem_cons_succ, List.getElem_cons_zero, Act.put, List.setIfInBounds_toArray, List.set_cons_zero, List.set_cons_succ]
  have hb9 := hbr.grown hg hbr.size (fun b hb => by simp at hb; omega)
  have ho5 := own_set (own_set (own_set ho5 (g := w.heap.size + 1) (j := 0) hlt3 (.int .u8 (d.toNat : Int))) (g := w.heap.size + 1) (j := 1) hlt3 (.slice A5 n5 c5)) (g := w.heap.size + 1) (j := 2) hlt3 (.slice A6 n6 c6)
  have ho6 := own_set (own_set (own_set ho6 (g := w.heap.size + 1) (j := 0) hlt4 (.int .u8 (d.toNat : Int))) (g := w.heap.size + 1) (j := 1) hlt4 (.slice A5 n5 c5)) (g := w.heap.size + 1) (j := 2) hlt4 (.slice A6 n6 c6)
  obtain ⟨y0, y1, y2, y3⟩ := kD
  go_wp2
  refine bodyPost_ret (v := .agg #[.int .u8 (d.toNat : Int), .slice A5 n5 c5, .slice A6 n6 c6]) (by simp [results, Try.results80, go_sem, y0, y1, y2]) rfl ?_
  exact ⟨A5, n5, c5, A6, n6, c6, rfl, Own.mono ho5 (by omega), Own.mono ho6 (by omega), hb9⟩
end Go.Proofs.Ytfonincdhjkacaa
