/-
  The reference's Bytes of an entry. (Printed by gennote5.py.) No condition.
-/
import Derived.Test.YtpjinmiedanebaaDoorNoteForm
import Derived.Test.YtpjinmiedanebaaDoorNoteBytes
import Derived.Test.YtpjinmiedanebaaDoorBatchBytesR
namespace Go.Proofs.YtpjinmiedanebaaDoor
open Go.RowKit
set_option maxRecDepth 20000
theorem below_drew' {B : Nat} {w w' : World} (h : Below B w w') : Below B w w'.drew := ⟨h.os, h.tape, h.output, h.size, h.block⟩
set_option maxHeartbeats 8000000 in
theorem rnbytes_any (w : World) (p : Nat → Prop) (A3 : Option Addr) (n3 c3 : Nat) (A4 : Option Addr) (n4 c4 : Nat) (x : NoteL) (hs3 : Sl w 1 A3 n3 c3 (bc x.name)) (hs4 : SlR w p A4 n4 c4 x.ops) :
    Calls Tryd.prog 15 #[.agg #[.int .u8 (x.kind.toNat : Int), .int .u64 (x.seq.toNat : Int), .slice A3 n3 c3, .slice A4 n4 c4]] w (GotBE w (noteBE x).1 (noteBE x).2) := by
  have cr := fun w' (hb : Below w.heap.size w w') => rform_any w' p A3 n3 c3 A4 n4 c4 x (hs3.below (by omega) hb) (hs4.below hb)
  have cb := fun w' (hb : Below w.heap.size w w') => rbytes_any w' _ A4 n4 c4 x.ops (hs4.below hb)
  have hkl := x.kind.toNat_lt
  have hsl := x.seq.toNat_lt
  by_cases hf : formL x = true
  case neg =>
    have hf' : formL x = false := by simpa using hf
    have e : noteBE x = ([], 4) := by unfold noteBE; rw [if_neg hf]
    rw [e]
    rw [hf'] at cr
    generalize x.kind.toNat = d at *
    generalize x.seq.toNat = s at *
    have Cr := Lib.hid cr
    clear cr cb hf hf' e hs3 hs4
    have kB := Bx4.fresh w (.int .u8 (d : Int)) (.int .u64 (s : Int)) (.slice A3 n3 c3) (.slice A4 n4 c4) 41
    have al := (Below.refl w.heap.size w).alloc (Nat.le_refl _) (.cells #[.int .u8 (d : Int), .int .u64 (s : Int), .slice A3 n3 c3, .slice A4 n4 c4] 41)
    obtain ⟨x0, x1, x2, x3, x4⟩ := id kB
    go_enter Tryd.func15, Tryd.ntmps15
    go_wp2_with fail
    refine (Cr.out _ al).mono ?_
    rintro e w1 ⟨rfl, hb1⟩
    go_wp2
    go_ret2
    exact ⟨none, 0, 0, rfl, Own.nil _ _ _ _ _, al.trans (hb1.mono al.size)⟩
  obtain ⟨f1, f2, f3, _, _⟩ := form_bounds hf
  have e : noteBE x = (noteBytesL x, 0) := by unfold noteBE; rw [if_pos hf]
  rw [e, noteBytesL]
  rw [hf] at cr
  have eb : opsBE x.ops = (opsBytesL x.ops, 0) := by unfold opsBE; rw [if_pos f1]
  rw [eb] at cb
  have c1 := fun w' => rnum_any x.kind.toNat w' (by omega)
  have c2 := fun w' => rnum_any x.seq.toNat w' (by omega)
  have c3' := fun w' (hb : Below w.heap.size w w') => rtext_any w' A3 n3 c3 x.name (hs3.below (by omega) hb) (by have := hs3.lenb; omega)
  have t1 := numL_le x.kind.toNat
  have t2 := numL_le x.seq.toNat
  have t3 := textL_le x.name
  have t4 : (opsBytesL x.ops).length ≤ 100000 := by
    have hb := checkOps_bounds f1
    have h1 := opFlat_le x.ops hb.2
    have h2 := numL_le x.ops.length
    simp only [opsBytesL, List.length_append]
    omega
  have hfl : (numL x.kind.toNat ++ (numL x.seq.toNat ++ (textL x.name ++ opsBytesL x.ops))).length ≤ 200000 := by
    simp only [List.length_append]
    omega
  rw [← List.append_assoc, ← List.append_assoc]
  generalize numL x.kind.toNat = a1 at *
  generalize numL x.seq.toNat = a2 at *
  generalize textL x.name = a3 at *
  generalize opsBytesL x.ops = a4 at *
  unfold GotBE at cb
  simp only at cb
  generalize x.kind.toNat = d at *
  generalize x.seq.toNat = s at *
  have Cr := Lib.hid cr
  have Cb := Lib.hid cb
  have C1 := Lib.hid c1
  have C2 := Lib.hid c2
  have C3 := Lib.hid c3'
  have Hfl := Lib.hid hfl
  have hwr : IntKind.u64.wrap (d : Int) = (d : Int) := by rw [IntKind.wrap_u64]; omega
  clear cr cb c1 c2 c3' hf e eb f1 f2 f3 t1 t2 t3 t4 hfl hs3 hs4 hkl hsl
  have kB := Bx4.fresh w (.int .u8 (d : Int)) (.int .u64 (s : Int)) (.slice A3 n3 c3) (.slice A4 n4 c4) 41
  have al := (Below.refl w.heap.size w).alloc (Nat.le_refl _) (.cells #[.int .u8 (d : Int), .int .u64 (s : Int), .slice A3 n3 c3, .slice A4 n4 c4] 41)
  obtain ⟨x0, x1, x2, x3, x4⟩ := id kB
  go_enter Tryd.func15, Tryd.ntmps15
  go_wp2_with fail
  refine (Cr.out _ al).mono ?_
  rintro e w1 ⟨rfl, hb1⟩
  have kB := kB.below hb1
  have q1 := al.trans (hb1.mono al.size)
  clear x0 x1 x2 x3 x4 al hb1
  obtain ⟨x0, x1, x2, x3, x4⟩ := id kB
  go_wp2_with fail
  refine (Cb.out _ q1).mono ?_
  rintro e w2 ⟨A5, n5, c5, rfl, ho5, hb2⟩
  have s5 := (OwnB.sl ho5).drew
  have k0 := (kB.below hb2).drew
  have q0 := below_drew' (q1.trans (hb2.mono q1.size))
  clear x0 x1 x2 x3 x4 hb2 ho5 kB q1
  go_wp2_with fail
  generalize hW : w2.drew = w0 at *
  refine regionF (fun _ wa wb => Below w0.heap.size w0 wa → Below w0.heap.size w0 wb) (by kernel_rfl) ?_
  rw [hW]
  clear hW
  have hX := Below.refl w0.heap.size w0
  refine takeF (i := 0) (v := ?_) (fun wa => Below w0.heap.size w0 wa) rfl (by kernel_rfl) (by kernel_rfl) (by kernel_rfl) (fun j hj => .inr (.inr fun wa wb h g => g h)) (fun wa => id) (fun _ _ _ h => h) (Or.inl ⟨by kernel_rfl, ?hy⟩) hX ?_
  case hy =>
    intro wS hSw
    clear hSw
    go_simp
    try with_reducible rfl
  try simp only [List.getElem_toArray, List.getElem_cons_succ, List.getElem_cons_zero, Act.put, List.setIfInBounds_toArray, List.set_cons_zero, List.set_cons_succ]
  refine takeF (i := 1) (v := ?_) (fun wa => Below w0.heap.size w0 wa) rfl (by kernel_rfl) (by kernel_rfl) (by kernel_rfl) (fun j hj => .inr (.inr fun wa wb h g => g h)) (fun wa => id) (fun _ _ _ h => h) (Or.inl ⟨by kernel_rfl, ?hy⟩) hX ?_
  case hy =>
    intro wS hSw
    obtain ⟨x0, x1, x2, x3, x4⟩ := k0.below hSw
    clear hSw
    go_simp
    try with_reducible rfl
  try simp only [List.getElem_toArray, List.getElem_cons_succ, List.getElem_cons_zero, Act.put, List.setIfInBounds_toArray, List.set_cons_zero, List.set_cons_succ]
  refine takeF (i := 2) (v := ?_) (fun wa => Below w0.heap.size w0 wa) rfl (by kernel_rfl) (by kernel_rfl) (by kernel_rfl) (fun j hj => .inr (.inr fun wa wb h g => g h)) (fun wa => id) (fun _ _ _ h => h) (Or.inl ⟨by kernel_rfl, ?hy⟩) hX ?_
  case hy =>
    intro wS hSw
    clear hSw
    go_simp
    try with_reducible rfl
  try simp only [List.getElem_toArray, List.getElem_cons_succ, List.getElem_cons_zero, Act.put, List.setIfInBounds_toArray, List.set_cons_zero, List.set_cons_succ]
  refine takeF (i := 4) (v := ?_) (fun wa => Below w0.heap.size w0 wa) rfl (by kernel_rfl) (by kernel_rfl) (by kernel_rfl) (fun j hj => .inr (.inr fun wa wb h g => g h)) (fun wa => id) (fun _ _ _ h => h) (Or.inl ⟨by kernel_rfl, ?hy⟩) hX ?_
  case hy =>
    intro wS hSw
    clear hSw
    go_simp
    try with_reducible rfl
  try simp only [List.getElem_toArray, List.getElem_cons_succ, List.getElem_cons_zero, Act.put, List.setIfInBounds_toArray, List.set_cons_zero, List.set_cons_succ]
  refine takeF (i := 5) (v := ?_) (fun wa => Below w0.heap.size w0 wa) rfl (by kernel_rfl) (by kernel_rfl) (by kernel_rfl) (fun j hj => .inr (.inr fun wa wb h g => g h)) (fun wa => id) (fun _ _ _ h => h) (Or.inl ⟨by kernel_rfl, ?hy⟩) hX ?_
  case hy =>
    intro wS hSw
    obtain ⟨x0, x1, x2, x3, x4⟩ := k0.below hSw
    clear hSw
    go_simp
    try with_reducible rfl
  try simp only [List.getElem_toArray, List.getElem_cons_succ, List.getElem_cons_zero, Act.put, List.setIfInBounds_toArray, List.set_cons_zero, List.set_cons_succ]
  refine takeF (i := 8) (v := ?_) (fun wa => Below w0.heap.size w0 wa) rfl (by kernel_rfl) (by kernel_rfl) (by kernel_rfl) (fun j hj => .inr (.inr fun wa wb h g => g h)) (fun wa => id) (fun _ _ _ h => h) (Or.inl ⟨by kernel_rfl, ?hy⟩) hX ?_
  case hy =>
    intro wS hSw
    clear hSw
    go_simp
    try with_reducible rfl
  try simp only [List.getElem_toArray, List.getElem_cons_succ, List.getElem_cons_zero, Act.put, List.setIfInBounds_toArray, List.set_cons_zero, List.set_cons_succ]
  refine takeF (i := 9) (v := ?_) (fun wa => Below w0.heap.size w0 wa) rfl (by kernel_rfl) (by kernel_rfl) (by kernel_rfl) (fun j hj => .inr (.inr fun wa wb h g => g h)) (fun wa => id) (fun _ _ _ h => h) (Or.inl ⟨by kernel_rfl, ?hy⟩) hX ?_
  case hy =>
    intro wS hSw
    obtain ⟨x0, x1, x2, x3, x4⟩ := k0.below hSw
    clear hSw
    go_simp
    try with_reducible rfl
  try simp only [List.getElem_toArray, List.getElem_cons_succ, List.getElem_cons_zero, Act.put, List.setIfInBounds_toArray, List.set_cons_zero, List.set_cons_succ]
  refine takeF (i := 12) (v := ?_) (fun wa => Below w0.heap.size w0 wa) rfl (by kernel_rfl) (by kernel_rfl) (by kernel_rfl) (fun j hj => .inr (.inr fun wa wb h g => g h)) (fun wa => id) (fun _ _ _ h => h) (Or.inl ⟨by kernel_rfl, ?hy⟩) hX ?_
  case hy =>
    intro wS hSw
    clear hSw
    go_simp
    try with_reducible rfl
  try simp only [List.getElem_toArray, List.getElem_cons_succ, List.getElem_cons_zero, Act.put, List.setIfInBounds_toArray, List.set_cons_zero, List.set_cons_succ]
  refine readyF (rs := [3]) (by kernel_rfl) (by simp) ?_
  refine AllF.cons rfl (fun K hK => ?_) AllF.nil
  go_simp
  refine (C1.out _).mono ?_
  rintro e w0_3 ⟨A6, n6, c6, rfl, ho6, hb⟩
  refine hK _ _ (fun h => h.trans (hb.mono h.size)) ?_
  clear hK K
  have ho6 := Own.mono ho6 hX.size
  have hX := hX.trans (hb.mono hX.size)
  clear hb
  refine readyF (rs := [6]) (by kernel_rfl) (by simp) ?_
  refine AllF.cons rfl (fun K hK => ?_) AllF.nil
  go_simp
  refine (C2.out _).mono ?_
  rintro e w0_3_6 ⟨A7, n7, c7, rfl, ho7, hb⟩
  refine hK _ _ (fun h => h.trans (hb.mono h.size)) ?_
  clear hK K
  have hX := hX.trans (hb.mono hX.size)
  have ho6 := Own.below ho6 hb
  clear hb
  have s7 := OwnB.sl ho7
  clear ho7
  refine readyF (rs := [7]) (by kernel_rfl) (by simp) ?_
  refine AllF.cons rfl (fun K hK => ?_) AllF.nil
  refine step_appB (by rfl) (.tmp 18) (.tmp 21) (by rfl) w0.heap.size A6 n6 c6 (a1) (by rfl) ho6 A7 n7 c7 (a2) (by rfl) s7 (by have h1 := OwnB.len' (l := a1) ho6; have h2 := s7.lenb; have := Hfl.out; simp only [List.length_append] at this; omega) hX.size ?_
  intro A9 c9 w0_3_6_7 ho9 hg _
  refine hK _ _ (fun h => h.grown hg h.size (fun b hb => (Own.lt ho6 b hb).1)) ?_
  clear hK K
  have hX := hX.grown hg hX.size (fun b hb => (Own.lt ho6 b hb).1)
  clear hg
  refine readyF (rs := [10]) (by kernel_rfl) (by simp) ?_
  refine AllF.cons rfl (fun K hK => ?_) AllF.nil
  go_simp
  refine (C3.out _ (q0.trans (hX.mono q0.size))).mono ?_
  rintro e w0_3_6_7_10 ⟨A8, n8, c8, rfl, ho8, hb⟩
  refine hK _ _ (fun h => h.trans (hb.mono h.size)) ?_
  clear hK K
  have hX := hX.trans (hb.mono hX.size)
  have ho9 := Own.below ho9 hb
  clear hb
  have s8 := OwnB.sl ho8
  clear ho8
  refine readyF (rs := [11]) (by kernel_rfl) (by simp) ?_
  refine AllF.cons rfl (fun K hK => ?_) AllF.nil
  refine step_appB (by rfl) (.tmp 22) (.tmp 25) (by rfl) w0.heap.size A9 (n6 + n7) c9 (a1 ++ a2) (by rfl) ho9 A8 n8 c8 (a3) (by rfl) s8 (by have h1 := OwnB.len' (l := a1 ++ a2) ho9; have h2 := s8.lenb; have := Hfl.out; simp only [List.length_append] at this h1; omega) hX.size ?_
  intro A10 c10 w0_3_6_7_10_11 ho10 hg _
  refine hK _ _ (fun h => h.grown hg h.size (fun b hb => (Own.lt ho9 b hb).1)) ?_
  clear hK K
  have hX := hX.grown hg hX.size (fun b hb => (Own.lt ho9 b hb).1)
  clear hg
  refine readyF (rs := [13]) (by kernel_rfl) (by simp) ?_
  refine AllF.cons rfl (fun K hK => ?_) AllF.nil
  refine step_appB (by rfl) (.tmp 26) (.tmp 27) (by rfl) w0.heap.size A10 (n6 + n7 + n8) c10 (a1 ++ a2 ++ a3) (by rfl) ho10 A5 n5 c5 (a4) (by rfl) (s5.below (by omega) hX) (by have h1 := OwnB.len' (l := a1 ++ a2 ++ a3) ho10; have h2 := s5.lenb; have := Hfl.out; simp only [List.length_append] at this h1; omega) hX.size ?_
  intro A11 c11 w0_3_6_7_10_11_13 ho11 hg _
  refine hK _ _ (fun h => h.grown hg h.size (fun b hb => (Own.lt ho10 b hb).1)) ?_
  clear hK K
  have hX := hX.grown hg hX.size (fun b hb => (Own.lt ho10 b hb).1)
  clear hg
  refine takeF (i := 14) (v := ?_) (fun wa => Below w0.heap.size w0 wa) rfl (by kernel_rfl) (by kernel_rfl) (by kernel_rfl) (fun j hj => .inr (.inr fun wa wb h g => g h)) (fun wa => id) (fun _ _ _ h => h) (Or.inl ⟨by kernel_rfl, ?hy⟩) hX ?_
  case hy =>
    intro wS hSw
    clear hSw
    go_simp
    try with_reducible rfl
  try simp only [List.getElem_toArray, List.getElem_cons_succ, List.getElem_cons_zero, Act.put, List.setIfInBounds_toArray, List.set_cons_zero, List.set_cons_succ]
  refine takeF (i := 15) (v := ?_) (fun wa => Below w0.heap.size w0 wa) rfl (by kernel_rfl) (by kernel_rfl) (by kernel_rfl) (fun j hj => .inr (.inr fun wa wb h g => g h)) (fun wa => id) (fun _ _ _ h => h) (Or.inl ⟨by kernel_rfl, ?hy⟩) hX ?_
  case hy =>
    intro wS hSw
    clear hSw
    go_simp
    try with_reducible rfl
  try simp only [List.getElem_toArray, List.getElem_cons_succ, List.getElem_cons_zero, Act.put, List.setIfInBounds_toArray, List.set_cons_zero, List.set_cons_succ]
  refine doneF (by kernel_rfl) ?_ _
  try simp only [List.getElem_toArray, List.getElem_cons_succ, List.getElem_cons_zero, Act.put, List.setIfInBounds_toArray, List.set_cons_zero, List.set_cons_succ]
  go_wp2
  go_ret2
  exact ⟨A11, _, c11, rfl, Own.mono ho11 q0.size, q0.trans (hX.mono q0.size)⟩
end Go.Proofs.YtpjinmiedanebaaDoor
