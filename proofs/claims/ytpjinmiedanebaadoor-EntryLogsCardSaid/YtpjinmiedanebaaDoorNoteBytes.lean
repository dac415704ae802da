/-
  entry.Bytes: what an entry's bytes are. (Printed by gennote2.py.) No condition.
-/
import Derived.Test.YtpjinmiedanebaaDoorNoteRight
import Derived.Test.YtpjinmiedanebaaDoorBatchBytesW
namespace Go.Proofs.YtpjinmiedanebaaDoor
open Go.RowKit
set_option maxRecDepth 20000
/-- an entry's bytes, or the error -/
def noteBE (x : NoteL) : List UInt8 × Nat := if formL x = true then (noteBytesL x, 0) else ([], 4)
set_option maxHeartbeats 8000000 in
theorem nbytes_any (w : World) (p : Nat → Prop) (A3 : Option Addr) (n3 c3 : Nat) (A4 : Option Addr) (n4 c4 : Nat) (x : NoteL) (hs3 : Sl w 1 A3 n3 c3 (bc x.name)) (hs4 : SlR w p A4 n4 c4 x.ops) :
    Calls Tryd.prog 20 #[.agg #[.int .u8 (x.kind.toNat : Int), .int .u64 (x.seq.toNat : Int), .slice A3 n3 c3, .slice A4 n4 c4]] w (GotBE w (noteBE x).1 (noteBE x).2) := by
  have cr := fun w' (hb : Below w.heap.size w w') => right_any w' p A3 n3 c3 A4 n4 c4 x (hs3.below (by omega) hb) (hs4.below hb)
  have cb := fun w' (hb : Below w.heap.size w w') => bbytes_any w' _ A4 n4 c4 x.ops (hs4.below hb)
  have hkl := x.kind.toNat_lt
  have hsl := x.seq.toNat_lt
  by_cases hf : formL x = true
  case neg =>
    have hf' : formL x = false := by simpa using hf
    have e : noteBE x = ([], 4) := by unfold noteBE; rw [if_neg hf]
    rw [e]
    rw [hf'] at cr
    generalize x.kind.toNat = d at *
    generalize x.seq.toNat = s at *
    have Cr := Lib.hid cr
    clear cr cb hf hf' e hs3 hs4
    have kB := Bx4.fresh w (.int .u8 (d : Int)) (.int .u64 (s : Int)) (.slice A3 n3 c3) (.slice A4 n4 c4) 54
    have al := (Below.refl w.heap.size w).alloc (Nat.le_refl _) (.cells #[.int .u8 (d : Int), .int .u64 (s : Int), .slice A3 n3 c3, .slice A4 n4 c4] 54)
    obtain ⟨x0, x1, x2, x3, x4⟩ := id kB
    go_enter Tryd.func20, Tryd.ntmps20
    go_wp2_with fail
    refine (Cr.out _ al).mono ?_
    rintro e w1 ⟨rfl, hb1⟩
    go_wp2
    go_ret2
    exact ⟨none, 0, 0, rfl, Own.nil _ _ _ _ _, al.trans (hb1.mono al.size)⟩
  obtain ⟨f1, f2, f3, _, _⟩ := form_bounds hf
  have e : noteBE x = (noteBytesL x, 0) := by unfold noteBE; rw [if_pos hf]
  rw [e, noteBytesL]
  rw [hf] at cr
  have eb : opsBE x.ops = (opsBytesL x.ops, 0) := by unfold opsBE; rw [if_pos f1]
  rw [eb] at cb
  have c1 := fun w' => num_any x.kind.toNat w' (by omega)
  have c2 := fun w' => num_any x.seq.toNat w' (by omega)
  have c3' := fun w' (hb : Below w.heap.size w w') => text_any w' A3 n3 c3 x.name (hs3.below (by omega) hb) (by have := hs3.lenb; omega)
  have t1 := numL_le x.kind.toNat
  have t2 := numL_le x.seq.toNat
  have t3 := textL_le x.name
  have t4 : (opsBytesL x.ops).length ≤ 100000 := by
    have hb := checkOps_bounds f1
    have h1 := opFlat_le x.ops hb.2
    have h2 := numL_le x.ops.length
    simp only [opsBytesL, List.length_append]
    omega
  have hfl : (numL x.kind.toNat ++ (numL x.seq.toNat ++ (textL x.name ++ opsBytesL x.ops))).length ≤ 200000 := by
    simp only [List.length_append]
    omega
  generalize numL x.kind.toNat = a1 at *
  generalize numL x.seq.toNat = a2 at *
  generalize textL x.name = a3 at *
  generalize opsBytesL x.ops = a4 at *
  unfold GotBE at cb
  simp only at cb
  generalize x.kind.toNat = d at *
  generalize x.seq.toNat = s at *
  have Cr := Lib.hid cr
  have Cb := Lib.hid cb
  have C1 := Lib.hid c1
  have C2 := Lib.hid c2
  have C3 := Lib.hid c3'
  have Hfl := Lib.hid hfl
  have hwr : IntKind.u64.wrap (d : Int) = (d : Int) := by rw [IntKind.wrap_u64]; omega
  clear cr cb c1 c2 c3' hf e eb f1 f2 f3 t1 t2 t3 t4 hfl hs3 hs4 hkl hsl
  have kB := Bx4.fresh w (.int .u8 (d : Int)) (.int .u64 (s : Int)) (.slice A3 n3 c3) (.slice A4 n4 c4) 54
  have al := (Below.refl w.heap.size w).alloc (Nat.le_refl _) (.cells #[.int .u8 (d : Int), .int .u64 (s : Int), .slice A3 n3 c3, .slice A4 n4 c4] 54)
  obtain ⟨x0, x1, x2, x3, x4⟩ := id kB
  go_enter Tryd.func20, Tryd.ntmps20
  go_wp2_with fail
  refine (Cr.out _ al).mono ?_
  rintro e w1 ⟨rfl, hb1⟩
  have kB := kB.below hb1
  have hbr := al.trans (hb1.mono al.size)
  clear x0 x1 x2 x3 x4 al hb1
  obtain ⟨x0, x1, x2, x3, x4⟩ := id kB
  go_wp2_with fail
  refine (Cb.out _ hbr).mono ?_
  rintro e w2 ⟨A5, n5, c5, rfl, ho5, hb2⟩
  have kB := kB.below hb2
  have hbr := hbr.trans (hb2.mono hbr.size)
  have s5 := OwnB.sl ho5
  clear x0 x1 x2 x3 x4 hb2 ho5
  go_wp2_with fail
  have kB := kB.drew
  have s5 := s5.drew
  have hbr := hbr.drew
  refine regionS 15 (fun w' => Bx4 w' w.heap.size (.int .u8 (d : Int)) (.int .u64 (s : Int)) (.slice A3 n3 c3) (.slice A4 n4 c4)) (by kernel_rfl) ?_
  try (change AnyS _ _ _ _ _ _ _ _ _ (World.drew _))
  generalize w2.drew = w3 at *
  refine takeS (i := 0) (v := ?_) rfl (by kernel_rfl) (by kernel_rfl) (by kernel_rfl) (by kernel_rfl) (by kernel_rfl) (fun _ _ _ h => h) (Or.inl ⟨by kernel_rfl, ?_⟩) kB ?_
  case refine_2 =>
    intro wS hSw
    clear hSw
    go_simp
    try with_reducible rfl
  try simp only [List.getElem_toArray, List.getElem_cons_succ, List.getElem_cons_zero, Act.put, List.setIfInBounds_toArray, List.set_cons_zero, List.set_cons_succ]
  refine takeS (i := 1) (v := ?_) rfl (by kernel_rfl) (by kernel_rfl) (by kernel_rfl) (by kernel_rfl) (by kernel_rfl) (fun _ _ _ h => h) (Or.inl ⟨by kernel_rfl, ?_⟩) kB ?_
  case refine_2 =>
    intro wS hSw
    obtain ⟨x0, x1, x2, x3, x4⟩ := hSw
    go_simp
    try with_reducible rfl
  try simp only [List.getElem_toArray, List.getElem_cons_succ, List.getElem_cons_zero, Act.put, List.setIfInBounds_toArray, List.set_cons_zero, List.set_cons_succ]
  refine takeS (i := 2) (v := ?_) rfl (by kernel_rfl) (by kernel_rfl) (by kernel_rfl) (by kernel_rfl) (by kernel_rfl) (fun _ _ _ h => h) (Or.inl ⟨by kernel_rfl, ?_⟩) kB ?_
  case refine_2 =>
    intro wS hSw
    clear hSw
    go_simp
    try with_reducible rfl
  try simp only [List.getElem_toArray, List.getElem_cons_succ, List.getElem_cons_zero, Act.put, List.setIfInBounds_toArray, List.set_cons_zero, List.set_cons_succ]
  refine takeS (i := 4) (v := ?_) rfl (by kernel_rfl) (by kernel_rfl) (by kernel_rfl) (by kernel_rfl) (by kernel_rfl) (fun _ _ _ h => h) (Or.inl ⟨by kernel_rfl, ?_⟩) kB ?_
  case refine_2 =>
    intro wS hSw
    clear hSw
    go_simp
    try with_reducible rfl
  try simp only [List.getElem_toArray, List.getElem_cons_succ, List.getElem_cons_zero, Act.put, List.setIfInBounds_toArray, List.set_cons_zero, List.set_cons_succ]
  refine takeS (i := 5) (v := ?_) rfl (by kernel_rfl) (by kernel_rfl) (by kernel_rfl) (by kernel_rfl) (by kernel_rfl) (fun _ _ _ h => h) (Or.inl ⟨by kernel_rfl, ?_⟩) kB ?_
  case refine_2 =>
    intro wS hSw
    obtain ⟨x0, x1, x2, x3, x4⟩ := hSw
    go_simp
    try with_reducible rfl
  try simp only [List.getElem_toArray, List.getElem_cons_succ, List.getElem_cons_zero, Act.put, List.setIfInBounds_toArray, List.set_cons_zero, List.set_cons_succ]
  refine takeS (i := 7) (v := ?_) rfl (by kernel_rfl) (by kernel_rfl) (by kernel_rfl) (by kernel_rfl) (by kernel_rfl) (fun _ _ _ h => h) (Or.inl ⟨by kernel_rfl, ?_⟩) kB ?_
  case refine_2 =>
    intro wS hSw
    clear hSw
    go_simp
    try with_reducible rfl
  try simp only [List.getElem_toArray, List.getElem_cons_succ, List.getElem_cons_zero, Act.put, List.setIfInBounds_toArray, List.set_cons_zero, List.set_cons_succ]
  refine takeS (i := 8) (v := ?_) rfl (by kernel_rfl) (by kernel_rfl) (by kernel_rfl) (by kernel_rfl) (by kernel_rfl) (fun _ _ _ h => h) (Or.inl ⟨by kernel_rfl, ?_⟩) kB ?_
  case refine_2 =>
    intro wS hSw
    obtain ⟨x0, x1, x2, x3, x4⟩ := hSw
    go_simp
    try with_reducible rfl
  try simp only [List.getElem_toArray, List.getElem_cons_succ, List.getElem_cons_zero, Act.put, List.setIfInBounds_toArray, List.set_cons_zero, List.set_cons_succ]
  refine takeS (i := 10) (v := ?_) rfl (by kernel_rfl) (by kernel_rfl) (by kernel_rfl) (by kernel_rfl) (by kernel_rfl) (fun _ _ _ h => h) (Or.inl ⟨by kernel_rfl, ?_⟩) kB ?_
  case refine_2 =>
    intro wS hSw
    clear hSw
    go_simp
    try with_reducible rfl
  try simp only [List.getElem_toArray, List.getElem_cons_succ, List.getElem_cons_zero, Act.put, List.setIfInBounds_toArray, List.set_cons_zero, List.set_cons_succ]
  refine readyS (i := 3) (by kernel_rfl) rfl (fun K hK => ?_)
  go_simp
  try rw [hwr]
  refine (C1.out _).mono ?_
  rintro e w4 ⟨A6, n6, c6, rfl, ho6, hb4⟩
  refine hK _ _ (kB.below hb4) ?_
  clear hK K
  have kB := kB.below hb4
  have hbr := hbr.trans (hb4.mono hbr.size)
  have s5 := s5.below (by omega) hb4
  have s6 := OwnB.sl ho6
  clear hb4 ho6
  refine readyS (i := 6) (by kernel_rfl) rfl (fun K hK => ?_)
  go_simp
  try rw [hwr]
  refine (C2.out _).mono ?_
  rintro e w4 ⟨A7, n7, c7, rfl, ho7, hb4⟩
  refine hK _ _ (kB.below hb4) ?_
  clear hK K
  have kB := kB.below hb4
  have hbr := hbr.trans (hb4.mono hbr.size)
  have s5 := s5.below (by omega) hb4
  have s6 := s6.below (by omega) hb4
  have s7 := OwnB.sl ho7
  clear hb4 ho7
  refine readyS (i := 9) (by kernel_rfl) rfl (fun K hK => ?_)
  go_simp
  try rw [hwr]
  refine (C3.out _ hbr).mono ?_
  rintro e w4 ⟨A8, n8, c8, rfl, ho8, hb4⟩
  refine hK _ _ (kB.below hb4) ?_
  clear hK K
  have kB := kB.below hb4
  have hbr := hbr.trans (hb4.mono hbr.size)
  have s5 := s5.below (by omega) hb4
  have s6 := s6.below (by omega) hb4
  have s7 := s7.below (by omega) hb4
  have s8 := OwnB.sl ho8
  clear hb4 ho8
  refine readyS (i := 11) (by kernel_rfl) rfl (fun K hK => ?_)
  go_simp
  refine hK _ _ (kB.below ((Below.refl _ _).alloc (Nat.le_refl _) _)) ?_
  clear hK K
  have al2 := (Below.refl w4.heap.size w4).alloc (Nat.le_refl _) (.cells #[.slice A6 n6 c6, .slice A7 n7 c7, .slice A8 n8 c8, .slice A5 n5 c5] 22)
  have kB := kB.below al2
  have hbr := hbr.trans (al2.mono hbr.size)
  have s5 := s5.below (by omega) al2
  have s6 := s6.below (by omega) al2
  have s7 := s7.below (by omega) al2
  have s8 := s8.below (by omega) al2
  have hlit : Sl (w4.alloc (.cells #[.slice A6 n6 c6, .slice A7 n7 c7, .slice A8 n8 c8, .slice A5 n5 c5] 22)) 1 (some ⟨w4.heap.size, 0, none⟩) 4 4 [.slice A6 n6 c6, .slice A7 n7 c7, .slice A8 n8 c8, .slice A5 n5 c5] := Sl.lit w4 _ _ 4 _ _ rfl (by unfold maxLen; omega) rfl
  clear al2
  generalize (w4.alloc (.cells #[.slice A6 n6 c6, .slice A7 n7 c7, .slice A8 n8 c8, .slice A5 n5 c5] 22)) = w5 at *
  have hpo : PartsOf w5 [.slice A6 n6 c6, .slice A7 n7 c7, .slice A8 n8 c8, .slice A5 n5 c5] [a1, a2, a3, a4] := by
    refine ⟨rfl, fun i v l hv hl => ?_⟩
    rcases i with _ | _ | _ | _ | i
    · simp at hv hl; subst hv; subst hl; exact ⟨_, _, _, rfl, s6⟩
    · simp at hv hl; subst hv; subst hl; exact ⟨_, _, _, rfl, s7⟩
    · simp at hv hl; subst hv; subst hl; exact ⟨_, _, _, rfl, s8⟩
    · simp at hv hl; subst hv; subst hl; exact ⟨_, _, _, rfl, s5⟩
    · simp at hv
  have hflat : [a1, a2, a3, a4].flatten = a1 ++ (a2 ++ (a3 ++ a4)) := by simp
  have cj := join_any w5 _ 4 4 _ _ hlit hpo (by omega) (by rw [hflat]; have := Hfl.out; omega)
  rw [hflat] at cj
  have cj := ajoin_of cj
  refine readyS (i := 12) (by kernel_rfl) rfl (fun K hK => ?_)
  go_simp
  refine cj.mono ?_
  rintro e w6 ⟨A9, n9, c9, rfl, ho9, hb9⟩
  refine hK _ _ (kB.below hb9) ?_
  clear hK K
  have kB := kB.below hb9
  have hz := hbr.size
  have hbr := hbr.trans (hb9.mono hbr.size)
  clear cj hlit hpo hflat
  refine takeS (i := 13) (v := ?_) rfl (by kernel_rfl) (by kernel_rfl) (by kernel_rfl) (by kernel_rfl) (by kernel_rfl) (fun _ _ _ h => h) (Or.inl ⟨by kernel_rfl, ?_⟩) kB ?_
  case refine_2 =>
    intro wS hSw
    clear hSw
    go_simp
    try with_reducible rfl
  try simp only [List.getElem_toArray, List.getElem_cons_succ, List.getElem_cons_zero, Act.put, List.setIfInBounds_toArray, List.set_cons_zero, List.set_cons_succ]
  refine takeS (i := 14) (v := ?_) rfl (by kernel_rfl) (by kernel_rfl) (by kernel_rfl) (by kernel_rfl) (by kernel_rfl) (fun _ _ _ h => h) (Or.inl ⟨by kernel_rfl, ?_⟩) kB ?_
  case refine_2 =>
    intro wS hSw
    clear hSw
    go_simp
    try with_reducible rfl
  try simp only [List.getElem_toArray, List.getElem_cons_succ, List.getElem_cons_zero, Act.put, List.setIfInBounds_toArray, List.set_cons_zero, List.set_cons_succ]
  refine doneS (by kernel_rfl) ?_ _
  try simp only [List.getElem_toArray, List.getElem_cons_succ, List.getElem_cons_zero, Act.put, List.setIfInBounds_toArray, List.set_cons_zero, List.set_cons_succ]
  go_wp2
  go_ret2
  exact ⟨A9, n9, c9, rfl, Own.mono ho9 hz, hbr⟩
end Go.Proofs.YtpjinmiedanebaaDoor
