/-
  The walk of EntryApart: it returns true at every input. (Printed by genentrylaws1.py.) No condition.
-/
import Derived.Test.YtfonincdhjkacaaNoteAwake
import Derived.Test.YtfonincdhjkacaaNoteFew
import Derived.Test.YtfonincdhjkacaaNoteSame
namespace Go.Proofs.Ytfonincdhjkacaa
open Go.RowKit
set_option maxRecDepth 20000
theorem noteRowS (w : World) (x : NoteL) (k s : Nat) (hk : x.kind.toNat = k) (hs : x.seq.toNat = s) (p : Nat → Prop) (A3 : Option Addr) (n3 c3 : Nat) (A4 : Option Addr) (n4 c4 : Nat) (s3 : Sl w 1 A3 n3 c3 (bc x.name)) (s4 : SlR w p A4 n4 c4 x.ops) (e : TypeId) :
    SlR (w.alloc (.cells #[.int .u8 (k : Int), .int .u64 (s : Int), .slice A3 n3 c3, .slice A4 n4 c4] e)) (fun _ => True) (some ⟨w.heap.size, 0, none⟩) 1 1 [x] := by
  subst hk hs
  have al := (Below.refl w.heap.size w).alloc (Nat.le_refl _) (.cells #[.int .u8 (x.kind.toNat : Int), .int .u64 (x.seq.toNat : Int), .slice A3 n3 c3, .slice A4 n4 c4] e)
  exact ⟨_, ⟨rfl, Nat.le_refl _, by unfold maxLen; omega, fun _ => ⟨w.heap.size, 0, rfl, fun j u hu => by rw [cell_of_row _ _ _ _ _ _ (heap_alloc_new w _)]; simpa [u8v, u64v] using hu⟩⟩, RowC.single ⟨_, A4, n4, c4, rfl, Bk.of (s3.below (by omega) al), (s4.below al).mono fun _ _ _ => trivial⟩, fun _ _ _ => trivial⟩
theorem samenotes_is (w : World) (p : Nat → Prop) (A : Option Addr) (n c : Nat) (ls : List NoteL) (h : SlR w p A n c ls) (p' : Nat → Prop) (A' : Option Addr) (n' c' : Nat) (h' : SlR w p' A' n' c' ls) :
    Calls Try.prog 24 #[.slice A n c, .slice A' n' c'] w fun e w' => e = .returned (.bool true) ∧ Below w.heap.size w w' := by
  have := rsamenotes_any w p A n c ls h p' A' n' c' ls h'
  simpa using this
theorem apart_plain (a b : NoteL) (ha : (noteBE a).2 = 0) (hb : (noteBE b).2 = 0) : ((noteBE a).1 == (noteBE b).1) = decide ([a] = [b]) := by
  unfold noteBE at *
  split at ha
  · rename_i h1
    split at hb
    · rename_i h2
      rw [if_pos h1, if_pos h2, Bool.eq_iff_iff, beq_iff_eq, decide_eq_true_eq]
      constructor
      · intro e
        rw [note_inj h1 h2 e]
      · intro e
        simp at e
        rw [e]
    · simp at hb
  · simp at ha
set_option maxHeartbeats 16000000 in
theorem entryApart.walk (w : World) (A : Option Addr) (n c : Nat) (B : Option Addr) (m d : Nat) (x : NoteL) (hs : Sl w 1 A n c (bc x.name)) (ht : SlR w (fun _ => True) B m d x.ops) (A' : Option Addr) (n' c' : Nat) (B' : Option Addr) (m' d' : Nat) (y : NoteL) (hs' : Sl w 1 A' n' c' (bc y.name)) (ht' : SlR w (fun _ => True) B' m' d' y.ops) :
    Calls Try.prog 3 #[.agg #[.int .u8 (x.kind.toNat : Int), .int .u64 (x.seq.toNat : Int), .slice A n c, .slice B m d], .agg #[.int .u8 (y.kind.toNat : Int), .int .u64 (y.seq.toNat : Int), .slice A' n' c', .slice B' m' d']] w fun e w' => e = .returned (.bool true) ∧ Below w.heap.size w w' := by
  generalize hkx : x.kind.toNat = kx at *
  generalize hqx : x.seq.toNat = qx at *
  generalize hky : y.kind.toNat = ky at *
  generalize hqy : y.seq.toNat = qy at *
  have Hkx := Lib.hid hkx
  have Hqx := Lib.hid hqx
  have Hky := Lib.hid hky
  have Hqy := Lib.hid hqy
  clear hkx hqx hky hqy
  have hq0 := (Below.refl w.heap.size w).alloc (Nat.le_refl _) (.cells #[.int .u8 (kx : Int), .int .u64 (qx : Int), .slice A n c, .slice B m d] 26)
  have z1 : (w.alloc (.cells #[.int .u8 (kx : Int), .int .u64 (qx : Int), .slice A n c, .slice B m d] 26)).heap.size = w.heap.size + 1 := by simp
  have kX := Bx4.fresh w (.int .u8 (kx : Int)) (.int .u64 (qx : Int)) (.slice A n c) (.slice B m d) 26
  generalize hW : (w.alloc (.cells #[.int .u8 (kx : Int), .int .u64 (qx : Int), .slice A n c, .slice B m d] 26)) = w_0 at *
  have al := (Below.refl w_0.heap.size w_0).alloc (Nat.le_refl _) (.cells #[.int .u8 (ky : Int), .int .u64 (qy : Int), .slice A' n' c', .slice B' m' d'] 26)
  have kY := Bx4.fresh w_0 (.int .u8 (ky : Int)) (.int .u64 (qy : Int)) (.slice A' n' c') (.slice B' m' d') 26
  have kX := kX.below al
  have hq0 := hq0.trans (al.mono hq0.size)

  generalize hW2 : (w_0.alloc (.cells #[.int .u8 (ky : Int), .int .u64 (qy : Int), .slice A' n' c', .slice B' m' d'] 26)) = w_1 at *
  have hs := hs.below (by omega) hq0
  have ht := ht.below hq0
  have hs' := hs'.below (by omega) hq0
  have ht' := ht'.below hq0
  clear al z1
  go_enter Try.func3, Try.ntmps3
  go_wp2_with fail
  try rw [hW]
  try rw [hW2]
  clear hW hW2
  refine (awake07 w_1).mono ?_
  rintro e w_2 ⟨rfl, hb⟩
  have hs := hs.below (by omega) hb
  have ht := ht.below hb
  have hs' := hs'.below (by omega) hb
  have ht' := ht'.below hb
  have kX := kX.below hb
  have kY := kY.below hb
  have hq0 := hq0.trans (hb.mono hq0.size)
  clear hb
  go_wp2_with fail
  go_cut [5, 6] from 13 (fun s5 s6 wx => ∃ (A5 : Option Addr) (c5 : Nat) (A6 : Option Addr) (c6 : Nat), s5 = .slice A5 1 c5 ∧ s6 = .slice A6 1 c6 ∧ Below w_2.heap.size w_2 wx ∧ SlR wx (fun _ => True) A5 1 c5 [cutNote x] ∧ SlR wx (fun _ => True) A6 1 c6 [cutNote y])
  case first =>
    have hs := hs.drew
    have hs' := hs'.drew
    have kX := kX.drew
    have kY := kY.drew
    have ht := ht.below (below_drew (Below.refl _ _))
    have ht' := ht'.below (below_drew (Below.refl _ _))
    have hX9 : Below w_2.heap.size w_2 w_2.drew := below_drew (Below.refl _ _)
    generalize hW : w_2.drew = w_3 at *
    refine regionF (fun _ wa wb => Below w_3.heap.size w_3 wa → Below w_3.heap.size w_3 wb) (by kernel_rfl) ?_
    rw [hW]
    clear hW
    have hX := Below.refl w_3.heap.size w_3
    refine takeF (i := 0) (v := ?_) (fun wa => Below w_3.heap.size w_3 wa) rfl (by kernel_rfl) (by kernel_rfl) (by kernel_rfl) (fun j hj => .inr (.inr fun wa wb h g => g h)) (fun wa => id) (fun _ _ _ h => h) (Or.inl ⟨by kernel_rfl, ?hy⟩) hX ?_
    case hy =>
      intro wS hSw
      obtain ⟨x0, x1, x2, x3, x4⟩ := kX.below hSw
      go_simp
      try with_reducible rfl
    try simp only [List.getElem_toArray, List.getElem_cons_succ, List.getElem_cons_zero, Act.put, List.setIfInBounds_toArray, List.set_cons_zero, List.set_cons_succ]
    refine takeF (i := 3) (v := ?_) (fun wa => Below w_3.heap.size w_3 wa) rfl (by kernel_rfl) (by kernel_rfl) (by kernel_rfl) (fun j hj => .inr (.inr fun wa wb h g => g h)) (fun wa => id) (fun _ _ _ h => h) (Or.inl ⟨by kernel_rfl, ?hy⟩) hX ?_
    case hy =>
      intro wS hSw
      obtain ⟨x0, x1, x2, x3, x4⟩ := kY.below hSw
      go_simp
      try with_reducible rfl
    try simp only [List.getElem_toArray, List.getElem_cons_succ, List.getElem_cons_zero, Act.put, List.setIfInBounds_toArray, List.set_cons_zero, List.set_cons_succ]
    refine readyF (rs := [1, 4]) (by kernel_rfl) (by simp) ?_
    refine AllF.cons rfl (fun K hK => ?_) ?_
    · go_simp
      refine hK _ _ (fun h => h.alloc h.size _) ?_
      clear hK K
      have rA := noteRowS w_3 x kx qx Hkx.out Hqx.out _ A n c B m d (hs.below (by omega) hX) (ht.below hX) 26
      have al := (Below.refl w_3.heap.size w_3).alloc (Nat.le_refl _) (.cells #[.int .u8 (kx : Int), .int .u64 (qx : Int), .slice A n c, .slice B m d] 26)
      have hX := hX.alloc hX.size (.cells #[.int .u8 (kx : Int), .int .u64 (qx : Int), .slice A n c, .slice B m d] 26)
      clear al
      generalize (w_3.alloc (.cells #[.int .u8 (kx : Int), .int .u64 (qx : Int), .slice A n c, .slice B m d] 26)) = w_3_1 at *
      refine readyF (rs := [2, 4]) (by kernel_rfl) (by simp) ?_
      refine AllF.cons rfl (fun K hK => ?_) ?_
      · go_simp
        refine (fewnotes_any w_3_1 _ _ 1 1 [x] 1 rA (by omega)).mono ?_
        rintro e w_3_1_2 ⟨A5, n5, c5, rfl, ho, hb⟩
        refine hK _ _ (fun _ => hX.trans (hb.mono hX.size)) ?_
        clear hK K
        rw [show fewNotes [x] 1 = [cutNote x] from rfl] at ho
        obtain rfl : 1 = n5 := ho.lenR
        have sA := ho.sl
        have hX := hX.trans (hb.mono hX.size)
        have rA := rA.below hb
        clear ho hb
        refine readyF (rs := [4]) (by kernel_rfl) (by simp) ?_
        refine AllF.cons rfl (fun K hK => ?_) AllF.nil
        go_simp
        refine hK _ _ (fun h => h.alloc h.size _) ?_
        clear hK K
        have rB := noteRowS w_3_1_2 y ky qy Hky.out Hqy.out _ A' n' c' B' m' d' (hs'.below (by omega) hX) (ht'.below hX) 26
        have al := (Below.refl w_3_1_2.heap.size w_3_1_2).alloc (Nat.le_refl _) (.cells #[.int .u8 (ky : Int), .int .u64 (qy : Int), .slice A' n' c', .slice B' m' d'] 26)
        have hX := hX.alloc hX.size (.cells #[.int .u8 (ky : Int), .int .u64 (qy : Int), .slice A' n' c', .slice B' m' d'] 26)
        have sA := sA.below al
        clear al
        generalize (w_3_1_2.alloc (.cells #[.int .u8 (ky : Int), .int .u64 (qy : Int), .slice A' n' c', .slice B' m' d'] 26)) = w_3_1_2_4 at *
        refine readyF (rs := [5]) (by kernel_rfl) (by simp) ?_
        refine AllF.cons rfl (fun K hK => ?_) AllF.nil
        go_simp
        refine (fewnotes_any w_3_1_2_4 _ _ 1 1 [y] 1 rB (by omega)).mono ?_
        rintro e w_3_1_2_4_5 ⟨A6, n6, c6, rfl, ho, hb⟩
        refine hK _ _ (fun _ => hX.trans (hb.mono hX.size)) ?_
        clear hK K
        rw [show fewNotes [y] 1 = [cutNote y] from rfl] at ho
        obtain rfl : 1 = n6 := ho.lenR
        have sB := ho.sl
        have hX := hX.trans (hb.mono hX.size)
        have sA := sA.below hb
        have rB := rB.below hb
        clear ho hb
        refine takeF (i := 6) (v := ?_) (fun wa => Below w_3.heap.size w_3 wa) rfl (by kernel_rfl) (by kernel_rfl) (by kernel_rfl) (fun j hj => .inr (.inr fun wa wb h g => g h)) (fun wa => id) (fun _ _ _ h => h) (Or.inl ⟨by kernel_rfl, ?hy⟩) hX ?_
        case hy =>
          intro wS hSw
          clear hSw
          go_simp
          try with_reducible rfl
        try simp only [List.getElem_toArray, List.getElem_cons_succ, List.getElem_cons_zero, Act.put, List.setIfInBounds_toArray, List.set_cons_zero, List.set_cons_succ]
        refine takeF (i := 7) (v := ?_) (fun wa => Below w_3.heap.size w_3 wa) rfl (by kernel_rfl) (by kernel_rfl) (by kernel_rfl) (fun j hj => .inr (.inr fun wa wb h g => g h)) (fun wa => id) (fun _ _ _ h => h) (Or.inl ⟨by kernel_rfl, ?hy⟩) hX ?_
        case hy =>
          intro wS hSw
          clear hSw
          go_simp
          try with_reducible rfl
        try simp only [List.getElem_toArray, List.getElem_cons_succ, List.getElem_cons_zero, Act.put, List.setIfInBounds_toArray, List.set_cons_zero, List.set_cons_succ]
        refine doneF (by kernel_rfl) ?_ _
        try simp only [List.getElem_toArray, List.getElem_cons_succ, List.getElem_cons_zero, Act.put, List.setIfInBounds_toArray, List.set_cons_zero, List.set_cons_succ]
        go_wp2_with fail
        go_meet
        exact ⟨A5, c5, A6, c6, rfl, rfl, hX9.trans (hX.mono hX9.size), sA, sB⟩
      refine AllF.cons rfl (fun K hK => ?_) AllF.nil
      go_simp
      refine hK _ _ (fun h => h.alloc h.size _) ?_
      clear hK K
      have rB := noteRowS w_3_1 y ky qy Hky.out Hqy.out _ A' n' c' B' m' d' (hs'.below (by omega) hX) (ht'.below hX) 26
      have al := (Below.refl w_3_1.heap.size w_3_1).alloc (Nat.le_refl _) (.cells #[.int .u8 (ky : Int), .int .u64 (qy : Int), .slice A' n' c', .slice B' m' d'] 26)
      have hX := hX.alloc hX.size (.cells #[.int .u8 (ky : Int), .int .u64 (qy : Int), .slice A' n' c', .slice B' m' d'] 26)
      have rA := rA.below al
      clear al
      generalize (w_3_1.alloc (.cells #[.int .u8 (ky : Int), .int .u64 (qy : Int), .slice A' n' c', .slice B' m' d'] 26)) = w_3_1_4 at *
      refine readyF (rs := [2]) (by kernel_rfl) (by simp) ?_
      refine AllF.cons rfl (fun K hK => ?_) AllF.nil
      go_simp
      refine (fewnotes_any w_3_1_4 _ _ 1 1 [x] 1 rA (by omega)).mono ?_
      rintro e w_3_1_4_2 ⟨A5, n5, c5, rfl, ho, hb⟩
      refine hK _ _ (fun _ => hX.trans (hb.mono hX.size)) ?_
      clear hK K
      rw [show fewNotes [x] 1 = [cutNote x] from rfl] at ho
      obtain rfl : 1 = n5 := ho.lenR
      have sA := ho.sl
      have hX := hX.trans (hb.mono hX.size)
      have rA := rA.below hb
      have rB := rB.below hb
      clear ho hb
      refine readyF (rs := [5]) (by kernel_rfl) (by simp) ?_
      refine AllF.cons rfl (fun K hK => ?_) AllF.nil
      go_simp
      refine (fewnotes_any w_3_1_4_2 _ _ 1 1 [y] 1 rB (by omega)).mono ?_
      rintro e w_3_1_4_2_5 ⟨A6, n6, c6, rfl, ho, hb⟩
      refine hK _ _ (fun _ => hX.trans (hb.mono hX.size)) ?_
      clear hK K
      rw [show fewNotes [y] 1 = [cutNote y] from rfl] at ho
      obtain rfl : 1 = n6 := ho.lenR
      have sB := ho.sl
      have hX := hX.trans (hb.mono hX.size)
      have sA := sA.below hb
      have rB := rB.below hb
      clear ho hb
      refine takeF (i := 6) (v := ?_) (fun wa => Below w_3.heap.size w_3 wa) rfl (by kernel_rfl) (by kernel_rfl) (by kernel_rfl) (fun j hj => .inr (.inr fun wa wb h g => g h)) (fun wa => id) (fun _ _ _ h => h) (Or.inl ⟨by kernel_rfl, ?hy⟩) hX ?_
      case hy =>
        intro wS hSw
        clear hSw
        go_simp
        try with_reducible rfl
      try simp only [List.getElem_toArray, List.getElem_cons_succ, List.getElem_cons_zero, Act.put, List.setIfInBounds_toArray, List.set_cons_zero, List.set_cons_succ]
      refine takeF (i := 7) (v := ?_) (fun wa => Below w_3.heap.size w_3 wa) rfl (by kernel_rfl) (by kernel_rfl) (by kernel_rfl) (fun j hj => .inr (.inr fun wa wb h g => g h)) (fun wa => id) (fun _ _ _ h => h) (Or.inl ⟨by kernel_rfl, ?hy⟩) hX ?_
      case hy =>
        intro wS hSw
        clear hSw
        go_simp
        try with_reducible rfl
      try simp only [List.getElem_toArray, List.getElem_cons_succ, List.getElem_cons_zero, Act.put, List.setIfInBounds_toArray, List.set_cons_zero, List.set_cons_succ]
      refine doneF (by kernel_rfl) ?_ _
      try simp only [List.getElem_toArray, List.getElem_cons_succ, List.getElem_cons_zero, Act.put, List.setIfInBounds_toArray, List.set_cons_zero, List.set_cons_succ]
      go_wp2_with fail
      go_meet
      exact ⟨A5, c5, A6, c6, rfl, rfl, hX9.trans (hX.mono hX9.size), sA, sB⟩
    refine AllF.cons rfl (fun K hK => ?_) AllF.nil
    go_simp
    refine hK _ _ (fun h => h.alloc h.size _) ?_
    clear hK K
    have rB := noteRowS w_3 y ky qy Hky.out Hqy.out _ A' n' c' B' m' d' (hs'.below (by omega) hX) (ht'.below hX) 26
    have al := (Below.refl w_3.heap.size w_3).alloc (Nat.le_refl _) (.cells #[.int .u8 (ky : Int), .int .u64 (qy : Int), .slice A' n' c', .slice B' m' d'] 26)
    have hX := hX.alloc hX.size (.cells #[.int .u8 (ky : Int), .int .u64 (qy : Int), .slice A' n' c', .slice B' m' d'] 26)
    clear al
    generalize (w_3.alloc (.cells #[.int .u8 (ky : Int), .int .u64 (qy : Int), .slice A' n' c', .slice B' m' d'] 26)) = w_3_4 at *
    refine readyF (rs := [1]) (by kernel_rfl) (by simp) ?_
    refine AllF.cons rfl (fun K hK => ?_) AllF.nil
    go_simp
    refine hK _ _ (fun h => h.alloc h.size _) ?_
    clear hK K
    have rA := noteRowS w_3_4 x kx qx Hkx.out Hqx.out _ A n c B m d (hs.below (by omega) hX) (ht.below hX) 26
    have al := (Below.refl w_3_4.heap.size w_3_4).alloc (Nat.le_refl _) (.cells #[.int .u8 (kx : Int), .int .u64 (qx : Int), .slice A n c, .slice B m d] 26)
    have hX := hX.alloc hX.size (.cells #[.int .u8 (kx : Int), .int .u64 (qx : Int), .slice A n c, .slice B m d] 26)
    have rB := rB.below al
    clear al
    generalize (w_3_4.alloc (.cells #[.int .u8 (kx : Int), .int .u64 (qx : Int), .slice A n c, .slice B m d] 26)) = w_3_4_1 at *
    refine readyF (rs := [2]) (by kernel_rfl) (by simp) ?_
    refine AllF.cons rfl (fun K hK => ?_) AllF.nil
    go_simp
    refine (fewnotes_any w_3_4_1 _ _ 1 1 [x] 1 rA (by omega)).mono ?_
    rintro e w_3_4_1_2 ⟨A5, n5, c5, rfl, ho, hb⟩
    refine hK _ _ (fun _ => hX.trans (hb.mono hX.size)) ?_
    clear hK K
    rw [show fewNotes [x] 1 = [cutNote x] from rfl] at ho
    obtain rfl : 1 = n5 := ho.lenR
    have sA := ho.sl
    have hX := hX.trans (hb.mono hX.size)
    have rA := rA.below hb
    have rB := rB.below hb
    clear ho hb
    refine readyF (rs := [5]) (by kernel_rfl) (by simp) ?_
    refine AllF.cons rfl (fun K hK => ?_) AllF.nil
    go_simp
    refine (fewnotes_any w_3_4_1_2 _ _ 1 1 [y] 1 rB (by omega)).mono ?_
    rintro e w_3_4_1_2_5 ⟨A6, n6, c6, rfl, ho, hb⟩
    refine hK _ _ (fun _ => hX.trans (hb.mono hX.size)) ?_
    clear hK K
    rw [show fewNotes [y] 1 = [cutNote y] from rfl] at ho
    obtain rfl : 1 = n6 := ho.lenR
    have sB := ho.sl
    have hX := hX.trans (hb.mono hX.size)
    have sA := sA.below hb
    have rB := rB.below hb
    clear ho hb
    refine takeF (i := 6) (v := ?_) (fun wa => Below w_3.heap.size w_3 wa) rfl (by kernel_rfl) (by kernel_rfl) (by kernel_rfl) (fun j hj => .inr (.inr fun wa wb h g => g h)) (fun wa => id) (fun _ _ _ h => h) (Or.inl ⟨by kernel_rfl, ?hy⟩) hX ?_
    case hy =>
      intro wS hSw
      clear hSw
      go_simp
      try with_reducible rfl
    try simp only [List.getElem_toArray, List.getElem_cons_succ, List.getElem_cons_zero, Act.put, List.setIfInBounds_toArray, List.set_cons_zero, List.set_cons_succ]
    refine takeF (i := 7) (v := ?_) (fun wa => Below w_3.heap.size w_3 wa) rfl (by kernel_rfl) (by kernel_rfl) (by kernel_rfl) (fun j hj => .inr (.inr fun wa wb h g => g h)) (fun wa => id) (fun _ _ _ h => h) (Or.inl ⟨by kernel_rfl, ?hy⟩) hX ?_
    case hy =>
      intro wS hSw
      clear hSw
      go_simp
      try with_reducible rfl
    try simp only [List.getElem_toArray, List.getElem_cons_succ, List.getElem_cons_zero, Act.put, List.setIfInBounds_toArray, List.set_cons_zero, List.set_cons_succ]
    refine doneF (by kernel_rfl) ?_ _
    try simp only [List.getElem_toArray, List.getElem_cons_succ, List.getElem_cons_zero, Act.put, List.setIfInBounds_toArray, List.set_cons_zero, List.set_cons_succ]
    go_wp2_with fail
    go_meet
    exact ⟨A5, c5, A6, c6, rfl, rfl, hX9.trans (hX.mono hX9.size), sA, sB⟩
  case rest =>
    obtain ⟨A5, c5, A6, c6, rfl, rfl, hX, sA, sB⟩ := hcut
    have hq0 := hq0.trans (hX.mono hq0.size)
    clear hX kX kY hs ht hs' ht' Hkx Hqx Hky Hqy
    have hap := apart_plain (cutNote x) (cutNote y)
    generalize cutNote x = x at *
    generalize cutNote y = y at *
    obtain ⟨b, o, A7, n7, c7, A8, n8, c8, hjl, rfl, d0, d1, d2, d3, s7, s8⟩ := sA.noteAt (k := 0) (by omega)
    obtain ⟨b', o', A9, n9, c9, A10, n10, c10, hjl', rfl, e0, e1, e2, e3, s9, s10⟩ := sB.noteAt (k := 0) (by omega)
    have hx : [x][0] = x := rfl
    have hy : [y][0] = y := rfl
    simp only [hx, Nat.zero_mul, Nat.add_zero] at d0 d1 d2 d3 s7 s8
    simp only [hy, Nat.zero_mul, Nat.add_zero] at e0 e1 e2 e3 s9 s10
    have ca := fun w' (hb : Below wc.heap.size wc w') => nbytes_any w' _ A7 n7 c7 A8 n8 c8 x (s7.below (by omega) hb) (s8.below hb)
    have cb := fun w' (hb : Below wc.heap.size wc w') => nbytes_any w' _ A9 n9 c9 A10 n10 c10 y (s9.below (by omega) hb) (s10.below hb)
    have cs := fun w' (hb : Below wc.heap.size wc w') => rsamenotes_any w' _ _ 1 c5 [x] (sA.below hb) _ _ 1 c6 [y] (sB.below hb)
    generalize (noteBE x).1 = pa at *
    generalize (noteBE x).2 = ea at *
    generalize (noteBE y).1 = pb at *
    generalize (noteBE y).2 = eb at *
    generalize decide ([x] = [y]) = r at *
    generalize x.kind.toNat = kx at *
    generalize x.seq.toNat = qx at *
    generalize y.kind.toNat = ky at *
    generalize y.seq.toNat = qy at *
    unfold GotBE at ca cb
    have Ca := Lib.hid ca
    have Cb := Lib.hid cb
    have Cs := Lib.hid cs
    have Hap := Lib.hid hap
    clear ca cb cs hap s7 s8 s9 s10 sA sB hx hy
    go_wp2_with fail
    refine (Ca.out _ (Below.refl _ _)).mono ?_
    rintro e w_5 ⟨A11, n11, c11, rfl, ho11, hb5⟩
    have e0 := stays hb5 e0
    have e1 := stays hb5 e1
    have e2 := stays hb5 e2
    have e3 := stays hb5 e3
    go_wp2_with fail
    refine (Cb.out _ hb5).mono ?_
    rintro e w_6 ⟨A12, n12, c12, rfl, ho12, hb6⟩
    have s11 := OwnB.sl (Own.below ho11 hb6)
    have s12 := OwnB.sl ho12
    have q6 := hb5.trans (hb6.mono hb5.size)
    have hq0 := hq0.trans (q6.mono hq0.size)
    clear ho11 ho12 hb5 hb6 d0 d1 d2 d3 e0 e1 e2 e3
    by_cases h1 : ea = 0
    case neg =>
      have t1 : ((ea : Int) == 0) = false := by rw [beq_eq_false_iff_ne]; omega
      have t2 : ((ea : Int) != 0) = true := by rw [bne_iff_ne]; omega
      clear h1
      go_wp2
      go_ret
      exact ⟨rfl, hq0⟩
    subst h1
    by_cases h2 : eb = 0
    case neg =>
      have t1 : ((eb : Int) == 0) = false := by rw [beq_eq_false_iff_ne]; omega
      have t2 : ((eb : Int) != 0) = true := by rw [bne_iff_ne]; omega
      clear h2
      go_wp2
      go_ret
      exact ⟨rfl, hq0⟩
    subst h2
    have hap := Hap.out rfl rfl
    have Hsame := Lib.hid hap
    clear hap
    have hrr : (r == r) = true := by simp
    go_wp2_with fail
    refine (same_is w_6 _ _ _ _ _ _ _ _ r Hsame s11 s12).mono ?_
    rintro e w' ⟨rfl, rfl⟩
    go_wp2_with fail
    refine (Cs.out _ q6).mono ?_
    rintro e w_8 ⟨rfl, hb8⟩
    go_wp2
    go_ret
    exact ⟨rfl, hq0.trans (hb8.mono hq0.size)⟩
end Go.Proofs.Ytfonincdhjkacaa
