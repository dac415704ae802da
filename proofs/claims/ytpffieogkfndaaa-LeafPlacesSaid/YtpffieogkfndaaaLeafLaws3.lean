/-
  The walk of LeafPlaces: it returns true at every input. (Printed by genleaf16.py.) No condition.
-/
import Derived.Test.YtpffieogkfndaaaLeafLaws1
import Derived.Test.YtpffieogkfndaaaLeafFrom
namespace Go.Proofs.Ytpffieogkfndaaa
open Go.RowKit
set_option maxRecDepth 20000
set_option maxHeartbeats 32000000 in
theorem leafPlaces.walk (w : World) (A : Option Addr) (n c : Nat) (ls : List EntL) (h : SlR w (fun _ => True) A n c ls) :
    Calls Try.prog 4 #[.slice A n c] w fun e w' => e = .returned (.bool true) ∧ Below w.heap.size w w' := by
  have hq0 := Below.refl w.heap.size w
  go_enter Try.func4, Try.ntmps4
  go_wp2_with fail
  refine (awake12 w).mono ?_
  rintro e w_1 ⟨rfl, hb_1⟩
  have h := h.below hb_1
  have hq0 := hq0.trans (hb_1.mono hq0.size)
  clear hb_1
  go_wp2_with fail
  refine (fewents_any w_1 _ A n c ls 64 h (by omega)).mono ?_
  rintro e w_2 ⟨A2, n2, c2, rfl, ho2, hb_2⟩
  have h := h.below hb_2
  have hq0 := hq0.trans (hb_2.mono hq0.size)
  clear hb_2
  clear h
  have h2 := ho2.sl
  have hfb := (fewe_bounds ls 64).1
  generalize fewEnts ls 64 = fs at *
  clear ho2
  have hl2 := h2.lenR
  have hm : n2 ≤ 64 := by omega
  have hck := sortL_check fs hfb
  have Hck := Lib.hid hck
  clear hl2 hfb hck
  go_wp2_with fail
  refine (rsort_any w_2 _ A2 n2 c2 fs h2 (by omega)).mono ?_
  rintro e w_3 ⟨A3, n3, c3, rfl, ho3, hb_3⟩
  have hq0 := hq0.trans (hb_3.mono hq0.size)
  clear hb_3
  have h3 := ho3.sl
  clear ho3 h2
  generalize sortL fs = ss at *
  have hl3 := h3.lenR
  obtain ⟨hn64, hok, _⟩ := checkLeaf_zero Hck.out
  have hn3 : n3 ≤ 64 := by omega
  have hpl := leaf_len ss Hck.out
  have hrd := (readLeaf_iff (leafBytesL ss) ss).2 ⟨Hck.out, rfl⟩
  have hbe : leafBE ss = (leafBytesL ss, 0) := by unfold leafBE; rw [if_pos Hck.out]
  have Hok := Lib.hid hok
  have Hl3 := Lib.hid hl3
  clear hl3 hn64 hok
  have cb := rbuild12_any w_3 _ A3 n3 c3 ss h3
  rw [hbe] at cb
  have hsr := (rises_pair ss).1 (checkLeaf_zero Hck.out).2.2
  generalize leafBytesL ss = pb at *
  unfold GotBE at cb
  have Cb := Lib.hid cb
  have Hpl := Lib.hid hpl
  have Hrd := Lib.hid hrd
  have Hsr := Lib.hid hsr
  clear cb hbe hpl hrd hsr
  go_wp2_with fail
  refine (Cb.out).mono ?_
  rintro e w_4 ⟨A5, n5, c5, rfl, o5, hb_4⟩
  have hq0 := hq0.trans (hb_4.mono hq0.size)
  have h3 := h3.below hb_4
  clear hb_4
  have s5 := OwnB.sl (l := pb) o5
  have hn5 : n5 ≤ 65536 := by have := s5.lenb; have := Hpl.out; omega
  clear o5 Cb
  go_wp2
  go_loopw [25] (fun q wr => ∃ j : Nat, j ≤ n3 ∧ q = .int .i64 j ∧ Below w.heap.size w wr ∧ Below w_4.heap.size w_4 wr) (fun q _ => n3 - (intOf q).toNat)
  case atStart => exact ⟨0, Nat.zero_le _, rfl, hq0, Below.refl _ _⟩
  case round =>
    obtain ⟨j, hj, rfl, hq, hbr⟩ := hrel
    by_cases hlt : j < n3
    case neg =>
      obtain rfl : n3 = j := by omega
      go_wp2
      go_ret
      exact ⟨rfl, hq⟩
    obtain ⟨b, o, A6, n6, c6, A7, n7, c7, hjl, rfl, d0, d1, d2, d3, g6, g7⟩ := h3.entAt hlt
    have d0 := stays hbr d0
    have d1 := stays hbr d1
    have d2 := stays hbr d2
    have d3 := stays hbr d3
    have hpl : fromL ss ss[j].key = ss[j]? ∧ beforeL ss ss[j].key = if j = 0 then none else ss[j - 1]? := (rises_split Hsr.out ss[j].key j (by omega) (fun x h0 hx => by
      obtain ⟨hxl, rfl⟩ := List.getElem?_eq_some_iff.1 hx
      exact List.pairwise_iff_getElem.1 Hsr.out (j - 1) j hxl hjl (by omega)) (fun x hx => by
      rw [List.getElem?_eq_getElem hjl] at hx
      obtain rfl := Option.some.inj hx
      exact less_irr _)).2
    have cf := fun w' (hb : Below w_4.heap.size w_4 w') A2 n2 c2 (s2 : Sl w' 1 A2 n2 c2 (bc ss[j].key.user)) => from12_any w' A5 n5 c5 pb (s5.below (by omega) hb) hn5 A2 n2 c2 ss[j].key s2
    have cb := fun w' (hb : Below w_4.heap.size w_4 w') A2 n2 c2 (s2 : Sl w' 1 A2 n2 c2 (bc ss[j].key.user)) => before12_any w' A5 n5 c5 pb (s5.below (by omega) hb) hn5 A2 n2 c2 ss[j].key s2
    rw [Hrd.out] at cf cb
    simp only [Option.getD_some, Option.isSome_some, if_true] at cf cb
    rw [hpl.1, List.getElem?_eq_getElem hjl] at cf
    rw [hpl.2] at cb
    unfold GotAt at cf cb
    simp only [Option.getD_some, Option.isSome_some] at cf
    generalize hX0 : ss[j] = X at *
    have Cf := Lib.hid cf
    have al := (Below.refl wr.heap.size wr).alloc (Nat.le_refl _) (.cells #[.slice A6 n6 c6, .int .u64 (X.key.seq.toNat : Int), .int .u8 (X.key.kind.toNat : Int), .slice A7 n7 c7] 37)
    have kE := Bx4.fresh wr (.slice A6 n6 c6) (.int .u64 (X.key.seq.toNat : Int)) (.int .u8 (X.key.kind.toNat : Int)) (.slice A7 n7 c7) 37
    generalize hW : (wr.alloc (.cells #[.slice A6 n6 c6, .int .u64 (X.key.seq.toNat : Int), .int .u8 (X.key.kind.toNat : Int), .slice A7 n7 c7] 37)) = w5 at *
    have hq := hq.trans (al.mono hq.size)
    have hbr := hbr.trans (al.mono hbr.size)
    have g6 := g6.below (by omega) hbr
    have g7 := g7.below (by omega) hbr
    obtain ⟨x0, x1, x2, x3, x4⟩ := id kE
    have Hjn : Hid (j < n3) := hlt
    have Hjl := Lib.hid hjl
    clear cf al hpl hj
    go_wp2_with fail
    clear x0 x1 x2 x3 x4 d0 d1 d2 d3
    try rw [hW]
    clear hW
    obtain ⟨gE, hgE⟩ : ∃ gE, gE = wr.heap.size := ⟨_, rfl⟩
    rw [← hgE] at kE
    try rw [← hgE]
    clear hgE
    refine (Cf.out w5 hbr A6 n6 c6 g6).mono ?_
    rintro e w6 ⟨A8, n8, c8, A9, n9, c9, rfl, s8, s9, hb6⟩
    have kE := kE.below hb6
    have hq := hq.trans (hb6.mono hq.size)
    have hbr := hbr.trans (hb6.mono hbr.size)
    have g6 := g6.below (by omega) hb6
    have g7 := g7.below (by omega) hb6
    have kA := Bx4.fresh w6 (.slice A8 n8 c8) (.int .u64 (X.key.seq.toNat : Int)) (.int .u8 (X.key.kind.toNat : Int)) (.slice A9 n9 c9) 37
    have al := (Below.refl w6.heap.size w6).alloc (Nat.le_refl _) (.cells #[.slice A8 n8 c8, .int .u64 (X.key.seq.toNat : Int), .int .u8 (X.key.kind.toNat : Int), .slice A9 n9 c9] 37)
    generalize hW : (w6.alloc (.cells #[.slice A8 n8 c8, .int .u64 (X.key.seq.toNat : Int), .int .u8 (X.key.kind.toNat : Int), .slice A9 n9 c9] 37)) = w7 at *
    have kE := kE.below al
    have hq := hq.trans (al.mono hq.size)
    have hbr := hbr.trans (al.mono hbr.size)
    have g6 := g6.below (by omega) al
    have g7 := g7.below (by omega) al
    have s8 := s8.below (by omega) al
    have s9 := s9.below (by omega) al
    obtain ⟨x0, x1, x2, x3, x4⟩ := id kE
    clear al hb6 Cf
    have Cbb := Lib.hid cb
    clear cb
    go_wp2_with fail
    clear x0 x1 x2 x3 x4
    try rw [hW]
    clear hW
    obtain ⟨gA, hgA⟩ : ∃ gA, gA = w6.heap.size := ⟨_, rfl⟩
    rw [← hgA] at kA
    try rw [← hgA]
    clear hgA
    refine (Cbb.out w7 hbr A6 n6 c6 g6).mono ?_
    clear Cbb
    by_cases hj0 : j = 0
    case pos =>
      subst hj0
      rw [if_pos rfl]
      rintro e w8 ⟨A10, n10, c10, A11, n11, c11, rfl, s10, s11, hb8⟩
      simp only [Option.getD_none, Option.isSome_none]
      try simp only [show ((⟨⟨[], 0, 0⟩, []⟩ : EntL).key.seq.toNat) = 0 from rfl, show ((⟨⟨[], 0, 0⟩, []⟩ : EntL).key.kind.toNat) = 0 from rfl]
      have kE := kE.below hb8
      have kA := kA.below hb8
      have hq := hq.trans (hb8.mono hq.size)
      have hbr := hbr.trans (hb8.mono hbr.size)
      have g6 := g6.below (by omega) hb8
      have g7 := g7.below (by omega) hb8
      have s8 := s8.below (by omega) hb8
      have s9 := s9.below (by omega) hb8
      have kB := Bx4.fresh w8 (.slice A10 n10 c10) (.int .u64 0) (.int .u8 0) (.slice A11 n11 c11) 37
      have al := (Below.refl w8.heap.size w8).alloc (Nat.le_refl _) (.cells #[.slice A10 n10 c10, .int .u64 0, .int .u8 0, .slice A11 n11 c11] 37)
      generalize hW : (w8.alloc (.cells #[.slice A10 n10 c10, .int .u64 0, .int .u8 0, .slice A11 n11 c11] 37)) = w9 at *
      have kE := kE.below al
      have kA := kA.below al
      have hq := hq.trans (al.mono hq.size)
      have hbr := hbr.trans (al.mono hbr.size)
      have g6 := g6.below (by omega) al
      have g7 := g7.below (by omega) al
      have s8 := s8.below (by omega) al
      have s9 := s9.below (by omega) al
      clear al hb8
      go_wp2_with fail
      try rw [hW]
      clear hW
      obtain ⟨gB, hgB⟩ : ∃ gB, gB = w8.heap.size := ⟨_, rfl⟩
      rw [← hgB] at kB
      try rw [← hgB]
      clear hgB
      have kE := kE.drew
      have kA := kA.drew
      have kB := kB.drew
      have hq := below_drew hq
      have hbr := below_drew hbr
      have Ca := fun w' (hb : Below (World.drew w9).heap.size (World.drew w9) w') => sent_any w' A8 n8 c8 A9 n9 c9 X (s8.drew.below (by omega) hb) (s9.drew.below (by omega) hb) A6 n6 c6 A7 n7 c7 X (g6.drew.below (by omega) hb) (g7.drew.below (by omega) hb)
      rw [show decide (X = X) = true by simp] at Ca
      have Ca := Lib.hid Ca
      generalize hW : World.drew w9 = w0 at *
      refine regionF (fun _ wa wb => Below w0.heap.size w0 wa → Below w0.heap.size w0 wb) (by kernel_rfl) ?_
      rw [hW]
      clear hW
      have hX := Below.refl w0.heap.size w0
      refine takeF (i := 0) (v := ?_) (fun _ => True) rfl (by kernel_rfl) (by kernel_rfl) (by kernel_rfl) (fun j hj => .inr (.inr fun _ _ _ _ => trivial)) (fun wa => id) (fun _ _ _ h => h) (Or.inl ⟨by kernel_rfl, ?hy⟩) trivial ?_
      case hy =>
        intro wS hSw
        clear hSw
        go_simp
        try with_reducible rfl
      try simp only [List.getElem_toArray, List.getElem_cons_succ, List.getElem_cons_zero, Act.put, List.setIfInBounds_toArray, List.set_cons_zero, List.set_cons_succ]
      refine takeF (i := 1) (v := ?_) (fun _ => True) rfl (by kernel_rfl) (by kernel_rfl) (by kernel_rfl) (fun j hj => .inr (.inr fun _ _ _ _ => trivial)) (fun wa => id) (fun _ _ _ h => h) (Or.inl ⟨by kernel_rfl, ?hy⟩) trivial ?_
      case hy =>
        intro wS hSw
        clear hSw
        go_simp
        try with_reducible rfl
      try simp only [List.getElem_toArray, List.getElem_cons_succ, List.getElem_cons_zero, Act.put, List.setIfInBounds_toArray, List.set_cons_zero, List.set_cons_succ]
      refine takeF (i := 2) (v := ?_) (fun _ => True) rfl (by kernel_rfl) (by kernel_rfl) (by kernel_rfl) (fun j hj => .inr (.inr fun _ _ _ _ => trivial)) (fun wa => id) (fun _ _ _ h => h) (Or.inl ⟨by kernel_rfl, ?hy⟩) trivial ?_
      case hy =>
        intro wS hSw
        clear hSw
        go_simp
        try with_reducible rfl
      try simp only [List.getElem_toArray, List.getElem_cons_succ, List.getElem_cons_zero, Act.put, List.setIfInBounds_toArray, List.set_cons_zero, List.set_cons_succ]
      refine takeF (i := 3) (v := ?_) (fun _ => True) rfl (by kernel_rfl) (by kernel_rfl) (by kernel_rfl) (fun j hj => .inr (.inr fun _ _ _ _ => trivial)) (fun wa => id) (fun _ _ _ h => h) (Or.inl ⟨by kernel_rfl, ?hy⟩) trivial ?_
      case hy =>
        intro wS hSw
        clear hSw
        go_simp
        try with_reducible rfl
      try simp only [List.getElem_toArray, List.getElem_cons_succ, List.getElem_cons_zero, Act.put, List.setIfInBounds_toArray, List.set_cons_zero, List.set_cons_succ]
      refine takeF (i := 4) (v := ?_) (fun _ => True) rfl (by kernel_rfl) (by kernel_rfl) (by kernel_rfl) (fun j hj => .inr (.inr fun _ _ _ _ => trivial)) (fun wa => id) (fun _ _ _ h => h) (Or.inl ⟨by kernel_rfl, ?hy⟩) trivial ?_
      case hy =>
        intro wS hSw
        clear hSw
        go_simp
        try with_reducible rfl
      try simp only [List.getElem_toArray, List.getElem_cons_succ, List.getElem_cons_zero, Act.put, List.setIfInBounds_toArray, List.set_cons_zero, List.set_cons_succ]
      refine takeF (i := 5) (v := ?_) (fun _ => True) rfl (by kernel_rfl) (by kernel_rfl) (by kernel_rfl) (fun j hj => .inr (.inr fun _ _ _ _ => trivial)) (fun wa => id) (fun _ _ _ h => h) (Or.inl ⟨by kernel_rfl, ?hy⟩) trivial ?_
      case hy =>
        intro wS hSw
        clear hSw
        go_simp
        try with_reducible rfl
      try simp only [List.getElem_toArray, List.getElem_cons_succ, List.getElem_cons_zero, Act.put, List.setIfInBounds_toArray, List.set_cons_zero, List.set_cons_succ]
      refine takeF (i := 6) (v := ?_) (fun _ => True) rfl (by kernel_rfl) (by kernel_rfl) (by kernel_rfl) (fun j hj => .inr (.inr fun _ _ _ _ => trivial)) (fun wa => id) (fun _ _ _ h => h) (Or.inl ⟨by kernel_rfl, ?hy⟩) trivial ?_
      case hy =>
        intro wS hSw
        clear hSw
        go_simp
        try with_reducible rfl
      try simp only [List.getElem_toArray, List.getElem_cons_succ, List.getElem_cons_zero, Act.put, List.setIfInBounds_toArray, List.set_cons_zero, List.set_cons_succ]
      refine takeF (i := 7) (v := ?_) (fun _ => True) rfl (by kernel_rfl) (by kernel_rfl) (by kernel_rfl) (fun j hj => .inr (.inr fun _ _ _ _ => trivial)) (fun wa => id) (fun _ _ _ h => h) (Or.inl ⟨by kernel_rfl, ?hy⟩) trivial ?_
      case hy =>
        intro wS hSw
        clear hSw
        go_simp
        try with_reducible rfl
      try simp only [List.getElem_toArray, List.getElem_cons_succ, List.getElem_cons_zero, Act.put, List.setIfInBounds_toArray, List.set_cons_zero, List.set_cons_succ]
      refine takeF (i := 8) (v := ?_) (fun _ => True) rfl (by kernel_rfl) (by kernel_rfl) (by kernel_rfl) (fun j hj => .inr (.inr fun _ _ _ _ => trivial)) (fun wa => id) (fun _ _ _ h => h) (Or.inl ⟨by kernel_rfl, ?hy⟩) trivial ?_
      case hy =>
        intro wS hSw
        clear hSw
        go_simp
        try with_reducible rfl
      try simp only [List.getElem_toArray, List.getElem_cons_succ, List.getElem_cons_zero, Act.put, List.setIfInBounds_toArray, List.set_cons_zero, List.set_cons_succ]
      refine takeF (i := 9) (v := ?_) (fun _ => True) rfl (by kernel_rfl) (by kernel_rfl) (by kernel_rfl) (fun j hj => .inr (.inr fun _ _ _ _ => trivial)) (fun wa => id) (fun _ _ _ h => h) (Or.inl ⟨by kernel_rfl, ?hy⟩) trivial ?_
      case hy =>
        intro wS hSw
        clear hSw
        go_simp
        try with_reducible rfl
      try simp only [List.getElem_toArray, List.getElem_cons_succ, List.getElem_cons_zero, Act.put, List.setIfInBounds_toArray, List.set_cons_zero, List.set_cons_succ]
      refine takeF (i := 10) (v := ?_) (fun _ => True) rfl (by kernel_rfl) (by kernel_rfl) (by kernel_rfl) (fun j hj => .inr (.inr fun _ _ _ _ => trivial)) (fun wa => id) (fun _ _ _ h => h) (Or.inl ⟨by kernel_rfl, ?hy⟩) trivial ?_
      case hy =>
        intro wS hSw
        clear hSw
        go_simp
        try with_reducible rfl
      try simp only [List.getElem_toArray, List.getElem_cons_succ, List.getElem_cons_zero, Act.put, List.setIfInBounds_toArray, List.set_cons_zero, List.set_cons_succ]
      refine takeF (i := 11) (v := ?_) (fun wa => Below w0.heap.size w0 wa) rfl (by kernel_rfl) (by kernel_rfl) (by kernel_rfl) (fun j hj => .inr (.inr fun wa wb h g => g h)) (fun wa => id) (fun _ _ _ h => h) (Or.inl ⟨by kernel_rfl, ?hy⟩) hX ?_
      case hy =>
        intro wS hSw
        obtain ⟨x0, x1, x2, x3, x4⟩ := kA.below hSw
        clear hSw
        go_simp
        try with_reducible rfl
      try simp only [List.getElem_toArray, List.getElem_cons_succ, List.getElem_cons_zero, Act.put, List.setIfInBounds_toArray, List.set_cons_zero, List.set_cons_succ]
      refine takeF (i := 12) (v := ?_) (fun wa => Below w0.heap.size w0 wa) rfl (by kernel_rfl) (by kernel_rfl) (by kernel_rfl) (fun j hj => .inr (.inr fun wa wb h g => g h)) (fun wa => id) (fun _ _ _ h => h) (Or.inl ⟨by kernel_rfl, ?hy⟩) hX ?_
      case hy =>
        intro wS hSw
        obtain ⟨x0, x1, x2, x3, x4⟩ := kE.below hSw
        clear hSw
        go_simp
        try with_reducible rfl
      try simp only [List.getElem_toArray, List.getElem_cons_succ, List.getElem_cons_zero, Act.put, List.setIfInBounds_toArray, List.set_cons_zero, List.set_cons_succ]
      refine readyF (rs := [13]) (by kernel_rfl) (by simp) ?_
      refine AllF.cons rfl (fun K hK => ?_) AllF.nil
      go_simp
      refine (Ca.out _ hX).mono ?_
      rintro e w0_13 ⟨rfl, hb⟩
      refine hK _ _ (fun h => h.trans (hb.mono h.size)) ?_
      clear hK K
      have hX := hX.trans (hb.mono hX.size)
      clear hb
      refine takeF (i := 14) (v := ?_) (fun _ => True) rfl (by kernel_rfl) (by kernel_rfl) (by kernel_rfl) (fun j hj => .inr (.inr fun _ _ _ _ => trivial)) (fun wa => id) (fun _ _ _ h => h) (Or.inl ⟨by kernel_rfl, ?hy⟩) trivial ?_
      case hy =>
        intro wS hSw
        clear hSw
        go_simp
        try with_reducible rfl
      try simp only [List.getElem_toArray, List.getElem_cons_succ, List.getElem_cons_zero, Act.put, List.setIfInBounds_toArray, List.set_cons_zero, List.set_cons_succ]
      refine takeF (i := 15) (v := ?_) (fun _ => True) rfl (by kernel_rfl) (by kernel_rfl) (by kernel_rfl) (fun j hj => .inr (.inr fun _ _ _ _ => trivial)) (fun wa => id) (fun _ _ _ h => h) (Or.inl ⟨by kernel_rfl, ?hy⟩) trivial ?_
      case hy =>
        intro wS hSw
        clear hSw
        go_simp
        try with_reducible rfl
      try simp only [List.getElem_toArray, List.getElem_cons_succ, List.getElem_cons_zero, Act.put, List.setIfInBounds_toArray, List.set_cons_zero, List.set_cons_succ]
      refine takeF (i := 16) (v := ?_) (fun _ => True) rfl (by kernel_rfl) (by kernel_rfl) (by kernel_rfl) (fun j hj => .inr (.inr fun _ _ _ _ => trivial)) (fun wa => id) (fun _ _ _ h => h) (Or.inl ⟨by kernel_rfl, ?hy⟩) trivial ?_
      case hy =>
        intro wS hSw
        clear hSw
        go_simp
        try with_reducible rfl
      try simp only [List.getElem_toArray, List.getElem_cons_succ, List.getElem_cons_zero, Act.put, List.setIfInBounds_toArray, List.set_cons_zero, List.set_cons_succ]
      refine takeF (i := 17) (v := ?_) (fun _ => True) rfl (by kernel_rfl) (by kernel_rfl) (by kernel_rfl) (fun j hj => .inr (.inr fun _ _ _ _ => trivial)) (fun wa => id) (fun _ _ _ h => h) (Or.inl ⟨by kernel_rfl, ?hy⟩) trivial ?_
      case hy =>
        intro wS hSw
        clear hSw
        go_simp
        try with_reducible rfl
      try simp only [List.getElem_toArray, List.getElem_cons_succ, List.getElem_cons_zero, Act.put, List.setIfInBounds_toArray, List.set_cons_zero, List.set_cons_succ]
      refine takeF (i := 18) (v := ?_) (fun _ => True) rfl (by kernel_rfl) (by kernel_rfl) (by kernel_rfl) (fun j hj => .inr (.inr fun _ _ _ _ => trivial)) (fun wa => id) (fun _ _ _ h => h) (Or.inl ⟨by kernel_rfl, ?hy⟩) trivial ?_
      case hy =>
        intro wS hSw
        clear hSw
        go_simp
        try with_reducible rfl
      try simp only [List.getElem_toArray, List.getElem_cons_succ, List.getElem_cons_zero, Act.put, List.setIfInBounds_toArray, List.set_cons_zero, List.set_cons_succ]
      refine takeF (i := 19) (v := ?_) (fun _ => True) rfl (by kernel_rfl) (by kernel_rfl) (by kernel_rfl) (fun j hj => .inr (.inr fun _ _ _ _ => trivial)) (fun wa => id) (fun _ _ _ h => h) (Or.inl ⟨by kernel_rfl, ?hy⟩) trivial ?_
      case hy =>
        intro wS hSw
        clear hSw
        go_simp
        try with_reducible rfl
      try simp only [List.getElem_toArray, List.getElem_cons_succ, List.getElem_cons_zero, Act.put, List.setIfInBounds_toArray, List.set_cons_zero, List.set_cons_succ]
      refine takeF (i := 20) (v := ?_) (fun _ => True) rfl (by kernel_rfl) (by kernel_rfl) (by kernel_rfl) (fun j hj => .inr (.inr fun _ _ _ _ => trivial)) (fun wa => id) (fun _ _ _ h => h) (Or.inl ⟨by kernel_rfl, ?hy⟩) trivial ?_
      case hy =>
        intro wS hSw
        clear hSw
        go_simp
        try with_reducible rfl
      try simp only [List.getElem_toArray, List.getElem_cons_succ, List.getElem_cons_zero, Act.put, List.setIfInBounds_toArray, List.set_cons_zero, List.set_cons_succ]
      refine takeF (i := 21) (v := ?_) (fun _ => True) rfl (by kernel_rfl) (by kernel_rfl) (by kernel_rfl) (fun j hj => .inr (.inr fun _ _ _ _ => trivial)) (fun wa => id) (fun _ _ _ h => h) (Or.inl ⟨by kernel_rfl, ?hy⟩) trivial ?_
      case hy =>
        intro wS hSw
        clear hSw
        go_simp
        try with_reducible rfl
      try simp only [List.getElem_toArray, List.getElem_cons_succ, List.getElem_cons_zero, Act.put, List.setIfInBounds_toArray, List.set_cons_zero, List.set_cons_succ]
      refine takeF (i := 22) (v := ?_) (fun _ => True) rfl (by kernel_rfl) (by kernel_rfl) (by kernel_rfl) (fun j hj => .inr (.inr fun _ _ _ _ => trivial)) (fun wa => id) (fun _ _ _ h => h) (Or.inl ⟨by kernel_rfl, ?hy⟩) trivial ?_
      case hy =>
        intro wS hSw
        clear hSw
        go_simp
        try with_reducible rfl
      try simp only [List.getElem_toArray, List.getElem_cons_succ, List.getElem_cons_zero, Act.put, List.setIfInBounds_toArray, List.set_cons_zero, List.set_cons_succ]
      refine takeF (i := 23) (v := ?_) (fun _ => True) rfl (by kernel_rfl) (by kernel_rfl) (by kernel_rfl) (fun j hj => .inr (.inr fun _ _ _ _ => trivial)) (fun wa => id) (fun _ _ _ h => h) (Or.inl ⟨by kernel_rfl, ?hy⟩) trivial ?_
      case hy =>
        intro wS hSw
        clear hSw
        go_simp
        try with_reducible rfl
      try simp only [List.getElem_toArray, List.getElem_cons_succ, List.getElem_cons_zero, Act.put, List.setIfInBounds_toArray, List.set_cons_zero, List.set_cons_succ]
      refine takeF (i := 24) (v := ?_) (fun _ => True) rfl (by kernel_rfl) (by kernel_rfl) (by kernel_rfl) (fun j hj => .inr (.inr fun _ _ _ _ => trivial)) (fun wa => id) (fun _ _ _ h => h) (Or.inl ⟨by kernel_rfl, ?hy⟩) trivial ?_
      case hy =>
        intro wS hSw
        clear hSw
        go_simp
        try with_reducible rfl
      try simp only [List.getElem_toArray, List.getElem_cons_succ, List.getElem_cons_zero, Act.put, List.setIfInBounds_toArray, List.set_cons_zero, List.set_cons_succ]
      refine takeF (i := 25) (v := undef) (fun wa => Below w0.heap.size w0 wa) rfl (by kernel_rfl) (by kernel_rfl) (by kernel_rfl) (fun j hj => .inr (.inr fun wa wb h g => g h)) (fun wa => id) (fun _ _ _ h => h) (Or.inr ⟨by kernel_rfl, rfl⟩) hX ?_
      try simp only [List.getElem_toArray, List.getElem_cons_succ, List.getElem_cons_zero, Act.put, List.setIfInBounds_toArray, List.set_cons_zero, List.set_cons_succ]
      refine takeF (i := 26) (v := undef) (fun wa => Below w0.heap.size w0 wa) rfl (by kernel_rfl) (by kernel_rfl) (by kernel_rfl) (fun j hj => .inr (.inr fun wa wb h g => g h)) (fun wa => id) (fun _ _ _ h => h) (Or.inr ⟨by kernel_rfl, rfl⟩) hX ?_
      try simp only [List.getElem_toArray, List.getElem_cons_succ, List.getElem_cons_zero, Act.put, List.setIfInBounds_toArray, List.set_cons_zero, List.set_cons_succ]
      refine takeF (i := 27) (v := undef) (fun wa => Below w0.heap.size w0 wa) rfl (by kernel_rfl) (by kernel_rfl) (by kernel_rfl) (fun j hj => .inr (.inr fun wa wb h g => g h)) (fun wa => id) (fun _ _ _ h => h) (Or.inr ⟨by kernel_rfl, rfl⟩) hX ?_
      try simp only [List.getElem_toArray, List.getElem_cons_succ, List.getElem_cons_zero, Act.put, List.setIfInBounds_toArray, List.set_cons_zero, List.set_cons_succ]
      refine takeF (i := 28) (v := undef) (fun wa => Below w0.heap.size w0 wa) rfl (by kernel_rfl) (by kernel_rfl) (by kernel_rfl) (fun j hj => .inr (.inr fun wa wb h g => g h)) (fun wa => id) (fun _ _ _ h => h) (Or.inr ⟨by kernel_rfl, rfl⟩) hX ?_
      try simp only [List.getElem_toArray, List.getElem_cons_succ, List.getElem_cons_zero, Act.put, List.setIfInBounds_toArray, List.set_cons_zero, List.set_cons_succ]
      refine takeF (i := 29) (v := undef) (fun wa => Below w0.heap.size w0 wa) rfl (by kernel_rfl) (by kernel_rfl) (by kernel_rfl) (fun j hj => .inr (.inr fun wa wb h g => g h)) (fun wa => id) (fun _ _ _ h => h) (Or.inr ⟨by kernel_rfl, rfl⟩) hX ?_
      try simp only [List.getElem_toArray, List.getElem_cons_succ, List.getElem_cons_zero, Act.put, List.setIfInBounds_toArray, List.set_cons_zero, List.set_cons_succ]
      refine takeF (i := 30) (v := undef) (fun wa => Below w0.heap.size w0 wa) rfl (by kernel_rfl) (by kernel_rfl) (by kernel_rfl) (fun j hj => .inr (.inr fun wa wb h g => g h)) (fun wa => id) (fun _ _ _ h => h) (Or.inr ⟨by kernel_rfl, rfl⟩) hX ?_
      try simp only [List.getElem_toArray, List.getElem_cons_succ, List.getElem_cons_zero, Act.put, List.setIfInBounds_toArray, List.set_cons_zero, List.set_cons_succ]
      refine takeF (i := 31) (v := undef) (fun wa => Below w0.heap.size w0 wa) rfl (by kernel_rfl) (by kernel_rfl) (by kernel_rfl) (fun j hj => .inr (.inr fun wa wb h g => g h)) (fun wa => id) (fun _ _ _ h => h) (Or.inr ⟨by kernel_rfl, rfl⟩) hX ?_
      try simp only [List.getElem_toArray, List.getElem_cons_succ, List.getElem_cons_zero, Act.put, List.setIfInBounds_toArray, List.set_cons_zero, List.set_cons_succ]
      refine takeF (i := 32) (v := undef) (fun wa => Below w0.heap.size w0 wa) rfl (by kernel_rfl) (by kernel_rfl) (by kernel_rfl) (fun j hj => .inr (.inr fun wa wb h g => g h)) (fun wa => id) (fun _ _ _ h => h) (Or.inr ⟨by kernel_rfl, rfl⟩) hX ?_
      try simp only [List.getElem_toArray, List.getElem_cons_succ, List.getElem_cons_zero, Act.put, List.setIfInBounds_toArray, List.set_cons_zero, List.set_cons_succ]
      refine takeF (i := 33) (v := ?_) (fun _ => True) rfl (by kernel_rfl) (by kernel_rfl) (by kernel_rfl) (fun j hj => .inr (.inr fun _ _ _ _ => trivial)) (fun wa => id) (fun _ _ _ h => h) (Or.inl ⟨by kernel_rfl, ?hy⟩) trivial ?_
      case hy =>
        intro wS hSw
        clear hSw
        go_simp
        try with_reducible rfl
      try simp only [List.getElem_toArray, List.getElem_cons_succ, List.getElem_cons_zero, Act.put, List.setIfInBounds_toArray, List.set_cons_zero, List.set_cons_succ]
      refine takeF (i := 34) (v := ?_) (fun _ => True) rfl (by kernel_rfl) (by kernel_rfl) (by kernel_rfl) (fun j hj => .inr (.inr fun _ _ _ _ => trivial)) (fun wa => id) (fun _ _ _ h => h) (Or.inl ⟨by kernel_rfl, ?hy⟩) trivial ?_
      case hy =>
        intro wS hSw
        clear hSw
        go_simp
        try with_reducible rfl
      try simp only [List.getElem_toArray, List.getElem_cons_succ, List.getElem_cons_zero, Act.put, List.setIfInBounds_toArray, List.set_cons_zero, List.set_cons_succ]
      refine doneF (by kernel_rfl) ?_ _
      try simp only [List.getElem_toArray, List.getElem_cons_succ, List.getElem_cons_zero, Act.put, List.setIfInBounds_toArray, List.set_cons_zero, List.set_cons_succ]
      go_wp2
      go_roundw
      case rel => exact ⟨0 + 1, by have := Hjn.out; omega, by go_num, hq.trans (hX.mono hq.size), hbr.trans (hX.mono hbr.size)⟩
      case measure => have := Hjn.out; simp [intOf]; omega
    case neg =>
      rw [if_neg hj0]
      have hq1 : j - 1 < n3 := by omega
      obtain ⟨b', o', A12, n12, c12, A13, n13, c13, hql, hbo, f0, f1, f2, f3, g12, g13⟩ := h3.entAt hq1
      obtain ⟨rfl, rfl⟩ : b = b' ∧ o = o' := by simpa using hbo
      obtain ⟨jm, hjm⟩ : ∃ jm, j - 1 = jm := ⟨_, rfl⟩
      rw [List.getElem?_eq_getElem hql]
      simp only [hjm] at *
      have hwj : IntKind.i64.wrap ((j : Int) - 1) = (jm : Int) := by rw [IntKind.wrap_i64]; omega
      generalize hY0 : ss[jm] = Y at *
      rintro e w8 ⟨A10, n10, c10, A11, n11, c11, rfl, s10, s11, hb8⟩
      simp only [Option.getD_some, Option.isSome_some] at *
      have hj1 : decide ((0 : Int) < (j : Int)) = true := decide_eq_true (by omega)
      have hjp : 0 < j := by omega
      clear hbo
      have kE := kE.below hb8
      have kA := kA.below hb8
      have hq := hq.trans (hb8.mono hq.size)
      have hbr := hbr.trans (hb8.mono hbr.size)
      have g6 := g6.below (by omega) hb8
      have g7 := g7.below (by omega) hb8
      have s8 := s8.below (by omega) hb8
      have s9 := s9.below (by omega) hb8
      have kB := Bx4.fresh w8 (.slice A10 n10 c10) (.int .u64 (Y.key.seq.toNat : Int)) (.int .u8 (Y.key.kind.toNat : Int)) (.slice A11 n11 c11) 37
      have al := (Below.refl w8.heap.size w8).alloc (Nat.le_refl _) (.cells #[.slice A10 n10 c10, .int .u64 (Y.key.seq.toNat : Int), .int .u8 (Y.key.kind.toNat : Int), .slice A11 n11 c11] 37)
      generalize hW : (w8.alloc (.cells #[.slice A10 n10 c10, .int .u64 (Y.key.seq.toNat : Int), .int .u8 (Y.key.kind.toNat : Int), .slice A11 n11 c11] 37)) = w9 at *
      have kE := kE.below al
      have kA := kA.below al
      have hq := hq.trans (al.mono hq.size)
      have hbr := hbr.trans (al.mono hbr.size)
      have g6 := g6.below (by omega) al
      have g7 := g7.below (by omega) al
      have s8 := s8.below (by omega) al
      have s9 := s9.below (by omega) al
      have s10 := s10.below (by omega) al
      have s11 := s11.below (by omega) al
      clear al hb8
      go_wp2_with fail
      try rw [hW]
      clear hW
      obtain ⟨gB, hgB⟩ : ∃ gB, gB = w8.heap.size := ⟨_, rfl⟩
      rw [← hgB] at kB
      try rw [← hgB]
      clear hgB
      have kE := kE.drew
      have kA := kA.drew
      have kB := kB.drew
      have hq := below_drew hq
      have hbr := below_drew hbr
      have f0 := stays hbr f0
      have f1 := stays hbr f1
      have f2 := stays hbr f2
      have f3 := stays hbr f3
      have Cb2 := fun w' (hb : Below (World.drew w9).heap.size (World.drew w9) w') => sent_any w' A10 n10 c10 A11 n11 c11 Y (s10.drew.below (by omega) hb) (s11.drew.below (by omega) hb) A12 n12 c12 A13 n13 c13 Y (g12.below (by omega) (hbr.trans (hb.mono hbr.size))) (g13.below (by omega) (hbr.trans (hb.mono hbr.size)))
      rw [show decide (Y = Y) = true by simp] at Cb2
      have Cb2 := Lib.hid Cb2
      have Ca := fun w' (hb : Below (World.drew w9).heap.size (World.drew w9) w') => sent_any w' A8 n8 c8 A9 n9 c9 X (s8.drew.below (by omega) hb) (s9.drew.below (by omega) hb) A6 n6 c6 A7 n7 c7 X (g6.drew.below (by omega) hb) (g7.drew.below (by omega) hb)
      rw [show decide (X = X) = true by simp] at Ca
      have Ca := Lib.hid Ca
      generalize hW : World.drew w9 = w0 at *
      refine regionF (fun _ wa wb => Below w0.heap.size w0 wa → Below w0.heap.size w0 wb) (by kernel_rfl) ?_
      rw [hW]
      clear hW
      have hX := Below.refl w0.heap.size w0
      refine takeF (i := 0) (v := ?_) (fun _ => True) rfl (by kernel_rfl) (by kernel_rfl) (by kernel_rfl) (fun j hj => .inr (.inr fun _ _ _ _ => trivial)) (fun wa => id) (fun _ _ _ h => h) (Or.inl ⟨by kernel_rfl, ?hy⟩) trivial ?_
      case hy =>
        intro wS hSw
        clear hSw
        go_simp
        try with_reducible rfl
      try simp only [List.getElem_toArray, List.getElem_cons_succ, List.getElem_cons_zero, Act.put, List.setIfInBounds_toArray, List.set_cons_zero, List.set_cons_succ]
      refine takeF (i := 1) (v := ?_) (fun _ => True) rfl (by kernel_rfl) (by kernel_rfl) (by kernel_rfl) (fun j hj => .inr (.inr fun _ _ _ _ => trivial)) (fun wa => id) (fun _ _ _ h => h) (Or.inl ⟨by kernel_rfl, ?hy⟩) trivial ?_
      case hy =>
        intro wS hSw
        clear hSw
        go_simp
        try with_reducible rfl
      try simp only [List.getElem_toArray, List.getElem_cons_succ, List.getElem_cons_zero, Act.put, List.setIfInBounds_toArray, List.set_cons_zero, List.set_cons_succ]
      refine takeF (i := 2) (v := ?_) (fun _ => True) rfl (by kernel_rfl) (by kernel_rfl) (by kernel_rfl) (fun j hj => .inr (.inr fun _ _ _ _ => trivial)) (fun wa => id) (fun _ _ _ h => h) (Or.inl ⟨by kernel_rfl, ?hy⟩) trivial ?_
      case hy =>
        intro wS hSw
        clear hSw
        go_simp
        try with_reducible rfl
      try simp only [List.getElem_toArray, List.getElem_cons_succ, List.getElem_cons_zero, Act.put, List.setIfInBounds_toArray, List.set_cons_zero, List.set_cons_succ]
      refine takeF (i := 3) (v := ?_) (fun _ => True) rfl (by kernel_rfl) (by kernel_rfl) (by kernel_rfl) (fun j hj => .inr (.inr fun _ _ _ _ => trivial)) (fun wa => id) (fun _ _ _ h => h) (Or.inl ⟨by kernel_rfl, ?hy⟩) trivial ?_
      case hy =>
        intro wS hSw
        clear hSw
        go_simp
        try with_reducible rfl
      try simp only [List.getElem_toArray, List.getElem_cons_succ, List.getElem_cons_zero, Act.put, List.setIfInBounds_toArray, List.set_cons_zero, List.set_cons_succ]
      refine takeF (i := 4) (v := ?_) (fun _ => True) rfl (by kernel_rfl) (by kernel_rfl) (by kernel_rfl) (fun j hj => .inr (.inr fun _ _ _ _ => trivial)) (fun wa => id) (fun _ _ _ h => h) (Or.inl ⟨by kernel_rfl, ?hy⟩) trivial ?_
      case hy =>
        intro wS hSw
        clear hSw
        go_simp
        try with_reducible rfl
      try simp only [List.getElem_toArray, List.getElem_cons_succ, List.getElem_cons_zero, Act.put, List.setIfInBounds_toArray, List.set_cons_zero, List.set_cons_succ]
      refine takeF (i := 5) (v := ?_) (fun _ => True) rfl (by kernel_rfl) (by kernel_rfl) (by kernel_rfl) (fun j hj => .inr (.inr fun _ _ _ _ => trivial)) (fun wa => id) (fun _ _ _ h => h) (Or.inl ⟨by kernel_rfl, ?hy⟩) trivial ?_
      case hy =>
        intro wS hSw
        clear hSw
        go_simp
        try with_reducible rfl
      try simp only [List.getElem_toArray, List.getElem_cons_succ, List.getElem_cons_zero, Act.put, List.setIfInBounds_toArray, List.set_cons_zero, List.set_cons_succ]
      refine takeF (i := 6) (v := ?_) (fun _ => True) rfl (by kernel_rfl) (by kernel_rfl) (by kernel_rfl) (fun j hj => .inr (.inr fun _ _ _ _ => trivial)) (fun wa => id) (fun _ _ _ h => h) (Or.inl ⟨by kernel_rfl, ?hy⟩) trivial ?_
      case hy =>
        intro wS hSw
        clear hSw
        go_simp
        try with_reducible rfl
      try simp only [List.getElem_toArray, List.getElem_cons_succ, List.getElem_cons_zero, Act.put, List.setIfInBounds_toArray, List.set_cons_zero, List.set_cons_succ]
      refine takeF (i := 7) (v := ?_) (fun _ => True) rfl (by kernel_rfl) (by kernel_rfl) (by kernel_rfl) (fun j hj => .inr (.inr fun _ _ _ _ => trivial)) (fun wa => id) (fun _ _ _ h => h) (Or.inl ⟨by kernel_rfl, ?hy⟩) trivial ?_
      case hy =>
        intro wS hSw
        clear hSw
        go_simp
        try with_reducible rfl
      try simp only [List.getElem_toArray, List.getElem_cons_succ, List.getElem_cons_zero, Act.put, List.setIfInBounds_toArray, List.set_cons_zero, List.set_cons_succ]
      refine takeF (i := 8) (v := ?_) (fun _ => True) rfl (by kernel_rfl) (by kernel_rfl) (by kernel_rfl) (fun j hj => .inr (.inr fun _ _ _ _ => trivial)) (fun wa => id) (fun _ _ _ h => h) (Or.inl ⟨by kernel_rfl, ?hy⟩) trivial ?_
      case hy =>
        intro wS hSw
        clear hSw
        go_simp
        try with_reducible rfl
      try simp only [List.getElem_toArray, List.getElem_cons_succ, List.getElem_cons_zero, Act.put, List.setIfInBounds_toArray, List.set_cons_zero, List.set_cons_succ]
      refine takeF (i := 9) (v := ?_) (fun _ => True) rfl (by kernel_rfl) (by kernel_rfl) (by kernel_rfl) (fun j hj => .inr (.inr fun _ _ _ _ => trivial)) (fun wa => id) (fun _ _ _ h => h) (Or.inl ⟨by kernel_rfl, ?hy⟩) trivial ?_
      case hy =>
        intro wS hSw
        clear hSw
        go_simp
        try with_reducible rfl
      try simp only [List.getElem_toArray, List.getElem_cons_succ, List.getElem_cons_zero, Act.put, List.setIfInBounds_toArray, List.set_cons_zero, List.set_cons_succ]
      refine takeF (i := 10) (v := ?_) (fun _ => True) rfl (by kernel_rfl) (by kernel_rfl) (by kernel_rfl) (fun j hj => .inr (.inr fun _ _ _ _ => trivial)) (fun wa => id) (fun _ _ _ h => h) (Or.inl ⟨by kernel_rfl, ?hy⟩) trivial ?_
      case hy =>
        intro wS hSw
        clear hSw
        go_simp
        try with_reducible rfl
      try simp only [List.getElem_toArray, List.getElem_cons_succ, List.getElem_cons_zero, Act.put, List.setIfInBounds_toArray, List.set_cons_zero, List.set_cons_succ]
      refine takeF (i := 11) (v := ?_) (fun wa => Below w0.heap.size w0 wa) rfl (by kernel_rfl) (by kernel_rfl) (by kernel_rfl) (fun j hj => .inr (.inr fun wa wb h g => g h)) (fun wa => id) (fun _ _ _ h => h) (Or.inl ⟨by kernel_rfl, ?hy⟩) hX ?_
      case hy =>
        intro wS hSw
        obtain ⟨x0, x1, x2, x3, x4⟩ := kA.below hSw
        clear hSw
        go_simp
        try with_reducible rfl
      try simp only [List.getElem_toArray, List.getElem_cons_succ, List.getElem_cons_zero, Act.put, List.setIfInBounds_toArray, List.set_cons_zero, List.set_cons_succ]
      refine takeF (i := 12) (v := ?_) (fun wa => Below w0.heap.size w0 wa) rfl (by kernel_rfl) (by kernel_rfl) (by kernel_rfl) (fun j hj => .inr (.inr fun wa wb h g => g h)) (fun wa => id) (fun _ _ _ h => h) (Or.inl ⟨by kernel_rfl, ?hy⟩) hX ?_
      case hy =>
        intro wS hSw
        obtain ⟨x0, x1, x2, x3, x4⟩ := kE.below hSw
        clear hSw
        go_simp
        try with_reducible rfl
      try simp only [List.getElem_toArray, List.getElem_cons_succ, List.getElem_cons_zero, Act.put, List.setIfInBounds_toArray, List.set_cons_zero, List.set_cons_succ]
      refine readyF (rs := [13]) (by kernel_rfl) (by simp) ?_
      refine AllF.cons rfl (fun K hK => ?_) AllF.nil
      go_simp
      refine (Ca.out _ hX).mono ?_
      rintro e w0_13 ⟨rfl, hb⟩
      refine hK _ _ (fun h => h.trans (hb.mono h.size)) ?_
      clear hK K
      have hX := hX.trans (hb.mono hX.size)
      clear hb
      refine takeF (i := 14) (v := ?_) (fun _ => True) rfl (by kernel_rfl) (by kernel_rfl) (by kernel_rfl) (fun j hj => .inr (.inr fun _ _ _ _ => trivial)) (fun wa => id) (fun _ _ _ h => h) (Or.inl ⟨by kernel_rfl, ?hy⟩) trivial ?_
      case hy =>
        intro wS hSw
        clear hSw
        go_simp
        try with_reducible rfl
      try simp only [List.getElem_toArray, List.getElem_cons_succ, List.getElem_cons_zero, Act.put, List.setIfInBounds_toArray, List.set_cons_zero, List.set_cons_succ]
      refine takeF (i := 15) (v := ?_) (fun _ => True) rfl (by kernel_rfl) (by kernel_rfl) (by kernel_rfl) (fun j hj => .inr (.inr fun _ _ _ _ => trivial)) (fun wa => id) (fun _ _ _ h => h) (Or.inl ⟨by kernel_rfl, ?hy⟩) trivial ?_
      case hy =>
        intro wS hSw
        clear hSw
        go_simp
        try with_reducible rfl
      try simp only [List.getElem_toArray, List.getElem_cons_succ, List.getElem_cons_zero, Act.put, List.setIfInBounds_toArray, List.set_cons_zero, List.set_cons_succ]
      refine takeF (i := 16) (v := ?_) (fun _ => True) rfl (by kernel_rfl) (by kernel_rfl) (by kernel_rfl) (fun j hj => .inr (.inr fun _ _ _ _ => trivial)) (fun wa => id) (fun _ _ _ h => h) (Or.inl ⟨by kernel_rfl, ?hy⟩) trivial ?_
      case hy =>
        intro wS hSw
        clear hSw
        go_simp
        try with_reducible rfl
      try simp only [List.getElem_toArray, List.getElem_cons_succ, List.getElem_cons_zero, Act.put, List.setIfInBounds_toArray, List.set_cons_zero, List.set_cons_succ]
      refine takeF (i := 17) (v := ?_) (fun _ => True) rfl (by kernel_rfl) (by kernel_rfl) (by kernel_rfl) (fun j hj => .inr (.inr fun _ _ _ _ => trivial)) (fun wa => id) (fun _ _ _ h => h) (Or.inl ⟨by kernel_rfl, ?hy⟩) trivial ?_
      case hy =>
        intro wS hSw
        clear hSw
        go_simp
        try with_reducible rfl
      try simp only [List.getElem_toArray, List.getElem_cons_succ, List.getElem_cons_zero, Act.put, List.setIfInBounds_toArray, List.set_cons_zero, List.set_cons_succ]
      refine takeF (i := 18) (v := ?_) (fun _ => True) rfl (by kernel_rfl) (by kernel_rfl) (by kernel_rfl) (fun j hj => .inr (.inr fun _ _ _ _ => trivial)) (fun wa => id) (fun _ _ _ h => h) (Or.inl ⟨by kernel_rfl, ?hy⟩) trivial ?_
      case hy =>
        intro wS hSw
        clear hSw
        go_simp
        try with_reducible rfl
      try simp only [List.getElem_toArray, List.getElem_cons_succ, List.getElem_cons_zero, Act.put, List.setIfInBounds_toArray, List.set_cons_zero, List.set_cons_succ]
      refine takeF (i := 19) (v := ?_) (fun _ => True) rfl (by kernel_rfl) (by kernel_rfl) (by kernel_rfl) (fun j hj => .inr (.inr fun _ _ _ _ => trivial)) (fun wa => id) (fun _ _ _ h => h) (Or.inl ⟨by kernel_rfl, ?hy⟩) trivial ?_
      case hy =>
        intro wS hSw
        clear hSw
        go_simp
        try with_reducible rfl
      try simp only [List.getElem_toArray, List.getElem_cons_succ, List.getElem_cons_zero, Act.put, List.setIfInBounds_toArray, List.set_cons_zero, List.set_cons_succ]
      refine takeF (i := 20) (v := ?_) (fun _ => True) rfl (by kernel_rfl) (by kernel_rfl) (by kernel_rfl) (fun j hj => .inr (.inr fun _ _ _ _ => trivial)) (fun wa => id) (fun _ _ _ h => h) (Or.inl ⟨by kernel_rfl, ?hy⟩) trivial ?_
      case hy =>
        intro wS hSw
        clear hSw
        go_simp
        try with_reducible rfl
      try simp only [List.getElem_toArray, List.getElem_cons_succ, List.getElem_cons_zero, Act.put, List.setIfInBounds_toArray, List.set_cons_zero, List.set_cons_succ]
      refine takeF (i := 21) (v := ?_) (fun _ => True) rfl (by kernel_rfl) (by kernel_rfl) (by kernel_rfl) (fun j hj => .inr (.inr fun _ _ _ _ => trivial)) (fun wa => id) (fun _ _ _ h => h) (Or.inl ⟨by kernel_rfl, ?hy⟩) trivial ?_
      case hy =>
        intro wS hSw
        clear hSw
        go_simp
        try with_reducible rfl
      try simp only [List.getElem_toArray, List.getElem_cons_succ, List.getElem_cons_zero, Act.put, List.setIfInBounds_toArray, List.set_cons_zero, List.set_cons_succ]
      refine takeF (i := 22) (v := ?_) (fun _ => True) rfl (by kernel_rfl) (by kernel_rfl) (by kernel_rfl) (fun j hj => .inr (.inr fun _ _ _ _ => trivial)) (fun wa => id) (fun _ _ _ h => h) (Or.inl ⟨by kernel_rfl, ?hy⟩) trivial ?_
      case hy =>
        intro wS hSw
        clear hSw
        go_simp
        try with_reducible rfl
      try simp only [List.getElem_toArray, List.getElem_cons_succ, List.getElem_cons_zero, Act.put, List.setIfInBounds_toArray, List.set_cons_zero, List.set_cons_succ]
      refine takeF (i := 23) (v := ?_) (fun _ => True) rfl (by kernel_rfl) (by kernel_rfl) (by kernel_rfl) (fun j hj => .inr (.inr fun _ _ _ _ => trivial)) (fun wa => id) (fun _ _ _ h => h) (Or.inl ⟨by kernel_rfl, ?hy⟩) trivial ?_
      case hy =>
        intro wS hSw
        clear hSw
        go_simp
        try with_reducible rfl
      try simp only [List.getElem_toArray, List.getElem_cons_succ, List.getElem_cons_zero, Act.put, List.setIfInBounds_toArray, List.set_cons_zero, List.set_cons_succ]
      refine takeF (i := 24) (v := ?_) (fun _ => True) rfl (by kernel_rfl) (by kernel_rfl) (by kernel_rfl) (fun j hj => .inr (.inr fun _ _ _ _ => trivial)) (fun wa => id) (fun _ _ _ h => h) (Or.inl ⟨by kernel_rfl, ?hy⟩) trivial ?_
      case hy =>
        intro wS hSw
        clear hSw
        go_simp
        try with_reducible rfl
      try simp only [List.getElem_toArray, List.getElem_cons_succ, List.getElem_cons_zero, Act.put, List.setIfInBounds_toArray, List.set_cons_zero, List.set_cons_succ]
      refine takeF (i := 25) (v := ?_) (fun wa => Below w0.heap.size w0 wa) rfl (by kernel_rfl) (by kernel_rfl) (by kernel_rfl) (fun j hj => .inr (.inr fun wa wb h g => g h)) (fun wa => id) (fun _ _ _ h => h) (Or.inl ⟨by kernel_rfl, ?hy⟩) hX ?_
      case hy =>
        intro wS hSw
        obtain ⟨x0, x1, x2, x3, x4⟩ := kB.below hSw
        clear hSw
        go_simp
        try with_reducible rfl
      try simp only [List.getElem_toArray, List.getElem_cons_succ, List.getElem_cons_zero, Act.put, List.setIfInBounds_toArray, List.set_cons_zero, List.set_cons_succ]
      refine takeF (i := 26) (v := ?_) (fun _ => True) rfl (by kernel_rfl) (by kernel_rfl) (by kernel_rfl) (fun j hj => .inr (.inr fun _ _ _ _ => trivial)) (fun wa => id) (fun _ _ _ h => h) (Or.inl ⟨by kernel_rfl, ?hy⟩) trivial ?_
      case hy =>
        intro wS hSw
        clear hSw
        go_simp
        try with_reducible rfl
      try simp only [List.getElem_toArray, List.getElem_cons_succ, List.getElem_cons_zero, Act.put, List.setIfInBounds_toArray, List.set_cons_zero, List.set_cons_succ]
      refine takeF (i := 27) (v := ?_) (fun _ => True) rfl (by kernel_rfl) (by kernel_rfl) (by kernel_rfl) (fun j hj => .inr (.inr fun _ _ _ _ => trivial)) (fun wa => id) (fun _ _ _ h => h) (Or.inl ⟨by kernel_rfl, ?hy⟩) trivial ?_
      case hy =>
        intro wS hSw
        clear hSw
        go_simp
        try with_reducible rfl
      try simp only [List.getElem_toArray, List.getElem_cons_succ, List.getElem_cons_zero, Act.put, List.setIfInBounds_toArray, List.set_cons_zero, List.set_cons_succ]
      refine takeF (i := 28) (v := ?_) (fun _ => True) rfl (by kernel_rfl) (by kernel_rfl) (by kernel_rfl) (fun j hj => .inr (.inr fun _ _ _ _ => trivial)) (fun wa => id) (fun _ _ _ h => h) (Or.inl ⟨by kernel_rfl, ?hy⟩) trivial ?_
      case hy =>
        intro wS hSw
        clear hSw
        go_simp
        try with_reducible rfl
      try simp only [List.getElem_toArray, List.getElem_cons_succ, List.getElem_cons_zero, Act.put, List.setIfInBounds_toArray, List.set_cons_zero, List.set_cons_succ]
      refine takeF (i := 29) (v := ?_) (fun _ => True) rfl (by kernel_rfl) (by kernel_rfl) (by kernel_rfl) (fun j hj => .inr (.inr fun _ _ _ _ => trivial)) (fun wa => id) (fun _ _ _ h => h) (Or.inl ⟨by kernel_rfl, ?hy⟩) trivial ?_
      case hy =>
        intro wS hSw
        clear hSw
        go_simp
        try with_reducible rfl
      try simp only [List.getElem_toArray, List.getElem_cons_succ, List.getElem_cons_zero, Act.put, List.setIfInBounds_toArray, List.set_cons_zero, List.set_cons_succ]
      refine takeF (i := 30) (v := ?_) (fun wa => Below w0.heap.size w0 wa) rfl (by kernel_rfl) (by kernel_rfl) (by kernel_rfl) (fun j hj => .inr (.inr fun wa wb h g => g h)) (fun wa => id) (fun _ _ _ h => h) (Or.inl ⟨by kernel_rfl, ?hy⟩) hX ?_
      case hy =>
        intro wS hSw
        have f0 := stays hSw f0
        have f1 := stays hSw f1
        have f2 := stays hSw f2
        have f3 := stays hSw f3
        clear hSw
        go_simp
        try with_reducible rfl
      try simp only [List.getElem_toArray, List.getElem_cons_succ, List.getElem_cons_zero, Act.put, List.setIfInBounds_toArray, List.set_cons_zero, List.set_cons_succ]
      refine readyF (rs := [31]) (by kernel_rfl) (by simp) ?_
      refine AllF.cons rfl (fun K hK => ?_) AllF.nil
      go_simp
      refine (Cb2.out _ hX).mono ?_
      rintro e w0_13_31 ⟨rfl, hb⟩
      refine hK _ _ (fun h => h.trans (hb.mono h.size)) ?_
      clear hK K
      have hX := hX.trans (hb.mono hX.size)
      clear hb
      refine takeF (i := 32) (v := ?_) (fun _ => True) rfl (by kernel_rfl) (by kernel_rfl) (by kernel_rfl) (fun j hj => .inr (.inr fun _ _ _ _ => trivial)) (fun wa => id) (fun _ _ _ h => h) (Or.inl ⟨by kernel_rfl, ?hy⟩) trivial ?_
      case hy =>
        intro wS hSw
        clear hSw
        go_simp
        try with_reducible rfl
      try simp only [List.getElem_toArray, List.getElem_cons_succ, List.getElem_cons_zero, Act.put, List.setIfInBounds_toArray, List.set_cons_zero, List.set_cons_succ]
      refine takeF (i := 33) (v := ?_) (fun _ => True) rfl (by kernel_rfl) (by kernel_rfl) (by kernel_rfl) (fun j hj => .inr (.inr fun _ _ _ _ => trivial)) (fun wa => id) (fun _ _ _ h => h) (Or.inl ⟨by kernel_rfl, ?hy⟩) trivial ?_
      case hy =>
        intro wS hSw
        clear hSw
        go_simp
        try with_reducible rfl
      try simp only [List.getElem_toArray, List.getElem_cons_succ, List.getElem_cons_zero, Act.put, List.setIfInBounds_toArray, List.set_cons_zero, List.set_cons_succ]
      refine takeF (i := 34) (v := ?_) (fun _ => True) rfl (by kernel_rfl) (by kernel_rfl) (by kernel_rfl) (fun j hj => .inr (.inr fun _ _ _ _ => trivial)) (fun wa => id) (fun _ _ _ h => h) (Or.inl ⟨by kernel_rfl, ?hy⟩) trivial ?_
      case hy =>
        intro wS hSw
        clear hSw
        go_simp
        try with_reducible rfl
      try simp only [List.getElem_toArray, List.getElem_cons_succ, List.getElem_cons_zero, Act.put, List.setIfInBounds_toArray, List.set_cons_zero, List.set_cons_succ]
      refine doneF (by kernel_rfl) ?_ _
      try simp only [List.getElem_toArray, List.getElem_cons_succ, List.getElem_cons_zero, Act.put, List.setIfInBounds_toArray, List.set_cons_zero, List.set_cons_succ]
      go_wp2
      go_roundw
      case rel => exact ⟨j + 1, by have := Hjn.out; omega, by go_num, hq.trans (hX.mono hq.size), hbr.trans (hX.mono hbr.size)⟩
      case measure => have := Hjn.out; simp [intOf]; omega
end Go.Proofs.Ytpffieogkfndaaa
