/-
  The walk of KeyOrders: it returns true at every input. No condition.
-/
import Derived.Test.YtiepdafjbblllaaKeyAwake
import Derived.Test.YtiepdafjbblllaaHeldF
import Derived.Deep.CutRange
namespace Go.Proofs.Ytiepdafjbblllaa
open Go.RowKit
set_option maxRecDepth 20000
theorem nameS {P : Program} {md : Region.Mode} {ops : Array Oper} {Q : Exit → Act → World → Prop} {m : Nat} {S : World → Prop} {fuel : Nat} {listed : Array Bool} {a : Act} {W : World} (h : ∀ w', w' = W → AnyS P md ops Q m S fuel listed a w') : AnyS P md ops Q m S fuel listed a W := h W rfl
set_option maxHeartbeats 4000000 in
theorem keyOrders.walk (w : World) (A0 : Option Addr) (n0 c0 : Nat) (ka : KeyL) (h0 : Sl w 1 A0 n0 c0 (bc ka.user)) (A1 : Option Addr) (n1 c1 : Nat) (kb : KeyL) (h1 : Sl w 1 A1 n1 c1 (bc kb.user)) (A2 : Option Addr) (n2 c2 : Nat) (kc : KeyL) (h2 : Sl w 1 A2 n2 c2 (bc kc.user)) :
    Calls Try.prog 3 #[.agg #[.slice A0 n0 c0, .int .u64 (ka.seq.toNat : Int), .int .u8 (ka.kind.toNat : Int)], .agg #[.slice A1 n1 c1, .int .u64 (kb.seq.toNat : Int), .int .u8 (kb.kind.toNat : Int)], .agg #[.slice A2 n2 c2, .int .u64 (kc.seq.toNat : Int), .int .u8 (kc.kind.toNat : Int)]] w fun e w' => e = .returned (.bool true) ∧ Below w.heap.size w w' := by
  have sa := fun (w' : World) (hb : Below w.heap.size w w') => small_any w' A0 n0 c0 ka (h0.below (by omega) hb)
  have sb := fun (w' : World) (hb : Below w.heap.size w w') => small_any w' A1 n1 c1 kb (h1.below (by omega) hb)
  have sc := fun (w' : World) (hb : Below w.heap.size w w') => small_any w' A2 n2 c2 kc (h2.below (by omega) hb)
  unfold GotKey at sa sb sc
  have cab := fun (w' : World) (A : Option Addr) (n c : Nat) (h : Sl w' 1 A n c (bc (cutKey ka).user)) (B : Option Addr) (m d : Nat) (h' : Sl w' 1 B m d (bc (cutKey kb).user)) => compare_any w' A n c (cutKey ka) h B m d (cutKey kb) h'
  have cba := fun (w' : World) (A : Option Addr) (n c : Nat) (h : Sl w' 1 A n c (bc (cutKey ka).user)) (B : Option Addr) (m d : Nat) (h' : Sl w' 1 B m d (bc (cutKey kb).user)) => compare_any w' B m d (cutKey kb) h' A n c (cutKey ka) h
  have cbc := fun (w' : World) (A : Option Addr) (n c : Nat) (h : Sl w' 1 A n c (bc (cutKey kb).user)) (B : Option Addr) (m d : Nat) (h' : Sl w' 1 B m d (bc (cutKey kc).user)) => compare_any w' A n c (cutKey kb) h B m d (cutKey kc) h'
  have cac := fun (w' : World) (A : Option Addr) (n c : Nat) (h : Sl w' 1 A n c (bc (cutKey ka).user)) (B : Option Addr) (m d : Nat) (h' : Sl w' 1 B m d (bc (cutKey kc).user)) => compare_any w' A n c (cutKey ka) h B m d (cutKey kc) h'
  have lab := fun (w' : World) (A : Option Addr) (n c : Nat) (h : Sl w' 1 A n c (bc (cutKey ka).user)) (B : Option Addr) (m d : Nat) (h' : Sl w' 1 B m d (bc (cutKey kb).user)) => klt_any w' A n c (cutKey ka) h B m d (cutKey kb) h'
  have lba := fun (w' : World) (A : Option Addr) (n c : Nat) (h : Sl w' 1 A n c (bc (cutKey ka).user)) (B : Option Addr) (m d : Nat) (h' : Sl w' 1 B m d (bc (cutKey kb).user)) => klt_any w' B m d (cutKey kb) h' A n c (cutKey ka) h
  have eab := fun (w' : World) (A : Option Addr) (n c : Nat) (h : Sl w' 1 A n c (bc (cutKey ka).user)) (B : Option Addr) (m d : Nat) (h' : Sl w' 1 B m d (bc (cutKey kb).user)) => keq_any w' A n c (cutKey ka) h B m d (cutKey kb) h'
  have hv := cmpKey_val (cutKey ka) (cutKey kb)
  have hs := cmpKey_swap (cutKey ka) (cutKey kb)
  have hz : (cutKey ka == cutKey kb) = decide (cmpKey (cutKey ka) (cutKey kb) = 0) := by
    rw [Bool.eq_iff_iff, decide_eq_true_eq, cmpKey_zero]
    simp
  have hl1 := cmpKey_less (cutKey ka) (cutKey kb)
  have hl2 := cmpKey_less (cutKey kb) (cutKey ka)
  have ht := cmpKey_le_trans (cutKey ka) (cutKey kb) (cutKey kc)
  rw [← hl1] at lab
  rw [← hl2, hs] at lba
  rw [hz] at eab
  rw [hs] at cba
  simp only [show (cutKey ka).seq = ka.seq from rfl, show (cutKey ka).kind = ka.kind from rfl, show (cutKey kb).seq = kb.seq from rfl, show (cutKey kb).kind = kb.kind from rfl, show (cutKey kc).seq = kc.seq from rfl, show (cutKey kc).kind = kc.kind from rfl] at *
  clear hs hz hl1 hl2
  generalize cmpKey (cutKey ka) (cutKey kb) = x at *
  generalize cmpKey (cutKey kb) (cutKey kc) = y at *
  generalize cmpKey (cutKey ka) (cutKey kc) = z at *
  generalize (cutKey ka).user = ua at *
  generalize (cutKey kb).user = ub at *
  generalize (cutKey kc).user = uc at *
  generalize ka.seq.toNat = s0 at *
  generalize ka.kind.toNat = d0 at *
  generalize kb.seq.toNat = s1 at *
  generalize kb.kind.toNat = d1 at *
  generalize kc.seq.toNat = s2 at *
  generalize kc.kind.toNat = d2 at *
  have Sa := Lib.hid sa
  have Sb := Lib.hid sb
  have Sc := Lib.hid sc
  have Cab := Lib.hid cab
  have Cba := Lib.hid cba
  have Cbc := Lib.hid cbc
  have Cac := Lib.hid cac
  have Lab := Lib.hid lab
  have Lba := Lib.hid lba
  have Eab := Lib.hid eab
  have Ht := Lib.hid ht
  have Hv := Lib.hid hv
  clear hv sa sb sc cab cba cbc cac lab lba eab ht h0 h1 h2
  have hbA := (((Below.refl w.heap.size w).alloc (Nat.le_refl _) (.cells #[.slice A0 n0 c0, .int .u64 (s0 : Int), .int .u8 (d0 : Int)] 25)).alloc (by simp) (.cells #[.slice A1 n1 c1, .int .u64 (s1 : Int), .int .u8 (d1 : Int)] 25)).alloc (by simp; omega) (.cells #[.slice A2 n2 c2, .int .u64 (s2 : Int), .int .u8 (d2 : Int)] 25)
  have k0 := (((Bx.fresh w (.slice A0 n0 c0) (.int .u64 (s0 : Int)) (.int .u8 (d0 : Int)) 25).below ((Below.refl _ _).alloc (Nat.le_refl _) (.cells #[.slice A1 n1 c1, .int .u64 (s1 : Int), .int .u8 (d1 : Int)] 25)))).below ((Below.refl _ _).alloc (Nat.le_refl _) (.cells #[.slice A2 n2 c2, .int .u64 (s2 : Int), .int .u8 (d2 : Int)] 25))
  have k1 := ((Bx.fresh (w.alloc (.cells #[.slice A0 n0 c0, .int .u64 (s0 : Int), .int .u8 (d0 : Int)] 25)) (.slice A1 n1 c1) (.int .u64 (s1 : Int)) (.int .u8 (d1 : Int)) 25)).below ((Below.refl _ _).alloc (Nat.le_refl _) (.cells #[.slice A2 n2 c2, .int .u64 (s2 : Int), .int .u8 (d2 : Int)] 25))
  have k2 := Bx.fresh ((w.alloc (.cells #[.slice A0 n0 c0, .int .u64 (s0 : Int), .int .u8 (d0 : Int)] 25)).alloc (.cells #[.slice A1 n1 c1, .int .u64 (s1 : Int), .int .u8 (d1 : Int)] 25)) (.slice A2 n2 c2) (.int .u64 (s2 : Int)) (.int .u8 (d2 : Int)) 25
  simp only [World.size_alloc] at k1 k2
  go_enter Try.func3, Try.ntmps3
  go_wp2_with fail
  refine nameC ?_
  intro wA eA
  rw [← eA] at hbA k0 k1 k2
  clear eA
  refine (awake03 _).mono ?_
  rintro e w1 ⟨rfl, hb1⟩
  have q1 := (hbA.trans (hb1.mono hbA.size)).drew
  have k0 := (k0.below hb1).drew
  have k1 := (k1.below hb1).drew
  have k2 := (k2.below hb1).drew
  have z1 : w.heap.size + 1 + 1 + 1 ≤ w1.drew.heap.size := k2.lt
  clear hbA hb1
  go_wp2_with fail
  go_cut [] from 10 (fun wx => ∃ (A3 : Option Addr) (n3 c3 : Nat) (A4 : Option Addr) (n4 c4 : Nat) (A5 : Option Addr) (n5 c5 : Nat), Below w.heap.size w wx ∧ Bx wx w.heap.size (.slice A3 n3 c3) (.int .u64 (s0 : Int)) (.int .u8 (d0 : Int)) ∧ Bx wx (w.heap.size + 1) (.slice A4 n4 c4) (.int .u64 (s1 : Int)) (.int .u8 (d1 : Int)) ∧ Bx wx (w.heap.size + 1 + 1) (.slice A5 n5 c5) (.int .u64 (s2 : Int)) (.int .u8 (d2 : Int)) ∧ Sl wx 1 A3 n3 c3 (bc ua) ∧ Sl wx 1 A4 n4 c4 (bc ub) ∧ Sl wx 1 A5 n5 c5 (bc uc))
  case first =>
    refine regionF (fun j wa wb => match j with | 6 => wa.grownBy wb (some w.heap.size) | 7 => wa.grownBy wb (some (w.heap.size + 1)) | 8 => wa.grownBy wb (some (w.heap.size + 1 + 1)) | _ => Below wa.heap.size wa wb) (by kernel_rfl) ?_
    try (change AnyF _ _ _ _ _ _ _ _ (World.drew _))
    refine takeF (i := 0) (v := ?_) (fun wa => Bx wa w.heap.size (.slice A0 n0 c0) (.int .u64 (s0 : Int)) (.int .u8 (d0 : Int))) rfl (by kernel_rfl) (by kernel_rfl) (by kernel_rfl) ?hS ?hSi (fun _ _ _ h => h) (Or.inl ⟨by kernel_rfl, ?hy⟩) k0 ?_
    case hS =>
      intro j hj
      rcases (show j = 0 ∨ j = 1 ∨ j = 2 ∨ j = 3 ∨ j = 4 ∨ j = 5 ∨ j = 6 ∨ j = 7 ∨ j = 8 by simp at hj; omega) with rfl | rfl | rfl | rfl | rfl | rfl | rfl | rfl | rfl
      · exact .inr (.inl rfl)
      · exact .inr (.inr fun wa wb h g => Bx.below h g)
      · exact .inr (.inr fun wa wb h g => Bx.below h g)
      · exact .inr (.inr fun wa wb h g => Bx.below h g)
      · exact .inr (.inr fun wa wb h g => Bx.below h g)
      · exact .inr (.inr fun wa wb h g => Bx.below h g)
      · exact .inl (by kernel_rfl)
      · exact .inl (by kernel_rfl)
      · exact .inl (by kernel_rfl)
    case hSi => exact fun wa => Below.refl _ _
    case hy =>
      intro wS hSw
      obtain ⟨x0, x1, x2, x3⟩ := hSw
      go_simp
      try with_reducible rfl
    refine takeF (i := 2) (v := ?_) (fun wa => Bx wa (w.heap.size + 1) (.slice A1 n1 c1) (.int .u64 (s1 : Int)) (.int .u8 (d1 : Int))) rfl (by kernel_rfl) (by kernel_rfl) (by kernel_rfl) ?hS ?hSi (fun _ _ _ h => h) (Or.inl ⟨by kernel_rfl, ?hy⟩) k1 ?_
    case hS =>
      intro j hj
      rcases (show j = 0 ∨ j = 1 ∨ j = 2 ∨ j = 3 ∨ j = 4 ∨ j = 5 ∨ j = 6 ∨ j = 7 ∨ j = 8 by simp at hj; omega) with rfl | rfl | rfl | rfl | rfl | rfl | rfl | rfl | rfl
      · exact .inr (.inr fun wa wb h g => Bx.below h g)
      · exact .inr (.inr fun wa wb h g => Bx.below h g)
      · exact .inr (.inl rfl)
      · exact .inr (.inr fun wa wb h g => Bx.below h g)
      · exact .inr (.inr fun wa wb h g => Bx.below h g)
      · exact .inr (.inr fun wa wb h g => Bx.below h g)
      · exact .inr (.inr fun wa wb h g => Bx.grown h g (by omega))
      · exact .inl (by kernel_rfl)
      · exact .inl (by kernel_rfl)
    case hSi => exact fun wa => Below.refl _ _
    case hy =>
      intro wS hSw
      obtain ⟨x0, x1, x2, x3⟩ := hSw
      go_simp
      try with_reducible rfl
    refine takeF (i := 4) (v := ?_) (fun wa => Bx wa (w.heap.size + 1 + 1) (.slice A2 n2 c2) (.int .u64 (s2 : Int)) (.int .u8 (d2 : Int))) rfl (by kernel_rfl) (by kernel_rfl) (by kernel_rfl) ?hS ?hSi (fun _ _ _ h => h) (Or.inl ⟨by kernel_rfl, ?hy⟩) k2 ?_
    case hS =>
      intro j hj
      rcases (show j = 0 ∨ j = 1 ∨ j = 2 ∨ j = 3 ∨ j = 4 ∨ j = 5 ∨ j = 6 ∨ j = 7 ∨ j = 8 by simp at hj; omega) with rfl | rfl | rfl | rfl | rfl | rfl | rfl | rfl | rfl
      · exact .inr (.inr fun wa wb h g => Bx.below h g)
      · exact .inr (.inr fun wa wb h g => Bx.below h g)
      · exact .inr (.inr fun wa wb h g => Bx.below h g)
      · exact .inr (.inr fun wa wb h g => Bx.below h g)
      · exact .inr (.inl rfl)
      · exact .inr (.inr fun wa wb h g => Bx.below h g)
      · exact .inr (.inr fun wa wb h g => Bx.grown h g (by omega))
      · exact .inr (.inr fun wa wb h g => Bx.grown h g (by omega))
      · exact .inl (by kernel_rfl)
    case hSi => exact fun wa => Below.refl _ _
    case hy =>
      intro wS hSw
      obtain ⟨x0, x1, x2, x3⟩ := hSw
      go_simp
      try with_reducible rfl
    refine readyF (rs := [1]) (by kernel_rfl) (by simp) ?_
    refine AllF.cons rfl (fun K hK => ?_) ?_
    · go_simp
      refine (Sa.out _ q1).mono ?_
      rintro e w2 ⟨A3, n3, c3, rfl, ho3, hb2⟩
      refine hK _ _ hb2 ?_
      clear hK K
      have ho3 := Own.mono (B' := w.heap.size + 1 + 1 + 1) ho3 z1
      have k0 := k0.below hb2
      have k1 := k1.below hb2
      have k2 := k2.below hb2
      have q2 := q1.trans (hb2.mono q1.size)
      have z2 := Nat.le_trans z1 hb2.size
      refine readyF (rs := [3]) (by kernel_rfl) (by simp) ?_
      refine AllF.cons rfl (fun K hK => ?_) ?_
      · go_simp
        refine (Sb.out _ q2).mono ?_
        rintro e w3 ⟨A4, n4, c4, rfl, ho4, hb3⟩
        refine hK _ _ hb3 ?_
        clear hK K
        have ho4 := Own.mono (B' := w.heap.size + 1 + 1 + 1) ho4 z2
        have ho3 := Own.below ho3 hb3
        have k0 := k0.below hb3
        have k1 := k1.below hb3
        have k2 := k2.below hb3
        have q3 := q2.trans (hb3.mono q2.size)
        have z3 := Nat.le_trans z2 hb3.size
        refine readyF (rs := [5]) (by kernel_rfl) (by simp) ?_
        refine AllF.cons rfl (fun K hK => ?_) ?_
        · go_simp
          refine (Sc.out _ q3).mono ?_
          rintro e w4 ⟨A5, n5, c5, rfl, ho5, hb4⟩
          refine hK _ _ hb4 ?_
          clear hK K
          have ho5 := Own.mono (B' := w.heap.size + 1 + 1 + 1) ho5 z3
          have ho3 := Own.below ho3 hb4
          have ho4 := Own.below ho4 hb4
          have k0 := k0.below hb4
          have k1 := k1.below hb4
          have k2 := k2.below hb4
          have q4 := q3.trans (hb4.mono q3.size)
          have z4 := Nat.le_trans z3 hb4.size
          refine readyF (rs := [6]) (by kernel_rfl) (by simp) ?_
          refine AllF.cons rfl (fun K hK => ?_) ?_
          · obtain ⟨x0, x1, x2, x3⟩ := id k0
            go_simp
            obtain ⟨w5, e5⟩ : ∃ w', w' = ((w4.setCell ⟨w.heap.size, 0, none⟩ (.slice A3 n3 c3)).setCell ⟨w.heap.size, 1, none⟩ (.int .u64 (s0 : Int))).setCell ⟨w.heap.size, 2, none⟩ (.int .u8 (d0 : Int)) := ⟨_, rfl⟩
            rw [← e5]
            obtain ⟨k0, g5⟩ := k0.set e5
            refine hK _ _ g5 ?_
            clear hK K x0 x1 x2 x3 e5
            have k1 := k1.grown g5 (by omega)
            have k2 := k2.grown g5 (by omega)
            have ho3 := Own.grown ho3 g5 (fun b hb e => by have := (Own.lt ho3 b hb).1; simp at e; omega)
            have ho4 := Own.grown ho4 g5 (fun b hb e => by have := (Own.lt ho4 b hb).1; simp at e; omega)
            have ho5 := Own.grown ho5 g5 (fun b hb e => by have := (Own.lt ho5 b hb).1; simp at e; omega)
            have q5 := q4.grown g5 q4.size (fun k e => by simp at e; omega)
            have z5 := Nat.le_trans z4 g5.size
            refine readyF (rs := [7]) (by kernel_rfl) (by simp) ?_
            refine AllF.cons rfl (fun K hK => ?_) ?_
            · obtain ⟨x0, x1, x2, x3⟩ := id k1
              go_simp
              obtain ⟨w6, e6⟩ : ∃ w', w' = ((w5.setCell ⟨(w.heap.size + 1), 0, none⟩ (.slice A4 n4 c4)).setCell ⟨(w.heap.size + 1), 1, none⟩ (.int .u64 (s1 : Int))).setCell ⟨(w.heap.size + 1), 2, none⟩ (.int .u8 (d1 : Int)) := ⟨_, rfl⟩
              rw [← e6]
              obtain ⟨k1, g6⟩ := k1.set e6
              refine hK _ _ g6 ?_
              clear hK K x0 x1 x2 x3 e6
              have k0 := k0.grown g6 (by omega)
              have k2 := k2.grown g6 (by omega)
              have ho3 := Own.grown ho3 g6 (fun b hb e => by have := (Own.lt ho3 b hb).1; simp at e; omega)
              have ho4 := Own.grown ho4 g6 (fun b hb e => by have := (Own.lt ho4 b hb).1; simp at e; omega)
              have ho5 := Own.grown ho5 g6 (fun b hb e => by have := (Own.lt ho5 b hb).1; simp at e; omega)
              have q6 := q5.grown g6 q5.size (fun k e => by simp at e; omega)
              have z6 := Nat.le_trans z5 g6.size
              refine readyF (rs := [8]) (by kernel_rfl) (by simp) ?_
              refine AllF.cons rfl (fun K hK => ?_) ?_
              · obtain ⟨x0, x1, x2, x3⟩ := id k2
                go_simp
                obtain ⟨w7, e7⟩ : ∃ w', w' = ((w6.setCell ⟨(w.heap.size + 1 + 1), 0, none⟩ (.slice A5 n5 c5)).setCell ⟨(w.heap.size + 1 + 1), 1, none⟩ (.int .u64 (s2 : Int))).setCell ⟨(w.heap.size + 1 + 1), 2, none⟩ (.int .u8 (d2 : Int)) := ⟨_, rfl⟩
                rw [← e7]
                obtain ⟨k2, g7⟩ := k2.set e7
                refine hK _ _ g7 ?_
                clear hK K x0 x1 x2 x3 e7
                have k0 := k0.grown g7 (by omega)
                have k1 := k1.grown g7 (by omega)
                have ho3 := Own.grown ho3 g7 (fun b hb e => by have := (Own.lt ho3 b hb).1; simp at e; omega)
                have ho4 := Own.grown ho4 g7 (fun b hb e => by have := (Own.lt ho4 b hb).1; simp at e; omega)
                have ho5 := Own.grown ho5 g7 (fun b hb e => by have := (Own.lt ho5 b hb).1; simp at e; omega)
                have q7 := q6.grown g7 q6.size (fun k e => by simp at e; omega)
                have z7 := Nat.le_trans z6 g7.size
                refine doneF (by kernel_rfl) ?_ _
                go_wp2_with fail
                go_meet
                exact ⟨A3, n3, c3, A4, n4, c4, A5, n5, c5, q7, k0, k1, k2, ho3.sl, ho4.sl, ho5.sl⟩
              exact AllF.nil
            exact AllF.nil
          exact AllF.nil
        exact AllF.nil
      exact AllF.nil
    exact AllF.nil
  case rest =>
    obtain ⟨A3, n3, c3, A4, n4, c4, A5, n5, c5, q2, k0, k1, k2, ha, hb, hc⟩ := hcut
    clear q1 z1
    rcases Hv.out with rfl | rfl | rfl
    · obtain ⟨x0, x1, x2, x3⟩ := id k0
      obtain ⟨y0, y1, y2, y3⟩ := id k1
      obtain ⟨t0, t1, t2, t3⟩ := id k2
      go_wp2_with fail
      clear x0 x1 x2 x3 y0 y1 y2 y3 t0 t1 t2 t3
      refine (Cab.out _ A3 n3 c3 ha A4 n4 c4 hb).mono ?_
      rintro e w11 ⟨rfl, hb11⟩
      have k0 := k0.below hb11
      have k1 := k1.below hb11
      have k2 := k2.below hb11
      have ha := ha.below (by omega) hb11
      have hb := hb.below (by omega) hb11
      have hc := hc.below (by omega) hb11
      have q11 := q2.trans (hb11.mono q2.size)
      clear hb11 q2
      obtain ⟨x0, x1, x2, x3⟩ := id k0
      obtain ⟨y0, y1, y2, y3⟩ := id k1
      obtain ⟨t0, t1, t2, t3⟩ := id k2
      go_wp2_with fail
      clear x0 x1 x2 x3 y0 y1 y2 y3 t0 t1 t2 t3
      refine (Lab.out _ A3 n3 c3 ha A4 n4 c4 hb).mono ?_
      rintro e w12 ⟨rfl, hb12⟩
      have k0 := k0.below hb12
      have k1 := k1.below hb12
      have k2 := k2.below hb12
      have ha := ha.below (by omega) hb12
      have hb := hb.below (by omega) hb12
      have hc := hc.below (by omega) hb12
      have q12 := q11.trans (hb12.mono q11.size)
      clear hb12 q11
      obtain ⟨x0, x1, x2, x3⟩ := id k0
      obtain ⟨y0, y1, y2, y3⟩ := id k1
      obtain ⟨t0, t1, t2, t3⟩ := id k2
      go_wp2_with fail
      clear x0 x1 x2 x3 y0 y1 y2 y3 t0 t1 t2 t3
      refine (Lba.out _ A3 n3 c3 ha A4 n4 c4 hb).mono ?_
      rintro e w13 ⟨rfl, hb13⟩
      have k0 := k0.below hb13
      have k1 := k1.below hb13
      have k2 := k2.below hb13
      have ha := ha.below (by omega) hb13
      have hb := hb.below (by omega) hb13
      have hc := hc.below (by omega) hb13
      have q13 := q12.trans (hb13.mono q12.size)
      clear hb13 q12
      obtain ⟨x0, x1, x2, x3⟩ := id k0
      obtain ⟨y0, y1, y2, y3⟩ := id k1
      obtain ⟨t0, t1, t2, t3⟩ := id k2
      go_wp2_with fail
      clear x0 x1 x2 x3 y0 y1 y2 y3 t0 t1 t2 t3
      refine (Eab.out _ A3 n3 c3 ha A4 n4 c4 hb).mono ?_
      rintro e w14 ⟨rfl, hb14⟩
      have k0 := k0.below hb14
      have k1 := k1.below hb14
      have k2 := k2.below hb14
      have ha := ha.below (by omega) hb14
      have hb := hb.below (by omega) hb14
      have hc := hc.below (by omega) hb14
      have q14 := q13.trans (hb14.mono q13.size)
      clear hb14 q13
      obtain ⟨x0, x1, x2, x3⟩ := id k0
      obtain ⟨y0, y1, y2, y3⟩ := id k1
      obtain ⟨t0, t1, t2, t3⟩ := id k2
      go_wp2_with fail
      clear x0 x1 x2 x3 y0 y1 y2 y3 t0 t1 t2 t3
      refine (Cba.out _ A3 n3 c3 ha A4 n4 c4 hb).mono ?_
      rintro e w15 ⟨rfl, hb15⟩
      have k0 := k0.below hb15
      have k1 := k1.below hb15
      have k2 := k2.below hb15
      have ha := ha.below (by omega) hb15
      have hb := hb.below (by omega) hb15
      have hc := hc.below (by omega) hb15
      have q15 := q14.trans (hb15.mono q14.size)
      clear hb15 q14
      obtain ⟨x0, x1, x2, x3⟩ := id k0
      obtain ⟨y0, y1, y2, y3⟩ := id k1
      obtain ⟨t0, t1, t2, t3⟩ := id k2
      go_wp2_with fail
      clear x0 x1 x2 x3 y0 y1 y2 y3 t0 t1 t2 t3
      refine (Cbc.out _ A4 n4 c4 hb A5 n5 c5 hc).mono ?_
      rintro e w16 ⟨rfl, hb16⟩
      have k0 := k0.below hb16
      have k1 := k1.below hb16
      have k2 := k2.below hb16
      have ha := ha.below (by omega) hb16
      have hb := hb.below (by omega) hb16
      have hc := hc.below (by omega) hb16
      have q16 := q15.trans (hb16.mono q15.size)
      clear hb16 q15
      have ht := Ht.out (by decide)
      obtain ⟨b1, t1⟩ : ∃ b, decide (0 < y) = b := ⟨_, rfl⟩
      have T1 := Lib.hid t1
      cases b1
      · have hz := ht (by have := T1.out; simp at this; omega)
        obtain ⟨t2, t3⟩ : decide (z ≤ 0) = true ∧ 0 = 0 := ⟨decide_eq_true hz, rfl⟩
        have T2 := Lib.hid t2
        clear ht t2 t3 hz
        obtain ⟨x0, x1, x2, x3⟩ := id k0
        obtain ⟨y0, y1, y2, y3⟩ := id k1
        obtain ⟨v0, v1, v2, v3⟩ := id k2
        go_wp2_with fail
        clear x0 x1 x2 x3 y0 y1 y2 y3 v0 v1 v2 v3
        refine (Cac.out _ A3 n3 c3 ha A5 n5 c5 hc).mono ?_
        rintro e w17 ⟨rfl, hb17⟩
        have t2 := T2.out
        go_wp2
        go_ret
        exact ⟨rfl, q16.trans (hb17.mono q16.size)⟩
      · clear ht
        obtain ⟨x0, x1, x2, x3⟩ := id k0
        obtain ⟨y0, y1, y2, y3⟩ := id k1
        obtain ⟨v0, v1, v2, v3⟩ := id k2
        go_wp2
        go_ret
        exact ⟨rfl, q16⟩
    · obtain ⟨x0, x1, x2, x3⟩ := id k0
      obtain ⟨y0, y1, y2, y3⟩ := id k1
      obtain ⟨t0, t1, t2, t3⟩ := id k2
      go_wp2_with fail
      clear x0 x1 x2 x3 y0 y1 y2 y3 t0 t1 t2 t3
      refine (Cab.out _ A3 n3 c3 ha A4 n4 c4 hb).mono ?_
      rintro e w11 ⟨rfl, hb11⟩
      have k0 := k0.below hb11
      have k1 := k1.below hb11
      have k2 := k2.below hb11
      have ha := ha.below (by omega) hb11
      have hb := hb.below (by omega) hb11
      have hc := hc.below (by omega) hb11
      have q11 := q2.trans (hb11.mono q2.size)
      clear hb11 q2
      obtain ⟨x0, x1, x2, x3⟩ := id k0
      obtain ⟨y0, y1, y2, y3⟩ := id k1
      obtain ⟨t0, t1, t2, t3⟩ := id k2
      go_wp2_with fail
      clear x0 x1 x2 x3 y0 y1 y2 y3 t0 t1 t2 t3
      refine (Lab.out _ A3 n3 c3 ha A4 n4 c4 hb).mono ?_
      rintro e w12 ⟨rfl, hb12⟩
      have k0 := k0.below hb12
      have k1 := k1.below hb12
      have k2 := k2.below hb12
      have ha := ha.below (by omega) hb12
      have hb := hb.below (by omega) hb12
      have hc := hc.below (by omega) hb12
      have q12 := q11.trans (hb12.mono q11.size)
      clear hb12 q11
      obtain ⟨x0, x1, x2, x3⟩ := id k0
      obtain ⟨y0, y1, y2, y3⟩ := id k1
      obtain ⟨t0, t1, t2, t3⟩ := id k2
      go_wp2_with fail
      clear x0 x1 x2 x3 y0 y1 y2 y3 t0 t1 t2 t3
      refine (Lba.out _ A3 n3 c3 ha A4 n4 c4 hb).mono ?_
      rintro e w13 ⟨rfl, hb13⟩
      have k0 := k0.below hb13
      have k1 := k1.below hb13
      have k2 := k2.below hb13
      have ha := ha.below (by omega) hb13
      have hb := hb.below (by omega) hb13
      have hc := hc.below (by omega) hb13
      have q13 := q12.trans (hb13.mono q12.size)
      clear hb13 q12
      obtain ⟨x0, x1, x2, x3⟩ := id k0
      obtain ⟨y0, y1, y2, y3⟩ := id k1
      obtain ⟨t0, t1, t2, t3⟩ := id k2
      go_wp2_with fail
      clear x0 x1 x2 x3 y0 y1 y2 y3 t0 t1 t2 t3
      refine (Eab.out _ A3 n3 c3 ha A4 n4 c4 hb).mono ?_
      rintro e w14 ⟨rfl, hb14⟩
      have k0 := k0.below hb14
      have k1 := k1.below hb14
      have k2 := k2.below hb14
      have ha := ha.below (by omega) hb14
      have hb := hb.below (by omega) hb14
      have hc := hc.below (by omega) hb14
      have q14 := q13.trans (hb14.mono q13.size)
      clear hb14 q13
      obtain ⟨x0, x1, x2, x3⟩ := id k0
      obtain ⟨y0, y1, y2, y3⟩ := id k1
      obtain ⟨t0, t1, t2, t3⟩ := id k2
      go_wp2_with fail
      clear x0 x1 x2 x3 y0 y1 y2 y3 t0 t1 t2 t3
      refine (Cba.out _ A3 n3 c3 ha A4 n4 c4 hb).mono ?_
      rintro e w15 ⟨rfl, hb15⟩
      have k0 := k0.below hb15
      have k1 := k1.below hb15
      have k2 := k2.below hb15
      have ha := ha.below (by omega) hb15
      have hb := hb.below (by omega) hb15
      have hc := hc.below (by omega) hb15
      have q15 := q14.trans (hb15.mono q14.size)
      clear hb15 q14
      obtain ⟨x0, x1, x2, x3⟩ := id k0
      obtain ⟨y0, y1, y2, y3⟩ := id k1
      obtain ⟨t0, t1, t2, t3⟩ := id k2
      go_wp2_with fail
      clear x0 x1 x2 x3 y0 y1 y2 y3 t0 t1 t2 t3
      refine (Cbc.out _ A4 n4 c4 hb A5 n5 c5 hc).mono ?_
      rintro e w16 ⟨rfl, hb16⟩
      have k0 := k0.below hb16
      have k1 := k1.below hb16
      have k2 := k2.below hb16
      have ha := ha.below (by omega) hb16
      have hb := hb.below (by omega) hb16
      have hc := hc.below (by omega) hb16
      have q16 := q15.trans (hb16.mono q15.size)
      clear hb16 q15
      have ht := Ht.out (by decide)
      obtain ⟨b1, t1⟩ : ∃ b, decide (0 < y) = b := ⟨_, rfl⟩
      have T1 := Lib.hid t1
      cases b1
      · have hz := ht (by have := T1.out; simp at this; omega)
        obtain ⟨t2, t3⟩ : decide (z ≤ 0) = true ∧ 0 = 0 := ⟨decide_eq_true hz, rfl⟩
        have T2 := Lib.hid t2
        clear ht t2 t3 hz
        obtain ⟨x0, x1, x2, x3⟩ := id k0
        obtain ⟨y0, y1, y2, y3⟩ := id k1
        obtain ⟨v0, v1, v2, v3⟩ := id k2
        go_wp2_with fail
        clear x0 x1 x2 x3 y0 y1 y2 y3 v0 v1 v2 v3
        refine (Cac.out _ A3 n3 c3 ha A5 n5 c5 hc).mono ?_
        rintro e w17 ⟨rfl, hb17⟩
        have t2 := T2.out
        go_wp2
        go_ret
        exact ⟨rfl, q16.trans (hb17.mono q16.size)⟩
      · clear ht
        obtain ⟨x0, x1, x2, x3⟩ := id k0
        obtain ⟨y0, y1, y2, y3⟩ := id k1
        obtain ⟨v0, v1, v2, v3⟩ := id k2
        go_wp2
        go_ret
        exact ⟨rfl, q16⟩
    · obtain ⟨x0, x1, x2, x3⟩ := id k0
      obtain ⟨y0, y1, y2, y3⟩ := id k1
      obtain ⟨t0, t1, t2, t3⟩ := id k2
      go_wp2_with fail
      clear x0 x1 x2 x3 y0 y1 y2 y3 t0 t1 t2 t3
      refine (Cab.out _ A3 n3 c3 ha A4 n4 c4 hb).mono ?_
      rintro e w11 ⟨rfl, hb11⟩
      have k0 := k0.below hb11
      have k1 := k1.below hb11
      have k2 := k2.below hb11
      have ha := ha.below (by omega) hb11
      have hb := hb.below (by omega) hb11
      have hc := hc.below (by omega) hb11
      have q11 := q2.trans (hb11.mono q2.size)
      clear hb11 q2
      obtain ⟨x0, x1, x2, x3⟩ := id k0
      obtain ⟨y0, y1, y2, y3⟩ := id k1
      obtain ⟨t0, t1, t2, t3⟩ := id k2
      go_wp2_with fail
      clear x0 x1 x2 x3 y0 y1 y2 y3 t0 t1 t2 t3
      refine (Lab.out _ A3 n3 c3 ha A4 n4 c4 hb).mono ?_
      rintro e w12 ⟨rfl, hb12⟩
      have k0 := k0.below hb12
      have k1 := k1.below hb12
      have k2 := k2.below hb12
      have ha := ha.below (by omega) hb12
      have hb := hb.below (by omega) hb12
      have hc := hc.below (by omega) hb12
      have q12 := q11.trans (hb12.mono q11.size)
      clear hb12 q11
      obtain ⟨x0, x1, x2, x3⟩ := id k0
      obtain ⟨y0, y1, y2, y3⟩ := id k1
      obtain ⟨t0, t1, t2, t3⟩ := id k2
      go_wp2_with fail
      clear x0 x1 x2 x3 y0 y1 y2 y3 t0 t1 t2 t3
      refine (Lba.out _ A3 n3 c3 ha A4 n4 c4 hb).mono ?_
      rintro e w13 ⟨rfl, hb13⟩
      have k0 := k0.below hb13
      have k1 := k1.below hb13
      have k2 := k2.below hb13
      have ha := ha.below (by omega) hb13
      have hb := hb.below (by omega) hb13
      have hc := hc.below (by omega) hb13
      have q13 := q12.trans (hb13.mono q12.size)
      clear hb13 q12
      obtain ⟨x0, x1, x2, x3⟩ := id k0
      obtain ⟨y0, y1, y2, y3⟩ := id k1
      obtain ⟨t0, t1, t2, t3⟩ := id k2
      go_wp2_with fail
      clear x0 x1 x2 x3 y0 y1 y2 y3 t0 t1 t2 t3
      refine (Eab.out _ A3 n3 c3 ha A4 n4 c4 hb).mono ?_
      rintro e w14 ⟨rfl, hb14⟩
      have k0 := k0.below hb14
      have k1 := k1.below hb14
      have k2 := k2.below hb14
      have ha := ha.below (by omega) hb14
      have hb := hb.below (by omega) hb14
      have hc := hc.below (by omega) hb14
      have q14 := q13.trans (hb14.mono q13.size)
      clear hb14 q13
      obtain ⟨x0, x1, x2, x3⟩ := id k0
      obtain ⟨y0, y1, y2, y3⟩ := id k1
      obtain ⟨t0, t1, t2, t3⟩ := id k2
      go_wp2_with fail
      clear x0 x1 x2 x3 y0 y1 y2 y3 t0 t1 t2 t3
      refine (Cba.out _ A3 n3 c3 ha A4 n4 c4 hb).mono ?_
      rintro e w15 ⟨rfl, hb15⟩
      have k0 := k0.below hb15
      have k1 := k1.below hb15
      have k2 := k2.below hb15
      have ha := ha.below (by omega) hb15
      have hb := hb.below (by omega) hb15
      have hc := hc.below (by omega) hb15
      have q15 := q14.trans (hb15.mono q14.size)
      clear hb15 q14
      obtain ⟨x0, x1, x2, x3⟩ := id k0
      obtain ⟨y0, y1, y2, y3⟩ := id k1
      obtain ⟨t0, t1, t2, t3⟩ := id k2
      go_wp2
      go_ret
      exact ⟨rfl, q15⟩
end Go.Proofs.Ytiepdafjbblllaa
