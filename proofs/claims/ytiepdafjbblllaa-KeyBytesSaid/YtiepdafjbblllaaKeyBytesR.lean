/-
  What the reference's Bytes makes of a version. No condition.
-/
import Derived.Test.YtiepdafjbblllaaKeyMake
import Derived.Test.YtiepdafjbblllaaHeldF
import Derived.Test.YtiepdafjbblllaaZeros
import Derived.Deep.CutRange
namespace Go.Proofs.Ytiepdafjbblllaa
open Go.RowKit
set_option maxRecDepth 20000
theorem Bx.grownO {w w' : World} {g : Nat} {row : Option Nat} {u0 u1 u2 : Value} (h : Bx w g u0 u1 u2) (hg : w.grownBy w' row) (hne : row ≠ some g) : Bx w' g u0 u1 u2 := by
  have hh : w'.heap[g]? = w.heap[g]? := hg.block g h.lt (fun e => hne e.symm)
  have hc : ∀ j : Nat, w'.cell? ⟨g, j, none⟩ = w.cell? ⟨g, j, none⟩ := fun j => World.cell?_of_block (a := ⟨g, j, none⟩) hh
  exact ⟨(hc 0).trans h.c0, (hc 1).trans h.c1, (hc 2).trans h.c2, fun j => (World.frozen?_of_block (a := ⟨g, j, none⟩) hh).trans (h.fr j)⟩
set_option maxHeartbeats 8000000 in
theorem rkbytes_any (w : World) (A : Option Addr) (n c : Nat) (k : KeyL) (h : Sl w 1 A n c (bc k.user)) :
    Calls Try.prog 58 #[.agg #[.slice A n c, .int .u64 (k.seq.toNat : Int), .int .u8 (k.kind.toNat : Int)]] w (GotBE w (keyBE k).1 (keyBE k).2) := by
  have ck := fun (w' : World) (hb : Below w.heap.size w w') => rcheck_any w' A n c k (h.below (by omega) hb)
  by_cases hc : checkKey k = 0
  · have e : keyBE k = (textL k.user ++ le8 (keyN k), 0) := by unfold keyBE; rw [if_pos hc]; rfl
    rw [e]
    simp only [hc] at ck
    clear e
    have hlen := h.lenb
    have hb0 := hc
    unfold checkKey at hb0
    have hs : k.seq.toNat < 72057594037927936 ∧ n ≤ 64 := by
      repeat' split at hb0
      all_goals omega
    unfold keyN
    have hd := k.kind.toNat_lt
    have ct := fun (w' : World) (hb : Below w.heap.size w w') => rtext_any w' A n c k.user (h.below (by omega) hb) (by omega)
    have htl : (textL k.user).length ≤ 73 := by
      have := (num_len k.user.length).2
      unfold textL
      rw [List.length_append]
      omega
    generalize textL k.user = t at *
    generalize k.seq.toNat = s at *
    generalize k.kind.toNat = d at *
    have hlit0 : ∀ w' : World, Sl (w'.alloc (.cells #[.int .u8 (d : Int)] 5)) 1 (some ⟨w'.heap.size, 0, none⟩) 1 1 (bc [UInt8.ofNat d]) := fun w' =>
      Sl.lit w' _ _ 1 _ _ rfl (by unfold maxLen; omega) (by simp [bc]; omega)
    have hone : (le8 (s * 256 + d)).take 1 = [UInt8.ofNat d] := by
      rw [le8_take _ 0 (by omega), List.take_zero, List.nil_append]
      congr 1
      apply UInt8.toNat_inj.1
      simp
    have hdiv : ∀ j, (s * 256 + d) / 256 ^ (j + 1) = s / 256 ^ j := by
      intro j
      rw [Nat.pow_succ, Nat.mul_comm (256 ^ j) 256, ← Nat.div_div_eq_div_mul]
      congr 1
      omega
    have htake := fun j (hj : j < 8) => le8_take (s * 256 + d) j hj
    have hl8 := le8_len (s * 256 + d)
    generalize le8 (s * 256 + d) = L at *
    have hs1 := hs.1
    have Ck := Lib.hid ck
    have Ct := Lib.hid ct
    have Htl := Lib.hid htl
    have Hone := Lib.hid hone
    have Hdiv := Lib.hid hdiv
    have Htake := Lib.hid htake
    have Hl8 := Lib.hid hl8
    have Hlit0 := Lib.hid hlit0
    have Hs1 := Lib.hid hs1
    clear ck ct hc hb0 h hlen htl hs hone hdiv htake hl8 hlit0 hd hs1
    have hbA := (Below.refl w.heap.size w).alloc (Nat.le_refl _) (.cells #[.slice A n c, .int .u64 (s : Int), .int .u8 (d : Int)] 25)
    have hk := Bx.fresh w (.slice A n c) (.int .u64 (s : Int)) (.int .u8 (d : Int)) 25
    go_enter Try.func58, Try.ntmps58
    go_wp2_with fail
    refine (Ck.out _ hbA).mono ?_
    rintro e w1 ⟨rfl, hb1⟩
    have q1 := (hbA.trans (hb1.mono hbA.size)).drew
    have hk := (hk.below hb1).drew
    clear hb1 hbA
    go_wp2_with fail
    go_cut [5] from 7 (fun s5 wx => ∃ (B : Option Addr) (m p : Nat), s5 = .slice B m p ∧ OwnB wx w.heap.size B m p (t ++ [UInt8.ofNat d]) ∧ Below w.heap.size w wx ∧ Bx wx w.heap.size (.slice A n c) (.int .u64 (s : Int)) (.int .u8 (d : Int)))
    case first =>
      generalize hW : w1.drew = w2 at *
      refine regionF (fun _ wa wb => Bx wa w.heap.size (.slice A n c) (.int .u64 (s : Int)) (.int .u8 (d : Int)) → Bx wb w.heap.size (.slice A n c) (.int .u64 (s : Int)) (.int .u8 (d : Int))) (by kernel_rfl) ?_
      rw [hW]
      clear hW
      refine takeF (i := 0) (v := ?_) (fun wa => Bx wa w.heap.size (.slice A n c) (.int .u64 (s : Int)) (.int .u8 (d : Int))) rfl (by kernel_rfl) (by kernel_rfl) (by kernel_rfl) (fun j hj => .inr (.inr fun wa wb h g => g h)) (fun wa => id) (fun _ _ _ h => h) (Or.inl ⟨by kernel_rfl, ?hy⟩) hk ?_
      case hy =>
        intro wS hSw
        clear hSw
        go_simp
        try with_reducible rfl
      refine takeF (i := 1) (v := ?_) (fun wa => Bx wa w.heap.size (.slice A n c) (.int .u64 (s : Int)) (.int .u8 (d : Int))) rfl (by kernel_rfl) (by kernel_rfl) (by kernel_rfl) (fun j hj => .inr (.inr fun wa wb h g => g h)) (fun wa => id) (fun _ _ _ h => h) (Or.inl ⟨by kernel_rfl, ?hy⟩) hk ?_
      case hy =>
        intro wS hSw
        obtain ⟨x0, x1, x2, x3⟩ := hSw
        go_simp
        try with_reducible rfl
      refine takeF (i := 3) (v := ?_) (fun wa => Bx wa w.heap.size (.slice A n c) (.int .u64 (s : Int)) (.int .u8 (d : Int))) rfl (by kernel_rfl) (by kernel_rfl) (by kernel_rfl) (fun j hj => .inr (.inr fun wa wb h g => g h)) (fun wa => id) (fun _ _ _ h => h) (Or.inl ⟨by kernel_rfl, ?hy⟩) hk ?_
      case hy =>
        intro wS hSw
        clear hSw
        go_simp
        try with_reducible rfl
      refine takeF (i := 4) (v := ?_) (fun wa => Bx wa w.heap.size (.slice A n c) (.int .u64 (s : Int)) (.int .u8 (d : Int))) rfl (by kernel_rfl) (by kernel_rfl) (by kernel_rfl) (fun j hj => .inr (.inr fun wa wb h g => g h)) (fun wa => id) (fun _ _ _ h => h) (Or.inl ⟨by kernel_rfl, ?hy⟩) hk ?_
      case hy =>
        intro wS hSw
        obtain ⟨x0, x1, x2, x3⟩ := hSw
        go_simp
        try with_reducible rfl
      refine readyF (rs := [2, 5]) (by kernel_rfl) (by simp) ?_
      refine AllF.cons rfl (fun K hK => ?_) ?_
      · go_simp
        refine (Ct.out _ q1).mono ?_
        rintro e w3 ⟨A3, n3, c3, rfl, ho3, hb3⟩
        refine hK _ _ (fun h => h.below hb3) ?_
        clear hK K
        have hz := hk.lt
        have ho3 := Own.mono (B' := w.heap.size + 1) ho3 hz
        have hk := hk.below hb3
        have q3 := q1.trans (hb3.mono q1.size)
        refine readyF (rs := [5]) (by kernel_rfl) (by simp) ?_
        refine AllF.cons rfl (fun K hK => ?_) AllF.nil
        go_simp
        refine hK _ _ (fun h => h.below ((Below.refl _ _).alloc (Nat.le_refl _) _)) ?_
        clear hK K
        have hlit := Hlit0.out w3
        have bl := (Below.refl w3.heap.size w3).alloc (Nat.le_refl _) (.cells #[.int .u8 (d : Int)] 5)
        have ho3 := Own.below ho3 bl
        have hk := hk.below bl
        have q4 := q3.trans (bl.mono q3.size)
        generalize (w3.alloc (.cells #[.int .u8 (d : Int)] 5)) = w4 at *
        refine readyF (rs := [6]) (by kernel_rfl) (by simp) ?_
        refine AllF.cons rfl (fun K hK => ?_) AllF.nil
        refine step_appB (by rfl) (.tmp 14) (.tmp 17) (by rfl) (w.heap.size + 1) A3 n3 c3 _ (by rfl) ho3 _ 1 1 _ (by rfl) hlit (by have h1 := OwnB.len' (l := t) ho3; have h2 := Htl.out; omega) hk.lt ?_
        intro A4 c4 w5 ho5 hg5 hx5
        have hne : blk A3 c3 ≠ some w.heap.size := fun e => by have := (Own.lt ho3 _ e).1; omega
        refine hK _ _ (fun h => Bx.grownO h hg5 hne) ?_
        clear hK K
        have hk := Bx.grownO hk hg5 hne
        have q5 := q4.grown hg5 q4.size (fun k e => by have := (Own.lt ho3 _ e).1; omega)
        refine takeF (i := 7) (v := ?_) (fun wa => Bx wa w.heap.size (.slice A n c) (.int .u64 (s : Int)) (.int .u8 (d : Int))) rfl (by kernel_rfl) (by kernel_rfl) (by kernel_rfl) (fun j hj => .inr (.inr fun wa wb h g => g h)) (fun wa => id) (fun _ _ _ h => h) (Or.inl ⟨by kernel_rfl, ?hy⟩) hk ?_
        case hy =>
          intro wS hSw
          clear hSw
          go_simp
          try with_reducible rfl
        refine doneF (by kernel_rfl) ?_ _
        try simp only [List.getElem_toArray, List.getElem_cons_succ, List.getElem_cons_zero, Act.put, List.setIfInBounds_toArray, List.set_cons_zero, List.set_cons_succ]
        go_wp2_with fail
        go_meet
        exact ⟨A4, _, c4, rfl, Own.mono ho5 (by omega), q5, hk⟩
      refine AllF.cons rfl (fun K hK => ?_) AllF.nil
      go_simp
      refine hK _ _ (fun h => h.below ((Below.refl _ _).alloc (Nat.le_refl _) _)) ?_
      clear hK K
      have hlit := Hlit0.out w2
      have hz := hk.lt
      have bl := (Below.refl w2.heap.size w2).alloc (Nat.le_refl _) (.cells #[.int .u8 (d : Int)] 5)
      have hk := hk.below bl
      have q3 := q1.trans (bl.mono q1.size)
      have hz2 := bl.size
      generalize (w2.alloc (.cells #[.int .u8 (d : Int)] 5)) = w4 at *
      refine readyF (rs := [2]) (by kernel_rfl) (by simp) ?_
      refine AllF.cons rfl (fun K hK => ?_) AllF.nil
      go_simp
      refine (Ct.out _ q3).mono ?_
      rintro e w3 ⟨A3, n3, c3, rfl, ho3, hb3⟩
      refine hK _ _ (fun h => h.below hb3) ?_
      clear hK K
      have ho3 := Own.mono (B' := w.heap.size + 1) ho3 (by omega)
      have hk := hk.below hb3
      have hlit := hlit.below (by omega) hb3
      have q4 := q3.trans (hb3.mono q3.size)
      refine readyF (rs := [6]) (by kernel_rfl) (by simp) ?_
      refine AllF.cons rfl (fun K hK => ?_) AllF.nil
      refine step_appB (by rfl) (.tmp 14) (.tmp 17) (by rfl) (w.heap.size + 1) A3 n3 c3 _ (by rfl) ho3 _ 1 1 _ (by rfl) hlit (by have h1 := OwnB.len' (l := t) ho3; have h2 := Htl.out; omega) hk.lt ?_
      intro A4 c4 w5 ho5 hg5 hx5
      have hne : blk A3 c3 ≠ some w.heap.size := fun e => by have := (Own.lt ho3 _ e).1; omega
      refine hK _ _ (fun h => Bx.grownO h hg5 hne) ?_
      clear hK K
      have hk := Bx.grownO hk hg5 hne
      have q5 := q4.grown hg5 q4.size (fun k e => by have := (Own.lt ho3 _ e).1; omega)
      refine takeF (i := 7) (v := ?_) (fun wa => Bx wa w.heap.size (.slice A n c) (.int .u64 (s : Int)) (.int .u8 (d : Int))) rfl (by kernel_rfl) (by kernel_rfl) (by kernel_rfl) (fun j hj => .inr (.inr fun wa wb h g => g h)) (fun wa => id) (fun _ _ _ h => h) (Or.inl ⟨by kernel_rfl, ?hy⟩) hk ?_
      case hy =>
        intro wS hSw
        clear hSw
        go_simp
        try with_reducible rfl
      refine doneF (by kernel_rfl) ?_ _
      try simp only [List.getElem_toArray, List.getElem_cons_succ, List.getElem_cons_zero, Act.put, List.setIfInBounds_toArray, List.set_cons_zero, List.set_cons_succ]
      go_wp2_with fail
      go_meet
      exact ⟨A4, _, c4, rfl, Own.mono ho5 (by omega), q5, hk⟩
    case rest =>
      obtain ⟨B, m, p, rfl, ho, q2, hk⟩ := hcut
      obtain ⟨x0, x1, x2, x3⟩ := id hk
      clear q1
      go_wp2
      go_loopw [5, 6, 21] (fun a b i wr => ∃ (j v : Nat), Hid (v = s / 256 ^ j) ∧ j ≤ 7 ∧ i = .int .i64 (j : Int) ∧ b = .int .u64 (v : Int) ∧ Below w.heap.size w wr ∧ ∃ (B : Option Addr) (m p : Nat), a = .slice B m p ∧ OwnB wr w.heap.size B m p (t ++ L.take (j + 1))) (fun _ _ i _ => (7 - intOf i).toNat)
      case atStart => exact ⟨0, s, by unfold Hid; simp, by omega, rfl, rfl, q2, B, m, p, rfl, by rw [Nat.zero_add, Hone.out]; exact ho⟩
      case round =>
        obtain ⟨j, v, Hv, hj, rfl, rfl, hbr, B2, m2, p2, rfl, ho2⟩ := hrel
        have hm := OwnB.len' ho2
        rw [List.length_append, List.length_take, Hl8.out] at hm
        have Hm := Lib.hid hm
        clear hm
        have hsz := hbr.size
        by_cases hj7 : j < 7
        · have hvl : v < 18446744073709551616 := by rw [Hv.out]; exact Nat.lt_of_le_of_lt (Nat.div_le_self _ _) (by have := Hs1.out; omega)
          have hlit : Sl (wr.alloc (.cells #[.int .u8 ((v : Int) % 256)] 5)) 1 (some ⟨wr.heap.size, 0, none⟩) 1 1 (bc [UInt8.ofNat v]) :=
            Sl.lit wr _ _ 1 _ _ rfl (by unfold maxLen; omega) (by simp [bc])
          have hoa : OwnB (wr.alloc (.cells #[.int .u8 ((v : Int) % 256)] 5)) w.heap.size B2 m2 p2 (t ++ L.take (j + 1)) := Own.below ho2 ((Below.refl wr.heap.size wr).alloc (Nat.le_refl _) _)
          have hmore := Htake.out (j + 1) (by omega)
          rw [Hdiv.out, ← Hv.out] at hmore
          have Hmore := Lib.hid hmore
          have Hj := Lib.hid hj7
          clear hmore ho2 hj
          go_wp2_with (at_builtin; refine wpList_appB _ rfl (.tmp 23) (.tmp 27) rfl w.heap.size B2 m2 p2 _ rfl hoa _ 1 1 _ rfl hlit ?_ ?_ ?_)
          · have h1 := Hm.out; have h2 := Htl.out; omega
          · simp; omega
          intro A4 c4 w4 ho4 hg4 _
          go_wp2
          go_roundw
          case rel =>
            refine ⟨j + 1, v / 256, ?_, by have := Hj.out; omega, by go_num, by simp, (hbr.alloc hsz _).grown hg4 (by simp; omega) (fun q hq => (Own.lt hoa q hq).1), A4, _, c4, rfl, ?_⟩
            · unfold Hid; rw [Hv.out, Nat.div_div_eq_div_mul, Nat.pow_succ]
            · rw [Hmore.out]
              exact ho4
          case measure => have := Hj.out; simp [intOf]; omega
        · obtain rfl : j = 7 := by omega
          rw [List.take_of_length_le (by rw [Hl8.out]; omega)] at ho2
          go_wp2
          go_ret2
          exact ⟨B2, m2, p2, rfl, ho2, hbr⟩
  · have e : keyBE k = ([], checkKey k) := by unfold keyBE; rw [if_neg hc]
    rw [e]
    clear e
    generalize checkKey k = q at *
    have hq : ((q : Int) == 0) = false := by rw [beq_eq_false_iff_ne]; omega
    have hq2 : ((q : Int) != 0) = true := by rw [bne_iff_ne]; omega
    generalize k.seq.toNat = s at *
    generalize k.kind.toNat = d at *
    have Ck := Lib.hid ck
    clear ck hc h
    go_enter Try.func58, Try.ntmps58
    go_wp2_with fail
    have hbA := (Below.refl w.heap.size w).alloc (Nat.le_refl _) (.cells #[.slice A n c, .int .u64 (s : Int), .int .u8 (d : Int)] 25)
    refine (Ck.out _ hbA).mono ?_
    rintro e w1 ⟨rfl, hb1⟩
    go_wp2
    go_ret2
    exact ⟨none, 0, 0, rfl, Own.nil _ _ _ _ _, hbA.trans (hb1.mono hbA.size)⟩
end Go.Proofs.Ytiepdafjbblllaa
