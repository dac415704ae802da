/-
  The walk of BatchChecks: it returns true at every input. (Printed by genbatchlaws1.py.) No condition.
-/
import Derived.Test.YtfonincdhjkacaaGBat
namespace Go.Proofs.Ytfonincdhjkacaa
open Go.RowKit
set_option maxRecDepth 20000
theorem few_bounds (ls : List OpL) (k : Nat) : (fewOps ls k).length ≤ k ∧ ∀ o ∈ fewOps ls k, o.key.length ≤ 80 ∧ o.value.length ≤ 600 := by
  unfold fewOps
  refine ⟨by rw [List.length_map, List.length_take]; omega, fun o ho => ?_⟩
  obtain ⟨x, _, rfl⟩ := List.mem_map.1 ho
  unfold cutOp
  simp only [List.length_take]
  omega
set_option maxHeartbeats 8000000 in
theorem batchChecks.walk (w : World) (A : Option Addr) (n c : Nat) (ls : List OpL) (h : SlR w (fun _ => True) A n c ls) :
    Calls Try.prog 5 #[.slice A n c] w fun e w' => e = .returned (.bool true) ∧ Below w.heap.size w w' := by
  go_enter Try.func5, Try.ntmps5
  go_wp2_with fail
  refine (awake04 w).mono ?_
  rintro e w1 ⟨rfl, hb1⟩
  have h1 := h.below hb1
  clear h
  go_wp2_with fail
  refine (fewops_any w1 _ A n c ls 70 h1 (by omega)).mono ?_
  rintro e w2 ⟨A2, n2, c2, rfl, ho2, hb2⟩
  have s2 := ho2.sl
  have q2 := hb1.trans (hb2.mono hb1.size)
  have hfb := few_bounds ls 70
  generalize fewOps ls 70 = fs at *
  have hl2 := s2.lenR
  have hn2 : n2 ≤ 70 := by omega
  clear hb1 hb2 ho2 h1 hfb hl2
  go_wp2
  go_loopw [11] (fun q wr => ∃ j : Nat, j ≤ n2 ∧ q = .int .i64 j ∧ Below w2.heap.size w2 wr) (fun q _ => n2 - (intOf q).toNat)
  case atStart => exact ⟨0, Nat.zero_le _, rfl, Below.refl _ _⟩
  case round =>
    obtain ⟨j, hj, rfl, hbr⟩ := hrel
    by_cases hlt : j < n2
    · obtain ⟨b, o, A3, n3, c3, A4, n4, c4, hjl, rfl, d0, d1, d2, hs3, hs4⟩ := s2.opAt hlt
      have d0 := stays hbr d0
      have d1 := stays hbr d1
      have d2 := stays hbr d2
      have c1 := fun w' (hb : Below w2.heap.size w2 w') => checkop_any w' A3 n3 c3 A4 n4 c4 fs[j] (hs3.below (by omega) hb) (hs4.below (by omega) hb)
      have c2' := fun w' (hb : Below w2.heap.size w2 w') => rcheckop_any w' A3 n3 c3 A4 n4 c4 fs[j] (hs3.below (by omega) hb) (hs4.below (by omega) hb)
      generalize checkOpL fs[j] = x at *
      generalize fs[j].kind.toNat = d at *
      have C1 := Lib.hid c1
      have C2 := Lib.hid c2'
      have S2 := Lib.hid s2
      have hxx : ((x : Int) != (x : Int)) = false := by simp
      have hxy : ((x : Int) == (x : Int)) = true := by simp
      clear c1 c2' hs3 hs4 s2
      have al := (Below.refl wr.heap.size wr).alloc (Nat.le_refl _) (.cells #[.int .u8 (d : Int), .slice A3 n3 c3, .slice A4 n4 c4] 47)
      have kB := Bx.fresh wr (.int .u8 (d : Int)) (.slice A3 n3 c3) (.slice A4 n4 c4) 47
      have hbr := hbr.trans (al.mono hbr.size)
      go_wp2_with fail
      clear d0 d1 d2 al
      generalize hW : (wr.alloc (.cells #[.int .u8 (d : Int), .slice A3 n3 c3, .slice A4 n4 c4] 47)) = wa at *
      generalize hG : wr.heap.size = g at *
      have kB := kB.drew
      have hbr := hbr.drew
      refine regionS 5 (fun w' => Bx w' g (.int .u8 (d : Int)) (.slice A3 n3 c3) (.slice A4 n4 c4)) (by kernel_rfl) ?_
      try (change AnyS _ _ _ _ _ _ _ _ _ (World.drew _))
      generalize wa.drew = wb at *
      refine takeS (i := 0) (v := ?_) rfl (by kernel_rfl) (by kernel_rfl) (by kernel_rfl) (by kernel_rfl) (by kernel_rfl) (fun _ _ _ h => h) (Or.inl ⟨by kernel_rfl, ?_⟩) kB ?_
      case refine_2 =>
        intro wS hSw
        obtain ⟨x0, x1, x2, x3⟩ := hSw
        go_simp
        try with_reducible rfl
      try simp only [List.getElem_toArray, List.getElem_cons_succ, List.getElem_cons_zero, Act.put, List.setIfInBounds_toArray, List.set_cons_zero, List.set_cons_succ]
      refine takeS (i := 2) (v := ?_) rfl (by kernel_rfl) (by kernel_rfl) (by kernel_rfl) (by kernel_rfl) (by kernel_rfl) (fun _ _ _ h => h) (Or.inl ⟨by kernel_rfl, ?_⟩) kB ?_
      case refine_2 =>
        intro wS hSw
        obtain ⟨x0, x1, x2, x3⟩ := hSw
        go_simp
        try with_reducible rfl
      try simp only [List.getElem_toArray, List.getElem_cons_succ, List.getElem_cons_zero, Act.put, List.setIfInBounds_toArray, List.set_cons_zero, List.set_cons_succ]
      refine readyS (i := 1) (by kernel_rfl) rfl (fun K hK => ?_)
      go_simp
      refine (C1.out _ hbr).mono ?_
      rintro e w4 ⟨rfl, hb4⟩
      refine hK _ _ (kB.below hb4) ?_
      clear hK K
      have kB := kB.below hb4
      have hbr := hbr.trans (hb4.mono hbr.size)
      clear hb4
      refine readyS (i := 3) (by kernel_rfl) rfl (fun K hK => ?_)
      go_simp
      refine (C2.out _ hbr).mono ?_
      rintro e w4 ⟨rfl, hb4⟩
      refine hK _ _ (kB.below hb4) ?_
      clear hK K
      have kB := kB.below hb4
      have hbr := hbr.trans (hb4.mono hbr.size)
      clear hb4
      refine takeS (i := 4) (v := ?_) rfl (by kernel_rfl) (by kernel_rfl) (by kernel_rfl) (by kernel_rfl) (by kernel_rfl) (fun _ _ _ h => h) (Or.inl ⟨by kernel_rfl, ?_⟩) kB ?_
      case refine_2 =>
        intro wS hSw
        clear hSw
        go_simp
        try with_reducible rfl
      try simp only [List.getElem_toArray, List.getElem_cons_succ, List.getElem_cons_zero, Act.put, List.setIfInBounds_toArray, List.set_cons_zero, List.set_cons_succ]
      refine doneS (by kernel_rfl) ?_ _
      try simp only [List.getElem_toArray, List.getElem_cons_succ, List.getElem_cons_zero, Act.put, List.setIfInBounds_toArray, List.set_cons_zero, List.set_cons_succ]
      go_wp2
      go_roundw
      case rel => exact ⟨j + 1, by omega, by go_num, hbr⟩
      case measure => simp [intOf]; omega
    · obtain rfl : n2 = j := by omega
      have c1 := fun w' (hb : Below w2.heap.size w2 w') => checkops_any w' _ A2 n2 c2 fs (s2.below hb)
      have c2' := fun w' (hb : Below w2.heap.size w2 w') => rcheckops_any w' _ A2 n2 c2 fs (s2.below hb)
      generalize checkOpsL fs = x at *
      have C1 := Lib.hid c1
      have C2 := Lib.hid c2'
      have hxx : ((x : Int) != (x : Int)) = false := by simp
      have hxy : ((x : Int) == (x : Int)) = true := by simp
      clear c1 c2' s2
      go_wp2_with fail
      refine (C1.out _ hbr).mono ?_
      rintro e w3 ⟨rfl, hb3⟩
      have hbr := hbr.trans (hb3.mono hbr.size)
      clear hb3
      go_wp2_with fail
      refine (C2.out _ hbr).mono ?_
      rintro e w4 ⟨rfl, hb4⟩
      have hbr := hbr.trans (hb4.mono hbr.size)
      go_wp2
      go_ret
      exact ⟨rfl, q2.trans (hbr.mono q2.size)⟩
end Go.Proofs.Ytfonincdhjkacaa
