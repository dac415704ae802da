/-
  What the reference's Few makes of ops: their bytes are the call's own. (Printed by genbatchfewy.py.) No condition.
-/
import Derived.Test.YtpjinmiedanebaaDoorBatchFew
import Derived.Test.YtpjinmiedanebaaDoorJFrame
import Derived.Test.YtpjinmiedanebaaDoorJFrameR
namespace Go.Proofs.YtpjinmiedanebaaDoor
open Go.RowKit
set_option maxRecDepth 20000
theorem step_appY {α : Type} [Rep α] {ops : Array Oper} {o : Oper} {a : Act} {w : World} {K : Act → World → Prop} {Q : Exit → Act → World → Prop} {E : Prop} (hgd : o.guard = none) (s x : Operand) (t : TypeId)
    (ho : o.op = .call { callee := .builtin .append, args := #[s, x], argTypes := #[t, t] })
    (B : Nat) (e t8 : TypeId) (z : Value) (bytes : Nat) (ht : Tryd.prog.underlying t = some (.slice e)) (hi : (Tryd.prog.info? e).map (fun i => (i.zero, i.size, i.bytes)) = some (some z, Rep.size α, bytes))
    (hzs : z.cells.size = Rep.size α)
    (A : Option Addr) (n c : Nat) (ls : List α) (hsv : a.eval s = .slice A n c) (hown : OwnY w B e t8 A n c ls)
    (A2 : Option Addr) (m c2 : Nat) (ms : List α) (hx : a.eval x = .slice A2 m c2) (hs : ∃ xs, Sl w (Rep.size α) A2 m c2 xs ∧ RowC w (fun b => blk A c ≠ some b ∧ OwnU w B t8 b) xs ms)
    (h63 : n + m ≤ maxLen) (hbytes : (n + m) * bytes ≤ 140737488355328) (hB : B ≤ w.heap.size)
    (h : ∀ A' c' w', OwnY w' B e t8 A' (n + m) c' (ls ++ ms) → w.grownBy w' (blk A c) → (blk A' c' = blk A c ∨ blk A' c' = some w.heap.size) → K (a.put o.dst (.slice A' (n + m) c')) w') :
    if Region.wanted o (yielded ops a.tmps) = true then Oper.wp Tryd.prog o a w K Q else E := by
  have hw : Region.wanted o (yielded ops a.tmps) = true := by simp [Region.wanted, hgd]
  rw [if_pos hw]
  obtain ⟨A', c', w', hrun, h2, h3, h4⟩ := row_appY Tryd.prog w t o.type t8 z bytes ht hi hzs hown A2 m c2 ms hs h63 hbytes hB
  unfold Oper.wp execOp
  simp only [ho, resolve, invoke, builtin, Sem.run_bind, Sem.run_pure, Result.andThen_ok, List.map_toArray, List.map_cons, List.map_nil, hsv, hx, hrun]
  exact h A' c' w' h2 h3 h4
set_option maxHeartbeats 8000000 in
theorem fewopsY_any (w : World) (p : Nat → Prop) (A : Option Addr) (n c : Nat) (ls : List OpL) (k : Nat) (h : SlR w p A n c ls) (hk : k ≤ 1000) :
    Calls Tryd.prog 25 #[.slice A n c, .int .i64 (k : Int)] w fun e w' => ∃ A' n' c', e = .returned (.slice A' n' c') ∧ OwnY w' w.heap.size 88 5 A' n' c' (fewOps ls k) ∧ Below w.heap.size w w' := by
  have hcp := h.cap
  unfold maxLen at hcp
  have hl := h.lenR
  have Hl := Lib.hid hl
  clear hl
  go_enter Tryd.func25, Tryd.ntmps25
  go_wp2
  go_loopw [5, 10] (fun s q wr => ∃ j : Nat, j ≤ n ∧ q = .int .i64 j ∧ Below w.heap.size w wr ∧ ∃ A2 n2 c2, s = .slice A2 n2 c2 ∧ OwnY wr w.heap.size 88 5 A2 n2 c2 (fewOps (ls.take j) k)) (fun _ q _ => n - (intOf q).toNat)
  case atStart => exact ⟨0, Nat.zero_le _, rfl, Below.refl _ _, none, 0, 0, rfl, (show fewOps (ls.take 0) k = [] from by simp [fewOps]) ▸ OwnY.nil _ _ _ _ _⟩
  case round =>
    obtain ⟨j, hj, rfl, hbr, A2, n2, c2, rfl, ho2⟩ := hrel
    by_cases hlt : j < n
    · obtain ⟨b, o, x, cs, rfl, hx, ⟨v, v', rfl, hk', hv⟩, hcell⟩ := (h.below hbr).get hlt
      obtain ⟨A3, n3, c3, rfl, hs3, _⟩ := hk'
      obtain ⟨A4, n4, c4, rfl, hs4, _⟩ := hv
      have d0 : wr.cell? ⟨b, o + j * 3, none⟩ = some (.int .u8 (x.kind.toNat : Int)) := hcell 0 _ rfl
      have d1 : wr.cell? ⟨b, o + j * 3 + 1, none⟩ = some (.slice A3 n3 c3) := hcell 1 _ rfl
      have d2 : wr.cell? ⟨b, o + j * 3 + 2, none⟩ = some (.slice A4 n4 c4) := hcell 2 _ rfl
      clear hcell
      obtain ⟨hjl, rfl⟩ := List.getElem?_eq_some_iff.1 hx
      have hst := few_step ls k j hjl
      have hcut : cutOp ls[j] = ⟨ls[j].kind, ls[j].key.take 80, ls[j].value.take 600⟩ := rfl
      rw [hcut] at hst
      have hn2 : n2 ≤ 1000 := by
        have h1 := ho2.lenR
        unfold fewOps at h1
        rw [List.length_map, List.length_take] at h1
        omega
      clear hcut hx
      generalize ls[j].kind = d at *
      generalize ls[j].key = y at *
      generalize ls[j].value = z at *
      have Hst := Lib.hid hst
      clear hst
      by_cases hjk : j < k
      · have hjk' : decide ((j : Int) < (k : Int)) = true := decide_eq_true (by omega)
        have hst := Hst.out
        rw [if_pos hjk] at hst
        have Hst := Lib.hid hst
        clear hst
        have hlt2 : ∀ b, blk A2 c2 = some b → w.heap.size ≤ b ∧ b < wr.heap.size := by
          obtain ⟨xs2, hO2, _⟩ := ho2
          exact fun b e => Own.lt hO2 b e
        have al := (Below.refl wr.heap.size wr).alloc (Nat.le_refl _) (.cells #[.int .u8 (d.toNat : Int), .slice A3 n3 c3, .slice A4 n4 c4] 88)
        have kB := Bx.fresh wr (.int .u8 (d.toNat : Int)) (.slice A3 n3 c3) (.slice A4 n4 c4) 88
        have hs3 := hs3.below (by omega) al
        have hs4 := hs4.below (by omega) al
        have ho2 := ho2.below al
        have hbr := hbr.trans (al.mono hbr.size)
        go_wp2_with fail
        clear d0 d1 d2 al
        generalize hW : (wr.alloc (.cells #[.int .u8 (d.toNat : Int), .slice A3 n3 c3, .slice A4 n4 c4] 88)) = w1 at *
        generalize hG : wr.heap.size = g at *
        have kB := kB.drew
        have hs3 := hs3.drew
        have hs4 := hs4.drew
        have ho2 := OwnY.below ho2 (below_drew (Below.refl _ _))
        have hbr := hbr.drew
        refine regionS 13 (fun w' => Bx w' g (.int .u8 (d.toNat : Int)) (.slice A3 n3 c3) (.slice A4 n4 c4)) (by kernel_rfl) ?_
        try (change AnyS _ _ _ _ _ _ _ _ _ (World.drew _))
        generalize w1.drew = w2 at *
        have hzg2 := kB.lt
        refine takeS (i := 0) (v := ?_) rfl (by kernel_rfl) (by kernel_rfl) (by kernel_rfl) (by kernel_rfl) (by kernel_rfl) (fun _ _ _ h => h) (Or.inl ⟨by kernel_rfl, ?_⟩) kB ?_
        case refine_2 =>
          intro wS hSw
          clear hSw
          go_simp
          try with_reducible rfl
        try simp only [List.getElem_toArray, List.getElem_cons_succ, List.getElem_cons_zero, Act.put, List.setIfInBounds_toArray, List.set_cons_zero, List.set_cons_succ]
        refine takeS (i := 1) (v := ?_) rfl (by kernel_rfl) (by kernel_rfl) (by kernel_rfl) (by kernel_rfl) (by kernel_rfl) (fun _ _ _ h => h) (Or.inl ⟨by kernel_rfl, ?_⟩) kB ?_
        case refine_2 =>
          intro wS hSw
          clear hSw
          go_simp
          try with_reducible rfl
        try simp only [List.getElem_toArray, List.getElem_cons_succ, List.getElem_cons_zero, Act.put, List.setIfInBounds_toArray, List.set_cons_zero, List.set_cons_succ]
        refine takeS (i := 2) (v := ?_) rfl (by kernel_rfl) (by kernel_rfl) (by kernel_rfl) (by kernel_rfl) (by kernel_rfl) (fun _ _ _ h => h) (Or.inl ⟨by kernel_rfl, ?_⟩) kB ?_
        case refine_2 =>
          intro wS hSw
          obtain ⟨x0, x1, x2, x3⟩ := hSw
          go_simp
          try with_reducible rfl
        try simp only [List.getElem_toArray, List.getElem_cons_succ, List.getElem_cons_zero, Act.put, List.setIfInBounds_toArray, List.set_cons_zero, List.set_cons_succ]
        refine takeS (i := 3) (v := ?_) rfl (by kernel_rfl) (by kernel_rfl) (by kernel_rfl) (by kernel_rfl) (by kernel_rfl) (fun _ _ _ h => h) (Or.inl ⟨by kernel_rfl, ?_⟩) kB ?_
        case refine_2 =>
          intro wS hSw
          clear hSw
          go_simp
          try with_reducible rfl
        try simp only [List.getElem_toArray, List.getElem_cons_succ, List.getElem_cons_zero, Act.put, List.setIfInBounds_toArray, List.set_cons_zero, List.set_cons_succ]
        refine takeS (i := 4) (v := ?_) rfl (by kernel_rfl) (by kernel_rfl) (by kernel_rfl) (by kernel_rfl) (by kernel_rfl) (fun _ _ _ h => h) (Or.inl ⟨by kernel_rfl, ?_⟩) kB ?_
        case refine_2 =>
          intro wS hSw
          obtain ⟨x0, x1, x2, x3⟩ := hSw
          go_simp
          try with_reducible rfl
        try simp only [List.getElem_toArray, List.getElem_cons_succ, List.getElem_cons_zero, Act.put, List.setIfInBounds_toArray, List.set_cons_zero, List.set_cons_succ]
        refine takeS (i := 6) (v := ?_) rfl (by kernel_rfl) (by kernel_rfl) (by kernel_rfl) (by kernel_rfl) (by kernel_rfl) (fun _ _ _ h => h) (Or.inl ⟨by kernel_rfl, ?_⟩) kB ?_
        case refine_2 =>
          intro wS hSw
          clear hSw
          go_simp
          try with_reducible rfl
        try simp only [List.getElem_toArray, List.getElem_cons_succ, List.getElem_cons_zero, Act.put, List.setIfInBounds_toArray, List.set_cons_zero, List.set_cons_succ]
        refine takeS (i := 7) (v := ?_) rfl (by kernel_rfl) (by kernel_rfl) (by kernel_rfl) (by kernel_rfl) (by kernel_rfl) (fun _ _ _ h => h) (Or.inl ⟨by kernel_rfl, ?_⟩) kB ?_
        case refine_2 =>
          intro wS hSw
          obtain ⟨x0, x1, x2, x3⟩ := hSw
          go_simp
          try with_reducible rfl
        try simp only [List.getElem_toArray, List.getElem_cons_succ, List.getElem_cons_zero, Act.put, List.setIfInBounds_toArray, List.set_cons_zero, List.set_cons_succ]
        refine readyS (i := 5) (by kernel_rfl) rfl (fun K hK => ?_)
        go_simp
        refine (cut_any _ A3 n3 c3 y 80 hs3 (by omega)).mono ?_
        rintro e w3 ⟨A5, n5, c5, rfl, ho5, hb5⟩
        refine hK _ _ (kB.below hb5) ?_
        clear hK K
        have kB := kB.below hb5
        have hzg3 := kB.lt
        have hzs2 := hbr.size
        have hs4 := hs4.below (by omega) hb5
        have ho2 := ho2.below hb5
        have hbr := hbr.trans (hb5.mono hbr.size)
        refine readyS (i := 8) (by kernel_rfl) rfl (fun K hK => ?_)
        go_simp
        refine (cut_any _ A4 n4 c4 z 600 hs4 (by omega)).mono ?_
        rintro e w4 ⟨A6, n6, c6, rfl, ho6, hb6⟩
        refine hK _ _ (kB.below hb6) ?_
        clear hK K
        have kB := kB.below hb6
        have hzs3 := hbr.size
        have ho5 := Own.below ho5 hb6
        have ho2 := ho2.below hb6
        have hbr := hbr.trans (hb6.mono hbr.size)
        refine takeS (i := 9) (v := ?_) rfl (by kernel_rfl) (by kernel_rfl) (by kernel_rfl) (by kernel_rfl) (by kernel_rfl) (fun _ _ _ h => h) (Or.inl ⟨by kernel_rfl, ?_⟩) kB ?_
        case refine_2 =>
          intro wS hSw
          clear hSw
          go_simp
          try with_reducible rfl
        try simp only [List.getElem_toArray, List.getElem_cons_succ, List.getElem_cons_zero, Act.put, List.setIfInBounds_toArray, List.set_cons_zero, List.set_cons_succ]
        refine readyS (i := 10) (by kernel_rfl) rfl (fun K hK => ?_)
        go_simp
        refine hK _ _ (kB.below ((Below.refl _ _).alloc (Nat.le_refl _) _)) ?_
        clear hK K
        have al2 := (Below.refl w4.heap.size w4).alloc (Nat.le_refl _) (.cells #[.int .u8 (d.toNat : Int), .slice A5 n5 c5, .slice A6 n6 c6] 88)
        have kB := kB.below al2
        have ho2 := ho2.below al2
        have ho5 := Own.below ho5 al2
        have ho6 := Own.below ho6 al2
        have hbr := hbr.trans (al2.mono hbr.size)
        have hlit : Sl (w4.alloc (.cells #[.int .u8 (d.toNat : Int), .slice A5 n5 c5, .slice A6 n6 c6] 88)) 3 (some ⟨w4.heap.size, 0, none⟩) 1 1 [.int .u8 (d.toNat : Int), .slice A5 n5 c5, .slice A6 n6 c6] := ⟨rfl, Nat.le_refl _, by unfold maxLen; omega, fun _ => ⟨w4.heap.size, 0, rfl, fun j u hu => by rw [cell_of_row _ _ _ _ _ _ (heap_alloc_new w4 _)]; simpa using hu⟩⟩
        clear al2
        generalize (w4.alloc (.cells #[.int .u8 (d.toNat : Int), .slice A5 n5 c5, .slice A6 n6 c6] 88)) = w5 at *
        have hrow : RowC w5 (fun b => blk A2 c2 ≠ some b ∧ OwnU w5 w.heap.size 5 b) [.int .u8 (d.toNat : Int), .slice A5 n5 c5, .slice A6 n6 c6] [(⟨d, y.take 80, z.take 600⟩ : OpL)] := RowC.single ⟨_, _, rfl, ⟨A5, n5, c5, rfl, OwnB.sl ho5, fun b hn e => ⟨fun q => by have := (Own.ownU ho5 b hn e).1; have := (hlt2 b q).2; omega, (Own.ownU (Own.mono ho5 (B' := w.heap.size) (by omega)) b hn e)⟩⟩, ⟨A6, n6, c6, rfl, OwnB.sl ho6, fun b hn e => ⟨fun q => by have := (Own.ownU ho6 b hn e).1; have := (hlt2 b q).2; omega, (Own.ownU (Own.mono ho6 (B' := w.heap.size) (by omega)) b hn e)⟩⟩⟩
        refine readyS (i := 11) (by kernel_rfl) rfl (fun K hK => ?_)
        refine step_appY (α := OpL) (by rfl) (.tmp 18) (.tmp 28) 39 (by rfl) w.heap.size 88 5 _ 56 Tryd.underlying39 infoOp rfl A2 n2 c2 _ (by rfl) ho2 _ 1 1 _ (by rfl) ⟨_, hlit, hrow⟩ (by unfold maxLen; omega) (by omega) hbr.size ?_
        intro A7 c7 w6 ho7 hg7 hx7
        have hne : blk A2 c2 ≠ some g := fun e => by have := (hlt2 _ e).2; omega
        have kB7 := Bx.grownO kB hg7 hne
        refine hK _ _ kB7 ?_
        clear hK K
        have hb7 := hbr.grown hg7 hbr.size (fun b hb => (hlt2 b hb).1)
        refine takeS (i := 12) (v := ?_) rfl (by kernel_rfl) (by kernel_rfl) (by kernel_rfl) (by kernel_rfl) (by kernel_rfl) (fun _ _ _ h => h) (Or.inl ⟨by kernel_rfl, ?_⟩) kB7 ?_
        case refine_2 =>
          intro wS hSw
          clear hSw
          go_simp
          try with_reducible rfl
        try simp only [List.getElem_toArray, List.getElem_cons_succ, List.getElem_cons_zero, Act.put, List.setIfInBounds_toArray, List.set_cons_zero, List.set_cons_succ]
        refine doneS (by kernel_rfl) ?_ _
        try simp only [List.getElem_toArray, List.getElem_cons_succ, List.getElem_cons_zero, Act.put, List.setIfInBounds_toArray, List.set_cons_zero, List.set_cons_succ]
        go_wp2
        go_roundw
        case rel => exact ⟨j + 1, by omega, by go_num, hb7, A7, _, c7, rfl, by rw [Hst.out]; exact ho7⟩
        case measure => simp [intOf]; omega
      · have hjk' : decide ((j : Int) < (k : Int)) = false := decide_eq_false (by omega)
        have hst := Hst.out
        rw [if_neg hjk] at hst
        have al := (Below.refl wr.heap.size wr).alloc (Nat.le_refl _) (.cells #[.int .u8 (d.toNat : Int), .slice A3 n3 c3, .slice A4 n4 c4] 88)
        have ho2 := ho2.below al
        have hbr := hbr.trans (al.mono hbr.size)
        have Hst := Lib.hid hst
        clear hst al hs3 hs4
        go_wp2
        go_roundw
        case rel => exact ⟨j + 1, by omega, by go_num, hbr, A2, n2, c2, rfl, by rw [Hst.out]; exact ho2⟩
        case measure => simp [intOf]; omega
    · obtain rfl : n = j := by omega
      rw [List.take_of_length_le (by have := Hl.out; omega)] at ho2
      go_wp2
      go_ret
      exact ⟨A2, n2, c2, rfl, ho2, hbr⟩
end Go.Proofs.YtpjinmiedanebaaDoor
