/-
  The reel's law functions' first call, awake: true. The table lies in its variable.
-/
import Derived.Test.YthbmlkdijppkbaaDoorReelRefFrame
import Derived.Test.YthbmlkdijppkbaaDoorReelFrame
import Derived.Lib.SlBytesConst
namespace Go.Proofs.YthbmlkdijppkbaaDoor
open Go.RowKit

theorem ex_f1 : framed 0 [97, 98] = (pieceL 1 [97, 98], 0) := by
  have h : framed ((0 : Nat) : Int) [97, 98] = (frameL 0 true [97, 98], 0) := framed_ok (by decide)
  rw [frameL_end 0 true [97, 98] (by decide)] at h
  exact h
theorem ex_f2 : framed 60 [120] = (List.replicate 4 0 ++ pieceL 1 [120], 0) := by
  have h : framed ((60 : Nat) : Int) [120] = (frameL 60 true [120], 0) := framed_ok (by decide)
  rw [frameL_end 60 true [120] (by decide)] at h
  exact h
theorem ex_f1d : (pieceL 1 [97, 98]).drop 4 = [2, 0, 1, 97, 98] := rfl
theorem ex_f2t : (List.replicate 4 0 ++ pieceL 1 [120]).take 4 = [0, 0, 0, 0] := rfl
/-- make([]byte, 4) -/
theorem run_mk4 (w : World) : (Instr.makeSlice 24 (.int .i64 4) (.int .i64 4)).run Tryd.prog w = .ok (.slice (some ⟨w.heap.size, 0, none⟩) 4 4) (w.alloc (.cells #[.int .u8 0, .int .u8 0, .int .u8 0, .int .u8 0] 5)) := by
  kernel_rfl
set_option maxHeartbeats 2000000 in
theorem awake06 (w : World) (hq : Quarter w) : Calls Tryd.prog 42 #[] w fun e w' => e = .returned (.bool true) ∧ Below w.heap.size w w' := by
  have kc := fun (w : World) (C : Array Value) (n c : Nat) => Lib.run_convert_bytes_const (P := Tryd.prog) w 24 5 C n c Tryd.underlying24 Tryd.underlying5
  go_enter Tryd.func42, Tryd.ntmps42
  go_wp2_with fail
  have s1 : Sl (w.alloc (.cells #[.int .u8 97, .int .u8 98] 5 (2, 3))) 1 (some ⟨w.heap.size, 0, none⟩) 2 2 (bc [97, 98]) := Sl.lit w _ _ 2 _ _ rfl (by unfold maxLen; omega) rfl
  have b1 := (Below.refl w.heap.size w).alloc (Nat.le_refl _) (.cells #[.int .u8 97, .int .u8 98] 5 (2, 3))
  refine (frame_any _ 0 _ 2 2 _ s1 (hq.below b1)).mono ?_
  rw [ex_f1]
  rintro e w1 ⟨A1, n1, c1, rfl, ho1, hb1⟩
  have hn1 := ho1.len'
  simp at hn1
  subst hn1
  have hbw1 := b1.trans (hb1.mono b1.size)
  clear s1 b1 hb1
  go_wp2_with fail
  have s1 : Sl (w1.alloc (.cells #[.int .u8 120] 5 (1, 2))) 1 (some ⟨w1.heap.size, 0, none⟩) 1 1 (bc [120]) := Sl.lit w1 _ _ 1 _ _ rfl (by unfold maxLen; omega) rfl
  have b1 := (Below.refl w1.heap.size w1).alloc (Nat.le_refl _) (.cells #[.int .u8 120] 5 (1, 2))
  have hbw2 := hbw1.trans (b1.mono hbw1.size)
  refine (frame_any _ 60 _ 1 1 _ s1 (hq.below hbw2)).mono ?_
  rw [ex_f2]
  rintro e w2 ⟨A2, n2, c2, rfl, ho2, hb2⟩
  have hn2 := ho2.len'
  simp at hn2
  subst hn2
  have hb12 := b1.trans (hb2.mono b1.size)
  have hbw3 := hbw1.trans (hb12.mono hbw1.size)
  have hs1 := (OwnB.sl ho1).below (by omega) hb12
  have hs2 := OwnB.sl ho2
  clear s1 b1 hb2 hb12 ho1 ho2 hbw1 hbw2 kc
  obtain ⟨A3, hr1, hs3, _⟩ := cutL hs1 .i64 4 4 rfl (by omega)
  obtain ⟨hr2, hs4⟩ := cutH hs2 .i64 4 4 rfl (by omega)
  rw [ex_f1d] at hs3
  rw [ex_f2t] at hs4
  have hmk := run_mk4
  have e5 : Hid ((([2, 0, 1, 97, 98] : List UInt8) == [2, 0, 1, 97, 98]) = true) := by unfold Hid; decide
  have e4 : Hid ((([0, 0, 0, 0] : List UInt8) == [0, 0, 0, 0]) = true) := by unfold Hid; decide
  clear hs1 hs2
  have s5 : Sl ((w2.drew.alloc (.cells #[.int .u8 2, .int .u8 0, .int .u8 1, .int .u8 97, .int .u8 98] 5)).alloc (.cells #[.int .u8 0, .int .u8 0, .int .u8 0, .int .u8 0] 5)) 1 (some ⟨w2.heap.size + 1, 0, none⟩) 4 4 (bc [0, 0, 0, 0]) := by
    have h := Sl.lit (w2.drew.alloc (.cells #[.int .u8 2, .int .u8 0, .int .u8 1, .int .u8 97, .int .u8 98] 5)) 5 (0, 0) 4 #[.int .u8 0, .int .u8 0, .int .u8 0, .int .u8 0] (bc [0, 0, 0, 0]) rfl (by unfold maxLen; omega) rfl
    rw [World.size_alloc] at h
    exact h
  go_wp2_with fail
  refine wp_region_any (by kernel_rfl) ?_
  try (change wpAny _ _ _ _ _ _ _ (World.drew _))
  refine wpAny_take (i := 0) (v := ?_) rfl (by kernel_rfl) (by kernel_rfl) (by kernel_rfl) (fun _ _ _ h => h) (Or.inl ⟨by kernel_rfl, ?_⟩) ?_
  case refine_2 => ((intro w; go_simp); try with_reducible rfl)
  refine wpAny_take (i := 1) (v := ?_) rfl (by kernel_rfl) (by kernel_rfl) (by kernel_rfl) (fun _ _ _ h => h) (Or.inl ⟨by kernel_rfl, ?_⟩) ?_
  case refine_2 => ((intro w; go_simp); try with_reducible rfl)
  refine wpAny_take (i := 2) (v := ?_) rfl (by kernel_rfl) (by kernel_rfl) (by kernel_rfl) (fun _ _ _ h => h) (Or.inl ⟨by kernel_rfl, ?_⟩) ?_
  case refine_2 => ((intro w; go_simp); try with_reducible rfl)
  refine wpAny_take (i := 3) (v := ?_) rfl (by kernel_rfl) (by kernel_rfl) (by kernel_rfl) (fun _ _ _ h => h) (Or.inl ⟨by kernel_rfl, ?_⟩) ?_
  case refine_2 => ((intro w; go_simp); try with_reducible rfl)
  refine wpAny_take (i := 4) (v := ?_) rfl (by kernel_rfl) (by kernel_rfl) (by kernel_rfl) (fun _ _ _ h => h) (Or.inl ⟨by kernel_rfl, ?_⟩) ?_
  case refine_2 => ((intro w; go_simp); try with_reducible rfl)
  refine wpAny_take (i := 5) (v := ?_) rfl (by kernel_rfl) (by kernel_rfl) (by kernel_rfl) (fun _ _ _ h => h) (Or.inl ⟨by kernel_rfl, ?_⟩) ?_
  case refine_2 => ((intro w; go_simp); try with_reducible rfl)
  refine wpAny_take (i := 6) (v := ?_) rfl (by kernel_rfl) (by kernel_rfl) (by kernel_rfl) (fun _ _ _ h => h) (Or.inl ⟨by kernel_rfl, ?_⟩) ?_
  case refine_2 => ((intro w; go_simp); try with_reducible rfl)
  refine wpAny_take (i := 7) (v := ?_) rfl (by kernel_rfl) (by kernel_rfl) (by kernel_rfl) (fun _ _ _ h => h) (Or.inl ⟨by kernel_rfl, ?_⟩) ?_
  case refine_2 => ((intro w; go_simp); try with_reducible rfl)
  refine wpAny_take (i := 8) (v := ?_) rfl (by kernel_rfl) (by kernel_rfl) (by kernel_rfl) (fun _ _ _ h => h) (Or.inl ⟨by kernel_rfl, ?_⟩) ?_
  case refine_2 => ((intro w; go_simp); try with_reducible rfl)
  refine wpAny_take (i := 9) (v := ?_) rfl (by kernel_rfl) (by kernel_rfl) (by kernel_rfl) (fun _ _ _ h => h) (Or.inl ⟨by kernel_rfl, ?_⟩) ?_
  case refine_2 => ((intro w; go_simp); try with_reducible rfl)
  refine wpAny_take (i := 10) (v := ?_) rfl (by kernel_rfl) (by kernel_rfl) (by kernel_rfl) (fun _ _ _ h => h) (Or.inl ⟨by kernel_rfl, ?_⟩) ?_
  case refine_2 => ((intro w; go_simp); try with_reducible rfl)
  refine wpAny_take (i := 11) (v := ?_) rfl (by kernel_rfl) (by kernel_rfl) (by kernel_rfl) (fun _ _ _ h => h) (Or.inl ⟨by kernel_rfl, ?_⟩) ?_
  case refine_2 => ((intro w; go_simp); try with_reducible rfl)
  refine wpAny_take (i := 12) (v := ?_) rfl (by kernel_rfl) (by kernel_rfl) (by kernel_rfl) (fun _ _ _ h => h) (Or.inl ⟨by kernel_rfl, ?_⟩) ?_
  case refine_2 => ((intro w; go_simp); try with_reducible rfl)
  refine wpAny_take (i := 13) (v := ?_) rfl (by kernel_rfl) (by kernel_rfl) (by kernel_rfl) (fun _ _ _ h => h) (Or.inl ⟨by kernel_rfl, ?_⟩) ?_
  case refine_2 => ((intro w; go_simp); try with_reducible rfl)
  refine wpAny_ready (rs := [14]) (by kernel_rfl) (by simp) ?_
  refine AllReady.cons rfl (fun K hK => ?_) AllReady.nil
  go_simp
  refine hK _ _ ?_
  clear hK K
  refine wpAny_ready (rs := [15]) (by kernel_rfl) (by simp) ?_
  refine AllReady.cons rfl (fun K hK => ?_) AllReady.nil
  go_simp
  refine (same_is _ A3 5 _ _ _ 5 5 [2, 0, 1, 97, 98] true e5 ((Sl.drew hs3).below (by omega) ((Below.refl _ _).alloc (Nat.le_refl _) _)) (Sl.lit _ _ _ 5 _ _ rfl (by unfold maxLen; omega) rfl)).mono ?_
  rintro e w' ⟨rfl, rfl⟩
  go_simp
  refine hK _ _ ?_
  clear hK K
  refine wpAny_take (i := 16) (v := ?_) rfl (by kernel_rfl) (by kernel_rfl) (by kernel_rfl) (fun _ _ _ h => h) (Or.inl ⟨by kernel_rfl, ?_⟩) ?_
  case refine_2 => ((intro w; go_simp); try with_reducible rfl)
  refine wpAny_take (i := 17) (v := ?_) rfl (by kernel_rfl) (by kernel_rfl) (by kernel_rfl) (fun _ _ _ h => h) (Or.inl ⟨by kernel_rfl, ?_⟩) ?_
  case refine_2 => ((intro w; go_simp); try with_reducible rfl)
  refine wpAny_take (i := 18) (v := ?_) rfl (by kernel_rfl) (by kernel_rfl) (by kernel_rfl) (fun _ _ _ h => h) (Or.inl ⟨by kernel_rfl, ?_⟩) ?_
  case refine_2 => ((intro w; go_simp); try with_reducible rfl)
  refine wpAny_take (i := 19) (v := ?_) rfl (by kernel_rfl) (by kernel_rfl) (by kernel_rfl) (fun _ _ _ h => h) (Or.inl ⟨by kernel_rfl, ?_⟩) ?_
  case refine_2 => ((intro w; go_simp); try with_reducible rfl)
  refine wpAny_take (i := 20) (v := ?_) rfl (by kernel_rfl) (by kernel_rfl) (by kernel_rfl) (fun _ _ _ h => h) (Or.inl ⟨by kernel_rfl, ?_⟩) ?_
  case refine_2 => ((intro w; go_simp); try with_reducible rfl)
  refine wpAny_take (i := 21) (v := ?_) rfl (by kernel_rfl) (by kernel_rfl) (by kernel_rfl) (fun _ _ _ h => h) (Or.inl ⟨by kernel_rfl, ?_⟩) ?_
  case refine_2 => ((intro w; go_simp); try with_reducible rfl)
  refine wpAny_take (i := 22) (v := ?_) rfl (by kernel_rfl) (by kernel_rfl) (by kernel_rfl) (fun _ _ _ h => h) (Or.inl ⟨by kernel_rfl, ?_⟩) ?_
  case refine_2 => ((intro w; go_simp); try with_reducible rfl)
  refine wpAny_take (i := 23) (v := ?_) rfl (by kernel_rfl) (by kernel_rfl) (by kernel_rfl) (fun _ _ _ h => h) (Or.inl ⟨by kernel_rfl, ?_⟩) ?_
  case refine_2 => ((intro w; go_simp); try with_reducible rfl)
  refine wpAny_take (i := 24) (v := ?_) rfl (by kernel_rfl) (by kernel_rfl) (by kernel_rfl) (fun _ _ _ h => h) (Or.inl ⟨by kernel_rfl, ?_⟩) ?_
  case refine_2 => ((intro w; go_simp); try with_reducible rfl)
  refine wpAny_ready (rs := [25]) (by kernel_rfl) (by simp) ?_
  refine AllReady.cons rfl (fun K hK => ?_) AllReady.nil
  go_simp
  refine hK _ _ ?_
  clear hK K
  refine wpAny_ready (rs := [26]) (by kernel_rfl) (by simp) ?_
  refine AllReady.cons rfl (fun K hK => ?_) AllReady.nil
  go_simp
  refine (same_is _ A2 4 _ _ _ 4 4 [0, 0, 0, 0] true e4 (((Sl.drew hs4).below (by omega) ((Below.refl _ _).alloc (Nat.le_refl _) _)).below (by omega) ((Below.refl _ _).alloc (Nat.le_refl _) _)) s5).mono ?_
  rintro e w' ⟨rfl, rfl⟩
  go_simp
  refine hK _ _ ?_
  clear hK K
  refine wpAny_take (i := 27) (v := ?_) rfl (by kernel_rfl) (by kernel_rfl) (by kernel_rfl) (fun _ _ _ h => h) (Or.inl ⟨by kernel_rfl, ?_⟩) ?_
  case refine_2 => ((intro w; go_simp); try with_reducible rfl)
  refine wpAny_take (i := 28) (v := ?_) rfl (by kernel_rfl) (by kernel_rfl) (by kernel_rfl) (fun _ _ _ h => h) (Or.inl ⟨by kernel_rfl, ?_⟩) ?_
  case refine_2 => ((intro w; go_simp); try with_reducible rfl)
  refine wpAny_done (by kernel_rfl) ?_ _
  go_wp2
  go_ret
  exact ⟨rfl, ((hbw3.drew).alloc hbw3.size _).alloc (by have := hbw3.size; simp; omega) _⟩
end Go.Proofs.YthbmlkdijppkbaaDoor
