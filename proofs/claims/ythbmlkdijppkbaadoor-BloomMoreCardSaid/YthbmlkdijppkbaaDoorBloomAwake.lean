/-
  The bloom's law functions' first call, awake: true. The table lies in its variable.
-/
import Derived.Test.YthbmlkdijppkbaaDoorBloomBuild
import Derived.Test.YthbmlkdijppkbaaDoorBloomRefB
import Derived.Test.YthbmlkdijppkbaaDoorBloomLaw
import Derived.Test.YthbmlkdijppkbaaDoorGuarded
import Derived.Lib.SlBytesConst
namespace Go.Proofs.YthbmlkdijppkbaaDoor
open Go.RowKit

theorem run_const1 (w : World) (C : Array Value) (n c : Nat) : (convert 24 24 (.slice (some ⟨w.heap.size, 0, none⟩) n c)).run Tryd.prog (w.alloc (.cells C 5)) = .ok (.slice (some ⟨w.heap.size, 0, none⟩) n c) (w.alloc (.cells C 5 (C.size, C.size + 1))) :=
  Lib.run_convert_bytes_const (P := Tryd.prog) w 24 5 C n c Tryd.underlying24 Tryd.underlying5
theorem run_const2 (w : World) (o : Obj) (C : Array Value) (n c : Nat) : (convert 24 24 (.slice (some ⟨w.heap.size + 1, 0, none⟩) n c)).run Tryd.prog ((w.alloc o).alloc (.cells C 5)) = .ok (.slice (some ⟨w.heap.size + 1, 0, none⟩) n c) ((w.alloc o).alloc (.cells C 5 (C.size, C.size + 1))) := by
  have := run_const1 (w.alloc o) C n c
  simpa only [World.size_alloc] using this
/-- two texts of one byte, and the row of both -/
theorem two_parts (w : World) (x y : UInt8) : ∃ W : World, W = (((w.alloc (.cells #[.int .u8 (x.toNat : Int)] 5 (1, 2))).alloc (.cells #[.int .u8 (y.toNat : Int)] 5 (1, 2))).alloc (.cells #[.slice (some ⟨w.heap.size, 0, none⟩) 1 1, .slice (some ⟨w.heap.size + 1, 0, none⟩) 1 1] 24)) ∧
    Below w.heap.size w W ∧ ∃ vs, Sl W 1 (some ⟨w.heap.size + 1 + 1, 0, none⟩) 2 2 vs ∧ PartsOf W vs [[x], [y]] := by
  refine ⟨_, rfl, ((((Below.refl _ w).alloc (Nat.le_refl _) _).alloc (by simp) _).alloc (by simp; omega) _), [.slice (some ⟨w.heap.size, 0, none⟩) 1 1, .slice (some ⟨w.heap.size + 1, 0, none⟩) 1 1], ?_, rfl, ?_⟩
  · have := Sl.lit ((w.alloc (.cells #[.int .u8 (x.toNat : Int)] 5 (1, 2))).alloc (.cells #[.int .u8 (y.toNat : Int)] 5 (1, 2))) 24 (0, 0) 2 #[.slice (some ⟨w.heap.size, 0, none⟩) 1 1, .slice (some ⟨w.heap.size + 1, 0, none⟩) 1 1] _ rfl (by unfold maxLen; omega) rfl
    simpa only [World.size_alloc] using this
  · have s1 : Sl (w.alloc (.cells #[.int .u8 (x.toNat : Int)] 5 (1, 2))) 1 (some ⟨w.heap.size, 0, none⟩) 1 1 (bc [x]) := Sl.lit w _ _ 1 _ _ rfl (by unfold maxLen; omega) rfl
    have b1 := (Below.refl (w.alloc (.cells #[.int .u8 (x.toNat : Int)] 5 (1, 2))).heap.size _).alloc (Nat.le_refl _) (.cells #[.int .u8 (y.toNat : Int)] 5 (1, 2))
    have b2 := (Below.refl ((w.alloc (.cells #[.int .u8 (x.toNat : Int)] 5 (1, 2))).alloc (.cells #[.int .u8 (y.toNat : Int)] 5 (1, 2))).heap.size _).alloc (Nat.le_refl _) (.cells #[.slice (some ⟨w.heap.size, 0, none⟩) 1 1, .slice (some ⟨w.heap.size + 1, 0, none⟩) 1 1] 24)
    have s2 : Sl ((w.alloc (.cells #[.int .u8 (x.toNat : Int)] 5 (1, 2))).alloc (.cells #[.int .u8 (y.toNat : Int)] 5 (1, 2))) 1 (some ⟨(w.alloc (.cells #[.int .u8 (x.toNat : Int)] 5 (1, 2))).heap.size, 0, none⟩) 1 1 (bc [y]) := Sl.lit _ _ _ 1 _ _ rfl (by unfold maxLen; omega) rfl
    rw [World.size_alloc] at s2
    have s1' := (s1.below (by omega) b1).below (by omega) b2
    have s2' := s2.below (by omega) b2
    intro i v l hv hl
    rcases i with _ | _ | i
    · simp at hv hl; subst hv; subst hl; exact ⟨_, _, _, rfl, s1'⟩
    · simp at hv hl; subst hv; subst hl; exact ⟨_, _, _, rfl, s2'⟩
    · simp at hv
set_option maxHeartbeats 2000000 in
theorem awake11 (w : World) (hq : Quarter w) : Calls Tryd.prog 33 #[] w fun e w' => e = .returned (.bool true) ∧ Below w.heap.size w w' := by
  have kc := run_const1
  have kc2 := run_const2
  go_enter Tryd.func33, Tryd.ntmps33
  go_wp2_with fail
  obtain ⟨W, hW, hb0, vs, hs, hp⟩ := two_parts w 97 98
  have e97 : (((97 : UInt8).toNat : Nat) : Int) = 97 := rfl
  have e98 : (((98 : UInt8).toNat : Nat) : Int) = 98 := rfl
  rw [e97, e98] at hW
  rw [← hW]
  refine (build_any W 10 _ 2 2 vs _ hs hp (hq.below hb0) (by omega)).mono ?_
  clear hW e97 e98 hs hp
  have hl : (buildL 10 [[97], [98]]).length = 9 := by rw [buildL_length]; rfl
  have h1 := has_built 10 [[97], [98]] [97] (by simp)
  have h2 := has_built 10 [[97], [98]] [98] (by simp)
  generalize buildL 10 [[97], [98]] = f at *
  rintro e w1 ⟨A1, n1, c1, rfl, ho1, hb1⟩
  have hn1 := ho1.len'
  rw [hl] at hn1
  subst hn1
  clear kc2 hl
  have hbw1 := hb0.trans (hb1.mono hb0.size)
  clear hb1 hb0
  go_wp2_with fail
  refine (probes_any _ _).mono ?_
  rw [ex_probes]
  rintro e w' ⟨rfl, rfl⟩
  go_wp2_with fail
  have s1 : Sl (w1.alloc (.cells #[.int .u8 97] 5 (1, 2))) 1 (some ⟨w1.heap.size, 0, none⟩) 1 1 (bc [97]) := Sl.lit w1 _ _ 1 _ _ rfl (by unfold maxLen; omega) rfl
  have b1 := (Below.refl w1.heap.size w1).alloc (Nat.le_refl _) (.cells #[.int .u8 97] 5 (1, 2))
  have hbw2 := hbw1.trans (b1.mono hbw1.size)
  refine (has_any _ A1 9 c1 f ((OwnB.sl ho1).below (by omega) b1) _ 1 1 [97] s1 (hq.below hbw2) (by omega)).mono ?_
  rw [h1]
  rintro e w2 ⟨rfl, hb2⟩
  have hb12 := b1.trans (hb2.mono (by simp))
  have hbw3 := hbw1.trans (hb12.mono hbw1.size)
  clear s1 b1 hbw2 hb2
  go_wp2_with fail
  have s1 : Sl (w2.alloc (.cells #[.int .u8 98] 5 (1, 2))) 1 (some ⟨w2.heap.size, 0, none⟩) 1 1 (bc [98]) := Sl.lit w2 _ _ 1 _ _ rfl (by unfold maxLen; omega) rfl
  have b1 := (Below.refl w2.heap.size w2).alloc (Nat.le_refl _) (.cells #[.int .u8 98] 5 (1, 2))
  have b12 := hb12.trans (b1.mono hb12.size)
  have hbw4 := hbw1.trans (b12.mono hbw1.size)
  refine (has_any _ A1 9 c1 f ((OwnB.sl ho1).below (by omega) b12) _ 1 1 [98] s1 (hq.below hbw4) (by omega)).mono ?_
  rw [h2]
  rintro e w3 ⟨rfl, hb3⟩
  have hbw5 := hbw4.trans (hb3.mono hbw4.size)
  clear s1 b1 b12 hbw3 hbw4 hb3 hb12 ho1 kc
  go_wp2_with fail
  obtain ⟨w4, hmk, ho4, hb4⟩ := run_mkB w3 w.heap.size 8 8 8 rfl rfl (by omega) hbw5.size
  rw [hmk]
  go_wp2_with fail
  have hbw6 := hbw5.trans (hb4.mono hbw5.size)
  refine (has_any _ _ 8 8 _ (OwnB.sl ho4) none 0 0 [] (Sl.nil _ _ _ _ (by omega)) (hq.below hbw6) (by omega)).mono ?_
  rw [ex_all]
  rintro e w5 ⟨rfl, hb5⟩
  have hbw7 := hbw6.trans (hb5.mono hbw6.size)
  go_wp2_with fail
  obtain ⟨w6, hmk2, ho6, hb6⟩ := run_mkB w5 w.heap.size 8 8 8 rfl rfl (by omega) hbw7.size
  rw [hmk2]
  have hbw8 := hbw7.trans (hb6.mono hbw7.size)
  have s1 : Sl (w6.alloc (.cells #[.int .u8 1] 5)) 1 (some ⟨w6.heap.size, 0, none⟩) 1 1 (bc [1]) := Sl.lit w6 _ _ 1 _ _ rfl (by unfold maxLen; omega) rfl
  have b1 := (Below.refl w6.heap.size w6).alloc (Nat.le_refl _) (.cells #[.int .u8 1] 5)
  have ho6' := Own.below ho6 b1
  have hbw9 := hbw8.trans (b1.mono hbw8.size)
  go_wp2_with (at_builtin; refine wpList_appBg _ (by rfl) (.tmp 34) (.tmp 35) rfl w.heap.size _ 8 8 _ rfl ho6' _ 1 1 [1] rfl s1 ?_ ?_ ?_)
  · omega
  · exact hbw9.size
  intro A7 c7 w7 ho7 hg7 _
  have hbw10 := hbw9.grown hg7 hbw9.size (fun b hb => (Own.lt ho6' b hb).1)
  go_wp2_with fail
  refine (has_any _ A7 _ c7 _ (OwnB.sl ho7) none 0 0 [] (Sl.nil _ _ _ _ (by omega)) (hq.below hbw10) (by omega)).mono ?_
  rw [show hasL [0, 0, 0, 0, 0, 0, 0, 0, 1] [] = false from ex_one]
  rintro e w8 ⟨rfl, hb8⟩
  go_wp2
  go_ret
  exact ⟨rfl, hbw10.trans (hb8.mono hbw10.size)⟩
end Go.Proofs.YthbmlkdijppkbaaDoor
