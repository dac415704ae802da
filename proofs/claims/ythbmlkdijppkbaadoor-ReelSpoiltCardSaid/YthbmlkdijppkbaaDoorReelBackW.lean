/-
  The walk of ReelBack: it returns true at every input. The table lies in its variable. (Printed by genback.py.)
-/
import Derived.Test.YthbmlkdijppkbaaDoorReelRead
import Derived.Test.YthbmlkdijppkbaaDoorReelChain
import Derived.Test.YthbmlkdijppkbaaDoorReelAwake
import Derived.Test.YthbmlkdijppkbaaDoorSame6
namespace Go.Proofs.YthbmlkdijppkbaaDoor
open Go.RowKit

theorem few_le6 (ls : List (List UInt8)) (k long : Nat) : ∀ l ∈ fewL ls k long, l.length ≤ long := fun _ h => fewL_mem h
set_option maxHeartbeats 8000000 in
theorem reelBack.walk (w : World) (A : Option Addr) (n c : Nat) (vs : List Value) (ls : List (List UInt8)) (h : Sl w 1 A n c vs) (hp : PartsOf w vs ls) (hq : Quarter w) :
    Calls Tryd.prog 17 #[.slice A n c] w fun e w' => e = .returned (.bool true) ∧ Below w.heap.size w w' := by
  go_enter Tryd.func17, Tryd.ntmps17
  go_wp2_with fail
  refine (awake06 w hq).mono ?_
  rintro e w0 ⟨rfl, hb0⟩
  go_wp2_with fail
  refine (few_any w0 A n c vs ls 20 300 (h.below (by omega) hb0) (hp.below hb0) (by omega) (by omega)).mono ?_
  rintro e w1 ⟨A1, n1, c1, vs1, rfl, ho1, hp1, hb1⟩
  have hfl := fewL_length ls 20 300
  have hlong := few_le6 ls 20 300
  generalize fewL ls 20 300 = ks at *
  have hn1 : n1 = ks.length := by have h1 := ho1.len; have h2 := hp1.1; omega
  have hn12 : n1 ≤ 20 := by omega
  have hall := allL_le 300 ks hlong
  have Hn1 := Lib.hid hn1
  have Hlong := Lib.hid hlong
  have Hall := Lib.hid hall
  clear hfl hn1 hlong hall h hp
  have hbw1 := hb0.trans (hb1.mono hb0.size)
  have hs1 := Own.sl ho1
  have hps := hp1.parts
  have hq1 := hq.below hbw1
  clear ho1 hp1 hb0 hb1
  go_wp2
  go_loopw [3, 16] (fun pv q wr => ∃ j : Nat, j ≤ n1 ∧ q = .int .i64 j ∧ Below w1.heap.size w1 wr ∧ ∃ A2 n2 c2, pv = .slice A2 n2 c2 ∧ OwnB wr w1.heap.size A2 n2 c2 (allL (ks.take j))) (fun _ q _ => n1 - (intOf q).toNat)
  case atStart => exact ⟨0, Nat.zero_le _, rfl, Below.refl _ _, none, 0, 0, rfl, (show allL (ks.take 0) = [] from by simp [allL]) ▸ Own.nil _ _ _ _ _⟩
  case round =>
    obtain ⟨j, hj, rfl, hbr, A2, n2, c2, rfl, ho2⟩ := hrel
    by_cases hlt : j < n1
    · obtain ⟨b, o, A', n', c', hkl, rfl, hcell, hsl⟩ := (hps.below hbr).get (hs1.below (by omega) hbr) hlt
      have hn2 := ho2.len'
      have hal := Hall.out j
      have hn2l : n2 ≤ 90000 := by omega
      have hkl2 := Hlong.out ks[j] (List.getElem_mem hkl)
      have hn' := hsl.lenb
      have hst := allL_step ks j hkl
      rw [hn2] at hst
      have Hst := Lib.hid hst
      have hn'l : n' ≤ 300 := by omega
      clear hst hal hn2 hkl2 hn'
      go_wp2_with fail
      refine (frame_pos wr n2 A' n' c' _ hsl (hq1.below hbr) (by omega)).mono ?_
      have hfl := (frameL_length n2 true ks[j]).2
      rw [hsl.lenb] at hfl
      generalize frameL n2 true ks[j] = F at *
      rintro e w3 ⟨A3, n3, c3, rfl, ho3, hb3⟩
      have hn3 := ho3.len'
      have hn3l : n3 ≤ 4300 := by simp only at hn3; split at hfl <;> omega
      clear hn3 hfl
      have ho2' := Own.below ho2 hb3
      have hb13 := hbr.trans (hb3.mono hbr.size)
      go_wp2_with (at_builtin; refine wpList_appB _ rfl (.tmp 29) (.tmp 30) rfl w1.heap.size A2 n2 c2 _ rfl ho2' A3 n3 c3 F rfl (OwnB.sl ho3) ?_ ?_ ?_)
      · omega
      · exact hb13.size
      intro A4 c4 w4 ho4 hg4 _
      have hb4 := hb13.grown hg4 hb13.size (fun b hb => (Own.lt ho2 b hb).1)
      go_wp2
      go_roundw
      case rel => exact ⟨j + 1, by omega, by go_num, hb4, A4, _, c4, rfl, by rw [Hst.out]; exact ho4⟩
      case measure => simp [intOf]; omega
    · obtain rfl : n1 = j := by omega
      rw [List.take_of_length_le (show ks.length ≤ n1 by have := Hn1.out; omega)] at ho2
      have hal := Hall.out n1
      rw [List.take_of_length_le (show ks.length ≤ n1 by have := Hn1.out; omega)] at hal
      have hs2 := OwnB.sl ho2
      have hn2 : (allL ks).length = n2 := hs2.lenb
      have hn2l : n2 ≤ 90000 := by omega
      have hbw := hbw1.trans (hbr.mono hbw1.size)
      have Hn2 := Lib.hid hn2
      clear hn2 hal ho2
      go_wp2_with fail
      refine (read_at wr A2 n2 c2 _ hs2 (hq1.below hbr) (by omega)).mono ?_
      rintro e w5 ⟨rs, z, A5, n5, c5, vs5, hrt, rfl, ho5, hp5, hb5⟩
      obtain ⟨hrs, hz⟩ := back_all ks (fun l hl => by have := Hlong.out l hl; omega) hrt
      rw [Hn2.out] at hz
      have e1 : (rs == ks) = true := by rw [hrs]; simp
      have E1 := Lib.hid e1
      have HZ := Lib.hid hz
      have dz : ((z : Int) == (n2 : Int)) = true := by simp; omega
      have hb15 := hbr.trans (hb5.mono hbr.size)
      have hs5 := Own.sl ho5
      have hp5' := hp5.parts
      clear hrs hz e1 hrt ho5 hp5
      go_wp2_with fail
      refine (same6_any w5 A5 n5 c5 vs5 rs hs5 hp5' A1 n1 c1 vs1 ks (hs1.below (by omega) hb15) (hps.below hb15)).mono ?_
      rw [E1.out]
      rintro e w6 ⟨rfl, hb6⟩
      have hbw6 := (hbw.trans (hb5.mono hbw.size)).trans (hb6.mono (Nat.le_trans hbw.size hb5.size))
      go_wp2
      go_ret
      exact ⟨rfl, hbw6⟩
end Go.Proofs.YthbmlkdijppkbaaDoor
