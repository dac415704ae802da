/-
  What ref06.Same answers. No condition.
-/
import Derived.Test.YthbmlkdijppkbaaDoorFew
import Derived.BigQuiet
namespace Go.Proofs.YthbmlkdijppkbaaDoor
open Go.RowKit

set_option maxHeartbeats 1000000 in
theorem same6_any (w : World) (A : Option Addr) (n c : Nat) (vs : List Value) (ls : List (List UInt8)) (h : Sl w 1 A n c vs) (hp : PartsOf w vs ls)
    (A2 : Option Addr) (n2 c2 : Nat) (vs2 : List Value) (ls2 : List (List UInt8)) (h2 : Sl w 1 A2 n2 c2 vs2) (hp2 : PartsOf w vs2 ls2) :
    Calls Tryd.prog 39 #[.slice A n c, .slice A2 n2 c2] w fun e w' => e = .returned (.bool (ls == ls2)) ∧ Below w.heap.size w w' := by
  have hcm := h.capm
  have hcc := h.cap
  have hcm2 := h2.capm
  have hcc2 := h2.cap
  unfold maxLen at hcm hcm2
  have Hl : Hid (ls.length = n) := by have h1 := h.len; have h2 := hp.1; unfold Hid; omega
  have Hl2 : Hid (ls2.length = n2) := by have h1 := h2.len; have h2 := hp2.1; unfold Hid; omega
  by_cases hnn : n = n2
  · subst hnn
    have d1 : ((n : Int) != (n : Int)) = false := by simp
    go_enter Tryd.func39, Tryd.ntmps39
    go_wp2
    go_loopw [13] (fun q wr => ∃ j : Nat, j ≤ n ∧ q = .int .i64 j ∧ Below w.heap.size w wr ∧ Hid (ls.take j = ls2.take j)) (fun q _ => n - (intOf q).toNat)
    case atStart => exact ⟨0, Nat.zero_le _, rfl, Below.refl _ _, by unfold Hid; simp⟩
    case round =>
      obtain ⟨j, hj, rfl, hbr, He⟩ := hrel
      by_cases hlt : j < n
      · obtain ⟨b, o, A', n', c', hkl, rfl, hcell, hsl⟩ := (hp.below hbr).get (h.below (by omega) hbr) hlt
        obtain ⟨b2, o2, A2', n2', c2', hkl2, rfl, hcell2, hsl2⟩ := (hp2.below hbr).get (h2.below (by omega) hbr) hlt
        obtain ⟨bb, hbb⟩ : ∃ bb, (ls[j] == ls2[j]) = bb := ⟨_, rfl⟩
        have Hbb := Lib.hid hbb
        clear hbb
        have hsm := fun q => same_is (wr.drewN q) _ _ _ _ _ _ _ _ bb Hbb (hsl.drewN q) (hsl2.drewN q)
        have Hsm := Lib.hid hsm
        clear hsm
        cases bb
        all_goals
          go_wp2_with fail
          go_quiet ((go_at_call 30; exact quiet_left (Hsm.out _)))
          go_wp2
        · go_ret
          refine ⟨ret_bool ?_, below_drewN hbr _⟩
          symm
          rw [beq_eq_false_iff_ne]
          intro e
          subst e
          have := Hbb.out
          simp at this
        · go_roundw
          case rel =>
            refine ⟨j + 1, by omega, by go_num, below_drewN hbr _, ?_⟩
            unfold Hid
            rw [take_snoc _ _ hkl, take_snoc _ _ hkl2, He.out, eq_of_beq Hbb.out]
          case measure => simp [intOf]; omega
      · obtain rfl : j = n := by omega
        have e1 : ls = ls2 := by
          have := He.out
          rwa [List.take_of_length_le (by have := Hl.out; omega), List.take_of_length_le (by have := Hl2.out; omega)] at this
        go_wp2
        go_ret
        exact ⟨ret_bool (by rw [e1]; simp), hbr⟩
  · have d1 : ((n : Int) != (n2 : Int)) = true := by simp; omega
    have e1 : (ls == ls2) = false := by
      rw [beq_eq_false_iff_ne]
      intro e
      have h3 := Hl.out
      have h4 := Hl2.out
      rw [e] at h3
      omega
    go_enter Tryd.func39, Tryd.ntmps39
    go_wp2
    go_ret
    exact ⟨ret_bool e1.symm, Below.refl _ _⟩
end Go.Proofs.YthbmlkdijppkbaaDoor
