/-
  The walk of AtomTexts: it returns true at every input. No condition.
-/
import Derived.Test.YthbmlkdijppkbaaAtomJoin
import Derived.Test.YthbmlkdijppkbaaAtomAwake
namespace Go.Proofs.Ythbmlkdijppkbaa
open Go.RowKit

set_option maxHeartbeats 8000000 in
theorem atomTexts.walk (w : World) (A : Option Addr) (n c : Nat) (vs : List Value) (ls : List (List UInt8)) (h : Sl w 1 A n c vs) (hp : PartsOf w vs ls) (m : Nat) (hm : m < 256) :
    Calls Try.prog 9 #[.slice A n c, .int .u8 (m : Int)] w fun e w' => e = .returned (.bool true) ∧ Below w.heap.size w w' := by
  have hcap := h.cap
  have hcm := h.capm
  unfold maxLen at hcm
  obtain ⟨k, hk, hkn, hk30⟩ : ∃ k, min n 30 = k ∧ k ≤ n ∧ k ≤ 30 := ⟨_, rfl, by omega, by omega⟩
  have hs := (cutHP h .i64 k k rfl hkn).2
  have hps := hp.take k
  have Hl : Hid ((ls.take k).length = k) := by have h1 := h.len; have h2 := hp.1; unfold Hid; simp; omega
  have HR : Hid (∀ i : Int, i = (k : Int) → ∀ w' : World, (Instr.slice 42 (.slice A n c) none (some (.int .i64 i)) none).run Try.prog w' = .ok (.slice A k c) w') := fun i hi => (cutHP h .i64 i k hi hkn).1
  generalize vs.take k = vs' at *
  generalize ls.take k = ks at *
  have C1 : Hid (∀ (w : World) (A : Option Addr) (n c : Nat) (p : List UInt8) (_ : Sl w 1 A n c (bc p)) (_ : n ≤ 70368744177664), Calls Try.prog 18 #[.slice A n c, .int .i64 (m : Int)] w (TookT w (takeTextL p m))) := fun w A n c p h hn => taketext_any w A n c p h hn m (by omega)
  have C2 : Hid (∀ (w : World) (A : Option Addr) (n c : Nat) (p : List UInt8) (_ : Sl w 1 A n c (bc p)) (_ : n ≤ 70368744177664), Calls Try.prog 18 #[.slice A n c, .int .i64 300] w (TookT w (takeTextL p 300))) := fun w A n c p h hn => taketext_any w A n c p h hn 300 (by omega)
  have HK := Lib.hid hk
  clear h hp hk
  rcases Nat.lt_or_ge 30 n with h30 | h30
  · have hr := HR.out 30 (by have := HK.out; omega)
    clear HK HR
    go_enter Try.func9, Try.ntmps9
    go_wp2_with fail
    refine (awake01 w).mono ?_
    rintro e w0 ⟨rfl, hb0⟩
    go_wp2_with fail
    go_loopw [5, 25] (fun pv q wr => ∃ j : Nat, j ≤ k ∧ q = .int .i64 j ∧ Below w0.heap.size w0 wr ∧ ∃ A2 n2 c2, pv = .slice A2 n2 c2 ∧ OwnB wr w0.heap.size A2 n2 c2 (textsL (ks.take j))) (fun _ q _ => k - (intOf q).toNat)
    case atStart => exact ⟨0, Nat.zero_le _, rfl, Below.refl _ _, none, 0, 0, rfl, (show textsL (ks.take 0) = [] from by simp [textsL]) ▸ Own.nil _ _ _ _ _⟩
    case round =>
      obtain ⟨j, hj, rfl, hbr, A2, n2, c2, rfl, ho2⟩ := hrel
      have hbw := hb0.trans (hbr.mono hb0.size)
      by_cases hlt : j < k
      · obtain ⟨b, o, A', n', c', hkl, rfl, hcell, hsl⟩ := (hps.below hbw).get (hs.below (by omega) hbw) hlt
        have hn2 := ho2.len'
        have htl := textsL_le (ks.take j)
        have hkj : (ks.take j).length ≤ 30 := by simp; omega
        have hn2l : n2 ≤ 9270 := by omega
        have hsn := textsL_snoc (ks.take j) ks[j]
        rw [← List.take_succ_eq_append_getElem hkl] at hsn
        have Hsn := Lib.hid hsn
        clear hsn htl hkj hn2
        go_wp2_with fail
        refine (cut_any wr A' n' c' _ 300 hsl (by omega)).mono ?_
        have ht : (ks[j].take 300).length ≤ 300 := by simp; omega
        generalize ks[j].take 300 = t at *
        rintro e w3 ⟨A3, n3, c3, rfl, ho3, hb3⟩
        have hn3 := ho3.len'
        have hn3l : n3 ≤ 300 := by omega
        clear hn3
        go_wp2_with fail
        refine (text_any w3 A3 n3 c3 t (OwnB.sl ho3) (by omega)).mono ?_
        have hxl : (textL t).length ≤ 309 := by have := num_len t.length; unfold textL; rw [List.length_append]; omega
        generalize textL t = x at *
        rintro e w4 ⟨A4, n4, c4, rfl, ho4, hb4⟩
        have hn4 := ho4.len'
        have hn4l : n4 ≤ 309 := by omega
        clear hn4
        have hb34 := hb3.trans (hb4.mono hb3.size)
        go_wp2_with fail
        refine (ajoin_two w4 A2 n2 c2 _ A4 n4 c4 x ((OwnB.sl ho2).below (by omega) hb34) (OwnB.sl ho4) (by omega)).mono ?_
        rintro e w5 ⟨A5, n5, c5, rfl, ho5, hb5⟩
        have hb05 := (hbr.trans (hb34.mono hbr.size)).trans (hb5.mono (Nat.le_trans hbr.size hb34.size))
        go_wp2
        go_roundw
        case rel => exact ⟨j + 1, by omega, by go_num, hb05, A5, n5, c5, rfl, by rw [Hsn.out]; exact Own.mono ho5 (Nat.le_trans hbr.size hb34.size)⟩
        case measure => simp [intOf]; omega
      · obtain rfl : k = j := by omega
        rw [List.take_of_length_le (show ks.length ≤ k by have := Hl.out; omega)] at ho2
        have hp2 := OwnB.sl ho2
        have hn2 := hp2.lenb
        have htl := textsL_le ks
        have hn2l : n2 ≤ 9270 := by have := Hl.out; omega
        clear ho2 hn2 htl
        go_wp2
        go_loopw [5, 38] (fun pv q wx => ∃ j : Nat, j ≤ k ∧ q = .int .i64 j ∧ Below wr.heap.size wr wx ∧ ∃ A6 n6 c6, pv = .slice A6 n6 c6 ∧ Sl wx 1 A6 n6 c6 (bc (textsL (ks.drop j))) ∧ n6 ≤ 9270) (fun _ q _ => k - (intOf q).toNat)
        case atStart => exact ⟨0, Nat.zero_le _, rfl, Below.refl _ _, A2, n2, c2, rfl, hp2, hn2l⟩
        case round =>
          clear hp2
          obtain ⟨j, hj, rfl, hbx, A6, n6, c6, rfl, hs6, hn6⟩ := hrel
          have hbwx := hbw.trans (hbx.mono hbw.size)
          by_cases hlt : j < k
          · obtain ⟨b, o, A', n', c', hkl, rfl, hcell, hsl⟩ := (hps.below hbwx).get (hs.below (by omega) hbwx) hlt
            have hdr : textsL (ks.drop j) = textL (ks[j].take 300) ++ textsL (ks.drop (j + 1)) := by rw [List.drop_eq_getElem_cons hkl, textsL_cons]
            rw [hdr] at hs6
            have ht : (ks[j].take 300).length ≤ 300 := by simp; omega
            go_wp2_with fail
            refine (cut_any _ A' n' c' _ 300 hsl (by omega)).mono ?_
            generalize ks[j].take 300 = t at *
            obtain ⟨R, hR⟩ : ∃ R, textsL (ks.drop (j + 1)) = R := ⟨_, rfl⟩
            rw [hR] at hs6
            have HRR := Lib.hid hR
            clear hR
            have hk1 := take_text t R (by omega) m
            have hk2 : takeTextL (textL t ++ R) 300 = (t, R, 0) := (take_text t R (by omega) 300).trans (if_pos ht)
            rintro e w7 ⟨A7, n7, c7, rfl, ho7, hb7⟩
            have hn7 := ho7.len'
            subst hn7
            have Hk1 := Lib.hid hk1
            have Hk2 := Lib.hid hk2
            clear hk1 hk2 hdr
            have hs7 := OwnB.sl ho7
            have hs6' := hs6.below (by omega) hb7
            go_wp2_with fail
            refine (C1.out w7 A6 n6 c6 _ hs6' (by omega)).mono ?_
            rw [Hk1.out]
            by_cases hmt : t.length ≤ m
            · rw [if_pos hmt]
              rintro e w8 ⟨A8, n8, c8, A9, n9, c9, rfl, hs8, hs9, hb8⟩
              have d1 : decide ((t.length : Int) ≤ (m : Int)) = true := by simp; omega
              go_wp2_with fail
              refine (C2.out w8 A6 n6 c6 _ (hs6'.below (by omega) hb8) (by omega)).mono ?_
              rw [Hk2.out]
              rintro e w9 ⟨B8, m8, d8, B9, m9, d9, rfl, ht8, ht9, hb9⟩
              have hb79 := hb8.trans (hb9.mono hb8.size)
              have hb69 := hb7.trans (hb79.mono hb7.size)
              have hs7 := hs7.below (by omega) hb79
              have hm9 : R.length = m9 := ht9.lenb
              have hn6' := hs6.lenb
              have hnl : m9 ≤ n6 := by rw [List.length_append] at hn6'; omega
              clear hm9 hn6'
              go_wp2_with fail
              refine (same_is w9 B8 m8 d8 t A7 _ c7 t true (by unfold Hid; simp) ht8 hs7).mono ?_
              rintro e w' ⟨rfl, rfl⟩
              go_wp2
              go_roundw
              case rel => exact ⟨j + 1, by omega, by go_num, hbx.trans (hb69.mono hbx.size), B9, m9, d9, rfl, by rw [HRR.out]; exact ht9, by omega⟩
              case measure => simp [intOf]; omega
            · rw [if_neg hmt]
              rintro e w8 ⟨A8, n8, c8, A9, n9, c9, rfl, hs8, hs9, hb8⟩
              have d1 : decide ((t.length : Int) ≤ (m : Int)) = false := by simp; omega
              go_wp2_with fail
              refine (C2.out w8 A6 n6 c6 _ (hs6'.below (by omega) hb8) (by omega)).mono ?_
              rw [Hk2.out]
              rintro e w9 ⟨B8, m8, d8, B9, m9, d9, rfl, ht8, ht9, hb9⟩
              have hb79 := hb8.trans (hb9.mono hb8.size)
              have hb69 := hb7.trans (hb79.mono hb7.size)
              have hs7 := hs7.below (by omega) hb79
              have hm9 : R.length = m9 := ht9.lenb
              have hn6' := hs6.lenb
              have hnl : m9 ≤ n6 := by rw [List.length_append] at hn6'; omega
              clear hm9 hn6'
              go_wp2_with fail
              refine (same_is w9 B8 m8 d8 t A7 _ c7 t true (by unfold Hid; simp) ht8 hs7).mono ?_
              rintro e w' ⟨rfl, rfl⟩
              go_wp2
              go_roundw
              case rel => exact ⟨j + 1, by omega, by go_num, hbx.trans (hb69.mono hbx.size), B9, m9, d9, rfl, by rw [HRR.out]; exact ht9, by omega⟩
              case measure => simp [intOf]; omega
          · obtain rfl : k = j := by omega
            rw [List.drop_of_length_le (show ks.length ≤ k by have := Hl.out; omega)] at hs6
            obtain rfl : n6 = 0 := by have := hs6.lenb; simpa [textsL] using this.symm
            clear hs6
            go_wp2
            go_ret
            exact ⟨rfl, hbwx⟩
  · have hr := HR.out n (by have := HK.out; omega)
    clear HK HR
    go_enter Try.func9, Try.ntmps9
    go_wp2_with fail
    refine (awake01 w).mono ?_
    rintro e w0 ⟨rfl, hb0⟩
    go_wp2_with fail
    go_loopw [5, 25] (fun pv q wr => ∃ j : Nat, j ≤ k ∧ q = .int .i64 j ∧ Below w0.heap.size w0 wr ∧ ∃ A2 n2 c2, pv = .slice A2 n2 c2 ∧ OwnB wr w0.heap.size A2 n2 c2 (textsL (ks.take j))) (fun _ q _ => k - (intOf q).toNat)
    case atStart => exact ⟨0, Nat.zero_le _, rfl, Below.refl _ _, none, 0, 0, rfl, (show textsL (ks.take 0) = [] from by simp [textsL]) ▸ Own.nil _ _ _ _ _⟩
    case round =>
      obtain ⟨j, hj, rfl, hbr, A2, n2, c2, rfl, ho2⟩ := hrel
      have hbw := hb0.trans (hbr.mono hb0.size)
      by_cases hlt : j < k
      · obtain ⟨b, o, A', n', c', hkl, rfl, hcell, hsl⟩ := (hps.below hbw).get (hs.below (by omega) hbw) hlt
        have hn2 := ho2.len'
        have htl := textsL_le (ks.take j)
        have hkj : (ks.take j).length ≤ 30 := by simp; omega
        have hn2l : n2 ≤ 9270 := by omega
        have hsn := textsL_snoc (ks.take j) ks[j]
        rw [← List.take_succ_eq_append_getElem hkl] at hsn
        have Hsn := Lib.hid hsn
        clear hsn htl hkj hn2
        go_wp2_with fail
        refine (cut_any wr A' n' c' _ 300 hsl (by omega)).mono ?_
        have ht : (ks[j].take 300).length ≤ 300 := by simp; omega
        generalize ks[j].take 300 = t at *
        rintro e w3 ⟨A3, n3, c3, rfl, ho3, hb3⟩
        have hn3 := ho3.len'
        have hn3l : n3 ≤ 300 := by omega
        clear hn3
        go_wp2_with fail
        refine (text_any w3 A3 n3 c3 t (OwnB.sl ho3) (by omega)).mono ?_
        have hxl : (textL t).length ≤ 309 := by have := num_len t.length; unfold textL; rw [List.length_append]; omega
        generalize textL t = x at *
        rintro e w4 ⟨A4, n4, c4, rfl, ho4, hb4⟩
        have hn4 := ho4.len'
        have hn4l : n4 ≤ 309 := by omega
        clear hn4
        have hb34 := hb3.trans (hb4.mono hb3.size)
        go_wp2_with fail
        refine (ajoin_two w4 A2 n2 c2 _ A4 n4 c4 x ((OwnB.sl ho2).below (by omega) hb34) (OwnB.sl ho4) (by omega)).mono ?_
        rintro e w5 ⟨A5, n5, c5, rfl, ho5, hb5⟩
        have hb05 := (hbr.trans (hb34.mono hbr.size)).trans (hb5.mono (Nat.le_trans hbr.size hb34.size))
        go_wp2
        go_roundw
        case rel => exact ⟨j + 1, by omega, by go_num, hb05, A5, n5, c5, rfl, by rw [Hsn.out]; exact Own.mono ho5 (Nat.le_trans hbr.size hb34.size)⟩
        case measure => simp [intOf]; omega
      · obtain rfl : k = j := by omega
        rw [List.take_of_length_le (show ks.length ≤ k by have := Hl.out; omega)] at ho2
        have hp2 := OwnB.sl ho2
        have hn2 := hp2.lenb
        have htl := textsL_le ks
        have hn2l : n2 ≤ 9270 := by have := Hl.out; omega
        clear ho2 hn2 htl
        go_wp2
        go_loopw [5, 38] (fun pv q wx => ∃ j : Nat, j ≤ k ∧ q = .int .i64 j ∧ Below wr.heap.size wr wx ∧ ∃ A6 n6 c6, pv = .slice A6 n6 c6 ∧ Sl wx 1 A6 n6 c6 (bc (textsL (ks.drop j))) ∧ n6 ≤ 9270) (fun _ q _ => k - (intOf q).toNat)
        case atStart => exact ⟨0, Nat.zero_le _, rfl, Below.refl _ _, A2, n2, c2, rfl, hp2, hn2l⟩
        case round =>
          clear hp2
          obtain ⟨j, hj, rfl, hbx, A6, n6, c6, rfl, hs6, hn6⟩ := hrel
          have hbwx := hbw.trans (hbx.mono hbw.size)
          by_cases hlt : j < k
          · obtain ⟨b, o, A', n', c', hkl, rfl, hcell, hsl⟩ := (hps.below hbwx).get (hs.below (by omega) hbwx) hlt
            have hdr : textsL (ks.drop j) = textL (ks[j].take 300) ++ textsL (ks.drop (j + 1)) := by rw [List.drop_eq_getElem_cons hkl, textsL_cons]
            rw [hdr] at hs6
            have ht : (ks[j].take 300).length ≤ 300 := by simp; omega
            go_wp2_with fail
            refine (cut_any _ A' n' c' _ 300 hsl (by omega)).mono ?_
            generalize ks[j].take 300 = t at *
            obtain ⟨R, hR⟩ : ∃ R, textsL (ks.drop (j + 1)) = R := ⟨_, rfl⟩
            rw [hR] at hs6
            have HRR := Lib.hid hR
            clear hR
            have hk1 := take_text t R (by omega) m
            have hk2 : takeTextL (textL t ++ R) 300 = (t, R, 0) := (take_text t R (by omega) 300).trans (if_pos ht)
            rintro e w7 ⟨A7, n7, c7, rfl, ho7, hb7⟩
            have hn7 := ho7.len'
            subst hn7
            have Hk1 := Lib.hid hk1
            have Hk2 := Lib.hid hk2
            clear hk1 hk2 hdr
            have hs7 := OwnB.sl ho7
            have hs6' := hs6.below (by omega) hb7
            go_wp2_with fail
            refine (C1.out w7 A6 n6 c6 _ hs6' (by omega)).mono ?_
            rw [Hk1.out]
            by_cases hmt : t.length ≤ m
            · rw [if_pos hmt]
              rintro e w8 ⟨A8, n8, c8, A9, n9, c9, rfl, hs8, hs9, hb8⟩
              have d1 : decide ((t.length : Int) ≤ (m : Int)) = true := by simp; omega
              go_wp2_with fail
              refine (C2.out w8 A6 n6 c6 _ (hs6'.below (by omega) hb8) (by omega)).mono ?_
              rw [Hk2.out]
              rintro e w9 ⟨B8, m8, d8, B9, m9, d9, rfl, ht8, ht9, hb9⟩
              have hb79 := hb8.trans (hb9.mono hb8.size)
              have hb69 := hb7.trans (hb79.mono hb7.size)
              have hs7 := hs7.below (by omega) hb79
              have hm9 : R.length = m9 := ht9.lenb
              have hn6' := hs6.lenb
              have hnl : m9 ≤ n6 := by rw [List.length_append] at hn6'; omega
              clear hm9 hn6'
              go_wp2_with fail
              refine (same_is w9 B8 m8 d8 t A7 _ c7 t true (by unfold Hid; simp) ht8 hs7).mono ?_
              rintro e w' ⟨rfl, rfl⟩
              go_wp2
              go_roundw
              case rel => exact ⟨j + 1, by omega, by go_num, hbx.trans (hb69.mono hbx.size), B9, m9, d9, rfl, by rw [HRR.out]; exact ht9, by omega⟩
              case measure => simp [intOf]; omega
            · rw [if_neg hmt]
              rintro e w8 ⟨A8, n8, c8, A9, n9, c9, rfl, hs8, hs9, hb8⟩
              have d1 : decide ((t.length : Int) ≤ (m : Int)) = false := by simp; omega
              go_wp2_with fail
              refine (C2.out w8 A6 n6 c6 _ (hs6'.below (by omega) hb8) (by omega)).mono ?_
              rw [Hk2.out]
              rintro e w9 ⟨B8, m8, d8, B9, m9, d9, rfl, ht8, ht9, hb9⟩
              have hb79 := hb8.trans (hb9.mono hb8.size)
              have hb69 := hb7.trans (hb79.mono hb7.size)
              have hs7 := hs7.below (by omega) hb79
              have hm9 : R.length = m9 := ht9.lenb
              have hn6' := hs6.lenb
              have hnl : m9 ≤ n6 := by rw [List.length_append] at hn6'; omega
              clear hm9 hn6'
              go_wp2_with fail
              refine (same_is w9 B8 m8 d8 t A7 _ c7 t true (by unfold Hid; simp) ht8 hs7).mono ?_
              rintro e w' ⟨rfl, rfl⟩
              go_wp2
              go_roundw
              case rel => exact ⟨j + 1, by omega, by go_num, hbx.trans (hb69.mono hbx.size), B9, m9, d9, rfl, by rw [HRR.out]; exact ht9, by omega⟩
              case measure => simp [intOf]; omega
          · obtain rfl : k = j := by omega
            rw [List.drop_of_length_le (show ks.length ≤ k by have := Hl.out; omega)] at hs6
            obtain rfl : n6 = 0 := by have := hs6.lenb; simpa [textsL] using this.symm
            clear hs6
            go_wp2
            go_ret
            exact ⟨rfl, hbwx⟩
end Go.Proofs.Ythbmlkdijppkbaa
