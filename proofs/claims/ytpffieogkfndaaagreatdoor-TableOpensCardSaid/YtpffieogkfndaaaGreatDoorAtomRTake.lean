/-
  What the reference's Take computes: the number in front, and what stands behind. No condition but sizes.
-/
import Derived.Test.YtpffieogkfndaaaGreatDoorJGuarded
import Derived.Test.YtpffieogkfndaaaGreatDoorJRowsX
namespace Go.Proofs.YtpffieogkfndaaaGreatDoor
set_option maxRecDepth 20000
set_option linter.unusedVariables false
set_option linter.unusedSimpArgs false
open Go.RowKit

theorem value_one (b : Nat) (t : List UInt8) (h : b ≤ 240) : valueL b t = b := by unfold valueL; rw [if_pos h]
theorem take_first (b : UInt8) (r : List UInt8) (h : b.toNat ≤ 240) : takeL (b :: r) = (b.toNat, r, 0) := by
  have h0 : lenL b.toNat = 0 := by unfold lenL; rw [if_pos h]
  have h1 : numL b.toNat = [b] := by
    unfold numL
    rw [if_pos (by omega)]
    simp
  simp only [takeL, h0, List.take_zero, List.drop_zero, value_one _ _ h, h1]
  rw [if_neg (by simp)]
  simp
set_option maxHeartbeats 8000000 in
theorem rtake_any (w : World) (A : Option Addr) (n c : Nat) (p : List UInt8) (h : Sl w 1 A n c (bc p)) (hn : n ≤ 70368744177664) :
    Calls Tryz.prog 71 #[.slice A n c] w (TookB w (takeL p)) := by
  cases p with
  | nil =>
    obtain rfl : n = 0 := by have := h.lenb; simpa using this.symm
    have e : takeL [] = (0, [], 2) := rfl
    rw [e]
    clear e
    go_enter Tryz.func71, Tryz.ntmps71
    go_wp2
    go_ret3
    exact ⟨none, 0, 0, rfl, Own.nil _ _ _ _ _, Below.refl _ _⟩
  | cons b r =>
    have hl := h.lenb
    simp only [List.length_cons] at hl
    obtain ⟨g, o, x, rfl, hx, hxl, hcell⟩ := h.byte (k := 0) (by simp)
    simp only [List.getElem_cons_zero, Nat.add_zero] at hx hcell
    have hlen := lenL_le x hxl
    have hn0 : ((n : Int) == 0) = false := by simp; omega
    have hn1 : 0 < n := by omega
    have hcap := h.cap
    have hcm := h.capm
    unfold maxLen at hcm
    by_cases h240 : x ≤ 240
    · have e := take_first b r (by omega)
      rw [hx] at e
      rw [e]
      obtain ⟨A2, r2, s2, _⟩ := cutL h .i64 (1 : Int) 1 rfl (by omega)
      have e2 : (b :: r).drop 1 = r := rfl
      rw [e2] at s2
      have s2' := s2.below (by omega) ((Below.refl w.heap.size w).alloc (Nat.le_refl _) (.cells #[] 5))
      clear e e2 hl hx hlen
      go_enter Tryz.func71, Tryz.ntmps71
      go_wp2_with (at_builtin; refine wpList_appB _ rfl (.tmp 24) (.tmp 26) rfl w.heap.size _ 0 0 [] rfl (Own.nil _ _ _ _ _) A2 _ _ r rfl s2' ?_ ?_ ?_)
      · omega
      · simp
      · intro A3 c3 w3 ho3 hg3 _
        go_wp2
        go_ret3
        exact ⟨A3, _, c3, rfl, by simpa using ho3, ((Below.refl w.heap.size w).alloc (Nat.le_refl _) _).grown hg3 (by simp) (by simp [blk])⟩
    · obtain ⟨k, hk⟩ : ∃ k, lenL x = k := ⟨_, rfl⟩
      have hkx : (x ≤ 248 → k = 1) ∧ (x = 249 → k = 2) ∧ (250 ≤ x → k + 247 = x) := by
        rw [← hk]
        unfold lenL
        rw [if_neg h240]
        refine ⟨fun q => by rw [if_pos q], fun q => by rw [if_neg (by omega), if_pos q], fun q => by rw [if_neg (by omega), if_neg (by omega)]; omega⟩
      rw [hk] at hlen
      by_cases hs : n < 1 + k
      · have e : takeL (b :: r) = (0, [], 2) := by simp only [takeL, List.length_cons]; rw [hx, hk, if_pos (by omega)]
        rw [e]
        clear e hl hx hk
        rcases Nat.lt_or_ge 248 x with h248 | h248
        · by_cases h249 : x = 249
          · subst h249
            obtain rfl : k = 2 := hkx.2.1 rfl
            clear hkx
            go_enter Tryz.func71, Tryz.ntmps71
            go_wp2
            go_ret3
            exact ⟨none, 0, 0, rfl, Own.nil _ _ _ _ _, Below.refl _ _⟩
          · have hk3 := hkx.2.2 (by omega)
            have d1 : ((x : Int) == 249) = false := by simp; omega
            clear hkx
            go_enter Tryz.func71, Tryz.ntmps71
            go_wp2
            go_ret3
            exact ⟨none, 0, 0, rfl, Own.nil _ _ _ _ _, Below.refl _ _⟩
        · obtain rfl : k = 1 := hkx.1 h248
          clear hkx
          go_enter Tryz.func71, Tryz.ntmps71
          go_wp2
          go_ret3
          exact ⟨none, 0, 0, rfl, Own.nil _ _ _ _ _, Below.refl _ _⟩
      · rcases Nat.lt_or_ge 248 x with h248 | h248
        · by_cases h249 : x = 249
          · have d1 : ((x : Int) == 249) = true := by simp; omega
            obtain rfl : k = 2 := hkx.2.1 h249
            obtain ⟨A1, r1, s1, _⟩ := cutLH h .i64 .i64 1 (3) 1 (1 + 2) rfl (by omega) (by omega) (by omega)
            have e1 : (List.drop 1 (b :: r)).take (1 + 2 - 1) = r.take 2 := by rw [Nat.add_sub_cancel_left]; rfl
            have ek : 1 + 2 - 1 = 2 := by omega
            rw [e1, ek] at s1
            simp only [ek] at r1
            clear ek e1
            have ht : (r.take 2).length = lenL x := by rw [hk]; simp; omega
            have hvl := value_lt b (r.take 2) (by rw [hx]; exact ht)
            rw [hx] at hvl
            obtain ⟨A2, r2, s2, _⟩ := cutL h .i64 (3) (1 + 2) (by omega) (by omega)
            have e2 : (b :: r).drop (1 + 2) = r.drop 2 := by rw [Nat.add_comm]; rfl
            rw [e2] at s2
            obtain ⟨r3, s3⟩ := cutH h .i64 (3) (1 + 2) (by omega) (by omega)
            have e3 : (b :: r).take (1 + 2) = b :: r.take 2 := by rw [Nat.add_comm]; rfl
            rw [e3] at s3
            have htk : takeL (b :: r) = if numL (valueL x (r.take 2)) = b :: r.take 2 then (valueL x (r.take 2), r.drop 2, 0) else (0, [], 4) := by
              simp only [takeL, List.length_cons]
              rw [hx, hk, if_neg (by omega)]
            have hval : valueL x (r.take 2) = 2288 + beval (r.take 2) := by
              unfold valueL
              first | rw [if_neg h240, if_pos h248] | (rw [if_neg h240, if_neg (by omega), if_pos h249]) | (rw [if_neg h240, if_neg (by omega), if_neg (by omega)])
            have hbt := beval_lt (r.take 2)
            have hkl : (r.take 2).length = 2 := by simp; omega
            have Hx := Lib.hid hx
            have Hkl := Lib.hid hkl
            have Hval := Lib.hid hval
            have Htk := Lib.hid htk
            rw [hkl] at hbt
            obtain ⟨t, hte⟩ : ∃ t, r.take 2 = t := ⟨_, rfl⟩
            rw [hte] at s1 s3 Htk Hval Hkl hbt hvl
            have Hte := Lib.hid hte
            obtain ⟨v, hv⟩ : ∃ v, valueL x t = v := ⟨_, rfl⟩
            rw [hv] at Htk Hval hvl
            clear hte ht hx hk e2 e3 htk hval hkl hv hkx hl
            have hnum : ∀ (w' : World) (I : Int), I = (v : Int) → Calls Tryz.prog 52 #[.int .u64 I] w' (NewB w' (numL v)) := by
              rintro w' I rfl
              exact rnum_any v w' hvl
            have Hnum := Lib.hid hnum
            clear hnum
            go_enter Tryz.func71, Tryz.ntmps71
            go_wp2
            go_loop [6, 42] (fun s i => ∃ j : Nat, j ≤ 2 ∧ i = .int .i64 j ∧ s = .int .u64 (beval (t.take j) : Nat)) (fun _ i => 2 - (intOf i).toNat)
            case atStart => exact ⟨0, Nat.zero_le _, rfl, rfl⟩
            case round =>
              obtain ⟨j, hj, rfl, rfl⟩ := hrel
              by_cases hjn : j < 2
              · have hjt : j < t.length := by have := Hkl.out; omega
                obtain ⟨g1, o1, y, rfl, hy, hyl, hycell⟩ := s1.byte hjt
                have hv : beval (t.take j) < 72057594037927936 := by
                  have h1 := beval_lt (t.take j)
                  have h2 : (256 : Nat) ^ (t.take j).length ≤ 256 ^ 7 := Nat.pow_le_pow_right (by omega) (by rw [List.length_take]; omega)
                  have : (256 : Nat) ^ 7 = 72057594037927936 := rfl
                  omega
                have hs2 := beval_snoc (t.take j) t[j]
                rw [← List.take_succ_eq_append_getElem hjt, hy] at hs2
                have Hs2 := Lib.hid hs2
                generalize beval (t.take j) = z at *
                clear hs2 hy hbt
                go_wp2
                go_round
                case rel => exact ⟨j + 1, by omega, by go_num, by rw [Hs2.out]; go_num⟩
                case measure => simp [intOf]; omega
              · rw [List.take_of_length_le (show t.length ≤ j by have := Hkl.out; omega)]
                obtain ⟨z, hz⟩ : ∃ z, beval t = z := ⟨_, rfl⟩
                rw [hz] at hbt Hval
                rw [hz]
                clear hz
                have hzl : z < 18446744073709551616 := by have := Hval.out; omega
                try simp only [Nat.reducePow] at hbt
                obtain ⟨bb, hbb⟩ : ∃ bb, (numL v == b :: t) = bb := ⟨_, rfl⟩
                have Hbb := Lib.hid hbb
                clear hbb
                go_wp2
                refine wp_region_any (by kernel_rfl) ?_
                try (change wpAny _ _ _ _ _ _ _ (World.drew _))
                refine wpAny_take (i := 0) (v := ?_) rfl (by kernel_rfl) (by kernel_rfl) (by kernel_rfl) (fun _ _ _ h => h) (Or.inl ⟨by kernel_rfl, ?_⟩) ?_
                case refine_2 => ((intro w; go_simp); try with_reducible rfl)
                refine wpAny_take (i := 2) (v := ?_) rfl (by kernel_rfl) (by kernel_rfl) (by kernel_rfl) (fun _ _ _ h => h) (Or.inl ⟨by kernel_rfl, ?_⟩) ?_
                case refine_2 => ((intro w; go_simp); try with_reducible rfl)
                refine wpAny_take (i := 3) (v := ?_) rfl (by kernel_rfl) (by kernel_rfl) (by kernel_rfl) (fun _ _ _ h => h) (Or.inl ⟨by kernel_rfl, ?_⟩) ?_
                case refine_2 => ((intro w; go_simp); try with_reducible rfl)
                refine wpAny_take (i := 4) (v := ?_) rfl (by kernel_rfl) (by kernel_rfl) (by kernel_rfl) (fun _ _ _ h => h) (Or.inl ⟨by kernel_rfl, ?_⟩) ?_
                case refine_2 => ((intro w; go_simp); try with_reducible rfl)
                refine wpAny_ready (rs := [1]) (by kernel_rfl) (by simp) ?_
                refine AllReady.cons rfl (fun K hK => ?_) AllReady.nil
                go_simp
                refine (Hnum.out _ _ (by have := Hval.out; omega)).mono ?_
                rintro e w3 ⟨A3, n3, c3, rfl, ho3, hb3⟩
                go_simp
                refine hK _ _ ?_
                clear hK K
                refine wpAny_ready (rs := [5]) (by kernel_rfl) (by simp) ?_
                refine AllReady.cons rfl (fun K hK => ?_) AllReady.nil
                go_simp
                refine (same_is _ A3 n3 c3 _ _ _ _ _ bb Hbb (OwnB.sl ho3) ((Sl.drew s3).below (by omega) hb3)).mono ?_
                rintro e w' ⟨rfl, rfl⟩
                go_simp
                refine hK _ _ ?_
                clear hK K
                refine wpAny_take (i := 6) (v := ?_) rfl (by kernel_rfl) (by kernel_rfl) (by kernel_rfl) (fun _ _ _ h => h) (Or.inl ⟨by kernel_rfl, ?_⟩) ?_
                case refine_2 => ((intro w; go_simp); try with_reducible rfl)
                refine wpAny_done (by kernel_rfl) ?_ _
                have hb1 := Below.trans (Below.drew (Below.refl w.heap.size w)) hb3
                cases bb with
                | true =>
                  have he : takeL (b :: r) = (v, r.drop 2, 0) := by
                    have h1 := Htk.out
                    rw [h1, if_pos (eq_of_beq Hbb.out)]
                  have He := Lib.hid he
                  clear he
                  have s2' := (s2.below (by omega) hb1).below (by omega) ((Below.refl w3.heap.size w3).alloc (Nat.le_refl _) (.cells #[] 5))
                  have hbz := hb1.alloc hb1.size (.cells #[] 5)
                  go_wp2_with (at_builtin; refine wpList_appB _ rfl (.tmp 75) (.tmp 78) rfl w.heap.size _ 0 0 [] rfl (Own.nil _ _ _ _ _) A2 _ _ _ rfl s2' ?_ ?_ ?_)
                  · omega
                  · exact hbz.size
                  · intro A4 c4 w4 ho4 hg4 _
                    go_wp2
                    go_ret3
                    rw [He.out]
                    refine ⟨A4, _, c4, ?_, by simpa using ho4, hbz.grown hg4 hbz.size (by simp [blk])⟩
                    have h1 := Hval.out
                    first | rfl | (refine congrArg (fun q => Ending.returned (Value.tuple #[Value.int .u64 q, _, _])) ?_; omega)
                | false =>
                  have he : takeL (b :: r) = (0, [], 4) := by
                    have h1 := Htk.out
                    rw [h1, if_neg (by intro q; have h3 := Hbb.out; rw [q] at h3; simp at h3)]
                  have He := Lib.hid he
                  clear he
                  go_wp2
                  go_ret3
                  rw [He.out]
                  exact ⟨none, 0, 0, rfl, Own.nil _ _ _ _ _, hb1⟩
          · have hk3 := hkx.2.2 (by omega)
            have d1 : ((x : Int) == 249) = false := by simp; omega
            obtain ⟨A1, r1, s1, _⟩ := cutLH h .i64 .i64 1 ((x : Int) - 246) 1 (1 + k) rfl (by omega) (by omega) (by omega)
            have e1 : (List.drop 1 (b :: r)).take (1 + k - 1) = r.take k := by rw [Nat.add_sub_cancel_left]; rfl
            have ek : 1 + k - 1 = k := by omega
            rw [e1, ek] at s1
            simp only [ek] at r1
            clear ek e1
            have ht : (r.take k).length = lenL x := by rw [hk]; simp; omega
            have hvl := value_lt b (r.take k) (by rw [hx]; exact ht)
            rw [hx] at hvl
            obtain ⟨A2, r2, s2, _⟩ := cutL h .i64 ((x : Int) - 246) (1 + k) (by omega) (by omega)
            have e2 : (b :: r).drop (1 + k) = r.drop k := by rw [Nat.add_comm]; rfl
            rw [e2] at s2
            obtain ⟨r3, s3⟩ := cutH h .i64 ((x : Int) - 246) (1 + k) (by omega) (by omega)
            have e3 : (b :: r).take (1 + k) = b :: r.take k := by rw [Nat.add_comm]; rfl
            rw [e3] at s3
            have htk : takeL (b :: r) = if numL (valueL x (r.take k)) = b :: r.take k then (valueL x (r.take k), r.drop k, 0) else (0, [], 4) := by
              simp only [takeL, List.length_cons]
              rw [hx, hk, if_neg (by omega)]
            have hval : valueL x (r.take k) = beval (r.take k) := by
              unfold valueL
              first | rw [if_neg h240, if_pos h248] | (rw [if_neg h240, if_neg (by omega), if_pos h249]) | (rw [if_neg h240, if_neg (by omega), if_neg (by omega)])
            have hbt := beval_lt (r.take k)
            have hkl : (r.take k).length = k := by simp; omega
            have Hx := Lib.hid hx
            have Hkl := Lib.hid hkl
            have Hval := Lib.hid hval
            have Htk := Lib.hid htk
            rw [hkl] at hbt
            obtain ⟨t, hte⟩ : ∃ t, r.take k = t := ⟨_, rfl⟩
            rw [hte] at s1 s3 Htk Hval Hkl hbt hvl
            have Hte := Lib.hid hte
            obtain ⟨v, hv⟩ : ∃ v, valueL x t = v := ⟨_, rfl⟩
            rw [hv] at Htk Hval hvl
            clear hte ht hx hk e2 e3 htk hval hkl hv hkx hl
            have hnum : ∀ (w' : World) (I : Int), I = (v : Int) → Calls Tryz.prog 52 #[.int .u64 I] w' (NewB w' (numL v)) := by
              rintro w' I rfl
              exact rnum_any v w' hvl
            have Hnum := Lib.hid hnum
            clear hnum
            go_enter Tryz.func71, Tryz.ntmps71
            go_wp2
            go_loop [6, 42] (fun s i => ∃ j : Nat, j ≤ k ∧ i = .int .i64 j ∧ s = .int .u64 (beval (t.take j) : Nat)) (fun _ i => k - (intOf i).toNat)
            case atStart => exact ⟨0, Nat.zero_le _, rfl, rfl⟩
            case round =>
              obtain ⟨j, hj, rfl, rfl⟩ := hrel
              by_cases hjn : j < k
              · have hjt : j < t.length := by have := Hkl.out; omega
                obtain ⟨g1, o1, y, rfl, hy, hyl, hycell⟩ := s1.byte hjt
                have hv : beval (t.take j) < 72057594037927936 := by
                  have h1 := beval_lt (t.take j)
                  have h2 : (256 : Nat) ^ (t.take j).length ≤ 256 ^ 7 := Nat.pow_le_pow_right (by omega) (by rw [List.length_take]; omega)
                  have : (256 : Nat) ^ 7 = 72057594037927936 := rfl
                  omega
                have hs2 := beval_snoc (t.take j) t[j]
                rw [← List.take_succ_eq_append_getElem hjt, hy] at hs2
                have Hs2 := Lib.hid hs2
                generalize beval (t.take j) = z at *
                clear hs2 hy hbt
                go_wp2
                go_round
                case rel => exact ⟨j + 1, by omega, by go_num, by rw [Hs2.out]; go_num⟩
                case measure => simp [intOf]; omega
              · rw [List.take_of_length_le (show t.length ≤ j by have := Hkl.out; omega)]
                obtain ⟨z, hz⟩ : ∃ z, beval t = z := ⟨_, rfl⟩
                rw [hz] at hbt Hval
                rw [hz]
                clear hz
                have hzl : z < 18446744073709551616 := by have := Hval.out; omega
                try simp only [Nat.reducePow] at hbt
                obtain ⟨bb, hbb⟩ : ∃ bb, (numL v == b :: t) = bb := ⟨_, rfl⟩
                have Hbb := Lib.hid hbb
                clear hbb
                go_wp2
                refine wp_region_any (by kernel_rfl) ?_
                try (change wpAny _ _ _ _ _ _ _ (World.drew _))
                refine wpAny_take (i := 0) (v := ?_) rfl (by kernel_rfl) (by kernel_rfl) (by kernel_rfl) (fun _ _ _ h => h) (Or.inl ⟨by kernel_rfl, ?_⟩) ?_
                case refine_2 => ((intro w; go_simp); try with_reducible rfl)
                refine wpAny_take (i := 2) (v := ?_) rfl (by kernel_rfl) (by kernel_rfl) (by kernel_rfl) (fun _ _ _ h => h) (Or.inl ⟨by kernel_rfl, ?_⟩) ?_
                case refine_2 => ((intro w; go_simp); try with_reducible rfl)
                refine wpAny_take (i := 3) (v := ?_) rfl (by kernel_rfl) (by kernel_rfl) (by kernel_rfl) (fun _ _ _ h => h) (Or.inl ⟨by kernel_rfl, ?_⟩) ?_
                case refine_2 => ((intro w; go_simp); try with_reducible rfl)
                refine wpAny_take (i := 4) (v := ?_) rfl (by kernel_rfl) (by kernel_rfl) (by kernel_rfl) (fun _ _ _ h => h) (Or.inl ⟨by kernel_rfl, ?_⟩) ?_
                case refine_2 => ((intro w; go_simp); try with_reducible rfl)
                refine wpAny_ready (rs := [1]) (by kernel_rfl) (by simp) ?_
                refine AllReady.cons rfl (fun K hK => ?_) AllReady.nil
                go_simp
                refine (Hnum.out _ _ (by have := Hval.out; omega)).mono ?_
                rintro e w3 ⟨A3, n3, c3, rfl, ho3, hb3⟩
                go_simp
                refine hK _ _ ?_
                clear hK K
                refine wpAny_ready (rs := [5]) (by kernel_rfl) (by simp) ?_
                refine AllReady.cons rfl (fun K hK => ?_) AllReady.nil
                go_simp
                refine (same_is _ A3 n3 c3 _ _ _ _ _ bb Hbb (OwnB.sl ho3) ((Sl.drew s3).below (by omega) hb3)).mono ?_
                rintro e w' ⟨rfl, rfl⟩
                go_simp
                refine hK _ _ ?_
                clear hK K
                refine wpAny_take (i := 6) (v := ?_) rfl (by kernel_rfl) (by kernel_rfl) (by kernel_rfl) (fun _ _ _ h => h) (Or.inl ⟨by kernel_rfl, ?_⟩) ?_
                case refine_2 => ((intro w; go_simp); try with_reducible rfl)
                refine wpAny_done (by kernel_rfl) ?_ _
                have hb1 := Below.trans (Below.drew (Below.refl w.heap.size w)) hb3
                cases bb with
                | true =>
                  have he : takeL (b :: r) = (v, r.drop k, 0) := by
                    have h1 := Htk.out
                    rw [h1, if_pos (eq_of_beq Hbb.out)]
                  have He := Lib.hid he
                  clear he
                  have s2' := (s2.below (by omega) hb1).below (by omega) ((Below.refl w3.heap.size w3).alloc (Nat.le_refl _) (.cells #[] 5))
                  have hbz := hb1.alloc hb1.size (.cells #[] 5)
                  go_wp2_with (at_builtin; refine wpList_appB _ rfl (.tmp 75) (.tmp 78) rfl w.heap.size _ 0 0 [] rfl (Own.nil _ _ _ _ _) A2 _ _ _ rfl s2' ?_ ?_ ?_)
                  · omega
                  · exact hbz.size
                  · intro A4 c4 w4 ho4 hg4 _
                    go_wp2
                    go_ret3
                    rw [He.out]
                    refine ⟨A4, _, c4, ?_, by simpa using ho4, hbz.grown hg4 hbz.size (by simp [blk])⟩
                    have h1 := Hval.out
                    first | rfl | (refine congrArg (fun q => Ending.returned (Value.tuple #[Value.int .u64 q, _, _])) ?_; omega)
                | false =>
                  have he : takeL (b :: r) = (0, [], 4) := by
                    have h1 := Htk.out
                    rw [h1, if_neg (by intro q; have h3 := Hbb.out; rw [q] at h3; simp at h3)]
                  have He := Lib.hid he
                  clear he
                  go_wp2
                  go_ret3
                  rw [He.out]
                  exact ⟨none, 0, 0, rfl, Own.nil _ _ _ _ _, hb1⟩
        · have h248' := h248
          obtain rfl : k = 1 := hkx.1 h248
          obtain ⟨A1, r1, s1, _⟩ := cutLH h .i64 .i64 1 (2) 1 (1 + 1) rfl (by omega) (by omega) (by omega)
          have e1 : (List.drop 1 (b :: r)).take (1 + 1 - 1) = r.take 1 := by rw [Nat.add_sub_cancel_left]; rfl
          have ek : 1 + 1 - 1 = 1 := by omega
          rw [e1, ek] at s1
          simp only [ek] at r1
          clear ek e1
          have ht : (r.take 1).length = lenL x := by rw [hk]; simp; omega
          have hvl := value_lt b (r.take 1) (by rw [hx]; exact ht)
          rw [hx] at hvl
          obtain ⟨A2, r2, s2, _⟩ := cutL h .i64 (2) (1 + 1) (by omega) (by omega)
          have e2 : (b :: r).drop (1 + 1) = r.drop 1 := by rw [Nat.add_comm]; rfl
          rw [e2] at s2
          obtain ⟨r3, s3⟩ := cutH h .i64 (2) (1 + 1) (by omega) (by omega)
          have e3 : (b :: r).take (1 + 1) = b :: r.take 1 := by rw [Nat.add_comm]; rfl
          rw [e3] at s3
          have htk : takeL (b :: r) = if numL (valueL x (r.take 1)) = b :: r.take 1 then (valueL x (r.take 1), r.drop 1, 0) else (0, [], 4) := by
            simp only [takeL, List.length_cons]
            rw [hx, hk, if_neg (by omega)]
          have hval : valueL x (r.take 1) = 240 + (x - 241) * 256 + beval (r.take 1) := by
            unfold valueL
            first | rw [if_neg h240, if_pos h248] | (rw [if_neg h240, if_neg (by omega), if_pos h249]) | (rw [if_neg h240, if_neg (by omega), if_neg (by omega)])
          have hbt := beval_lt (r.take 1)
          have hkl : (r.take 1).length = 1 := by simp; omega
          have Hx := Lib.hid hx
          have Hkl := Lib.hid hkl
          have Hval := Lib.hid hval
          have Htk := Lib.hid htk
          rw [hkl] at hbt
          obtain ⟨t, hte⟩ : ∃ t, r.take 1 = t := ⟨_, rfl⟩
          rw [hte] at s1 s3 Htk Hval Hkl hbt hvl
          have Hte := Lib.hid hte
          obtain ⟨v, hv⟩ : ∃ v, valueL x t = v := ⟨_, rfl⟩
          rw [hv] at Htk Hval hvl
          clear hte ht hx hk e2 e3 htk hval hkl hv hkx hl
          have hnum : ∀ (w' : World) (I : Int), I = (v : Int) → Calls Tryz.prog 52 #[.int .u64 I] w' (NewB w' (numL v)) := by
            rintro w' I rfl
            exact rnum_any v w' hvl
          have Hnum := Lib.hid hnum
          clear hnum
          go_enter Tryz.func71, Tryz.ntmps71
          go_wp2
          go_loop [6, 42] (fun s i => ∃ j : Nat, j ≤ 1 ∧ i = .int .i64 j ∧ s = .int .u64 (beval (t.take j) : Nat)) (fun _ i => 1 - (intOf i).toNat)
          case atStart => exact ⟨0, Nat.zero_le _, rfl, rfl⟩
          case round =>
            obtain ⟨j, hj, rfl, rfl⟩ := hrel
            by_cases hjn : j < 1
            · have hjt : j < t.length := by have := Hkl.out; omega
              obtain ⟨g1, o1, y, rfl, hy, hyl, hycell⟩ := s1.byte hjt
              have hv : beval (t.take j) < 72057594037927936 := by
                have h1 := beval_lt (t.take j)
                have h2 : (256 : Nat) ^ (t.take j).length ≤ 256 ^ 7 := Nat.pow_le_pow_right (by omega) (by rw [List.length_take]; omega)
                have : (256 : Nat) ^ 7 = 72057594037927936 := rfl
                omega
              have hs2 := beval_snoc (t.take j) t[j]
              rw [← List.take_succ_eq_append_getElem hjt, hy] at hs2
              have Hs2 := Lib.hid hs2
              generalize beval (t.take j) = z at *
              clear hs2 hy hbt
              go_wp2
              go_round
              case rel => exact ⟨j + 1, by omega, by go_num, by rw [Hs2.out]; go_num⟩
              case measure => simp [intOf]; omega
            · rw [List.take_of_length_le (show t.length ≤ j by have := Hkl.out; omega)]
              obtain ⟨z, hz⟩ : ∃ z, beval t = z := ⟨_, rfl⟩
              rw [hz] at hbt Hval
              rw [hz]
              clear hz
              have hzl : z < 18446744073709551616 := by have := Hval.out; omega
              try simp only [Nat.reducePow] at hbt
              obtain ⟨bb, hbb⟩ : ∃ bb, (numL v == b :: t) = bb := ⟨_, rfl⟩
              have Hbb := Lib.hid hbb
              clear hbb
              go_wp2
              refine wp_region_any (by kernel_rfl) ?_
              try (change wpAny _ _ _ _ _ _ _ (World.drew _))
              refine wpAny_take (i := 0) (v := ?_) rfl (by kernel_rfl) (by kernel_rfl) (by kernel_rfl) (fun _ _ _ h => h) (Or.inl ⟨by kernel_rfl, ?_⟩) ?_
              case refine_2 => ((intro w; go_simp); try with_reducible rfl)
              refine wpAny_take (i := 2) (v := ?_) rfl (by kernel_rfl) (by kernel_rfl) (by kernel_rfl) (fun _ _ _ h => h) (Or.inl ⟨by kernel_rfl, ?_⟩) ?_
              case refine_2 => ((intro w; go_simp); try with_reducible rfl)
              refine wpAny_take (i := 3) (v := ?_) rfl (by kernel_rfl) (by kernel_rfl) (by kernel_rfl) (fun _ _ _ h => h) (Or.inl ⟨by kernel_rfl, ?_⟩) ?_
              case refine_2 => ((intro w; go_simp); try with_reducible rfl)
              refine wpAny_take (i := 4) (v := ?_) rfl (by kernel_rfl) (by kernel_rfl) (by kernel_rfl) (fun _ _ _ h => h) (Or.inl ⟨by kernel_rfl, ?_⟩) ?_
              case refine_2 => ((intro w; go_simp); try with_reducible rfl)
              refine wpAny_ready (rs := [1]) (by kernel_rfl) (by simp) ?_
              refine AllReady.cons rfl (fun K hK => ?_) AllReady.nil
              go_simp
              refine (Hnum.out _ _ (by have := Hval.out; omega)).mono ?_
              rintro e w3 ⟨A3, n3, c3, rfl, ho3, hb3⟩
              go_simp
              refine hK _ _ ?_
              clear hK K
              refine wpAny_ready (rs := [5]) (by kernel_rfl) (by simp) ?_
              refine AllReady.cons rfl (fun K hK => ?_) AllReady.nil
              go_simp
              refine (same_is _ A3 n3 c3 _ _ _ _ _ bb Hbb (OwnB.sl ho3) ((Sl.drew s3).below (by omega) hb3)).mono ?_
              rintro e w' ⟨rfl, rfl⟩
              go_simp
              refine hK _ _ ?_
              clear hK K
              refine wpAny_take (i := 6) (v := ?_) rfl (by kernel_rfl) (by kernel_rfl) (by kernel_rfl) (fun _ _ _ h => h) (Or.inl ⟨by kernel_rfl, ?_⟩) ?_
              case refine_2 => ((intro w; go_simp); try with_reducible rfl)
              refine wpAny_done (by kernel_rfl) ?_ _
              have hb1 := Below.trans (Below.drew (Below.refl w.heap.size w)) hb3
              cases bb with
              | true =>
                have he : takeL (b :: r) = (v, r.drop 1, 0) := by
                  have h1 := Htk.out
                  rw [h1, if_pos (eq_of_beq Hbb.out)]
                have He := Lib.hid he
                clear he
                have s2' := (s2.below (by omega) hb1).below (by omega) ((Below.refl w3.heap.size w3).alloc (Nat.le_refl _) (.cells #[] 5))
                have hbz := hb1.alloc hb1.size (.cells #[] 5)
                go_wp2_with (at_builtin; refine wpList_appB _ rfl (.tmp 75) (.tmp 78) rfl w.heap.size _ 0 0 [] rfl (Own.nil _ _ _ _ _) A2 _ _ _ rfl s2' ?_ ?_ ?_)
                · omega
                · exact hbz.size
                · intro A4 c4 w4 ho4 hg4 _
                  go_wp2
                  go_ret3
                  rw [He.out]
                  refine ⟨A4, _, c4, ?_, by simpa using ho4, hbz.grown hg4 hbz.size (by simp [blk])⟩
                  have h1 := Hval.out
                  first | rfl | (refine congrArg (fun q => Ending.returned (Value.tuple #[Value.int .u64 q, _, _])) ?_; omega)
              | false =>
                have he : takeL (b :: r) = (0, [], 4) := by
                  have h1 := Htk.out
                  rw [h1, if_neg (by intro q; have h3 := Hbb.out; rw [q] at h3; simp at h3)]
                have He := Lib.hid he
                clear he
                go_wp2
                go_ret3
                rw [He.out]
                exact ⟨none, 0, 0, rfl, Own.nil _ _ _ _ _, hb1⟩
end Go.Proofs.YtpffieogkfndaaaGreatDoor
