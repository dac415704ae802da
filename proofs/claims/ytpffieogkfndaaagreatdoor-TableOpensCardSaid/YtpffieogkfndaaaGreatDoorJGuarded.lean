/-
  FrameT, AtomTake, Guarded in one text. No condition but sizes.
-/
import Derived.Test.YtpffieogkfndaaaGreatDoorJOps
import Derived.Test.YtpffieogkfndaaaGreatDoorJAtomRef
import Derived.Deep.QuietTactic
import Derived.BigQuiet
import Derived.Deep.RegionWith
import Derived.Deep.RegionHeld3
import Derived.Deep.DeepCutAuto
import Derived.Test.YtpffieogkfndaaaGreatDoorJBytes
namespace Go.Proofs.YtpffieogkfndaaaGreatDoor
set_option maxRecDepth 20000
set_option linter.unusedVariables false
set_option linter.unusedSimpArgs false
end Go.Proofs.YtpffieogkfndaaaGreatDoor

namespace Go.Proofs.YtpffieogkfndaaaGreatDoor
set_option maxRecDepth 20000
set_option linter.unusedVariables false
set_option linter.unusedSimpArgs false
open Go.RowKit

set_option maxHeartbeats 400000 in
theorem length_any (b : Nat) (w : World) (hb : b < 256) : Calls Tryz.prog 117 #[.int .u8 (b : Int)] w fun e w' => e = .returned (.int .i64 (lenL b : Nat)) ∧ w = w' := by
  have hl := lenL_le b hb
  by_cases h1 : b ≤ 240
  · have e : lenL b = 0 := by unfold lenL; rw [if_pos h1]
    rw [e]
    clear e hl
    go_enter Tryz.func117, Tryz.ntmps117
    go_wp2
    go_ret
    exact ⟨rfl, rfl⟩
  · by_cases h2 : b ≤ 248
    · have e : lenL b = 1 := by unfold lenL; rw [if_neg h1, if_pos h2]
      rw [e]
      clear e hl
      go_enter Tryz.func117, Tryz.ntmps117
      go_wp2
      go_ret
      exact ⟨rfl, rfl⟩
    · by_cases h3 : b = 249
      · have e : lenL b = 2 := by unfold lenL; rw [if_neg h1, if_neg h2, if_pos h3]
        rw [e]
        subst h3
        clear e hl h1 h2
        go_enter Tryz.func117, Tryz.ntmps117
        go_wp2
        go_ret
        exact ⟨rfl, rfl⟩
      · have e : lenL b = b - 247 := by unfold lenL; rw [if_neg h1, if_neg h2, if_neg h3]
        rw [e]
        have d : ((b : Int) == 249) = false := by simp; omega
        clear e hl h3
        go_enter Tryz.func117, Tryz.ntmps117
        go_wp2
        go_ret
        exact ⟨ret_int (by omega), rfl⟩
set_option maxHeartbeats 1000000 in
theorem value_any (b : Nat) (w : World) (hb : b < 256) (A : Option Addr) (n c : Nat) (t : List UInt8) (h : Sl w 1 A n c (bc t)) (ht : t.length = lenL b) :
    Calls Tryz.prog 118 #[.int .u8 (b : Int), .slice A n c] w fun e w' => e = .returned (.int .u64 (valueL b t : Nat)) ∧ w = w' := by
  have hn := h.lenb
  have hl := lenL_le b hb
  have hbt := beval_lt t
  have hn8 : n ≤ 8 := by omega
  have Hn := Lib.hid hn
  have Ht := Lib.hid ht
  clear hn ht
  go_enter Tryz.func118, Tryz.ntmps118
  go_wp2
  go_loop [5, 10] (fun s i => ∃ j : Nat, j ≤ n ∧ i = .int .i64 j ∧ s = .int .u64 (beval (t.take j) : Nat)) (fun _ i => n - (intOf i).toNat)
  case atStart => exact ⟨0, Nat.zero_le _, rfl, rfl⟩
  case round =>
    obtain ⟨j, hj, rfl, rfl⟩ := hrel
    by_cases hjn : j < n
    · have hjt : j < t.length := by have := Hn.out; omega
      obtain ⟨g, o, x, rfl, hx, hxl, hcell⟩ := h.byte hjt
      have hv : beval (t.take j) < 72057594037927936 := by
        have h1 := beval_lt (t.take j)
        have h2 : (256 : Nat) ^ (t.take j).length ≤ 256 ^ 7 := Nat.pow_le_pow_right (by omega) (by rw [List.length_take]; omega)
        have : (256 : Nat) ^ 7 = 72057594037927936 := rfl
        omega
      have hs := beval_snoc (t.take j) t[j]
      rw [← List.take_succ_eq_append_getElem hjt, hx] at hs
      have Hs := Lib.hid hs
      generalize beval (t.take j) = v at *
      have e1 : bits .or .u64 ((v : Int) * 256) (x : Int) = ((v * 256 + x : Nat) : Int) := by
        have h1 := u64_or_nat (v * 256) x (by omega) (by omega)
        rw [nat_join 8 _ _ (by omega) (by omega)] at h1
        rw [← h1]
        simp
      clear hs hx hbt
      go_wp2
      go_round
      case rel => exact ⟨j + 1, by omega, by go_num, by rw [Hs.out]; simp⟩
      case measure => simp [intOf]; omega
    · obtain rfl : j = n := by omega
      have e0 : t.take j = t := List.take_of_length_le (by have := Hn.out; omega)
      rw [e0]
      clear e0 hjn hj
      have hlen := Ht.out
      by_cases h1 : b ≤ 240
      · have e : valueL b t = b := by unfold valueL; rw [if_pos h1]
        have E := Lib.hid e
        clear e hbt hlen
        go_wp2
        go_ret
        exact ⟨ret_int (by rw [E.out]), rfl⟩
      · by_cases h2 : b ≤ 248
        · have e : valueL b t = 240 + (b - 241) * 256 + beval t := by unfold valueL; rw [if_neg h1, if_pos h2]
          have h3 : lenL b = 1 := by unfold lenL; rw [if_neg h1, if_pos h2]
          rw [hlen, h3] at hbt
          have E := Lib.hid e
          generalize beval t = v at *
          have hv : v < 256 := by simpa using hbt
          clear e hbt hlen h3
          go_wp2
          go_ret
          refine ⟨ret_int ?_, rfl⟩
          rw [E.out]
          omega
        · by_cases h3 : b = 249
          · have e : valueL b t = 2288 + beval t := by unfold valueL; rw [if_neg h1, if_neg h2, if_pos h3]
            have h4 : lenL b = 2 := by unfold lenL; rw [if_neg h1, if_neg h2, if_pos h3]
            rw [hlen, h4] at hbt
            have E := Lib.hid e
            generalize beval t = v at *
            have hv : v < 65536 := by simpa using hbt
            have d : ((b : Int) == 249) = true := by simp; omega
            clear e hbt hlen h4 h3
            go_wp2
            go_ret
            refine ⟨ret_int ?_, rfl⟩
            rw [E.out]
            omega
          · have e : valueL b t = beval t := by unfold valueL; rw [if_neg h1, if_neg h2, if_neg h3]
            have E := Lib.hid e
            have d : ((b : Int) == 249) = false := by simp; omega
            clear e hbt hlen h3
            go_wp2
            go_ret
            exact ⟨ret_int (by rw [E.out]), rfl⟩
/-- what Take gives back -/
def TookB (w : World) (r : Nat × List UInt8 × Nat) (e : Ending) (w' : World) : Prop :=
  ∃ (A : Option Addr) (n c : Nat), e = .returned (.tuple #[.int .u64 (r.1 : Nat), .slice A n c, .int .i64 (r.2.2 : Nat)]) ∧ OwnB w' w.heap.size A n c r.2.1 ∧ Below w.heap.size w w'
set_option maxHeartbeats 2000000 in
theorem take_any (w : World) (A : Option Addr) (n c : Nat) (p : List UInt8) (h : Sl w 1 A n c (bc p)) (hn : n ≤ 70368744177664) :
    Calls Tryz.prog 104 #[.slice A n c] w (TookB w (takeL p)) := by
  cases p with
  | nil =>
    obtain rfl : n = 0 := by have := h.lenb; simpa using this.symm
    have e : takeL [] = (0, [], 2) := rfl
    rw [e]
    clear e
    go_enter Tryz.func104, Tryz.ntmps104
    go_wp2
    go_ret3
    exact ⟨none, 0, 0, rfl, Own.nil _ _ _ _ _, Below.refl _ _⟩
  | cons b r =>
    have hl := h.lenb
    simp only [List.length_cons] at hl
    obtain ⟨g, o, x, rfl, hx, hxl, hcell⟩ := h.byte (k := 0) (by simp)
    simp only [List.getElem_cons_zero, Nat.add_zero] at hx hcell
    have hlen := lenL_le x hxl
    have hn0 : ((n : Int) == 0) = false := by simp; omega
    have hn1 : 0 < n := by omega
    by_cases hs : n < 1 + lenL x
    · have e : takeL (b :: r) = (0, [], 2) := by simp only [takeL, List.length_cons]; rw [hx, if_pos (by omega)]
      rw [e]
      clear e hl hx
      generalize hk : lenL x = k at *
      have Hk := Lib.hid hk
      clear hk
      go_enter Tryz.func104, Tryz.ntmps104
      go_wp2_with fail
      refine (length_any x w hxl).mono ?_
      rw [Hk.out]
      rintro e w' ⟨rfl, rfl⟩
      go_wp2
      go_ret3
      exact ⟨none, 0, 0, rfl, Own.nil _ _ _ _ _, Below.refl _ _⟩
    · obtain ⟨k, hk⟩ : ∃ k, lenL x = k := ⟨_, rfl⟩
      have hcap := h.cap
      have hcm := h.capm
      unfold maxLen at hcm
      rw [hk] at hlen hs
      obtain ⟨A1, r1, s1, _⟩ := cutLH h .i64 .i64 1 ((1 : Int) + k) 1 (1 + k) rfl (by omega) (by omega) (by omega)
      have e1 : (List.drop 1 (b :: r)).take (1 + k - 1) = r.take k := by rw [Nat.add_sub_cancel_left]; rfl
      have ek : 1 + k - 1 = k := by omega
      rw [e1, ek] at s1
      simp only [ek] at r1
      clear ek
      have ht : (r.take k).length = lenL x := by rw [hk]; simp; omega
      have hv := fun (w' : World) (hh : Sl w' 1 A1 k (c - 1) (bc (r.take k))) => value_any x w' hxl A1 k (c - 1) (r.take k) hh ht
      have hvl := value_lt b (r.take k) (by rw [hx]; exact ht)
      rw [hx] at hvl
      obtain ⟨A2, r2, s2, _⟩ := cutL h .i64 ((1 : Int) + k) (1 + k) (by omega) (by omega)
      have e2 : (b :: r).drop (1 + k) = r.drop k := by rw [Nat.add_comm]; rfl
      rw [e2] at s2
      have htk : takeL (b :: r) = if numL (valueL x (r.take k)) = b :: r.take k then (valueL x (r.take k), r.drop k, 0) else (0, [], 4) := by
        simp only [takeL, List.length_cons]
        rw [hx, hk, if_neg (by omega)]
      have hck := num_check b (r.take k) (by rw [hx]; exact ht)
      rw [hx, hk] at hck
      have Hck := Lib.hid hck
      have Htk := Lib.hid htk
      have Hk := Lib.hid hk
      have Hx := Lib.hid hx
      have Ht := Lib.hid ht
      generalize valueL x (r.take k) = v at *
      have HV := Lib.hid hv
      clear htk hck hk hx ht hl hv e1 e2
      go_enter Tryz.func104, Tryz.ntmps104
      go_wp2_with fail
      refine (length_any x w hxl).mono ?_
      rw [Hk.out]
      rintro e w' ⟨rfl, rfl⟩
      go_wp2_with fail
      go_quiet ((go_at_call 118; exact quiet_left (HV.out _ (s1.drewN _))))
      go_wp2_with fail
      have hcd : (w.drewN nq).cell? ⟨g, o, none⟩ = some (.int .u8 (x : Int)) := hcell
      have hbd := below_drewN (Below.refl w.heap.size w) nq
      have hsd : (w.drewN nq).heap.size = w.heap.size := rfl
      generalize w.drewN nq = wd at *
      by_cases hlk : (numL v).length = 1 + k
      · obtain ⟨y, hfst, hbb⟩ : ∃ y : Nat, (∀ h : 0 < (numL v).length, ((numL v)[0]'h).toNat = y) ∧ (y = x ↔ (numL v)[0]? = some b) := by
          have h0 : 0 < (numL v).length := by omega
          refine ⟨((numL v)[0]'h0).toNat, fun _ => rfl, ?_⟩
          rw [List.getElem?_eq_getElem h0, Option.some.injEq, ← UInt8.toNat_inj, Hx.out]
        have Hlk := Lib.hid hlk
        have Hbb := Lib.hid hbb
        clear hbb
        clear hlk
        refine wp_region_any (by kernel_rfl) ?_
        try (change wpAny _ _ _ _ _ _ _ (World.drew _))
        refine wpAny_take (i := 0) (v := ?_) rfl (by kernel_rfl) (by kernel_rfl) (by kernel_rfl) (fun _ _ _ h => h) (Or.inl ⟨by kernel_rfl, ?_⟩) ?_
        case refine_2 => ((intro w; go_simp); try with_reducible rfl)
        refine wpAny_take (i := 3) (v := ?_) rfl (by kernel_rfl) (by kernel_rfl) (by kernel_rfl) (fun _ _ _ h => h) (Or.inl ⟨by kernel_rfl, ?_⟩) ?_
        case refine_2 => ((intro w; go_simp); try with_reducible rfl)
        refine wpAny_ready (rs := [1]) (by kernel_rfl) (by simp) ?_
        refine AllReady.cons rfl (fun K hK => ?_) AllReady.nil
        go_simp
        go_at_call 45
        refine (num_any v _ hvl).mono ?_
        rintro e w3 ⟨A3, n3, c3, rfl, ho3, hb3⟩
        have hn3 := Lib.hid (OwnB.len' ho3)
        obtain rfl : n3 = 1 + k := by have h1 := hn3.out; have h2 := Hlk.out; omega
        clear hn3
        have hcw := (hb3.cell (p := ⟨g, o, none⟩) (World.block_lt_of_cell? _ _ hcd)).trans hcd
        go_simp
        refine hK _ _ ?_
        clear hK K
        refine wpAny_take (i := 2) (v := ?_) rfl (by kernel_rfl) (by kernel_rfl) (by kernel_rfl) (fun _ _ _ h => h) (Or.inl ⟨by kernel_rfl, ?_⟩) ?_
        case refine_2 => ((intro w; go_simp); try with_reducible rfl)
        have d4 : ((1 : Int) + (k : Int) != 1 + (k : Int)) = false := by simp
        refine wpAny_take (i := 4) (v := ?_) rfl (by kernel_rfl) (by kernel_rfl) (by kernel_rfl) (fun _ _ _ h => h) (Or.inl ⟨by kernel_rfl, ?_⟩) ?_
        case refine_2 => ((intro w; go_simp); try with_reducible rfl)
        refine wpAny_take (i := 5) (v := ?_) rfl (by kernel_rfl) (by kernel_rfl) (by kernel_rfl) (fun _ _ _ h => h) (Or.inl ⟨by kernel_rfl, ?_⟩) ?_
        case refine_2 => ((intro w; go_simp); try with_reducible rfl)
        refine wpAny_take (i := 6) (v := ?_) rfl (by kernel_rfl) (by kernel_rfl) (by kernel_rfl) (fun _ _ _ h => h) (Or.inl ⟨by kernel_rfl, ?_⟩) ?_
        case refine_2 => ((intro w; go_simp); try with_reducible rfl)
        refine wpAny_take (i := 10) (v := ?_) rfl (by kernel_rfl) (by kernel_rfl) (by kernel_rfl) (fun _ _ _ h => h) (Or.inl ⟨by kernel_rfl, ?_⟩) ?_
        case refine_2 => ((intro w; go_simp); try with_reducible rfl)
        refine wpAny_take (i := 11) (v := ?_) rfl (by kernel_rfl) (by kernel_rfl) (by kernel_rfl) (fun _ _ _ h => h) (Or.inl ⟨by kernel_rfl, ?_⟩) ?_
        case refine_2 => ((intro w; go_simp); try with_reducible rfl)
        refine wpAny_ready (rs := [7, 12]) (by kernel_rfl) (by simp) ?_
        refine AllReady.cons rfl (fun K hK => ?_) ?_
        · go_simp
          go_at_call 45
          refine (num_any v _ hvl).mono ?_
          rintro e w4 ⟨A4, n4, c4, rfl, ho4, hb4⟩
          have hbw : Below w.heap.size w w4 := ((hbd.drew).trans (hb3.mono hbd.size)).trans (hb4.mono (Nat.le_trans hbd.size hb3.size))
          have hn4 := OwnB.len' ho4
          obtain rfl : n4 = 1 + k := by have h2 := Hlk.out; omega
          clear hn4
          obtain ⟨g4, o4, x4, rfl, hx4, hx4l, hc4⟩ := (OwnB.sl ho4).byte (k := 0) (by have h2 := Hlk.out; omega)
          rw [hfst] at hx4
          obtain rfl : x4 = y := hx4.symm
          clear hx4
          rw [Nat.add_zero] at hc4
          have hk0 : (0 : Int) < 1 + (k : Int) := by omega
          have hcp := (hb4.cell (p := ⟨g, o, none⟩) (World.block_lt_of_cell? _ _ hcw)).trans hcw
          go_simp
          refine hK _ _ ?_
          clear hK K
          refine wpAny_take (i := 8) (v := ?_) rfl (by kernel_rfl) (by kernel_rfl) (by kernel_rfl) (fun _ _ _ h => h) (Or.inl ⟨by kernel_rfl, ?_⟩) ?_
          case refine_2 => ((intro w; go_simp); try with_reducible rfl)
          refine wpAny_ready (rs := [9, 12]) (by kernel_rfl) (by simp) ?_
          refine AllReady.cons rfl (fun K hK => ?_) ?_
          · go_simp
            refine hK _ _ ?_
            clear hK K
            refine wpAny_ready (rs := [12]) (by kernel_rfl) (by simp) ?_
            refine AllReady.cons rfl (fun K hK => ?_) AllReady.nil
            go_simp
            refine hK _ _ ?_
            clear hK K
            refine wpAny_take (i := 13) (v := ?_) rfl (by kernel_rfl) (by kernel_rfl) (by kernel_rfl) (fun _ _ _ h => h) (Or.inl ⟨by kernel_rfl, ?_⟩) ?_
            case refine_2 => ((intro w; go_simp); try with_reducible rfl)
            refine wpAny_take (i := 14) (v := ?_) rfl (by kernel_rfl) (by kernel_rfl) (by kernel_rfl) (fun _ _ _ h => h) (Or.inl ⟨by kernel_rfl, ?_⟩) ?_
            case refine_2 => ((intro w; go_simp); try with_reducible rfl)
            refine wpAny_done (by kernel_rfl) ?_ _
            by_cases hxx : x4 = x
            · have htk : takeL (b :: r) = (v, r.drop k, 0) := by rw [Htk.out, if_pos ((Hck.out).2 ⟨Hlk.out, (Hbb.out).1 hxx⟩)]
              have HT := Lib.hid htk
              have d5 : ((x4 : Int) != (x : Int)) = false := by simp [hxx]
              have s4 := s2.below (by omega) hbw
              have e1 : (w.heap.size) ≤ w4.heap.size := hbw.size
              clear hxx htk
              go_wp2_with fail
              refine (clone_any w4 A2 _ _ _ s4 (by omega)).mono ?_
              rintro e w6 ⟨A6, n6, c6, rfl, ho6, hb6⟩
              go_wp2
              go_ret3
              rw [HT.out]
              exact ⟨A6, n6, c6, rfl, Own.mono ho6 e1, hbw.trans (hb6.mono e1)⟩
            · have htk : takeL (b :: r) = (0, [], 4) := by
                rw [Htk.out, if_neg (fun h => hxx ((Hbb.out).2 (((Hck.out).1 h).2)))]
              have HT := Lib.hid htk
              have d5 : ((x4 : Int) != (x : Int)) = true := by simp; omega
              clear hxx htk
              go_wp2
              go_ret3
              rw [HT.out]
              exact ⟨none, 0, 0, rfl, Own.nil _ _ _ _ _, hbw⟩
          refine AllReady.cons rfl (fun K hK => ?_) ?_
          · go_simp
            refine hK _ _ ?_
            clear hK K
            refine wpAny_ready (rs := [9]) (by kernel_rfl) (by simp) ?_
            refine AllReady.cons rfl (fun K hK => ?_) AllReady.nil
            go_simp
            refine hK _ _ ?_
            clear hK K
            refine wpAny_take (i := 13) (v := ?_) rfl (by kernel_rfl) (by kernel_rfl) (by kernel_rfl) (fun _ _ _ h => h) (Or.inl ⟨by kernel_rfl, ?_⟩) ?_
            case refine_2 => ((intro w; go_simp); try with_reducible rfl)
            refine wpAny_take (i := 14) (v := ?_) rfl (by kernel_rfl) (by kernel_rfl) (by kernel_rfl) (fun _ _ _ h => h) (Or.inl ⟨by kernel_rfl, ?_⟩) ?_
            case refine_2 => ((intro w; go_simp); try with_reducible rfl)
            refine wpAny_done (by kernel_rfl) ?_ _
            by_cases hxx : x4 = x
            · have htk : takeL (b :: r) = (v, r.drop k, 0) := by rw [Htk.out, if_pos ((Hck.out).2 ⟨Hlk.out, (Hbb.out).1 hxx⟩)]
              have HT := Lib.hid htk
              have d5 : ((x4 : Int) != (x : Int)) = false := by simp [hxx]
              have s4 := s2.below (by omega) hbw
              have e1 : (w.heap.size) ≤ w4.heap.size := hbw.size
              clear hxx htk
              go_wp2_with fail
              refine (clone_any w4 A2 _ _ _ s4 (by omega)).mono ?_
              rintro e w6 ⟨A6, n6, c6, rfl, ho6, hb6⟩
              go_wp2
              go_ret3
              rw [HT.out]
              exact ⟨A6, n6, c6, rfl, Own.mono ho6 e1, hbw.trans (hb6.mono e1)⟩
            · have htk : takeL (b :: r) = (0, [], 4) := by
                rw [Htk.out, if_neg (fun h => hxx ((Hbb.out).2 (((Hck.out).1 h).2)))]
              have HT := Lib.hid htk
              have d5 : ((x4 : Int) != (x : Int)) = true := by simp; omega
              clear hxx htk
              go_wp2
              go_ret3
              rw [HT.out]
              exact ⟨none, 0, 0, rfl, Own.nil _ _ _ _ _, hbw⟩
          exact AllReady.nil
        refine AllReady.cons rfl (fun K hK => ?_) ?_
        · go_simp
          refine hK _ _ ?_
          clear hK K
          refine wpAny_ready (rs := [7]) (by kernel_rfl) (by simp) ?_
          refine AllReady.cons rfl (fun K hK => ?_) AllReady.nil
          go_simp
          go_at_call 45
          refine (num_any v _ hvl).mono ?_
          rintro e w4 ⟨A4, n4, c4, rfl, ho4, hb4⟩
          have hbw : Below w.heap.size w w4 := ((hbd.drew).trans (hb3.mono hbd.size)).trans (hb4.mono (Nat.le_trans hbd.size hb3.size))
          have hn4 := OwnB.len' ho4
          obtain rfl : n4 = 1 + k := by have h2 := Hlk.out; omega
          clear hn4
          obtain ⟨g4, o4, x4, rfl, hx4, hx4l, hc4⟩ := (OwnB.sl ho4).byte (k := 0) (by have h2 := Hlk.out; omega)
          rw [hfst] at hx4
          obtain rfl : x4 = y := hx4.symm
          clear hx4
          rw [Nat.add_zero] at hc4
          have hk0 : (0 : Int) < 1 + (k : Int) := by omega
          have hcp := (hb4.cell (p := ⟨g, o, none⟩) (World.block_lt_of_cell? _ _ hcw)).trans hcw
          go_simp
          refine hK _ _ ?_
          clear hK K
          refine wpAny_take (i := 8) (v := ?_) rfl (by kernel_rfl) (by kernel_rfl) (by kernel_rfl) (fun _ _ _ h => h) (Or.inl ⟨by kernel_rfl, ?_⟩) ?_
          case refine_2 => ((intro w; go_simp); try with_reducible rfl)
          refine wpAny_ready (rs := [9]) (by kernel_rfl) (by simp) ?_
          refine AllReady.cons rfl (fun K hK => ?_) AllReady.nil
          go_simp
          refine hK _ _ ?_
          clear hK K
          refine wpAny_take (i := 13) (v := ?_) rfl (by kernel_rfl) (by kernel_rfl) (by kernel_rfl) (fun _ _ _ h => h) (Or.inl ⟨by kernel_rfl, ?_⟩) ?_
          case refine_2 => ((intro w; go_simp); try with_reducible rfl)
          refine wpAny_take (i := 14) (v := ?_) rfl (by kernel_rfl) (by kernel_rfl) (by kernel_rfl) (fun _ _ _ h => h) (Or.inl ⟨by kernel_rfl, ?_⟩) ?_
          case refine_2 => ((intro w; go_simp); try with_reducible rfl)
          refine wpAny_done (by kernel_rfl) ?_ _
          by_cases hxx : x4 = x
          · have htk : takeL (b :: r) = (v, r.drop k, 0) := by rw [Htk.out, if_pos ((Hck.out).2 ⟨Hlk.out, (Hbb.out).1 hxx⟩)]
            have HT := Lib.hid htk
            have d5 : ((x4 : Int) != (x : Int)) = false := by simp [hxx]
            have s4 := s2.below (by omega) hbw
            have e1 : (w.heap.size) ≤ w4.heap.size := hbw.size
            clear hxx htk
            go_wp2_with fail
            refine (clone_any w4 A2 _ _ _ s4 (by omega)).mono ?_
            rintro e w6 ⟨A6, n6, c6, rfl, ho6, hb6⟩
            go_wp2
            go_ret3
            rw [HT.out]
            exact ⟨A6, n6, c6, rfl, Own.mono ho6 e1, hbw.trans (hb6.mono e1)⟩
          · have htk : takeL (b :: r) = (0, [], 4) := by
              rw [Htk.out, if_neg (fun h => hxx ((Hbb.out).2 (((Hck.out).1 h).2)))]
            have HT := Lib.hid htk
            have d5 : ((x4 : Int) != (x : Int)) = true := by simp; omega
            clear hxx htk
            go_wp2
            go_ret3
            rw [HT.out]
            exact ⟨none, 0, 0, rfl, Own.nil _ _ _ _ _, hbw⟩
        exact AllReady.nil
      · have Hlk := Lib.hid hlk
        clear hlk
        refine wp_region_any (by kernel_rfl) ?_
        try (change wpAny _ _ _ _ _ _ _ (World.drew _))
        refine wpAny_take (i := 0) (v := ?_) rfl (by kernel_rfl) (by kernel_rfl) (by kernel_rfl) (fun _ _ _ h => h) (Or.inl ⟨by kernel_rfl, ?_⟩) ?_
        case refine_2 => ((intro w; go_simp); try with_reducible rfl)
        refine wpAny_take (i := 3) (v := ?_) rfl (by kernel_rfl) (by kernel_rfl) (by kernel_rfl) (fun _ _ _ h => h) (Or.inl ⟨by kernel_rfl, ?_⟩) ?_
        case refine_2 => ((intro w; go_simp); try with_reducible rfl)
        refine wpAny_ready (rs := [1]) (by kernel_rfl) (by simp) ?_
        refine AllReady.cons rfl (fun K hK => ?_) AllReady.nil
        go_simp
        go_at_call 45
        refine (num_any v _ hvl).mono ?_
        rintro e w3 ⟨A3, n3, c3, rfl, ho3, hb3⟩
        have hn3 := Lib.hid (OwnB.len' ho3)
        have d4 : ((n3 : Int) != 1 + (k : Int)) = true := bne_iff_ne.2 (by have h1 := hn3.out; have h2 := Hlk.out; omega)
        clear hn3
        go_simp
        refine hK _ _ ?_
        clear hK K
        refine wpAny_take (i := 2) (v := ?_) rfl (by kernel_rfl) (by kernel_rfl) (by kernel_rfl) (fun _ _ _ h => h) (Or.inl ⟨by kernel_rfl, ?_⟩) ?_
        case refine_2 => ((intro w; go_simp); try with_reducible rfl)
        refine wpAny_take (i := 4) (v := ?_) rfl (by kernel_rfl) (by kernel_rfl) (by kernel_rfl) (fun _ _ _ h => h) (Or.inl ⟨by kernel_rfl, ?_⟩) ?_
        case refine_2 => ((intro w; go_simp); try with_reducible rfl)
        refine wpAny_take (i := 5) (v := ?_) rfl (by kernel_rfl) (by kernel_rfl) (by kernel_rfl) (fun _ _ _ h => h) (Or.inl ⟨by kernel_rfl, ?_⟩) ?_
        case refine_2 => ((intro w; go_simp); try with_reducible rfl)
        refine wpAny_take (i := 6) (v := undef) rfl (by kernel_rfl) (by kernel_rfl) (by kernel_rfl) (fun _ _ _ h => h) (Or.inr ⟨by kernel_rfl, rfl⟩) ?_
        refine wpAny_take (i := 7) (v := undef) rfl (by kernel_rfl) (by kernel_rfl) (by kernel_rfl) (fun _ _ _ h => h) (Or.inr ⟨by kernel_rfl, rfl⟩) ?_
        refine wpAny_take (i := 8) (v := undef) rfl (by kernel_rfl) (by kernel_rfl) (by kernel_rfl) (fun _ _ _ h => h) (Or.inr ⟨by kernel_rfl, rfl⟩) ?_
        refine wpAny_take (i := 9) (v := undef) rfl (by kernel_rfl) (by kernel_rfl) (by kernel_rfl) (fun _ _ _ h => h) (Or.inr ⟨by kernel_rfl, rfl⟩) ?_
        refine wpAny_take (i := 10) (v := undef) rfl (by kernel_rfl) (by kernel_rfl) (by kernel_rfl) (fun _ _ _ h => h) (Or.inr ⟨by kernel_rfl, rfl⟩) ?_
        refine wpAny_take (i := 11) (v := undef) rfl (by kernel_rfl) (by kernel_rfl) (by kernel_rfl) (fun _ _ _ h => h) (Or.inr ⟨by kernel_rfl, rfl⟩) ?_
        refine wpAny_take (i := 12) (v := undef) rfl (by kernel_rfl) (by kernel_rfl) (by kernel_rfl) (fun _ _ _ h => h) (Or.inr ⟨by kernel_rfl, rfl⟩) ?_
        refine wpAny_take (i := 13) (v := undef) rfl (by kernel_rfl) (by kernel_rfl) (by kernel_rfl) (fun _ _ _ h => h) (Or.inr ⟨by kernel_rfl, rfl⟩) ?_
        refine wpAny_ready (rs := [14]) (by kernel_rfl) (by simp) ?_
        refine AllReady.cons rfl (fun K hK => ?_) AllReady.nil
        go_simp
        refine hK _ _ ?_
        clear hK K
        refine wpAny_done (by kernel_rfl) ?_ _
        have htk : takeL (b :: r) = (0, [], 4) := by rw [Htk.out, if_neg (fun h => Hlk.out (((Hck.out).1 h).1))]
        have HT := Lib.hid htk
        clear htk
        go_wp2
        go_ret3
        rw [HT.out]
        exact ⟨none, 0, 0, rfl, Own.nil _ _ _ _ _, (hbd.drew).trans (hb3.mono hbd.size)⟩
end Go.Proofs.YtpffieogkfndaaaGreatDoor

namespace Go.Proofs.YtpffieogkfndaaaGreatDoor
set_option maxRecDepth 20000
set_option linter.unusedVariables false
set_option linter.unusedSimpArgs false
open Go.RowKit

end Go.Proofs.YtpffieogkfndaaaGreatDoor
