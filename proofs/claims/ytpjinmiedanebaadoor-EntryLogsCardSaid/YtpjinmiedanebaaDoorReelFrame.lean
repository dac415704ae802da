/-
  What reel.Frame computes: a record's bytes at a place. The table lies in its variable; else no condition but sizes.
-/
import Derived.Test.YtpjinmiedanebaaDoorJReelWalk
namespace Go.Proofs.YtpjinmiedanebaaDoor
set_option maxRecDepth 20000
open Go.RowKit

/-- what Frame gives back -/
def FrameB (w : World) (r : List UInt8 × Nat) (e : Ending) (w' : World) : Prop :=
  ∃ (A : Option Addr) (n c : Nat), e = .returned (.tuple #[.slice A n c, .int .i64 (r.2 : Nat)]) ∧ OwnB w' w.heap.size A n c r.1 ∧ Below w.heap.size w w'
theorem Quarter.drew {w : World} (h : Quarter w) : Quarter w.drew := fun i hi => h i hi
theorem framed_ok {a : Nat} {p : List UInt8} (h : p.length ≤ 65536) : framed (a : Int) p = (frameL a true p, 0) := by
  unfold framed
  rw [if_neg (by omega), if_neg (by omega)]
  rfl
/-- what holds at each round's head -/
def FrameRel (w : World) (F : List UInt8) (t : Nat) (pv ov bv : Value) (wr : World) : Prop :=
  ∃ (b : Bool) (rest done : List UInt8) (A1 : Option Addr) (n1 c1 : Nat) (A2 : Option Addr) (n2 c2 : Nat), pv = .slice A1 n1 c1 ∧ ov = .slice A2 n2 c2 ∧ bv = .bool b ∧ Sl w 1 A1 n1 c1 (bc rest) ∧
    OwnB wr w.heap.size A2 n2 c2 done ∧ Below w.heap.size w wr ∧ Hid (F = done ++ frameL (t + n2) b rest) ∧ n1 ≤ 65536
def FrameMs (t : Nat) (pv ov : Value) : Nat := match pv, ov with | .slice _ x _, .slice _ y _ => 2 * x + (if roomN (t + y) = 0 then 1 else 0) | _, _ => 0
set_option maxHeartbeats 2000000 in
theorem frame_pos (w : World) (a : Nat) (A : Option Addr) (n c : Nat) (p : List UInt8) (h : Sl w 1 A n c (bc p)) (hq : Quarter w) (hn : n ≤ 65536) :
    Calls Tryd.prog 31 #[.int .i64 (a : Int), .slice A n c] w (FrameB w (frameL a true p, 0)) := by
  have Hl : Hid (p.length = n) := h.lenb
  have hfl := (frameL_length a true p).2
  rw [Hl.out] at hfl
  have hfl2 : (frameL a true p).length ≤ 1000000 := by split at hfl <;> omega
  clear hfl
  obtain ⟨F, hF⟩ : ∃ F, frameL a true p = F := ⟨_, rfl⟩
  have hF2 : frameL (a % 64) true p = F := by rw [← hF]; exact frameL_mod _ _ _ _ (by omega)
  rw [hF] at hfl2 ⊢
  have hal : a % 64 < 64 := by omega
  have ea : ((a : Int) % 64) = ((a % 64 : Nat) : Int) := by omega
  generalize a % 64 = t at *
  have HF := Lib.hid hF2
  clear hF hF2
  go_enter Tryd.func31, Tryd.ntmps31
  go_wp2_with fail
  rw [ea]
  clear ea
  go_loopw [1, 6, 7] (FrameRel w F t) (fun pv ov _ _ => FrameMs t pv ov)
  case atStart => exact ⟨true, p, [], A, n, c, none, 0, 0, rfl, rfl, rfl, h, Own.nil _ _ _ _ _, Below.refl _ _, by unfold Hid; rw [List.nil_append]; exact HF.out.symm, hn⟩
  case round =>
    obtain ⟨b, rest, done, A1, n1, c1, A2, n2, c2, rfl, rfl, rfl, h1, ho2, hbr, Hd, hn1⟩ := hrel
    have hd2 := ho2.len'
    have hdl : done.length ≤ 1000000 := by have h3 := congrArg List.length Hd.out; rw [List.length_append] at h3; omega
    have hr1 := h1.lenb
    have hn2 : n2 ≤ 1000000 := by omega
    have hpn := padN_le (t + n2)
    have hra := room_at (t + n2)
    have hpad : ∀ (w' : World) (I : Int), I = ((t + n2 : Nat) : Int) → Calls Tryd.prog 39 #[.int .i64 I] w' fun e w'' => e = .returned (.int .i64 (padN (t + n2) : Nat)) ∧ w' = w'' := by
      rintro w' I rfl
      exact pad_any w' (t + n2) (by omega)
    have hleft : ∀ (w' : World) (I : Int), I = ((t + n2 + padN (t + n2) : Nat) : Int) → Calls Tryd.prog 51 #[.int .i64 I] w' fun e w'' => e = .returned (.int .i64 ((roomN (t + n2) + 7 : Nat) : Int)) ∧ w' = w'' := by
      rintro w' I rfl
      have h0 := left_any w' (t + n2 + padN (t + n2)) (by omega)
      have e : 64 - (t + n2 + padN (t + n2)) % 64 = roomN (t + n2) + 7 := by omega
      rw [e] at h0
      exact h0
    have hroom := room_go (t + n2)
    have hrz := room_zero (t + n2)
    have hfq := frameL_eq (t + n2) b rest
    unfold tailFr at hfq
    obtain ⟨pd, hpd⟩ : ∃ pd, padN (t + n2) = pd := ⟨_, rfl⟩
    obtain ⟨rm, hrm⟩ : ∃ rm, roomN (t + n2) = rm := ⟨_, rfl⟩
    rw [hpd] at hpad hleft hroom hpn hra hfq
    rw [hrm] at hroom hrz hra hfq hleft
    have Hpad := Lib.hid hpad
    have Hleft := Lib.hid hleft
    have Hroom := Lib.hid hroom
    have Hfq := Lib.hid hfq
    have Hd2 := Lib.hid hd2
    have Hr1 := Lib.hid hr1
    have Hrm := Lib.hid hrm
    clear hpad hleft hroom hfq hpd hrm hd2 hr1 hrz
    go_wp2_with fail
    refine (Hpad.out _ _ (by omega)).mono ?_
    rintro e w' ⟨rfl, rfl⟩
    go_wp2_with (at_builtin; refine wpList_zerosB _ rfl (.tmp 18) (.tmp 23) rfl w.heap.size A2 n2 c2 done rfl ho2 pd _ rfl rfl ?_ ?_ ?_)
    · omega
    · exact hbr.size
    intro A3 c3 w3 ho3 hg3 _
    have hb3 := hbr.grown hg3 hbr.size (fun b hb => (Own.lt ho2 b hb).1)
    have Ho3 := Lib.hid ho3
    clear ho2 ho3
    go_wp2_with fail
    refine (Hleft.out _ _ (by omega)).mono ?_
    rintro e w' ⟨rfl, rfl⟩
    by_cases hend : n1 ≤ rm
    · have d1 : ((n1 : Int) == (n1 : Int)) = true := by simp
      obtain ⟨hr1, hs1⟩ := cutH h1 .i64 n1 n1 rfl (by omega)
      obtain ⟨A7, hr2, hs2, _⟩ := cutL h1 .i64 n1 n1 rfl (by omega)
      have hs1' := hs1.below (by omega) hb3
      have hq3 := hq.below hb3
      have hks := kindN_lt b true
      go_wp2_with fail
      go_region_law (first
        | (refine step_appB (by rfl) (.tmp 34) (.tmp 44) (by rfl) w.heap.size A3 (n2 + pd) c3 _ (by rfl) (Own.below (Own.drew Ho3.out) hb5) A5 n5 c5 _ (by rfl) (OwnB.sl ho5) (by omega) (Nat.le_trans hb3.size hb5.size) ?_; intro A6 c6 w6 ho6 hg6 hk6)
        | (go_simp; go_at_call 53; refine (kind_any _ b true).mono ?_; rintro e w' ⟨rfl, rfl⟩)
        | (go_simp; go_at_call 52; refine (piece_any _ (kindN b true) hks A1 n1 c1 (rest.take n1) (Sl.drew hs1') (Quarter.drew hq3) (by omega)).mono ?_; rintro e w5 ⟨A5, n5, c5, rfl, ho5, hb5⟩; have hn5 : n5 ≤ 70000 := (by have h3 := OwnB.len' ho5; rw [pieceL_length, List.length_take] at h3; omega)))
      have hn5' := OwnB.len' ho5
      have hb6 : Below w.heap.size w w6 := ((hb3.drew).trans (hb5.mono hb3.size)).grown hg6 (Nat.le_trans hb3.size hb5.size) (fun b hb => (Own.lt (Own.below (Own.drew Ho3.out) hb5) b hb).1)
      have hend' : endsAt (t + n2) rest = true := by have h3 := Hrm.out; have h4 := Hr1.out; unfold endsAt; simp; omega
      have hfin := Hd.out
      rw [Hfq.out, hend'] at hfin
      rw [List.take_of_length_le (show rest.length ≤ rm by have h4 := Hr1.out; omega)] at hfin
      rw [List.take_of_length_le (show rest.length ≤ n1 by have h4 := Hr1.out; omega)] at ho6
      have ho7 : OwnB w6 w.heap.size A6 (n2 + pd + n5) c6 F := by
        rw [hfin]
        simpa using ho6
      clear hn5' hend' hfin ho6 hg6 hk6 hb5 ho5 hs1' hs1 hr1 hn5
      go_wp2
      go_ret2
      exact ⟨A6, _, c6, rfl, ho7, hb6⟩
    · have d1 : ((rm : Int) == (n1 : Int)) = false := by simp; omega
      obtain ⟨hr1, hs1⟩ := cutH h1 .i64 rm rm rfl (by omega)
      obtain ⟨A7, hr2, hs2, _⟩ := cutL h1 .i64 rm rm rfl (by omega)
      have hs1' := hs1.below (by omega) hb3
      have hq3 := hq.below hb3
      have hks := kindN_lt b false
      go_wp2_with fail
      go_region_law (first
        | (refine step_appB (by rfl) (.tmp 34) (.tmp 44) (by rfl) w.heap.size A3 (n2 + pd) c3 _ (by rfl) (Own.below (Own.drew Ho3.out) hb5) A5 n5 c5 _ (by rfl) (OwnB.sl ho5) (by omega) (Nat.le_trans hb3.size hb5.size) ?_; intro A6 c6 w6 ho6 hg6 hk6)
        | (go_simp; go_at_call 53; refine (kind_any _ b false).mono ?_; rintro e w' ⟨rfl, rfl⟩)
        | (go_simp; go_at_call 52; refine (piece_any _ (kindN b false) hks A1 rm c1 (rest.take rm) (Sl.drew hs1') (Quarter.drew hq3) (by omega)).mono ?_; rintro e w5 ⟨A5, n5, c5, rfl, ho5, hb5⟩; have hn5 : n5 ≤ 70000 := (by have h3 := OwnB.len' ho5; rw [pieceL_length, List.length_take] at h3; omega)))
      have hn5' := OwnB.len' ho5
      have hb6 : Below w.heap.size w w6 := ((hb3.drew).trans (hb5.mono hb3.size)).grown hg6 (Nat.le_trans hb3.size hb5.size) (fun b hb => (Own.lt (Own.below (Own.drew Ho3.out) hb5) b hb).1)
      have hend' : endsAt (t + n2) rest = false := by have h3 := Hrm.out; have h4 := Hr1.out; unfold endsAt; simp; omega
      have hfin := Hd.out
      rw [Hfq.out, hend'] at hfin
      rw [pieceL_length, List.length_take] at hn5'
      have hn5q : n5 = 7 + rm := by have h4 := Hr1.out; omega
      subst hn5q
      have hfin2 : F = (done ++ List.replicate pd 0 ++ pieceL (kindN b false) (rest.take rm)) ++ frameL (t + (n2 + pd + (7 + rm))) false (rest.drop rm) := by
        rw [hfin, show t + (n2 + pd + (7 + rm)) = t + n2 + pd + 7 + rm by omega]
        simp [List.append_assoc]
      have Hfin2 := Lib.hid hfin2
      clear hn5' hend' hfin hfin2 hg6 hk6 hb5 ho5 hs1' hs1 hr1 hn5 d1
      have d2 : ((n1 : Int) - (rm : Int) == 0) = false := by simp; omega
      have d3 : (((n1 - rm : Nat) : Int) == 0) = false := by simp; omega
      have d4 : (n1 - rm == 0) = false := by simp; omega
      go_wp2
      go_roundw
      case rel => exact ⟨false, rest.drop rm, _, A7, n1 - rm, c1 - rm, A6, _, c6, rfl, rfl, rfl, hs2, ho6, hb6, Hfin2.out, by omega⟩
      case measure =>
        have h8 := Hroom.out
        show 2 * (n1 - rm) + (if roomN (t + (n2 + pd + (7 + rm))) = 0 then 1 else 0) < 2 * n1 + (if roomN (t + n2) = 0 then 1 else 0)
        rw [show t + (n2 + pd + (7 + rm)) = t + n2 + pd + 7 + rm by omega, h8, Hrm.out, if_neg (show ¬ 57 = 0 by omega)]
        split <;> omega
set_option maxHeartbeats 1000000 in
theorem frame_any (w : World) (a : Int) (A : Option Addr) (n c : Nat) (p : List UInt8) (h : Sl w 1 A n c (bc p)) (hq : Quarter w) :
    Calls Tryd.prog 31 #[.int .i64 a, .slice A n c] w (FrameB w (framed a p)) := by
  have hl := h.lenb
  by_cases h1 : a < 0
  · have e : framed a p = ([], 1) := by unfold framed; rw [if_pos h1]
    rw [e]
    clear e hl
    go_enter Tryd.func31, Tryd.ntmps31
    go_wp2
    go_ret2
    exact ⟨none, 0, 0, rfl, Own.nil _ _ _ _ _, Below.refl _ _⟩
  · obtain ⟨b, rfl⟩ := Int.eq_ofNat_of_zero_le (show 0 ≤ a by omega)
    by_cases h2 : 65536 < n
    · have e : framed (b : Int) p = ([], 3) := by unfold framed; rw [if_neg h1, if_pos (by omega)]
      rw [e]
      have hcc := h.cap
      have hcm := h.capm
      unfold maxLen at hcm
      clear e hl
      go_enter Tryd.func31, Tryd.ntmps31
      go_wp2
      go_ret2
      exact ⟨none, 0, 0, rfl, Own.nil _ _ _ _ _, Below.refl _ _⟩
    · rw [framed_ok (by omega)]
      exact frame_pos w b A n c p h hq (by omega)
end Go.Proofs.YtpjinmiedanebaaDoor
