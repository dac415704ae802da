/-
  What reel.record answers: the record at a place, or none. The table lies in its variable; else no condition but sizes. (Printed by genrecord.py.)
-/
import Derived.Test.YtpjinmiedanebaaDoorReelPiece
namespace Go.Proofs.YtpjinmiedanebaaDoor
set_option maxRecDepth 20000
open Go.RowKit

/-- what record gives back -/
def RecB (w : World) (P : List UInt8) (a : Nat) (e : Ending) (w' : World) : Prop :=
  Below w.heap.size w w' ∧
  ((∃ (r : List UInt8) (A : Option Addr) (n c : Nat), IsRec P a r ∧ e = .returned (.tuple #[.slice A n c, .int .i64 ((a + (frameL a true r).length : Nat) : Int), .bool true]) ∧ OwnB w' w.heap.size A n c r) ∨
    ((∀ r, ¬ IsRec P a r) ∧ e = .returned (.tuple #[.slice none 0 0, .int .i64 0, .bool false])))
theorem RecB.no {w w' : World} {P : List UInt8} {a : Nat} (hb : Below w.heap.size w w') (h : ∀ r, ¬ IsRec P a r) : RecB w P a (.returned (.tuple #[.slice none 0 0, .int .i64 0, .bool false])) w' := ⟨hb, .inr ⟨h, rfl⟩⟩
/-- what holds at each round's head -/
def RecRel (w : World) (P : List UInt8) (a n : Nat) (av ov iv : Value) (wr : World) : Prop :=
  ∃ (at_ i : Nat) (out : List UInt8) (A2 : Option Addr) (n2 c2 : Nat), av = .int .i64 (at_ : Int) ∧ ov = .slice A2 n2 c2 ∧ iv = .int .i64 (i : Int) ∧ OwnB wr w.heap.size A2 n2 c2 out ∧ Below w.heap.size w wr ∧
    Hid (Reading P a at_ (decide (i = 0)) out) ∧ a ≤ at_ ∧ at_ ≤ n ∧ n2 ≤ at_ ∧ i ≤ at_
theorem rec_yes {P : List UInt8} {a z : Nat} {r : List UInt8} (hr : r.length ≤ 65536) (hz : z ≤ P.length) (haz : a ≤ z) (h : frameL a true r = (P.drop a).take (z - a)) : IsRec P a r ∧ z = a + (frameL a true r).length := by
  refine ⟨⟨hr, ?_⟩, ?_⟩
  · rw [h]; exact List.take_prefix _ _
  · rw [h]
    simp
    omega
theorem rec_no {P : List UInt8} {a z : Nat} {r : List UInt8} (h1 : ∀ r', IsRec P a r' → r' = r ∧ z = a + (frameL a true r').length) (h : frameL a true r ≠ (P.drop a).take (z - a)) : ∀ r', ¬ IsRec P a r' := by
  intro r' hr
  obtain ⟨rfl, hz⟩ := h1 r' hr
  obtain ⟨t, ht⟩ := hr.2
  refine h ?_
  rw [← ht, List.take_left' (by omega)]
set_option maxHeartbeats 16000000 in
theorem record_at (w : World) (a : Nat) (A : Option Addr) (n c : Nat) (P : List UInt8) (h : Sl w 1 A n c (bc P)) (hq : Quarter w) (hn : n ≤ 1000000) (ha : a ≤ n) :
    Calls Tryd.prog 38 #[.slice A n c, .int .i64 (a : Int)] w (RecB w P a) := by
  have Hl : Hid (P.length = n) := h.lenb
  have hcap := h.cap
  have hcm := h.capm
  unfold maxLen at hcm
  go_enter Tryd.func38, Tryd.ntmps38
  go_wp2_with fail
  go_loopw [1, 8, 9] (RecRel w P a n) (fun av _ _ _ => n - (intOf av).toNat)
  case atStart => exact ⟨a, 0, [], none, 0, 0, rfl, rfl, rfl, Own.nil _ _ _ _ _, Below.refl _ _, reading_start P a, Nat.le_refl _, ha, Nat.zero_le _, Nat.zero_le _⟩
  case round =>
    obtain ⟨at_, i, out, A2, n2, c2, rfl, rfl, rfl, ho2, hbr, HR, ha1, ha2, hn2, hi⟩ := hrel
    have hpn := padN_le at_
    have hpad : ∀ (w' : World), Calls Tryd.prog 39 #[.int .i64 (at_ : Int)] w' fun e w'' => e = .returned (.int .i64 (padN at_ : Nat)) ∧ w' = w'' := fun w' => pad_any w' at_ (by omega)
    obtain ⟨pd, hpd⟩ : ∃ pd, padN at_ = pd := ⟨_, rfl⟩
    rw [hpd] at hpn
    simp only [hpd] at hpad
    have Hpad := Lib.hid hpad
    have Hpd := Lib.hid hpd
    have Ho2 := Lib.hid ho2
    have hs := h.below (by omega) hbr
    have hqr := hq.below hbr
    have hpc := piece_at wr (at_ + pd) A n c P hs hqr hn (by omega)
    simp only [Int.natCast_add] at hpc
    have Hpc := Lib.hid hpc
    clear hpad hpd hpc ho2
    go_wp2_with fail
    refine (Hpad.out _).mono ?_
    rintro e w' ⟨rfl, rfl⟩
    go_wp2_with fail
    refine Hpc.out.mono ?_
    rintro e w5 ⟨hb5, (⟨k, x, z, A5, n5, c5, hpa, rfl, ho5⟩ | ⟨hno, rfl⟩)⟩
    · have hb6 := hbr.trans (hb5.mono hbr.size)
      have hz := hpa.le
      obtain ⟨k1, k4, q3, q4, _⟩ := id hpa
      have hn5 := OwnB.len' ho5
      have hzn : z ≤ n := by have := Hl.out; omega
      have hnx : at_ + pd + 7 + n5 = z := by omega
      have Hnx := Lib.hid hnx
      have hzl : at_ < z := by omega
      have hn5l : n5 ≤ 57 := by omega
      have hpa' : PieceAt P (at_ + padN at_) k x z := by rw [Hpd.out]; exact hpa
      have Hpa := Lib.hid hpa'
      have Ho5 := Lib.hid ho5
      clear hpa hpa' hz q3 q4 hnx hn5 ho5
      have hk : k = 1 ∨ k = 2 ∨ k = 3 ∨ k = 4 := by omega
      clear k1 k4
      by_cases hi0 : i = 0
      · have HI : Hid (decide (i = 0) = true) := by unfold Hid; simp [hi0]
        have d0 : ((i : Int) == 0) = true := by simp; omega
        clear hi0
        have HR2 := HR.out
        rw [HI.out] at HR2
        have HR3 := Lib.hid HR2
        clear HR2
        rcases hk with rfl | rfl | rfl | rfl
        · have ho2' := Own.below Ho2.out hb5
          go_wp2_with (at_builtin; refine wpList_appB _ rfl (.tmp 44) (.tmp 45) rfl w.heap.size A2 n2 c2 out rfl ho2' A5 n5 c5 x rfl (OwnB.sl Ho5.out) ?_ ?_ ?_)
          · omega
          · exact hb6.size
          intro A7 c7 w7 ho7 hg7 _
          have hb7 := hb6.grown hg7 hb6.size (fun b hb => (Own.lt ho2' b hb).1)
          have Ho7 := Lib.hid ho7
          clear ho7 hg7 ho2'
          have hre := reading_end HR3.out Hpa.out (by decide)
          have Hre := Lib.hid hre
          clear hre
          obtain ⟨R, hR⟩ : ∃ R, out ++ x = R := ⟨_, rfl⟩
          rw [hR] at Ho7 Hre
          have hRl : R.length = n2 + n5 := OwnB.len' Ho7.out
          have HRl := Lib.hid hRl
          clear hR hRl
          go_wp2_with fail
          refine (frame_any w7 a A7 _ c7 R (OwnB.sl Ho7.out) (hq.below hb7)).mono ?_
          by_cases hlong : R.length ≤ 65536
          · rw [framed_ok hlong]
            obtain ⟨Ap, rp, sp, _⟩ := cutLH h .i64 .i64 (a : Int) (z : Int) a z rfl rfl (by omega) hzn
            obtain ⟨bb, hbb⟩ : ∃ bb, (frameL a true R == (P.drop a).take (z - a)) = bb := ⟨_, rfl⟩
            have Hbb := Lib.hid hbb
            have Hlong := Lib.hid hlong
            clear hbb hlong
            rintro e w8 ⟨A8, n8, c8, rfl, ho8, hb8⟩
            have hb78 := hb7.trans (hb8.mono hb7.size)
            have hs8 := OwnB.sl ho8
            have hsp := sp.below (by omega) hb78
            have haz : (a : Int) ≤ (z : Int) := by omega
            clear ho8
            go_wp2_with fail
            refine (equal_is w8 A8 n8 c8 _ Ap (z - a) (c - a) _ bb Hbb hs8 hsp).mono ?_
            rintro e w' ⟨rfl, rfl⟩
            cases bb with
            | false =>
              have hnr := rec_no Hre.out (fun e => by have h8 := Hbb.out; rw [e] at h8; simp at h8)
              have HN := Lib.hid hnr
              clear hnr
              go_wp2
              go_ret3
              exact RecB.no hb78 HN.out
            | true =>
              obtain ⟨hy, hz2⟩ := rec_yes Hlong.out (by have := Hl.out; omega) (by omega) (eq_of_beq Hbb.out)
              have Hy := Lib.hid hy
              have Hz2 := Lib.hid hz2
              clear hy hz2
              go_wp2
              go_ret3
              exact ⟨hb78, .inl ⟨R, A7, _, c7, Hy.out, by rw [← Hz2.out]; rfl, (Own.below Ho7.out hb8)⟩⟩
          · have hnr : ∀ r, ¬ IsRec P a r := fun r hr => by
              obtain ⟨rfl, _⟩ := Hre.out r hr
              exact hlong hr.1
            have HN := Lib.hid hnr
            have e3 : framed (a : Int) R = ([], 3) := by unfold framed; rw [if_neg (by omega), if_pos (by omega)]
            rw [e3]
            clear hnr e3 hlong
            rintro e w8 ⟨A8, n8, c8, rfl, ho8, hb8⟩
            have hb78 := hb7.trans (hb8.mono hb7.size)
            go_wp2
            go_ret3
            exact RecB.no hb78 HN.out
        · have ho2' := Own.below Ho2.out hb5
          go_wp2_with (at_builtin; refine wpList_appB _ rfl (.tmp 44) (.tmp 45) rfl w.heap.size A2 n2 c2 out rfl ho2' A5 n5 c5 x rfl (OwnB.sl Ho5.out) ?_ ?_ ?_)
          · omega
          · exact hb6.size
          intro A7 c7 w7 ho7 hg7 _
          have hb7 := hb6.grown hg7 hb6.size (fun b hb => (Own.lt ho2' b hb).1)
          have Ho7 := Lib.hid ho7
          clear ho7 hg7 ho2'
          have hrn := reading_next HR3.out Hpa.out (by decide)
          have Hrn := Lib.hid hrn
          have hi1 : ¬ (i + 1 = 0) := by omega
          clear hrn
          go_wp2
          go_roundw
          case rel => exact ⟨z, i + 1, _, A7, _, c7, rfl, rfl, by go_num, Ho7.out, hb7, by have h8 := Hrn.out; unfold Hid; rw [decide_eq_false hi1]; exact h8, by omega, hzn, by have := Hnx.out; omega, by omega⟩
          case measure => simp [intOf]; omega
        · have hnr := reading_kind HR3.out Hpa.out (by intro f; cases f <;> decide)
          have HN := Lib.hid hnr
          clear hnr
          go_wp2
          go_ret3
          exact RecB.no hb6 HN.out
        · have hnr := reading_kind HR3.out Hpa.out (by intro f; cases f <;> decide)
          have HN := Lib.hid hnr
          clear hnr
          go_wp2
          go_ret3
          exact RecB.no hb6 HN.out
      · have HI : Hid (decide (i = 0) = false) := by unfold Hid; simp [hi0]
        have d0 : ((i : Int) == 0) = false := by simp; omega
        clear hi0
        have HR2 := HR.out
        rw [HI.out] at HR2
        have HR3 := Lib.hid HR2
        clear HR2
        rcases hk with rfl | rfl | rfl | rfl
        · have hnr := reading_kind HR3.out Hpa.out (by intro f; cases f <;> decide)
          have HN := Lib.hid hnr
          clear hnr
          go_wp2
          go_ret3
          exact RecB.no hb6 HN.out
        · have hnr := reading_kind HR3.out Hpa.out (by intro f; cases f <;> decide)
          have HN := Lib.hid hnr
          clear hnr
          go_wp2
          go_ret3
          exact RecB.no hb6 HN.out
        · have ho2' := Own.below Ho2.out hb5
          go_wp2_with (at_builtin; refine wpList_appB _ rfl (.tmp 44) (.tmp 45) rfl w.heap.size A2 n2 c2 out rfl ho2' A5 n5 c5 x rfl (OwnB.sl Ho5.out) ?_ ?_ ?_)
          · omega
          · exact hb6.size
          intro A7 c7 w7 ho7 hg7 _
          have hb7 := hb6.grown hg7 hb6.size (fun b hb => (Own.lt ho2' b hb).1)
          have Ho7 := Lib.hid ho7
          clear ho7 hg7 ho2'
          have hrn := reading_next HR3.out Hpa.out (by decide)
          have Hrn := Lib.hid hrn
          have hi1 : ¬ (i + 1 = 0) := by omega
          clear hrn
          go_wp2
          go_roundw
          case rel => exact ⟨z, i + 1, _, A7, _, c7, rfl, rfl, by go_num, Ho7.out, hb7, by have h8 := Hrn.out; unfold Hid; rw [decide_eq_false hi1]; exact h8, by omega, hzn, by have := Hnx.out; omega, by omega⟩
          case measure => simp [intOf]; omega
        · have ho2' := Own.below Ho2.out hb5
          go_wp2_with (at_builtin; refine wpList_appB _ rfl (.tmp 44) (.tmp 45) rfl w.heap.size A2 n2 c2 out rfl ho2' A5 n5 c5 x rfl (OwnB.sl Ho5.out) ?_ ?_ ?_)
          · omega
          · exact hb6.size
          intro A7 c7 w7 ho7 hg7 _
          have hb7 := hb6.grown hg7 hb6.size (fun b hb => (Own.lt ho2' b hb).1)
          have Ho7 := Lib.hid ho7
          clear ho7 hg7 ho2'
          have hre := reading_end HR3.out Hpa.out (by decide)
          have Hre := Lib.hid hre
          clear hre
          obtain ⟨R, hR⟩ : ∃ R, out ++ x = R := ⟨_, rfl⟩
          rw [hR] at Ho7 Hre
          have hRl : R.length = n2 + n5 := OwnB.len' Ho7.out
          have HRl := Lib.hid hRl
          clear hR hRl
          go_wp2_with fail
          refine (frame_any w7 a A7 _ c7 R (OwnB.sl Ho7.out) (hq.below hb7)).mono ?_
          by_cases hlong : R.length ≤ 65536
          · rw [framed_ok hlong]
            obtain ⟨Ap, rp, sp, _⟩ := cutLH h .i64 .i64 (a : Int) (z : Int) a z rfl rfl (by omega) hzn
            obtain ⟨bb, hbb⟩ : ∃ bb, (frameL a true R == (P.drop a).take (z - a)) = bb := ⟨_, rfl⟩
            have Hbb := Lib.hid hbb
            have Hlong := Lib.hid hlong
            clear hbb hlong
            rintro e w8 ⟨A8, n8, c8, rfl, ho8, hb8⟩
            have hb78 := hb7.trans (hb8.mono hb7.size)
            have hs8 := OwnB.sl ho8
            have hsp := sp.below (by omega) hb78
            have haz : (a : Int) ≤ (z : Int) := by omega
            clear ho8
            go_wp2_with fail
            refine (equal_is w8 A8 n8 c8 _ Ap (z - a) (c - a) _ bb Hbb hs8 hsp).mono ?_
            rintro e w' ⟨rfl, rfl⟩
            cases bb with
            | false =>
              have hnr := rec_no Hre.out (fun e => by have h8 := Hbb.out; rw [e] at h8; simp at h8)
              have HN := Lib.hid hnr
              clear hnr
              go_wp2
              go_ret3
              exact RecB.no hb78 HN.out
            | true =>
              obtain ⟨hy, hz2⟩ := rec_yes Hlong.out (by have := Hl.out; omega) (by omega) (eq_of_beq Hbb.out)
              have Hy := Lib.hid hy
              have Hz2 := Lib.hid hz2
              clear hy hz2
              go_wp2
              go_ret3
              exact ⟨hb78, .inl ⟨R, A7, _, c7, Hy.out, by rw [← Hz2.out]; rfl, (Own.below Ho7.out hb8)⟩⟩
          · have hnr : ∀ r, ¬ IsRec P a r := fun r hr => by
              obtain ⟨rfl, _⟩ := Hre.out r hr
              exact hlong hr.1
            have HN := Lib.hid hnr
            have e3 : framed (a : Int) R = ([], 3) := by unfold framed; rw [if_neg (by omega), if_pos (by omega)]
            rw [e3]
            clear hnr e3 hlong
            rintro e w8 ⟨A8, n8, c8, rfl, ho8, hb8⟩
            have hb78 := hb7.trans (hb8.mono hb7.size)
            go_wp2
            go_ret3
            exact RecB.no hb78 HN.out
    · have hnr := reading_none HR.out (fun k x e hp => hno k x e (by rw [← Hpd.out]; exact hp))
      have HN := Lib.hid hnr
      have hb6 := hbr.trans (hb5.mono hbr.size)
      clear hnr hno
      go_wp2
      go_ret3
      exact RecB.no hb6 HN.out
end Go.Proofs.YtpjinmiedanebaaDoor
