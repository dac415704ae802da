/-
  What reel.Read gives: all records, and the place behind them. The table lies in its variable; else no condition but sizes. (Printed by genread.py.)
-/
import Derived.Test.YtpjinmiedanebaaDoorReelRecord
import Derived.Test.YtpjinmiedanebaaDoorJTrim
import Derived.Test.YtpjinmiedanebaaDoorJFrameR
namespace Go.Proofs.YtpjinmiedanebaaDoor
set_option maxRecDepth 20000
open Go.RowKit

/-- what Read gives back -/
def ReadB (w : World) (P : List UInt8) (e : Ending) (w' : World) : Prop :=
  ∃ (rs : List (List UInt8)) (z : Nat) (A : Option Addr) (n c : Nat) (vs : List Value), ReadsTo P rs z ∧ e = .returned (.tuple #[.slice A n c, .int .i64 (z : Int)]) ∧ OwnP w' w.heap.size A n c vs ∧ OwnParts w' w.heap.size none vs rs ∧ Below w.heap.size w w'
/-- what holds at each round's head -/
def ReadRel (w : World) (P : List UInt8) (n : Nat) (ov av : Value) (wr : World) : Prop :=
  ∃ (a : Nat) (rs : List (List UInt8)) (A2 : Option Addr) (n2 c2 : Nat) (vs2 : List Value), ov = .slice A2 n2 c2 ∧ av = .int .i64 (a : Int) ∧ OwnP wr w.heap.size A2 n2 c2 vs2 ∧ OwnParts wr w.heap.size none vs2 rs ∧ Below w.heap.size w wr ∧ Hid (Reads P 0 rs a) ∧ a ≤ n ∧ n2 ≤ a
theorem endN_no {P : List UInt8} {e : Nat} (h : ¬ (0 < padN e ∧ P.length - e ≤ padN e)) : endN P e = e := by
  unfold endN
  rw [if_neg (fun q => h ⟨q.1, q.2.1⟩)]
theorem endN_yes {P : List UInt8} {e : Nat} (h1 : 0 < padN e) (h2 : P.length - e ≤ padN e) : endN P e = if (P.drop e).all (· == 0) = true then P.length else e := by
  unfold endN
  by_cases h : (P.drop e).all (· == 0) = true
  · rw [if_pos ⟨h1, h2, h⟩, if_pos h]
  · rw [if_neg (fun q => h q.2.2), if_neg h]
set_option maxHeartbeats 8000000 in
theorem read_at (w : World) (A : Option Addr) (n c : Nat) (P : List UInt8) (h : Sl w 1 A n c (bc P)) (hq : Quarter w) (hn : n ≤ 1000000) :
    Calls Tryd.prog 21 #[.slice A n c] w (ReadB w P) := by
  have Hl : Hid (P.length = n) := h.lenb
  have hcap := h.cap
  have hcm := h.capm
  unfold maxLen at hcm
  go_enter Tryd.func21, Tryd.ntmps21
  go_wp2_with fail
  go_loopw [4, 5] (ReadRel w P n) (fun _ av _ => n - (intOf av).toNat)
  case atStart => exact ⟨0, [], none, 0, 0, [], rfl, rfl, Own.nil _ _ _ _ _, OwnParts.nil _ _ _, Below.refl _ _, Reads.nil 0, Nat.zero_le _, Nat.zero_le _⟩
  case round =>
    obtain ⟨a, rs, A2, n2, c2, vs2, rfl, rfl, ho2, hp2, hbr, HR, ha, hn2⟩ := hrel
    have Ho2 := Lib.hid ho2
    have Hp2 := Lib.hid hp2
    clear ho2 hp2
    by_cases hlt : a < n
    · go_wp2_with fail
      refine (record_at wr a A n c P (h.below (by omega) hbr) (hq.below hbr) hn ha).mono ?_
      rintro e w5 ⟨hb5, (⟨r, A5, n5, c5, hr, rfl, ho5⟩ | ⟨hno, rfl⟩)⟩
      · have hb6 := hbr.trans (hb5.mono hbr.size)
        have hle := hr.le
        have hps := frameL_pos a true r
        have hsn := HR.out.snoc hr
        have hle2 : a + (frameL a true r).length ≤ n := by have := Hl.out; omega
        obtain ⟨z, hz⟩ : ∃ z, a + (frameL a true r).length = z := ⟨_, rfl⟩
        rw [hz] at hsn hle2
        rw [hz]
        have haz : a + 7 ≤ z := by omega
        have Hsn := Lib.hid hsn
        clear hle hps hsn hr hz
        have hba := (Below.refl w5.heap.size w5).alloc (Nat.le_refl _) (.cells #[.slice A5 n5 c5] 22)
        have hlit := Own.lit w5 w.heap.size 22 1 #[.slice A5 n5 c5] [.slice A5 n5 c5] hb6.size rfl (by unfold maxLen; omega) rfl
        have hoP : OwnP (w5.alloc (.cells #[.slice A5 n5 c5] 22)) w.heap.size A2 n2 c2 vs2 := Own.below (Own.below Ho2.out hb5) hba
        have hpP := (Hp2.out.below hb5).below hba
        have hoN := Own.below ho5 hba
        have hsz := hbr.size
        clear ho5
        go_wp2_with (at_builtin; refine wpList_appP _ rfl (.tmp 23) (.tmp 25) rfl w.heap.size A2 n2 c2 _ rfl hoP _ 1 1 [.slice A5 n5 c5] rfl hlit.sl (one_cell _ _ _) ?_ ?_ ?_)
        · omega
        · have := hb6.size; rw [World.size_alloc]; omega
        intro A4 c4 w4 ho4 hg4 _
        have hb4 := (hb6.alloc hb6.size (.cells #[.slice A5 n5 c5] 22)).grown hg4 (by have := hb6.size; rw [World.size_alloc]; omega) (fun q hq => (Own.lt hoP q hq).1)
        have hpN := (hpP.wroteRow hoP (by decide) hg4).snoc (Own.mono (Own.grown hoN hg4 (own_apart hoN hoP (by decide))) hsz) (fun b hb => by simp)
        have Ho4 := Lib.hid ho4
        have HpN := Lib.hid hpN
        clear ho4 hpN hoP hpP hoN hg4 hlit hba
        go_wp2
        go_roundw
        case rel => exact ⟨z, _, A4, _, c4, _, rfl, rfl, Ho4.out, HpN.out, hb4, Hsn.out, hle2, by omega⟩
        case measure => simp [intOf]; omega
      · have hst : Stuck P a := hno
        have HS := Lib.hid hst
        have hb6 := hbr.trans (hb5.mono hbr.size)
        have ho6 := Own.below Ho2.out hb5
        have hp6 := Hp2.out.below hb5
        clear hno hst hb5
        have Ho6 := Lib.hid ho6
        have Hp6 := Lib.hid hp6
        have hpn := padN_le a
        have hpad : ∀ (w' : World), Calls Tryd.prog 39 #[.int .i64 (a : Int)] w' fun e w'' => e = .returned (.int .i64 (padN a : Nat)) ∧ w' = w'' := fun w' => pad_any w' a (by omega)
        have hen := endN_no (P := P) (e := a)
        have hey := endN_yes (P := P) (e := a)
        obtain ⟨pd, hpd⟩ : ∃ pd, padN a = pd := ⟨_, rfl⟩
        rw [hpd] at hpn hen hey
        simp only [hpd] at hpad
        have Hpad := Lib.hid hpad
        have Hen := Lib.hid hen
        have Hey := Lib.hid hey
        clear ho6 hp6 hpad hpd hen hey
        by_cases h1 : 0 < pd
        · by_cases h2 : n - a ≤ pd
          · obtain ⟨A9, r9, s9, _⟩ := cutL h .i64 (a : Int) a rfl ha
            have s9' := s9.below (by omega) hb6
            have p2 : (n : Int) - (a : Int) ≤ (pd : Int) := by omega
            go_wp2_with fail
            refine (Hpad.out _).mono ?_
            rintro e w' ⟨rfl, rfl⟩
            go_wp2_with fail
            refine (trim_any _ A9 (n - a) (c - a) _ s9' (by omega)).mono ?_
            rintro e w9 ⟨A3, n3, c3, rfl, h3, qq, rfl⟩
            have hb9 := below_drewN hb6 qq
            have ho9 := Own.drewN Ho6.out qq
            have hp9 := Hp6.out.below (below_drewN (Below.refl (w5).heap.size w5) qq)
            have hz := Hey.out h1 (by have := Hl.out; omega)
            by_cases hall : (P.drop a).all (· == 0) = true
            · rw [if_pos hall] at hz
              obtain rfl : n3 = 0 := h3.2 hall
              have HZ := Lib.hid hz
              clear hz h3 hall
              have Ho9 := Lib.hid ho9
              have Hp9 := Lib.hid hp9
              clear ho9 hp9
              go_wp2
              go_ret2
              exact ⟨rs, n, A2, n2, c2, vs2, ⟨a, HR.out, HS.out, by have := Hl.out; omega, by rw [HZ.out]; exact Hl.out.symm⟩, rfl, Ho9.out, Hp9.out, hb9⟩
            · rw [if_neg hall] at hz
              have hn3 : ¬ n3 = 0 := fun q => hall (h3.1 q)
              have d9 : ((n3 : Int) == 0) = false := by simp; omega
              have HZ := Lib.hid hz
              clear hz h3 hall
              have Ho9 := Lib.hid ho9
              have Hp9 := Lib.hid hp9
              clear ho9 hp9
              go_wp2
              go_ret2
              exact ⟨rs, a, A2, n2, c2, vs2, ⟨a, HR.out, HS.out, by have := Hl.out; omega, HZ.out.symm⟩, rfl, Ho9.out, Hp9.out, hb9⟩
          · have p2 : ¬ ((n : Int) - (a : Int) ≤ (pd : Int)) := by omega
            have p3 : decide ((n : Int) - (a : Int) ≤ (pd : Int)) = false := by simp; omega
            have hz := Hen.out (fun q => by have := Hl.out; omega)
            have HZ := Lib.hid hz
            clear hz
            go_wp2_with fail
            refine (Hpad.out _).mono ?_
            rintro e w' ⟨rfl, rfl⟩
            go_wp2
            go_ret2
            exact ⟨rs, a, A2, n2, c2, vs2, ⟨a, HR.out, HS.out, by have := Hl.out; omega, HZ.out.symm⟩, rfl, Ho6.out, Hp6.out, hb6⟩
        · obtain rfl : pd = 0 := by omega
          have hz := Hen.out (fun q => by omega)
          have HZ := Lib.hid hz
          clear hz
          go_wp2_with fail
          refine (Hpad.out _).mono ?_
          rintro e w' ⟨rfl, rfl⟩
          go_wp2
          go_ret2
          exact ⟨rs, a, A2, n2, c2, vs2, ⟨a, HR.out, HS.out, by have := Hl.out; omega, HZ.out.symm⟩, rfl, Ho6.out, Hp6.out, hb6⟩
    · have hst : Stuck P a := stuck_end (by have := Hl.out; omega)
      have HS := Lib.hid hst
      have hb6 := hbr
      have ho6 := Ho2.out
      have hp6 := Hp2.out
      clear hst
      have Ho6 := Lib.hid ho6
      have Hp6 := Lib.hid hp6
      have hpn := padN_le a
      have hpad : ∀ (w' : World), Calls Tryd.prog 39 #[.int .i64 (a : Int)] w' fun e w'' => e = .returned (.int .i64 (padN a : Nat)) ∧ w' = w'' := fun w' => pad_any w' a (by omega)
      have hen := endN_no (P := P) (e := a)
      have hey := endN_yes (P := P) (e := a)
      obtain ⟨pd, hpd⟩ : ∃ pd, padN a = pd := ⟨_, rfl⟩
      rw [hpd] at hpn hen hey
      simp only [hpd] at hpad
      have Hpad := Lib.hid hpad
      have Hen := Lib.hid hen
      have Hey := Lib.hid hey
      clear ho6 hp6 hpad hpd hen hey
      by_cases h1 : 0 < pd
      · by_cases h2 : n - a ≤ pd
        · obtain ⟨A9, r9, s9, _⟩ := cutL h .i64 (a : Int) a rfl ha
          have s9' := s9.below (by omega) hb6
          have p2 : (n : Int) - (a : Int) ≤ (pd : Int) := by omega
          go_wp2_with fail
          refine (Hpad.out _).mono ?_
          rintro e w' ⟨rfl, rfl⟩
          go_wp2_with fail
          refine (trim_any _ A9 (n - a) (c - a) _ s9' (by omega)).mono ?_
          rintro e w9 ⟨A3, n3, c3, rfl, h3, qq, rfl⟩
          have hb9 := below_drewN hb6 qq
          have ho9 := Own.drewN Ho6.out qq
          have hp9 := Hp6.out.below (below_drewN (Below.refl (wr).heap.size wr) qq)
          have hz := Hey.out h1 (by have := Hl.out; omega)
          by_cases hall : (P.drop a).all (· == 0) = true
          · rw [if_pos hall] at hz
            obtain rfl : n3 = 0 := h3.2 hall
            have HZ := Lib.hid hz
            clear hz h3 hall
            have Ho9 := Lib.hid ho9
            have Hp9 := Lib.hid hp9
            clear ho9 hp9
            go_wp2
            go_ret2
            exact ⟨rs, n, A2, n2, c2, vs2, ⟨a, HR.out, HS.out, by have := Hl.out; omega, by rw [HZ.out]; exact Hl.out.symm⟩, rfl, Ho9.out, Hp9.out, hb9⟩
          · rw [if_neg hall] at hz
            have hn3 : ¬ n3 = 0 := fun q => hall (h3.1 q)
            have d9 : ((n3 : Int) == 0) = false := by simp; omega
            have HZ := Lib.hid hz
            clear hz h3 hall
            have Ho9 := Lib.hid ho9
            have Hp9 := Lib.hid hp9
            clear ho9 hp9
            go_wp2
            go_ret2
            exact ⟨rs, a, A2, n2, c2, vs2, ⟨a, HR.out, HS.out, by have := Hl.out; omega, HZ.out.symm⟩, rfl, Ho9.out, Hp9.out, hb9⟩
        · have p2 : ¬ ((n : Int) - (a : Int) ≤ (pd : Int)) := by omega
          have p3 : decide ((n : Int) - (a : Int) ≤ (pd : Int)) = false := by simp; omega
          have hz := Hen.out (fun q => by have := Hl.out; omega)
          have HZ := Lib.hid hz
          clear hz
          go_wp2_with fail
          refine (Hpad.out _).mono ?_
          rintro e w' ⟨rfl, rfl⟩
          go_wp2
          go_ret2
          exact ⟨rs, a, A2, n2, c2, vs2, ⟨a, HR.out, HS.out, by have := Hl.out; omega, HZ.out.symm⟩, rfl, Ho6.out, Hp6.out, hb6⟩
      · obtain rfl : pd = 0 := by omega
        have hz := Hen.out (fun q => by omega)
        have HZ := Lib.hid hz
        clear hz
        go_wp2_with fail
        refine (Hpad.out _).mono ?_
        rintro e w' ⟨rfl, rfl⟩
        go_wp2
        go_ret2
        exact ⟨rs, a, A2, n2, c2, vs2, ⟨a, HR.out, HS.out, by have := Hl.out; omega, HZ.out.symm⟩, rfl, Ho6.out, Hp6.out, hb6⟩
end Go.Proofs.YtpjinmiedanebaaDoor
