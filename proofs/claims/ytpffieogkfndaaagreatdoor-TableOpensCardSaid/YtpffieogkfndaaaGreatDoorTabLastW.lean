/-
  The greatest number of a table. No condition but a size. (Printed by gentablast.py.)
-/
import Derived.Test.YtpffieogkfndaaaGreatDoorJLeafFrom
namespace Go.Proofs.YtpffieogkfndaaaGreatDoor
open Go.RowKit
set_option maxRecDepth 20000
set_option linter.unusedVariables false
set_option linter.unusedSimpArgs false
def lastE (l : List EntL) (n : Nat) : Nat := l.foldl (fun n e => max n e.key.seq.toNat) n
def lastS (l : List SpanL) (n : Nat) : Nat := l.foldl (fun n e => max n e.seq.toNat) n
def lastL (l : List EntL) (sp : List SpanL) : Nat := lastS sp (lastE l 0)
theorem lastE_step {l : List EntL} {j : Nat} (hj : j < l.length) (n : Nat) : lastE (l.drop j) n = lastE (l.drop (j + 1)) (max n l[j].key.seq.toNat) := by rw [List.drop_eq_getElem_cons hj]; rfl
theorem lastS_step {l : List SpanL} {j : Nat} (hj : j < l.length) (n : Nat) : lastS (l.drop j) n = lastS (l.drop (j + 1)) (max n l[j].seq.toNat) := by rw [List.drop_eq_getElem_cons hj]; rfl
set_option maxHeartbeats 16000000 in
theorem tlast_any (w : World) (B g : Nat) (l : List EntL) (sp : List SpanL) (hc : checkTabL l sp = 0) (hT : TabIs w B g l sp) (hn : (tabBytesL l sp).length ≤ 65536) (hq : Quarter w) :
    Calls Tryz.prog 30 #[.pointer (some ⟨g, 0, none⟩)] w fun e w' => e = .returned (.int .u64 (lastL l sp : Nat)) ∧ Below w.heap.size w w' := by
  obtain ⟨R1, hR1⟩ : ∃ r, lastE l 0 = r := ⟨_, rfl⟩
  obtain ⟨R2, hR2⟩ : ∃ r, lastL l sp = r := ⟨_, rfl⟩
  rw [hR2]
  unfold lastL at hR2
  rw [hR1] at hR2
  have H1 := Lib.hid hR1
  have H2 := Lib.hid hR2
  have k1 := tabents_any w B g l sp hc hT hn hq
  have K1 := Lib.hid k1
  clear hR1 hR2 k1 hq
  go_enter Tryz.func30, Tryz.ntmps30
  go_wp2_with fail
  refine K1.out.mono ?_
  rintro e w1 ⟨A1, n1, c1, rfl, r1, hb1⟩
  have hT := hT.below hb1
  have HL1 := Lib.hid r1.lenR
  have hcp1 := r1.cap
  unfold maxLen at hcp1
  clear K1
  go_wp2
  go_loopw [3, 11] (fun bv iv wr => ∃ j bb : Nat, j ≤ n1 ∧ iv = .int .i64 (j : Int) ∧ bv = .int .u64 (bb : Int) ∧ bb < 18446744073709551616 ∧ Below w1.heap.size w1 wr ∧ Hid (lastE (l.drop j) bb = R1)) (fun _ iv _ => n1 - (intOf iv).toNat)
  case atStart => exact ⟨0, 0, Nat.zero_le _, rfl, rfl, by omega, Below.refl _ _, Lib.hid (by rw [List.drop_zero]; exact H1.out)⟩
  case round =>
    obtain ⟨j, bb, hj, rfl, rfl, hbb, hbr, HB⟩ := hrel
    by_cases hlt : j < n1
    case neg =>
      obtain rfl : n1 = j := by omega
      have er := HB.out
      rw [List.drop_of_length_le (by have := HL1.out; omega)] at er
      obtain rfl : bb = R1 := er
      clear HB
      have k2 := tabspans_any wr B g l sp hc (hT.below hbr)
      unfold NewSpans at k2
      have K2 := Lib.hid k2
      have hbw := hb1.trans (hbr.mono hb1.size)
      clear k2 hT hbr r1 hlt
      go_wp2_with fail
      refine K2.out.mono ?_
      rintro e w4 ⟨A2, n2, c2, rfl, r2, hb4⟩
      have HL2 := Lib.hid r2.lenR
      have hcp2 := r2.cap
      unfold maxLen at hcp2
      have hbw := hbw.trans (hb4.mono hbw.size)
      clear K2 hb4
      go_wp2
      go_loopw [3, 24] (fun bv iv wr => ∃ j bb : Nat, j ≤ n2 ∧ iv = .int .i64 (j : Int) ∧ bv = .int .u64 (bb : Int) ∧ bb < 18446744073709551616 ∧ Below w4.heap.size w4 wr ∧ Hid (lastS (sp.drop j) bb = R2)) (fun _ iv _ => n2 - (intOf iv).toNat)
      case atStart => exact ⟨0, bb, Nat.zero_le _, rfl, rfl, by omega, Below.refl _ _, Lib.hid (by rw [List.drop_zero]; exact H2.out)⟩
      case round =>
        obtain ⟨j, bb, hj, rfl, rfl, hbb, hbr, HB⟩ := hrel
        by_cases hlt : j < n2
        case neg =>
          obtain rfl : n2 = j := by omega
          have er := HB.out
          rw [List.drop_of_length_le (by have := HL2.out; omega)] at er
          obtain rfl : bb = R2 := er
          clear HB
          go_wp2
          go_ret
          exact ⟨rfl, hbw.trans (hbr.mono hbw.size)⟩
        obtain ⟨b, o, A3, n3, c3, A4, n4, c4, hjl, rfl, d0, d1, d2, _, _, _, _⟩ := (r2.below hbr).spanAt hlt
        have hst := lastS_step hjl bb
        rw [HB.out] at hst
        have hsl := sp[j].seq.toNat_lt
        generalize sp[j].seq.toNat = s at *
        have kB := Bx.fresh wr (.slice A3 n3 c3) (.slice A4 n4 c4) (.int .u64 (s : Int)) 72
        have al := (Below.refl wr.heap.size wr).alloc (Nat.le_refl _) (.cells #[.slice A3 n3 c3, .slice A4 n4 c4, .int .u64 (s : Int)] 72)
        have hbr := hbr.trans (al.mono hbr.size)
        generalize hW : (wr.alloc (.cells #[.slice A3 n3 c3, .slice A4 n4 c4, .int .u64 (s : Int)] 72)) = w3 at *
        have Hst := Lib.hid hst.symm
        clear hst al HB
        obtain ⟨x0, x1, x2, x3⟩ := id kB
        by_cases hm : bb < s
        case pos =>
          have q1 : max bb s = s := Nat.max_eq_right (by omega)
          have q2 : (bb : Int) < (s : Int) := by omega
          have q3 : decide ((bb : Int) < (s : Int)) = true := decide_eq_true q2
          have HQ := Lib.hid q1
          clear q1
          go_wp2
          go_roundw
          case rel => exact ⟨j + 1, s, by omega, by go_num, rfl, by omega, hbr, Lib.hid (by rw [← Hst.out, HQ.out])⟩
          case measure => simp [intOf]; omega
        have q1 : max bb s = bb := Nat.max_eq_left (by omega)
        have q2 : ¬ (bb : Int) < (s : Int) := by omega
        have q3 : decide ((bb : Int) < (s : Int)) = false := decide_eq_false q2
        have HQ := Lib.hid q1
        clear q1
        go_wp2
        go_roundw
        case rel => exact ⟨j + 1, bb, by omega, by go_num, rfl, by omega, hbr, Lib.hid (by rw [← Hst.out, HQ.out])⟩
        case measure => simp [intOf]; omega
    obtain ⟨b, o, A3, n3, c3, A4, n4, c4, hjl, rfl, d0, d1, d2, d3, _, _⟩ := (r1.below hbr).entAt hlt
    have hst := lastE_step hjl bb
    rw [HB.out] at hst
    have hsl := l[j].key.seq.toNat_lt
    generalize l[j].key.seq.toNat = s at *
    generalize l[j].key.kind.toNat = d at *
    have kB := Bx4.fresh wr (.slice A3 n3 c3) (.int .u64 (s : Int)) (.int .u8 (d : Int)) (.slice A4 n4 c4) 69
    have al := (Below.refl wr.heap.size wr).alloc (Nat.le_refl _) (.cells #[.slice A3 n3 c3, .int .u64 (s : Int), .int .u8 (d : Int), .slice A4 n4 c4] 69)
    have hbr := hbr.trans (al.mono hbr.size)
    generalize hW : (wr.alloc (.cells #[.slice A3 n3 c3, .int .u64 (s : Int), .int .u8 (d : Int), .slice A4 n4 c4] 69)) = w3 at *
    have Hst := Lib.hid hst.symm
    clear hst al HB
    obtain ⟨x0, x1, x2, x3, x4⟩ := id kB
    by_cases hm : bb < s
    case pos =>
      have q1 : max bb s = s := Nat.max_eq_right (by omega)
      have q2 : (bb : Int) < (s : Int) := by omega
      have q3 : decide ((bb : Int) < (s : Int)) = true := decide_eq_true q2
      have HQ := Lib.hid q1
      clear q1
      go_wp2
      go_roundw
      case rel => exact ⟨j + 1, s, by omega, by go_num, rfl, by omega, hbr, Lib.hid (by rw [← Hst.out, HQ.out])⟩
      case measure => simp [intOf]; omega
    have q1 : max bb s = bb := Nat.max_eq_left (by omega)
    have q2 : ¬ (bb : Int) < (s : Int) := by omega
    have q3 : decide ((bb : Int) < (s : Int)) = false := decide_eq_false q2
    have HQ := Lib.hid q1
    clear q1
    go_wp2
    go_roundw
    case rel => exact ⟨j + 1, bb, by omega, by go_num, rfl, by omega, hbr, Lib.hid (by rw [← Hst.out, HQ.out])⟩
    case measure => simp [intOf]; omega
set_option maxHeartbeats 16000000 in
theorem rtlast_any (w : World) (g : Nat) (l : List EntL) (sp : List SpanL) (p : Nat → Prop) (A1 : Option Addr) (n1 c1 : Nat) (k0 : w.cell? ⟨g, 0, none⟩ = some (.slice A1 n1 c1)) (r1 : SlR w p A1 n1 c1 l) (p' : Nat → Prop) (A2 : Option Addr) (n2 c2 : Nat) (k1 : w.cell? ⟨g, 1, none⟩ = some (.slice A2 n2 c2)) (r2 : SlR w p' A2 n2 c2 sp) :
    Calls Tryz.prog 32 #[.pointer (some ⟨g, 0, none⟩)] w fun e w' => e = .returned (.int .u64 (lastL l sp : Nat)) ∧ Below w.heap.size w w' := by
  obtain ⟨R1, hR1⟩ : ∃ r, lastE l 0 = r := ⟨_, rfl⟩
  obtain ⟨R2, hR2⟩ : ∃ r, lastL l sp = r := ⟨_, rfl⟩
  rw [hR2]
  unfold lastL at hR2
  rw [hR1] at hR2
  have H1 := Lib.hid hR1
  have H2 := Lib.hid hR2
  have HL1 := Lib.hid r1.lenR
  have hcp1 := r1.cap
  unfold maxLen at hcp1
  have HL2 := Lib.hid r2.lenR
  have hcp2 := r2.cap
  unfold maxLen at hcp2
  clear hR1 hR2
  go_enter Tryz.func32, Tryz.ntmps32
  go_wp2
  go_loopw [3, 13] (fun bv iv wr => ∃ j bb : Nat, j ≤ n1 ∧ iv = .int .i64 (j : Int) ∧ bv = .int .u64 (bb : Int) ∧ bb < 18446744073709551616 ∧ Below w.heap.size w wr ∧ Hid (lastE (l.drop j) bb = R1)) (fun _ iv _ => n1 - (intOf iv).toNat)
  case atStart => exact ⟨0, 0, Nat.zero_le _, rfl, rfl, by omega, Below.refl _ _, Lib.hid (by rw [List.drop_zero]; exact H1.out)⟩
  case round =>
    obtain ⟨j, bb, hj, rfl, rfl, hbb, hbr, HB⟩ := hrel
    by_cases hlt : j < n1
    case neg =>
      obtain rfl : n1 = j := by omega
      have er := HB.out
      rw [List.drop_of_length_le (by have := HL1.out; omega)] at er
      obtain rfl : bb = R1 := er
      clear HB
      have k1 := stays hbr k1
      have r2 := r2.below hbr
      have hbw := hbr
      obtain ⟨w4, hw4⟩ : ∃ w4 : World, w4 = wr := ⟨_, rfl⟩
      subst hw4
      clear hbr r1 hlt k0
      go_wp2
      go_loopw [3, 28] (fun bv iv wr => ∃ j bb : Nat, j ≤ n2 ∧ iv = .int .i64 (j : Int) ∧ bv = .int .u64 (bb : Int) ∧ bb < 18446744073709551616 ∧ Below w4.heap.size w4 wr ∧ Hid (lastS (sp.drop j) bb = R2)) (fun _ iv _ => n2 - (intOf iv).toNat)
      case atStart => exact ⟨0, bb, Nat.zero_le _, rfl, rfl, by omega, Below.refl _ _, Lib.hid (by rw [List.drop_zero]; exact H2.out)⟩
      case round =>
        obtain ⟨j, bb, hj, rfl, rfl, hbb, hbr, HB⟩ := hrel
        by_cases hlt : j < n2
        case neg =>
          obtain rfl : n2 = j := by omega
          have er := HB.out
          rw [List.drop_of_length_le (by have := HL2.out; omega)] at er
          obtain rfl : bb = R2 := er
          clear HB
          go_wp2
          go_ret
          exact ⟨rfl, hbw.trans (hbr.mono hbw.size)⟩
        obtain ⟨b, o, A3, n3, c3, A4, n4, c4, hjl, rfl, d0, d1, d2, _, _, _, _⟩ := (r2.below hbr).spanAt hlt
        have hst := lastS_step hjl bb
        rw [HB.out] at hst
        have hsl := sp[j].seq.toNat_lt
        generalize sp[j].seq.toNat = s at *
        have kB := Bx.fresh wr (.slice A3 n3 c3) (.slice A4 n4 c4) (.int .u64 (s : Int)) 72
        have al := (Below.refl wr.heap.size wr).alloc (Nat.le_refl _) (.cells #[.slice A3 n3 c3, .slice A4 n4 c4, .int .u64 (s : Int)] 72)
        have hbr := hbr.trans (al.mono hbr.size)
        generalize hW : (wr.alloc (.cells #[.slice A3 n3 c3, .slice A4 n4 c4, .int .u64 (s : Int)] 72)) = w3 at *
        have Hst := Lib.hid hst.symm
        clear hst al HB
        obtain ⟨x0, x1, x2, x3⟩ := id kB
        by_cases hm : bb < s
        case pos =>
          have q1 : max bb s = s := Nat.max_eq_right (by omega)
          have q2 : (bb : Int) < (s : Int) := by omega
          have q3 : decide ((bb : Int) < (s : Int)) = true := decide_eq_true q2
          have HQ := Lib.hid q1
          clear q1
          go_wp2
          go_roundw
          case rel => exact ⟨j + 1, s, by omega, by go_num, rfl, by omega, hbr, Lib.hid (by rw [← Hst.out, HQ.out])⟩
          case measure => simp [intOf]; omega
        have q1 : max bb s = bb := Nat.max_eq_left (by omega)
        have q2 : ¬ (bb : Int) < (s : Int) := by omega
        have q3 : decide ((bb : Int) < (s : Int)) = false := decide_eq_false q2
        have HQ := Lib.hid q1
        clear q1
        go_wp2
        go_roundw
        case rel => exact ⟨j + 1, bb, by omega, by go_num, rfl, by omega, hbr, Lib.hid (by rw [← Hst.out, HQ.out])⟩
        case measure => simp [intOf]; omega
    obtain ⟨b, o, A3, n3, c3, A4, n4, c4, hjl, rfl, d0, d1, d2, d3, _, _⟩ := (r1.below hbr).entAt hlt
    have hst := lastE_step hjl bb
    rw [HB.out] at hst
    have hsl := l[j].key.seq.toNat_lt
    generalize l[j].key.seq.toNat = s at *
    generalize l[j].key.kind.toNat = d at *
    have kB := Bx4.fresh wr (.slice A3 n3 c3) (.int .u64 (s : Int)) (.int .u8 (d : Int)) (.slice A4 n4 c4) 69
    have al := (Below.refl wr.heap.size wr).alloc (Nat.le_refl _) (.cells #[.slice A3 n3 c3, .int .u64 (s : Int), .int .u8 (d : Int), .slice A4 n4 c4] 69)
    have hbr := hbr.trans (al.mono hbr.size)
    generalize hW : (wr.alloc (.cells #[.slice A3 n3 c3, .int .u64 (s : Int), .int .u8 (d : Int), .slice A4 n4 c4] 69)) = w3 at *
    have Hst := Lib.hid hst.symm
    clear hst al HB
    obtain ⟨x0, x1, x2, x3, x4⟩ := id kB
    by_cases hm : bb < s
    case pos =>
      have q1 : max bb s = s := Nat.max_eq_right (by omega)
      have q2 : (bb : Int) < (s : Int) := by omega
      have q3 : decide ((bb : Int) < (s : Int)) = true := decide_eq_true q2
      have HQ := Lib.hid q1
      clear q1
      go_wp2
      go_roundw
      case rel => exact ⟨j + 1, s, by omega, by go_num, rfl, by omega, hbr, Lib.hid (by rw [← Hst.out, HQ.out])⟩
      case measure => simp [intOf]; omega
    have q1 : max bb s = bb := Nat.max_eq_left (by omega)
    have q2 : ¬ (bb : Int) < (s : Int) := by omega
    have q3 : decide ((bb : Int) < (s : Int)) = false := decide_eq_false q2
    have HQ := Lib.hid q1
    clear q1
    go_wp2
    go_roundw
    case rel => exact ⟨j + 1, bb, by omega, by go_num, rfl, by omega, hbr, Lib.hid (by rw [← Hst.out, HQ.out])⟩
    case measure => simp [intOf]; omega
end Go.Proofs.YtpffieogkfndaaaGreatDoor
