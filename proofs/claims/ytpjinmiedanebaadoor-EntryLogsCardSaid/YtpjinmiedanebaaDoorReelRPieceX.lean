/-
  The walk of ref06.Piece, where no piece stands; and so of any bytes at any place. (Printed by genrpiecex.py.) No condition but sizes.
-/
import Derived.Test.YtpjinmiedanebaaDoorReelRPiece
namespace Go.Proofs.YtpjinmiedanebaaDoor
set_option maxRecDepth 20000
open Go.RowKit
theorem take_head7 (l : List UInt8) (N : Nat) (h : 7 ≤ l.length) : l.take (7 + N) = l.take 4 ++ (l[4] :: l[5] :: l[6] :: (l.drop 7).take N) := by
  rw [show 7 + N = 4 + (N + 3) by omega, List.take_add, List.drop_eq_getElem_cons (show 4 < l.length by omega), List.drop_eq_getElem_cons (show 5 < l.length by omega), List.drop_eq_getElem_cons (show 6 < l.length by omega), List.take_succ_cons, List.take_succ_cons, List.take_succ_cons]
/-- what the four tests say: a piece stands there -/
theorem pieceAt_tests {P : List UInt8} {a N x4 x5 x6 : Nat} (hl : a + 7 + N ≤ P.length) (h4 : (P[a + 4]'(by omega)).toNat = x4) (h5 : (P[a + 5]'(by omega)).toNat = x5) (h6 : (P[a + 6]'(by omega)).toNat = x6) (hN : x4 + 256 * x5 = N)
    (k1 : 1 ≤ x6) (k4 : x6 ≤ 4) (h64 : a % 64 + 7 + N ≤ 64) (hs : (P.drop a).take 4 = le4 (maskL (sumL ((P.drop (a + 6)).take (N + 1))))) : PieceAt P a x6 ((P.drop (a + 7)).take N) (a + 7 + N) := by
  refine pieceAt_of k1 k4 h64 hl ?_
  have hl7 : 7 ≤ (P.drop a).length := by simp; omega
  rw [take_head7 _ N hl7, hs, List.drop_drop]
  have e6 : UInt8.ofNat x6 = P[a + 6] := by rw [← h6]; simp
  have e7 : (P.drop (a + 6)).take (N + 1) = P[a + 6] :: (P.drop (a + 7)).take N := by rw [List.drop_eq_getElem_cons (show a + 6 < P.length by omega)]; rfl
  have eN : ((P.drop (a + 7)).take N).length = N := by simp; omega
  have b4 := (P[a + 4]).toNat_lt
  have b5 := (P[a + 5]).toNat_lt
  have e4 : UInt8.ofNat N = P[a + 4] := by
    apply UInt8.toNat_inj.1
    simp
    omega
  have e5 : UInt8.ofNat (N / 256) = P[a + 5] := by
    apply UInt8.toNat_inj.1
    simp
    omega
  unfold pieceL headL
  rw [eN, e6, e7, e4, e5]
  simp
set_option maxHeartbeats 4000000 in
theorem rpiece_none (w : World) (a : Nat) (A : Option Addr) (n c : Nat) (P : List UInt8) (h : Sl w 1 A n c (bc P)) (hno : ∀ k b z, ¬ PieceAt P a k b z) (hn : n ≤ 1000000) (ha : a ≤ 2000000) :
    Calls Tryd.prog 32 #[.slice A n c, .int .i64 (a : Int)] w fun e' w' => Below w.heap.size w w' ∧ e' = .returned (.tuple #[.int .u8 0, .slice none 0 0, .int .i64 0, .bool false]) := by
  have hl := h.lenb
  have hcap := h.cap
  have hcm := h.capm
  unfold maxLen at hcm
  have d0 : decide ((a : Int) < 0) = false := by simp
  by_cases q1 : a + 7 ≤ n
  case neg =>
    have d1 : decide ((n : Int) - 7 < (a : Int)) = true := by simp; omega
    have p1 : (n : Int) - 7 < (a : Int) := by omega
    clear hno
    go_enter Tryd.func32, Tryd.ntmps32
    go_wp2
    exact bodyPost_ret (results_tmp4 rfl _ _ _) rfl ⟨Below.refl _ _, rfl⟩
  have d1 : decide ((n : Int) - 7 < (a : Int)) = false := by simp; omega
  have p1 : ¬ ((n : Int) - 7 < (a : Int)) := by omega
  by_cases q2 : a % 64 ≤ 57
  case neg =>
    have d2 : decide (57 < (a : Int) % 64) = true := by simp; omega
    have p2 : 57 < (a : Int) % 64 := by omega
    clear hno
    go_enter Tryd.func32, Tryd.ntmps32
    go_wp2
    exact bodyPost_ret (results_tmp4 rfl _ _ _) rfl ⟨Below.refl _ _, rfl⟩
  have d2 : decide (57 < (a : Int) % 64) = false := by simp; omega
  have p2 : ¬ (57 < (a : Int) % 64) := by omega
  obtain ⟨b4, o4, x4, hA4, hx4, hx4l, hc4⟩ := h.byte (k := a + 4) (by omega)
  obtain ⟨b5, o5, x5, hA5, hx5, hx5l, hc5⟩ := h.byte (k := a + 5) (by omega)
  obtain ⟨b6, o6, x6, hA6, hx6, hx6l, hc6⟩ := h.byte (k := a + 6) (by omega)
  subst hA4
  obtain ⟨rfl, rfl⟩ : b4 = b5 ∧ o4 = o5 := by simpa using hA5
  obtain ⟨rfl, rfl⟩ : b4 = b6 ∧ o4 = o6 := by simpa using hA6
  clear hA5 hA6
  obtain ⟨N, hN⟩ : ∃ N : Nat, x4 + 256 * x5 = N := ⟨_, rfl⟩
  have exN : (x4 : Int) + 256 * (x5 : Int) = (N : Int) := by omega
  have hNl : N < 65536 := by omega
  have htest := fun g1 g2 g3 g4 g5 => hno _ _ _ (pieceAt_tests (P := P) (a := a) (N := N) g1 hx4 hx5 hx6 hN g2 g3 g4 g5)
  have Htest := Lib.hid htest
  have HNN := Lib.hid hN
  have hc6b := hc6
  clear hno htest hN hx4 hx5 hx6
  go_enter Tryd.func32, Tryd.ntmps32
  go_wp2_with fail
  go_quiet (fail)
  have hbd := below_drewN (Below.refl w.heap.size w) nq
  have hc6d : (w.drewN nq).cell? ⟨b4, o4 + (a + 6), none⟩ = some (.int .u8 (x6 : Int)) := hc6
  have hsz : (w.drewN nq).heap.size = w.heap.size := rfl
  have hd := h.below (by omega) hbd
  generalize w.drewN nq = wd at *
  by_cases q3 : a % 64 + 7 + N ≤ 64
  case neg =>
    have d3 : decide (64 < (a : Int) % 64 + 7 + (N : Int)) = true := by simp; omega
    have p3 : 64 < (a : Int) % 64 + 7 + (N : Int) := by omega
    go_wp2
    exact bodyPost_ret (results_tmp4 rfl _ _ _) rfl ⟨hbd, rfl⟩
  have d3 : decide (64 < (a : Int) % 64 + 7 + (N : Int)) = false := by simp; omega
  have p3 : ¬ (64 < (a : Int) % 64 + 7 + (N : Int)) := by omega
  by_cases q4 : a + 7 + N ≤ n
  case neg =>
    have d4 : decide ((n : Int) < (a : Int) + 7 + (N : Int)) = true := by simp; omega
    have p4 : (n : Int) < (a : Int) + 7 + (N : Int) := by omega
    go_wp2
    exact bodyPost_ret (results_tmp4 rfl _ _ _) rfl ⟨hbd, rfl⟩
  have d4 : decide ((n : Int) < (a : Int) + 7 + (N : Int)) = false := by simp; omega
  have p4 : ¬ ((n : Int) < (a : Int) + 7 + (N : Int)) := by omega
  by_cases q5 : 1 ≤ x6
  case neg =>
    have d5 : decide ((x6 : Int) < 1) = true := by simp; omega
    go_wp2
    exact bodyPost_ret (results_tmp4 rfl _ _ _) rfl ⟨hbd, rfl⟩
  have d5 : decide ((x6 : Int) < 1) = false := by simp; omega
  by_cases q6 : x6 ≤ 4
  case neg =>
    have d6 : decide (4 < (x6 : Int)) = true := by simp; omega
    go_wp2
    exact bodyPost_ret (results_tmp4 rfl _ _ _) rfl ⟨hbd, rfl⟩
  have d6 : decide (4 < (x6 : Int)) = false := by simp; omega
  obtain ⟨As, rs, ss, -⟩ := cutLH hd .i64 .i64 ((a : Int) + 6) ((a : Int) + 7 + (N : Int)) (a + 6) (a + 7 + N) (by omega) (by omega) (by omega) (by omega)
  obtain ⟨Ah, rh, sh, -⟩ := cutLH hd .i64 .i64 (a : Int) ((a : Int) + 4) a (a + 4) (by omega) (by omega) (by omega) (by omega)
  have es : a + 7 + N - (a + 6) = N + 1 := by omega
  have eh : a + 4 - a = 4 := by omega
  rw [es] at ss
  rw [eh] at sh
  simp only [es] at rs
  simp only [eh] at rh
  have hne := fun e => Htest.out (by omega) q5 q6 q3 e
  obtain ⟨sm, hsm⟩ : ∃ sm, sumL ((P.drop (a + 6)).take (N + 1)) = sm := ⟨_, rfl⟩
  have hsml : sm < 4294967296 := by rw [← hsm]; exact sumL_lt _
  have hrm := fun w' => rmask_any w' sm hsml
  obtain ⟨mk, hmk⟩ : ∃ mk, maskL sm = mk := ⟨_, rfl⟩
  have hmkl : mk < 4294967296 := by rw [← hmk]; exact maskL_lt _
  rw [hsm, hmk] at hne
  rw [hmk] at hrm
  have hbf : ((P.drop a).take 4 == le4 mk) = false := by rw [beq_eq_false_iff_ne]; exact hne
  have Hbf := Lib.hid hbf
  have Hrm := Lib.hid hrm
  have Hsm := Lib.hid hsm
  obtain ⟨cs, hcs⟩ : ∃ cs, c - (a + 6) = cs := ⟨_, rfl⟩
  obtain ⟨ch, hch⟩ : ∃ ch, c - a = ch := ⟨_, rfl⟩
  rw [hcs] at ss
  rw [hch] at sh
  simp only [hcs] at rs
  simp only [hch] at rh
  clear es eh hcs hch hsm hmk hrm hne hbf Htest hl HNN
  go_wp2_with fail
  refine (rsum_any wd As (N + 1) cs _ ss (by omega)).mono ?_
  rw [Hsm.out]
  rintro e w1 ⟨rfl, hb1⟩
  go_wp2_with fail
  refine (Hrm.out _).mono ?_
  rintro e w' ⟨rfl, rfl⟩
  have hbw1 := hbd.trans (hb1.mono hbd.size)
  have sh1 := sh.below (by omega) hb1
  go_wp2_with fail
  refine (same_any _ Ah 4 ch _ _ 4 4 (le4 mk) (sh1.below (by omega) ((Below.refl _ _).alloc (Nat.le_refl _) _)) (Sl.lit _ _ _ 4 _ _ rfl (by unfold maxLen; omega) ?_)).mono ?_
  · simp [bc, le4] <;> omega
  rw [Hbf.out]
  rintro e w2 ⟨rfl, hw2⟩
  have hbw2 : Below w.heap.size w w2 := hw2 ▸ hbw1.alloc hbw1.size _
  clear hw2
  go_wp2
  exact bodyPost_ret (results_tmp4 rfl _ _ _) rfl ⟨hbw2, rfl⟩
/-- any bytes, any place -/
theorem rpiece_at (w : World) (a : Nat) (A : Option Addr) (n c : Nat) (P : List UInt8) (h : Sl w 1 A n c (bc P)) (hn : n ≤ 1000000) (ha : a ≤ 2000000) :
    Calls Tryd.prog 32 #[.slice A n c, .int .i64 (a : Int)] w (PieceB w P a) := by
  by_cases hp : ∃ k b z, PieceAt P a k b z
  · obtain ⟨k, b, z, hp⟩ := hp
    refine (rpiece_good w a A n c P k z b h hp hn).mono ?_
    rintro e w' ⟨A', n', c', rfl, ho, hb⟩
    exact ⟨hb, .inl ⟨k, b, z, A', n', c', hp, rfl, ho⟩⟩
  · refine (rpiece_none w a A n c P h (fun k b z g => hp ⟨k, b, z, g⟩) hn ha).mono ?_
    rintro e w' ⟨hb, rfl⟩
    exact PieceB.no hb (fun k b z g => hp ⟨k, b, z, g⟩)
end Go.Proofs.YtpjinmiedanebaaDoor
