/-
  The reference's Read of a batch. (Printed by genbatchreadr.py.) No condition but a size.
-/
import Derived.Test.YtpjinmiedanebaaDoorJReelSpoil
import Derived.Test.YtpjinmiedanebaaDoorBatchBytesR
import Derived.Test.YtpjinmiedanebaaDoorJFrame
namespace Go.Proofs.YtpjinmiedanebaaDoor
open Go.RowKit
set_option maxRecDepth 20000
set_option maxHeartbeats 8000000 in
theorem rread_new (w : World) (A : Option Addr) (n c : Nat) (p : List UInt8) (h : Sl w 1 A n c (bc p)) (hn : n ≤ 1000000) :
    Calls Tryd.prog 47 #[.slice A n c] w (GotOpsN w (rreadOpsL p)) := by
  have ha := rtake_any w A n c p h (by omega)
  have hlen1 := takeL_len p
  have hl := h.lenb
  obtain ⟨r, hr⟩ : ∃ r, rreadOpsL p = r := ⟨_, rfl⟩
  rw [hr]
  unfold rreadOpsL at hr
  unfold TookB at ha
  obtain ⟨a, hA⟩ : ∃ a, takeL p = a := ⟨_, rfl⟩
  rw [hA] at ha hr hlen1
  obtain ⟨N, p1, e1⟩ := a
  simp only at ha hr hlen1
  have hp1 : p1.length ≤ 1000000 := by omega
  have Ha := Lib.hid ha
  have Hh := Lib.hid h
  clear ha hA hlen1 hl h hn
  by_cases hc : e1 = 0 ∧ N ≤ 64
  case neg =>
    rw [if_neg hc] at hr
    subst hr
    by_cases h0 : e1 = 0
    · have h64 : 64 < N := by omega
      have t1 : ((e1 : Int) == 0) = true := by rw [beq_iff_eq]; omega
      have t2 : ((e1 : Int) != 0) = false := by rw [bne_eq_false_iff_eq]; omega
      have t3 : decide ((64 : Int) < (N : Int)) = true := decide_eq_true (by omega)
      clear hc h0
      go_enter Tryd.func47, Tryd.ntmps47
      go_wp2_with fail
      refine Ha.out.mono ?_
      rintro e w1 ⟨A1, n1, c1, rfl, ho1, hb1⟩
      go_wp2
      go_ret2
      exact ⟨none, 0, 0, rfl, SlR.nilnil _ _, hb1⟩
    · have t1 : ((e1 : Int) == 0) = false := by rw [beq_eq_false_iff_ne]; omega
      have t2 : ((e1 : Int) != 0) = true := by rw [bne_iff_ne]; omega
      clear hc h0
      go_enter Tryd.func47, Tryd.ntmps47
      go_wp2_with fail
      refine Ha.out.mono ?_
      rintro e w1 ⟨A1, n1, c1, rfl, ho1, hb1⟩
      go_wp2
      go_ret2
      exact ⟨none, 0, 0, rfl, SlR.nilnil _ _, hb1⟩
  rw [if_pos hc] at hr
  obtain ⟨rfl, hN⟩ := hc
  have t3 : decide ((64 : Int) < (N : Int)) = false := decide_eq_false (by omega)
  have Hr := Lib.hid hr
  have Hp1 := Lib.hid hp1
  clear hr hp1
  go_enter Tryd.func47, Tryd.ntmps47
  go_wp2_with fail
  refine Ha.out.mono ?_
  rintro e w1 ⟨A1, n1, c1, rfl, ho1, hb1⟩
  have s1 := ho1.sl
  clear ho1
  go_wp2
  clear t3
  go_loopw [5, 7, 32] (fun p0 s q wr => ∃ j : Nat, j ≤ N ∧ q = .int .u64 j ∧ Below w.heap.size w wr ∧ ∃ A2 n2 c2 outs A3 n3 c3 rest, s = .slice A2 n2 c2 ∧ OwnZ wr w.heap.size 88 A2 n2 c2 outs ∧ outs.length = j ∧ p0 = .slice A3 n3 c3 ∧ Sl wr 1 A3 n3 c3 (bc rest) ∧ rest.length ≤ 1000000 ∧ Hid (readNL 255 512 N p1 = contN outs (readNL 255 512 (N - j) rest))) (fun _ _ q _ => N - (intOf q).toNat)
  case atStart => exact ⟨0, Nat.zero_le _, rfl, hb1, none, 0, 0, [], A1, n1, c1, p1, rfl, OwnZ.nil _ _ _ _, rfl, rfl, s1, Hp1.out, Lib.hid (by rw [contN_nil]; rfl)⟩
  case round =>
    clear s1 hb1
    obtain ⟨j, hj, rfl, hbr, A2, n2, c2, outs, A3, n3, c3, rest, rfl, ho2, hol, rfl, s3, hrl, Hrd⟩ := hrel
    have hn2 := ho2.lenR
    by_cases hlt : j < N
    · have hn3 := s3.lenb
      obtain ⟨a, hA⟩ : ∃ a, takeL rest = a := ⟨_, rfl⟩
      obtain ⟨b, hB⟩ : ∃ b, takeTextL a.2.1 512 = b := ⟨_, rfl⟩
      obtain ⟨e3, hC⟩ : ∃ e3, takeTextL b.2.1 512 = e3 := ⟨_, rfl⟩
      have ha := rtake_any wr A3 n3 c3 rest s3 (by omega)
      have hb2 := fun w' A n c (h : Sl w' 1 A n c (bc a.2.1)) (hn : n ≤ 70368744177664) => rtaketext_new w' A n c a.2.1 h hn 512 (by omega)
      have hc2 := fun w' A n c (h : Sl w' 1 A n c (bc b.2.1)) (hn : n ≤ 70368744177664) => rtaketext_new w' A n c b.2.1 h hn 512 (by omega)
      have hlen1 := takeL_len rest
      have hraw : rawOpL 512 rest = (⟨UInt8.ofNat a.1, b.1, e3.1⟩, e3.2.1) := by
        unfold rawOpL
        simp only [hA]
        rw [show (((512 : Nat) : Int)) = 512 from rfl, hB, hC]
      have hok : okOpL 255 512 rest = (decide (a.2.2 = 0) && decide (b.2.2 = 0) && decide (e3.2.2 = 0) && decide (a.1 ≤ 255)) := by
        unfold okOpL
        simp only [hA]
        rw [show (((512 : Nat) : Int)) = 512 from rfl, hB, hC]
      have hlb : b.2.1.length ≤ 1000000 := by
        rw [← hB]
        have h1 := takeText_len a.2.1 512
        rw [hA] at hlen1
        omega
      have hrr := raw_len 512 rest
      have hst := readN_step 255 512 (N - (j + 1)) rest
      rw [show N - (j + 1) + 1 = N - j by omega, hraw, hok] at hst
      have hrd := Hrd.out
      rw [hst] at hrd
      rw [hraw] at hrr
      rw [hA] at ha hlen1
      rw [hB] at hb2
      rw [hC] at hc2
      have hla : a.2.1.length ≤ 1000000 := by omega
      clear hraw hok hA hB hC hlen1 hst
      obtain ⟨ka, ra, ea⟩ := a
      obtain ⟨tb, rb, eb⟩ := b
      obtain ⟨tc, rc, ec⟩ := e3
      simp only at *
      unfold TookB at ha
      unfold TookN at hb2 hc2
      simp only at ha hb2 hc2
      have hk8 : ((UInt8.ofNat ka).toNat : Int) = (ka : Int) % 256 := by simp
      have hlt2 := ho2.lt
      have cw := fun w A3 n3 c3 A4 n4 c4 q s3 s4 h3 h4 => opRow w q ⟨UInt8.ofNat ka, tb, tc⟩ A3 n3 c3 A4 n4 c4 s3 s4 h3 h4
      simp only [hk8] at cw
      have Ha2 := Lib.hid ha
      have Hb := Lib.hid hb2
      have Hc := Lib.hid hc2
      have Hla := Lib.hid hla
      have Hlb := Lib.hid hlb
      have Cw := Lib.hid cw
      have Hn2 : Hid (n2 ≤ 64) := by unfold Hid; omega
      have Hrl : Hid (rc.length ≤ 1000000) := by unfold Hid; omega
      obtain ⟨x1, h1⟩ : ∃ x, decide (ea = 0) = x := ⟨_, rfl⟩
      obtain ⟨x2, h2⟩ : ∃ x, decide (eb = 0) = x := ⟨_, rfl⟩
      obtain ⟨x3, h3⟩ : ∃ x, decide (ec = 0) = x := ⟨_, rfl⟩
      obtain ⟨x4, h4⟩ : ∃ x, decide (ka ≤ 255) = x := ⟨_, rfl⟩
      have i1 : ((ea : Int) != 0) = !x1 := by rw [← h1, ← bne_int]; rfl
      have i2 : ((eb : Int) != 0) = !x2 := by rw [← h2, ← bne_int]; rfl
      have i3 : ((ec : Int) != 0) = !x3 := by rw [← h3, ← bne_int]; rfl
      have i4 : decide ((255 : Int) < (ka : Int)) = !x4 := by rw [← h4, ← decide_not, decide_eq_decide]; omega
      have k1 : ((ea : Int) == 0) = x1 := by rw [← h1, ← bne_int]
      have k2 : ((eb : Int) == 0) = x2 := by rw [← h2, ← bne_int]
      have k3 : ((ec : Int) == 0) = x3 := by rw [← h3, ← bne_int]
      rw [h1, h2, h3, h4] at hrd
      have Hrd2 := Lib.hid hrd
      clear ha hb2 hc2 hla hlb cw h1 h2 h3 h4 hrd hrr s3 hn3 hrl hn2 hk8
      go_wp2_with fail
      refine Ha2.out.mono ?_
      rintro e w2 ⟨A4, n4, c4, rfl, ho4, hb2⟩
      have hn4 := ho4.len'
      have s4 := ho4.sl
      have q2 := hbr.trans (hb2.mono hbr.size)
      have hz2 := hb2.size
      have ho2 := ho2.below hb2
      clear hb2 ho4
      go_wp2_with fail
      refine (Hb.out _ A4 n4 c4 s4 (by have := Hla.out; omega)).mono ?_
      rintro e w3 ⟨A5, n5, c5, A6, n6, c6, rfl, s5, s6, hb3, hN5, hN6⟩
      have hn6 := s6.lenb
      have q3 := q2.trans (hb3.mono q2.size)
      have hz3 := Nat.le_trans hz2 hb3.size
      have ho2 := ho2.below hb3
      clear hb3 s4 hn4
      go_wp2_with fail
      refine (Hc.out _ A6 n6 c6 s6 (by have := Hlb.out; omega)).mono ?_
      rintro e w4 ⟨A7, n7, c7, A8, n8, c8, rfl, s7, s8, hb4, hN7, hN8⟩
      have s5 := s5.below (by omega) hb4
      have q4 := q3.trans (hb4.mono q3.size)
      have ho2 := ho2.below hb4
      clear hb4 s6 hn6
      have hN5 : ∀ b, 0 < n5 → A5.map (·.block) = some b → blk A2 c2 ≠ some b ∧ w.heap.size ≤ b := fun b hn e => ⟨fun q => by have := hN5 b hn e; have := hlt2 b q; omega, by have := hN5 b hn e; have := hbr.size; omega⟩
      have hN7 : ∀ b, 0 < n7 → A7.map (·.block) = some b → blk A2 c2 ≠ some b ∧ w.heap.size ≤ b := fun b hn e => ⟨fun q => by have := hN7 b hn e; have := hlt2 b q; omega, by have := hN7 b hn e; have := hbr.size; omega⟩
      have hN8 : ∀ b, 0 < n8 → A8.map (·.block) = some b → blk A2 c2 ≠ some b := fun b hn e q => by have := hN8 b hn e; have := hlt2 b q; omega
      have HN5 := Lib.hid hN5
      have HN7 := Lib.hid hN7
      have HN8 := Lib.hid hN8
      have Hlt2 := Lib.hid hlt2
      clear hN5 hN6 hN7 hN8 hlt2
      cases x1
      · try simp only [Bool.not_false, Bool.not_true] at i1
        have er : r = none := by
          have h1 := Hrd2.out
          have h2 := Hr.out
          rw [if_neg (by simp)] at h1
          rw [h1] at h2
          exact h2.symm
        subst er
        go_wp2
        go_ret2
        exact ⟨none, 0, 0, rfl, SlR.nilnil _ _, q4⟩
      · try simp only [Bool.not_false, Bool.not_true] at i1
        cases x2
        · try simp only [Bool.not_false, Bool.not_true] at i2
          have er : r = none := by
            have h1 := Hrd2.out
            have h2 := Hr.out
            rw [if_neg (by simp)] at h1
            rw [h1] at h2
            exact h2.symm
          subst er
          go_wp2
          go_ret2
          exact ⟨none, 0, 0, rfl, SlR.nilnil _ _, q4⟩
        · try simp only [Bool.not_false, Bool.not_true] at i2
          cases x3
          · try simp only [Bool.not_false, Bool.not_true] at i3
            have er : r = none := by
              have h1 := Hrd2.out
              have h2 := Hr.out
              rw [if_neg (by simp)] at h1
              rw [h1] at h2
              exact h2.symm
            subst er
            go_wp2
            go_ret2
            exact ⟨none, 0, 0, rfl, SlR.nilnil _ _, q4⟩
          · try simp only [Bool.not_false, Bool.not_true] at i3
            cases x4
            · try simp only [Bool.not_false, Bool.not_true] at i4
              have er : r = none := by
                have h1 := Hrd2.out
                have h2 := Hr.out
                rw [if_neg (by simp)] at h1
                rw [h1] at h2
                exact h2.symm
              subst er
              go_wp2
              go_ret2
              exact ⟨none, 0, 0, rfl, SlR.nilnil _ _, q4⟩
            · try simp only [Bool.not_false, Bool.not_true] at i4
              have hrd := Hrd2.out
              rw [if_pos (by simp), contN_cont] at hrd
              have Hrd3 := Lib.hid hrd
              clear hrd
              have hrow := Cw.out w4 A5 n5 c5 A7 n7 c7 (fun b => blk A2 c2 ≠ some b ∧ w.heap.size ≤ b) s5 s7 HN5.out HN7.out
              have al := (Below.refl w4.heap.size w4).alloc (Nat.le_refl _) (.cells #[.int .u8 ((ka : Int) % 256), .slice A5 n5 c5, .slice A7 n7 c7] 88)
              have s8 := s8.below (by omega) al
              have ho2 := ho2.below al
              have q6 := q4.trans (al.mono q4.size)
              clear s5 s7 al
              go_wp2_with (at_builtin; refine wpList_appZ _ rfl (.tmp 66) (.tmp 72) 39 rfl w.heap.size 88 _ 56 Tryd.underlying39 infoOp rfl A2 n2 c2 outs rfl ho2 _ 1 1 [⟨UInt8.ofNat ka, tb, tc⟩] rfl hrow ?_ ?_ ?_ ?_)
              · have := Hn2.out; unfold maxLen; omega
              · have := Hn2.out; omega
              · exact q6.size
              intro A9 c9 w7 ho7 hg7 _
              have s8 := s8.grown (by omega) hg7 (fun hn b e => HN8.out b hn e)
              have q7 := q6.grown hg7 q6.size (fun b hb => (Hlt2.out b hb).1)
              go_wp2
              go_roundw
              case rel => exact ⟨j + 1, by omega, by go_num, q7, A9, _, c9, outs ++ [⟨UInt8.ofNat ka, tb, tc⟩], A8, n8, c8, rc, rfl, ho7, by simp [hol], rfl, s8, Hrl.out, Hrd3⟩
              case measure => simp [intOf]; omega
    · obtain rfl : j = N := by omega
      have hrd : readNL 255 512 j p1 = some (outs, rest) := by
        rw [Hrd.out, Nat.sub_self]
        simp [readNL, contN]
      have hr2 : (if checkOpsL outs = 0 ∧ opsBytesL outs = p then some outs else none) = r := by
        have h2 := Hr.out
        rw [hrd] at h2
        exact h2
      have so := ho2.slB
      have cb := rbytes_any wr _ A2 n2 c2 outs so
      have sp := Hh.out.below (by omega) hbr
      unfold opsBE at cb
      by_cases hq : checkOpsL outs = 0
      · rw [if_pos hq] at cb
        obtain ⟨z, hz⟩ : ∃ z, (opsBytesL outs == p) = z := ⟨_, rfl⟩
        have cs := fun w' A5 n5 c5 (h5 : Sl w' 1 A5 n5 c5 (bc (opsBytesL outs))) (hb : Below wr.heap.size wr w') => same_is w' A5 n5 c5 _ A n c p z (Lib.hid hz) h5 (sp.below (by omega) hb)
        unfold GotBE at cb
        simp only at cb
        have hrz : (if z = true then some outs else none) = r := by
          rw [← hr2, ← hz]
          by_cases e : opsBytesL outs = p
          · rw [if_pos (by simpa using e), if_pos ⟨hq, e⟩]
          · rw [if_neg (by simpa using e), if_neg (fun h => e h.2)]
        have Cb := Lib.hid cb
        have Cs := Lib.hid cs
        clear cb cs hr2 hrd hz hq hlt s3 sp
        go_wp2_with fail
        refine Cb.out.mono ?_
        rintro e w8 ⟨A5, n5, c5, rfl, ho5, hb8⟩
        have so := so.below hb8
        have s5 := OwnB.sl ho5
        have q8 := hbr.trans (hb8.mono hbr.size)
        go_wp2_with fail
        refine (Cs.out _ A5 n5 c5 s5 hb8).mono ?_
        rintro e w' ⟨rfl, rfl⟩
        cases z
        · simp only [Bool.false_eq_true, if_false] at hrz
          subst hrz
          go_wp2
          go_ret2
          exact ⟨none, 0, 0, rfl, SlR.nilnil _ _, q8⟩
        · simp only [if_true] at hrz
          subst hrz
          go_wp2
          go_ret2
          exact ⟨A2, n2, c2, rfl, so, q8⟩
      · rw [if_neg hq] at cb
        have er : r = none := by rw [← hr2, if_neg (fun h => hq h.1)]
        subst er
        unfold GotBE at cb
        simp only at cb
        generalize checkOpsL outs = q at *
        have t1 : ((q : Int) == 0) = false := by rw [beq_eq_false_iff_ne]; omega
        have t2 : ((q : Int) != 0) = true := by rw [bne_iff_ne]; omega
        have Cb := Lib.hid cb
        clear cb hr2 hrd hq hlt s3 sp
        go_wp2_with fail
        refine Cb.out.mono ?_
        rintro e w8 ⟨A5, n5, c5, rfl, ho5, hb8⟩
        go_wp2
        go_ret2
        exact ⟨none, 0, 0, rfl, SlR.nilnil _ _, hbr.trans (hb8.mono hbr.size)⟩
theorem rread_any (w : World) (A : Option Addr) (n c : Nat) (p : List UInt8) (h : Sl w 1 A n c (bc p)) (hn : n ≤ 1000000) :
    Calls Tryd.prog 47 #[.slice A n c] w (GotOps w (rreadOpsL p)) := (rread_new w A n c p h hn).mono fun _ _ h => h.got
end Go.Proofs.YtpjinmiedanebaaDoor
