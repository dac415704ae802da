/-
  batch.Read: the batch of bytes. (Printed by genbatchreadx.py.) No condition but a size.
-/
import Derived.Test.YtfonincdhjkacaaBatchReadP
import Derived.Test.YtfonincdhjkacaaGBat
namespace Go.Proofs.Ytfonincdhjkacaa
open Go.RowKit
set_option maxRecDepth 20000
set_option maxHeartbeats 8000000 in
theorem bread_new (w : World) (A : Option Addr) (n c : Nat) (p : List UInt8) (h : Sl w 1 A n c (bc p)) (hn : n ≤ 1000000) :
    Calls Try.prog 46 #[.slice A n c] w (GotOpsN w (readOpsL p)) := by
  have ha := take_any w A n c p h (by omega)
  have hlen1 := takeL_len p
  have hl := h.lenb
  obtain ⟨r, hr⟩ : ∃ r, readOpsL p = r := ⟨_, rfl⟩
  rw [hr]
  unfold readOpsL at hr
  unfold TookB at ha
  obtain ⟨a, hA⟩ : ∃ a, takeL p = a := ⟨_, rfl⟩
  rw [hA] at ha hr hlen1
  obtain ⟨N, p1, e1⟩ := a
  simp only at ha hr hlen1
  have hp1 : p1.length ≤ 1000000 := by omega
  have Ha := Lib.hid ha
  clear ha hA hlen1 hl h hn
  by_cases hc : e1 = 0 ∧ N ≤ 64
  case neg =>
    rw [if_neg hc] at hr
    subst hr
    by_cases h0 : e1 = 0
    · have h64 : 64 < N := by omega
      have t1 : ((e1 : Int) == 0) = true := by rw [beq_iff_eq]; omega
      have t2 : ((e1 : Int) != 0) = false := by rw [bne_eq_false_iff_eq]; omega
      have t3 : decide ((64 : Int) < (N : Int)) = true := decide_eq_true (by omega)
      clear hc h0
      go_enter Try.func46, Try.ntmps46
      go_wp2_with fail
      refine Ha.out.mono ?_
      rintro e w1 ⟨A1, n1, c1, rfl, ho1, hb1⟩
      go_wp2
      go_ret2
      exact ⟨none, 0, 0, rfl, SlR.nilnil _ _, hb1⟩
    · have t1 : ((e1 : Int) == 0) = false := by rw [beq_eq_false_iff_ne]; omega
      have t2 : ((e1 : Int) != 0) = true := by rw [bne_iff_ne]; omega
      clear hc h0
      go_enter Try.func46, Try.ntmps46
      go_wp2_with fail
      refine Ha.out.mono ?_
      rintro e w1 ⟨A1, n1, c1, rfl, ho1, hb1⟩
      go_wp2
      go_ret2
      exact ⟨none, 0, 0, rfl, SlR.nilnil _ _, hb1⟩
  rw [if_pos hc] at hr
  obtain ⟨rfl, hN⟩ := hc
  have t3 : decide ((64 : Int) < (N : Int)) = false := decide_eq_false (by omega)
  have Hr := Lib.hid hr
  have Hp1 := Lib.hid hp1
  clear hr hp1
  go_enter Try.func46, Try.ntmps46
  go_wp2_with fail
  refine Ha.out.mono ?_
  rintro e w1 ⟨A1, n1, c1, rfl, ho1, hb1⟩
  have s1 := ho1.sl
  clear ho1
  go_wp2
  clear t3
  go_loopw [0, 6, 23] (fun p0 s q wr => ∃ j : Nat, j ≤ N ∧ q = .int .u64 j ∧ Below w.heap.size w wr ∧ ∃ A2 n2 c2 outs A3 n3 c3 rest, s = .slice A2 n2 c2 ∧ OwnZ wr w.heap.size 47 A2 n2 c2 outs ∧ outs.length = j ∧ p0 = .slice A3 n3 c3 ∧ Sl wr 1 A3 n3 c3 (bc rest) ∧ rest.length ≤ 1000000 ∧ Hid (readNL 3 64 N p1 = contN outs (readNL 3 64 (N - j) rest))) (fun _ _ q _ => N - (intOf q).toNat)
  case atStart => exact ⟨0, Nat.zero_le _, rfl, hb1, none, 0, 0, [], A1, n1, c1, p1, rfl, OwnZ.nil _ _ _ _, rfl, rfl, s1, Hp1.out, Lib.hid (by rw [contN_nil]; rfl)⟩
  case round =>
    clear s1 hb1
    obtain ⟨j, hj, rfl, hbr, A2, n2, c2, outs, A3, n3, c3, rest, rfl, ho2, hol, rfl, s3, hrl, Hrd⟩ := hrel
    have hn2 := ho2.lenR
    by_cases hlt : j < N
    · have hn3 := s3.lenb
      have cr := read_any wr A3 n3 c3 rest s3 (by omega)
      have hst := readN_step 3 64 (N - (j + 1)) rest
      rw [show N - (j + 1) + 1 = N - j by omega] at hst
      have hrd := Hrd.out
      rw [hst] at hrd
      have hrr := raw_len 64 rest
      unfold GotRaw at cr
      obtain ⟨x, hx⟩ : ∃ x, rawOpL 64 rest = x := ⟨_, rfl⟩
      rw [hx] at cr hrd hrr
      obtain ⟨x, rest'⟩ := x
      simp only at cr hrd hrr
      have hlt2 := ho2.lt
      have cw : ∀ (w : World), GoX w x := fun w A3 n3 c3 A4 n4 c4 q s3 s4 h3 h4 => opRow w q x A3 n3 c3 A4 n4 c4 s3 s4 h3 h4
      unfold GoX at cw
      generalize hd : x.kind.toNat = d at *
      generalize hok : okOpL 3 64 rest = ok at *
      have Cr := Lib.hid cr
      have Cw := Lib.hid cw
      have Hrd2 := Lib.hid hrd
      have Hrr := Lib.hid hrr
      have Hn2 : Hid (n2 ≤ 64) := by unfold Hid; omega
      have Hrl : Hid (rest'.length ≤ 1000000) := by unfold Hid; omega
      clear cr cw hrd hrr hst hx hd hok s3 hn3 hrl hn2
      go_wp2_with fail
      refine Cr.out.mono ?_
      rintro e w4 ⟨A4, n4, c4, A5, n5, c5, A6, n6, c6, rfl, s4, s5, s6, hN4, hN5, hN6, hb4⟩
      have q4 := hbr.trans (hb4.mono hbr.size)
      have ho2 := ho2.below hb4
      have al := (Below.refl w4.heap.size w4).alloc (Nat.le_refl _) (.cells #[.int .u8 (d : Int), .slice A4 n4 c4, .slice A5 n5 c5] 47)
      have kB := Bx.fresh w4 (.int .u8 (d : Int)) (.slice A4 n4 c4) (.slice A5 n5 c5) 47
      have s4 := s4.below (by omega) al
      have s5 := s5.below (by omega) al
      have s6 := s6.below (by omega) al
      have ho2 := ho2.below al
      have q5 := q4.trans (al.mono q4.size)
      clear al hb4
      cases ok
      · have er : r = none := by
          have h1 := Hrd2.out
          have h2 := Hr.out
          rw [if_neg (by simp)] at h1
          rw [h1] at h2
          exact h2.symm
        subst er
        go_wp2
        go_ret2
        exact ⟨none, 0, 0, rfl, SlR.nilnil _ _, q5⟩
      · have hrd := Hrd2.out
        rw [if_pos rfl, contN_cont] at hrd
        have Hrd3 := Lib.hid hrd
        clear hrd
        have z5 : (w4.alloc (.cells #[.int .u8 (d : Int), .slice A4 n4 c4, .slice A5 n5 c5] 47)).heap.size = w4.heap.size + 1 := by simp
        obtain ⟨w5, e5⟩ : ∃ w5, w5 = (w4.alloc (.cells #[.int .u8 (d : Int), .slice A4 n4 c4, .slice A5 n5 c5] 47)) := ⟨_, rfl⟩
        rw [← e5] at s4 s5 s6 ho2 q5 kB z5
        obtain ⟨x0, x1, x2, x3⟩ := id kB
        have hrow := Cw.out w5 A4 n4 c4 A5 n5 c5 (fun b => blk A2 c2 ≠ some b ∧ w.heap.size ≤ b) s4 s5 (fun b hn e => ⟨fun q => by have := hN4 b hn e; have := hlt2 b q; omega, Nat.le_trans hbr.size (hN4 b hn e)⟩) (fun b hn e => ⟨fun q => by have := hN5 b hn e; have := hlt2 b q; omega, Nat.le_trans hbr.size (hN5 b hn e)⟩)
        have al := (Below.refl w5.heap.size w5).alloc (Nat.le_refl _) (.cells #[.int .u8 (d : Int), .slice A4 n4 c4, .slice A5 n5 c5] 47)
        have s6 := s6.below (by omega) al
        have ho2 := ho2.below al
        have q6 := q5.trans (al.mono q5.size)
        rw [z5] at hrow
        clear kB s4 s5 al q5 z5
        subst e5
        go_wp2_with (at_builtin; refine wpList_appZ _ rfl (.tmp 33) (.tmp 35) 24 rfl w.heap.size 47 _ 56 Try.underlying24 infoOp rfl A2 n2 c2 outs rfl ho2 _ 1 1 [x] rfl hrow ?_ ?_ ?_ ?_)
        · have := Hn2.out; unfold maxLen; omega
        · have := Hn2.out; omega
        · exact q6.size
        intro A7 c7 w7 ho7 hg7 _
        have s6 := s6.grown (by omega) hg7 (fun hn b e q => by have := hN6 b hn e; have := hlt2 b q; omega)
        have q7 := q6.grown hg7 q6.size (fun b hb => (hlt2 b hb).1)
        go_wp2
        go_roundw
        case rel => exact ⟨j + 1, by omega, by go_num, q7, A7, _, c7, outs ++ [x], A6, n6, c6, rest', rfl, ho7, by simp [hol], rfl, s6, Hrl.out, Hrd3⟩
        case measure => simp [intOf]; omega
    · obtain rfl : j = N := by omega
      have hn3 := s3.lenb
      have hrd : readNL 3 64 j p1 = some (outs, rest) := by
        rw [Hrd.out, Nat.sub_self]
        simp [readNL, contN]
      have hr2 : (if rest.length = 0 ∧ checkOpsL outs = 0 then some outs else none) = r := by
        have h2 := Hr.out
        rw [hrd] at h2
        exact h2
      rw [hn3] at hr2
      have so := ho2.slB
      have ck := checkops_any wr _ A2 n2 c2 outs so
      generalize hq : checkOpsL outs = q at *
      have Hr2 := Lib.hid hr2
      have Ck := Lib.hid ck
      clear hr2 ck hrd hq hlt s3
      by_cases h3 : n3 = 0
      · subst h3
        by_cases hq0 : q = 0
        · subst hq0
          have er : r = some outs := by rw [← Hr2.out, if_pos ⟨rfl, rfl⟩]
          subst er
          go_wp2_with fail
          refine Ck.out.mono ?_
          rintro e w8 ⟨rfl, hb8⟩
          go_wp2
          go_ret2
          exact ⟨A2, n2, c2, rfl, (so.below hb8), hbr.trans (hb8.mono hbr.size)⟩
        · have er : r = none := by rw [← Hr2.out, if_neg (fun h => hq0 h.2)]
          subst er
          have t1 : ((q : Int) == 0) = false := by rw [beq_eq_false_iff_ne]; omega
          have t2 : ((q : Int) != 0) = true := by rw [bne_iff_ne]; omega
          clear hq0
          go_wp2_with fail
          refine Ck.out.mono ?_
          rintro e w8 ⟨rfl, hb8⟩
          go_wp2
          go_ret2
          exact ⟨none, 0, 0, rfl, SlR.nilnil _ _, hbr.trans (hb8.mono hbr.size)⟩
      · have er : r = none := by rw [← Hr2.out, if_neg (fun h => h3 h.1)]
        subst er
        have t1 : decide ((0 : Int) < (n3 : Int)) = true := decide_eq_true (by omega)
        have t2 : 0 < n3 := by omega
        clear h3
        go_wp2
        go_ret2
        exact ⟨none, 0, 0, rfl, SlR.nilnil _ _, hbr⟩
theorem bread_any (w : World) (A : Option Addr) (n c : Nat) (p : List UInt8) (h : Sl w 1 A n c (bc p)) (hn : n ≤ 1000000) :
    Calls Try.prog 46 #[.slice A n c] w (GotOps w (readOpsL p)) := (bread_new w A n c p h hn).mono fun _ _ h => h.got
end Go.Proofs.Ytfonincdhjkacaa
