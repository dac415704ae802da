/-
  TabNil, TabRight, TabLaws5 in one text. No condition but sizes.
-/
import Derived.Test.YtpffieogkfndaaaGreatDoorJLeafFrom
import Derived.Test.YtpffieogkfndaaaGreatDoorJTabAwake
import Derived.Test.YtpffieogkfndaaaGreatDoorJSpanFew
import Derived.Test.YtpffieogkfndaaaGreatDoorSpanSame
import Derived.Test.YtpffieogkfndaaaGreatDoorJSpanCheck
import Derived.Test.YtpffieogkfndaaaGreatDoorJTabVersionW
import Derived.Test.YtpffieogkfndaaaGreatDoorJTabBounds
import Derived.Test.YtpffieogkfndaaaGreatDoorTabLastW
import Derived.Test.YtpffieogkfndaaaGreatDoorTabRBoundsW
import Derived.Test.YtpffieogkfndaaaGreatDoorJTabOpenW
namespace Go.Proofs.YtpffieogkfndaaaGreatDoor
open Go.RowKit
set_option maxRecDepth 20000
set_option linter.unusedVariables false
set_option linter.unusedSimpArgs false
set_option maxHeartbeats 4000000 in
theorem nilget_any (w : World) (KA : Option Addr) (k ck : Nat) (q : Int) :
    Calls Tryz.prog 21 #[.pointer none, .slice KA k ck, .int .u64 q] w fun e w' => e = .returned (.tuple #[.slice none 0 0, .int .u64 0, .int .i64 0]) ∧ w = w' := by
  go_enter Tryz.func21, Tryz.ntmps21
  go_wp2
  refine bodyPost_ret (v := .tuple #[.slice none 0 0, .int .u64 0, .int .i64 0]) (by simp [results, Tryz.results21, go_sem]) rfl ?_
  exact ⟨rfl, rfl⟩
set_option maxHeartbeats 4000000 in
theorem nilents_any (w : World) :
    Calls Tryz.prog 26 #[.pointer none] w fun e w' => e = .returned (.slice none 0 0) ∧ w = w' := by
  go_enter Tryz.func26, Tryz.ntmps26
  go_wp2
  go_ret
  exact ⟨rfl, rfl⟩
set_option maxHeartbeats 4000000 in
theorem nilspans_any (w : World) :
    Calls Tryz.prog 27 #[.pointer none] w fun e w' => e = .returned (.slice none 0 0) ∧ w = w' := by
  go_enter Tryz.func27, Tryz.ntmps27
  go_wp2
  go_ret
  exact ⟨rfl, rfl⟩
set_option maxHeartbeats 4000000 in
theorem nilleaves_any (w : World) :
    Calls Tryz.prog 28 #[.pointer none] w fun e w' => e = .returned (.int .i64 0) ∧ w = w' := by
  go_enter Tryz.func28, Tryz.ntmps28
  go_wp2
  go_ret
  exact ⟨rfl, rfl⟩
set_option maxHeartbeats 4000000 in
theorem nilmay_any (w : World) (K : Option Addr) (k ck : Nat) :
    Calls Tryz.prog 29 #[.pointer none, .slice K k ck] w fun e w' => e = .returned (.bool true) ∧ w = w' := by
  go_enter Tryz.func29, Tryz.ntmps29
  go_wp2
  go_ret
  exact ⟨rfl, rfl⟩
set_option maxHeartbeats 4000000 in
theorem nilbounds_any (w : World) :
    Calls Tryz.prog 20 #[.pointer none] w fun e w' => e = .returned (.tuple #[.slice none 0 0, .slice none 0 0]) ∧ w = w' := by
  have K1 := Lib.hid (nilents_any w)
  have K2 := Lib.hid (nilspans_any w)
  go_enter Tryz.func20, Tryz.ntmps20
  go_wp2_with fail
  refine K1.out.mono ?_
  rintro e w1 ⟨rfl, rfl⟩
  go_wp2_with fail
  refine K2.out.mono ?_
  rintro e w2 ⟨rfl, rfl⟩
  clear K1 K2
  go_wp2
  go_loopw [4, 5, 31] (fun fv tv iv wr => fv = .slice none 0 0 ∧ tv = .slice none 0 0 ∧ iv = .int .i64 0 ∧ w = wr) (fun _ _ iv _ => 0)
  case atStart => exact ⟨rfl, rfl, rfl, rfl⟩
  case round =>
    obtain ⟨rfl, rfl, rfl, rfl⟩ := hrel
    go_wp2
    go_ret2
    exact ⟨rfl, rfl⟩
set_option maxHeartbeats 4000000 in
theorem nillast_any (w : World) :
    Calls Tryz.prog 30 #[.pointer none] w fun e w' => e = .returned (.int .u64 0) ∧ w = w' := by
  have K1 := Lib.hid (nilents_any w)
  have K2 := Lib.hid (nilspans_any w)
  go_enter Tryz.func30, Tryz.ntmps30
  go_wp2_with fail
  refine K1.out.mono ?_
  rintro e w1 ⟨rfl, rfl⟩
  clear K1
  go_wp2
  go_loopw [3, 11] (fun bv iv wr => bv = .int .u64 0 ∧ iv = .int .i64 0 ∧ w = wr) (fun _ iv _ => 0)
  case atStart => exact ⟨rfl, rfl, rfl⟩
  case round =>
    obtain ⟨rfl, rfl, rfl⟩ := hrel
    go_wp2_with fail
    refine K2.out.mono ?_
    rintro e w2 ⟨rfl, rfl⟩
    clear K2
    go_wp2
    go_loopw [3, 24] (fun bv iv wr => bv = .int .u64 0 ∧ iv = .int .i64 0 ∧ w = wr) (fun _ iv _ => 0)
    case atStart => exact ⟨rfl, rfl, rfl⟩
    case round =>
      obtain ⟨rfl, rfl, rfl⟩ := hrel
      go_wp2
      go_ret
      exact ⟨rfl, rfl⟩
end Go.Proofs.YtpffieogkfndaaaGreatDoor

namespace Go.Proofs.YtpffieogkfndaaaGreatDoor
open Go.RowKit
set_option maxRecDepth 20000
set_option linter.unusedVariables false
set_option linter.unusedSimpArgs false
theorem sents_is13 (w : World) (p : Nat → Prop) (A : Option Addr) (n c : Nat) (ls : List EntL) (h : SlR w p A n c ls) (p' : Nat → Prop) (A' : Option Addr) (n' c' : Nat) (h' : SlR w p' A' n' c' ls) :
    Calls Tryz.prog 16 #[.slice A n c, .slice A' n' c'] w fun e w' => e = .returned (.bool true) ∧ Below w.heap.size w w' := by
  have := sents_any w p A n c ls h p' A' n' c' ls h'
  simpa using this
theorem sspans_is (w : World) (p : Nat → Prop) (A : Option Addr) (n c : Nat) (ls : List SpanL) (h : SlR w p A n c ls) (p' : Nat → Prop) (A' : Option Addr) (n' c' : Nat) (h' : SlR w p' A' n' c' ls) :
    Calls Tryz.prog 17 #[.slice A n c, .slice A' n' c'] w fun e w' => e = .returned (.bool true) ∧ Below w.heap.size w w' := by
  have := rsamespans_any w p A n c ls h p' A' n' c' ls h'
  simpa using this
end Go.Proofs.YtpffieogkfndaaaGreatDoor

namespace Go.Proofs.YtpffieogkfndaaaGreatDoor
open Go.RowKit
set_option maxRecDepth 20000
set_option linter.unusedVariables false
set_option linter.unusedSimpArgs false
theorem TabIs.setLow {w : World} {B g : Nat} {l : List EntL} {sp : List SpanL} (h : TabIs w B g l sp) {b0 : Nat} (hb : b0 < B) (i : Nat) (v : Value) : TabIs (w.setCell ⟨b0, i, none⟩ v) B g l sp := by
  obtain ⟨A, n, c, Ap, np, cp, Af, nf, cf, g2, b1, b2, ⟨c0, c1, c2, c3⟩, s, r, f, t, u, v'⟩ := h
  have G := only_set (World.grownBy.refl w (some b0)) i v
  exact ⟨A, n, c, Ap, np, cp, Af, nf, cf, g2, b1, b2, ⟨set_other c0 v (.inl (by omega)), set_other c1 v (.inl (by omega)), set_other c2 v (.inl (by omega)), set_other c3 v (.inl (by omega))⟩, s.grown (by omega) G (fun hn b q e => by have := u b hn q; have := Option.some.inj e; omega), r.setLow hb i v, f.grown (by omega) G (fun hn b q e => by have := v' b hn q; have := Option.some.inj e; omega), t.setLow (by omega) i v, u, v'⟩
theorem RTabIs.setLow {w : World} {B g : Nat} {l : List EntL} {sp : List SpanL} (h : RTabIs w B g l sp) {b0 : Nat} (hb : b0 < B) (i : Nat) (v : Value) : RTabIs (w.setCell ⟨b0, i, none⟩ v) B g l sp := by
  obtain ⟨b1, A1, n1, c1, A2, n2, c2, k0, k1, r1, r2⟩ := h
  exact ⟨b1, A1, n1, c1, A2, n2, c2, set_other k0 v (.inl (by omega)), set_other k1 v (.inl (by omega)), r1.setLow hb i v, r2.setLow hb i v⟩
theorem RTabIs.below {w w' : World} {B g : Nat} {l : List EntL} {sp : List SpanL} (h : RTabIs w B g l sp) (hb : Below w.heap.size w w') : RTabIs w' B g l sp := by
  obtain ⟨b1, A1, n1, c1, A2, n2, c2, k0, k1, r1, r2⟩ := h
  exact ⟨b1, A1, n1, c1, A2, n2, c2, stays hb k0, stays hb k1, r1.below hb, r2.below hb⟩
/-- what the document's Open gives: XTabOpenRW.rtopen_any says so -/
def ROpens : Prop := ∀ (w : World) (A : Option Addr) (n c : Nat) (p : List UInt8), Sl w 1 A n c (bc p) → n ≤ 65536 → Calls Tryz.prog 25 #[.slice A n c] w (GotRTab w p)
set_option maxHeartbeats 16000000 in
theorem tableOpens.walk_of (hro : ROpens) (w : World) (A : Option Addr) (n c : Nat) (p : List UInt8) (h : Sl w 1 A n c (bc p)) (hq : Quarter w) :
    Calls Tryz.prog 6 #[.slice A n c] w fun e w' => e = .returned (.bool true) ∧ Below w.heap.size w w' := by
  have HQ := Lib.hid hq
  have HRO := Lib.hid hro
  clear hro
  have q := Below.refl w.heap.size w
  clear hq
  go_enter Tryz.func6, Tryz.ntmps6
  go_wp2_with fail
  refine (awake13 w HQ.out).mono ?_
  rintro e w_1 ⟨rfl, hb_1⟩
  have h := h.below (by omega) hb_1
  have q := q.trans (hb_1.mono q.size)
  clear hb_1
  go_wp2_with fail
  refine (cut_any _ A n c p 2000 h (by omega)).mono ?_
  rintro e w_2 ⟨A1, n1, c1, rfl, ho1, hb_2⟩
  have h := h.below (by omega) hb_2
  have q := q.trans (hb_2.mono q.size)
  clear hb_2
  have ht : (p.take 2000).length ≤ 2000 := by simp; omega
  generalize p.take 2000 = t at *
  obtain rfl := ho1.len'
  have s1 := ho1.sl
  clear ho1 h
  go_wp2_with fail
  refine (copy_any _ A1 _ c1 t s1 (by omega)).mono ?_
  rintro e w_3 ⟨A4, n4, c4, rfl, ho4, hb4⟩
  have hn4 := ho4.len'
  subst hn4
  have hlit : Sl (w_3.alloc (.cells #[.int .u8 165] 5)) 1 (some ⟨w_3.heap.size, 0, none⟩) 1 1 (bc [165]) := Sl.lit w_3 _ _ 1 _ _ rfl (by unfold maxLen; omega) rfl
  have hba := (Below.refl w_3.heap.size w_3).alloc (Nat.le_refl _) (.cells #[.int .u8 165] 5)
  have ho4' := Own.below ho4 hba
  go_wp2_with (at_builtin; refine wpList_appB _ rfl (.tmp 23) (.tmp 24) rfl w_2.heap.size A4 _ c4 t rfl ho4' _ 1 1 [165] rfl hlit ?_ ?_ ?_)
  · omega
  · have := hb4.size; simp; omega
  intro A5 c5 w5 ho5 hg5 _
  have hb35 : Below w_2.heap.size w_2 w5 := by
    refine (hb4.trans (hba.mono hb4.size)).grown hg5 ?_ ?_
    · have := hb4.size; simp; omega
    · intro k hk
      exact (Own.lt ho4 k hk).1
  have hql := q.size
  have q := q.trans (hb35.mono q.size)
  have s1 := s1.below (by omega) hb35
  have hc5 := ho5.sl.cap
  have r1 := fun w => cutC (A := A5) (n := t.length + 1) (c := c5) .i64 (t.length : Int) t.length rfl (by omega) w
  have hs5 := (cutH ho5.sl .i64 t.length t.length rfl (by omega)).2
  rw [List.take_left] at hs5
  have s5 := ho5.sl
  have hbl : ∀ b, A5.map (·.block) = some b → b < w5.heap.size := fun b q => ho5.sl.lt (by omega) (by omega) b q
  have HBL := Lib.hid hbl
  clear hbl
  clear hg5 hlit hba ho4' ho4 hb35 hb4
  have KT := Lib.hid (fun (w' : World) (h : Sl w' 1 A5 t.length c5 (bc t)) hq => topen_any w' A5 t.length c5 t h hq (by omega))
  have KR := Lib.hid (fun (w' : World) (h : Sl w' 1 A1 t.length c1 (bc t)) => HRO.out w' A1 t.length c1 t h (by omega))
  have r2 := fun w => cutC (A := A5) (n := t.length) (c := c5) .i64 ((t.length : Int) + 1) (t.length + 1) (by omega) (by omega) w
  have hqw5 := q.size
  go_wp2_with fail
  refine (KT.out w5 hs5 (HQ.out.below q)).mono ?_
  rintro e w6 ⟨hb6, HT⟩
  have ho5 := Own.below ho5 hb6
  have q := q.trans (hb6.mono q.size)
  have s1 := s1.below (by omega) hb6
  have hs5 := hs5.below (by omega) hb6
  have s5 := s5.below (by omega) hb6
  have hz56 := hb6.size
  clear hb6 KT
  rcases HT with ⟨g, l2, sp2, hc, hp, rfl, hT⟩ | ⟨hno, rfl⟩
  case inr =>
    have Hno := Lib.hid hno
    clear hno
    go_wp2_with fail
    refine (KR.out w6 s1).mono ?_
    rintro e w7 ⟨hb7, ⟨g, l, sp, hc, hp, rfl, hT⟩ | ⟨_, rfl⟩⟩
    case inl => exact absurd hp (Hno.out l sp hc)
    have q := q.trans (hb7.mono q.size)
    have s1 := s1.below (by omega) hb7
    have hs5 := hs5.below (by omega) hb7
    have s5 := s5.below (by omega) hb7
    clear hb7 KR Hno ho5
    go_wp2_with fail
    refine (same_is w7 _ _ c5 _ A1 _ c1 _ true (by unfold Hid; simp) hs5 s1).mono ?_
    rintro e w' ⟨rfl, rfl⟩
    obtain ⟨b3, o3, z3, hA3, hx3, _, hcell⟩ := s5.byte (k := t.length) (by simp)
    have hx : z3 = 165 := by rw [← hx3]; simp
    subst hx
    clear hx3 s5
    subst hA3
    have K1 := Lib.hid (fun w => nilents_any w)
    have K2 := Lib.hid (fun w => nilspans_any w)
    go_wp2_with fail
    refine (nilget_any _ A1 _ c1 5).mono ?_
    rintro e w' ⟨rfl, rfl⟩
    go_wp2_with fail
    refine (nilbounds_any _).mono ?_
    rintro e w' ⟨rfl, rfl⟩
    go_wp2_with fail
    refine (K1.out _).mono ?_
    rintro e w' ⟨rfl, rfl⟩
    go_wp2_with fail
    refine (K2.out _).mono ?_
    rintro e w' ⟨rfl, rfl⟩
    go_wp2_with fail
    refine (nilleaves_any _).mono ?_
    rintro e w' ⟨rfl, rfl⟩
    go_wp2_with fail
    refine (nilmay_any _ A1 _ c1).mono ?_
    rintro e w' ⟨rfl, rfl⟩
    go_wp2_with fail
    refine (nillast_any _).mono ?_
    rintro e w' ⟨rfl, rfl⟩
    go_wp2
    go_ret
    exact ⟨rfl, q⟩
  have Hc := Lib.hid hc
  have Hp := Lib.hid hp
  clear hc hp
  go_wp2_with fail
  refine (KR.out w6 s1).mono ?_
  rintro e w7 ⟨hb7, ⟨gr, l, sp, hc', hp', rfl, hR⟩ | ⟨hno, rfl⟩⟩
  case inr => exact absurd Hp.out (hno l2 sp2 Hc.out)
  obtain ⟨rfl, rfl⟩ := tab_one Hc.out hc' (hp'.trans Hp.out.symm)
  have q := q.trans (hb7.mono q.size)
  have s1 := s1.below (by omega) hb7
  have hs5 := hs5.below (by omega) hb7
  have s5 := s5.below (by omega) hb7
  have ho5 := Own.below ho5 hb7
  have hT := hT.below hb7
  have hz67 := hb7.size
  clear hb7 KR hc' hp'
  go_wp2_with fail
  refine (same_is w7 _ _ c5 _ A1 _ c1 _ true (by unfold Hid; simp) hs5 s1).mono ?_
  rintro e w' ⟨rfl, rfl⟩
  obtain ⟨b3, o3, z3, hA3, hx3, _, hcell⟩ := s5.byte (k := t.length) (by simp)
  have hx : z3 = 165 := by rw [← hx3]; simp
  subst hx
  clear hx3 s5
  subst hA3
  have hlp : (tabBytesL l sp).length = t.length := by rw [Hp.out]
  have Hle := Lib.hid (show (tabBytesL l sp).length ≤ 65536 by omega)
  go_wp2
  generalize t ++ [165] = bb at *
  have hb3 := HBL.out b3 rfl
  clear hs5 s1 hcell r1 r2 hlp Hp HBL
  generalize t.length = m at *
  go_loopw [131] (fun iv wr => ∃ (j : Nat) (bb : List UInt8), iv = .int .i64 (j : Int) ∧ j ≤ m ∧ OwnB wr w_2.heap.size (some ⟨b3, o3, none⟩) (m + 1) c5 bb ∧ TabIs wr w5.heap.size g l sp ∧ RTabIs wr w6.heap.size gr l sp ∧ Below w.heap.size w wr ∧ w6.heap.size ≤ wr.heap.size) (fun iv _ => m - (intOf iv).toNat)
  case atStart => exact ⟨0, bb, rfl, Nat.zero_le _, ho5, hT, hR, q, hz67⟩
  case round =>
    clear ho5 hT hR q hz67
    obtain ⟨j, bb, rfl, hj, ho5, hT, hR, q, hz67⟩ := hrel
    by_cases hlt : j < m
    case pos =>
      obtain ⟨gq, oq, x, e5, hg1, hg2, hx, hcell, hfr⟩ := OwnB.place ho5 (k := j) (by omega)
      have hxl := x.toNat_lt
      have hxor : bits .xor .u8 (x.toNat : Int) 1 = ((x.toNat ^^^ 1 : Nat) : Int) := u8_xor_nat x.toNat 1 (by omega) (by omega)
      have hv : x.toNat ^^^ 1 < 256 := Nat.xor_lt_two_pow (n := 8) (by omega) (by omega)
      obtain ⟨rfl, rfl⟩ : b3 = gq ∧ o3 = oq := by simpa using e5
      have hst := OwnB.stored ho5 (k := j) (by omega) (UInt8.ofNat (x.toNat ^^^ 1))
      rw [UInt8.toNat_ofNat_of_lt' (by simpa using hv)] at hst
      have hT := hT.setLow (b0 := b3) (by omega) (o3 + j) (.int .u8 ((x.toNat ^^^ 1 : Nat) : Int))
      have hR := hR.setLow (b0 := b3) (by omega) (o3 + j) (.int .u8 ((x.toNat ^^^ 1 : Nat) : Int))
      have q := q.setCell (p := ⟨b3, o3 + j, none⟩) (by show w.heap.size ≤ b3; omega) (.int .u8 ((x.toNat ^^^ 1 : Nat) : Int))
      generalize UInt8.ofNat (x.toNat ^^^ 1) = y at *
      generalize x.toNat = xn at *
      generalize hxv : xn ^^^ 1 = xv at *
      clear hxv hx hg1 hg2 ho5
      go_wp2
      go_roundw
      case rel => exact ⟨j + 1, _, by go_num, by omega, hst, hT, hR, q, by simpa using hz67⟩
      case measure => simp [intOf]; omega
    obtain rfl : m = j := by omega
    obtain ⟨wz, hwz⟩ : ∃ wz : World, wz = wr := ⟨_, rfl⟩
    subst hwz
    clear ho5
    go_wp2_with fail
    refine (tbounds_any _ _ g l sp Hc.out hT Hle.out (HQ.out.below q)).mono ?_
    rintro e w8 ⟨Aa, na, ca, Ab, nb, cb, rfl, sa, sb, hb8⟩
    have hT := hT.below hb8
    have hR := hR.below hb8
    have q := q.trans (hb8.mono q.size)
    clear hb8
    obtain ⟨_, A6, n6, c6, A7, n7, c7, k0, k1, r1, r2⟩ := hR
    go_wp2_with fail
    refine (rtbounds_any _ gr l sp Hc.out _ A6 n6 c6 k0 r1 _ A7 n7 c7 k1 r2).mono ?_
    rintro e w9 ⟨Ac, nc, cc, Ad, nd, cd, rfl, sc, sd, hb9⟩
    rw [rbounds_eq Hc.out] at sc sd
    have bd := hb9.drew
    have hT := hT.below bd
    have hX : BdP gr 0 1 (.slice A6 n6 c6) (.slice A7 n7 c7) w9.drew := ⟨stays bd k0, stays bd k1⟩
    have r1 := r1.below bd
    have r2 := r2.below bd
    have sa := sa.below (by omega) bd
    have sb := sb.below (by omega) bd
    have sc := sc.drew
    have sd := sd.drew
    have q := q.trans (bd.mono q.size)
    clear hb9 bd k0 k1
    have hl6 := r1.lenR
    have hcl := (checkTab_zero Hc.out).1
    obtain ⟨lc, hlc⟩ : ∃ x, leafCount l = x := ⟨_, rfl⟩
    have kl := fun w' (hT : TabIs w' w5.heap.size g l sp) => tableaves_any w' _ g l sp hT
    rw [hlc] at kl
    obtain ⟨m7, hm7⟩ : ∃ x, n6 + 7 = x := ⟨_, rfl⟩
    have hl8 : lc = m7 / 8 := by unfold leafCount at hlc; omega
    have e7 : (n6 : Int) + 7 = (m7 : Int) := by omega
    have hm7b : m7 ≤ 1007 := by omega
    have v7 : IntKind.i64.wrap (m7 : Int) = (m7 : Int) := by rw [IntKind.wrap_i64]; omega
    have e8 : Int.tdiv (m7 : Int) 8 = (lc : Int) := by rw [hl8]; rfl
    have v8 : IntKind.i64.wrap (lc : Int) = (lc : Int) := by rw [IntKind.wrap_i64]; omega
    have KL := Lib.hid kl
    clear kl hlc hl8 hl6 hcl hm7
    generalize hW : w9.drew = w0 at *
    go_wp2_with fail
    refine regionF (fun _ wa wb => BdP gr 0 1 (.slice A6 n6 c6) (.slice A7 n7 c7) wa → BdP gr 0 1 (.slice A6 n6 c6) (.slice A7 n7 c7) wb) (by kernel_rfl) ?_
    rw [hW]
    clear hW
    refine takeT (i := 0) (v := ?_) rfl ?hy ?_
    case hy => intro wS; go_simp; try with_reducible rfl
    refine takeT (i := 2) (v := ?_) rfl ?hy ?_
    case hy => intro wS; go_simp; try with_reducible rfl
    refine takeT (i := 3) (v := ?_) rfl ?hy ?_
    case hy => intro wS; go_simp; try with_reducible rfl
    refine takeT (i := 4) (v := ?_) rfl ?hy ?_
    case hy => intro wS; go_simp; try with_reducible rfl
    refine takeP (i := 5) (v := ?_) rfl hX ?hy ?_
    case hy =>
      intro wS hSw
      obtain ⟨z0, z1⟩ := id hSw
      clear hSw
      go_simp
      try with_reducible rfl
    try simp only [List.getElem_toArray, List.getElem_cons_succ, List.getElem_cons_zero, Act.put, List.setIfInBounds_toArray, List.set_cons_zero, List.set_cons_succ]
    refine readyF (rs := [1]) (by kernel_rfl) (by simp) ?_
    refine AllF.cons rfl (fun K hK => ?_) AllF.nil
    go_simp
    refine (tabents_any w0 _ g l sp Hc.out hT Hle.out (HQ.out.below q)).mono ?_
    rintro e w0_1 ⟨A11, n11, c11, rfl, h11, hb⟩
    refine hK _ _ (fun h => h.below hb) ?_
    clear hK K
    have hX := hX.below hb
    have hT := hT.below hb
    have r1 := r1.below hb
    have r2 := r2.below hb
    have sa := sa.below (by omega) hb
    have sb := sb.below (by omega) hb
    have sc := sc.below (by omega) hb
    have sd := sd.below (by omega) hb
    have q := q.trans (hb.mono q.size)
    clear hb
    refine readyF (rs := [6]) (by kernel_rfl) (by simp) ?_
    refine AllF.cons rfl (fun K hK => ?_) AllF.nil
    go_simp
    refine (sents_is13 w0_1 _ A11 n11 c11 l h11 _ A6 n6 c6 r1).mono ?_
    rintro e w0_1_6 ⟨rfl, hb⟩
    refine hK _ _ (fun h => h.below hb) ?_
    clear hK K
    have hX := hX.below hb
    have hT := hT.below hb
    have r1 := r1.below hb
    have r2 := r2.below hb
    have sa := sa.below (by omega) hb
    have sb := sb.below (by omega) hb
    have sc := sc.below (by omega) hb
    have sd := sd.below (by omega) hb
    have q := q.trans (hb.mono q.size)
    have h11 := h11.below hb
    clear hb
    refine takeT (i := 7) (v := ?_) rfl ?hy ?_
    case hy => intro wS; go_simp; try with_reducible rfl
    refine takeT (i := 8) (v := ?_) rfl ?hy ?_
    case hy => intro wS; go_simp; try with_reducible rfl
    refine takeT (i := 10) (v := ?_) rfl ?hy ?_
    case hy => intro wS; go_simp; try with_reducible rfl
    refine takeT (i := 11) (v := ?_) rfl ?hy ?_
    case hy => intro wS; go_simp; try with_reducible rfl
    refine takeT (i := 12) (v := ?_) rfl ?hy ?_
    case hy => intro wS; go_simp; try with_reducible rfl
    refine takeP (i := 13) (v := ?_) rfl hX ?hy ?_
    case hy =>
      intro wS hSw
      obtain ⟨z0, z1⟩ := id hSw
      clear hSw
      go_simp
      try with_reducible rfl
    try simp only [List.getElem_toArray, List.getElem_cons_succ, List.getElem_cons_zero, Act.put, List.setIfInBounds_toArray, List.set_cons_zero, List.set_cons_succ]
    refine readyF (rs := [9]) (by kernel_rfl) (by simp) ?_
    refine AllF.cons rfl (fun K hK => ?_) AllF.nil
    go_simp
    refine (tabspans_any w0_1_6 _ g l sp Hc.out hT).mono ?_
    rintro e w0_1_6_9 ⟨A12, n12, c12, rfl, h12, hb⟩
    refine hK _ _ (fun h => h.below hb) ?_
    clear hK K
    have hX := hX.below hb
    have hT := hT.below hb
    have r1 := r1.below hb
    have r2 := r2.below hb
    have sa := sa.below (by omega) hb
    have sb := sb.below (by omega) hb
    have sc := sc.below (by omega) hb
    have sd := sd.below (by omega) hb
    have q := q.trans (hb.mono q.size)
    have h11 := h11.below hb
    clear hb
    refine readyF (rs := [14]) (by kernel_rfl) (by simp) ?_
    refine AllF.cons rfl (fun K hK => ?_) AllF.nil
    go_simp
    refine (sspans_is w0_1_6_9 _ A12 n12 c12 sp h12 _ A7 n7 c7 r2).mono ?_
    rintro e w0_1_6_9_14 ⟨rfl, hb⟩
    refine hK _ _ (fun h => h.below hb) ?_
    clear hK K
    have hX := hX.below hb
    have hT := hT.below hb
    have r1 := r1.below hb
    have r2 := r2.below hb
    have sa := sa.below (by omega) hb
    have sb := sb.below (by omega) hb
    have sc := sc.below (by omega) hb
    have sd := sd.below (by omega) hb
    have q := q.trans (hb.mono q.size)
    have h11 := h11.below hb
    have h12 := h12.below hb
    clear hb
    refine takeT (i := 15) (v := ?_) rfl ?hy ?_
    case hy => intro wS; go_simp; try with_reducible rfl
    refine takeT (i := 16) (v := ?_) rfl ?hy ?_
    case hy => intro wS; go_simp; try with_reducible rfl
    refine takeT (i := 17) (v := ?_) rfl ?hy ?_
    case hy => intro wS; go_simp; try with_reducible rfl
    refine takeT (i := 18) (v := ?_) rfl ?hy ?_
    case hy => intro wS; go_simp; try with_reducible rfl
    try simp only [List.getElem_toArray, List.getElem_cons_succ, List.getElem_cons_zero, Act.put, List.setIfInBounds_toArray, List.set_cons_zero, List.set_cons_succ]
    refine readyF (rs := [19]) (by kernel_rfl) (by simp) ?_
    refine AllF.cons rfl (fun K hK => ?_) AllF.nil
    go_simp
    refine (same_is w0_1_6_9_14 Aa na ca _ Ac nc cc _ true (by unfold Hid; simp) sa sc).mono ?_
    rintro e w' ⟨rfl, rfl⟩
    obtain ⟨w0_1_6_9_14_19, hN⟩ : ∃ x : World, x = w0_1_6_9_14 := ⟨_, rfl⟩
    subst hN
    refine hK _ _ (fun h => h) ?_
    clear hK K
    refine takeT (i := 20) (v := ?_) rfl ?hy ?_
    case hy => intro wS; go_simp; try with_reducible rfl
    refine takeT (i := 21) (v := ?_) rfl ?hy ?_
    case hy => intro wS; go_simp; try with_reducible rfl
    refine takeT (i := 22) (v := ?_) rfl ?hy ?_
    case hy => intro wS; go_simp; try with_reducible rfl
    refine takeT (i := 23) (v := ?_) rfl ?hy ?_
    case hy => intro wS; go_simp; try with_reducible rfl
    try simp only [List.getElem_toArray, List.getElem_cons_succ, List.getElem_cons_zero, Act.put, List.setIfInBounds_toArray, List.set_cons_zero, List.set_cons_succ]
    refine readyF (rs := [24]) (by kernel_rfl) (by simp) ?_
    refine AllF.cons rfl (fun K hK => ?_) AllF.nil
    go_simp
    refine (same_is w0_1_6_9_14_19 Ab nb cb _ Ad nd cd _ true (by unfold Hid; simp) sb sd).mono ?_
    rintro e w' ⟨rfl, rfl⟩
    obtain ⟨w0_1_6_9_14_19_24, hN⟩ : ∃ x : World, x = w0_1_6_9_14_19 := ⟨_, rfl⟩
    subst hN
    refine hK _ _ (fun h => h) ?_
    clear hK K
    refine takeT (i := 25) (v := ?_) rfl ?hy ?_
    case hy => intro wS; go_simp; try with_reducible rfl
    refine takeT (i := 26) (v := ?_) rfl ?hy ?_
    case hy => intro wS; go_simp; try with_reducible rfl
    refine takeT (i := 27) (v := ?_) rfl ?hy ?_
    case hy => intro wS; go_simp; try with_reducible rfl
    refine takeT (i := 29) (v := ?_) rfl ?hy ?_
    case hy => intro wS; go_simp; try with_reducible rfl
    refine takeT (i := 30) (v := ?_) rfl ?hy ?_
    case hy => intro wS; go_simp; try with_reducible rfl
    refine takeT (i := 31) (v := ?_) rfl ?hy ?_
    case hy => intro wS; go_simp; try with_reducible rfl
    refine takeP (i := 32) (v := ?_) rfl hX ?hy ?_
    case hy =>
      intro wS hSw
      obtain ⟨z0, z1⟩ := id hSw
      clear hSw
      go_simp
      try with_reducible rfl
    refine takeP (i := 33) (v := ?_) rfl hX ?hy ?_
    case hy =>
      intro wS hSw
      obtain ⟨z0, z1⟩ := id hSw
      clear hSw
      go_simp
      try with_reducible rfl
    refine takeT (i := 34) (v := ?_) rfl ?hy ?_
    case hy => intro wS; go_simp; try with_reducible rfl
    refine takeT (i := 35) (v := ?_) rfl ?hy ?_
    case hy => intro wS; go_simp; try with_reducible rfl
    try simp only [List.getElem_toArray, List.getElem_cons_succ, List.getElem_cons_zero, Act.put, List.setIfInBounds_toArray, List.set_cons_zero, List.set_cons_succ]
    refine readyF (rs := [28]) (by kernel_rfl) (by simp) ?_
    refine AllF.cons rfl (fun K hK => ?_) AllF.nil
    go_simp
    refine (KL.out w0_1_6_9_14_19_24 hT).mono ?_
    rintro e w' ⟨rfl, rfl⟩
    obtain ⟨w0_1_6_9_14_19_24_28, hN⟩ : ∃ x : World, x = w0_1_6_9_14_19_24 := ⟨_, rfl⟩
    subst hN
    refine hK _ _ (fun h => h) ?_
    clear hK K
    refine takeT (i := 36) (v := ?_) rfl ?hy ?_
    case hy => intro wS; go_simp; try with_reducible rfl
    refine takeT (i := 37) (v := ?_) rfl ?hy ?_
    case hy => intro wS; go_simp; try with_reducible rfl
    refine takeT (i := 38) (v := ?_) rfl ?hy ?_
    case hy => intro wS; go_simp; try with_reducible rfl
    refine takeT (i := 39) (v := ?_) rfl ?hy ?_
    case hy => intro wS; go_simp; try with_reducible rfl
    refine takeT (i := 41) (v := ?_) rfl ?hy ?_
    case hy => intro wS; go_simp; try with_reducible rfl
    try simp only [List.getElem_toArray, List.getElem_cons_succ, List.getElem_cons_zero, Act.put, List.setIfInBounds_toArray, List.set_cons_zero, List.set_cons_succ]
    refine readyF (rs := [40]) (by kernel_rfl) (by simp) ?_
    refine AllF.cons rfl (fun K hK => ?_) AllF.nil
    go_simp
    refine (tlast_any w0_1_6_9_14_19_24_28 _ g l sp Hc.out hT Hle.out (HQ.out.below q)).mono ?_
    rintro e w0_1_6_9_14_19_24_28_40 ⟨rfl, hb⟩
    refine hK _ _ (fun h => h.below hb) ?_
    clear hK K
    have hX := hX.below hb
    have hT := hT.below hb
    have r1 := r1.below hb
    have r2 := r2.below hb
    have sa := sa.below (by omega) hb
    have sb := sb.below (by omega) hb
    have sc := sc.below (by omega) hb
    have sd := sd.below (by omega) hb
    have q := q.trans (hb.mono q.size)
    have h11 := h11.below hb
    have h12 := h12.below hb
    clear hb
    refine readyF (rs := [42]) (by kernel_rfl) (by simp) ?_
    refine AllF.cons rfl (fun K hK => ?_) AllF.nil
    go_simp
    refine (rtlast_any w0_1_6_9_14_19_24_28_40 gr l sp _ A6 n6 c6 hX.1 r1 _ A7 n7 c7 hX.2 r2).mono ?_
    rintro e w0_1_6_9_14_19_24_28_40_42 ⟨rfl, hb⟩
    refine hK _ _ (fun h => h.below hb) ?_
    clear hK K
    have hX := hX.below hb
    have hT := hT.below hb
    have r1 := r1.below hb
    have r2 := r2.below hb
    have sa := sa.below (by omega) hb
    have sb := sb.below (by omega) hb
    have sc := sc.below (by omega) hb
    have sd := sd.below (by omega) hb
    have q := q.trans (hb.mono q.size)
    have h11 := h11.below hb
    have h12 := h12.below hb
    clear hb
    refine takeT (i := 43) (v := ?_) rfl ?hy ?_
    case hy => intro wS; go_simp; try with_reducible rfl
    refine takeT (i := 44) (v := ?_) rfl ?hy ?_
    case hy => intro wS; go_simp; try with_reducible rfl
    refine takeT (i := 45) (v := ?_) rfl ?hy ?_
    case hy => intro wS; go_simp; try with_reducible rfl
    try simp only [List.getElem_toArray, List.getElem_cons_succ, List.getElem_cons_zero, Act.put, List.setIfInBounds_toArray, List.set_cons_zero, List.set_cons_succ]
    refine doneF (by kernel_rfl) ?_ _
    try simp only [List.getElem_toArray, List.getElem_cons_succ, List.getElem_cons_zero, Act.put, List.setIfInBounds_toArray, List.set_cons_zero, List.set_cons_succ]
    go_wp2
    go_ret
    exact ⟨rfl, q⟩
end Go.Proofs.YtpffieogkfndaaaGreatDoor
