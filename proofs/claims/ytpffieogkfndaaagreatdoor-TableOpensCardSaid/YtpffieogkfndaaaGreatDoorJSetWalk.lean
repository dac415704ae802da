/-
  LeafRead, SetWalk in one text. No condition but sizes.
-/
import Derived.Test.YtpffieogkfndaaaGreatDoorLeafEntry
import Derived.Test.YtpffieogkfndaaaGreatDoorLeafBuild
import Derived.Test.YtpffieogkfndaaaGreatDoorJRowsZ
import Derived.Test.YtpffieogkfndaaaGreatDoorJParts
import Derived.Test.YtpffieogkfndaaaGreatDoorJSpanOne
import Derived.Test.YtpffieogkfndaaaGreatDoorJAtomWalk
namespace Go.Proofs.YtpffieogkfndaaaGreatDoor
open Go.RowKit
set_option maxRecDepth 20000
set_option linter.unusedVariables false
set_option linter.unusedSimpArgs false
theorem i64_or_nat2 (x y : Nat) (hx : x < 65536) (hy : y < 65536) : bits .or .i64 (x : Int) (y : Int) = ((x ||| y : Nat) : Int) := by
  have hz : x ||| y < 2 ^ 16 := Nat.or_lt_two_pow (by omega) (by omega)
  show IntKind.i64.wrap ((BitVec.ofInt 64 (x : Int) ||| BitVec.ofInt 64 (y : Int)).toNat : Int) = _
  rw [BitVec.toNat_or, ofInt_u64 x (by omega), ofInt_u64 y (by omega), IntKind.wrap_i64]
  omega
def contP (outs : List EntL) (o : Option (List EntL)) : Option (List EntL) := o.map (outs ++ ·)
theorem contP_nil (o : Option (List EntL)) : contP [] o = o := by cases o <;> rfl
theorem contP_step (outs : List EntL) (fb rest : List UInt8) (h0 : rest.length ≠ 0) :
    (entryL fb rest = none → contP outs (parseL false (64 - outs.length) fb rest) = none) ∧
    (∀ e g q, entryL fb rest = some (e, g, q) → outs.length < 64 → contP outs (parseL false (64 - outs.length) fb rest) = contP (outs ++ [e]) (parseL false (64 - (outs ++ [e]).length) g q)) ∧
    (∀ e g q, entryL fb rest = some (e, g, q) → 64 ≤ outs.length → contP outs (parseL false (64 - outs.length) fb rest) = none) := by
  refine ⟨fun h => ?_, fun e g q h hl => ?_, fun e g q h hl => ?_⟩
  · cases 64 - outs.length with
    | zero => simp [parseL, h0, contP]
    | succ k => simp [parseL, h0, h, contP]
  · obtain ⟨k, hk⟩ : ∃ k, 64 - outs.length = k + 1 := ⟨63 - outs.length, by omega⟩
    have hk2 : 64 - (outs ++ [e]).length = k := by rw [List.length_append]; simp; omega
    rw [hk, hk2]
    simp only [parseL]
    rw [if_neg h0, h]
    simp only
    cases parseL false k g q with
    | none => rfl
    | some l => simp [contP]
  · rw [show 64 - outs.length = 0 by omega]
    simp [parseL, h0, contP]
/-- entries and an error's number that a call gives back; they lie in new memory -/
def GotEnts (w : World) (r : Option (List EntL)) (e : Ending) (w' : World) : Prop :=
  ∃ A n c, e = .returned (.tuple #[.slice A n c, .int .i64 ((if r.isSome then 0 else 4 : Nat) : Int)]) ∧ SlR w' (fun b => w.heap.size ≤ b) A n c (r.getD []) ∧ Below w.heap.size w w'
set_option maxHeartbeats 32000000 in
theorem lread_any (w : World) (A : Option Addr) (n c : Nat) (p : List UInt8) (h : Sl w 1 A n c (bc p)) (hn : n ≤ 65536) :
    Calls Tryz.prog 119 #[.slice A n c] w (GotEnts w (readLeafL p)) := by
  have hl := h.lenb
  obtain ⟨r, hr⟩ : ∃ r, readLeafL p = r := ⟨_, rfl⟩
  rw [hr]
  unfold readLeafL readLeafX at hr
  rw [hl] at hr
  have hcp := h.cap
  have hcm := h.capm
  unfold maxLen at hcm
  by_cases h2 : n < 2
  case pos =>
    have er : none = r := by rw [← hr, if_pos (.inl h2)]
    subst er
    have i1 : decide ((n : Int) < 2) = true := decide_eq_true (by omega)
    clear hr hl h
    go_enter Tryz.func119, Tryz.ntmps119
    go_wp2
    go_ret2
    exact ⟨none, 0, 0, rfl, SlR.nilnil _ _, Below.refl _ _⟩
  have i1 : decide ((n : Int) < 2) = false := decide_eq_false (by omega)
  obtain ⟨m2, hm2⟩ : ∃ m2, n - 2 = m2 := ⟨_, rfl⟩
  obtain ⟨m1, hm1⟩ : ∃ m1, n - 1 = m1 := ⟨_, rfl⟩
  obtain ⟨b0, o0, x0, rfl, hx0, hxl0, k0⟩ := h.byte (k := m2) (by omega)
  obtain ⟨b1, o1, x1, hA1, hx1, hxl1, k1⟩ := h.byte (k := m1) (by omega)
  obtain ⟨rfl, rfl⟩ : b0 = b1 ∧ o0 = o1 := by simpa using hA1
  obtain ⟨E, hE⟩ : ∃ E, endN p = E := ⟨_, rfl⟩
  have hE2 : E = x0 + 256 * x1 := by
    rw [← hE]
    unfold endN
    rw [hl, List.getD_eq_getElem?_getD, List.getD_eq_getElem?_getD, hm2, hm1, List.getElem?_eq_getElem (by omega), List.getElem?_eq_getElem (by omega)]
    simp only [Option.getD_some]
    rw [hx0, hx1]
  rw [hE] at hr
  have hw2 : IntKind.i64.wrap ((n : Int) - 2) = (m2 : Int) := by rw [IntKind.wrap_i64]; omega
  have hw1 : IntKind.i64.wrap ((n : Int) - 1) = (m1 : Int) := by rw [IntKind.wrap_i64]; omega
  have hb0 : IntKind.i64.wrap (x0 : Int) = (x0 : Int) := by rw [IntKind.wrap_i64]; omega
  have hb1 : IntKind.i64.wrap (x1 : Int) = (x1 : Int) := by rw [IntKind.wrap_i64]; omega
  have hb2 : IntKind.i64.wrap ((x1 : Int) * 256) = ((x1 * 256 : Nat) : Int) := by rw [IntKind.wrap_i64]; omega
  have hor : bits .or .i64 (x0 : Int) ((x1 * 256 : Nat) : Int) = (E : Int) := by
    rw [i64_or_nat2 x0 (x1 * 256) (by omega) (by omega), Nat.or_comm, nat_join 8 _ _ (by omega) (by omega), hE2]
    congr 1
    omega
  have hEb : E ≤ 65535 := by omega
  generalize hxx : x1 * 256 = xx at *
  have k0 : (World.drew w).cell? _ = _ := k0
  have k1 : (World.drew w).cell? _ = _ := k1
  have Hh := Lib.hid h
  have Hm2 := Lib.hid hm2
  have Hm1 := Lib.hid hm1
  have hm1n : m1 < n := by omega
  have hm2n : m2 < n := by omega
  have Hr0 := Lib.hid hr
  clear hr hE hE2 hx0 hx1 hA1 hm2 hm1 hxx hl h
  go_enter Tryz.func119, Tryz.ntmps119
  go_wp2_with fail
  have hq := below_drew (Below.refl w.heap.size w)
  generalize hW : World.drew w = w0 at *
  refine regionF (fun _ wa wb => Below w0.heap.size w0 wa → Below w0.heap.size w0 wb) (by kernel_rfl) ?_
  rw [hW]
  clear hW
  have hX := Below.refl w0.heap.size w0
  refine takeP (i := 0) (v := ?_) rfl hX ?hy ?_
  case hy =>
    intro wS hSw
    clear hSw
    go_simp
    try with_reducible rfl
  refine takeP (i := 1) (v := ?_) rfl hX ?hy ?_
  case hy =>
    intro wS hSw
    clear hSw
    go_simp
    try with_reducible rfl
  refine takeP (i := 2) (v := ?_) rfl hX ?hy ?_
  case hy =>
    intro wS hSw
    clear hSw
    go_simp
    try with_reducible rfl
  refine takeP (i := 3) (v := ?_) rfl hX ?hy ?_
  case hy =>
    intro wS hSw
    clear hSw
    go_simp
    try with_reducible rfl
  refine takeP (i := 4) (v := ?_) rfl hX ?hy ?_
  case hy =>
    intro wS hSw
    clear hSw
    go_simp
    try with_reducible rfl
  refine takeP (i := 5) (v := ?_) rfl hX ?hy ?_
  case hy =>
    intro wS hSw
    have k0 := stays hSw k0
    clear hSw
    go_simp
    try with_reducible rfl
  refine takeP (i := 6) (v := ?_) rfl hX ?hy ?_
  case hy =>
    intro wS hSw
    clear hSw
    go_simp
    try with_reducible rfl
  refine takeP (i := 7) (v := ?_) rfl hX ?hy ?_
  case hy =>
    intro wS hSw
    clear hSw
    go_simp
    try with_reducible rfl
  refine takeP (i := 8) (v := ?_) rfl hX ?hy ?_
  case hy =>
    intro wS hSw
    clear hSw
    go_simp
    try with_reducible rfl
  refine takeP (i := 9) (v := ?_) rfl hX ?hy ?_
  case hy =>
    intro wS hSw
    clear hSw
    go_simp
    try with_reducible rfl
  refine takeP (i := 10) (v := ?_) rfl hX ?hy ?_
  case hy =>
    intro wS hSw
    clear hSw
    go_simp
    try with_reducible rfl
  refine takeP (i := 11) (v := ?_) rfl hX ?hy ?_
  case hy =>
    intro wS hSw
    clear hSw
    go_simp
    try with_reducible rfl
  refine takeP (i := 12) (v := ?_) rfl hX ?hy ?_
  case hy =>
    intro wS hSw
    have k1 := stays hSw k1
    clear hSw
    go_simp
    try with_reducible rfl
  refine takeP (i := 13) (v := ?_) rfl hX ?hy ?_
  case hy =>
    intro wS hSw
    clear hSw
    go_simp
    try with_reducible rfl
  refine takeP (i := 14) (v := ?_) rfl hX ?hy ?_
  case hy =>
    intro wS hSw
    clear hSw
    go_simp
    try with_reducible rfl
  refine takeP (i := 15) (v := ?_) rfl hX ?hy ?_
  case hy =>
    intro wS hSw
    clear hSw
    go_simp
    try with_reducible rfl
  refine takeP (i := 16) (v := ?_) rfl hX ?hy ?_
  case hy =>
    intro wS hSw
    clear hSw
    go_simp
    try with_reducible rfl
  try simp only [List.getElem_toArray, List.getElem_cons_succ, List.getElem_cons_zero, Act.put, List.setIfInBounds_toArray, List.set_cons_zero, List.set_cons_succ]
  refine doneF (by kernel_rfl) ?_ _
  try simp only [List.getElem_toArray, List.getElem_cons_succ, List.getElem_cons_zero, Act.put, List.setIfInBounds_toArray, List.set_cons_zero, List.set_cons_succ]
  have hq := hq.trans (hX.mono hq.size)
  clear hX k0 k1 hw1 hb0 hb1 hb2 hor
  obtain ⟨z, hz⟩ : ∃ z : Int, (n : Int) - 2 - 2 * (E : Int) = z := ⟨_, rfl⟩
  have hz1 : (m2 : Int) - 2 * (E : Int) = z := by have := Hm2.out; omega
  by_cases hz0 : z < 0
  case pos =>
    have er : none = r := by rw [← Hr0.out, if_pos (.inr (.inl (by omega)))]
    subst er
    have i2 : decide (z < 0) = true := decide_eq_true hz0
    have Hz := Lib.hid hz
    go_wp2
    go_ret2
    exact ⟨none, 0, 0, rfl, SlR.nilnil _ _, hq⟩
  obtain ⟨m, hm⟩ : ∃ m : Nat, z = (m : Int) := Int.eq_ofNat_of_zero_le (by omega)
  subst hm
  have i2 : decide ((m : Int) < 0) = false := decide_eq_false hz0
  by_cases hE16 : E ≤ 16
  case neg =>
    have er : none = r := by rw [← Hr0.out, if_pos (.inr (.inr (by omega)))]
    subst er
    have i3 : decide ((16 : Int) < (E : Int)) = true := decide_eq_true (by omega)
    have Hz := Lib.hid hz
    go_wp2
    go_ret2
    exact ⟨none, 0, 0, rfl, SlR.nilnil _ _, hq⟩
  have i3 : decide ((16 : Int) < (E : Int)) = false := decide_eq_false (by omega)
  have hr := Hr0.out
  rw [if_neg (by omega), show n - 2 - 2 * E = m by omega] at hr
  have hmn : m ≤ n := by omega
  obtain ⟨hrc, sc⟩ := cutH (Hh.out.below (by omega) hq) .i64 (m : Int) m rfl hmn
  generalize hP0 : p.take m = P0 at *
  have hl0 := sc.lenb
  have Hr := Lib.hid hr.symm
  have Hl0 := Lib.hid hl0
  have hmb : m ≤ 65536 := by omega
  clear hr hP0 hl0 Hr0
  go_wp2
  go_loopw [6, 7, 8] (fun o f q wr => Below w.heap.size w wr ∧ ∃ A2 n2 c2 outs A3 n3 c3 fb A4 n4 c4 rest, o = .slice A2 n2 c2 ∧ OwnZ wr w.heap.size 69 A2 n2 c2 outs ∧ outs.length ≤ 64 ∧ f = .slice A3 n3 c3 ∧ Sl wr 1 A3 n3 c3 (bc fb) ∧ q = .slice A4 n4 c4 ∧ Sl wr 1 A4 n4 c4 (bc rest) ∧
      (∀ b, ((0 < n3 ∧ A3.map (·.block) = some b) ∨ (0 < n4 ∧ A4.map (·.block) = some b)) → blk A2 c2 ≠ some b) ∧ fb.length + rest.length ≤ 65536 ∧ Hid (parseL false 64 [] P0 = contP outs (parseL false (64 - outs.length) fb rest))) (fun _ _ q _ => lenOfV q)
  case atStart => exact ⟨hq, none, 0, 0, [], none, 0, 0, [], _, _, _, P0, rfl, OwnZ.nil _ _ _ _, by simp, rfl, sl_none _, rfl, sc, fun b _ e => by simp [blk] at e, by have := Hl0.out; simp; omega, Lib.hid (by rw [contP_nil]; rfl)⟩
  case round =>
    clear sc hq hrc
    obtain ⟨hbr, A2, n2, c2, outs, A3, n3, c3, fb, A4, n4, c4, rest, rfl, ho2, hol, rfl, s3, rfl, s4, hsep, hlen, Hp⟩ := hrel
    have hn2 := ho2.lenR
    have hn3 := s3.lenb
    have hn4 := s4.lenb
    by_cases h0 : n4 = 0
    case pos =>
      subst h0
      have hpp : parseL false 64 [] P0 = some outs := by
        rw [Hp.out]
        have : parseL false (64 - outs.length) fb rest = some [] := by
          cases 64 - outs.length <;> simp [parseL, hn4]
        rw [this]
        simp [contP]
      have hrr := Hr.out
      rw [hpp] at hrr
      simp only at hrr
      have so := ho2.slB
      have cb := build12_any wr _ A2 n2 c2 outs so
      have hrq : r = if (leafBE outs).2 = 0 ∧ (leafBE outs).1 = p then some outs else none := by
        rw [hrr]
        unfold leafBE
        by_cases hc : checkLeafL outs = 0
        · simp [hc]
        · simp [hc]
      have spr := Hh.out.below (by omega) hbr
      generalize (leafBE outs).1 = pb at *
      generalize (leafBE outs).2 = q at *
      unfold GotBE at cb
      have Cb := Lib.hid cb
      have Hrq := Lib.hid hrq
      clear cb hrq hrr hpp s3 s4 hsep Hp hn4 hn3 hlen hol hn2
      go_wp2_with fail
      refine Cb.out.mono ?_
      rintro e w5 ⟨A5, n5, c5, rfl, o5, hb5⟩
      have so := so.below hb5
      have spr := spr.below (by omega) hb5
      have hbr := hbr.trans (hb5.mono hbr.size)
      have s5 := OwnB.sl (l := pb) o5
      clear o5 hb5 Cb
      by_cases hq : q = 0
      case neg =>
        have er : r = none := by rw [Hrq.out, if_neg (fun h => hq h.1)]
        subst er
        have i1 : ((q : Int) == 0) = false := by rw [beq_eq_false_iff_ne]; omega
        have i2 : ((q : Int) != 0) = true := by rw [bne_iff_ne]; omega
        clear hq
        go_wp2
        go_ret2
        exact ⟨none, 0, 0, rfl, SlR.nilnil _ _, hbr⟩
      subst hq
      obtain ⟨eb, heb⟩ : ∃ eb, (pb == p) = eb := ⟨_, rfl⟩
      have Heb := Lib.hid heb
      clear heb
      go_wp2_with fail
      refine (equal_is _ A5 n5 c5 _ (some ⟨b0, o0, none⟩) n c _ eb Heb s5 spr).mono ?_
      rintro e w' ⟨rfl, rfl⟩
      cases eb
      case false =>
        have er : r = none := by rw [Hrq.out, if_neg (fun z => by have := Heb.out; rw [z.2] at this; simp at this)]
        subst er
        go_wp2
        go_ret2
        exact ⟨none, 0, 0, rfl, SlR.nilnil _ _, hbr⟩
      have er : r = some outs := by rw [Hrq.out, if_pos ⟨trivial, by simpa using Heb.out⟩]
      subst er
      go_wp2
      go_ret2
      exact ⟨A2, n2, c2, rfl, so, hbr⟩
    have hgt : 0 < n4 := by omega
    have hcon := contP_step outs fb rest (by omega)
    have ce := entry12_any wr A4 n4 c4 rest s4 A3 n3 c3 fb s3 (by omega) (by omega)
    have hlen2 := fun e g q (h : entryL fb rest = some (e, g, q)) => entry_len h
    generalize hE : entryL fb rest = R at *
    have hll := ho2.lt
    unfold GotEntry at ce
    have Ce := Lib.hid ce
    have Hlen2 := Lib.hid hlen2
    have Hcon := Lib.hid hcon
    have HL := Lib.hid hll
    have Hol := Lib.hid hol
    have Hn2 : Hid (outs.length = n2) := hn2
    have Hn4 : Hid (rest.length = n4) := hn4
    have Hlen := Lib.hid hlen
    have Zbr := Lib.hid hbr.size
    have hn2b : n2 ≤ 64 := by omega
    have hcp2 := ho2.sl.cap
    clear ce hlen2 hcon hll hol hn2 hn4 hn3 hlen hsep h0 hE
    go_wp2_with fail
    refine Ce.out.mono ?_
    clear Ce s3 s4
    cases R with
    | none =>
      rintro e w5 ⟨A5, n5, c5, A6, n6, c6, A7, n7, c7, A8, n8, c8, rfl, s5, s6, s7, s8, hb5, _, _, _, _⟩
      simp only [Option.isSome_none, Option.getD_none] at *
      have er : r = none := by
        rw [Hr.out, Hp.out, Hcon.out.1 (by first | rfl | trivial)]
      subst er
      have hbr := hbr.trans (hb5.mono hbr.size)
      have al := hbr.alloc hbr.size (.cells #[.slice A5 n5 c5, .int .u64 (((0 : UInt64).toNat : Nat) : Int), .int .u8 (((0 : UInt8).toNat : Nat) : Int), .slice A6 n6 c6] 69)
      clear hb5 ho2 s5 s6 s7 s8
      go_wp2
      go_ret2
      exact ⟨none, 0, 0, rfl, SlR.nilnil _ _, by first | exact al | (simpa using al)⟩
    | some x =>
      obtain ⟨x, g, more⟩ := x
      obtain ⟨hl1, hl2⟩ := Hlen2.out x g more (by first | rfl | trivial)
      have hcn := Hcon.out.2.1 x g more (by first | rfl | trivial)
      have hcs := Hcon.out.2.2 x g more (by first | rfl | trivial)
      simp only [Option.isSome_some, Option.getD_some] at *
      generalize hsx : x.key.seq.toNat = sx at *
      generalize hkx : x.key.kind.toNat = kx at *
      have Hsx := Lib.hid hsx
      have Hkx := Lib.hid hkx
      rintro e w5 ⟨A5, n5, c5, A6, n6, c6, A7, n7, c7, A8, n8, c8, rfl, s5, s6, s7, s8, hb5, N5, N6, N7, N8⟩
      clear hsx hkx
      have ho2 := ho2.below hb5
      have hbr5 := hbr.trans (hb5.mono hbr.size)
      have kX := Bx4.fresh w5 (.slice A5 n5 c5) (.int .u64 (sx : Int)) (.int .u8 (kx : Int)) (.slice A6 n6 c6) 69
      have al := (Below.refl w5.heap.size w5).alloc (Nat.le_refl _) (.cells #[.slice A5 n5 c5, .int .u64 (sx : Int), .int .u8 (kx : Int), .slice A6 n6 c6] 69)
      have HN7 : Hid (∀ b, 0 < n7 → A7.map (·.block) = some b → blk A2 c2 ≠ some b) := Lib.hid fun b hn e q => by have h1 := N7 b hn e; have := HL.out b q; omega
      have HN8 : Hid (∀ b, 0 < n8 → A8.map (·.block) = some b → blk A2 c2 ≠ some b) := Lib.hid fun b hn e q => by have h1 := N8 b hn e; have := HL.out b q; omega
      have q5 := fun b hn e => (⟨fun q => by have h1 := N5 b hn e; have := HL.out b q; omega, by have h1 := N5 b hn e; have := Zbr.out; omega⟩ : blk A2 c2 ≠ some b ∧ w.heap.size ≤ b)
      have q6 := fun b hn e => (⟨fun q => by have h1 := N6 b hn e; have := HL.out b q; omega, by have h1 := N6 b hn e; have := Zbr.out; omega⟩ : blk A2 c2 ≠ some b ∧ w.heap.size ≤ b)
      have ho2 := ho2.below al
      have hbr6 := hbr5.trans (al.mono hbr5.size)
      generalize hW6 : (w5.alloc (.cells #[.slice A5 n5 c5, .int .u64 (sx : Int), .int .u8 (kx : Int), .slice A6 n6 c6] 69)) = w6 at *
      obtain ⟨y0, y1, y2, y3, y4⟩ := id kX
      have hrow := entRow' Hsx.out Hkx.out (s5.below (by omega) al) (s6.below (by omega) al) (q := fun b => blk A2 c2 ≠ some b ∧ w.heap.size ≤ b) q5 q6
      have al2 := (Below.refl w6.heap.size w6).alloc (Nat.le_refl _) (.cells #[.slice A5 n5 c5, .int .u64 (sx : Int), .int .u8 (kx : Int), .slice A6 n6 c6] 69)
      have ho2 := ho2.below al2
      have hbr7 := hbr6.trans (al2.mono hbr6.size)
      have s7 := (s7.below (by omega) al).below (by omega) al2
      have s8 := (s8.below (by omega) al).below (by omega) al2
      have Hl1 := Lib.hid hl1
      have Hl2 := Lib.hid hl2
      have Hn7 := Lib.hid s7.lenb
      have S7 : Hid (∀ b, 0 < n7 → A7.map (·.block) = some b → b < (w6.alloc (.cells #[.slice A5 n5 c5, .int .u64 (sx : Int), .int .u8 (kx : Int), .slice A6 n6 c6] 69)).heap.size) := Lib.hid fun b hn e => s7.lt (by omega) hn b e
      have S8 : Hid (∀ b, 0 < n8 → A8.map (·.block) = some b → b < (w6.alloc (.cells #[.slice A5 n5 c5, .int .u64 (sx : Int), .int .u8 (kx : Int), .slice A6 n6 c6] 69)).heap.size) := Lib.hid fun b hn e => s8.lt (by omega) hn b e
      have Hn8 := Lib.hid s8.lenb
      clear al al2 q5 q6 N5 N6 N7 N8 s5 s6 hb5 hbr5 hl1 hl2
      by_cases h64 : n2 < 64
      case neg =>
        have er : r = none := by rw [Hr.out, Hp.out, hcs (by have := Hn2.out; omega)]
        subst er
        have i1 : decide ((64 : Int) ≤ (n2 : Int)) = true := decide_eq_true (by omega)
        clear hcn hcs kX
        go_wp2
        try rw [hW6]
        go_ret2
        exact ⟨none, 0, 0, rfl, SlR.nilnil _ _, hbr6⟩
      have i1 : decide ((64 : Int) ≤ (n2 : Int)) = false := decide_eq_false (by omega)
      have hcn := hcn (by have := Hn2.out; omega)
      have Hcn := Lib.hid hcn
      clear hcn hcs kX
      go_wp2_with (at_builtin; refine wpList_appZ _ rfl (.tmp 67) (.tmp 69) 22 rfl w.heap.size 69 _ 64 Tryz.underlying22 infoEnt rfl A2 n2 c2 outs rfl ho2 _ 1 1 [x] rfl hrow ?_ ?_ ?_ ?_)
      · unfold maxLen; omega
      · omega
      · exact hbr7.size
      intro A9 c9 w9 ho9 hg9 hx9
      have s7 := s7.grown (by omega) hg9 (fun hn b e => HN7.out b hn e)
      have s8 := s8.grown (by omega) hg9 (fun hn b e => HN8.out b hn e)
      have hbr9 := hbr7.grown hg9 hbr7.size (fun b hb => (ho2.lt b hb).1)
      have sep : ∀ b, ((0 < n7 ∧ A7.map (·.block) = some b) ∨ (0 < n8 ∧ A8.map (·.block) = some b)) → blk A9 c9 ≠ some b := fun b hh h9 => by
        rcases hx9 with q | q
        · rcases hh with hh | hh
          · exact HN7.out b hh.1 hh.2 (q ▸ h9)
          · exact HN8.out b hh.1 hh.2 (q ▸ h9)
        · rw [q] at h9
          have l7 := S7.out b
          have l8 := S8.out b
          simp at h9
          rcases hh with hh | hh
          · have := l7 hh.1 hh.2
            simp at this
            omega
          · have := l8 hh.1 hh.2
            simp at this
            omega
      have Sep := Lib.hid sep
      clear hrow hg9 hx9 ho2 sep HN7 HN8
      go_wp2
      try rw [hW6]
      go_roundw
      case rel => exact ⟨hbr9, A9, _, c9, outs ++ [x], A7, n7, c7, g, A8, n8, c8, more, rfl, ho9, by rw [List.length_append]; have := Hn2.out; simp; omega, rfl, s7, rfl, s8, fun b hh => Sep.out b hh, by have := Hl2.out; have := Hlen.out; omega, Lib.hid (by rw [Hp.out]; exact Hcn.out)⟩
      case measure => have := Hl1.out; have := Hn8.out; have := Hn4.out; simp [lenOfV]; omega
end Go.Proofs.YtpffieogkfndaaaGreatDoor

namespace Go.Proofs.YtpffieogkfndaaaGreatDoor
open Go.RowKit
set_option maxRecDepth 20000
set_option linter.unusedVariables false
set_option linter.unusedSimpArgs false
/-- a set of spans in block g, all of it from g on -/
def SetIs (w : World) (g : Nat) (ls : List SpanL) : Prop :=
  ∃ A n c, w.cell? ⟨g, 0, none⟩ = some (.slice A n c) ∧ w.frozen? ⟨g, 0, none⟩ = false ∧ OwnZ w (g + 1) 72 A n c ls
theorem SetIs.below {w w' : World} {g : Nat} {ls : List SpanL} (h : SetIs w g ls) (hb : Below w.heap.size w w') : SetIs w' g ls := by
  obtain ⟨A, n, c, h1, h2, h3⟩ := h
  have hlt := World.block_lt_of_cell? _ _ h1
  exact ⟨A, n, c, stays hb h1, (hb.frozen (p := ⟨g, 0, none⟩) hlt).trans h2, h3.below hb⟩
theorem SetIs.lt {w : World} {g : Nat} {ls : List SpanL} (h : SetIs w g ls) : g < w.heap.size := by
  obtain ⟨A, n, c, h1, _⟩ := h
  exact World.block_lt_of_cell? _ _ h1
/-- a region's world: the boxed span and the set's cell stand -/
def SP (gs : Nat) (u0 u1 u2 : Value) (g : Nat) (v : Value) (w : World) : Prop := Bx w gs u0 u1 u2 ∧ w.cell? ⟨g, 0, none⟩ = some v ∧ w.frozen? ⟨g, 0, none⟩ = false
theorem SP.below {gs g : Nat} {u0 u1 u2 v : Value} {w w' : World} (h : SP gs u0 u1 u2 g v w) (hb : Below w.heap.size w w') : SP gs u0 u1 u2 g v w' :=
  ⟨h.1.below hb, stays hb h.2.1, (hb.frozen (p := ⟨g, 0, none⟩) (World.block_lt_of_cell? _ _ h.2.1)).trans h.2.2⟩
theorem SP.grown {gs g : Nat} {u0 u1 u2 v : Value} {w w' : World} {row : Option Nat} (h : SP gs u0 u1 u2 g v w) (hg : w.grownBy w' row) (h1 : row ≠ some gs) (h2 : row ≠ some g) : SP gs u0 u1 u2 g v w' := by
  have hlt := World.block_lt_of_cell? _ _ h.2.1
  have e : w'.heap[g]? = w.heap[g]? := hg.block g hlt fun q => h2 q.symm
  exact ⟨h.1.grownO hg h1, (World.cell?_of_block (a := ⟨g, 0, none⟩) e).trans h.2.1, (World.frozen?_of_block (a := ⟨g, 0, none⟩) e).trans h.2.2⟩
theorem OwnZ.setLow {α : Type} [Rep α] {w : World} {B : Nat} {e : TypeId} {A : Option Addr} {n c : Nat} {ls : List α} (h : OwnZ w B e A n c ls) {g : Nat} (hg : g < B) (v : Value) : OwnZ (w.setCell ⟨g, 0, none⟩ v) B e A n c ls := by
  obtain ⟨xs, ho, hr⟩ := h
  exact ⟨xs, own_set ho hg v, hr.move fun b hl hp => ⟨Below.heap_setCell w _ v b (by have := hp.2; show b ≠ g; omega), hp⟩⟩
theorem step_appZ {P : Program} {α : Type} [Rep α] {ops : Array Oper} {o : Oper} {a : Act} {w : World} {K : Act → World → Prop} {Q : Exit → Act → World → Prop} {E : Prop} (hgd : o.guard = none) (s x : Operand) (t : TypeId)
    (ho : o.op = .call { callee := .builtin .append, args := #[s, x], argTypes := #[t, t] })
    (B : Nat) (e : TypeId) (z : Value) (bytes : Nat) (ht : P.underlying t = some (.slice e)) (hi : (P.info? e).map (fun i => (i.zero, i.size, i.bytes)) = some (some z, Rep.size α, bytes))
    (hzs : z.cells.size = Rep.size α)
    (A : Option Addr) (n c : Nat) (ls : List α) (hsv : a.eval s = .slice A n c) (hown : OwnZ w B e A n c ls)
    (A2 : Option Addr) (m c2 : Nat) (ms : List α) (hx : a.eval x = .slice A2 m c2) (hs : ∃ xs, Sl w (Rep.size α) A2 m c2 xs ∧ RowC w (fun b => blk A c ≠ some b ∧ B ≤ b) xs ms)
    (h63 : n + m ≤ maxLen) (hbytes : (n + m) * bytes ≤ 140737488355328) (hB : B ≤ w.heap.size)
    (h : ∀ A' c' w', OwnZ w' B e A' (n + m) c' (ls ++ ms) → w.grownBy w' (blk A c) → (blk A' c' = blk A c ∨ blk A' c' = some w.heap.size) → K (a.put o.dst (.slice A' (n + m) c')) w') :
    if Region.wanted o (yielded ops a.tmps) = true then Oper.wp P o a w K Q else E := by
  have hw : Region.wanted o (yielded ops a.tmps) = true := by simp [Region.wanted, hgd]
  rw [if_pos hw]
  obtain ⟨A', c', w', hrun, h2, h3, h4⟩ := row_appZ P w t o.type z bytes ht hi hzs hown A2 m c2 ms hs h63 hbytes hB
  unfold Oper.wp execOp
  simp only [ho, resolve, invoke, builtin, Sem.run_bind, Sem.run_pure, Result.andThen_ok, List.map_toArray, List.map_cons, List.map_nil, hsv, hx, hrun]
  exact h A' c' w' h2 h3 h4
theorem own_at {w : World} {G : Nat} {e : TypeId} {size : Nat} {A : Option Addr} {n c : Nat} {xs : List Value} (h : Own w G e size A n c xs) {b : Nat} (hn : 0 < n) (q : A.map (·.block) = some b) : G ≤ b := by
  have := h.cap
  refine (h.lt b ?_).1
  unfold blk
  rw [if_neg (by omega)]
  exact q
/-- a span whose bytes are the call's own, as a row just made -/
theorem spanRowZ (w : World) (x : SpanL) (s : Nat) (hs : x.seq.toNat = s) (B G : Nat) (X : Option Nat) (hG : B ≤ G) (hX : ∀ b, X = some b → b < G) (A3 : Option Addr) (n3 c3 : Nat) (A4 : Option Addr) (n4 c4 : Nat) (s3 : OwnB w G A3 n3 c3 x.lo) (s4 : OwnB w G A4 n4 c4 x.hi) (e : TypeId) :
    ∃ xs, Sl (w.alloc (.cells #[.slice A3 n3 c3, .slice A4 n4 c4, .int .u64 (s : Int)] e)) 3 (some ⟨w.heap.size, 0, none⟩) 1 1 xs ∧ RowC (w.alloc (.cells #[.slice A3 n3 c3, .slice A4 n4 c4, .int .u64 (s : Int)] e)) (fun b => X ≠ some b ∧ B ≤ b) xs [x] :=
  spanRow w x s hs _ A3 n3 c3 A4 n4 c4 s3.sl (fun b hn q => by have := own_at s3 hn q; exact ⟨fun r => by have := hX b r; omega, by omega⟩) s4.sl (fun b hn q => by have := own_at s4 hn q; exact ⟨fun r => by have := hX b r; omega, by omega⟩) e
set_option maxHeartbeats 16000000 in
theorem add_any (w : World) (g : Nat) (ls : List SpanL) (hS : SetIs w g ls) (hl : ls.length ≤ 1000000) (A3 : Option Addr) (n3 c3 : Nat) (A4 : Option Addr) (n4 c4 : Nat) (x : SpanL) (s3 : Sl w 1 A3 n3 c3 (bc x.lo)) (s4 : Sl w 1 A4 n4 c4 (bc x.hi)) (hn3 : n3 ≤ 1000000) (hn4 : n4 ≤ 1000000) :
    Calls Tryz.prog 106 #[.pointer (some ⟨g, 0, none⟩), .agg #[.slice A3 n3 c3, .slice A4 n4 c4, .int .u64 (x.seq.toNat : Int)]] w fun e w' => e = .returned (.int .i64 (checkSpanL x : Nat)) ∧ SetIs w' g (if checkSpanL x = 0 then ls ++ [x] else ls) ∧ Below g w w' := by
  have hgl := hS.lt
  obtain ⟨A, n, c, hC, hfz, hoZ⟩ := hS
  have hlt0 : ∀ b, blk A c = some b → b < w.heap.size := fun b q => (hoZ.lt b q).2
  have hln := hoZ.lenR
  have hn1 : n ≤ 1000000 := by omega
  have al := (Below.refl w.heap.size w).alloc (Nat.le_refl _) (.cells #[.slice A3 n3 c3, .slice A4 n4 c4, .int .u64 (x.seq.toNat : Int)] 72)
  have ck := scheck_any (w.alloc (.cells #[.slice A3 n3 c3, .slice A4 n4 c4, .int .u64 (x.seq.toNat : Int)] 72)) A3 n3 c3 A4 n4 c4 x (s3.below (by omega) al) (s4.below (by omega) al)
  have kB := Bx.fresh w (.slice A3 n3 c3) (.slice A4 n4 c4) (.int .u64 (x.seq.toNat : Int)) 72
  generalize hd : x.seq.toNat = d at *
  generalize checkSpanL x = r at *
  have hX : SP w.heap.size (.slice A3 n3 c3) (.slice A4 n4 c4) (.int .u64 (d : Int)) g (.slice A n c) (w.alloc (.cells #[.slice A3 n3 c3, .slice A4 n4 c4, .int .u64 (d : Int)] 72)) := ⟨kB, stays al hC, (al.frozen (p := ⟨g, 0, none⟩) hgl).trans hfz⟩
  have s3 := s3.below (by omega) al
  have s4 := s4.below (by omega) al
  have hoZ := hoZ.below al
  have hq := al.mono (Nat.le_of_lt hgl)
  generalize hW : (w.alloc (.cells #[.slice A3 n3 c3, .slice A4 n4 c4, .int .u64 (d : Int)] 72)) = w1 at *
  have Hd := Lib.hid hd
  have Ck := Lib.hid ck
  clear al ck hd hln hl hC hfz
  obtain ⟨x0, x1, x2, x3⟩ := id kB
  clear kB
  go_enter Tryz.func106, Tryz.ntmps106
  go_wp2_with fail
  try rw [hW]
  refine Ck.out.mono ?_
  rintro e w2 ⟨rfl, hb2⟩
  have hX0 := hX.2.1
  have hX := hX.below hb2
  have s3 := s3.below (by omega) hb2
  have s4 := s4.below (by omega) hb2
  have hoZ := hoZ.below hb2
  have hq := hq.trans (hb2.mono (Nat.le_of_lt (World.block_lt_of_cell? _ _ hX0)))
  clear x0 x1 x2 x3 hb2 Ck
  by_cases hr : r = 0
  case neg =>
    have t1 : ((r : Int) == 0) = false := by simp; omega
    have t2 : ((r : Int) != 0) = true := by rw [bne_iff_ne]; omega
    have HS := Lib.hid (show SetIs w2 g ls from ⟨A, n, c, hX.2.1, hX.2.2, hoZ⟩)
    clear hX hoZ s3 s4
    go_wp2
    go_ret
    try rw [if_neg hr]
    refine ⟨?_, HS.out, hq⟩
    first | rfl | go_simp
  subst hr
  have bd := (Below.refl w2.heap.size w2).drew
  have hX := hX.below bd
  have s3 := s3.drew
  have s4 := s4.drew
  have hoZ := hoZ.below bd
  have hq := hq.drew
  have hngs : blk A c ≠ some w.heap.size := fun q => by have := hlt0 _ q; omega
  clear bd hW
  go_wp2_with fail
  generalize hW8 : w2.drew = w8 at *
  have hlt8 : ∀ b, blk A c = some b → b < w8.heap.size := fun b q => (hoZ.lt b q).2
  have hg8 : g < w8.heap.size := World.block_lt_of_cell? _ _ hX.2.1
  refine regionF (fun j wa wb => j ≠ 11 → SP w.heap.size (.slice A3 n3 c3) (.slice A4 n4 c4) (.int .u64 (d : Int)) g (.slice A n c) wa → SP w.heap.size (.slice A3 n3 c3) (.slice A4 n4 c4) (.int .u64 (d : Int)) g (.slice A n c) wb) (by kernel_rfl) ?_
  rw [hW8]
  clear hW8
  refine takeT (i := 0) (v := ?_) rfl ?hy ?_
  case hy => intro wS; go_simp; try with_reducible rfl
  refine takeT (i := 1) (v := ?_) rfl ?hy ?_
  case hy => intro wS; go_simp; try with_reducible rfl
  refine takeT (i := 2) (v := ?_) rfl ?hy ?_
  case hy => intro wS; go_simp; try with_reducible rfl
  refine takeT (i := 3) (v := ?_) rfl ?hy ?_
  case hy => intro wS; go_simp; try with_reducible rfl
  refine takeM (i := 4) (v := ?_) rfl hX ?hy ?_
  case hy =>
    intro wS hSw
    obtain ⟨⟨x0, x1, x2, x3⟩, x4, x5⟩ := id hSw
    clear hSw
    go_simp
    try with_reducible rfl
  refine takeM (i := 5) (v := ?_) rfl hX ?hy ?_
  case hy =>
    intro wS hSw
    obtain ⟨⟨x0, x1, x2, x3⟩, x4, x5⟩ := id hSw
    clear hSw
    go_simp
    try with_reducible rfl
  try simp only [List.getElem_toArray, List.getElem_cons_succ, List.getElem_cons_zero, Act.put, List.setIfInBounds_toArray, List.set_cons_zero, List.set_cons_succ]
  refine readyF (rs := [6]) (by kernel_rfl) (by simp) ?_
  refine AllF.cons rfl (fun K hK => ?_) AllF.nil
  go_simp
  have co := sone_any w8 A3 n3 c3 A4 n4 c4 x s3 s4 hn3 hn4
  unfold GotSpan at co
  rw [Hd.out] at co
  refine co.mono ?_
  clear co
  rintro e w8_6 ⟨A5, n5, c5, A6, n6, c6, rfl, ho5, ho6, hb⟩
  refine hK _ _ (fun _ h => h.below hb) ?_
  clear hK K
  have hg9 : g < w8.heap.size := World.block_lt_of_cell? _ _ hX.2.1
  have hX := hX.below hb
  have hoZ := hoZ.below hb
  have hq := hq.trans (hb.mono (Nat.le_of_lt hg9))
  refine readyF (rs := [7]) (by kernel_rfl) (by simp) ?_
  refine AllF.cons rfl (fun K hK => ?_) AllF.nil
  go_simp
  refine hK _ _ (fun _ h => h.below ((Below.refl w8_6.heap.size w8_6).alloc (Nat.le_refl _) (.cells #[.slice A5 n5 c5, .slice A6 n6 c6, .int .u64 (d : Int)] 72))) ?_
  clear hK K
  have hb := (Below.refl w8_6.heap.size w8_6).alloc (Nat.le_refl _) (.cells #[.slice A5 n5 c5, .slice A6 n6 c6, .int .u64 (d : Int)] 72)
  have hrow := spanRowZ w8_6 x d Hd.out (g + 1) w8.heap.size (blk A c) (by omega) (fun b q => hlt8 b q) A5 n5 c5 A6 n6 c6 ho5 ho6 72
  generalize (w8_6.alloc (.cells #[.slice A5 n5 c5, .slice A6 n6 c6, .int .u64 (d : Int)] 72)) = w8_6_7 at *
  have hg9 : g < w8_6.heap.size := World.block_lt_of_cell? _ _ hX.2.1
  have hX := hX.below hb
  have hoZ := hoZ.below hb
  have hq := hq.trans (hb.mono (Nat.le_of_lt hg9))
  clear hb ho5 ho6
  refine readyF (rs := [8]) (by kernel_rfl) (by simp) ?_
  refine AllF.cons rfl (fun K hK => ?_) AllF.nil
  refine step_appZ (α := SpanL) (by rfl) (.tmp 17) (.tmp 20) 23 (by rfl) (g + 1) 72 _ 56 Tryz.underlying23 infoSpan rfl A n c _ (by rfl) hoZ _ 1 1 [x] (by rfl) hrow (by unfold maxLen; omega) (by omega) (by have : g < w8_6_7.heap.size := World.block_lt_of_cell? _ _ hX.2.1; omega) ?_
  intro A9 c9 w8_6_7_8 ho9 hg _
  refine hK _ _ (fun _ h => h.grown hg hngs (fun q => by have := (hoZ.lt _ q).1; omega)) ?_
  clear hK K
  have hg9 : g < w8_6_7.heap.size := World.block_lt_of_cell? _ _ hX.2.1
  have hX := hX.grown hg (fun q => hngs q) (fun q => by have := (hoZ.lt _ q).1; omega)
  have hq := hq.grown hg (Nat.le_of_lt hg9) (fun b q => by have := (hoZ.lt _ q).1; omega)
  clear hg hrow hoZ
  refine takeT (i := 9) (v := ?_) rfl ?hy ?_
  case hy => intro wS; go_simp; try with_reducible rfl
  refine takeT (i := 10) (v := ?_) rfl ?hy ?_
  case hy => intro wS; go_simp; try with_reducible rfl
  try simp only [List.getElem_toArray, List.getElem_cons_succ, List.getElem_cons_zero, Act.put, List.setIfInBounds_toArray, List.set_cons_zero, List.set_cons_succ]
  refine readyF (rs := [11]) (by kernel_rfl) (by simp) ?_
  refine AllF.cons rfl (fun K hK => ?_) AllF.nil
  obtain ⟨y0, y1, y2⟩ := id hX
  go_simp
  refine hK _ _ (fun q => absurd rfl q) ?_
  clear hK K
  refine doneF (by kernel_rfl) ?_ _
  try simp only [List.getElem_toArray, List.getElem_cons_succ, List.getElem_cons_zero, Act.put, List.setIfInBounds_toArray, List.set_cons_zero, List.set_cons_succ]
  have hq2 : Below g w (w8_6_7_8.setCell ⟨g, 0, none⟩ (.slice A9 (n + 1) c9)) := hq.setCell (p := ⟨g, 0, none⟩) (Nat.le_refl g) _
  have hset : SetIs (w8_6_7_8.setCell ⟨g, 0, none⟩ (.slice A9 (n + 1) c9)) g (ls ++ [x]) := ⟨A9, n + 1, c9, set_same hX.2.1 _, (by simp [hX.2.2]), ho9.setLow (by omega) _⟩
  have Hq := Lib.hid hq2
  have HS := Lib.hid hset
  clear hq2 hset hX ho9 hq
  go_wp2
  go_ret
  try rw [if_pos (by rfl)]
  refine ⟨?_, HS.out, Hq.out⟩
  first | rfl | go_simp
/-- what New gives back: the right ones, in memory of its own -/
def GotSet (w : World) (ls : List SpanL) (e : Ending) (w' : World) : Prop := ∃ g, e = .returned (.pointer (some ⟨g, 0, none⟩)) ∧ w.heap.size ≤ g ∧ SetIs w' g ls ∧ Below w.heap.size w w'
theorem setCell1 (w : World) (v : Value) (e : TypeId) : (w.alloc (.cells #[v] e)).cell? ⟨w.heap.size, 0, none⟩ = some v ∧ (w.alloc (.cells #[v] e)).frozen? ⟨w.heap.size, 0, none⟩ = false := by
  have h := boxed (Below.refl _ _) (box1 w (.cells #[v] e))
  exact ⟨h.1 0 _ rfl, h.2 0⟩
set_option maxHeartbeats 8000000 in
theorem new_any (w : World) (p : Nat → Prop) (A : Option Addr) (n c : Nat) (ls : List SpanL) (h : SlR w p A n c ls) (hn : n ≤ 1000000) (hb : ∀ s ∈ ls, s.lo.length ≤ 1000000 ∧ s.hi.length ≤ 1000000) :
    Calls Tryz.prog 66 #[.slice A n c] w (GotSet w (rightSpans ls)) := by
  have hcp := h.cap
  unfold maxLen at hcp
  have hl := h.lenR
  have Hl := Lib.hid hl
  have Hb := Lib.hid hb
  clear hl hb
  unfold GotSet
  have al := (Below.refl w.heap.size w).alloc (Nat.le_refl _) (.cells #[.slice none 0 0] 147)
  have hc0 := setCell1 w (.slice none 0 0) 147
  have hS : SetIs (w.alloc (.cells #[.slice none 0 0] 147)) w.heap.size [] := ⟨none, 0, 0, hc0.1, hc0.2, OwnZ.nil _ _ _ _⟩
  go_enter Tryz.func66, Tryz.ntmps66
  go_wp2_with fail
  generalize hW : (w.alloc (.cells #[.slice none 0 0] 147)) = w1 at *
  clear hc0
  go_loopw [10] (fun q wr => ∃ j : Nat, j ≤ n ∧ q = .int .i64 j ∧ Below w.heap.size w wr ∧ SetIs wr w.heap.size (rightSpans (ls.take j))) (fun q _ => n - (intOf q).toNat)
  case atStart => exact ⟨0, Nat.zero_le _, rfl, al, hS⟩
  case round =>
    clear hS al hW
    obtain ⟨j, hj, rfl, hbr, hS⟩ := hrel
    by_cases hlt : j < n
    case neg =>
      obtain rfl : n = j := by omega
      rw [List.take_of_length_le (by have := Hl.out; omega)] at hS
      have HS := Lib.hid hS
      clear hS h
      go_wp2
      go_ret
      exact ⟨_, rfl, Nat.le_refl _, HS.out, hbr⟩
    obtain ⟨b, o, A3, n3, c3, A4, n4, c4, hjl, rfl, d0, d1, d2, s3, h3, s4, h4⟩ := (h.below hbr).spanAt hlt
    have hst := right_step ls j hjl
    obtain ⟨hx3, hx4⟩ := Hb.out ls[j] (List.getElem_mem hjl)
    have hrl : (rightSpans (ls.take j)).length ≤ 1000000 := by
      have h2 := List.length_filter_le (fun s => decide (checkSpanL s = 0)) (ls.take j)
      unfold rightSpans
      rw [List.length_take] at h2
      omega
    generalize ls[j] = x at *
    have hl3 := s3.lenb
    have hl4 := s4.lenb
    have al2 := (Below.refl wr.heap.size wr).alloc (Nat.le_refl _) (.cells #[.slice A3 n3 c3, .slice A4 n4 c4, .int .u64 (x.seq.toNat : Int)] 72)
    have ca := add_any (wr.alloc (.cells #[.slice A3 n3 c3, .slice A4 n4 c4, .int .u64 (x.seq.toNat : Int)] 72)) w.heap.size _ (hS.below al2) hrl A3 n3 c3 A4 n4 c4 x (s3.below (by omega) al2) (s4.below (by omega) al2) (by omega) (by omega)
    have kB := Bx.fresh wr (.slice A3 n3 c3) (.slice A4 n4 c4) (.int .u64 (x.seq.toNat : Int)) 72
    have es : (if checkSpanL x = 0 then rightSpans (ls.take j) ++ [x] else rightSpans (ls.take j)) = rightSpans (ls.take (j + 1)) := hst.symm
    rw [es] at ca
    generalize x.seq.toNat = s at *
    generalize checkSpanL x = r at *
    have hgr := hS.lt
    have hbr := hbr.trans (al2.mono hbr.size)
    generalize hW2 : (wr.alloc (.cells #[.slice A3 n3 c3, .slice A4 n4 c4, .int .u64 (s : Int)] 72)) = w2 at *
    have Ca := Lib.hid ca
    clear ca hst es al2 hS hl3 hl4 s3 s4 hx3 hx4 h3 h4
    obtain ⟨x0, x1, x2, x3⟩ := id kB
    go_wp2_with fail
    try rw [hW2]
    refine Ca.out.mono ?_
    rintro e w3 ⟨rfl, hS, hb3⟩
    have HS := Lib.hid hS
    have hbr := hbr.trans hb3
    clear x0 x1 x2 x3 kB d0 d1 d2 Ca hS hW2 hb3
    go_wp2
    go_roundw
    case rel => exact ⟨j + 1, by omega, by go_num, hbr, HS.out⟩
    case measure => simp [intOf]; omega
theorem cov_step (key : List UInt8) (seq : Nat) (ls : List SpanL) (j : Nat) (hj : j < ls.length) : coverL (ls.take (j + 1)) key seq = covStep key seq (coverL (ls.take j) key seq) ls[j] := by
  unfold coverL
  rw [take_snoc _ _ hj, List.foldl_append]
  rfl
theorem cov_le (key : List UInt8) (seq : Nat) : ∀ (ls : List SpanL) (b : Nat), b < 18446744073709551616 → ls.foldl (covStep key seq) b < 18446744073709551616
  | [], b, h => h
  | s :: ls, b, h => cov_le key seq ls _ (by unfold covStep; have := s.seq.toNat_lt; split <;> omega)
set_option maxHeartbeats 8000000 in
theorem cover_any (w : World) (g : Nat) (ls : List SpanL) (hS : SetIs w g ls) (K : Option Addr) (k ck : Nat) (key : List UInt8) (hk : Sl w 1 K k ck (bc key)) (seq : Nat) (hs : seq < 18446744073709551616) :
    Calls Tryz.prog 60 #[.pointer (some ⟨g, 0, none⟩), .slice K k ck, .int .u64 (seq : Int)] w fun e w' => e = .returned (.int .u64 (coverL ls key seq : Nat)) ∧ Below w.heap.size w w' := by
  obtain ⟨A, n, c, hC, hfz, hoZ⟩ := hS
  have h := hoZ.sl
  have hl := h.lenR
  have hcp := h.cap
  unfold maxLen at hcp
  have Hl := Lib.hid hl
  obtain ⟨r, hr⟩ : ∃ r, coverL ls key seq = r := ⟨_, rfl⟩
  rw [hr]
  have Hr := Lib.hid hr
  clear hl hoZ hfz hr
  go_enter Tryz.func60, Tryz.ntmps60
  go_wp2
  go_loopw [7, 17] (fun bv q wr => ∃ j bb : Nat, j ≤ n ∧ q = .int .i64 j ∧ bv = .int .u64 (bb : Int) ∧ Below w.heap.size w wr ∧ Hid (coverL (ls.take j) key seq = bb)) (fun _ q _ => n - (intOf q).toNat)
  case atStart => exact ⟨0, 0, Nat.zero_le _, rfl, rfl, Below.refl _ _, Lib.hid rfl⟩
  case round =>
    obtain ⟨j, bb, hj, rfl, rfl, hbr, HB⟩ := hrel
    by_cases hlt : j < n
    case neg =>
      obtain rfl : n = j := by omega
      have hB := HB.out
      rw [List.take_of_length_le (by have := Hl.out; omega), Hr.out] at hB
      subst hB
      clear HB
      go_wp2
      go_ret
      exact ⟨rfl, hbr⟩
    obtain ⟨b, o, A3, n3, c3, A4, n4, c4, hjl, rfl, d0, d1, d2, s3, h3, s4, h4⟩ := (h.below hbr).spanAt hlt
    have hst := cov_step key seq ls j hjl
    rw [HB.out] at hst
    unfold covStep at hst
    generalize ls[j] = x at *
    have hbl : bb < 18446744073709551616 := by rw [← HB.out]; exact cov_le key seq _ 0 (by omega)
    have hxl := x.seq.toNat_lt
    have al2 := (Below.refl wr.heap.size wr).alloc (Nat.le_refl _) (.cells #[.slice A3 n3 c3, .slice A4 n4 c4, .int .u64 (x.seq.toNat : Int)] 72)
    have cc := covers_any (wr.alloc (.cells #[.slice A3 n3 c3, .slice A4 n4 c4, .int .u64 (x.seq.toNat : Int)] 72)) A3 n3 c3 A4 n4 c4 x (s3.below (by omega) al2) (s4.below (by omega) al2) K k ck key (hk.below (by omega) (hbr.trans (al2.mono hbr.size)))
    have kB := Bx.fresh wr (.slice A3 n3 c3) (.slice A4 n4 c4) (.int .u64 (x.seq.toNat : Int)) 72
    generalize x.seq.toNat = s at *
    generalize coversS x key = cv at *
    have hbr := hbr.trans (al2.mono hbr.size)
    generalize hW2 : (wr.alloc (.cells #[.slice A3 n3 c3, .slice A4 n4 c4, .int .u64 (s : Int)] 72)) = w2 at *
    have Cc := Lib.hid cc
    have Hst := Lib.hid hst
    clear cc hst al2 s3 s4 h3 h4 HB
    obtain ⟨x0, x1, x2, x3⟩ := id kB
    by_cases hle : s ≤ seq
    case neg =>
      have t1 : decide ((s : Int) ≤ (seq : Int)) = false := decide_eq_false (by omega)
      have hst : coverL (ls.take (j + 1)) key seq = bb := by rw [Hst.out, if_neg (by omega)]
      clear Hst
      have Hst := Lib.hid hst
      clear hst Cc
      go_wp2
      go_roundw
      case rel => exact ⟨j + 1, bb, by omega, by go_num, rfl, hbr, Lib.hid Hst.out⟩
      case measure => simp [intOf]; omega
    have t1 : decide ((s : Int) ≤ (seq : Int)) = true := decide_eq_true (by omega)
    go_wp2_with fail
    try rw [hW2]
    refine Cc.out.mono ?_
    rintro e w3 ⟨rfl, hb3⟩
    have kB := kB.below hb3
    have hbr := hbr.trans (hb3.mono hbr.size)
    clear x0 x1 x2 x3 d0 d1 d2 Cc hb3
    obtain ⟨x0, x1, x2, x3⟩ := id kB
    cases cv
    case false =>
      have hst : coverL (ls.take (j + 1)) key seq = bb := by rw [Hst.out]; simp
      clear Hst
      have Hst := Lib.hid hst
      clear hst
      go_wp2
      go_roundw
      case rel => exact ⟨j + 1, bb, by omega, by go_num, rfl, hbr, Lib.hid Hst.out⟩
      case measure => simp [intOf]; omega
    have hst : coverL (ls.take (j + 1)) key seq = max bb s := by rw [Hst.out]; simp [hle]
    clear Hst
    have Hst := Lib.hid hst
    clear hst
    by_cases hm : bb < s
    case pos =>
      have q1 : max bb s = s := Nat.max_eq_right (by omega)
      have q2 : (bb : Int) < (s : Int) := by omega
      have q3 : decide ((bb : Int) < (s : Int)) = true := decide_eq_true q2
      have HQ := Lib.hid q1
      clear q1
      go_wp2
      go_roundw
      case rel => exact ⟨j + 1, s, by omega, by go_num, rfl, hbr, Lib.hid (Hst.out.trans HQ.out)⟩
      case measure => simp [intOf]; omega
    have q1 : max bb s = bb := Nat.max_eq_left (by omega)
    have q2 : ¬ (bb : Int) < (s : Int) := by omega
    have q3 : decide ((bb : Int) < (s : Int)) = false := decide_eq_false q2
    have HQ := Lib.hid q1
    clear q1
    go_wp2
    go_roundw
    case rel => exact ⟨j + 1, bb, by omega, by go_num, rfl, hbr, Lib.hid (Hst.out.trans HQ.out)⟩
    case measure => simp [intOf]; omega
/-- spans that a call gives back, in memory of its own -/
def NewSpans (w : World) (ls : List SpanL) (e : Ending) (w' : World) : Prop := ∃ A n c, e = .returned (.slice A n c) ∧ SlR w' (fun b => w.heap.size ≤ b) A n c ls ∧ Below w.heap.size w w'
set_option maxHeartbeats 8000000 in
theorem all_any (w : World) (g : Nat) (ls : List SpanL) (hS : SetIs w g ls) (hn : ls.length ≤ 1000000) (hb : ∀ s ∈ ls, s.lo.length ≤ 1000000 ∧ s.hi.length ≤ 1000000) :
    Calls Tryz.prog 74 #[.pointer (some ⟨g, 0, none⟩)] w (NewSpans w ls) := by
  obtain ⟨A, n, c, hC, hfz, hoZ⟩ := hS
  have h := hoZ.sl
  have hl := h.lenR
  have hcp := h.cap
  unfold maxLen at hcp
  have hn : n ≤ 1000000 := by omega
  have Hl := Lib.hid hl
  have Hb := Lib.hid hb
  clear hl hoZ hfz hb
  unfold NewSpans
  go_enter Tryz.func74, Tryz.ntmps74
  go_wp2
  go_loopw [3, 13] (fun sv q wr => ∃ j : Nat, j ≤ n ∧ q = .int .i64 j ∧ Below w.heap.size w wr ∧ ∃ A2 n2 c2, sv = .slice A2 n2 c2 ∧ OwnZ wr w.heap.size 72 A2 n2 c2 (ls.take j)) (fun _ q _ => n - (intOf q).toNat)
  case atStart => exact ⟨0, Nat.zero_le _, rfl, Below.refl _ _, none, 0, 0, rfl, OwnZ.nil _ _ _ _⟩
  case round =>
    obtain ⟨j, hj, rfl, hbr, A2, n2, c2, rfl, ho2⟩ := hrel
    by_cases hlt : j < n
    case neg =>
      obtain rfl : n = j := by omega
      rw [List.take_of_length_le (by have := Hl.out; omega)] at ho2
      have Ho2 := Lib.hid ho2
      clear ho2 hC
      go_wp2
      go_ret
      exact ⟨A2, n2, c2, rfl, Ho2.out.slB, hbr⟩
    have hn2 : n2 ≤ 1000000 := by have h1 := ho2.lenR; rw [List.length_take] at h1; omega
    obtain ⟨b, o, A3, n3, c3, A4, n4, c4, hjl, rfl, d0, d1, d2, s3, h3, s4, h4⟩ := (h.below hbr).spanAt hlt
    have hst : ls.take (j + 1) = ls.take j ++ [ls[j]] := List.take_succ_eq_append_getElem hjl
    obtain ⟨hx3, hx4⟩ := Hb.out ls[j] (List.getElem_mem hjl)
    generalize ls[j] = x at *
    have hl3 := s3.lenb
    have hl4 := s4.lenb
    have al2 := (Below.refl wr.heap.size wr).alloc (Nat.le_refl _) (.cells #[.slice A3 n3 c3, .slice A4 n4 c4, .int .u64 (x.seq.toNat : Int)] 72)
    have co := sone_any (wr.alloc (.cells #[.slice A3 n3 c3, .slice A4 n4 c4, .int .u64 (x.seq.toNat : Int)] 72)) A3 n3 c3 A4 n4 c4 x (s3.below (by omega) al2) (s4.below (by omega) al2) (by omega) (by omega)
    unfold GotSpan at co
    have kB := Bx.fresh wr (.slice A3 n3 c3) (.slice A4 n4 c4) (.int .u64 (x.seq.toNat : Int)) 72
    generalize hs : x.seq.toNat = s at *
    have ho2 := ho2.below al2
    have hbr := hbr.trans (al2.mono hbr.size)
    generalize hW2 : (wr.alloc (.cells #[.slice A3 n3 c3, .slice A4 n4 c4, .int .u64 (s : Int)] 72)) = w2 at *
    have Co := Lib.hid co
    have Hst := Lib.hid hst
    have Hs := Lib.hid hs
    clear co hst hs al2 hl3 hl4 s3 s4 hx3 hx4 h3 h4
    obtain ⟨x0, x1, x2, x3⟩ := id kB
    go_wp2_with fail
    try rw [hW2]
    refine Co.out.mono ?_
    rintro e w3 ⟨A5, n5, c5, A6, n6, c6, rfl, ho5, ho6, hb3⟩
    have hlt2 : ∀ b, blk A2 c2 = some b → b < w2.heap.size := fun b q => (ho2.lt b q).2
    have hbs := hbr.size
    have ho2 := ho2.below hb3
    have hbr := hbr.trans (hb3.mono hbr.size)
    have hrow := spanRowZ w3 x s Hs.out w.heap.size w2.heap.size (blk A2 c2) hbs hlt2 A5 n5 c5 A6 n6 c6 ho5 ho6 72
    have al3 := (Below.refl w3.heap.size w3).alloc (Nat.le_refl _) (.cells #[.slice A5 n5 c5, .slice A6 n6 c6, .int .u64 (s : Int)] 72)
    have ho2 := ho2.below al3
    have hbr := hbr.trans (al3.mono hbr.size)
    clear x0 x1 x2 x3 kB d0 d1 d2 Co hb3 ho5 ho6 hlt2 al3
    go_wp2_with (at_builtin; refine wpList_appZ _ rfl (.tmp 17) (.tmp 20) 23 rfl w.heap.size 72 _ 56 Tryz.underlying23 infoSpan rfl A2 n2 c2 _ rfl ho2 _ 1 1 [x] rfl hrow ?_ ?_ ?_ ?_)
    · unfold maxLen; omega
    · omega
    · exact hbr.size
    intro A9 c9 w9 ho9 hg9 _
    have hbr9 := hbr.grown hg9 hbr.size (fun b hb => (ho2.lt b hb).1)
    rw [← Hst.out] at ho9
    clear hrow ho2 hg9
    go_wp2
    go_roundw
    case rel => exact ⟨j + 1, by omega, by go_num, hbr9, A9, _, c9, rfl, ho9⟩
    case measure => simp [intOf]; omega
end Go.Proofs.YtpffieogkfndaaaGreatDoor
