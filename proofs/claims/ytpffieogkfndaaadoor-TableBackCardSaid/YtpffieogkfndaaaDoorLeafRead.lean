/-
  leaf.Read: the leaf of bytes. (Printed by genleaf10.py.) No condition but a size.
-/
import Derived.Test.YtpffieogkfndaaaDoorLeafEntry
import Derived.Test.YtpffieogkfndaaaDoorLeafBuild
import Derived.Test.YtpffieogkfndaaaDoorJKeyReadW
namespace Go.Proofs.YtpffieogkfndaaaDoor
open Go.RowKit
set_option maxRecDepth 20000
set_option linter.unusedVariables false
set_option linter.unusedSimpArgs false
theorem i64_or_nat2 (x y : Nat) (hx : x < 65536) (hy : y < 65536) : bits .or .i64 (x : Int) (y : Int) = ((x ||| y : Nat) : Int) := by
  have hz : x ||| y < 2 ^ 16 := Nat.or_lt_two_pow (by omega) (by omega)
  show IntKind.i64.wrap ((BitVec.ofInt 64 (x : Int) ||| BitVec.ofInt 64 (y : Int)).toNat : Int) = _
  rw [BitVec.toNat_or, ofInt_u64 x (by omega), ofInt_u64 y (by omega), IntKind.wrap_i64]
  omega
def contP (outs : List EntL) (o : Option (List EntL)) : Option (List EntL) := o.map (outs ++ ·)
theorem contP_nil (o : Option (List EntL)) : contP [] o = o := by cases o <;> rfl
theorem contP_step (outs : List EntL) (fb rest : List UInt8) (h0 : rest.length ≠ 0) :
    (entryL fb rest = none → contP outs (parseL false (64 - outs.length) fb rest) = none) ∧
    (∀ e g q, entryL fb rest = some (e, g, q) → outs.length < 64 → contP outs (parseL false (64 - outs.length) fb rest) = contP (outs ++ [e]) (parseL false (64 - (outs ++ [e]).length) g q)) ∧
    (∀ e g q, entryL fb rest = some (e, g, q) → 64 ≤ outs.length → contP outs (parseL false (64 - outs.length) fb rest) = none) := by
  refine ⟨fun h => ?_, fun e g q h hl => ?_, fun e g q h hl => ?_⟩
  · cases 64 - outs.length with
    | zero => simp [parseL, h0, contP]
    | succ k => simp [parseL, h0, h, contP]
  · obtain ⟨k, hk⟩ : ∃ k, 64 - outs.length = k + 1 := ⟨63 - outs.length, by omega⟩
    have hk2 : 64 - (outs ++ [e]).length = k := by rw [List.length_append]; simp; omega
    rw [hk, hk2]
    simp only [parseL]
    rw [if_neg h0, h]
    simp only
    cases parseL false k g q with
    | none => rfl
    | some l => simp [contP]
  · rw [show 64 - outs.length = 0 by omega]
    simp [parseL, h0, contP]
/-- entries and an error's number that a call gives back; they lie in new memory -/
def GotEnts (w : World) (r : Option (List EntL)) (e : Ending) (w' : World) : Prop :=
  ∃ A n c, e = .returned (.tuple #[.slice A n c, .int .i64 ((if r.isSome then 0 else 4 : Nat) : Int)]) ∧ SlR w' (fun b => w.heap.size ≤ b) A n c (r.getD []) ∧ Below w.heap.size w w'
set_option maxHeartbeats 32000000 in
theorem lread_any (w : World) (A : Option Addr) (n c : Nat) (p : List UInt8) (h : Sl w 1 A n c (bc p)) (hn : n ≤ 65536) :
    Calls Tryd.prog 84 #[.slice A n c] w (GotEnts w (readLeafL p)) := by
  have hl := h.lenb
  obtain ⟨r, hr⟩ : ∃ r, readLeafL p = r := ⟨_, rfl⟩
  rw [hr]
  unfold readLeafL readLeafX at hr
  rw [hl] at hr
  have hcp := h.cap
  have hcm := h.capm
  unfold maxLen at hcm
  by_cases h2 : n < 2
  case pos =>
    have er : none = r := by rw [← hr, if_pos (.inl h2)]
    subst er
    have i1 : decide ((n : Int) < 2) = true := decide_eq_true (by omega)
    clear hr hl h
    go_enter Tryd.func84, Tryd.ntmps84
    go_wp2
    go_ret2
    exact ⟨none, 0, 0, rfl, SlR.nilnil _ _, Below.refl _ _⟩
  have i1 : decide ((n : Int) < 2) = false := decide_eq_false (by omega)
  obtain ⟨m2, hm2⟩ : ∃ m2, n - 2 = m2 := ⟨_, rfl⟩
  obtain ⟨m1, hm1⟩ : ∃ m1, n - 1 = m1 := ⟨_, rfl⟩
  obtain ⟨b0, o0, x0, rfl, hx0, hxl0, k0⟩ := h.byte (k := m2) (by omega)
  obtain ⟨b1, o1, x1, hA1, hx1, hxl1, k1⟩ := h.byte (k := m1) (by omega)
  obtain ⟨rfl, rfl⟩ : b0 = b1 ∧ o0 = o1 := by simpa using hA1
  obtain ⟨E, hE⟩ : ∃ E, endN p = E := ⟨_, rfl⟩
  have hE2 : E = x0 + 256 * x1 := by
    rw [← hE]
    unfold endN
    rw [hl, List.getD_eq_getElem?_getD, List.getD_eq_getElem?_getD, hm2, hm1, List.getElem?_eq_getElem (by omega), List.getElem?_eq_getElem (by omega)]
    simp only [Option.getD_some]
    rw [hx0, hx1]
  rw [hE] at hr
  have hw2 : IntKind.i64.wrap ((n : Int) - 2) = (m2 : Int) := by rw [IntKind.wrap_i64]; omega
  have hw1 : IntKind.i64.wrap ((n : Int) - 1) = (m1 : Int) := by rw [IntKind.wrap_i64]; omega
  have hb0 : IntKind.i64.wrap (x0 : Int) = (x0 : Int) := by rw [IntKind.wrap_i64]; omega
  have hb1 : IntKind.i64.wrap (x1 : Int) = (x1 : Int) := by rw [IntKind.wrap_i64]; omega
  have hb2 : IntKind.i64.wrap ((x1 : Int) * 256) = ((x1 * 256 : Nat) : Int) := by rw [IntKind.wrap_i64]; omega
  have hor : bits .or .i64 (x0 : Int) ((x1 * 256 : Nat) : Int) = (E : Int) := by
    rw [i64_or_nat2 x0 (x1 * 256) (by omega) (by omega), Nat.or_comm, nat_join 8 _ _ (by omega) (by omega), hE2]
    congr 1
    omega
  have hEb : E ≤ 65535 := by omega
  generalize hxx : x1 * 256 = xx at *
  have k0 : (World.drew w).cell? _ = _ := k0
  have k1 : (World.drew w).cell? _ = _ := k1
  have Hh := Lib.hid h
  have Hm2 := Lib.hid hm2
  have Hm1 := Lib.hid hm1
  have hm1n : m1 < n := by omega
  have hm2n : m2 < n := by omega
  have Hr0 := Lib.hid hr
  clear hr hE hE2 hx0 hx1 hA1 hm2 hm1 hxx hl h
  go_enter Tryd.func84, Tryd.ntmps84
  go_wp2_with fail
  have hq := below_drew (Below.refl w.heap.size w)
  generalize hW : World.drew w = w0 at *
  refine regionF (fun _ wa wb => Below w0.heap.size w0 wa → Below w0.heap.size w0 wb) (by kernel_rfl) ?_
  rw [hW]
  clear hW
  have hX := Below.refl w0.heap.size w0
  refine takeP (i := 0) (v := ?_) rfl hX ?hy ?_
  case hy =>
    intro wS hSw
    clear hSw
    go_simp
    try with_reducible rfl
  refine takeP (i := 1) (v := ?_) rfl hX ?hy ?_
  case hy =>
    intro wS hSw
    clear hSw
    go_simp
    try with_reducible rfl
  refine takeP (i := 2) (v := ?_) rfl hX ?hy ?_
  case hy =>
    intro wS hSw
    clear hSw
    go_simp
    try with_reducible rfl
  refine takeP (i := 3) (v := ?_) rfl hX ?hy ?_
  case hy =>
    intro wS hSw
    clear hSw
    go_simp
    try with_reducible rfl
  refine takeP (i := 4) (v := ?_) rfl hX ?hy ?_
  case hy =>
    intro wS hSw
    clear hSw
    go_simp
    try with_reducible rfl
  refine takeP (i := 5) (v := ?_) rfl hX ?hy ?_
  case hy =>
    intro wS hSw
    have k0 := stays hSw k0
    clear hSw
    go_simp
    try with_reducible rfl
  refine takeP (i := 6) (v := ?_) rfl hX ?hy ?_
  case hy =>
    intro wS hSw
    clear hSw
    go_simp
    try with_reducible rfl
  refine takeP (i := 7) (v := ?_) rfl hX ?hy ?_
  case hy =>
    intro wS hSw
    clear hSw
    go_simp
    try with_reducible rfl
  refine takeP (i := 8) (v := ?_) rfl hX ?hy ?_
  case hy =>
    intro wS hSw
    clear hSw
    go_simp
    try with_reducible rfl
  refine takeP (i := 9) (v := ?_) rfl hX ?hy ?_
  case hy =>
    intro wS hSw
    clear hSw
    go_simp
    try with_reducible rfl
  refine takeP (i := 10) (v := ?_) rfl hX ?hy ?_
  case hy =>
    intro wS hSw
    clear hSw
    go_simp
    try with_reducible rfl
  refine takeP (i := 11) (v := ?_) rfl hX ?hy ?_
  case hy =>
    intro wS hSw
    clear hSw
    go_simp
    try with_reducible rfl
  refine takeP (i := 12) (v := ?_) rfl hX ?hy ?_
  case hy =>
    intro wS hSw
    have k1 := stays hSw k1
    clear hSw
    go_simp
    try with_reducible rfl
  refine takeP (i := 13) (v := ?_) rfl hX ?hy ?_
  case hy =>
    intro wS hSw
    clear hSw
    go_simp
    try with_reducible rfl
  refine takeP (i := 14) (v := ?_) rfl hX ?hy ?_
  case hy =>
    intro wS hSw
    clear hSw
    go_simp
    try with_reducible rfl
  refine takeP (i := 15) (v := ?_) rfl hX ?hy ?_
  case hy =>
    intro wS hSw
    clear hSw
    go_simp
    try with_reducible rfl
  refine takeP (i := 16) (v := ?_) rfl hX ?hy ?_
  case hy =>
    intro wS hSw
    clear hSw
    go_simp
    try with_reducible rfl
  try simp only [List.getElem_toArray, List.getElem_cons_succ, List.getElem_cons_zero, Act.put, List.setIfInBounds_toArray, List.set_cons_zero, List.set_cons_succ]
  refine doneF (by kernel_rfl) ?_ _
  try simp only [List.getElem_toArray, List.getElem_cons_succ, List.getElem_cons_zero, Act.put, List.setIfInBounds_toArray, List.set_cons_zero, List.set_cons_succ]
  have hq := hq.trans (hX.mono hq.size)
  clear hX k0 k1 hw1 hb0 hb1 hb2 hor
  obtain ⟨z, hz⟩ : ∃ z : Int, (n : Int) - 2 - 2 * (E : Int) = z := ⟨_, rfl⟩
  have hz1 : (m2 : Int) - 2 * (E : Int) = z := by have := Hm2.out; omega
  by_cases hz0 : z < 0
  case pos =>
    have er : none = r := by rw [← Hr0.out, if_pos (.inr (.inl (by omega)))]
    subst er
    have i2 : decide (z < 0) = true := decide_eq_true hz0
    have Hz := Lib.hid hz
    go_wp2
    go_ret2
    exact ⟨none, 0, 0, rfl, SlR.nilnil _ _, hq⟩
  obtain ⟨m, hm⟩ : ∃ m : Nat, z = (m : Int) := Int.eq_ofNat_of_zero_le (by omega)
  subst hm
  have i2 : decide ((m : Int) < 0) = false := decide_eq_false hz0
  by_cases hE16 : E ≤ 16
  case neg =>
    have er : none = r := by rw [← Hr0.out, if_pos (.inr (.inr (by omega)))]
    subst er
    have i3 : decide ((16 : Int) < (E : Int)) = true := decide_eq_true (by omega)
    have Hz := Lib.hid hz
    go_wp2
    go_ret2
    exact ⟨none, 0, 0, rfl, SlR.nilnil _ _, hq⟩
  have i3 : decide ((16 : Int) < (E : Int)) = false := decide_eq_false (by omega)
  have hr := Hr0.out
  rw [if_neg (by omega), show n - 2 - 2 * E = m by omega] at hr
  have hmn : m ≤ n := by omega
  obtain ⟨hrc, sc⟩ := cutH (Hh.out.below (by omega) hq) .i64 (m : Int) m rfl hmn
  generalize hP0 : p.take m = P0 at *
  have hl0 := sc.lenb
  have Hr := Lib.hid hr.symm
  have Hl0 := Lib.hid hl0
  have hmb : m ≤ 65536 := by omega
  clear hr hP0 hl0 Hr0
  go_wp2
  go_loopw [6, 7, 8] (fun o f q wr => Below w.heap.size w wr ∧ ∃ A2 n2 c2 outs A3 n3 c3 fb A4 n4 c4 rest, o = .slice A2 n2 c2 ∧ OwnZ wr w.heap.size 45 A2 n2 c2 outs ∧ outs.length ≤ 64 ∧ f = .slice A3 n3 c3 ∧ Sl wr 1 A3 n3 c3 (bc fb) ∧ q = .slice A4 n4 c4 ∧ Sl wr 1 A4 n4 c4 (bc rest) ∧
      (∀ b, ((0 < n3 ∧ A3.map (·.block) = some b) ∨ (0 < n4 ∧ A4.map (·.block) = some b)) → blk A2 c2 ≠ some b) ∧ fb.length + rest.length ≤ 65536 ∧ Hid (parseL false 64 [] P0 = contP outs (parseL false (64 - outs.length) fb rest))) (fun _ _ q _ => lenOfV q)
  case atStart => exact ⟨hq, none, 0, 0, [], none, 0, 0, [], _, _, _, P0, rfl, OwnZ.nil _ _ _ _, by simp, rfl, sl_none _, rfl, sc, fun b _ e => by simp [blk] at e, by have := Hl0.out; simp; omega, Lib.hid (by rw [contP_nil]; rfl)⟩
  case round =>
    clear sc hq hrc
    obtain ⟨hbr, A2, n2, c2, outs, A3, n3, c3, fb, A4, n4, c4, rest, rfl, ho2, hol, rfl, s3, rfl, s4, hsep, hlen, Hp⟩ := hrel
    have hn2 := ho2.lenR
    have hn3 := s3.lenb
    have hn4 := s4.lenb
    by_cases h0 : n4 = 0
    case pos =>
      subst h0
      have hpp : parseL false 64 [] P0 = some outs := by
        rw [Hp.out]
        have : parseL false (64 - outs.length) fb rest = some [] := by
          cases 64 - outs.length <;> simp [parseL, hn4]
        rw [this]
        simp [contP]
      have hrr := Hr.out
      rw [hpp] at hrr
      simp only at hrr
      have so := ho2.slB
      have cb := build12_any wr _ A2 n2 c2 outs so
      have hrq : r = if (leafBE outs).2 = 0 ∧ (leafBE outs).1 = p then some outs else none := by
        rw [hrr]
        unfold leafBE
        by_cases hc : checkLeafL outs = 0
        · simp [hc]
        · simp [hc]
      have spr := Hh.out.below (by omega) hbr
      generalize (leafBE outs).1 = pb at *
      generalize (leafBE outs).2 = q at *
      unfold GotBE at cb
      have Cb := Lib.hid cb
      have Hrq := Lib.hid hrq
      clear cb hrq hrr hpp s3 s4 hsep Hp hn4 hn3 hlen hol hn2
      go_wp2_with fail
      refine Cb.out.mono ?_
      rintro e w5 ⟨A5, n5, c5, rfl, o5, hb5⟩
      have so := so.below hb5
      have spr := spr.below (by omega) hb5
      have hbr := hbr.trans (hb5.mono hbr.size)
      have s5 := OwnB.sl (l := pb) o5
      clear o5 hb5 Cb
      by_cases hq : q = 0
      case neg =>
        have er : r = none := by rw [Hrq.out, if_neg (fun h => hq h.1)]
        subst er
        have i1 : ((q : Int) == 0) = false := by rw [beq_eq_false_iff_ne]; omega
        have i2 : ((q : Int) != 0) = true := by rw [bne_iff_ne]; omega
        clear hq
        go_wp2
        go_ret2
        exact ⟨none, 0, 0, rfl, SlR.nilnil _ _, hbr⟩
      subst hq
      obtain ⟨eb, heb⟩ : ∃ eb, (pb == p) = eb := ⟨_, rfl⟩
      have Heb := Lib.hid heb
      clear heb
      go_wp2_with fail
      refine (equal_is _ A5 n5 c5 _ (some ⟨b0, o0, none⟩) n c _ eb Heb s5 spr).mono ?_
      rintro e w' ⟨rfl, rfl⟩
      cases eb
      case false =>
        have er : r = none := by rw [Hrq.out, if_neg (fun z => by have := Heb.out; rw [z.2] at this; simp at this)]
        subst er
        go_wp2
        go_ret2
        exact ⟨none, 0, 0, rfl, SlR.nilnil _ _, hbr⟩
      have er : r = some outs := by rw [Hrq.out, if_pos ⟨trivial, by simpa using Heb.out⟩]
      subst er
      go_wp2
      go_ret2
      exact ⟨A2, n2, c2, rfl, so, hbr⟩
    have hgt : 0 < n4 := by omega
    have hcon := contP_step outs fb rest (by omega)
    have ce := entry12_any wr A4 n4 c4 rest s4 A3 n3 c3 fb s3 (by omega) (by omega)
    have hlen2 := fun e g q (h : entryL fb rest = some (e, g, q)) => entry_len h
    generalize hE : entryL fb rest = R at *
    have hll := ho2.lt
    unfold GotEntry at ce
    have Ce := Lib.hid ce
    have Hlen2 := Lib.hid hlen2
    have Hcon := Lib.hid hcon
    have HL := Lib.hid hll
    have Hol := Lib.hid hol
    have Hn2 : Hid (outs.length = n2) := hn2
    have Hn4 : Hid (rest.length = n4) := hn4
    have Hlen := Lib.hid hlen
    have Zbr := Lib.hid hbr.size
    have hn2b : n2 ≤ 64 := by omega
    have hcp2 := ho2.sl.cap
    clear ce hlen2 hcon hll hol hn2 hn4 hn3 hlen hsep h0 hE
    go_wp2_with fail
    refine Ce.out.mono ?_
    clear Ce s3 s4
    cases R with
    | none =>
      rintro e w5 ⟨A5, n5, c5, A6, n6, c6, A7, n7, c7, A8, n8, c8, rfl, s5, s6, s7, s8, hb5, _, _, _, _⟩
      simp only [Option.isSome_none, Option.getD_none] at *
      have er : r = none := by
        rw [Hr.out, Hp.out, Hcon.out.1 (by first | rfl | trivial)]
      subst er
      have hbr := hbr.trans (hb5.mono hbr.size)
      have al := hbr.alloc hbr.size (.cells #[.slice A5 n5 c5, .int .u64 (((0 : UInt64).toNat : Nat) : Int), .int .u8 (((0 : UInt8).toNat : Nat) : Int), .slice A6 n6 c6] 45)
      clear hb5 ho2 s5 s6 s7 s8
      go_wp2
      go_ret2
      exact ⟨none, 0, 0, rfl, SlR.nilnil _ _, by first | exact al | (simpa using al)⟩
    | some x =>
      obtain ⟨x, g, more⟩ := x
      obtain ⟨hl1, hl2⟩ := Hlen2.out x g more (by first | rfl | trivial)
      have hcn := Hcon.out.2.1 x g more (by first | rfl | trivial)
      have hcs := Hcon.out.2.2 x g more (by first | rfl | trivial)
      simp only [Option.isSome_some, Option.getD_some] at *
      generalize hsx : x.key.seq.toNat = sx at *
      generalize hkx : x.key.kind.toNat = kx at *
      have Hsx := Lib.hid hsx
      have Hkx := Lib.hid hkx
      rintro e w5 ⟨A5, n5, c5, A6, n6, c6, A7, n7, c7, A8, n8, c8, rfl, s5, s6, s7, s8, hb5, N5, N6, N7, N8⟩
      clear hsx hkx
      have ho2 := ho2.below hb5
      have hbr5 := hbr.trans (hb5.mono hbr.size)
      have kX := Bx4.fresh w5 (.slice A5 n5 c5) (.int .u64 (sx : Int)) (.int .u8 (kx : Int)) (.slice A6 n6 c6) 45
      have al := (Below.refl w5.heap.size w5).alloc (Nat.le_refl _) (.cells #[.slice A5 n5 c5, .int .u64 (sx : Int), .int .u8 (kx : Int), .slice A6 n6 c6] 45)
      have HN7 : Hid (∀ b, 0 < n7 → A7.map (·.block) = some b → blk A2 c2 ≠ some b) := Lib.hid fun b hn e q => by have h1 := N7 b hn e; have := HL.out b q; omega
      have HN8 : Hid (∀ b, 0 < n8 → A8.map (·.block) = some b → blk A2 c2 ≠ some b) := Lib.hid fun b hn e q => by have h1 := N8 b hn e; have := HL.out b q; omega
      have q5 := fun b hn e => (⟨fun q => by have h1 := N5 b hn e; have := HL.out b q; omega, by have h1 := N5 b hn e; have := Zbr.out; omega⟩ : blk A2 c2 ≠ some b ∧ w.heap.size ≤ b)
      have q6 := fun b hn e => (⟨fun q => by have h1 := N6 b hn e; have := HL.out b q; omega, by have h1 := N6 b hn e; have := Zbr.out; omega⟩ : blk A2 c2 ≠ some b ∧ w.heap.size ≤ b)
      have ho2 := ho2.below al
      have hbr6 := hbr5.trans (al.mono hbr5.size)
      generalize hW6 : (w5.alloc (.cells #[.slice A5 n5 c5, .int .u64 (sx : Int), .int .u8 (kx : Int), .slice A6 n6 c6] 45)) = w6 at *
      obtain ⟨y0, y1, y2, y3, y4⟩ := id kX
      have hrow := entRow' Hsx.out Hkx.out (s5.below (by omega) al) (s6.below (by omega) al) (q := fun b => blk A2 c2 ≠ some b ∧ w.heap.size ≤ b) q5 q6
      have al2 := (Below.refl w6.heap.size w6).alloc (Nat.le_refl _) (.cells #[.slice A5 n5 c5, .int .u64 (sx : Int), .int .u8 (kx : Int), .slice A6 n6 c6] 45)
      have ho2 := ho2.below al2
      have hbr7 := hbr6.trans (al2.mono hbr6.size)
      have s7 := (s7.below (by omega) al).below (by omega) al2
      have s8 := (s8.below (by omega) al).below (by omega) al2
      have Hl1 := Lib.hid hl1
      have Hl2 := Lib.hid hl2
      have Hn7 := Lib.hid s7.lenb
      have S7 : Hid (∀ b, 0 < n7 → A7.map (·.block) = some b → b < (w6.alloc (.cells #[.slice A5 n5 c5, .int .u64 (sx : Int), .int .u8 (kx : Int), .slice A6 n6 c6] 45)).heap.size) := Lib.hid fun b hn e => s7.lt (by omega) hn b e
      have S8 : Hid (∀ b, 0 < n8 → A8.map (·.block) = some b → b < (w6.alloc (.cells #[.slice A5 n5 c5, .int .u64 (sx : Int), .int .u8 (kx : Int), .slice A6 n6 c6] 45)).heap.size) := Lib.hid fun b hn e => s8.lt (by omega) hn b e
      have Hn8 := Lib.hid s8.lenb
      clear al al2 q5 q6 N5 N6 N7 N8 s5 s6 hb5 hbr5 hl1 hl2
      by_cases h64 : n2 < 64
      case neg =>
        have er : r = none := by rw [Hr.out, Hp.out, hcs (by have := Hn2.out; omega)]
        subst er
        have i1 : decide ((64 : Int) ≤ (n2 : Int)) = true := decide_eq_true (by omega)
        clear hcn hcs kX
        go_wp2
        try rw [hW6]
        go_ret2
        exact ⟨none, 0, 0, rfl, SlR.nilnil _ _, hbr6⟩
      have i1 : decide ((64 : Int) ≤ (n2 : Int)) = false := decide_eq_false (by omega)
      have hcn := hcn (by have := Hn2.out; omega)
      have Hcn := Lib.hid hcn
      clear hcn hcs kX
      go_wp2_with (at_builtin; refine wpList_appZ _ rfl (.tmp 67) (.tmp 69) 22 rfl w.heap.size 45 _ 64 Tryd.underlying22 infoEnt rfl A2 n2 c2 outs rfl ho2 _ 1 1 [x] rfl hrow ?_ ?_ ?_ ?_)
      · unfold maxLen; omega
      · omega
      · exact hbr7.size
      intro A9 c9 w9 ho9 hg9 hx9
      have s7 := s7.grown (by omega) hg9 (fun hn b e => HN7.out b hn e)
      have s8 := s8.grown (by omega) hg9 (fun hn b e => HN8.out b hn e)
      have hbr9 := hbr7.grown hg9 hbr7.size (fun b hb => (ho2.lt b hb).1)
      have sep : ∀ b, ((0 < n7 ∧ A7.map (·.block) = some b) ∨ (0 < n8 ∧ A8.map (·.block) = some b)) → blk A9 c9 ≠ some b := fun b hh h9 => by
        rcases hx9 with q | q
        · rcases hh with hh | hh
          · exact HN7.out b hh.1 hh.2 (q ▸ h9)
          · exact HN8.out b hh.1 hh.2 (q ▸ h9)
        · rw [q] at h9
          have l7 := S7.out b
          have l8 := S8.out b
          simp at h9
          rcases hh with hh | hh
          · have := l7 hh.1 hh.2
            simp at this
            omega
          · have := l8 hh.1 hh.2
            simp at this
            omega
      have Sep := Lib.hid sep
      clear hrow hg9 hx9 ho2 sep HN7 HN8
      go_wp2
      try rw [hW6]
      go_roundw
      case rel => exact ⟨hbr9, A9, _, c9, outs ++ [x], A7, n7, c7, g, A8, n8, c8, more, rfl, ho9, by rw [List.length_append]; have := Hn2.out; simp; omega, rfl, s7, rfl, s8, fun b hh => Sep.out b hh, by have := Hl2.out; have := Hlen.out; omega, Lib.hid (by rw [Hp.out]; exact Hcn.out)⟩
      case measure => have := Hl1.out; have := Hn8.out; have := Hn4.out; simp [lenOfV]; omega
end Go.Proofs.YtpffieogkfndaaaDoor
