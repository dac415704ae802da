/-
  The reference's Read of a leaf. (Printed by genleaf12.py.) No condition but a size.
-/
import Derived.Test.YtpffieogkfndaaaGreatDoorJSetWalk
import Derived.Test.YtpffieogkfndaaaGreatDoorLeafBuildR
import Derived.Deep.CutRange
namespace Go.Proofs.YtpffieogkfndaaaGreatDoor
open Go.RowKit
set_option maxRecDepth 100000
set_option linter.unusedVariables false
set_option linter.unusedSimpArgs false
theorem contQ_step (outs : List EntL) (fb rest : List UInt8) (h0 : rest.length ≠ 0) (hl : outs.length < 65) :
    (entryL fb rest = none → contP outs (parseL true (65 - outs.length) fb rest) = none) ∧
    (∀ e g q, entryL fb rest = some (e, g, q) → contP outs (parseL true (65 - outs.length) fb rest) = contP (outs ++ [e]) (parseL true (65 - (outs ++ [e]).length) g q)) := by
  obtain ⟨k, hk⟩ : ∃ k, 65 - outs.length = k + 1 := ⟨64 - outs.length, by omega⟩
  refine ⟨fun h => ?_, fun e g q h => ?_⟩
  · rw [hk]
    simp [parseL, h0, h, contP]
  · have hk2 : 65 - (outs ++ [e]).length = k := by rw [List.length_append]; simp; omega
    rw [hk, hk2]
    simp only [parseL]
    rw [if_neg h0, h]
    simp only
    cases parseL true k g q with
    | none => rfl
    | some l => simp [contP]
theorem cutL_blkU {A : Option Addr} {n c : Nat} (lo : Nat) (h2 : lo ≤ n) (hcap : n ≤ c) (w' : World) :
    (Instr.slice 29 (.slice A n c) (some (.int .u64 ((lo : Nat) : Int))) none none).run Tryz.prog w' = .ok (.slice (if c = lo then A else A.map (·.add (lo * 1))) (n - lo) (c - lo)) w' := by
  rw [run_slice_l (P := Tryz.prog) w' 29 A n c Tryz.underlying29 .u64 lo (by omega) (by omega)]
  show ((sizeOf 5).run Tryz.prog w').andThen _ = _
  rw [run_sizeB]
  simp only [Result.andThen, sliced, Int.toNat_natCast]
theorem map_blk {A : Option Addr} {n c b : Nat} (hcap : n ≤ c) (hn : 0 < n) (e : A.map (·.block) = some b) : blk A c = some b := by
  unfold blk
  rw [if_neg (by omega)]
  exact e
/-- block g is a row of e -/
def IsT (w : World) (g : Nat) (e : TypeId) : Prop := ∃ cur fr, w.heap[g]? = some (.cells cur e fr)
theorem IsT.below {w w' : World} {g : Nat} {e : TypeId} (h : IsT w g e) (hb : Below w.heap.size w w') : IsT w' g e := by
  obtain ⟨cur, fr, hg⟩ := h
  exact ⟨cur, fr, (hb.block g (heap_lt hg)).trans hg⟩
theorem IsT.fresh (w : World) (cur : Array Value) (e : TypeId) : IsT (w.alloc (.cells cur e)) w.heap.size e := ⟨cur, _, heap_alloc_new w _⟩
theorem own_neT {w : World} {B : Nat} {e e' : TypeId} {size : Nat} {A : Option Addr} {n c : Nat} {xs : List Value} {g : Nat} (o : Own w B e size A n c xs) (t : IsT w g e') (he : e ≠ e') : ∀ b, blk A c = some b → b ≠ g := by
  intro b hb hbg
  subst hbg
  obtain ⟨cur, fr, hg⟩ := t
  unfold blk at hb
  split at hb
  · cases hb
  · obtain ⟨g', o', cur', rfl, _, hh, _⟩ := o.row (by omega)
    simp at hb
    subst hb
    rw [hh] at hg
    injection hg with hg
    injection hg with _ hg _
    exact he hg
theorem Bx4.set1 {w : World} {g : Nat} {u0 u1 u2 u3 : Value} (h : Bx4 w g u0 u1 u2 u3) (v : Value) : Bx4 (w.setCell ⟨g, 1, none⟩ v) g u0 v u2 u3 ∧ w.grownBy (w.setCell ⟨g, 1, none⟩ v) (some g) :=
  ⟨⟨set_other h.c0 _ (by omega), set_same h.c1 _, set_other h.c2 _ (by omega), set_other h.c3 _ (by omega), fun j => by simp [h.fr]⟩, only_set (World.grownBy.refl _ _) 1 v⟩
theorem grown_trans {w w1 w2 : World} {g : Nat} (h : w.grownBy w1 (some g)) (h2 : w1.grownBy w2 (some g)) : w.grownBy w2 (some g) :=
  ⟨h2.os.trans h.os, h2.tape.trans h.tape, h2.output.trans h.output, Nat.le_trans h.size h2.size, fun i hi hne => (h2.block i (Nat.lt_of_lt_of_le hi h.size) hne).trans (h.block i hi hne)⟩
theorem grownR_drew {w w1 : World} {r : Option Nat} (h : w.grownBy w1 r) : w.grownBy w1.drew r := ⟨h.os, h.tape, h.output, h.size, h.block⟩
set_option maxHeartbeats 64000000 in
theorem rlread_any (w : World) (A : Option Addr) (n c : Nat) (p : List UInt8) (h : Sl w 1 A n c (bc p)) (hn : n ≤ 65536) :
    Calls Tryz.prog 72 #[.slice A n c] w (GotEnts w (readLeafX true 65 p)) := by
  have hl := h.lenb
  obtain ⟨r, hr⟩ : ∃ r, (readLeafX true 65) p = r := ⟨_, rfl⟩
  rw [hr]
  unfold readLeafX at hr
  rw [hl] at hr
  have hcp := h.cap
  have hcm := h.capm
  unfold maxLen at hcm
  by_cases h2 : n < 2
  case pos =>
    have er : none = r := by rw [← hr, if_pos (.inl h2)]
    subst er
    have i1 : decide ((n : Int) < 2) = true := decide_eq_true (by omega)
    clear hr hl h
    go_enter Tryz.func72, Tryz.ntmps72
    go_wp2
    go_ret2
    exact ⟨none, 0, 0, rfl, SlR.nilnil _ _, Below.refl _ _⟩
  have i1 : decide ((n : Int) < 2) = false := decide_eq_false (by omega)
  obtain ⟨m2, hm2⟩ : ∃ m2, n - 2 = m2 := ⟨_, rfl⟩
  obtain ⟨m1, hm1⟩ : ∃ m1, n - 1 = m1 := ⟨_, rfl⟩
  obtain ⟨b0, o0, x0, rfl, hx0, hxl0, k0⟩ := h.byte (k := m2) (by omega)
  obtain ⟨b1, o1, x1, hA1, hx1, hxl1, k1⟩ := h.byte (k := m1) (by omega)
  obtain ⟨rfl, rfl⟩ : b0 = b1 ∧ o0 = o1 := by simpa using hA1
  obtain ⟨E, hE⟩ : ∃ E, endN p = E := ⟨_, rfl⟩
  have hE2 : E = x0 + 256 * x1 := by
    rw [← hE]
    unfold endN
    rw [hl, List.getD_eq_getElem?_getD, List.getD_eq_getElem?_getD, hm2, hm1, List.getElem?_eq_getElem (by omega), List.getElem?_eq_getElem (by omega)]
    simp only [Option.getD_some]
    rw [hx0, hx1]
  rw [hE] at hr
  have hw2 : IntKind.i64.wrap ((n : Int) - 2) = (m2 : Int) := by rw [IntKind.wrap_i64]; omega
  have hw1 : IntKind.i64.wrap ((n : Int) - 1) = (m1 : Int) := by rw [IntKind.wrap_i64]; omega
  have hb0 : IntKind.i64.wrap (x0 : Int) = (x0 : Int) := by rw [IntKind.wrap_i64]; omega
  have hb1 : IntKind.i64.wrap (x1 : Int) = (x1 : Int) := by rw [IntKind.wrap_i64]; omega
  have hb2 : IntKind.i64.wrap (256 * (x1 : Int)) = ((x1 * 256 : Nat) : Int) := by rw [IntKind.wrap_i64]; omega
  have hor : IntKind.i64.wrap ((x0 : Int) + ((x1 * 256 : Nat) : Int)) = (E : Int) := by rw [IntKind.wrap_i64]; omega
  have hEb : E ≤ 65535 := by omega
  generalize hxx : x1 * 256 = xx at *
  have k0 : (World.drew w).cell? _ = _ := k0
  have k1 : (World.drew w).cell? _ = _ := k1
  have Hh := Lib.hid h
  have Hm2 := Lib.hid hm2
  have Hm1 := Lib.hid hm1
  have hm1n : m1 < n := by omega
  have hm2n : m2 < n := by omega
  have Hr0 := Lib.hid hr
  clear hr hE hE2 hx0 hx1 hA1 hm2 hm1 hxx hl h
  go_enter Tryz.func72, Tryz.ntmps72
  go_wp2_with fail
  have hq := below_drew (Below.refl w.heap.size w)
  generalize hW : World.drew w = w0 at *
  refine regionF (fun _ wa wb => Below w0.heap.size w0 wa → Below w0.heap.size w0 wb) (by kernel_rfl) ?_
  rw [hW]
  clear hW
  have hX := Below.refl w0.heap.size w0
  refine takeP (i := 0) (v := ?_) rfl hX ?hy ?_
  case hy =>
    intro wS hSw
    clear hSw
    go_simp
    try with_reducible rfl
  refine takeP (i := 1) (v := ?_) rfl hX ?hy ?_
  case hy =>
    intro wS hSw
    clear hSw
    go_simp
    try with_reducible rfl
  refine takeP (i := 2) (v := ?_) rfl hX ?hy ?_
  case hy =>
    intro wS hSw
    clear hSw
    go_simp
    try with_reducible rfl
  refine takeP (i := 3) (v := ?_) rfl hX ?hy ?_
  case hy =>
    intro wS hSw
    clear hSw
    go_simp
    try with_reducible rfl
  refine takeP (i := 4) (v := ?_) rfl hX ?hy ?_
  case hy =>
    intro wS hSw
    clear hSw
    go_simp
    try with_reducible rfl
  refine takeP (i := 5) (v := ?_) rfl hX ?hy ?_
  case hy =>
    intro wS hSw
    have k0 := stays hSw k0
    clear hSw
    go_simp
    try with_reducible rfl
  refine takeP (i := 6) (v := ?_) rfl hX ?hy ?_
  case hy =>
    intro wS hSw
    clear hSw
    go_simp
    try with_reducible rfl
  refine takeP (i := 7) (v := ?_) rfl hX ?hy ?_
  case hy =>
    intro wS hSw
    clear hSw
    go_simp
    try with_reducible rfl
  refine takeP (i := 8) (v := ?_) rfl hX ?hy ?_
  case hy =>
    intro wS hSw
    clear hSw
    go_simp
    try with_reducible rfl
  refine takeP (i := 9) (v := ?_) rfl hX ?hy ?_
  case hy =>
    intro wS hSw
    clear hSw
    go_simp
    try with_reducible rfl
  refine takeP (i := 10) (v := ?_) rfl hX ?hy ?_
  case hy =>
    intro wS hSw
    clear hSw
    go_simp
    try with_reducible rfl
  refine takeP (i := 11) (v := ?_) rfl hX ?hy ?_
  case hy =>
    intro wS hSw
    clear hSw
    go_simp
    try with_reducible rfl
  refine takeP (i := 12) (v := ?_) rfl hX ?hy ?_
  case hy =>
    intro wS hSw
    have k1 := stays hSw k1
    clear hSw
    go_simp
    try with_reducible rfl
  refine takeP (i := 13) (v := ?_) rfl hX ?hy ?_
  case hy =>
    intro wS hSw
    clear hSw
    go_simp
    try with_reducible rfl
  refine takeP (i := 14) (v := ?_) rfl hX ?hy ?_
  case hy =>
    intro wS hSw
    clear hSw
    go_simp
    try with_reducible rfl
  refine takeP (i := 15) (v := ?_) rfl hX ?hy ?_
  case hy =>
    intro wS hSw
    clear hSw
    go_simp
    try with_reducible rfl
  refine takeP (i := 16) (v := ?_) rfl hX ?hy ?_
  case hy =>
    intro wS hSw
    clear hSw
    go_simp
    try with_reducible rfl
  try simp only [List.getElem_toArray, List.getElem_cons_succ, List.getElem_cons_zero, Act.put, List.setIfInBounds_toArray, List.set_cons_zero, List.set_cons_succ]
  refine doneF (by kernel_rfl) ?_ _
  try simp only [List.getElem_toArray, List.getElem_cons_succ, List.getElem_cons_zero, Act.put, List.setIfInBounds_toArray, List.set_cons_zero, List.set_cons_succ]
  have hq := hq.trans (hX.mono hq.size)
  clear hX k0 k1 hw1 hb0 hb1 hb2 hor
  obtain ⟨z, hz⟩ : ∃ z : Int, (n : Int) - 2 - 2 * (E : Int) = z := ⟨_, rfl⟩
  have hz1 : (m2 : Int) - 2 * (E : Int) = z := by have := Hm2.out; omega
  by_cases hz0 : z < 0
  case pos =>
    have er : none = r := by rw [← Hr0.out, if_pos (.inr (.inl (by omega)))]
    subst er
    have i2 : decide (z < 0) = true := decide_eq_true hz0
    have Hz := Lib.hid hz
    go_wp2
    go_ret2
    exact ⟨none, 0, 0, rfl, SlR.nilnil _ _, hq⟩
  obtain ⟨m, hm⟩ : ∃ m : Nat, z = (m : Int) := Int.eq_ofNat_of_zero_le (by omega)
  subst hm
  have i2 : decide ((m : Int) < 0) = false := decide_eq_false hz0
  by_cases hE16 : E ≤ 16
  case neg =>
    have er : none = r := by rw [← Hr0.out, if_pos (.inr (.inr (by omega)))]
    subst er
    have i3 : decide ((16 : Int) < (E : Int)) = true := decide_eq_true (by omega)
    have Hz := Lib.hid hz
    go_wp2
    go_ret2
    exact ⟨none, 0, 0, rfl, SlR.nilnil _ _, hq⟩
  have i3 : decide ((16 : Int) < (E : Int)) = false := decide_eq_false (by omega)
  have hr := Hr0.out
  rw [if_neg (by omega), show n - 2 - 2 * E = m by omega] at hr
  have hmn : m ≤ n := by omega
  obtain ⟨hrc, sc⟩ := cutH (Hh.out.below (by omega) hq) .i64 (m : Int) m rfl hmn
  generalize hP0 : p.take m = P0 at *
  have hl0 := sc.lenb
  have Hr := Lib.hid hr.symm
  have Hl0 := Lib.hid hl0
  have hmb : m ≤ 65536 := by omega
  clear hr hP0 hl0 Hr0
  go_wp2
  go_loopw [6, 7, 8] (fun q o f wr => Below w.heap.size w wr ∧ ∃ A2 n2 c2 outs A3 n3 c3 fb A4 n4 c4 rest, o = .slice A2 n2 c2 ∧ OwnZ wr w.heap.size 69 A2 n2 c2 outs ∧ outs.length ≤ 65 ∧ f = .slice A3 n3 c3 ∧ Sl wr 1 A3 n3 c3 (bc fb) ∧ q = .slice A4 n4 c4 ∧ Sl wr 1 A4 n4 c4 (bc rest) ∧
      (∀ b, ((0 < n3 ∧ A3.map (·.block) = some b) ∨ (0 < n4 ∧ A4.map (·.block) = some b)) → blk A2 c2 ≠ some b) ∧ fb.length + rest.length ≤ 65536 ∧ Hid (parseL true 65 [] P0 = contP outs (parseL true (65 - outs.length) fb rest))) (fun q _ _ _ => lenOfV q)
  case atStart => exact ⟨hq, none, 0, 0, [], none, 0, 0, [], _, _, _, P0, rfl, OwnZ.nil _ _ _ _, by simp, rfl, sl_none _, rfl, sc, fun b _ e => by simp [blk] at e, by have := Hl0.out; simp; omega, Lib.hid (by rw [contP_nil]; rfl)⟩
  case round =>
    clear sc hq hrc
    obtain ⟨w00, hw00⟩ : ∃ x, x = wr := ⟨_, rfl⟩
    subst hw00
    obtain ⟨hbr, A2, n2, c2, outs, A3, n3, c3, fb, A4, n4, c4, rest, rfl, ho2, hol, rfl, s3, rfl, s4, hsep, hlen, Hp⟩ := hrel
    have hn2 := ho2.lenR
    have hn3 := s3.lenb
    have hn4 := s4.lenb
    by_cases h0 : n4 = 0
    case pos =>
      subst h0
      have hpp : parseL true 65 [] P0 = some outs := by
        rw [Hp.out]
        have : parseL true (65 - outs.length) fb rest = some [] := by cases 65 - outs.length <;> simp [parseL, hn4]
        rw [this]
        simp [contP]
      have hrr := Hr.out
      rw [hpp] at hrr
      simp only at hrr
      have so := ho2.slB
      have cb := rbuild12_any w00 _ A2 n2 c2 outs so
      have hrq : r = if (leafBE outs).2 = 0 ∧ (leafBE outs).1 = p then some outs else none := by
        rw [hrr]
        unfold leafBE
        by_cases hc : checkLeafL outs = 0
        · simp [hc]
        · simp [hc]
      have spr := Hh.out.below (by omega) hbr
      generalize (leafBE outs).1 = pb at *
      generalize (leafBE outs).2 = q at *
      unfold GotBE at cb
      have Cb := Lib.hid cb
      have Hrq := Lib.hid hrq
      clear cb hrq hrr hpp s3 s4 hsep Hp hn4 hn3 hlen hol hn2
      go_wp2_with fail
      refine Cb.out.mono ?_
      rintro e w5 ⟨A5, n5, c5, rfl, o5, hb5⟩
      have so := so.below hb5
      have spr := spr.below (by omega) hb5
      have hq := hbr.trans (hb5.mono hbr.size)
      have s5 := OwnB.sl (l := pb) o5
      clear o5 hb5 Cb hbr
      by_cases hq0 : q = 0
      case neg =>
        have er : r = none := by rw [Hrq.out, if_neg (fun h => hq0 h.1)]
        subst er
        have i1 : ((q : Int) == 0) = false := by rw [beq_eq_false_iff_ne]; omega
        have i2 : ((q : Int) != 0) = true := by rw [bne_iff_ne]; omega
        clear hq0
        go_wp2
        go_ret2
        exact ⟨none, 0, 0, rfl, SlR.nilnil _ _, hq⟩
      subst hq0
      obtain ⟨eb, heb⟩ : ∃ eb, (pb == p) = eb := ⟨_, rfl⟩
      have Heb := Lib.hid heb
      clear heb
      go_wp2_with fail
      refine (same_is _ A5 n5 c5 _ (some ⟨b0, o0, none⟩) n c _ eb Heb s5 spr).mono ?_
      rintro e w' ⟨rfl, rfl⟩
      cases eb
      case false =>
        have er : r = none := by rw [Hrq.out, if_neg (fun z => by have := Heb.out; rw [z.2] at this; simp at this)]
        subst er
        go_wp2
        go_ret2
        exact ⟨none, 0, 0, rfl, SlR.nilnil _ _, hq⟩
      have er : r = some outs := by rw [Hrq.out, if_pos ⟨trivial, by simpa using Heb.out⟩]
      subst er
      go_wp2
      go_ret2
      exact ⟨A2, n2, c2, rfl, so, hq⟩
    have hgt : 0 < n4 := by omega
    by_cases h65 : n2 < 65
    case neg =>
      have i9 : decide ((n2 : Int) < 65) = false := decide_eq_false (by omega)
      have hpp : parseL true 65 [] P0 = some outs := by
        rw [Hp.out]
        have : parseL true (65 - outs.length) fb rest = some [] := by rw [show 65 - outs.length = 0 by omega]; simp [parseL]
        rw [this]
        simp [contP]
      have hrr := Hr.out
      rw [hpp] at hrr
      simp only at hrr
      have so := ho2.slB
      have cb := rbuild12_any w00 _ A2 n2 c2 outs so
      have hrq : r = if (leafBE outs).2 = 0 ∧ (leafBE outs).1 = p then some outs else none := by
        rw [hrr]
        unfold leafBE
        by_cases hc : checkLeafL outs = 0
        · simp [hc]
        · simp [hc]
      have spr := Hh.out.below (by omega) hbr
      generalize (leafBE outs).1 = pb at *
      generalize (leafBE outs).2 = q at *
      unfold GotBE at cb
      have Cb := Lib.hid cb
      have Hrq := Lib.hid hrq
      clear cb hrq hrr hpp s3 s4 hsep Hp hn4 hn3 hlen hol hn2
      go_wp2_with fail
      refine Cb.out.mono ?_
      rintro e w5 ⟨A5, n5, c5, rfl, o5, hb5⟩
      have so := so.below hb5
      have spr := spr.below (by omega) hb5
      have hq := hbr.trans (hb5.mono hbr.size)
      have s5 := OwnB.sl (l := pb) o5
      clear o5 hb5 Cb hbr
      by_cases hq0 : q = 0
      case neg =>
        have er : r = none := by rw [Hrq.out, if_neg (fun h => hq0 h.1)]
        subst er
        have i1 : ((q : Int) == 0) = false := by rw [beq_eq_false_iff_ne]; omega
        have i2 : ((q : Int) != 0) = true := by rw [bne_iff_ne]; omega
        clear hq0
        go_wp2
        go_ret2
        exact ⟨none, 0, 0, rfl, SlR.nilnil _ _, hq⟩
      subst hq0
      obtain ⟨eb, heb⟩ : ∃ eb, (pb == p) = eb := ⟨_, rfl⟩
      have Heb := Lib.hid heb
      clear heb
      go_wp2_with fail
      refine (same_is _ A5 n5 c5 _ (some ⟨b0, o0, none⟩) n c _ eb Heb s5 spr).mono ?_
      rintro e w' ⟨rfl, rfl⟩
      cases eb
      case false =>
        have er : r = none := by rw [Hrq.out, if_neg (fun z => by have := Heb.out; rw [z.2] at this; simp at this)]
        subst er
        go_wp2
        go_ret2
        exact ⟨none, 0, 0, rfl, SlR.nilnil _ _, hq⟩
      have er : r = some outs := by rw [Hrq.out, if_pos ⟨trivial, by simpa using Heb.out⟩]
      subst er
      go_wp2
      go_ret2
      exact ⟨A2, n2, c2, rfl, so, hq⟩
    have i9 : decide ((n2 : Int) < 65) = true := decide_eq_true (by omega)
    have hcon := contQ_step outs fb rest (by omega) (by omega)
    have hent : entryL fb rest = entryL fb rest := rfl
    conv at hent => rhs; unfold entryL
    simp only at hent
    have t1 := takeL_len rest
    have t2 := takeL_len (takeL rest).2.1
    have t3 := takeL_len (takeL (takeL rest).2.1).2.1
    have u1 := takeL_lt rest
    have u2 := takeL_lt (takeL rest).2.1
    have u3 := takeL_lt (takeL (takeL rest).2.1).2.1
    have hlen2 := fun e g q (h : entryL fb rest = some (e, g, q)) => entry_len h
    have c1' := rtake_any w00 A4 n4 c4 rest s4 (by omega)
    have c2' := fun w' A1 n1 c1 (h1 : Sl w' 1 A1 n1 c1 (bc (takeL rest).2.1)) => rtake_any w' A1 n1 c1 _ h1 (by have := h1.lenb; omega)
    have c3' := fun w' A1 n1 c1 (h1 : Sl w' 1 A1 n1 c1 (bc (takeL (takeL rest).2.1).2.1)) => rtake_any w' A1 n1 c1 _ h1 (by have := h1.lenb; omega)
    unfold TookB at c1' c2' c3'
    generalize hEE : entryL fb rest = EE at *
    generalize takeL rest = a1 at *
    generalize takeL a1.2.1 = a2 at *
    generalize takeL a2.2.1 = a3 at *
    obtain ⟨x, p1, e1⟩ := a1
    obtain ⟨y, p2, e2⟩ := a2
    obtain ⟨z, c0, e3⟩ := a3
    simp only at c1' c2' c3' hent t1 t2 t3 u1 u2 u3
    have hll := ho2.lt
    have C1 := Lib.hid c1'
    have C2 := Lib.hid c2'
    have C3 := Lib.hid c3'
    have Hlen2 := Lib.hid hlen2
    have Hcon := Lib.hid hcon
    have Hent := Lib.hid hent
    have HL := Lib.hid hll
    have Hol := Lib.hid hol
    have Hn2 : Hid (outs.length = n2) := hn2
    have Hn4 : Hid (rest.length = n4) := hn4
    have Hn3 : Hid (fb.length = n3) := hn3
    have Hlen := Lib.hid hlen
    have Zbr := Lib.hid hbr.size
    have hcp2 := ho2.sl.cap
    have hc0b : c0.length ≤ 65536 := by omega
    have hn3b : n3 ≤ 65536 := by omega
    clear c1' c2' c3' hlen2 hcon hent hll hol hn2 hn4 hn3 hlen hsep h0 hEE t1 t2 t3
    go_wp2_with fail
    refine C1.out.mono ?_
    rintro e w1 ⟨A5, n5, c5, rfl, o5, hb⟩
    have hbw := hb
    have ho2 := ho2.below hb
    have hq := hbr.trans (hb.mono hbr.size)
    have s3 := s3.below (by omega) hb
    have s5 := OwnB.sl o5
    clear C1 s4 o5 hb
    go_wp2_with fail
    refine (C2.out _ A5 n5 c5 s5).mono ?_
    rintro e w2 ⟨A1, n1, c1, rfl, o1, hb⟩
    have ho2 := ho2.below hb
    have hq := hq.trans (hb.mono hq.size)
    have hbw := hbw.trans (hb.mono hbw.size)
    have s3 := s3.below (by omega) hb
    have s1 := OwnB.sl o1
    clear C2 s5 o1 hb
    go_wp2_with fail
    refine (C3.out _ A1 n1 c1 s1).mono ?_
    rintro e w3 ⟨A6, n6, c6, rfl, o6, hb⟩
    have ho2 := ho2.below hb
    have hq := hq.trans (hb.mono hq.size)
    have N6 : Hid (∀ b, 0 < n6 → A6.map (·.block) = some b → w00.heap.size ≤ b) := Lib.hid fun b hn e => by
      have := (Own.lt o6 b (by have := (OwnB.sl o6).cap; unfold blk; rw [if_neg (by omega)]; exact e)).1
      have := hbw.size
      omega
    have hbw := hbw.trans (hb.mono hbw.size)
    have s3 := s3.below (by omega) hb
    have s6 := OwnB.sl o6
    have hn6 := s6.lenb
    have Hn6 := Lib.hid hn6
    have hn6b : n6 ≤ 65536 := by omega
    have hcm6 := s6.capm
    have hcp6 := s6.cap
    have hcm3 := s3.capm
    have hcp3 := s3.cap
    unfold maxLen at hcm6 hcm3
    clear C3 s1 o6 hb hn6
    by_cases ze1 : e1 = 0
    case neg =>
      have i1 : ((e1 : Int) == 0) = false := by rw [beq_eq_false_iff_ne]; omega
      have i2 : ((e1 : Int) != 0) = true := by rw [bne_iff_ne]; omega
      have er : r = none := by rw [Hr.out, Hp.out, Hcon.out.1 (by rw [Hent.out, if_neg (fun h => by omega)])]
      subst er
      go_wp2
      go_ret2
      exact ⟨none, 0, 0, rfl, SlR.nilnil _ _, hq⟩
    subst ze1
    by_cases ze2 : e2 = 0
    case neg =>
      have i1 : ((e2 : Int) == 0) = false := by rw [beq_eq_false_iff_ne]; omega
      have i2 : ((e2 : Int) != 0) = true := by rw [bne_iff_ne]; omega
      have er : r = none := by rw [Hr.out, Hp.out, Hcon.out.1 (by rw [Hent.out, if_neg (fun h => by omega)])]
      subst er
      go_wp2
      go_ret2
      exact ⟨none, 0, 0, rfl, SlR.nilnil _ _, hq⟩
    subst ze2
    by_cases ze3 : e3 = 0
    case neg =>
      have i1 : ((e3 : Int) == 0) = false := by rw [beq_eq_false_iff_ne]; omega
      have i2 : ((e3 : Int) != 0) = true := by rw [bne_iff_ne]; omega
      have er : r = none := by rw [Hr.out, Hp.out, Hcon.out.1 (by rw [Hent.out, if_neg (fun h => by omega)])]
      subst er
      go_wp2
      go_ret2
      exact ⟨none, 0, 0, rfl, SlR.nilnil _ _, hq⟩
    subst ze3
    have hent := Hent.out
    simp only [true_and] at hent
    rw [Hn3.out, Hn6.out] at hent
    have Hent := Lib.hid hent
    clear hent
    have hwx : IntKind.u64.wrap (n3 : Int) = (n3 : Int) := by rw [IntKind.wrap_u64]; omega
    have hwc : IntKind.u64.wrap (n6 : Int) = (n6 : Int) := by rw [IntKind.wrap_u64]; omega
    by_cases k1 : x ≤ n3
    case neg =>
      have i1 : decide (n3 < x) = true := decide_eq_true (by omega)
      have er : r = none := by rw [Hr.out, Hp.out, Hcon.out.1 (by rw [Hent.out, if_neg (fun h => by omega)])]
      subst er
      go_wp2
      go_ret2
      exact ⟨none, 0, 0, rfl, SlR.nilnil _ _, hq⟩
    have i1 : decide (n3 < x) = false := decide_eq_false (by omega)
    by_cases k2 : y ≤ n6
    case neg =>
      have i2 : decide (n6 < y) = true := decide_eq_true (by omega)
      have er : r = none := by rw [Hr.out, Hp.out, Hcon.out.1 (by rw [Hent.out, if_neg (fun h => by omega)])]
      subst er
      go_wp2
      go_ret2
      exact ⟨none, 0, 0, rfl, SlR.nilnil _ _, hq⟩
    have i2 : decide (n6 < y) = false := decide_eq_false (by omega)
    obtain ⟨cy, hcy⟩ : ∃ cy, n6 - y = cy := ⟨_, rfl⟩
    have hw3 : (n6 : Int) - (y : Int) = (cy : Int) := by omega
    have hw4 : IntKind.u64.wrap ((n6 : Int) - (y : Int)) = (cy : Int) := by rw [IntKind.wrap_u64]; omega
    obtain ⟨yz, hyz⟩ : ∃ yz, y + z = yz := ⟨_, rfl⟩
    obtain ⟨xy, hxy⟩ : ∃ xy, x + y = xy := ⟨_, rfl⟩
    by_cases k3 : z ≤ cy
    case neg =>
      have i3 : decide (cy < z) = true := decide_eq_true (by omega)
      have er : r = none := by rw [Hr.out, Hp.out, Hcon.out.1 (by rw [Hent.out, if_neg (fun h => by omega)])]
      subst er
      clear hyz hxy hcy
      go_wp2
      go_ret2
      exact ⟨none, 0, 0, rfl, SlR.nilnil _ _, hq⟩
    have i3 : decide (cy < z) = false := decide_eq_false (by omega)
    have hw5 : (x : Int) + (y : Int) = (xy : Int) := by omega
    by_cases k4 : 8 ≤ xy
    case neg =>
      have i4 : decide ((xy : Int) < 8) = true := decide_eq_true (by omega)
      have er : r = none := by rw [Hr.out, Hp.out, Hcon.out.1 (by rw [Hent.out, if_neg (fun h => by omega)])]
      subst er
      clear hyz hxy hcy
      go_wp2
      go_ret2
      exact ⟨none, 0, 0, rfl, SlR.nilnil _ _, hq⟩
    have i4 : decide ((xy : Int) < 8) = false := decide_eq_false (by omega)
    have hyzn : yz ≤ n6 := by omega
    have hyyz : y ≤ yz := by omega
    have hEE : EE = some (⟨verL (fb.take x ++ c0.take y), (c0.drop y).take z⟩, fb.take x ++ c0.take y, c0.drop yz) := by rw [Hent.out, if_pos ⟨k1, by omega, by omega⟩, hyz]
    subst hEE
    obtain ⟨hl1, hl2⟩ := Hlen2.out _ _ _ rfl
    have hcn := Hcon.out.2 _ _ _ rfl
    obtain ⟨hrA, sA⟩ := cutH s3 .u64 (x : Int) x rfl k1
    obtain ⟨hrP, sP⟩ := cutH s6 .u64 (y : Int) y rfl k2
    obtain ⟨AV, hrV, sV, _⟩ := cutLH s6 .u64 .u64 (y : Int) (yz : Int) y yz rfl rfl hyyz hyzn
    obtain ⟨AM, hrM, sM, _⟩ := cutL s6 .u64 (yz : Int) yz rfl hyzn
    have hvv : (c0.drop y).take (yz - y) = (c0.drop y).take z := by rw [← hyz, Nat.add_sub_cancel_left]
    rw [hvv] at sV
    have HNM : Hid (∀ b, 0 < n6 - yz → AM.map (·.block) = some b → w00.heap.size ≤ b ∧ b < w3.heap.size) := Lib.hid fun b hn e => by
      have h1 := hrM w3
      have h2 := cutL_blkU (A := A6) (n := n6) (c := c6) yz hyzn hcp6 w3
      rw [h1] at h2
      injection h2 with e1 _
      injection e1 with e1 _ _
      rw [e1] at e
      have h3 := tail_blk (by omega) e
      exact ⟨N6.out b (by omega) h3, s6.lt (by omega) (by omega) b h3⟩
    have hFlen : (fb.take x ++ c0.take y).length = xy := by rw [List.length_append, List.length_take, List.length_take, Hn3.out, Hn6.out]; omega
    have Hflen := Lib.hid hFlen
    have Hl1 := Lib.hid hl1
    have Hl2 := Lib.hid hl2
    have Hcn := Lib.hid hcn
    have hyz2 : y + z = yz := hyz
    have hwyz : (y : Int) + (z : Int) = (yz : Int) := by omega
    have hwyz2 : IntKind.u64.wrap ((y : Int) + (z : Int)) = (yz : Int) := by rw [IntKind.wrap_u64]; omega
    have hwyz3 : IntKind.u64.wrap (yz : Int) = (yz : Int) := by rw [IntKind.wrap_u64]; omega
    have hxyb : xy ≤ 131072 := by omega
    have Hk4 : Hid (8 ≤ xy) := k4
    generalize hFF : fb.take x ++ c0.take y = F at *
    have HFF := Lib.hid hFF
    generalize (c0.drop y).take z = V at *
    have Hyz := Lib.hid hyz
    have Hxy := Lib.hid hxy
    clear hvv hFlen hl1 hl2 hcn hyz hyz2 hxy hFF k3 k4 hcy Hent Hcon Hlen2 i1 i2 i3 hw3 hw4 s3 s6 u1 u2 u3
    go_wp2_with fail
    clear i4 i9 hw5 hwx hwc hgt
    have hq := below_drew hq
    have hbw := below_drew hbw
    have ho2 : OwnZ (World.drew w3) _ _ _ _ _ _ := ho2.below (below_drew (Below.refl _ _))
    have sA := sA.drew
    have sP := sP.drew
    have sV := sV.drew
    have sM := sM.drew
    have zw3 : w3.heap.size = (World.drew w3).heap.size := rfl
    generalize hW : World.drew w3 = w16 at *
    refine regionF (fun _ wa wb => Below w16.heap.size w16 wa → Below w16.heap.size w16 wb) (by kernel_rfl) ?_
    rw [hW]
    clear hW
    have hX := Below.refl w16.heap.size w16
    refine takeT (i := 0) (v := ?_) rfl ?hy ?_
    case hy => intro wS; go_simp; try with_reducible rfl
    refine takeT (i := 1) (v := ?_) rfl ?hy ?_
    case hy => intro wS; go_simp; try with_reducible rfl
    refine takeT (i := 2) (v := ?_) rfl ?hy ?_
    case hy => intro wS; go_simp; try with_reducible rfl
    refine takeT (i := 4) (v := ?_) rfl ?hy ?_
    case hy => intro wS; go_simp; try with_reducible rfl
    refine takeT (i := 5) (v := ?_) rfl ?hy ?_
    case hy => intro wS; go_simp; try with_reducible rfl
    refine takeT (i := 6) (v := ?_) rfl ?hy ?_
    case hy => intro wS; go_simp; try with_reducible rfl
    try simp only [List.getElem_toArray, List.getElem_cons_succ, List.getElem_cons_zero, Act.put, List.setIfInBounds_toArray, List.set_cons_zero, List.set_cons_succ]
    refine readyF (rs := [3]) (by kernel_rfl) (by simp) ?_
    refine AllF.cons rfl (fun K hK => ?_) AllF.nil
    go_simp
    refine (copy_any w16 A3 x c3 _ (sA.below (by omega) hX) (by omega)).mono ?_
    rintro e w16_3 ⟨A7, n7, c7, rfl, o7, hb⟩
    refine hK _ _ (fun h => h.trans (hb.mono h.size)) ?_
    clear hK K
    have o7 := Own.mono o7 hX.size
    have hX := hX.trans (hb.mono hX.size)
    clear hb
    refine readyF (rs := [7]) (by kernel_rfl) (by simp) ?_
    refine AllF.cons rfl (fun K hK => ?_) AllF.nil
    refine step_appB (by rfl) (.tmp 125) (.tmp 128) (by rfl) w16.heap.size A7 n7 c7 (fb.take x) (by rfl) o7 A6 y c6 (c0.take y) (by rfl) (sP.below (by omega) hX) (by have := OwnB.len' o7; rw [List.length_take] at this; omega) hX.size ?_
    intro AF cF w16_3_7 oF hg _
    refine hK _ _ (fun h => h.grown hg h.size (fun b hb => (Own.lt o7 b hb).1)) ?_
    clear hK K
    have hX := hX.grown hg hX.size (fun b hb => (Own.lt o7 b hb).1)
    clear hg
    refine takeT (i := 8) (v := ?_) rfl ?hy ?_
    case hy => intro wS; go_simp; try with_reducible rfl
    try simp only [List.getElem_toArray, List.getElem_cons_succ, List.getElem_cons_zero, Act.put, List.setIfInBounds_toArray, List.set_cons_zero, List.set_cons_succ]
    refine doneF (by kernel_rfl) ?_ _
    try simp only [List.getElem_toArray, List.getElem_cons_succ, List.getElem_cons_zero, Act.put, List.setIfInBounds_toArray, List.set_cons_zero, List.set_cons_succ]
    have oF0 : OwnB w16_3_7 w00.heap.size AF (n7 + y) cF F := by rw [← HFF.out]; exact Own.mono oF hbw.size
    have hF := OwnB.len' oF0
    rw [Hflen.out] at hF
    generalize hnf : n7 + y = nf at *
    clear hnf
    subst hF
    have ho2 := ho2.below hX
    have Zl : Hid (w00.heap.size ≤ w16_3_7.heap.size) := Lib.hid (by have := hbw.size; have := hX.size; omega)
    have hq := hq.trans (hX.mono hq.size)
    have Zq := Lib.hid hq.size
    have sV := sV.below (by omega) hX
    have sM := sM.below (by omega) hX
    have HNM : Hid (∀ b, 0 < n6 - yz → AM.map (·.block) = some b → w00.heap.size ≤ b ∧ b < w16_3_7.heap.size) := Lib.hid fun b hn e => by have h1 := HNM.out b hn e; have := hX.size; omega
    clear hX sA sP oF zw3 hrA hrP o7
    obtain ⟨u, hu⟩ : ∃ u, xy - 8 = u := ⟨_, rfl⟩
    have hw6 : (xy : Int) - 8 = (u : Int) := by have := Hk4.out; omega
    have hux : u + 8 = xy := by have := Hk4.out; omega
    have hult : u < xy := by omega
    obtain ⟨hrU, sU⟩ := cutH (OwnB.sl oF0) .i64 (u : Int) u rfl (by omega)
    obtain ⟨bf, of, xk, hAF, hxk, hxkl, kf⟩ := (OwnB.sl oF0).byte (k := u) (by rw [Hflen.out]; omega)
    subst hAF
    go_wp2_with fail
    go_cut [19] from 57 to 176 (fun s19 wx => ∃ gX A8 n8 c8 A9 n9 c9, s19 = .pointer (some ⟨gX, 0, none⟩) ∧ Below w16_3_7.heap.size w16_3_7 wx ∧ w16_3_7.heap.size ≤ gX ∧ Sl wx 1 A8 n8 c8 (bc (F.take u)) ∧ Sl wx 1 A9 n9 c9 (bc V) ∧
      (∀ b, 0 < n8 → A8.map (·.block) = some b → w16_3_7.heap.size ≤ b ∧ b ≠ gX) ∧ (∀ b, 0 < n9 → A9.map (·.block) = some b → w16_3_7.heap.size ≤ b ∧ b ≠ gX) ∧ Bx4 wx gX (.slice A8 n8 c8) (.int .u64 0) (.int .u8 (xk : Int)) (.slice A9 n9 c9))
    case first =>
      have hL : Below w16_3_7.heap.size w16_3_7 (World.drew w16_3_7) := below_drew (Below.refl _ _)
      have zL1 : w16_3_7.heap.size ≤ (World.drew w16_3_7).heap.size := Nat.le_refl _
      have sV := sV.drew
      have sU := sU.drew
      have kf : (World.drew w16_3_7).cell? _ = _ := kf
      generalize hW : World.drew w16_3_7 = w18 at *
      refine regionF (fun j wa wb => j ≠ 18 → Below w18.heap.size w18 wa → Below w18.heap.size w18 wb) (by kernel_rfl) ?_
      rw [hW]
      clear hW
      have hX := Below.refl w18.heap.size w18
      refine takeT (i := 0) (v := ?_) rfl ?hy ?_
      case hy => intro wS; go_simp; try with_reducible rfl
      refine takeT (i := 1) (v := ?_) rfl ?hy ?_
      case hy => intro wS; go_simp; try with_reducible rfl
      refine takeT (i := 2) (v := ?_) rfl ?hy ?_
      case hy => intro wS; go_simp; try with_reducible rfl
      refine takeT (i := 4) (v := ?_) rfl ?hy ?_
      case hy => intro wS; go_simp; try with_reducible rfl
      refine takeT (i := 5) (v := ?_) rfl ?hy ?_
      case hy => intro wS; go_simp; try with_reducible rfl
      refine takeT (i := 6) (v := ?_) rfl ?hy ?_
      case hy => intro wS; go_simp; try with_reducible rfl
      refine takeM (i := 7) (v := ?_) rfl hX ?hy ?_
      case hy =>
        intro wS hSw
        have kf := stays hSw kf
        clear hSw
        go_simp
        try with_reducible rfl
      refine takeT (i := 9) (v := ?_) rfl ?hy ?_
      case hy => intro wS; go_simp; try with_reducible rfl
      refine takeT (i := 10) (v := ?_) rfl ?hy ?_
      case hy => intro wS; go_simp; try with_reducible rfl
      refine takeT (i := 11) (v := ?_) rfl ?hy ?_
      case hy => intro wS; go_simp; try with_reducible rfl
      refine takeT (i := 12) (v := ?_) rfl ?hy ?_
      case hy => intro wS; go_simp; try with_reducible rfl
      refine takeT (i := 13) (v := ?_) rfl ?hy ?_
      case hy => intro wS; go_simp; try with_reducible rfl
      refine takeT (i := 14) (v := ?_) rfl ?hy ?_
      case hy => intro wS; go_simp; try with_reducible rfl
      try simp only [List.getElem_toArray, List.getElem_cons_succ, List.getElem_cons_zero, Act.put, List.setIfInBounds_toArray, List.set_cons_zero, List.set_cons_succ]
      refine readyF (rs := [3, 17]) (by kernel_rfl) (by simp) ?_
      refine AllF.cons rfl (fun K hK => ?_) ?_
      · go_simp
        refine (copy_any w18 _ u cF _ (sU.below (by omega) hX) (by omega)).mono ?_
        rintro e w18_3 ⟨A8, n8, c8, rfl, o8, hb⟩
        refine hK _ _ (fun _ => fun h => h.trans (hb.mono h.size)) ?_
        clear hK K
        have o8 := Own.mono o8 hX.size
        have hX := hX.trans (hb.mono hX.size)
        clear hb
        refine takeT (i := 8) (v := ?_) rfl ?hy ?_
        case hy => intro wS; go_simp; try with_reducible rfl
        try simp only [List.getElem_toArray, List.getElem_cons_succ, List.getElem_cons_zero, Act.put, List.setIfInBounds_toArray, List.set_cons_zero, List.set_cons_succ]
        refine readyF (rs := [15, 17]) (by kernel_rfl) (by simp) ?_
        refine AllF.cons rfl (fun K hK => ?_) ?_
        · go_simp
          refine (copy_any w18_3 AV (yz - y) (c6 - y) _ (sV.below (by omega) hX) (by omega)).mono ?_
          rintro e w18_3_15 ⟨A9, n9, c9, rfl, o9, hb⟩
          refine hK _ _ (fun _ => fun h => h.trans (hb.mono h.size)) ?_
          clear hK K
          have o9 := Own.mono o9 hX.size
          have hX := hX.trans (hb.mono hX.size)
          have o8 := Own.below o8 hb
          clear hb
          refine takeT (i := 16) (v := ?_) rfl ?hy ?_
          case hy => intro wS; go_simp; try with_reducible rfl
          try simp only [List.getElem_toArray, List.getElem_cons_succ, List.getElem_cons_zero, Act.put, List.setIfInBounds_toArray, List.set_cons_zero, List.set_cons_succ]
          refine readyF (rs := [17]) (by kernel_rfl) (by simp) ?_
          refine AllF.cons rfl (fun K hK => ?_) AllF.nil
          go_simp
          refine hK _ _ (fun _ => fun h => h.alloc h.size _) ?_
          clear hK K
          have hb := (Below.refl w18_3_15.heap.size w18_3_15).alloc (Nat.le_refl _) (.cells #[.slice none 0 0, .int .u64 0, .int .u8 0, .slice none 0 0] 69)
          have zX := hX.size
          have kX := Bx4.fresh w18_3_15 (.slice none 0 0) (.int .u64 0) (.int .u8 0) (.slice none 0 0) 69
          have tX := IsT.fresh w18_3_15 #[.slice none 0 0, .int .u64 0, .int .u8 0, .slice none 0 0] 69
          generalize (w18_3_15.alloc (.cells #[.slice none 0 0, .int .u64 0, .int .u8 0, .slice none 0 0] 69)) = w18_3_15_17 at *
          have hX := hX.trans (hb.mono hX.size)
          have o8 := Own.below o8 hb
          have o9 := Own.below o9 hb
          clear hb
          refine readyF (rs := [18]) (by kernel_rfl) (by simp) ?_
          refine AllF.cons rfl (fun K hK => ?_) AllF.nil
          obtain ⟨x0, x1, x2, x3, x4⟩ := id kX
          go_simp
          refine hK _ _ (fun e => absurd rfl e) ?_
          clear hK K x0 x1 x2 x3 x4
          obtain ⟨k2, hgs⟩ := Bx4.set kX (v0 := .slice A8 n8 c8) (v1 := .int .u64 0) (v2 := .int .u8 (xk : Int)) (v3 := .slice A9 n9 c9)
          have o8s := Own.grown o8 hgs (fun b h1 h2 => own_neT o8 tX (by decide) b h1 (by simpa using h2.symm))
          have o9s := Own.grown o9 hgs (fun b h1 h2 => own_neT o9 tX (by decide) b h1 (by simpa using h2.symm))
          have hX2 := hX.grown hgs hX.size (fun b hb => by simp at hb; omega)
          refine doneF (by kernel_rfl) ?_ _
          try simp only [List.getElem_toArray, List.getElem_cons_succ, List.getElem_cons_zero, Act.put, List.setIfInBounds_toArray, List.set_cons_zero, List.set_cons_succ]
          go_wp2_with fail
          go_meet
          exact ⟨w18_3_15.heap.size, A8, n8, c8, A9, n9, c9, rfl, hL.trans (hX2.mono zL1), by omega, OwnB.sl o8s, OwnB.sl o9s, fun b hn e => ⟨by have := (Own.lt o8 b (map_blk (OwnB.sl o8).cap hn e)).1; omega, own_neT o8 tX (by decide) b (map_blk (OwnB.sl o8).cap hn e)⟩, fun b hn e => ⟨by have := (Own.lt o9 b (map_blk (OwnB.sl o9).cap hn e)).1; omega, own_neT o9 tX (by decide) b (map_blk (OwnB.sl o9).cap hn e)⟩, k2⟩
        refine AllF.cons rfl (fun K hK => ?_) AllF.nil
        go_simp
        refine hK _ _ (fun _ => fun h => h.alloc h.size _) ?_
        clear hK K
        have hb := (Below.refl w18_3.heap.size w18_3).alloc (Nat.le_refl _) (.cells #[.slice none 0 0, .int .u64 0, .int .u8 0, .slice none 0 0] 69)
        have zX := hX.size
        have kX := Bx4.fresh w18_3 (.slice none 0 0) (.int .u64 0) (.int .u8 0) (.slice none 0 0) 69
        have tX := IsT.fresh w18_3 #[.slice none 0 0, .int .u64 0, .int .u8 0, .slice none 0 0] 69
        generalize (w18_3.alloc (.cells #[.slice none 0 0, .int .u64 0, .int .u8 0, .slice none 0 0] 69)) = w18_3_17 at *
        have hX := hX.trans (hb.mono hX.size)
        have o8 := Own.below o8 hb
        clear hb
        refine readyF (rs := [15]) (by kernel_rfl) (by simp) ?_
        refine AllF.cons rfl (fun K hK => ?_) AllF.nil
        go_simp
        refine (copy_any w18_3_17 AV (yz - y) (c6 - y) _ (sV.below (by omega) hX) (by omega)).mono ?_
        rintro e w18_3_17_15 ⟨A9, n9, c9, rfl, o9, hb⟩
        refine hK _ _ (fun _ => fun h => h.trans (hb.mono h.size)) ?_
        clear hK K
        have o9 := Own.mono o9 hX.size
        have hX := hX.trans (hb.mono hX.size)
        have o8 := Own.below o8 hb
        have kX := kX.below hb
        have tX := tX.below hb
        clear hb
        refine takeT (i := 16) (v := ?_) rfl ?hy ?_
        case hy => intro wS; go_simp; try with_reducible rfl
        try simp only [List.getElem_toArray, List.getElem_cons_succ, List.getElem_cons_zero, Act.put, List.setIfInBounds_toArray, List.set_cons_zero, List.set_cons_succ]
        refine readyF (rs := [18]) (by kernel_rfl) (by simp) ?_
        refine AllF.cons rfl (fun K hK => ?_) AllF.nil
        obtain ⟨x0, x1, x2, x3, x4⟩ := id kX
        go_simp
        refine hK _ _ (fun e => absurd rfl e) ?_
        clear hK K x0 x1 x2 x3 x4
        obtain ⟨k2, hgs⟩ := Bx4.set kX (v0 := .slice A8 n8 c8) (v1 := .int .u64 0) (v2 := .int .u8 (xk : Int)) (v3 := .slice A9 n9 c9)
        have o8s := Own.grown o8 hgs (fun b h1 h2 => own_neT o8 tX (by decide) b h1 (by simpa using h2.symm))
        have o9s := Own.grown o9 hgs (fun b h1 h2 => own_neT o9 tX (by decide) b h1 (by simpa using h2.symm))
        have hX2 := hX.grown hgs hX.size (fun b hb => by simp at hb; omega)
        refine doneF (by kernel_rfl) ?_ _
        try simp only [List.getElem_toArray, List.getElem_cons_succ, List.getElem_cons_zero, Act.put, List.setIfInBounds_toArray, List.set_cons_zero, List.set_cons_succ]
        go_wp2_with fail
        go_meet
        exact ⟨w18_3.heap.size, A8, n8, c8, A9, n9, c9, rfl, hL.trans (hX2.mono zL1), by omega, OwnB.sl o8s, OwnB.sl o9s, fun b hn e => ⟨by have := (Own.lt o8 b (map_blk (OwnB.sl o8).cap hn e)).1; omega, own_neT o8 tX (by decide) b (map_blk (OwnB.sl o8).cap hn e)⟩, fun b hn e => ⟨by have := (Own.lt o9 b (map_blk (OwnB.sl o9).cap hn e)).1; omega, own_neT o9 tX (by decide) b (map_blk (OwnB.sl o9).cap hn e)⟩, k2⟩
      refine AllF.cons rfl (fun K hK => ?_) AllF.nil
      go_simp
      refine hK _ _ (fun _ => fun h => h.alloc h.size _) ?_
      clear hK K
      have hb := (Below.refl w18.heap.size w18).alloc (Nat.le_refl _) (.cells #[.slice none 0 0, .int .u64 0, .int .u8 0, .slice none 0 0] 69)
      have zX := hX.size
      have kX := Bx4.fresh w18 (.slice none 0 0) (.int .u64 0) (.int .u8 0) (.slice none 0 0) 69
      have tX := IsT.fresh w18 #[.slice none 0 0, .int .u64 0, .int .u8 0, .slice none 0 0] 69
      generalize (w18.alloc (.cells #[.slice none 0 0, .int .u64 0, .int .u8 0, .slice none 0 0] 69)) = w18_17 at *
      have hX := hX.trans (hb.mono hX.size)
      clear hb
      refine readyF (rs := [3]) (by kernel_rfl) (by simp) ?_
      refine AllF.cons rfl (fun K hK => ?_) AllF.nil
      go_simp
      refine (copy_any w18_17 _ u cF _ (sU.below (by omega) hX) (by omega)).mono ?_
      rintro e w18_17_3 ⟨A8, n8, c8, rfl, o8, hb⟩
      refine hK _ _ (fun _ => fun h => h.trans (hb.mono h.size)) ?_
      clear hK K
      have o8 := Own.mono o8 hX.size
      have hX := hX.trans (hb.mono hX.size)
      have kX := kX.below hb
      have tX := tX.below hb
      clear hb
      refine takeT (i := 8) (v := ?_) rfl ?hy ?_
      case hy => intro wS; go_simp; try with_reducible rfl
      try simp only [List.getElem_toArray, List.getElem_cons_succ, List.getElem_cons_zero, Act.put, List.setIfInBounds_toArray, List.set_cons_zero, List.set_cons_succ]
      refine readyF (rs := [15]) (by kernel_rfl) (by simp) ?_
      refine AllF.cons rfl (fun K hK => ?_) AllF.nil
      go_simp
      refine (copy_any w18_17_3 AV (yz - y) (c6 - y) _ (sV.below (by omega) hX) (by omega)).mono ?_
      rintro e w18_17_3_15 ⟨A9, n9, c9, rfl, o9, hb⟩
      refine hK _ _ (fun _ => fun h => h.trans (hb.mono h.size)) ?_
      clear hK K
      have o9 := Own.mono o9 hX.size
      have hX := hX.trans (hb.mono hX.size)
      have kX := kX.below hb
      have tX := tX.below hb
      have o8 := Own.below o8 hb
      clear hb
      refine takeT (i := 16) (v := ?_) rfl ?hy ?_
      case hy => intro wS; go_simp; try with_reducible rfl
      try simp only [List.getElem_toArray, List.getElem_cons_succ, List.getElem_cons_zero, Act.put, List.setIfInBounds_toArray, List.set_cons_zero, List.set_cons_succ]
      refine readyF (rs := [18]) (by kernel_rfl) (by simp) ?_
      refine AllF.cons rfl (fun K hK => ?_) AllF.nil
      obtain ⟨x0, x1, x2, x3, x4⟩ := id kX
      go_simp
      refine hK _ _ (fun e => absurd rfl e) ?_
      clear hK K x0 x1 x2 x3 x4
      obtain ⟨k2, hgs⟩ := Bx4.set kX (v0 := .slice A8 n8 c8) (v1 := .int .u64 0) (v2 := .int .u8 (xk : Int)) (v3 := .slice A9 n9 c9)
      have o8s := Own.grown o8 hgs (fun b h1 h2 => own_neT o8 tX (by decide) b h1 (by simpa using h2.symm))
      have o9s := Own.grown o9 hgs (fun b h1 h2 => own_neT o9 tX (by decide) b h1 (by simpa using h2.symm))
      have hX2 := hX.grown hgs hX.size (fun b hb => by simp at hb; omega)
      refine doneF (by kernel_rfl) ?_ _
      try simp only [List.getElem_toArray, List.getElem_cons_succ, List.getElem_cons_zero, Act.put, List.setIfInBounds_toArray, List.set_cons_zero, List.set_cons_succ]
      go_wp2_with fail
      go_meet
      exact ⟨w18.heap.size, A8, n8, c8, A9, n9, c9, rfl, hL.trans (hX2.mono zL1), by omega, OwnB.sl o8s, OwnB.sl o9s, fun b hn e => ⟨by have := (Own.lt o8 b (map_blk (OwnB.sl o8).cap hn e)).1; omega, own_neT o8 tX (by decide) b (map_blk (OwnB.sl o8).cap hn e)⟩, fun b hn e => ⟨by have := (Own.lt o9 b (map_blk (OwnB.sl o9).cap hn e)).1; omega, own_neT o9 tX (by decide) b (map_blk (OwnB.sl o9).cap hn e)⟩, k2⟩
    case rest =>
      obtain ⟨gX, A8, n8, c8, A9, n9, c9, rfl, hbL, zX, s8, s9, N8, N9, k2⟩ := hcut
      have N8 := Lib.hid N8
      have N9 := Lib.hid N9
      clear sV sU kf hrU hrV
      have hFu : F.length = xy := Hflen.out
      have hFd : (F.drop u).length = 8 := by rw [List.length_drop, hFu]; omega
      have HFd := Lib.hid hFd
      have Hux := Lib.hid hux
      have Hxk := Lib.hid hxk
      have hub : u ≤ 131072 := by omega
      have hub2 : u + 8 ≤ xy := by omega
      clear hFu hFd hux hxk
      go_wp2
      go_loopw [20] (fun i wr => ∃ (j v : Nat) (z : Int), z = 7 - (j : Int) ∧ j ≤ 7 ∧ i = .int .i64 z ∧ Hid (v = leval ((F.drop u).drop (8 - j))) ∧ Bx4 wr gX (.slice A8 n8 c8) (.int .u64 (v : Int)) (.int .u8 (xk : Int)) (.slice A9 n9 c9) ∧ wc.grownBy wr (some gX) ∧ Below w16_3_7.heap.size w16_3_7 wr) (fun i _ => (intOf i).toNat)
      case atStart => exact ⟨0, 0, 7, by omega, by omega, rfl, Lib.hid (by rw [List.drop_of_length_le (by rw [HFd.out]; omega)]; rfl), k2, World.grownBy.refl _ _, hbL⟩
      case round =>
        clear k2 hbL
        obtain ⟨j, v, z, hz, hj, rfl, Hv, k2, hgi, hbL⟩ := hrel
        have hvb : v < 72057594037927936 := by
          rw [Hv.out]
          have h1 := leval_lt ((F.drop u).drop (8 - j))
          have h2 : (256 : Nat) ^ ((F.drop u).drop (8 - j)).length ≤ 256 ^ 7 := Nat.pow_le_pow_right (by omega) (by rw [List.length_drop, HFd.out]; omega)
          have : (256 : Nat) ^ 7 = 72057594037927936 := rfl
          omega
        by_cases hj7 : j < 7
        · obtain ⟨t, ht⟩ : ∃ t : Nat, t = 7 - j := ⟨_, rfl⟩
          obtain rfl : z = (t : Int) := by omega
          have htl : t < (F.drop u).length := by rw [HFd.out]; omega
          have hutl : u + t < F.length := by rw [Hflen.out]; omega
          obtain ⟨bb, ob, xb, hbb, hxb, hxbl, kc⟩ := (OwnB.sl oF0).byte hutl
          obtain ⟨rfl, rfl⟩ : bf = bb ∧ of = ob := by simpa using hbb
          have hstep := leval_drop' (F.drop u) t htl
          rw [List.getElem_drop, hxb, show t + 1 = 8 - j by omega, ← Hv.out] at hstep
          obtain ⟨ut, hut⟩ : ∃ ut, ut = u + t := ⟨_, rfl⟩
          rw [← hut] at kc
          have hs1 : IntKind.i64.wrap ((u : Int) + (t : Int)) = (ut : Int) := by rw [IntKind.wrap_i64]; omega
          have hs2 : IntKind.u64.wrap ((v : Int) * 256) = ((v * 256 : Nat) : Int) := by rw [IntKind.wrap_u64]; omega
          have hs3 : IntKind.u64.wrap (xb : Int) = (xb : Int) := by rw [IntKind.wrap_u64]; omega
          have hs4 : IntKind.u64.wrap (((v * 256 : Nat) : Int) + (xb : Int)) = ((v * 256 + xb : Nat) : Int) := by rw [IntKind.wrap_u64]; omega
          have hutn : ut < xy := by omega
          have htp : 0 < t := by omega
          have ht7 : t ≤ 7 := by omega
          have hti : decide ((0 : Int) < (t : Int)) = true := decide_eq_true (by omega)
          have Hstep := Lib.hid hstep
          have Ht := Lib.hid ht
          have Hj7 := Lib.hid hj7
          have kc := stays hbL kc
          have kc : (World.drew _).cell? _ = _ := kc
          clear hz hj hj7 ht hstep hxb htl hutl hut hbb
          go_wp2_with fail
          have hbL := below_drew hbL
          have hgi : wc.grownBy (World.drew _) (some gX) := grownR_drew hgi
          have k2 := k2.drew
          generalize hW : World.drew _ = wd at *
          refine regionF (fun j wa wb => j ≠ 14 → Below wd.heap.size wd wa → Below wd.heap.size wd wb) (by kernel_rfl) ?_
          rw [hW]
          clear hW
          have hX := Below.refl wd.heap.size wd
          refine takeT (i := 0) (v := ?_) rfl ?hy ?_
          case hy => intro wS; go_simp; try with_reducible rfl
          refine takeT (i := 1) (v := ?_) rfl ?hy ?_
          case hy => intro wS; go_simp; try with_reducible rfl
          refine takeM (i := 2) (v := ?_) rfl hX ?hy ?_
          case hy =>
            intro wS hSw
            obtain ⟨x0, x1, x2, x3, x4⟩ := k2.below hSw
            clear hSw
            go_simp
            try with_reducible rfl
          refine takeT (i := 3) (v := ?_) rfl ?hy ?_
          case hy => intro wS; go_simp; try with_reducible rfl
          refine takeT (i := 4) (v := ?_) rfl ?hy ?_
          case hy => intro wS; go_simp; try with_reducible rfl
          refine takeT (i := 5) (v := ?_) rfl ?hy ?_
          case hy => intro wS; go_simp; try with_reducible rfl
          refine takeT (i := 6) (v := ?_) rfl ?hy ?_
          case hy => intro wS; go_simp; try with_reducible rfl
          refine takeT (i := 7) (v := ?_) rfl ?hy ?_
          case hy => intro wS; go_simp; try with_reducible rfl
          refine takeT (i := 8) (v := ?_) rfl ?hy ?_
          case hy => intro wS; go_simp; try with_reducible rfl
          refine takeM (i := 9) (v := ?_) rfl hX ?hy ?_
          case hy =>
            intro wS hSw
            have kc := stays hSw kc
            clear hSw
            go_simp
            try with_reducible rfl
          refine takeT (i := 10) (v := ?_) rfl ?hy ?_
          case hy => intro wS; go_simp; try with_reducible rfl
          refine takeT (i := 11) (v := ?_) rfl ?hy ?_
          case hy => intro wS; go_simp; try with_reducible rfl
          refine takeT (i := 12) (v := ?_) rfl ?hy ?_
          case hy => intro wS; go_simp; try with_reducible rfl
          refine takeT (i := 13) (v := ?_) rfl ?hy ?_
          case hy => intro wS; go_simp; try with_reducible rfl
          try simp only [List.getElem_toArray, List.getElem_cons_succ, List.getElem_cons_zero, Act.put, List.setIfInBounds_toArray, List.set_cons_zero, List.set_cons_succ]
          refine readyF (rs := [14]) (by kernel_rfl) (by simp) ?_
          refine AllF.cons rfl (fun K hK => ?_) AllF.nil
          obtain ⟨x0, x1, x2, x3, x4⟩ := id k2
          go_simp
          refine hK _ _ (fun e => absurd rfl e) ?_
          clear hK K x0 x1 x2 x3 x4
          obtain ⟨k3, hgs⟩ := Bx4.set1 k2 (.int .u64 ((v * 256 + xb : Nat) : Int))
          refine doneF (by kernel_rfl) ?_ _
          try simp only [List.getElem_toArray, List.getElem_cons_succ, List.getElem_cons_zero, Act.put, List.setIfInBounds_toArray, List.set_cons_zero, List.set_cons_succ]
          go_wp2
          go_roundw
          case rel => exact ⟨j + 1, v * 256 + xb, (t : Int) - 1, by have := Ht.out; have := Hj7.out; omega, by have := Hj7.out; omega, by go_num, Lib.hid (by rw [← Hstep.out]; congr 2; have := Ht.out; omega), k3, grown_trans hgi hgs, hbL.grown hgs hbL.size (fun b hb => by simp at hb; omega)⟩
          case measure => simp [intOf]; omega
        · obtain rfl : j = 7 := by omega
          obtain rfl : z = 0 := by omega
          have hvv := Hv.out
          rw [show 8 - 7 = 1 from rfl] at hvv
          have hlv : leval (F.drop u) = v * 256 + xk := by
            have h0 : 0 < (F.drop u).length := by rw [HFd.out]; omega
            have h1 := leval_drop' (F.drop u) 0 h0
            rw [List.drop_zero, Nat.zero_add, ← hvv, List.getElem_drop] at h1
            rw [h1]
            congr 1 <;> exact Hxk.out
          have hu2 : F.length - 8 = u := by rw [Hflen.out]; have := Hux.out; omega
          have hver : verL F = keyOfN (F.take u) (v * 256 + xk) := by unfold verL; rw [hu2, hlv]
          have hsx : (verL F).seq.toNat = v := by
            rw [hver]
            unfold keyOfN
            rw [UInt64.toNat_ofNat', show (v * 256 + xk) / 256 = v by omega]
            exact Nat.mod_eq_of_lt (by omega)
          have hkx : (verL F).kind.toNat = xk := by
            rw [hver]
            unfold keyOfN
            simp
            omega
          have hux2 : (verL F).user = F.take u := by rw [hver]; rfl
          have s8 := s8.grown (by omega) hgi (fun hn b e q => (N8.out b hn e).2 (by simpa using q.symm))
          have s9 := s9.grown (by omega) hgi (fun hn b e q => (N9.out b hn e).2 (by simpa using q.symm))
          rw [← hux2] at s8
          have ho2 := ho2.below hbL
          have hq := hq.trans (hbL.mono hq.size)
          have sM := sM.below (by omega) hbL
          have sF := (OwnB.sl oF0).below (by omega) hbL
          have hrow := entRow' (x := ⟨verL F, V⟩) hsx hkx s8 s9 (q := fun b => blk A2 c2 ≠ some b ∧ w.heap.size ≤ b) (fun b hn e => ⟨fun q => by have h1 := (N8.out b hn e).1; have := HL.out b q; have := Zl.out; omega, by have h1 := (N8.out b hn e).1; have := Zq.out; omega⟩) (fun b hn e => ⟨fun q => by have h1 := (N9.out b hn e).1; have := HL.out b q; have := Zl.out; omega, by have h1 := (N9.out b hn e).1; have := Zq.out; omega⟩)
          have al := (Below.refl wr.heap.size wr).alloc (Nat.le_refl _) (.cells #[.slice A8 n8 c8, .int .u64 (v : Int), .int .u8 (xk : Int), .slice A9 n9 c9] 69)
          have ho2 := ho2.below al
          have hq := hq.trans (al.mono hq.size)
          have sM := sM.below (by omega) al
          have sF := sF.below (by omega) al
          have hbL := hbL.trans (al.mono hbL.size)
          obtain ⟨x0, x1, x2, x3, x4⟩ := id k2
          have n2b : n2 ≤ 65 := by omega
          have hbLs := hbL.size
          clear al hvv hlv hver hsx hkx hux2 hz hj hj7 Hv k2 s8 s9 hgi N8 N9
          go_wp2_with (at_builtin; refine wpList_appZ _ rfl (.tmp 168) (.tmp 170) 22 rfl w.heap.size 69 _ 64 Tryz.underlying22 infoEnt rfl A2 n2 c2 outs rfl ho2 _ 1 1 [⟨verL F, V⟩] rfl hrow ?_ ?_ ?_ ?_)
          · unfold maxLen; omega
          · omega
          · exact hq.size
          intro Ay cy2 w9 ho9 hg9 hx9
          have LFb : ∀ b, (some ⟨bf, of, none⟩ : Option Addr).map (·.block) = some b → blk A2 c2 ≠ some b := fun b e q => by
            have h1 := (Own.lt oF0 b (map_blk (OwnB.sl oF0).cap (by omega) e)).1
            have := HL.out b q
            omega
          have LMb : ∀ b, 0 < n6 - yz → AM.map (·.block) = some b → blk A2 c2 ≠ some b := fun b hn e q => by
            have h1 := (HNM.out b hn e).1
            have := HL.out b q
            omega
          have sF9 := sF.grown (by omega) hg9 (fun hn b e => LFb b e)
          have sM9 := sM.grown (by omega) hg9 (fun hn b e => LMb b hn e)
          have hq9 := hq.grown hg9 hq.size (fun b hb => (ho2.lt b hb).1)
          have sep : ∀ b, ((0 < xy ∧ (some ⟨bf, of, none⟩ : Option Addr).map (·.block) = some b) ∨ (0 < n6 - yz ∧ AM.map (·.block) = some b)) → blk Ay cy2 ≠ some b := fun b hh h9 => by
            rcases hx9 with q | q
            · rcases hh with hh | hh
              · exact LFb b hh.2 (q ▸ h9)
              · exact LMb b hh.1 hh.2 (q ▸ h9)
            · rw [q] at h9
              simp at h9
              rcases hh with hh | hh
              · have h1 := (OwnB.sl oF0).lt (by omega) (by omega) b hh.2
                simp at hbLs
                omega
              · have h1 := (HNM.out b hh.1 hh.2).2
                simp at hbLs
                omega
          have Sep := Lib.hid sep
          have HsM := Lib.hid sM9
          have hMl := sM9.lenb
          rw [List.length_drop, Hn6.out] at hMl
          clear hrow hg9 hx9 ho2 sep LFb LMb sF sM hq x0 x1 x2 x3 x4 hMl hbLs
          go_wp2
          go_roundw
          case rel => exact ⟨hq9, Ay, _, cy2, outs ++ [⟨verL F, V⟩], some ⟨bf, of, none⟩, xy, cF, F, AM, n6 - yz, c6 - yz, c0.drop yz, rfl, ho9, by rw [List.length_append]; have := Hn2.out; simp; omega, rfl, sF9, rfl, HsM.out, fun b hh => Sep.out b hh, by have := Hl2.out; have := Hlen.out; omega, Lib.hid (by rw [Hp.out]; exact Hcn.out)⟩
          case measure => have := Hl1.out; have := Hn4.out; have := HsM.out.lenb; simp [lenOfV]; omega
end Go.Proofs.YtpffieogkfndaaaGreatDoor
