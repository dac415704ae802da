/-
  TabSecW, TabOpenW in one text. No condition but sizes.
-/
import Derived.Test.YtpffieogkfndaaaGreatDoorJChunk
import Derived.Test.YtpffieogkfndaaaGreatDoorJTabBuildR
import Derived.Test.YtpffieogkfndaaaGreatDoorJTabVersionW
import Derived.Test.YtpffieogkfndaaaGreatDoorTabBuildW
import Derived.Test.YtpffieogkfndaaaGreatDoorJLeafFrom
namespace Go.Proofs.YtpffieogkfndaaaGreatDoor
open Go.RowKit
set_option maxRecDepth 20000
set_option linter.unusedVariables false
set_option linter.unusedSimpArgs false
theorem i64_or_nat4 (x y : Nat) (hx : x < 4294967296) (hy : y < 4294967296) : bits .or .i64 (x : Int) (y : Int) = ((x ||| y : Nat) : Int) := by
  have hz : x ||| y < 2 ^ 32 := Nat.or_lt_two_pow (by omega) (by omega)
  show IntKind.i64.wrap ((BitVec.ofInt 64 (x : Int) ||| BitVec.ofInt 64 (y : Int)).toNat : Int) = _
  rw [BitVec.toNat_or, ofInt_u64 x (by omega), ofInt_u64 y (by omega), IntKind.wrap_i64]
  omega
/-- p[lo:hi], and where it lies -/
theorem cutLHB {w : World} {A : Option Addr} {n c : Nat} {l : List UInt8} (h : Sl w 1 A n c (bc l)) (q q' : IntKind) (i j : Int) (lo hi : Nat) (ei : i = lo) (ej : j = hi) (h1 : lo ≤ hi) (h2 : hi ≤ n) :
    ∃ A', (∀ w' : World, (Instr.slice 29 (.slice A n c) (some (.int q i)) (some (.int q' j)) none).run Tryz.prog w' = .ok (.slice A' (hi - lo) (c - lo)) w') ∧
      Sl w 1 A' (hi - lo) (c - lo) (bc ((l.drop lo).take (hi - lo))) ∧ ∀ b, A'.map (·.block) = some b → A.map (·.block) = some b := by
  have hcap := h.cap
  subst ei
  subst ej
  refine ⟨if c = lo then A else A.map (·.add (lo * 1)), fun w' => ?_, ?_, fun b q => ?_⟩
  · have := run_slice_lh (P := Tryz.prog) w' 29 A n c Tryz.underlying29 q q' lo hi (by omega) (by omega) (by omega)
    rw [this]
    show ((sizeOf 5).run Tryz.prog w').andThen _ = _
    rw [run_sizeB]
    simp only [Result.andThen, sliced, Int.toNat_natCast]
  · have := h.cut (lo := lo) (hi := hi) (m := c) h1 h2 (by omega) (Nat.le_refl _)
    simp only [Nat.mul_one] at this
    rw [bc_take, bc_drop, Nat.mul_one]
    exact this
  · split at q
    · exact q
    · cases A with
      | none => cases q
      | some a =>
        have e : ∀ k, (a.add k).block = a.block := fun k => by unfold Addr.add; split <;> rfl
        simpa [e] using q
def secsN (p e : List UInt8) (i : Nat) : List (List UInt8) := (List.range i).map fun i => (p.drop (secAt e i)).take (secN e i)
theorem secsN_succ (p e : List UInt8) (i : Nat) : secsN p e (i + 1) = secsN p e i ++ [(p.drop (secAt e i)).take (secN e i)] := by simp [secsN, List.range_succ]
theorem secs_is (p : List UInt8) (h23 : 23 ≤ p.length) (e : List UInt8) (h : openL (p.drop (p.length - 23)) = (e, 0)) : sectionsL p = if secAt e 4 = p.length - 23 then some (secsN p e 4) else none := by
  unfold sectionsL
  rw [if_neg (by omega), h]
  simp only [ne_eq, not_true_eq_false, if_false]
  rfl
theorem secAt_le (e : List UInt8) (i d : Nat) : secAt e i ≤ secAt e (i + d) := by
  induction d with
  | zero => exact Nat.le_refl _
  | succ d ih => rw [← Nat.add_assoc, secAt_succ]; omega
theorem open_ok_len {p e : List UInt8} (h : openL p = (e, 0)) : e.length + 4 = p.length := by
  have := open_inv h
  rw [this, closeL_len]
theorem getD_is {e : List UInt8} {i x : Nat} (h : i < e.length) (hx : e[i].toNat = x) : (e.getD i 0).toNat = x := by
  rw [List.getD_eq_getElem?_getD, List.getElem?_eq_getElem h]
  exact hx
/-- four cells hold four bytes -/
def Four (b o x0 x1 x2 x3 : Nat) (w : World) : Prop := w.cell? ⟨b, o, none⟩ = some (.int .u8 (x0 : Int)) ∧ w.cell? ⟨b, o + 1, none⟩ = some (.int .u8 (x1 : Int)) ∧ w.cell? ⟨b, o + 2, none⟩ = some (.int .u8 (x2 : Int)) ∧ w.cell? ⟨b, o + 3, none⟩ = some (.int .u8 (x3 : Int))
theorem Four.drew {b o x0 x1 x2 x3 : Nat} {w : World} (h : Four b o x0 x1 x2 x3 w) : Four b o x0 x1 x2 x3 w.drew := h
/-- the sections, or that there are none: parts of the bytes -/
def GotSecs (w : World) (r : Option (List (List UInt8))) (e : Ending) (w' : World) : Prop :=
  ∃ A n c, e = .returned (.tuple #[.slice A n c, .bool r.isSome]) ∧ (∀ ls, r = some ls → ∃ vs, Sl w' 1 A n c vs ∧ PartsOf w' vs ls) ∧ Below w.heap.size w w'
theorem GotSecs.bad {w w' : World} {A : Option Addr} {n c : Nat} (hb : Below w.heap.size w w') : GotSecs w none (.returned (.tuple #[.slice A n c, .bool false])) w' := ⟨A, n, c, rfl, fun _ h => (by cases h), hb⟩
def SecRel (w1 : World) (p e : List UInt8) (M : Nat) (ov av iv : Value) (wr : World) : Prop :=
  ∃ (i a : Nat) (A2 : Option Addr) (n2 c2 : Nat), iv = .int .i64 (i : Int) ∧ av = .int .i64 (a : Int) ∧ ov = .slice A2 n2 c2 ∧ i ≤ 4 ∧ Hid (secAt e i = a) ∧ a ≤ M ∧ Below w1.heap.size w1 wr ∧ OwnL wr w1.heap.size w1.heap.size 29 A2 n2 c2 (secsN p e i)
set_option maxRecDepth 100000 in
set_option maxHeartbeats 16000000 in
theorem tsections_any (w : World) (A : Option Addr) (n c : Nat) (p : List UInt8) (h : Sl w 1 A n c (bc p)) (hq : Quarter w) (hn : n ≤ 1000000) :
    Calls Tryz.prog 61 #[.slice A n c] w (GotSecs w (sectionsL p)) := by
  have hl := h.lenb
  have Hz : Hid (∀ b, 0 < n → A.map (·.block) = some b → b < w.heap.size) := Lib.hid fun b h0 q => h.lt (by omega) h0 b q
  obtain ⟨r, hr⟩ : ∃ r, sectionsL p = r := ⟨_, rfl⟩
  rw [hr]
  by_cases h23 : n < 23
  case pos =>
    have er : r = none := by rw [← hr]; unfold sectionsL; rw [if_pos (by omega)]
    subst er
    have i1 : decide ((n : Int) < 23) = true := decide_eq_true (by omega)
    clear hr hl h
    go_enter Tryz.func61, Tryz.ntmps61
    go_wp2
    go_ret2
    exact GotSecs.bad (Below.refl _ _)
  have i1 : decide ((n : Int) < 23) = false := decide_eq_false (by omega)
  obtain ⟨M, hM⟩ : ∃ M, n - 23 = M := ⟨_, rfl⟩
  have eM : (n : Int) - 23 = (M : Int) := by omega
  obtain ⟨AQ, rq, sq, -⟩ := cutL h .i64 (M : Int) M rfl (by omega)
  have ko := open_any w AQ (n - M) (c - M) (p.drop M) sq hq (by omega)
  have hsec := secs_is p (by omega)
  rw [hl, hM] at hsec
  unfold NewB2 at ko
  have hol := open_len (p.drop M)
  have hok := fun e => open_ok_len (p := p.drop M) (e := e)
  have hno : (openL (p.drop M)).2 ≠ 0 → r = none := fun q => by rw [← hr]; unfold sectionsL; rw [if_neg (by omega), hl, hM, if_pos q]
  rw [List.length_drop] at hol
  generalize openL (p.drop M) = O at *
  obtain ⟨E, oe⟩ := O
  simp only at *
  have Ko := Lib.hid ko
  have Hno := Lib.hid hno
  have Hsec := Lib.hid hsec
  have Hok := Lib.hid hok
  have Hrr := Lib.hid hr
  have Hl := Lib.hid hl
  have HM := Lib.hid hM
  clear ko hno hsec hok hr hl sq hM
  go_enter Tryz.func61, Tryz.ntmps61
  go_wp2_with fail
  refine Ko.out.mono ?_
  rintro e w1 ⟨A4, n4, c4, rfl, ho4, hbr⟩
  clear Ko
  by_cases hoe : oe = 0
  case neg =>
    have er : r = none := Hno.out hoe
    subst er
    have t1 : ((oe : Int) == 0) = false := by simp; omega
    have t2 : ((oe : Int) != 0) = true := by simp; omega
    clear Hno Hsec Hok Hrr
    go_wp2
    go_ret2
    exact GotSecs.bad hbr
  subst hoe
  have hr := Hrr.out
  rw [Hsec.out E rfl] at hr
  have hE := Hok.out E rfl
  rw [List.length_drop, Hl.out] at hE
  have hn4 : n4 = 19 := by have := OwnB.len' ho4; have := HM.out; omega
  subst hn4
  have s4 := OwnB.sl ho4
  have Hr := Lib.hid hr
  clear hr Hno Hsec Hok Hrr hE ho4 hol
  go_wp2
  go_loopw [6, 7, 25] (SecRel w1 p E M) (fun _ _ iv _ => 4 - (intOf iv).toNat)
  case atStart => exact ⟨0, 0, none, 0, 0, rfl, rfl, rfl, Nat.zero_le _, Lib.hid rfl, Nat.zero_le _, Below.refl _ _, OwnL.nil _ _ _ _ _⟩
  case round =>
    obtain ⟨i, a, A2, n2, c2, rfl, rfl, rfl, hi, Ha, haM, hbr2, ho2⟩ := hrel
    have hn2 : n2 = i := by have := ho2.lenR; simpa [secsN] using this.symm
    have hbw := hbr.trans (hbr2.mono hbr.size)
    by_cases hlt : i < 4
    case neg =>
      obtain rfl : i = 4 := by omega
      have hr := Hr.out
      rw [Ha.out] at hr
      by_cases hf : a = M
      case pos =>
        rw [if_pos hf] at hr
        subst hr
        subst hf
        have HO : Hid (∃ vs, Sl wr 1 A2 n2 c2 vs ∧ PartsOf wr vs (secsN p E 4)) := by
          obtain ⟨xs, ho, hrr⟩ := ho2
          exact ⟨xs, ho.sl, hrr.parts⟩
        clear Hr Ha ho2 s4 h hq
        go_wp2
        go_ret2
        exact ⟨A2, n2, c2, rfl, fun ls q => (by cases q; exact HO.out), hbw⟩
      rw [if_neg hf] at hr
      subst hr
      have t1 : ((a : Int) == (M : Int)) = false := by simp; omega
      clear Hr Ha ho2 s4 h hq
      go_wp2
      go_ret2
      exact GotSecs.bad hbw
    have s4 := s4.below (by omega) hbr2
    obtain ⟨j4, hj4⟩ : ∃ j4, 4 * i = j4 := ⟨_, rfl⟩
    have e4 : (4 : Int) * (i : Int) = (j4 : Int) := by omega
    obtain ⟨AE, rE, sE, -⟩ := cutL s4 .i64 (j4 : Int) j4 rfl (by omega)
    obtain ⟨nq, hnq⟩ : ∃ nq, 19 - j4 = nq := ⟨_, rfl⟩
    rw [hnq] at rE sE
    have hnq0 : 0 < nq := by omega
    have hnq1 : 1 < nq := by omega
    have hnq2 : 2 < nq := by omega
    have hnq3 : 3 < nq := by omega
    have hni1 : (1 : Int) < (nq : Int) := by omega
    have hni2 : (2 : Int) < (nq : Int) := by omega
    have hni3 : (3 : Int) < (nq : Int) := by omega
    have hlE := s4.lenb
    have hlq := sE.lenb
    obtain ⟨qb, qo, y0, rfl, g0, l0, k0⟩ := sE.byte (k := 0) (by omega)
    obtain ⟨b1, o1, y1, hA1, g1, l1, k1⟩ := sE.byte (k := 1) (by omega)
    obtain ⟨b2, o2, y2, hA2, g2, l2, k2⟩ := sE.byte (k := 2) (by omega)
    obtain ⟨b3, o3, y3, hA3, g3, l3, k3⟩ := sE.byte (k := 3) (by omega)
    obtain ⟨rfl, rfl⟩ : qb = b1 ∧ qo = o1 := by simpa using hA1
    obtain ⟨rfl, rfl⟩ : qb = b2 ∧ qo = o2 := by simpa using hA2
    obtain ⟨rfl, rfl⟩ : qb = b3 ∧ qo = o3 := by simpa using hA3
    rw [List.getElem_drop] at g0 g1 g2 g3
    obtain ⟨N, hN⟩ : ∃ N, secN E i = N := ⟨_, rfl⟩
    have hNv : N = y0 + 256 * y1 + 65536 * y2 + 16777216 * y3 := by
      rw [← hN]
      unfold secN
      rw [getD_is (by omega) (by simpa only [← hj4, Nat.add_zero] using g0), getD_is (by omega) (by simpa only [← hj4] using g1), getD_is (by omega) (by simpa only [← hj4] using g2), getD_is (by omega) (by simpa only [← hj4] using g3)]
    have hX : Four qb qo y0 y1 y2 y3 wr := ⟨k0, k1, k2, k3⟩
    have hw0 : IntKind.i64.wrap (y0 : Int) = (y0 : Int) := by rw [IntKind.wrap_i64]; omega
    have hw1 : IntKind.i64.wrap (y1 : Int) = (y1 : Int) := by rw [IntKind.wrap_i64]; omega
    have hw2 : IntKind.i64.wrap (y2 : Int) = (y2 : Int) := by rw [IntKind.wrap_i64]; omega
    have hw3 : IntKind.i64.wrap (y3 : Int) = (y3 : Int) := by rw [IntKind.wrap_i64]; omega
    have hs1 : IntKind.i64.wrap ((y1 : Int) * 256) = ((y1 * 256 : Nat) : Int) := by rw [IntKind.wrap_i64]; omega
    have hs2 : IntKind.i64.wrap ((y2 : Int) * 65536) = ((y2 * 65536 : Nat) : Int) := by rw [IntKind.wrap_i64]; omega
    have hs3 : IntKind.i64.wrap ((y3 : Int) * 16777216) = ((y3 * 16777216 : Nat) : Int) := by rw [IntKind.wrap_i64]; omega
    obtain ⟨z1, hz1⟩ : ∃ z1, y0 + y1 * 256 = z1 := ⟨_, rfl⟩
    obtain ⟨z2, hz2⟩ : ∃ z2, z1 + y2 * 65536 = z2 := ⟨_, rfl⟩
    have ho1 : bits .or .i64 (y0 : Int) ((y1 * 256 : Nat) : Int) = (z1 : Int) := by
      rw [i64_or_nat4 _ _ (by omega) (by omega), Nat.or_comm, nat_join 8 _ _ (by omega) (by omega), ← hz1]
      congr 1
      omega
    have ho22 : bits .or .i64 (z1 : Int) ((y2 * 65536 : Nat) : Int) = (z2 : Int) := by
      rw [i64_or_nat4 _ _ (by omega) (by omega), Nat.or_comm, nat_join 16 _ _ (by omega) (by omega), ← hz2]
      congr 1
      omega
    have ho3 : bits .or .i64 (z2 : Int) ((y3 * 16777216 : Nat) : Int) = (N : Int) := by
      rw [i64_or_nat4 _ _ (by omega) (by omega), Nat.or_comm, nat_join 24 _ _ (by omega) (by omega), hNv]
      congr 1
      omega
    have hN32 : N < 4294967296 := by omega
    obtain ⟨yy1, hyy1⟩ : ∃ yy, y1 * 256 = yy := ⟨_, rfl⟩
    rw [hyy1] at hs1 ho1
    clear hyy1
    obtain ⟨yy2, hyy2⟩ : ∃ yy, y2 * 65536 = yy := ⟨_, rfl⟩
    rw [hyy2] at hs2 ho22
    clear hyy2
    obtain ⟨yy3, hyy3⟩ : ∃ yy, y3 * 16777216 = yy := ⟨_, rfl⟩
    rw [hyy3] at hs3 ho3
    clear hyy3
    have HN := Lib.hid hN
    clear hN hNv hz1 hz2 g0 g1 g2 g3 hA1 hA2 hA3 k0 k1 k2 k3 hlE hlq sE hj4 hnq
    go_wp2_with fail
    have hX := hX.drew
    have h := (h.below (by omega) hbw).drew
    have ho2 := ho2.below (Below.refl wr.heap.size wr).drew
    have hbr2 := hbr2.drew
    have hbw := hbw.drew
    generalize hW : wr.drew = wz at *
    refine regionF (fun _ wa wb => Four qb qo y0 y1 y2 y3 wa → Four qb qo y0 y1 y2 y3 wb) (by kernel_rfl) ?_
    rw [hW]
    clear hW
    refine takeT (i := 0) (v := ?_) rfl ?hy ?_
    case hy => intro wS; go_simp; try with_reducible rfl
    refine takeT (i := 1) (v := ?_) rfl ?hy ?_
    case hy => intro wS; go_simp; try with_reducible rfl
    refine takeP (i := 2) (v := ?_) rfl hX ?hy ?_
    case hy =>
      intro wS hSw
      obtain ⟨x0, x1, x2, x3⟩ := id hSw
      clear hSw
      go_simp
      try with_reducible rfl
    refine takeT (i := 3) (v := ?_) rfl ?hy ?_
    case hy => intro wS; go_simp; try with_reducible rfl
    refine takeT (i := 4) (v := ?_) rfl ?hy ?_
    case hy => intro wS; go_simp; try with_reducible rfl
    refine takeT (i := 5) (v := ?_) rfl ?hy ?_
    case hy => intro wS; go_simp; try with_reducible rfl
    refine takeP (i := 6) (v := ?_) rfl hX ?hy ?_
    case hy =>
      intro wS hSw
      obtain ⟨x0, x1, x2, x3⟩ := id hSw
      clear hSw
      go_simp
      try with_reducible rfl
    refine takeT (i := 7) (v := ?_) rfl ?hy ?_
    case hy => intro wS; go_simp; try with_reducible rfl
    refine takeT (i := 8) (v := ?_) rfl ?hy ?_
    case hy => intro wS; go_simp; try with_reducible rfl
    refine takeT (i := 9) (v := ?_) rfl ?hy ?_
    case hy => intro wS; go_simp; try with_reducible rfl
    refine takeT (i := 10) (v := ?_) rfl ?hy ?_
    case hy => intro wS; go_simp; try with_reducible rfl
    refine takeT (i := 11) (v := ?_) rfl ?hy ?_
    case hy => intro wS; go_simp; try with_reducible rfl
    refine takeP (i := 12) (v := ?_) rfl hX ?hy ?_
    case hy =>
      intro wS hSw
      obtain ⟨x0, x1, x2, x3⟩ := id hSw
      clear hSw
      go_simp
      try with_reducible rfl
    refine takeT (i := 13) (v := ?_) rfl ?hy ?_
    case hy => intro wS; go_simp; try with_reducible rfl
    refine takeT (i := 14) (v := ?_) rfl ?hy ?_
    case hy => intro wS; go_simp; try with_reducible rfl
    refine takeT (i := 15) (v := ?_) rfl ?hy ?_
    case hy => intro wS; go_simp; try with_reducible rfl
    refine takeT (i := 16) (v := ?_) rfl ?hy ?_
    case hy => intro wS; go_simp; try with_reducible rfl
    refine takeT (i := 17) (v := ?_) rfl ?hy ?_
    case hy => intro wS; go_simp; try with_reducible rfl
    refine takeP (i := 18) (v := ?_) rfl hX ?hy ?_
    case hy =>
      intro wS hSw
      obtain ⟨x0, x1, x2, x3⟩ := id hSw
      clear hSw
      go_simp
      try with_reducible rfl
    refine takeT (i := 19) (v := ?_) rfl ?hy ?_
    case hy => intro wS; go_simp; try with_reducible rfl
    refine takeT (i := 20) (v := ?_) rfl ?hy ?_
    case hy => intro wS; go_simp; try with_reducible rfl
    refine takeT (i := 21) (v := ?_) rfl ?hy ?_
    case hy => intro wS; go_simp; try with_reducible rfl
    refine takeT (i := 22) (v := ?_) rfl ?hy ?_
    case hy => intro wS; go_simp; try with_reducible rfl
    try simp only [List.getElem_toArray, List.getElem_cons_succ, List.getElem_cons_zero, Act.put, List.setIfInBounds_toArray, List.set_cons_zero, List.set_cons_succ]
    refine doneF (by kernel_rfl) ?_ _
    try simp only [List.getElem_toArray, List.getElem_cons_succ, List.getElem_cons_zero, Act.put, List.setIfInBounds_toArray, List.set_cons_zero, List.set_cons_succ]
    by_cases hov : M - a < N
    case pos =>
      have er : r = none := by
        rw [← Hr.out, if_neg]
        have h1 := secAt_succ E i
        have h2 := secAt_le E (i + 1) (3 - i)
        rw [show i + 1 + (3 - i) = 4 by omega] at h2
        have h3 := Ha.out
        have h4 := HN.out
        have h5 := Hl.out
        have h6 := HM.out
        omega
      subst er
      have d1 : decide (((M : Int) - (a : Int)) < (N : Int)) = true := decide_eq_true (by omega)
      clear Hr Ha HN ho2 h
      go_wp2
      go_ret2
      exact GotSecs.bad hbw
    have d1 : decide (((M : Int) - (a : Int)) < (N : Int)) = false := decide_eq_false (by omega)
    obtain ⟨a2, ha2⟩ : ∃ a2, a + N = a2 := ⟨_, rfl⟩
    have ea2 : (a : Int) + (N : Int) = (a2 : Int) := by omega
    have hMn := HM.out
    obtain ⟨AS, rS, sS, bS⟩ := cutLHB h .i64 .i64 (a : Int) (a2 : Int) a a2 rfl rfl (by omega) (by omega)
    rw [show a2 - a = N by omega] at rS sS
    have hblk : ∀ b, 0 < N → AS.map (·.block) = some b → b < w1.heap.size := fun b h0 q => by
      have := Hz.out b (by omega) (bS b q)
      have := hbr.size
      omega
    have hrow := userRow wz w1.heap.size AS N (c - a) _ sS hblk 29
    have al := (Below.refl wz.heap.size wz).alloc (Nat.le_refl _) (.cells #[.slice AS N (c - a)] 29)
    have ho2 := ho2.below al
    have hbr2 := hbr2.trans (al.mono hbr2.size)
    have HA2 : Hid (secAt E (i + 1) = a2) := Lib.hid (by rw [secAt_succ, Ha.out, HN.out, ha2])
    have hst := secsN_succ p E i
    rw [Ha.out, HN.out] at hst
    have Hst := Lib.hid hst
    clear hst al sS hX h hbw
    go_wp2_with (at_builtin; refine wpList_appL (α := List UInt8) _ rfl (.tmp 61) (.tmp 68) 78 rfl w1.heap.size w1.heap.size 29 _ 24 Tryz.underlying78 infoP rfl A2 n2 c2 _ rfl ho2 _ 1 1 [(p.drop a).take N] rfl hrow ?_ ?_ ?_ (Nat.le_refl _) ?_)
    · unfold maxLen; omega
    · omega
    · have := hbr2.size; rw [World.size_alloc] at this; omega
    intro A9 c9 w9 ho9 hg9 _
    have hbr9 := hbr2.grown hg9 hbr2.size (fun b hb => (ho2.lt b hb).1)
    rw [← Hst.out] at ho9
    clear hrow ho2 hg9
    go_wp2
    go_roundw
    case rel => exact ⟨i + 1, a2, A9, _, c9, by go_num, rfl, rfl, by omega, HA2, by omega, hbr9, ho9⟩
    case measure => simp [intOf]; omega
end Go.Proofs.YtpffieogkfndaaaGreatDoor

namespace Go.Proofs.YtpffieogkfndaaaGreatDoor
open Go.RowKit
set_option maxRecDepth 20000
set_option linter.unusedVariables false
set_option linter.unusedSimpArgs false
/-- the table of bytes, in new memory; or that they are none -/
def GotTab (w : World) (p : List UInt8) (e : Ending) (w' : World) : Prop :=
  Below w.heap.size w w' ∧ ((∃ g l sp, checkTabL l sp = 0 ∧ tabBytesL l sp = p ∧ e = .returned (.tuple #[.pointer (some ⟨g, 0, none⟩), .int .i64 0]) ∧ TabIs w' w.heap.size g l sp) ∨ (NoTab p ∧ e = .returned (.tuple #[.pointer none, .int .i64 4])))
theorem GotTab.bad {w w' : World} {p : List UInt8} (h : NoTab p) (hb : Below w.heap.size w w') : GotTab w p (.returned (.tuple #[.pointer none, .int .i64 4])) w' := ⟨hb, .inr ⟨h, rfl⟩⟩
/-- the document's table: two rows in a box, all of it from B on -/
def RTabIs (w : World) (B g : Nat) (l : List EntL) (sp : List SpanL) : Prop :=
  B ≤ g ∧ ∃ (A1 : Option Addr) (n1 c1 : Nat) (A2 : Option Addr) (n2 c2 : Nat), w.cell? ⟨g, 0, none⟩ = some (.slice A1 n1 c1) ∧ w.cell? ⟨g, 1, none⟩ = some (.slice A2 n2 c2) ∧ SlR w (fun b => B ≤ b) A1 n1 c1 l ∧ SlR w (fun b => B ≤ b) A2 n2 c2 sp
def GotRTab (w : World) (p : List UInt8) (e : Ending) (w' : World) : Prop :=
  Below w.heap.size w w' ∧ ((∃ g l sp, checkTabL l sp = 0 ∧ tabBytesL l sp = p ∧ e = .returned (.tuple #[.pointer (some ⟨g, 0, none⟩), .int .i64 0]) ∧ RTabIs w' w.heap.size g l sp) ∨ (NoTab p ∧ e = .returned (.tuple #[.pointer none, .int .i64 4])))
theorem GotRTab.bad {w w' : World} {p : List UInt8} (h : NoTab p) (hb : Below w.heap.size w w') : GotRTab w p (.returned (.tuple #[.pointer none, .int .i64 4])) w' := ⟨hb, .inr ⟨h, rfl⟩⟩
theorem SlR.setLow {α : Type} [Rep α] {w : World} {B : Nat} {A : Option Addr} {n c : Nat} {ls : List α} (h : SlR w (fun b => B ≤ b) A n c ls) {g : Nat} (hg : g < B) (i : Nat) (v : Value) : SlR (w.setCell ⟨g, i, none⟩ v) (fun b => B ≤ b) A n c ls :=
  h.move fun b _ hp => ⟨Below.heap_setCell w _ v b (by have h2 : B ≤ b := hp; show b ≠ g; omega), hp⟩
theorem SetIs.setLow {w : World} {g2 : Nat} {ls : List SpanL} (h : SetIs w g2 ls) {g : Nat} (hg : g < g2) (i : Nat) (v : Value) : SetIs (w.setCell ⟨g, i, none⟩ v) g2 ls := by
  obtain ⟨A, n, c, h1, h2, xs, ho, hr⟩ := h
  refine ⟨A, n, c, set_other h1 v (.inl (by omega)), by rw [World.frozen?_setCell]; exact h2, xs, own_set ho (by omega) v, hr.move fun b hl hp => ⟨Below.heap_setCell w _ v b (by have h3 : g2 + 1 ≤ b := hp.2; show b ≠ g; omega), hp⟩⟩
theorem Bx4.setA {w : World} {g : Nat} {u0 u1 u2 u3 : Value} (h : Bx4 w g u0 u1 u2 u3) (v : Value) : Bx4 (w.setCell ⟨g, 1, none⟩ v) g u0 v u2 u3 :=
  ⟨set_other h.c0 _ (by omega), set_same h.c1 _, set_other h.c2 _ (by omega), set_other h.c3 _ (by omega), fun j => by simp [h.fr]⟩
theorem Bx4.setC {w : World} {g : Nat} {u0 u1 u2 u3 : Value} (h : Bx4 w g u0 u1 u2 u3) (v : Value) : Bx4 (w.setCell ⟨g, 3, none⟩ v) g u0 u1 u2 v :=
  ⟨set_other h.c0 _ (by omega), set_other h.c1 _ (by omega), set_other h.c2 _ (by omega), set_same h.c3 _, fun j => by simp [h.fr]⟩
theorem Sl.setAt {w : World} {A : Option Addr} {n c : Nat} {xs : List Value} (h : Sl w 1 A n c xs) {g : Nat} (hg : Hid (0 < n → ∀ b, A.map (·.block) = some b → b < g)) (i : Nat) (v : Value) : Sl (w.setCell ⟨g, i, none⟩ v) 1 A n c xs :=
  h.grown (by omega) (only_set (World.grownBy.refl w (some g)) i v) (fun hn b hb q => by have := hg.out hn b hb; have := Option.some.inj q; omega)
set_option maxHeartbeats 32000000 in
theorem topen_any (w : World) (A : Option Addr) (n c : Nat) (p : List UInt8) (h : Sl w 1 A n c (bc p)) (hq : Quarter w) (hn : n ≤ 65536) :
    Calls Tryz.prog 23 #[.slice A n c] w (GotTab w p) := by
  have hl := h.lenb
  have ks := tsections_any w A n c p h hq (by omega)
  obtain ⟨S, hS⟩ : ∃ S, sectionsL p = S := ⟨_, rfl⟩
  rw [hS] at ks
  unfold GotSecs at ks
  have Ks := Lib.hid ks
  have HS := Lib.hid hS
  have HQ := Lib.hid hq
  have Hl := Lib.hid hl
  clear ks hS hq hl
  go_enter Tryz.func23, Tryz.ntmps23
  go_wp2_with fail
  refine Ks.out.mono ?_
  rintro e w1 ⟨A1, n1, c1, rfl, hp1, hbr⟩
  clear Ks
  rcases S with _ | ls
  case none =>
    have HNO : Hid (NoTab p) := Lib.hid (noTab_secs HS.out)
    simp only [Option.isSome_none, Option.isSome_some] at *
    clear hp1 HS
    go_wp2
    go_ret2
    exact GotTab.bad HNO.out hbr
  case some =>
    obtain ⟨pA, pB, pC, pD, rfl, lB, lC, lD⟩ := sections_four HS.out
    obtain ⟨vs, sv, hpt⟩ := hp1 _ rfl
    obtain rfl : n1 = 4 := by have h1 := sv.len; have h2 := hpt.1; simp at h1 h2; omega
    obtain ⟨g1, o1, A2, n2, c2, _, rfl, d1, sB⟩ := hpt.get sv (k := 1) (by omega)
    obtain ⟨g2, o2, A3, n3, c3, _, eA2, d2, sC⟩ := hpt.get sv (k := 2) (by omega)
    obtain ⟨rfl, rfl⟩ : g1 = g2 ∧ o1 = o2 := by simpa using eA2
    obtain ⟨g3, o3, A4, n4, c4, _, eA3, d3, sD⟩ := hpt.get sv (k := 3) (by omega)
    obtain ⟨rfl, rfl⟩ : g1 = g3 ∧ o1 = o3 := by simpa using eA3
    have sB : Sl w1 1 A2 n2 c2 (bc pB) := sB
    have sC : Sl w1 1 A3 n3 c3 (bc pC) := sC
    have sD : Sl w1 1 A4 n4 c4 (bc pD) := sD
    rw [Hl.out] at lB lC lD
    have nB := sB.lenb
    have nC := sC.lenb
    have nD := sD.lenb
    have h := h.below (by omega) hbr
    obtain ⟨⟨iB, eB⟩, hOB⟩ : ∃ O, openL pB = O := ⟨_, rfl⟩
    obtain ⟨⟨iC, eC⟩, hOC⟩ : ∃ O, openL pC = O := ⟨_, rfl⟩
    obtain ⟨⟨iD, eD⟩, hOD⟩ : ∃ O, openL pD = O := ⟨_, rfl⟩
    have lB2 := open_len pB
    have lC2 := open_len pC
    have lD2 := open_len pD
    rw [hOB] at lB2
    rw [hOC] at lC2
    rw [hOD] at lD2
    simp only at lB2 lC2 lD2
    have k1 := fun w' A n c (h : Sl w' 1 A n c (bc pB)) hq hn => open_any w' A n c pB h hq hn
    have k2 := fun w' A n c (h : Sl w' 1 A n c (bc pC)) hq hn => open_any w' A n c pC h hq hn
    have k3 := fun w' A n c (h : Sl w' 1 A n c (bc pD)) hq hn => open_any w' A n c pD h hq hn
    rw [hOB] at k1
    rw [hOC] at k2
    rw [hOD] at k3
    simp only at k1 k2 k3
    unfold NewB2 at k1 k2 k3
    have K1 := Lib.hid k1
    have K2 := Lib.hid k2
    have K3 := Lib.hid k3
    have HB := Lib.hid hOB
    have HC := Lib.hid hOC
    have HD := Lib.hid hOD
    clear k1 k2 k3 hOB hOC hOD hp1 sv hpt eA2 eA3
    go_wp2_with fail
    clear d1
    refine (K1.out w1 A2 n2 c2 sB (HQ.out.below hbr) (by omega)).mono ?_
    rintro e w2 ⟨A5, n5, c5, rfl, ho5, hb⟩
    have s5 := OwnB.sl ho5
    have hbr0 := hbr
    have h := h.below (by omega) hb
    have sC := sC.below (by omega) hb
    have sD := sD.below (by omega) hb
    have d2 := stays hb d2
    have d3 := stays hb d3
    have hbr := hbr.trans (hb.mono hbr.size)
    clear K1 hb ho5 sB
    go_wp2_with fail
    clear d2
    refine (K2.out w2 A3 n3 c3 sC (HQ.out.below hbr) (by omega)).mono ?_
    rintro e w3 ⟨A6, n6, c6, rfl, ho6, hb⟩
    have s6 := OwnB.sl ho6
    have hz2 := hbr.size
    have u6 := Lib.hid (fun (b : Nat) (hn : 0 < n6) q => own_at (b := b) ho6 hn q)
    have h := h.below (by omega) hb
    have sD := sD.below (by omega) hb
    have d3 := stays hb d3
    have hbr := hbr.trans (hb.mono hbr.size)
    have s5 := s5.below (by omega) hb
    clear K2 hb ho6 sC
    go_wp2_with fail
    clear d3
    refine (K3.out w3 A4 n4 c4 sD (HQ.out.below hbr) (by omega)).mono ?_
    rintro e w4 ⟨A7, n7, c7, rfl, ho7, hb⟩
    have s7 := OwnB.sl ho7
    have h := h.below (by omega) hb
    have hbr := hbr.trans (hb.mono hbr.size)
    have s5 := s5.below (by omega) hb
    have s6 := s6.below (by omega) hb
    clear K3 hb ho7 sD
    have hl5 := s5.lenb
    have hl6 := s6.lenb
    have hl7 := s7.lenb
    by_cases z1 : eB = 0
    case neg =>
      have HNO : Hid (NoTab p) := Lib.hid (noTab_open HS.out (.inl (by rw [HB.out]; exact z1)))
      have t1 : ((eB : Int) == 0) = false := by simp; omega
      have t2 : ((eB : Int) != 0) = true := by simp; omega
      clear HB HC HD HS
      go_wp2
      go_ret2
      exact GotTab.bad HNO.out hbr
    subst z1
    by_cases z2 : eC = 0
    case neg =>
      have HNO : Hid (NoTab p) := Lib.hid (noTab_open HS.out (.inr (.inl (by rw [HC.out]; exact z2))))
      have t1 : ((eC : Int) == 0) = false := by simp; omega
      have t2 : ((eC : Int) != 0) = true := by simp; omega
      clear HB HC HD HS
      go_wp2
      go_ret2
      exact GotTab.bad HNO.out hbr
    subst z2
    by_cases z3 : eD = 0
    case neg =>
      have HNO : Hid (NoTab p) := Lib.hid (noTab_open HS.out (.inr (.inr (by rw [HD.out]; exact z3))))
      have t1 : ((eD : Int) == 0) = false := by simp; omega
      have t2 : ((eD : Int) != 0) = true := by simp; omega
      clear HB HC HD HS
      go_wp2
      go_ret2
      exact GotTab.bad HNO.out hbr
    subst z3
    have hB5 : n5 ≤ 65536 := by omega
    have hB6 : n6 ≤ 65536 := by omega
    have hB7 : n7 ≤ 65536 := by omega
    obtain ⟨pb1, pb2⟩ := pages_bounds (p := iB) (by omega)
    obtain ⟨sb1, sb2⟩ := spans_bounds (p := iD) (by omega)
    have Pb := Lib.hid pb1
    have Sb := Lib.hid sb1
    clear lB lC lD nB nC nD lB2 lC2 lD2 hl5 hl6 hl7 pb1 sb1
    go_wp2_with fail
    have hz4 := hbr.size
    refine (clone_any w4 A n c p h (by omega)).mono ?_
    rintro e w5 ⟨A8, n8, c8, rfl, ho8, hb⟩
    have s8 := OwnB.sl ho8
    have u8 := Lib.hid (fun (b : Nat) (hn : 0 < n8) q => own_at (b := b) ho8 hn q)
    have h := h.below (by omega) hb
    have hbr := hbr.trans (hb.mono hbr.size)
    have s5 := s5.below (by omega) hb
    have s6 := s6.below (by omega) hb
    have s7 := s7.below (by omega) hb
    clear hb ho8
    have l6 := Lib.hid (s6.lt (by omega))
    have l7 := Lib.hid (s7.lt (by omega))
    have l8 := Lib.hid (s8.lt (by omega))
    have l0 := Lib.hid (h.lt (by omega))
    have hgw := hbr.size
    have hb := (Below.refl w5.heap.size w5).alloc (Nat.le_refl _) (.cells #[.slice A8 n8 c8, .slice none 0 0, .slice A6 n6 c6, .pointer none] 100)
    have kT := Bx4.fresh w5 (.slice A8 n8 c8) (.slice none 0 0) (.slice A6 n6 c6) (.pointer none) 100
    obtain ⟨g, hg⟩ : ∃ g, w5.heap.size = g := ⟨_, rfl⟩
    rw [hg] at kT l6 l7 l8 l0 hgw
    have h := h.below (by omega) hb
    have hbr := hbr.trans (hb.mono hbr.size)
    have s5 := s5.below (by omega) hb
    have s6 := s6.below (by omega) hb
    have s7 := s7.below (by omega) hb
    have s8 := s8.below (by omega) hb
    have hb78 : g < (w5.alloc (.cells #[.slice A8 n8 c8, .slice none 0 0, .slice A6 n6 c6, .pointer none] 100)).heap.size := kT.lt
    generalize hW : (w5.alloc (.cells #[.slice A8 n8 c8, .slice none 0 0, .slice A6 n6 c6, .pointer none] 100)) = w6 at *
    clear hb
    go_wp2_with fail
    try rw [hW]
    try rw [hg]
    clear hW hg
    obtain ⟨PG, hPG⟩ : ∃ P, pagesL iB = P := ⟨_, rfl⟩
    obtain ⟨SP, hSP⟩ : ∃ P, spansL iD = P := ⟨_, rfl⟩
    have k4 := tpages_any w6 A5 n5 c5 iB s5 (by omega)
    have k5 := fun w' A n c (h : Sl w' 1 A n c (bc iD)) hn => tspans_any w' A n c iD h hn
    rw [hPG] at k4
    rw [hSP] at k5
    rw [hPG] at pb2 Pb
    rw [hSP] at sb2 Sb
    unfold GotPages at k4
    unfold GotSpans at k5
    have K4 := Lib.hid k4
    have K5 := Lib.hid k5
    have HPG := Lib.hid hPG
    have HSP := Lib.hid hSP
    clear k4 k5 hPG hSP s5
    refine K4.out.mono ?_
    rintro e w7 ⟨A9, n9, c9, rfl, r9, hb⟩
    have h := h.below (by omega) hb
    have hbr := hbr.trans (hb.mono hbr.size)
    have s6 := s6.below (by omega) hb
    have s7 := s7.below (by omega) hb
    have s8 := s8.below (by omega) hb
    have kT := kT.below hb
    clear hb K4
    obtain ⟨x0, x1, x2, x3, x4⟩ := id kT
    have kT := kT.setA (.slice A9 n9 c9)
    have r9 := r9.setLow hb78 1 (.slice A9 n9 c9)
    have h := h.setAt (g := g) l0 1 (.slice A9 n9 c9)
    have s6 := s6.setAt (g := g) l6 1 (.slice A9 n9 c9)
    have s7 := s7.setAt (g := g) l7 1 (.slice A9 n9 c9)
    have s8 := s8.setAt (g := g) l8 1 (.slice A9 n9 c9)
    have hbr := hbr.setCell (p := ⟨g, 1, none⟩) hgw (.slice A9 n9 c9)
    go_wp2_with fail
    generalize (w7.setCell ⟨g, 1, none⟩ (.slice A9 n9 c9)) = w8 at *
    have hgl8' := kT.lt
    clear x0 x1 x2 x3 x4
    refine (K5.out w8 A7 n7 c7 s7 (by omega)).mono ?_
    rintro e w9 ⟨A10, n10, c10, rfl, r10, hb⟩
    have h := h.below (by omega) hb
    have hbr := hbr.trans (hb.mono hbr.size)
    have s6 := s6.below (by omega) hb
    have s8 := s8.below (by omega) hb
    have kT := kT.below hb
    have r9 := r9.below hb
    clear hb K5 s7
    have hl10 := r10.lenR
    have k6 := new_any w9 _ A10 n10 c10 _ r10 (by omega) Sb.out
    unfold GotSet at k6
    have K6 := Lib.hid k6
    have hgl9 := kT.lt
    clear k6
    go_wp2_with fail
    refine K6.out.mono ?_
    rintro e w10 ⟨g2, rfl, hg2, S2, hb⟩
    have h := h.below (by omega) hb
    have hbr := hbr.trans (hb.mono hbr.size)
    have s6 := s6.below (by omega) hb
    have s8 := s8.below (by omega) hb
    have kT := kT.below hb
    have r9 := r9.below hb
    have r10 := r10.below hb
    clear hb K6
    have hgg : g < g2 := by omega
    obtain ⟨x0, x1, x2, x3, x4⟩ := id kT
    have hgl8 : g < w8.heap.size := hgl8'
    have kT := kT.setC (.pointer (some ⟨g2, 0, none⟩))
    have r9 := r9.setLow hb78 3 (.pointer (some ⟨g2, 0, none⟩))
    have r10 := r10.setLow hgl8 3 (.pointer (some ⟨g2, 0, none⟩))
    have S2 := S2.setLow hgg 3 (.pointer (some ⟨g2, 0, none⟩))
    have h := h.setAt (g := g) l0 3 (.pointer (some ⟨g2, 0, none⟩))
    have s6 := s6.setAt (g := g) l6 3 (.pointer (some ⟨g2, 0, none⟩))
    have s8 := s8.setAt (g := g) l8 3 (.pointer (some ⟨g2, 0, none⟩))
    have hbr := hbr.setCell (p := ⟨g, 3, none⟩) hgw (.pointer (some ⟨g2, 0, none⟩))
    go_wp2_with fail
    generalize (w10.setCell ⟨g, 3, none⟩ (.pointer (some ⟨g2, 0, none⟩))) = w11 at *
    clear x0 x1 x2 x3 x4
    obtain ⟨EN, hEN⟩ : ∃ E, entriesL p (PG.getD []) = E := ⟨_, rfl⟩
    have hl9 := r9.lenR
    have hl8 := s8.lenb
    have hl := Hl.out
    have k7 := tentries_any w11 g A8 n8 c8 p kT.c0 s8 (by omega) (HQ.out.below hbr) _ A9 n9 c9 _ kT.c1 r9 Pb.out (by omega)
    rw [hEN] at k7
    unfold GotLeaf at k7
    have K7 := Lib.hid k7
    have HEN := Lib.hid hEN
    clear k7 hEN hl9 hl8 hl pb2 sb2 hl10
    refine K7.out.mono ?_
    rintro e w12 ⟨A12, n12, c12, rfl, r12, hb⟩
    have h := h.below (by omega) hb
    have hbr := hbr.trans (hb.mono hbr.size)
    have s6 := s6.below (by omega) hb
    have s8 := s8.below (by omega) hb
    have kT := kT.below hb
    have r9 := r9.below hb
    have r10 := r10.below hb
    have S2 := S2.below hb
    clear hb K7
    rcases PG with _ | pg
    case none =>
      have HNO : Hid (NoTab p) := Lib.hid (noTab_parse HS.out (.inl (by rw [HB.out]; exact HPG.out)))
      simp only [Option.isSome_none, Option.isSome_some] at *
      clear HS HB HC HD HPG HSP HEN r9 r10 r12 Pb Sb kT s8 s6 S2
      go_wp2
      go_ret2
      exact GotTab.bad HNO.out hbr
    case some =>
      rcases SP with _ | sp
      case none =>
        have HNO : Hid (NoTab p) := Lib.hid (noTab_parse HS.out (.inr (.inl (by rw [HD.out]; exact HSP.out))))
        simp only [Option.isSome_none, Option.isSome_some] at *
        clear HS HB HC HD HPG HSP HEN r9 r10 r12 Pb Sb kT s8 s6 S2
        go_wp2
        go_ret2
        exact GotTab.bad HNO.out hbr
      case some =>
        rcases EN with _ | l
        case none =>
          have HNO : Hid (NoTab p) := Lib.hid (noTab_parse HS.out (.inr (.inr (by rw [HB.out]; show entriesL p ((pagesL iB).getD []) = none; rw [HPG.out]; exact HEN.out))))
          simp only [Option.isSome_none, Option.isSome_some] at *
          clear HS HB HC HD HPG HSP HEN r9 r10 r12 Pb Sb kT s8 s6 S2
          go_wp2
          go_ret2
          exact GotTab.bad HNO.out hbr
        case some =>
          simp only [Option.isSome_some, Option.getD_some] at *
          obtain ⟨⟨qb, qe⟩, hBE⟩ : ∃ O, tabBE l sp = O := ⟨_, rfl⟩
          have k8 := tbuild_any w12 _ A12 n12 c12 l r12 _ A10 n10 c10 sp r10 (HQ.out.below hbr)
          rw [hBE] at k8
          unfold GotBE at k8
          simp only at k8
          have K8 := Lib.hid k8
          have HBE := Lib.hid hBE
          clear k8 hBE
          go_wp2_with fail
          refine K8.out.mono ?_
          rintro e w13 ⟨A13, n13, c13, rfl, ho13, hb⟩
          have s13 := OwnB.sl ho13
          have h := h.below (by omega) hb
          have hbr := hbr.trans (hb.mono hbr.size)
          have s6 := s6.below (by omega) hb
          have s8 := s8.below (by omega) hb
          have kT := kT.below hb
          have r9 := r9.below hb
          have S2 := S2.below hb
          clear hb K8 ho13 r10 r12
          have hyes := fun h0 h1 => tab_yes HS.out (pg := pg) (l := l) (sp := sp) (by rw [HB.out]; exact HPG.out) h0 h1
          rw [HBE.out] at hyes
          have HY := Lib.hid hyes
          clear hyes
          by_cases z8 : qe = 0
          case neg =>
            have HNO : Hid (NoTab p) := Lib.hid (noTab_build HS.out (by rw [HB.out]; exact HPG.out) (by rw [HD.out]; exact HSP.out) HEN.out (.inl (by rw [HBE.out]; exact z8)))
            have t1 : ((qe : Int) == 0) = false := by simp; omega
            have t2 : ((qe : Int) != 0) = true := by simp; omega
            clear HS HB HC HD HPG HSP HEN HBE HY r9 Pb Sb kT s8 s6 S2
            go_wp2
            go_ret2
            exact GotTab.bad HNO.out hbr
          subst z8
          obtain ⟨eb, heb⟩ : ∃ eb, (qb == p) = eb := ⟨_, rfl⟩
          have Heb := Lib.hid heb
          clear heb
          go_wp2_with fail
          refine (equal_is w13 A13 n13 c13 qb A n c p eb Heb s13 h).mono ?_
          rintro e w' ⟨rfl, rfl⟩
          cases eb
          case false =>
            have HNO : Hid (NoTab p) := Lib.hid (noTab_build HS.out (by rw [HB.out]; exact HPG.out) (by rw [HD.out]; exact HSP.out) HEN.out (.inr (by rw [HBE.out]; show qb ≠ p; have := Heb.out; simpa using this)))
            clear HS HB HC HD HPG HSP HEN HBE HY r9 Pb Sb kT s8 s6 S2
            go_wp2
            go_ret2
            exact GotTab.bad HNO.out hbr
          obtain ⟨y1, y2, y3, y4, y5, y6⟩ := HY.out (by first | trivial | rfl) (by have := Heb.out; simpa using this)
          have hT : TabIs w13 w.heap.size g l sp := by
            rw [HC.out] at y4
            have e4 : iC = buildL 10 (usersL l) := y4
            refine ⟨A8, n8, c8, A9, n9, c9, A6, n6, c6, g2, hgw, by omega, ⟨kT.c0, kT.c1, kT.c2, kT.c3⟩, by rw [y2]; exact s8, ?_, by rw [← e4]; exact s6, ?_, fun b hn q => ?_, fun b hn q => ?_⟩
            · rw [← y3]
              exact r9.mono fun b _ hb => by have h2 : w6.heap.size ≤ b := hb; omega
            · rw [rightSpans_all sp y6] at S2
              exact S2
            · have := u8.out b hn q
              omega
            · have := u6.out b hn q
              omega
          have HT := Lib.hid hT
          have Y1 := Lib.hid y1
          have Y2 := Lib.hid y2
          clear HS HB HC HD HPG HSP HEN HBE HY r9 Pb Sb kT s8 s6 S2 hT y1 y2 y3 y4 y5 y6
          go_wp2
          go_ret2
          exact ⟨hbr, .inl ⟨g, l, sp, Y1.out, Y2.out, rfl, HT.out⟩⟩
end Go.Proofs.YtpffieogkfndaaaGreatDoor
