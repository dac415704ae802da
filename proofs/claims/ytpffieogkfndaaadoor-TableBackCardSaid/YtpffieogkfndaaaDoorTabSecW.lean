/-
  The sections of a table's bytes. (Printed by gentabsec.py.) The seals' table lies in its variable; no other condition but a size.
-/
import Derived.Test.YtpffieogkfndaaaDoorJTabBox
import Derived.Test.YtpffieogkfndaaaDoorTabBuildR
namespace Go.Proofs.YtpffieogkfndaaaDoor
open Go.RowKit
set_option maxRecDepth 20000
set_option linter.unusedVariables false
set_option linter.unusedSimpArgs false
theorem i64_or_nat4 (x y : Nat) (hx : x < 4294967296) (hy : y < 4294967296) : bits .or .i64 (x : Int) (y : Int) = ((x ||| y : Nat) : Int) := by
  have hz : x ||| y < 2 ^ 32 := Nat.or_lt_two_pow (by omega) (by omega)
  show IntKind.i64.wrap ((BitVec.ofInt 64 (x : Int) ||| BitVec.ofInt 64 (y : Int)).toNat : Int) = _
  rw [BitVec.toNat_or, ofInt_u64 x (by omega), ofInt_u64 y (by omega), IntKind.wrap_i64]
  omega
/-- p[lo:hi], and where it lies -/
theorem cutLHB {w : World} {A : Option Addr} {n c : Nat} {l : List UInt8} (h : Sl w 1 A n c (bc l)) (q q' : IntKind) (i j : Int) (lo hi : Nat) (ei : i = lo) (ej : j = hi) (h1 : lo ≤ hi) (h2 : hi ≤ n) :
    ∃ A', (∀ w' : World, (Instr.slice 29 (.slice A n c) (some (.int q i)) (some (.int q' j)) none).run Tryd.prog w' = .ok (.slice A' (hi - lo) (c - lo)) w') ∧
      Sl w 1 A' (hi - lo) (c - lo) (bc ((l.drop lo).take (hi - lo))) ∧ ∀ b, A'.map (·.block) = some b → A.map (·.block) = some b := by
  have hcap := h.cap
  subst ei
  subst ej
  refine ⟨if c = lo then A else A.map (·.add (lo * 1)), fun w' => ?_, ?_, fun b q => ?_⟩
  · have := run_slice_lh (P := Tryd.prog) w' 29 A n c Tryd.underlying29 q q' lo hi (by omega) (by omega) (by omega)
    rw [this]
    show ((sizeOf 5).run Tryd.prog w').andThen _ = _
    rw [run_sizeB]
    simp only [Result.andThen, sliced, Int.toNat_natCast]
  · have := h.cut (lo := lo) (hi := hi) (m := c) h1 h2 (by omega) (Nat.le_refl _)
    simp only [Nat.mul_one] at this
    rw [bc_take, bc_drop, Nat.mul_one]
    exact this
  · split at q
    · exact q
    · cases A with
      | none => cases q
      | some a =>
        have e : ∀ k, (a.add k).block = a.block := fun k => by unfold Addr.add; split <;> rfl
        simpa [e] using q
def secsN (p e : List UInt8) (i : Nat) : List (List UInt8) := (List.range i).map fun i => (p.drop (secAt e i)).take (secN e i)
theorem secsN_succ (p e : List UInt8) (i : Nat) : secsN p e (i + 1) = secsN p e i ++ [(p.drop (secAt e i)).take (secN e i)] := by simp [secsN, List.range_succ]
theorem secs_is (p : List UInt8) (h23 : 23 ≤ p.length) (e : List UInt8) (h : openL (p.drop (p.length - 23)) = (e, 0)) : sectionsL p = if secAt e 4 = p.length - 23 then some (secsN p e 4) else none := by
  unfold sectionsL
  rw [if_neg (by omega), h]
  simp only [ne_eq, not_true_eq_false, if_false]
  rfl
theorem secAt_le (e : List UInt8) (i d : Nat) : secAt e i ≤ secAt e (i + d) := by
  induction d with
  | zero => exact Nat.le_refl _
  | succ d ih => rw [← Nat.add_assoc, secAt_succ]; omega
theorem open_ok_len {p e : List UInt8} (h : openL p = (e, 0)) : e.length + 4 = p.length := by
  have := open_inv h
  rw [this, closeL_len]
theorem getD_is {e : List UInt8} {i x : Nat} (h : i < e.length) (hx : e[i].toNat = x) : (e.getD i 0).toNat = x := by
  rw [List.getD_eq_getElem?_getD, List.getElem?_eq_getElem h]
  exact hx
/-- four cells hold four bytes -/
def Four (b o x0 x1 x2 x3 : Nat) (w : World) : Prop := w.cell? ⟨b, o, none⟩ = some (.int .u8 (x0 : Int)) ∧ w.cell? ⟨b, o + 1, none⟩ = some (.int .u8 (x1 : Int)) ∧ w.cell? ⟨b, o + 2, none⟩ = some (.int .u8 (x2 : Int)) ∧ w.cell? ⟨b, o + 3, none⟩ = some (.int .u8 (x3 : Int))
theorem Four.drew {b o x0 x1 x2 x3 : Nat} {w : World} (h : Four b o x0 x1 x2 x3 w) : Four b o x0 x1 x2 x3 w.drew := h
/-- the sections, or that there are none: parts of the bytes -/
def GotSecs (w : World) (r : Option (List (List UInt8))) (e : Ending) (w' : World) : Prop :=
  ∃ A n c, e = .returned (.tuple #[.slice A n c, .bool r.isSome]) ∧ (∀ ls, r = some ls → ∃ vs, Sl w' 1 A n c vs ∧ PartsOf w' vs ls) ∧ Below w.heap.size w w'
theorem GotSecs.bad {w w' : World} {A : Option Addr} {n c : Nat} (hb : Below w.heap.size w w') : GotSecs w none (.returned (.tuple #[.slice A n c, .bool false])) w' := ⟨A, n, c, rfl, fun _ h => (by cases h), hb⟩
def SecRel (w1 : World) (p e : List UInt8) (M : Nat) (ov av iv : Value) (wr : World) : Prop :=
  ∃ (i a : Nat) (A2 : Option Addr) (n2 c2 : Nat), iv = .int .i64 (i : Int) ∧ av = .int .i64 (a : Int) ∧ ov = .slice A2 n2 c2 ∧ i ≤ 4 ∧ Hid (secAt e i = a) ∧ a ≤ M ∧ Below w1.heap.size w1 wr ∧ OwnL wr w1.heap.size w1.heap.size 29 A2 n2 c2 (secsN p e i)
set_option maxRecDepth 100000 in
set_option maxHeartbeats 16000000 in
theorem tsections_any (w : World) (A : Option Addr) (n c : Nat) (p : List UInt8) (h : Sl w 1 A n c (bc p)) (hq : Quarter w) (hn : n ≤ 1000000) :
    Calls Tryd.prog 33 #[.slice A n c] w (GotSecs w (sectionsL p)) := by
  have hl := h.lenb
  have Hz : Hid (∀ b, 0 < n → A.map (·.block) = some b → b < w.heap.size) := Lib.hid fun b h0 q => h.lt (by omega) h0 b q
  obtain ⟨r, hr⟩ : ∃ r, sectionsL p = r := ⟨_, rfl⟩
  rw [hr]
  by_cases h23 : n < 23
  case pos =>
    have er : r = none := by rw [← hr]; unfold sectionsL; rw [if_pos (by omega)]
    subst er
    have i1 : decide ((n : Int) < 23) = true := decide_eq_true (by omega)
    clear hr hl h
    go_enter Tryd.func33, Tryd.ntmps33
    go_wp2
    go_ret2
    exact GotSecs.bad (Below.refl _ _)
  have i1 : decide ((n : Int) < 23) = false := decide_eq_false (by omega)
  obtain ⟨M, hM⟩ : ∃ M, n - 23 = M := ⟨_, rfl⟩
  have eM : (n : Int) - 23 = (M : Int) := by omega
  obtain ⟨AQ, rq, sq, -⟩ := cutL h .i64 (M : Int) M rfl (by omega)
  have ko := open_any w AQ (n - M) (c - M) (p.drop M) sq hq (by omega)
  have hsec := secs_is p (by omega)
  rw [hl, hM] at hsec
  unfold NewB2 at ko
  have hol := open_len (p.drop M)
  have hok := fun e => open_ok_len (p := p.drop M) (e := e)
  have hno : (openL (p.drop M)).2 ≠ 0 → r = none := fun q => by rw [← hr]; unfold sectionsL; rw [if_neg (by omega), hl, hM, if_pos q]
  rw [List.length_drop] at hol
  generalize openL (p.drop M) = O at *
  obtain ⟨E, oe⟩ := O
  simp only at *
  have Ko := Lib.hid ko
  have Hno := Lib.hid hno
  have Hsec := Lib.hid hsec
  have Hok := Lib.hid hok
  have Hrr := Lib.hid hr
  have Hl := Lib.hid hl
  have HM := Lib.hid hM
  clear ko hno hsec hok hr hl sq hM
  go_enter Tryd.func33, Tryd.ntmps33
  go_wp2_with fail
  refine Ko.out.mono ?_
  rintro e w1 ⟨A4, n4, c4, rfl, ho4, hbr⟩
  clear Ko
  by_cases hoe : oe = 0
  case neg =>
    have er : r = none := Hno.out hoe
    subst er
    have t1 : ((oe : Int) == 0) = false := by simp; omega
    have t2 : ((oe : Int) != 0) = true := by simp; omega
    clear Hno Hsec Hok Hrr
    go_wp2
    go_ret2
    exact GotSecs.bad hbr
  subst hoe
  have hr := Hrr.out
  rw [Hsec.out E rfl] at hr
  have hE := Hok.out E rfl
  rw [List.length_drop, Hl.out] at hE
  have hn4 : n4 = 19 := by have := OwnB.len' ho4; have := HM.out; omega
  subst hn4
  have s4 := OwnB.sl ho4
  have Hr := Lib.hid hr
  clear hr Hno Hsec Hok Hrr hE ho4 hol
  go_wp2
  go_loopw [6, 7, 25] (SecRel w1 p E M) (fun _ _ iv _ => 4 - (intOf iv).toNat)
  case atStart => exact ⟨0, 0, none, 0, 0, rfl, rfl, rfl, Nat.zero_le _, Lib.hid rfl, Nat.zero_le _, Below.refl _ _, OwnL.nil _ _ _ _ _⟩
  case round =>
    obtain ⟨i, a, A2, n2, c2, rfl, rfl, rfl, hi, Ha, haM, hbr2, ho2⟩ := hrel
    have hn2 : n2 = i := by have := ho2.lenR; simpa [secsN] using this.symm
    have hbw := hbr.trans (hbr2.mono hbr.size)
    by_cases hlt : i < 4
    case neg =>
      obtain rfl : i = 4 := by omega
      have hr := Hr.out
      rw [Ha.out] at hr
      by_cases hf : a = M
      case pos =>
        rw [if_pos hf] at hr
        subst hr
        subst hf
        have HO : Hid (∃ vs, Sl wr 1 A2 n2 c2 vs ∧ PartsOf wr vs (secsN p E 4)) := by
          obtain ⟨xs, ho, hrr⟩ := ho2
          exact ⟨xs, ho.sl, hrr.parts⟩
        clear Hr Ha ho2 s4 h hq
        go_wp2
        go_ret2
        exact ⟨A2, n2, c2, rfl, fun ls q => (by cases q; exact HO.out), hbw⟩
      rw [if_neg hf] at hr
      subst hr
      have t1 : ((a : Int) == (M : Int)) = false := by simp; omega
      clear Hr Ha ho2 s4 h hq
      go_wp2
      go_ret2
      exact GotSecs.bad hbw
    have s4 := s4.below (by omega) hbr2
    obtain ⟨j4, hj4⟩ : ∃ j4, 4 * i = j4 := ⟨_, rfl⟩
    have e4 : (4 : Int) * (i : Int) = (j4 : Int) := by omega
    obtain ⟨AE, rE, sE, -⟩ := cutL s4 .i64 (j4 : Int) j4 rfl (by omega)
    obtain ⟨nq, hnq⟩ : ∃ nq, 19 - j4 = nq := ⟨_, rfl⟩
    rw [hnq] at rE sE
    have hnq0 : 0 < nq := by omega
    have hnq1 : 1 < nq := by omega
    have hnq2 : 2 < nq := by omega
    have hnq3 : 3 < nq := by omega
    have hni1 : (1 : Int) < (nq : Int) := by omega
    have hni2 : (2 : Int) < (nq : Int) := by omega
    have hni3 : (3 : Int) < (nq : Int) := by omega
    have hlE := s4.lenb
    have hlq := sE.lenb
    obtain ⟨qb, qo, y0, rfl, g0, l0, k0⟩ := sE.byte (k := 0) (by omega)
    obtain ⟨b1, o1, y1, hA1, g1, l1, k1⟩ := sE.byte (k := 1) (by omega)
    obtain ⟨b2, o2, y2, hA2, g2, l2, k2⟩ := sE.byte (k := 2) (by omega)
    obtain ⟨b3, o3, y3, hA3, g3, l3, k3⟩ := sE.byte (k := 3) (by omega)
    obtain ⟨rfl, rfl⟩ : qb = b1 ∧ qo = o1 := by simpa using hA1
    obtain ⟨rfl, rfl⟩ : qb = b2 ∧ qo = o2 := by simpa using hA2
    obtain ⟨rfl, rfl⟩ : qb = b3 ∧ qo = o3 := by simpa using hA3
    rw [List.getElem_drop] at g0 g1 g2 g3
    obtain ⟨N, hN⟩ : ∃ N, secN E i = N := ⟨_, rfl⟩
    have hNv : N = y0 + 256 * y1 + 65536 * y2 + 16777216 * y3 := by
      rw [← hN]
      unfold secN
      rw [getD_is (by omega) (by simpa only [← hj4, Nat.add_zero] using g0), getD_is (by omega) (by simpa only [← hj4] using g1), getD_is (by omega) (by simpa only [← hj4] using g2), getD_is (by omega) (by simpa only [← hj4] using g3)]
    have hX : Four qb qo y0 y1 y2 y3 wr := ⟨k0, k1, k2, k3⟩
    have hw0 : IntKind.i64.wrap (y0 : Int) = (y0 : Int) := by rw [IntKind.wrap_i64]; omega
    have hw1 : IntKind.i64.wrap (y1 : Int) = (y1 : Int) := by rw [IntKind.wrap_i64]; omega
    have hw2 : IntKind.i64.wrap (y2 : Int) = (y2 : Int) := by rw [IntKind.wrap_i64]; omega
    have hw3 : IntKind.i64.wrap (y3 : Int) = (y3 : Int) := by rw [IntKind.wrap_i64]; omega
    have hs1 : IntKind.i64.wrap ((y1 : Int) * 256) = ((y1 * 256 : Nat) : Int) := by rw [IntKind.wrap_i64]; omega
    have hs2 : IntKind.i64.wrap ((y2 : Int) * 65536) = ((y2 * 65536 : Nat) : Int) := by rw [IntKind.wrap_i64]; omega
    have hs3 : IntKind.i64.wrap ((y3 : Int) * 16777216) = ((y3 * 16777216 : Nat) : Int) := by rw [IntKind.wrap_i64]; omega
    obtain ⟨z1, hz1⟩ : ∃ z1, y0 + y1 * 256 = z1 := ⟨_, rfl⟩
    obtain ⟨z2, hz2⟩ : ∃ z2, z1 + y2 * 65536 = z2 := ⟨_, rfl⟩
    have ho1 : bits .or .i64 (y0 : Int) ((y1 * 256 : Nat) : Int) = (z1 : Int) := by
      rw [i64_or_nat4 _ _ (by omega) (by omega), Nat.or_comm, nat_join 8 _ _ (by omega) (by omega), ← hz1]
      congr 1
      omega
    have ho22 : bits .or .i64 (z1 : Int) ((y2 * 65536 : Nat) : Int) = (z2 : Int) := by
      rw [i64_or_nat4 _ _ (by omega) (by omega), Nat.or_comm, nat_join 16 _ _ (by omega) (by omega), ← hz2]
      congr 1
      omega
    have ho3 : bits .or .i64 (z2 : Int) ((y3 * 16777216 : Nat) : Int) = (N : Int) := by
      rw [i64_or_nat4 _ _ (by omega) (by omega), Nat.or_comm, nat_join 24 _ _ (by omega) (by omega), hNv]
      congr 1
      omega
    have hN32 : N < 4294967296 := by omega
    obtain ⟨yy1, hyy1⟩ : ∃ yy, y1 * 256 = yy := ⟨_, rfl⟩
    rw [hyy1] at hs1 ho1
    clear hyy1
    obtain ⟨yy2, hyy2⟩ : ∃ yy, y2 * 65536 = yy := ⟨_, rfl⟩
    rw [hyy2] at hs2 ho22
    clear hyy2
    obtain ⟨yy3, hyy3⟩ : ∃ yy, y3 * 16777216 = yy := ⟨_, rfl⟩
    rw [hyy3] at hs3 ho3
    clear hyy3
    have HN := Lib.hid hN
    clear hN hNv hz1 hz2 g0 g1 g2 g3 hA1 hA2 hA3 k0 k1 k2 k3 hlE hlq sE hj4 hnq
    go_wp2_with fail
    have hX := hX.drew
    have h := (h.below (by omega) hbw).drew
    have ho2 := ho2.below (Below.refl wr.heap.size wr).drew
    have hbr2 := hbr2.drew
    have hbw := hbw.drew
    generalize hW : wr.drew = wz at *
    refine regionF (fun _ wa wb => Four qb qo y0 y1 y2 y3 wa → Four qb qo y0 y1 y2 y3 wb) (by kernel_rfl) ?_
    rw [hW]
    clear hW
    refine takeT (i := 0) (v := ?_) rfl ?hy ?_
    case hy => intro wS; go_simp; try with_reducible rfl
    refine takeT (i := 1) (v := ?_) rfl ?hy ?_
    case hy => intro wS; go_simp; try with_reducible rfl
    refine takeP (i := 2) (v := ?_) rfl hX ?hy ?_
    case hy =>
      intro wS hSw
      obtain ⟨x0, x1, x2, x3⟩ := id hSw
      clear hSw
      go_simp
      try with_reducible rfl
    refine takeT (i := 3) (v := ?_) rfl ?hy ?_
    case hy => intro wS; go_simp; try with_reducible rfl
    refine takeT (i := 4) (v := ?_) rfl ?hy ?_
    case hy => intro wS; go_simp; try with_reducible rfl
    refine takeT (i := 5) (v := ?_) rfl ?hy ?_
    case hy => intro wS; go_simp; try with_reducible rfl
    refine takeP (i := 6) (v := ?_) rfl hX ?hy ?_
    case hy =>
      intro wS hSw
      obtain ⟨x0, x1, x2, x3⟩ := id hSw
      clear hSw
      go_simp
      try with_reducible rfl
    refine takeT (i := 7) (v := ?_) rfl ?hy ?_
    case hy => intro wS; go_simp; try with_reducible rfl
    refine takeT (i := 8) (v := ?_) rfl ?hy ?_
    case hy => intro wS; go_simp; try with_reducible rfl
    refine takeT (i := 9) (v := ?_) rfl ?hy ?_
    case hy => intro wS; go_simp; try with_reducible rfl
    refine takeT (i := 10) (v := ?_) rfl ?hy ?_
    case hy => intro wS; go_simp; try with_reducible rfl
    refine takeT (i := 11) (v := ?_) rfl ?hy ?_
    case hy => intro wS; go_simp; try with_reducible rfl
    refine takeP (i := 12) (v := ?_) rfl hX ?hy ?_
    case hy =>
      intro wS hSw
      obtain ⟨x0, x1, x2, x3⟩ := id hSw
      clear hSw
      go_simp
      try with_reducible rfl
    refine takeT (i := 13) (v := ?_) rfl ?hy ?_
    case hy => intro wS; go_simp; try with_reducible rfl
    refine takeT (i := 14) (v := ?_) rfl ?hy ?_
    case hy => intro wS; go_simp; try with_reducible rfl
    refine takeT (i := 15) (v := ?_) rfl ?hy ?_
    case hy => intro wS; go_simp; try with_reducible rfl
    refine takeT (i := 16) (v := ?_) rfl ?hy ?_
    case hy => intro wS; go_simp; try with_reducible rfl
    refine takeT (i := 17) (v := ?_) rfl ?hy ?_
    case hy => intro wS; go_simp; try with_reducible rfl
    refine takeP (i := 18) (v := ?_) rfl hX ?hy ?_
    case hy =>
      intro wS hSw
      obtain ⟨x0, x1, x2, x3⟩ := id hSw
      clear hSw
      go_simp
      try with_reducible rfl
    refine takeT (i := 19) (v := ?_) rfl ?hy ?_
    case hy => intro wS; go_simp; try with_reducible rfl
    refine takeT (i := 20) (v := ?_) rfl ?hy ?_
    case hy => intro wS; go_simp; try with_reducible rfl
    refine takeT (i := 21) (v := ?_) rfl ?hy ?_
    case hy => intro wS; go_simp; try with_reducible rfl
    refine takeT (i := 22) (v := ?_) rfl ?hy ?_
    case hy => intro wS; go_simp; try with_reducible rfl
    try simp only [List.getElem_toArray, List.getElem_cons_succ, List.getElem_cons_zero, Act.put, List.setIfInBounds_toArray, List.set_cons_zero, List.set_cons_succ]
    refine doneF (by kernel_rfl) ?_ _
    try simp only [List.getElem_toArray, List.getElem_cons_succ, List.getElem_cons_zero, Act.put, List.setIfInBounds_toArray, List.set_cons_zero, List.set_cons_succ]
    by_cases hov : M - a < N
    case pos =>
      have er : r = none := by
        rw [← Hr.out, if_neg]
        have h1 := secAt_succ E i
        have h2 := secAt_le E (i + 1) (3 - i)
        rw [show i + 1 + (3 - i) = 4 by omega] at h2
        have h3 := Ha.out
        have h4 := HN.out
        have h5 := Hl.out
        have h6 := HM.out
        omega
      subst er
      have d1 : decide (((M : Int) - (a : Int)) < (N : Int)) = true := decide_eq_true (by omega)
      clear Hr Ha HN ho2 h
      go_wp2
      go_ret2
      exact GotSecs.bad hbw
    have d1 : decide (((M : Int) - (a : Int)) < (N : Int)) = false := decide_eq_false (by omega)
    obtain ⟨a2, ha2⟩ : ∃ a2, a + N = a2 := ⟨_, rfl⟩
    have ea2 : (a : Int) + (N : Int) = (a2 : Int) := by omega
    have hMn := HM.out
    obtain ⟨AS, rS, sS, bS⟩ := cutLHB h .i64 .i64 (a : Int) (a2 : Int) a a2 rfl rfl (by omega) (by omega)
    rw [show a2 - a = N by omega] at rS sS
    have hblk : ∀ b, 0 < N → AS.map (·.block) = some b → b < w1.heap.size := fun b h0 q => by
      have := Hz.out b (by omega) (bS b q)
      have := hbr.size
      omega
    have hrow := userRow wz w1.heap.size AS N (c - a) _ sS hblk 29
    have al := (Below.refl wz.heap.size wz).alloc (Nat.le_refl _) (.cells #[.slice AS N (c - a)] 29)
    have ho2 := ho2.below al
    have hbr2 := hbr2.trans (al.mono hbr2.size)
    have HA2 : Hid (secAt E (i + 1) = a2) := Lib.hid (by rw [secAt_succ, Ha.out, HN.out, ha2])
    have hst := secsN_succ p E i
    rw [Ha.out, HN.out] at hst
    have Hst := Lib.hid hst
    clear hst al sS hX h hbw
    go_wp2_with (at_builtin; refine wpList_appL (α := List UInt8) _ rfl (.tmp 61) (.tmp 68) 59 rfl w1.heap.size w1.heap.size 29 _ 24 Tryd.underlying59 infoP rfl A2 n2 c2 _ rfl ho2 _ 1 1 [(p.drop a).take N] rfl hrow ?_ ?_ ?_ (Nat.le_refl _) ?_)
    · unfold maxLen; omega
    · omega
    · have := hbr2.size; rw [World.size_alloc] at this; omega
    intro A9 c9 w9 ho9 hg9 _
    have hbr9 := hbr2.grown hg9 hbr2.size (fun b hb => (ho2.lt b hb).1)
    rw [← Hst.out] at ho9
    clear hrow ho2 hg9
    go_wp2
    go_roundw
    case rel => exact ⟨i + 1, a2, A9, _, c9, by go_num, rfl, rfl, by omega, HA2, by omega, hbr9, ho9⟩
    case measure => simp [intOf]; omega
end Go.Proofs.YtpffieogkfndaaaDoor
