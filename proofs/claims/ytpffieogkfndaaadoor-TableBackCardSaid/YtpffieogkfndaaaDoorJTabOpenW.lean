/-
  TabGetW, TabOpenW in one text. No condition but sizes.
-/
import Derived.Test.YtpffieogkfndaaaDoorTabVersionW
import Derived.Test.YtpffieogkfndaaaDoorJTabOpenP
import Derived.Test.YtpffieogkfndaaaDoorTabSecW
import Derived.Test.YtpffieogkfndaaaDoorTabBuildW
import Derived.Test.YtpffieogkfndaaaDoorJTabIndexW
namespace Go.Proofs.YtpffieogkfndaaaDoor
open Go.RowKit
set_option maxRecDepth 20000
set_option linter.unusedVariables false
set_option linter.unusedSimpArgs false
def GotVal (w : World) (r : List UInt8 × Nat × Nat) (e : Ending) (w' : World) : Prop :=
  ∃ (A : Option Addr) (n c : Nat), e = .returned (.tuple #[.slice A n c, .int .u64 (r.2.1 : Int), .int .i64 (r.2.2 : Int)]) ∧ Sl w' 1 A n c (bc r.1) ∧ Below w.heap.size w w'
set_option maxHeartbeats 16000000 in
theorem tget_any (w : World) (B g : Nat) (l : List EntL) (sp : List SpanL) (hc : checkTabL l sp = 0) (hT : TabIs w B g l sp) (hn : (tabBytesL l sp).length ≤ 65536) (hq : Quarter w) (KA : Option Addr) (k ck : Nat) (key : List UInt8) (hk : Sl w 1 KA k ck (bc key)) (hkn : k ≤ 1000000) (q : UInt64) :
    Calls Tryd.prog 16 #[.pointer (some ⟨g, 0, none⟩), .slice KA k ck, .int .u64 (q.toNat : Int)] w (GotVal w (getL l sp key q)) := by
  have hqs := q.toNat_lt
  obtain ⟨r0, hr0⟩ : ∃ r0, getL l sp key q = r0 := ⟨_, rfl⟩
  rw [hr0]
  unfold getL at hr0
  have kv := tversion_any w B g l sp hc hT hn hq KA k ck key hk hkn q
  obtain ⟨V, hV⟩ : ∃ V, versionL l key q = V := ⟨_, rfl⟩
  rw [hV] at kv hr0
  unfold GotVer at kv
  have kc := fun (w' : World) g2 (hS : SetIs w' g2 sp) (hk : Sl w' 1 KA k ck (bc key)) => cover_any w' g2 sp hS KA k ck key hk q.toNat (by omega)
  obtain ⟨cv, hcv⟩ : ∃ cv, coverL sp key q.toNat = cv := ⟨_, rfl⟩
  rw [hcv] at hr0
  simp only [hcv] at kc
  have Kv := Lib.hid kv
  have Kc := Lib.hid kc
  have Hr := Lib.hid hr0
  obtain ⟨_, _, _, _, _, _, _, _, _, g2, _, _, ⟨_, _, _, c3⟩, _, _, _, t, _, _⟩ := hT
  generalize q.toNat = qn at *
  clear kv kc hr0 hV hcv hq hn hc
  unfold GotVal
  go_enter Tryd.func16, Tryd.ntmps16
  go_wp2_with fail
  refine Kv.out.mono ?_
  rintro e w1 ⟨A7, n7, c7, xs, xd, A8, n8, c8, rfl, hv, hbr⟩
  have c3 := stays hbr c3
  have t := t.below hbr
  have hk := hk.below (by omega) hbr
  have hb := (Below.refl w1.heap.size w1).alloc (Nat.le_refl _) (.cells #[.slice A7 n7 c7, .int .u64 (xs : Int), .int .u8 (xd : Int), .slice A8 n8 c8] 45)
  have kE := Bx4.fresh w1 (.slice A7 n7 c7) (.int .u64 (xs : Int)) (.int .u8 (xd : Int)) (.slice A8 n8 c8) 45
  obtain ⟨gE, hgE⟩ : ∃ gE, w1.heap.size = gE := ⟨_, rfl⟩
  rw [hgE] at kE
  have c3 := stays hb c3
  have t := t.below hb
  have hk := hk.below (by omega) hb
  have hbr := hbr.trans (hb.mono hbr.size)
  have Hv : Hid (∀ x, V = some x → xs = x.key.seq.toNat ∧ xd = x.key.kind.toNat ∧ Sl (w1.alloc (.cells #[.slice A7 n7 c7, .int .u64 (xs : Int), .int .u8 (xd : Int), .slice A8 n8 c8] 45)) 1 A8 n8 c8 (bc x.value)) := Lib.hid fun x h => ⟨(hv x h).1, (hv x h).2.1, (hv x h).2.2.below (by omega) hb⟩
  generalize hW : (w1.alloc (.cells #[.slice A7 n7 c7, .int .u64 (xs : Int), .int .u8 (xd : Int), .slice A8 n8 c8] 45)) = w2 at *
  clear hb hv Kv
  go_wp2_with fail
  try rw [hW]
  try rw [hgE]
  clear hW hgE
  refine (Kc.out w2 g2 t hk).mono ?_
  rintro e w3 ⟨rfl, hb⟩
  have hbr := hbr.trans (hb.mono hbr.size)
  have kE := kE.below hb
  have Hv : Hid (∀ x, V = some x → xs = x.key.seq.toNat ∧ xd = x.key.kind.toNat ∧ Sl w3 1 A8 n8 c8 (bc x.value)) := Lib.hid fun x h => ⟨(Hv.out x h).1, (Hv.out x h).2.1, (Hv.out x h).2.2.below (by omega) hb⟩
  clear hb Kc t c3 hk
  have hr := Hr.out
  rcases V with _ | X
  case none =>
    simp only [Option.isSome_none] at *
    by_cases z : cv = 0
    case pos =>
      subst z
      obtain rfl : ([], 0, 0) = r0 := by rw [← hr]; simp
      clear hr Hr Hv
      go_wp2
      refine bodyPost_ret (v := .tuple #[.slice none 0 0, .int .u64 0, .int .i64 0]) (by simp [results, Tryd.results16, go_sem]) rfl ?_
      exact ⟨none, 0, 0, rfl, Sl.nil _ _ _ _ (by unfold maxLen; omega), hbr⟩
    obtain rfl : ([], cv, 2) = r0 := by rw [← hr]; simp [z]
    have t1 : ((cv : Int) == 0) = false := by simp; omega
    clear hr Hr Hv
    go_wp2
    refine bodyPost_ret (v := .tuple #[.slice none 0 0, .int .u64 (cv : Int), .int .i64 2]) (by simp [results, Tryd.results16, go_sem]) rfl ?_
    exact ⟨none, 0, 0, rfl, Sl.nil _ _ _ _ (by unfold maxLen; omega), hbr⟩
  case some =>
    simp only [Option.isSome_some] at *
    obtain ⟨e1, e2, sv⟩ := Hv.out X rfl
    rw [← e1, ← e2] at hr
    have Hsv := Lib.hid sv
    clear Hr Hv e1 e2 sv
    obtain ⟨x0, x1, x2, x3, x4⟩ := id kE
    by_cases z : xs < cv
    case pos =>
      obtain rfl : ([], cv, 2) = r0 := by rw [← hr, if_pos z]
      have t1 : decide (xs < cv) = true := decide_eq_true z
      have t2 : decide ((xs : Int) < (cv : Int)) = true := decide_eq_true (by omega)
      clear hr Hsv
      go_wp2
      refine bodyPost_ret (v := .tuple #[.slice none 0 0, .int .u64 (cv : Int), .int .i64 2]) (by simp [results, Tryd.results16, go_sem]) rfl ?_
      exact ⟨none, 0, 0, rfl, Sl.nil _ _ _ _ (by unfold maxLen; omega), hbr⟩
    have t1 : decide (xs < cv) = false := decide_eq_false z
    have t2 : decide ((xs : Int) < (cv : Int)) = false := decide_eq_false (by omega)
    rw [if_neg z] at hr
    by_cases z1 : xd = 1
    case pos =>
      subst z1
      rw [if_pos rfl] at hr
      subst hr
      clear Hsv
      go_wp2_with fail
      have hX := kE.drew
      have hbr := hbr.drew
      clear x0 x1 x2 x3 x4 kE
      generalize hW : w3.drew = w4 at *
      refine regionF (fun _ wa wb => Bx4 wa gE (.slice A7 n7 c7) (.int .u64 (xs : Int)) (.int .u8 ((1 : Nat) : Int)) (.slice A8 n8 c8) → Bx4 wb gE (.slice A7 n7 c7) (.int .u64 (xs : Int)) (.int .u8 ((1 : Nat) : Int)) (.slice A8 n8 c8)) (by kernel_rfl) ?_
      rw [hW]
      clear hW
      refine takeT (i := 0) (v := ?_) rfl ?hy ?_
      case hy => intro wS; go_simp; try with_reducible rfl
      refine takeT (i := 1) (v := ?_) rfl ?hy ?_
      case hy => intro wS; go_simp; try with_reducible rfl
      refine takeP (i := 2) (v := ?_) rfl hX ?hy ?_
      case hy =>
        intro wS hSw
        obtain ⟨z0, z1, z2, z3, z4⟩ := id hSw
        clear hSw
        go_simp
        try with_reducible rfl
      refine takeT (i := 3) (v := ?_) rfl ?hy ?_
      case hy => intro wS; go_simp; try with_reducible rfl
      refine takeT (i := 4) (v := ?_) rfl ?hy ?_
      case hy => intro wS; go_simp; try with_reducible rfl
      refine takeT (i := 5) (v := ?_) rfl ?hy ?_
      case hy => intro wS; go_simp; try with_reducible rfl
      try simp only [List.getElem_toArray, List.getElem_cons_succ, List.getElem_cons_zero, Act.put, List.setIfInBounds_toArray, List.set_cons_zero, List.set_cons_succ]
      refine doneF (by kernel_rfl) ?_ _
      try simp only [List.getElem_toArray, List.getElem_cons_succ, List.getElem_cons_zero, Act.put, List.setIfInBounds_toArray, List.set_cons_zero, List.set_cons_succ]
      go_wp2
      refine bodyPost_ret (v := .tuple #[.slice none 0 0, .int .u64 (xs : Int), .int .i64 2]) (by simp [results, Tryd.results16, go_sem]) rfl ?_
      exact ⟨none, 0, 0, rfl, Sl.nil _ _ _ _ (by unfold maxLen; omega), hbr⟩
    rw [if_neg z1] at hr
    subst hr
    have t3 : ((xd : Int) == 1) = false := by simp; omega
    go_wp2_with fail
    have hX := kE.drew
    have hbr := hbr.drew
    have Hsv := Lib.hid Hsv.out.drew
    clear x0 x1 x2 x3 x4 kE
    generalize hW : w3.drew = w4 at *
    refine regionF (fun _ wa wb => Bx4 wa gE (.slice A7 n7 c7) (.int .u64 (xs : Int)) (.int .u8 (xd : Int)) (.slice A8 n8 c8) → Bx4 wb gE (.slice A7 n7 c7) (.int .u64 (xs : Int)) (.int .u8 (xd : Int)) (.slice A8 n8 c8)) (by kernel_rfl) ?_
    rw [hW]
    clear hW
    refine takeT (i := 0) (v := ?_) rfl ?hy ?_
    case hy => intro wS; go_simp; try with_reducible rfl
    refine takeP (i := 1) (v := ?_) rfl hX ?hy ?_
    case hy =>
      intro wS hSw
      obtain ⟨z0, z1, z2, z3, z4⟩ := id hSw
      clear hSw
      go_simp
      try with_reducible rfl
    refine takeT (i := 2) (v := ?_) rfl ?hy ?_
    case hy => intro wS; go_simp; try with_reducible rfl
    refine takeT (i := 3) (v := ?_) rfl ?hy ?_
    case hy => intro wS; go_simp; try with_reducible rfl
    refine takeP (i := 4) (v := ?_) rfl hX ?hy ?_
    case hy =>
      intro wS hSw
      obtain ⟨z0, z1, z2, z3, z4⟩ := id hSw
      clear hSw
      go_simp
      try with_reducible rfl
    refine takeT (i := 5) (v := ?_) rfl ?hy ?_
    case hy => intro wS; go_simp; try with_reducible rfl
    refine takeT (i := 6) (v := ?_) rfl ?hy ?_
    case hy => intro wS; go_simp; try with_reducible rfl
    refine takeT (i := 7) (v := ?_) rfl ?hy ?_
    case hy => intro wS; go_simp; try with_reducible rfl
    try simp only [List.getElem_toArray, List.getElem_cons_succ, List.getElem_cons_zero, Act.put, List.setIfInBounds_toArray, List.set_cons_zero, List.set_cons_succ]
    refine doneF (by kernel_rfl) ?_ _
    try simp only [List.getElem_toArray, List.getElem_cons_succ, List.getElem_cons_zero, Act.put, List.setIfInBounds_toArray, List.set_cons_zero, List.set_cons_succ]
    go_wp2
    refine bodyPost_ret (v := .tuple #[.slice A8 n8 c8, .int .u64 (xs : Int), .int .i64 1]) (by simp [results, Tryd.results16, go_sem]) rfl ?_
    exact ⟨A8, n8, c8, rfl, Hsv.out, hbr⟩
end Go.Proofs.YtpffieogkfndaaaDoor

namespace Go.Proofs.YtpffieogkfndaaaDoor
open Go.RowKit
set_option maxRecDepth 20000
set_option linter.unusedVariables false
set_option linter.unusedSimpArgs false
/-- the table of bytes, in new memory; or that they are none -/
def GotTab (w : World) (p : List UInt8) (e : Ending) (w' : World) : Prop :=
  Below w.heap.size w w' ∧ ((∃ g l sp, checkTabL l sp = 0 ∧ tabBytesL l sp = p ∧ e = .returned (.tuple #[.pointer (some ⟨g, 0, none⟩), .int .i64 0]) ∧ TabIs w' w.heap.size g l sp) ∨ (NoTab p ∧ e = .returned (.tuple #[.pointer none, .int .i64 4])))
theorem GotTab.bad {w w' : World} {p : List UInt8} (h : NoTab p) (hb : Below w.heap.size w w') : GotTab w p (.returned (.tuple #[.pointer none, .int .i64 4])) w' := ⟨hb, .inr ⟨h, rfl⟩⟩
theorem SlR.setLow {α : Type} [Rep α] {w : World} {B : Nat} {A : Option Addr} {n c : Nat} {ls : List α} (h : SlR w (fun b => B ≤ b) A n c ls) {g : Nat} (hg : g < B) (i : Nat) (v : Value) : SlR (w.setCell ⟨g, i, none⟩ v) (fun b => B ≤ b) A n c ls :=
  h.move fun b _ hp => ⟨Below.heap_setCell w _ v b (by have h2 : B ≤ b := hp; show b ≠ g; omega), hp⟩
theorem SetIs.setLow {w : World} {g2 : Nat} {ls : List SpanL} (h : SetIs w g2 ls) {g : Nat} (hg : g < g2) (i : Nat) (v : Value) : SetIs (w.setCell ⟨g, i, none⟩ v) g2 ls := by
  obtain ⟨A, n, c, h1, h2, xs, ho, hr⟩ := h
  refine ⟨A, n, c, set_other h1 v (.inl (by omega)), by rw [World.frozen?_setCell]; exact h2, xs, own_set ho (by omega) v, hr.move fun b hl hp => ⟨Below.heap_setCell w _ v b (by have h3 : g2 + 1 ≤ b := hp.2; show b ≠ g; omega), hp⟩⟩
theorem Bx4.setA {w : World} {g : Nat} {u0 u1 u2 u3 : Value} (h : Bx4 w g u0 u1 u2 u3) (v : Value) : Bx4 (w.setCell ⟨g, 1, none⟩ v) g u0 v u2 u3 :=
  ⟨set_other h.c0 _ (by omega), set_same h.c1 _, set_other h.c2 _ (by omega), set_other h.c3 _ (by omega), fun j => by simp [h.fr]⟩
theorem Bx4.setC {w : World} {g : Nat} {u0 u1 u2 u3 : Value} (h : Bx4 w g u0 u1 u2 u3) (v : Value) : Bx4 (w.setCell ⟨g, 3, none⟩ v) g u0 u1 u2 v :=
  ⟨set_other h.c0 _ (by omega), set_other h.c1 _ (by omega), set_other h.c2 _ (by omega), set_same h.c3 _, fun j => by simp [h.fr]⟩
theorem Sl.setAt {w : World} {A : Option Addr} {n c : Nat} {xs : List Value} (h : Sl w 1 A n c xs) {g : Nat} (hg : Hid (0 < n → ∀ b, A.map (·.block) = some b → b < g)) (i : Nat) (v : Value) : Sl (w.setCell ⟨g, i, none⟩ v) 1 A n c xs :=
  h.grown (by omega) (only_set (World.grownBy.refl w (some g)) i v) (fun hn b hb q => by have := hg.out hn b hb; have := Option.some.inj q; omega)
set_option maxHeartbeats 32000000 in
theorem topen_any (w : World) (A : Option Addr) (n c : Nat) (p : List UInt8) (h : Sl w 1 A n c (bc p)) (hq : Quarter w) (hn : n ≤ 65536) :
    Calls Tryd.prog 10 #[.slice A n c] w (GotTab w p) := by
  have hl := h.lenb
  have ks := tsections_any w A n c p h hq (by omega)
  obtain ⟨S, hS⟩ : ∃ S, sectionsL p = S := ⟨_, rfl⟩
  rw [hS] at ks
  unfold GotSecs at ks
  have Ks := Lib.hid ks
  have HS := Lib.hid hS
  have HQ := Lib.hid hq
  have Hl := Lib.hid hl
  clear ks hS hq hl
  go_enter Tryd.func10, Tryd.ntmps10
  go_wp2_with fail
  refine Ks.out.mono ?_
  rintro e w1 ⟨A1, n1, c1, rfl, hp1, hbr⟩
  clear Ks
  rcases S with _ | ls
  case none =>
    have HNO : Hid (NoTab p) := Lib.hid (noTab_secs HS.out)
    simp only [Option.isSome_none, Option.isSome_some] at *
    clear hp1 HS
    go_wp2
    go_ret2
    exact GotTab.bad HNO.out hbr
  case some =>
    obtain ⟨pA, pB, pC, pD, rfl, lB, lC, lD⟩ := sections_four HS.out
    obtain ⟨vs, sv, hpt⟩ := hp1 _ rfl
    obtain rfl : n1 = 4 := by have h1 := sv.len; have h2 := hpt.1; simp at h1 h2; omega
    obtain ⟨g1, o1, A2, n2, c2, _, rfl, d1, sB⟩ := hpt.get sv (k := 1) (by omega)
    obtain ⟨g2, o2, A3, n3, c3, _, eA2, d2, sC⟩ := hpt.get sv (k := 2) (by omega)
    obtain ⟨rfl, rfl⟩ : g1 = g2 ∧ o1 = o2 := by simpa using eA2
    obtain ⟨g3, o3, A4, n4, c4, _, eA3, d3, sD⟩ := hpt.get sv (k := 3) (by omega)
    obtain ⟨rfl, rfl⟩ : g1 = g3 ∧ o1 = o3 := by simpa using eA3
    have sB : Sl w1 1 A2 n2 c2 (bc pB) := sB
    have sC : Sl w1 1 A3 n3 c3 (bc pC) := sC
    have sD : Sl w1 1 A4 n4 c4 (bc pD) := sD
    rw [Hl.out] at lB lC lD
    have nB := sB.lenb
    have nC := sC.lenb
    have nD := sD.lenb
    have h := h.below (by omega) hbr
    obtain ⟨⟨iB, eB⟩, hOB⟩ : ∃ O, openL pB = O := ⟨_, rfl⟩
    obtain ⟨⟨iC, eC⟩, hOC⟩ : ∃ O, openL pC = O := ⟨_, rfl⟩
    obtain ⟨⟨iD, eD⟩, hOD⟩ : ∃ O, openL pD = O := ⟨_, rfl⟩
    have lB2 := open_len pB
    have lC2 := open_len pC
    have lD2 := open_len pD
    rw [hOB] at lB2
    rw [hOC] at lC2
    rw [hOD] at lD2
    simp only at lB2 lC2 lD2
    have k1 := fun w' A n c (h : Sl w' 1 A n c (bc pB)) hq hn => open_any w' A n c pB h hq hn
    have k2 := fun w' A n c (h : Sl w' 1 A n c (bc pC)) hq hn => open_any w' A n c pC h hq hn
    have k3 := fun w' A n c (h : Sl w' 1 A n c (bc pD)) hq hn => open_any w' A n c pD h hq hn
    rw [hOB] at k1
    rw [hOC] at k2
    rw [hOD] at k3
    simp only at k1 k2 k3
    unfold NewB2 at k1 k2 k3
    have K1 := Lib.hid k1
    have K2 := Lib.hid k2
    have K3 := Lib.hid k3
    have HB := Lib.hid hOB
    have HC := Lib.hid hOC
    have HD := Lib.hid hOD
    clear k1 k2 k3 hOB hOC hOD hp1 sv hpt eA2 eA3
    go_wp2_with fail
    clear d1
    refine (K1.out w1 A2 n2 c2 sB (HQ.out.below hbr) (by omega)).mono ?_
    rintro e w2 ⟨A5, n5, c5, rfl, ho5, hb⟩
    have s5 := OwnB.sl ho5
    have hbr0 := hbr
    have h := h.below (by omega) hb
    have sC := sC.below (by omega) hb
    have sD := sD.below (by omega) hb
    have d2 := stays hb d2
    have d3 := stays hb d3
    have hbr := hbr.trans (hb.mono hbr.size)
    clear K1 hb ho5 sB
    go_wp2_with fail
    clear d2
    refine (K2.out w2 A3 n3 c3 sC (HQ.out.below hbr) (by omega)).mono ?_
    rintro e w3 ⟨A6, n6, c6, rfl, ho6, hb⟩
    have s6 := OwnB.sl ho6
    have hz2 := hbr.size
    have u6 := Lib.hid (fun (b : Nat) (hn : 0 < n6) q => own_at (b := b) ho6 hn q)
    have h := h.below (by omega) hb
    have sD := sD.below (by omega) hb
    have d3 := stays hb d3
    have hbr := hbr.trans (hb.mono hbr.size)
    have s5 := s5.below (by omega) hb
    clear K2 hb ho6 sC
    go_wp2_with fail
    clear d3
    refine (K3.out w3 A4 n4 c4 sD (HQ.out.below hbr) (by omega)).mono ?_
    rintro e w4 ⟨A7, n7, c7, rfl, ho7, hb⟩
    have s7 := OwnB.sl ho7
    have h := h.below (by omega) hb
    have hbr := hbr.trans (hb.mono hbr.size)
    have s5 := s5.below (by omega) hb
    have s6 := s6.below (by omega) hb
    clear K3 hb ho7 sD
    have hl5 := s5.lenb
    have hl6 := s6.lenb
    have hl7 := s7.lenb
    by_cases z1 : eB = 0
    case neg =>
      have HNO : Hid (NoTab p) := Lib.hid (noTab_open HS.out (.inl (by rw [HB.out]; exact z1)))
      have t1 : ((eB : Int) == 0) = false := by simp; omega
      have t2 : ((eB : Int) != 0) = true := by simp; omega
      clear HB HC HD HS
      go_wp2
      go_ret2
      exact GotTab.bad HNO.out hbr
    subst z1
    by_cases z2 : eC = 0
    case neg =>
      have HNO : Hid (NoTab p) := Lib.hid (noTab_open HS.out (.inr (.inl (by rw [HC.out]; exact z2))))
      have t1 : ((eC : Int) == 0) = false := by simp; omega
      have t2 : ((eC : Int) != 0) = true := by simp; omega
      clear HB HC HD HS
      go_wp2
      go_ret2
      exact GotTab.bad HNO.out hbr
    subst z2
    by_cases z3 : eD = 0
    case neg =>
      have HNO : Hid (NoTab p) := Lib.hid (noTab_open HS.out (.inr (.inr (by rw [HD.out]; exact z3))))
      have t1 : ((eD : Int) == 0) = false := by simp; omega
      have t2 : ((eD : Int) != 0) = true := by simp; omega
      clear HB HC HD HS
      go_wp2
      go_ret2
      exact GotTab.bad HNO.out hbr
    subst z3
    have hB5 : n5 ≤ 65536 := by omega
    have hB6 : n6 ≤ 65536 := by omega
    have hB7 : n7 ≤ 65536 := by omega
    obtain ⟨pb1, pb2⟩ := pages_bounds (p := iB) (by omega)
    obtain ⟨sb1, sb2⟩ := spans_bounds (p := iD) (by omega)
    have Pb := Lib.hid pb1
    have Sb := Lib.hid sb1
    clear lB lC lD nB nC nD lB2 lC2 lD2 hl5 hl6 hl7 pb1 sb1
    go_wp2_with fail
    have hz4 := hbr.size
    refine (clone_any w4 A n c p h (by omega)).mono ?_
    rintro e w5 ⟨A8, n8, c8, rfl, ho8, hb⟩
    have s8 := OwnB.sl ho8
    have u8 := Lib.hid (fun (b : Nat) (hn : 0 < n8) q => own_at (b := b) ho8 hn q)
    have h := h.below (by omega) hb
    have hbr := hbr.trans (hb.mono hbr.size)
    have s5 := s5.below (by omega) hb
    have s6 := s6.below (by omega) hb
    have s7 := s7.below (by omega) hb
    clear hb ho8
    have l6 := Lib.hid (s6.lt (by omega))
    have l7 := Lib.hid (s7.lt (by omega))
    have l8 := Lib.hid (s8.lt (by omega))
    have l0 := Lib.hid (h.lt (by omega))
    have hgw := hbr.size
    have hb := (Below.refl w5.heap.size w5).alloc (Nat.le_refl _) (.cells #[.slice A8 n8 c8, .slice none 0 0, .slice A6 n6 c6, .pointer none] 76)
    have kT := Bx4.fresh w5 (.slice A8 n8 c8) (.slice none 0 0) (.slice A6 n6 c6) (.pointer none) 76
    obtain ⟨g, hg⟩ : ∃ g, w5.heap.size = g := ⟨_, rfl⟩
    rw [hg] at kT l6 l7 l8 l0 hgw
    have h := h.below (by omega) hb
    have hbr := hbr.trans (hb.mono hbr.size)
    have s5 := s5.below (by omega) hb
    have s6 := s6.below (by omega) hb
    have s7 := s7.below (by omega) hb
    have s8 := s8.below (by omega) hb
    have hb78 : g < (w5.alloc (.cells #[.slice A8 n8 c8, .slice none 0 0, .slice A6 n6 c6, .pointer none] 76)).heap.size := kT.lt
    generalize hW : (w5.alloc (.cells #[.slice A8 n8 c8, .slice none 0 0, .slice A6 n6 c6, .pointer none] 76)) = w6 at *
    clear hb
    go_wp2_with fail
    try rw [hW]
    try rw [hg]
    clear hW hg
    obtain ⟨PG, hPG⟩ : ∃ P, pagesL iB = P := ⟨_, rfl⟩
    obtain ⟨SP, hSP⟩ : ∃ P, spansL iD = P := ⟨_, rfl⟩
    have k4 := tpages_any w6 A5 n5 c5 iB s5 (by omega)
    have k5 := fun w' A n c (h : Sl w' 1 A n c (bc iD)) hn => tspans_any w' A n c iD h hn
    rw [hPG] at k4
    rw [hSP] at k5
    rw [hPG] at pb2 Pb
    rw [hSP] at sb2 Sb
    unfold GotPages at k4
    unfold GotSpans at k5
    have K4 := Lib.hid k4
    have K5 := Lib.hid k5
    have HPG := Lib.hid hPG
    have HSP := Lib.hid hSP
    clear k4 k5 hPG hSP s5
    refine K4.out.mono ?_
    rintro e w7 ⟨A9, n9, c9, rfl, r9, hb⟩
    have h := h.below (by omega) hb
    have hbr := hbr.trans (hb.mono hbr.size)
    have s6 := s6.below (by omega) hb
    have s7 := s7.below (by omega) hb
    have s8 := s8.below (by omega) hb
    have kT := kT.below hb
    clear hb K4
    obtain ⟨x0, x1, x2, x3, x4⟩ := id kT
    have kT := kT.setA (.slice A9 n9 c9)
    have r9 := r9.setLow hb78 1 (.slice A9 n9 c9)
    have h := h.setAt (g := g) l0 1 (.slice A9 n9 c9)
    have s6 := s6.setAt (g := g) l6 1 (.slice A9 n9 c9)
    have s7 := s7.setAt (g := g) l7 1 (.slice A9 n9 c9)
    have s8 := s8.setAt (g := g) l8 1 (.slice A9 n9 c9)
    have hbr := hbr.setCell (p := ⟨g, 1, none⟩) hgw (.slice A9 n9 c9)
    go_wp2_with fail
    generalize (w7.setCell ⟨g, 1, none⟩ (.slice A9 n9 c9)) = w8 at *
    have hgl8' := kT.lt
    clear x0 x1 x2 x3 x4
    refine (K5.out w8 A7 n7 c7 s7 (by omega)).mono ?_
    rintro e w9 ⟨A10, n10, c10, rfl, r10, hb⟩
    have h := h.below (by omega) hb
    have hbr := hbr.trans (hb.mono hbr.size)
    have s6 := s6.below (by omega) hb
    have s8 := s8.below (by omega) hb
    have kT := kT.below hb
    have r9 := r9.below hb
    clear hb K5 s7
    have hl10 := r10.lenR
    have k6 := new_any w9 _ A10 n10 c10 _ r10 (by omega) Sb.out
    unfold GotSet at k6
    have K6 := Lib.hid k6
    have hgl9 := kT.lt
    clear k6
    go_wp2_with fail
    refine K6.out.mono ?_
    rintro e w10 ⟨g2, rfl, hg2, S2, hb⟩
    have h := h.below (by omega) hb
    have hbr := hbr.trans (hb.mono hbr.size)
    have s6 := s6.below (by omega) hb
    have s8 := s8.below (by omega) hb
    have kT := kT.below hb
    have r9 := r9.below hb
    have r10 := r10.below hb
    clear hb K6
    have hgg : g < g2 := by omega
    obtain ⟨x0, x1, x2, x3, x4⟩ := id kT
    have hgl8 : g < w8.heap.size := hgl8'
    have kT := kT.setC (.pointer (some ⟨g2, 0, none⟩))
    have r9 := r9.setLow hb78 3 (.pointer (some ⟨g2, 0, none⟩))
    have r10 := r10.setLow hgl8 3 (.pointer (some ⟨g2, 0, none⟩))
    have S2 := S2.setLow hgg 3 (.pointer (some ⟨g2, 0, none⟩))
    have h := h.setAt (g := g) l0 3 (.pointer (some ⟨g2, 0, none⟩))
    have s6 := s6.setAt (g := g) l6 3 (.pointer (some ⟨g2, 0, none⟩))
    have s8 := s8.setAt (g := g) l8 3 (.pointer (some ⟨g2, 0, none⟩))
    have hbr := hbr.setCell (p := ⟨g, 3, none⟩) hgw (.pointer (some ⟨g2, 0, none⟩))
    go_wp2_with fail
    generalize (w10.setCell ⟨g, 3, none⟩ (.pointer (some ⟨g2, 0, none⟩))) = w11 at *
    clear x0 x1 x2 x3 x4
    obtain ⟨EN, hEN⟩ : ∃ E, entriesL p (PG.getD []) = E := ⟨_, rfl⟩
    have hl9 := r9.lenR
    have hl8 := s8.lenb
    have hl := Hl.out
    have k7 := tentries_any w11 g A8 n8 c8 p kT.c0 s8 (by omega) (HQ.out.below hbr) _ A9 n9 c9 _ kT.c1 r9 Pb.out (by omega)
    rw [hEN] at k7
    unfold GotLeaf at k7
    have K7 := Lib.hid k7
    have HEN := Lib.hid hEN
    clear k7 hEN hl9 hl8 hl pb2 sb2 hl10
    refine K7.out.mono ?_
    rintro e w12 ⟨A12, n12, c12, rfl, r12, hb⟩
    have h := h.below (by omega) hb
    have hbr := hbr.trans (hb.mono hbr.size)
    have s6 := s6.below (by omega) hb
    have s8 := s8.below (by omega) hb
    have kT := kT.below hb
    have r9 := r9.below hb
    have r10 := r10.below hb
    have S2 := S2.below hb
    clear hb K7
    rcases PG with _ | pg
    case none =>
      have HNO : Hid (NoTab p) := Lib.hid (noTab_parse HS.out (.inl (by rw [HB.out]; exact HPG.out)))
      simp only [Option.isSome_none, Option.isSome_some] at *
      clear HS HB HC HD HPG HSP HEN r9 r10 r12 Pb Sb kT s8 s6 S2
      go_wp2
      go_ret2
      exact GotTab.bad HNO.out hbr
    case some =>
      rcases SP with _ | sp
      case none =>
        have HNO : Hid (NoTab p) := Lib.hid (noTab_parse HS.out (.inr (.inl (by rw [HD.out]; exact HSP.out))))
        simp only [Option.isSome_none, Option.isSome_some] at *
        clear HS HB HC HD HPG HSP HEN r9 r10 r12 Pb Sb kT s8 s6 S2
        go_wp2
        go_ret2
        exact GotTab.bad HNO.out hbr
      case some =>
        rcases EN with _ | l
        case none =>
          have HNO : Hid (NoTab p) := Lib.hid (noTab_parse HS.out (.inr (.inr (by rw [HB.out]; show entriesL p ((pagesL iB).getD []) = none; rw [HPG.out]; exact HEN.out))))
          simp only [Option.isSome_none, Option.isSome_some] at *
          clear HS HB HC HD HPG HSP HEN r9 r10 r12 Pb Sb kT s8 s6 S2
          go_wp2
          go_ret2
          exact GotTab.bad HNO.out hbr
        case some =>
          simp only [Option.isSome_some, Option.getD_some] at *
          obtain ⟨⟨qb, qe⟩, hBE⟩ : ∃ O, tabBE l sp = O := ⟨_, rfl⟩
          have k8 := tbuild_any w12 _ A12 n12 c12 l r12 _ A10 n10 c10 sp r10 (HQ.out.below hbr)
          rw [hBE] at k8
          unfold GotBE at k8
          simp only at k8
          have K8 := Lib.hid k8
          have HBE := Lib.hid hBE
          clear k8 hBE
          go_wp2_with fail
          refine K8.out.mono ?_
          rintro e w13 ⟨A13, n13, c13, rfl, ho13, hb⟩
          have s13 := OwnB.sl ho13
          have h := h.below (by omega) hb
          have hbr := hbr.trans (hb.mono hbr.size)
          have s6 := s6.below (by omega) hb
          have s8 := s8.below (by omega) hb
          have kT := kT.below hb
          have r9 := r9.below hb
          have S2 := S2.below hb
          clear hb K8 ho13 r10 r12
          have hyes := fun h0 h1 => tab_yes HS.out (pg := pg) (l := l) (sp := sp) (by rw [HB.out]; exact HPG.out) h0 h1
          rw [HBE.out] at hyes
          have HY := Lib.hid hyes
          clear hyes
          by_cases z8 : qe = 0
          case neg =>
            have HNO : Hid (NoTab p) := Lib.hid (noTab_build HS.out (by rw [HB.out]; exact HPG.out) (by rw [HD.out]; exact HSP.out) HEN.out (.inl (by rw [HBE.out]; exact z8)))
            have t1 : ((qe : Int) == 0) = false := by simp; omega
            have t2 : ((qe : Int) != 0) = true := by simp; omega
            clear HS HB HC HD HPG HSP HEN HBE HY r9 Pb Sb kT s8 s6 S2
            go_wp2
            go_ret2
            exact GotTab.bad HNO.out hbr
          subst z8
          obtain ⟨eb, heb⟩ : ∃ eb, (qb == p) = eb := ⟨_, rfl⟩
          have Heb := Lib.hid heb
          clear heb
          go_wp2_with fail
          refine (equal_is w13 A13 n13 c13 qb A n c p eb Heb s13 h).mono ?_
          rintro e w' ⟨rfl, rfl⟩
          cases eb
          case false =>
            have HNO : Hid (NoTab p) := Lib.hid (noTab_build HS.out (by rw [HB.out]; exact HPG.out) (by rw [HD.out]; exact HSP.out) HEN.out (.inr (by rw [HBE.out]; show qb ≠ p; have := Heb.out; simpa using this)))
            clear HS HB HC HD HPG HSP HEN HBE HY r9 Pb Sb kT s8 s6 S2
            go_wp2
            go_ret2
            exact GotTab.bad HNO.out hbr
          obtain ⟨y1, y2, y3, y4, y5, y6⟩ := HY.out (by first | trivial | rfl) (by have := Heb.out; simpa using this)
          have hT : TabIs w13 w.heap.size g l sp := by
            rw [HC.out] at y4
            have e4 : iC = buildL 10 (usersL l) := y4
            refine ⟨A8, n8, c8, A9, n9, c9, A6, n6, c6, g2, hgw, by omega, ⟨kT.c0, kT.c1, kT.c2, kT.c3⟩, by rw [y2]; exact s8, ?_, by rw [← e4]; exact s6, ?_, fun b hn q => ?_, fun b hn q => ?_⟩
            · rw [← y3]
              exact r9.mono fun b _ hb => by have h2 : w6.heap.size ≤ b := hb; omega
            · rw [rightSpans_all sp y6] at S2
              exact S2
            · have := u8.out b hn q
              omega
            · have := u6.out b hn q
              omega
          have HT := Lib.hid hT
          have Y1 := Lib.hid y1
          have Y2 := Lib.hid y2
          clear HS HB HC HD HPG HSP HEN HBE HY r9 Pb Sb kT s8 s6 S2 hT y1 y2 y3 y4 y5 y6
          go_wp2
          go_ret2
          exact ⟨hbr, .inl ⟨g, l, sp, Y1.out, Y2.out, rfl, HT.out⟩⟩
end Go.Proofs.YtpffieogkfndaaaDoor
