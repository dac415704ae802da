/-
  TabGetW, TabAwake in one text. No condition but sizes.
-/
import Derived.Test.YtpffieogkfndaaaGreatDoorTabVersionW
import Derived.Test.YtpffieogkfndaaaGreatDoorJTabOpenW
import Derived.Test.YtpffieogkfndaaaGreatDoorTabBoundsW
import Derived.Lib.SlBytesConst
namespace Go.Proofs.YtpffieogkfndaaaGreatDoor
open Go.RowKit
set_option maxRecDepth 20000
set_option linter.unusedVariables false
set_option linter.unusedSimpArgs false
def GotVal (w : World) (r : List UInt8 × Nat × Nat) (e : Ending) (w' : World) : Prop :=
  ∃ (A : Option Addr) (n c : Nat), e = .returned (.tuple #[.slice A n c, .int .u64 (r.2.1 : Int), .int .i64 (r.2.2 : Int)]) ∧ Sl w' 1 A n c (bc r.1) ∧ Below w.heap.size w w'
set_option maxHeartbeats 16000000 in
theorem tget_any (w : World) (B g : Nat) (l : List EntL) (sp : List SpanL) (hc : checkTabL l sp = 0) (hT : TabIs w B g l sp) (hn : (tabBytesL l sp).length ≤ 65536) (hq : Quarter w) (KA : Option Addr) (k ck : Nat) (key : List UInt8) (hk : Sl w 1 KA k ck (bc key)) (hkn : k ≤ 1000000) (q : UInt64) :
    Calls Tryz.prog 21 #[.pointer (some ⟨g, 0, none⟩), .slice KA k ck, .int .u64 (q.toNat : Int)] w (GotVal w (getL l sp key q)) := by
  have hqs := q.toNat_lt
  obtain ⟨r0, hr0⟩ : ∃ r0, getL l sp key q = r0 := ⟨_, rfl⟩
  rw [hr0]
  unfold getL at hr0
  have kv := tversion_any w B g l sp hc hT hn hq KA k ck key hk hkn q
  obtain ⟨V, hV⟩ : ∃ V, versionL l key q = V := ⟨_, rfl⟩
  rw [hV] at kv hr0
  unfold GotVer at kv
  have kc := fun (w' : World) g2 (hS : SetIs w' g2 sp) (hk : Sl w' 1 KA k ck (bc key)) => cover_any w' g2 sp hS KA k ck key hk q.toNat (by omega)
  obtain ⟨cv, hcv⟩ : ∃ cv, coverL sp key q.toNat = cv := ⟨_, rfl⟩
  rw [hcv] at hr0
  simp only [hcv] at kc
  have Kv := Lib.hid kv
  have Kc := Lib.hid kc
  have Hr := Lib.hid hr0
  obtain ⟨_, _, _, _, _, _, _, _, _, g2, _, _, ⟨_, _, _, c3⟩, _, _, _, t, _, _⟩ := hT
  generalize q.toNat = qn at *
  clear kv kc hr0 hV hcv hq hn hc
  unfold GotVal
  go_enter Tryz.func21, Tryz.ntmps21
  go_wp2_with fail
  refine Kv.out.mono ?_
  rintro e w1 ⟨A7, n7, c7, xs, xd, A8, n8, c8, rfl, hv, hbr⟩
  have c3 := stays hbr c3
  have t := t.below hbr
  have hk := hk.below (by omega) hbr
  have hb := (Below.refl w1.heap.size w1).alloc (Nat.le_refl _) (.cells #[.slice A7 n7 c7, .int .u64 (xs : Int), .int .u8 (xd : Int), .slice A8 n8 c8] 69)
  have kE := Bx4.fresh w1 (.slice A7 n7 c7) (.int .u64 (xs : Int)) (.int .u8 (xd : Int)) (.slice A8 n8 c8) 69
  obtain ⟨gE, hgE⟩ : ∃ gE, w1.heap.size = gE := ⟨_, rfl⟩
  rw [hgE] at kE
  have c3 := stays hb c3
  have t := t.below hb
  have hk := hk.below (by omega) hb
  have hbr := hbr.trans (hb.mono hbr.size)
  have Hv : Hid (∀ x, V = some x → xs = x.key.seq.toNat ∧ xd = x.key.kind.toNat ∧ Sl (w1.alloc (.cells #[.slice A7 n7 c7, .int .u64 (xs : Int), .int .u8 (xd : Int), .slice A8 n8 c8] 69)) 1 A8 n8 c8 (bc x.value)) := Lib.hid fun x h => ⟨(hv x h).1, (hv x h).2.1, (hv x h).2.2.below (by omega) hb⟩
  generalize hW : (w1.alloc (.cells #[.slice A7 n7 c7, .int .u64 (xs : Int), .int .u8 (xd : Int), .slice A8 n8 c8] 69)) = w2 at *
  clear hb hv Kv
  go_wp2_with fail
  try rw [hW]
  try rw [hgE]
  clear hW hgE
  refine (Kc.out w2 g2 t hk).mono ?_
  rintro e w3 ⟨rfl, hb⟩
  have hbr := hbr.trans (hb.mono hbr.size)
  have kE := kE.below hb
  have Hv : Hid (∀ x, V = some x → xs = x.key.seq.toNat ∧ xd = x.key.kind.toNat ∧ Sl w3 1 A8 n8 c8 (bc x.value)) := Lib.hid fun x h => ⟨(Hv.out x h).1, (Hv.out x h).2.1, (Hv.out x h).2.2.below (by omega) hb⟩
  clear hb Kc t c3 hk
  have hr := Hr.out
  rcases V with _ | X
  case none =>
    simp only [Option.isSome_none] at *
    by_cases z : cv = 0
    case pos =>
      subst z
      obtain rfl : ([], 0, 0) = r0 := by rw [← hr]; simp
      clear hr Hr Hv
      go_wp2
      refine bodyPost_ret (v := .tuple #[.slice none 0 0, .int .u64 0, .int .i64 0]) (by simp [results, Tryz.results21, go_sem]) rfl ?_
      exact ⟨none, 0, 0, rfl, Sl.nil _ _ _ _ (by unfold maxLen; omega), hbr⟩
    obtain rfl : ([], cv, 2) = r0 := by rw [← hr]; simp [z]
    have t1 : ((cv : Int) == 0) = false := by simp; omega
    clear hr Hr Hv
    go_wp2
    refine bodyPost_ret (v := .tuple #[.slice none 0 0, .int .u64 (cv : Int), .int .i64 2]) (by simp [results, Tryz.results21, go_sem]) rfl ?_
    exact ⟨none, 0, 0, rfl, Sl.nil _ _ _ _ (by unfold maxLen; omega), hbr⟩
  case some =>
    simp only [Option.isSome_some] at *
    obtain ⟨e1, e2, sv⟩ := Hv.out X rfl
    rw [← e1, ← e2] at hr
    have Hsv := Lib.hid sv
    clear Hr Hv e1 e2 sv
    obtain ⟨x0, x1, x2, x3, x4⟩ := id kE
    by_cases z : xs < cv
    case pos =>
      obtain rfl : ([], cv, 2) = r0 := by rw [← hr, if_pos z]
      have t1 : decide (xs < cv) = true := decide_eq_true z
      have t2 : decide ((xs : Int) < (cv : Int)) = true := decide_eq_true (by omega)
      clear hr Hsv
      go_wp2
      refine bodyPost_ret (v := .tuple #[.slice none 0 0, .int .u64 (cv : Int), .int .i64 2]) (by simp [results, Tryz.results21, go_sem]) rfl ?_
      exact ⟨none, 0, 0, rfl, Sl.nil _ _ _ _ (by unfold maxLen; omega), hbr⟩
    have t1 : decide (xs < cv) = false := decide_eq_false z
    have t2 : decide ((xs : Int) < (cv : Int)) = false := decide_eq_false (by omega)
    rw [if_neg z] at hr
    by_cases z1 : xd = 1
    case pos =>
      subst z1
      rw [if_pos rfl] at hr
      subst hr
      clear Hsv
      go_wp2_with fail
      have hX := kE.drew
      have hbr := hbr.drew
      clear x0 x1 x2 x3 x4 kE
      generalize hW : w3.drew = w4 at *
      refine regionF (fun _ wa wb => Bx4 wa gE (.slice A7 n7 c7) (.int .u64 (xs : Int)) (.int .u8 ((1 : Nat) : Int)) (.slice A8 n8 c8) → Bx4 wb gE (.slice A7 n7 c7) (.int .u64 (xs : Int)) (.int .u8 ((1 : Nat) : Int)) (.slice A8 n8 c8)) (by kernel_rfl) ?_
      rw [hW]
      clear hW
      refine takeT (i := 0) (v := ?_) rfl ?hy ?_
      case hy => intro wS; go_simp; try with_reducible rfl
      refine takeT (i := 1) (v := ?_) rfl ?hy ?_
      case hy => intro wS; go_simp; try with_reducible rfl
      refine takeP (i := 2) (v := ?_) rfl hX ?hy ?_
      case hy =>
        intro wS hSw
        obtain ⟨z0, z1, z2, z3, z4⟩ := id hSw
        clear hSw
        go_simp
        try with_reducible rfl
      refine takeT (i := 3) (v := ?_) rfl ?hy ?_
      case hy => intro wS; go_simp; try with_reducible rfl
      refine takeT (i := 4) (v := ?_) rfl ?hy ?_
      case hy => intro wS; go_simp; try with_reducible rfl
      refine takeT (i := 5) (v := ?_) rfl ?hy ?_
      case hy => intro wS; go_simp; try with_reducible rfl
      try simp only [List.getElem_toArray, List.getElem_cons_succ, List.getElem_cons_zero, Act.put, List.setIfInBounds_toArray, List.set_cons_zero, List.set_cons_succ]
      refine doneF (by kernel_rfl) ?_ _
      try simp only [List.getElem_toArray, List.getElem_cons_succ, List.getElem_cons_zero, Act.put, List.setIfInBounds_toArray, List.set_cons_zero, List.set_cons_succ]
      go_wp2
      refine bodyPost_ret (v := .tuple #[.slice none 0 0, .int .u64 (xs : Int), .int .i64 2]) (by simp [results, Tryz.results21, go_sem]) rfl ?_
      exact ⟨none, 0, 0, rfl, Sl.nil _ _ _ _ (by unfold maxLen; omega), hbr⟩
    rw [if_neg z1] at hr
    subst hr
    have t3 : ((xd : Int) == 1) = false := by simp; omega
    go_wp2_with fail
    have hX := kE.drew
    have hbr := hbr.drew
    have Hsv := Lib.hid Hsv.out.drew
    clear x0 x1 x2 x3 x4 kE
    generalize hW : w3.drew = w4 at *
    refine regionF (fun _ wa wb => Bx4 wa gE (.slice A7 n7 c7) (.int .u64 (xs : Int)) (.int .u8 (xd : Int)) (.slice A8 n8 c8) → Bx4 wb gE (.slice A7 n7 c7) (.int .u64 (xs : Int)) (.int .u8 (xd : Int)) (.slice A8 n8 c8)) (by kernel_rfl) ?_
    rw [hW]
    clear hW
    refine takeT (i := 0) (v := ?_) rfl ?hy ?_
    case hy => intro wS; go_simp; try with_reducible rfl
    refine takeP (i := 1) (v := ?_) rfl hX ?hy ?_
    case hy =>
      intro wS hSw
      obtain ⟨z0, z1, z2, z3, z4⟩ := id hSw
      clear hSw
      go_simp
      try with_reducible rfl
    refine takeT (i := 2) (v := ?_) rfl ?hy ?_
    case hy => intro wS; go_simp; try with_reducible rfl
    refine takeT (i := 3) (v := ?_) rfl ?hy ?_
    case hy => intro wS; go_simp; try with_reducible rfl
    refine takeP (i := 4) (v := ?_) rfl hX ?hy ?_
    case hy =>
      intro wS hSw
      obtain ⟨z0, z1, z2, z3, z4⟩ := id hSw
      clear hSw
      go_simp
      try with_reducible rfl
    refine takeT (i := 5) (v := ?_) rfl ?hy ?_
    case hy => intro wS; go_simp; try with_reducible rfl
    refine takeT (i := 6) (v := ?_) rfl ?hy ?_
    case hy => intro wS; go_simp; try with_reducible rfl
    refine takeT (i := 7) (v := ?_) rfl ?hy ?_
    case hy => intro wS; go_simp; try with_reducible rfl
    try simp only [List.getElem_toArray, List.getElem_cons_succ, List.getElem_cons_zero, Act.put, List.setIfInBounds_toArray, List.set_cons_zero, List.set_cons_succ]
    refine doneF (by kernel_rfl) ?_ _
    try simp only [List.getElem_toArray, List.getElem_cons_succ, List.getElem_cons_zero, Act.put, List.setIfInBounds_toArray, List.set_cons_zero, List.set_cons_succ]
    go_wp2
    refine bodyPost_ret (v := .tuple #[.slice A8 n8 c8, .int .u64 (xs : Int), .int .i64 1]) (by simp [results, Tryz.results21, go_sem]) rfl ?_
    exact ⟨A8, n8, c8, rfl, Hsv.out, hbr⟩
end Go.Proofs.YtpffieogkfndaaaGreatDoor

namespace Go.Proofs.YtpffieogkfndaaaGreatDoor
open Go.RowKit
set_option maxRecDepth 20000
set_option linter.unusedVariables false
set_option linter.unusedSimpArgs false
theorem constT (w : World) (C : Array Value) (n c k : Nat) (h : w.heap.size = k) : (convert 29 29 (.slice (some ⟨k, 0, none⟩) n c)).run Tryz.prog (w.alloc (.cells C 5)) = .ok (.slice (some ⟨k, 0, none⟩) n c) (w.alloc (.cells C 5 (C.size, C.size + 1))) := by
  subst h
  exact Lib.run_convert_bytes_const (P := Tryz.prog) w 29 5 C n c Tryz.underlying29 Tryz.underlying5
/-- one byte, marked -/
theorem litT (w : World) (x : UInt8) : Sl (w.alloc (.cells #[.int .u8 (x.toNat : Int)] 5 (1, 2))) 1 (some ⟨w.heap.size, 0, none⟩) 1 1 (bc [x]) ∧ Below w.heap.size w (w.alloc (.cells #[.int .u8 (x.toNat : Int)] 5 (1, 2))) ∧ (w.alloc (.cells #[.int .u8 (x.toNat : Int)] 5 (1, 2))).heap.size = w.heap.size + 1 :=
  ⟨Sl.lit w _ _ 1 _ _ rfl (by unfold maxLen; omega) rfl, (Below.refl _ w).alloc (Nat.le_refl _) _, World.size_alloc _ _⟩
theorem conv_is (w : World) (A : Option Addr) (n c : Nat) (l : List UInt8) (h : Sl w 1 A n c (bc l)) (b : ByteArray) (hb : b.data.toList = l) : (convert 29 9 (.slice A n c)).run Tryz.prog w = .ok (.string b) w := by
  obtain ⟨s, e, r⟩ := run_conv w A n c l h
  rw [ByteArray.toList_eq] at e
  have : s = b := ByteArray.ext (Array.toList_inj.1 (e.trans hb.symm))
  rw [← this]
  exact r
set_option maxHeartbeats 4000000 in
theorem ent13_any (w : World) (s : ByteArray) (l : List UInt8) (hl : s.data.toList = l) (hm : l.length ≤ 1000000) (s2 : ByteArray) (l2 : List UInt8) (hl2 : s2.data.toList = l2) (hm2 : l2.length ≤ 1000000) (q : Int) :
    Calls Tryz.prog 33 #[.string s, .int .u64 q, .string s2] w fun e w' => ∃ (A : Option Addr) (n c : Nat) (B : Option Addr) (m d : Nat), e = .returned (.agg #[.slice A n c, .int .u64 q, .int .u8 2, .slice B m d]) ∧ Sl w' 1 A n c (bc l) ∧ Sl w' 1 B m d (bc l2) ∧ Below w.heap.size w w' := by
  have al := (Below.refl w.heap.size w).alloc (Nat.le_refl _) (.cells #[.slice none 0 0, .int .u64 0, .int .u8 0, .slice none 0 0] 69)
  have kR := Bx4.fresh w (.slice none 0 0) (.int .u64 0) (.int .u8 0) (.slice none 0 0) 69
  generalize hW : (w.alloc (.cells #[.slice none 0 0, .int .u64 0, .int .u8 0, .slice none 0 0] 69)) = w0 at *
  obtain ⟨c1, w1, r1, h1, b1⟩ := conv_text w0 s l hl hm
  obtain ⟨c2, w2, r2, h2, b2⟩ := conv_text w1 s2 l2 hl2 hm2
  have zR := kR.lt
  have h1 := h1.below (by omega) b2
  have kR := (kR.below b1).below b2
  have z1 := b1.size
  have hq := al.trans ((b1.trans (b2.mono b1.size)).mono al.size)
  obtain ⟨gA, hgA⟩ : ∃ gA, gA = w0.heap.size := ⟨_, rfl⟩
  obtain ⟨gB, hgB⟩ : ∃ gB, gB = w1.heap.size := ⟨_, rfl⟩
  rw [← hgA] at r1 h1 zR
  rw [← hgB] at r2 h2
  have zB : w.heap.size < gB := by omega
  have H1 := Lib.hid h1
  have H2 := Lib.hid h2
  have Hq := Lib.hid hq
  clear hl hl2 h1 h2 b1 b2 al hgA hgB z1 hq
  obtain ⟨x0, x1, x2, x3, x4⟩ := id kR
  go_enter Tryz.func33, Tryz.ntmps33
  go_wp2
  refine bodyPost_ret (v := .agg #[.slice (some ⟨gA, 0, none⟩) s.size c1, .int .u64 q, .int .u8 2, .slice (some ⟨gB, 0, none⟩) s2.size c2]) (by simp [results, Tryz.results33, go_sem, x0, x1, x2, x3]) rfl ⟨_, _, _, _, _, _, rfl, ?_, ?_, ?_⟩
  · iterate 4 refine sl_set ?_ (by simp; omega) _
    exact H1.out
  · iterate 4 refine sl_set ?_ (by simp; omega) _
    exact H2.out
  · iterate 4 refine Below.setCell ?_ (by simp) _
    exact Hq.out
def eA13 : EntL := ⟨⟨[97], 1, 2⟩, [120]⟩
def eC13 : EntL := ⟨⟨[99], 3, 2⟩, [121]⟩
def sB13 : SpanL := ⟨[98], [100], 2⟩
theorem check13 : checkTabL [eA13, eC13] [sB13] = 0 := by decide +kernel
theorem get13a : getL [eA13, eC13] [sB13] [99] 9 = ([121], 3, 1) := by decide +kernel
theorem get13b : getL [eA13, eC13] [sB13] [99] 2 = ([], 2, 2) := by decide +kernel
theorem bounds13 : boundsL [eA13, eC13] [sB13] = ([97], [100]) := by decide +kernel
/-- the rows of the example -/
theorem rows13 (w : World) (A1 : Option Addr) (n1 c1 : Nat) (A2 : Option Addr) (n2 c2 : Nat) (A3 : Option Addr) (n3 c3 : Nat) (A4 : Option Addr) (n4 c4 : Nat) (s1 : Sl w 1 A1 n1 c1 (bc [97])) (s2 : Sl w 1 A2 n2 c2 (bc [120])) (s3 : Sl w 1 A3 n3 c3 (bc [99])) (s4 : Sl w 1 A4 n4 c4 (bc [121])) :
    ∃ W : World, W = ((((w.alloc (.cells #[.slice A1 n1 c1, .int .u64 1, .int .u8 2, .slice A2 n2 c2, .slice A3 n3 c3, .int .u64 3, .int .u8 2, .slice A4 n4 c4] 69)).alloc (.cells #[.int .u8 98] 5 (1, 2))).alloc (.cells #[.int .u8 100] 5 (1, 2))).alloc (.cells #[.slice (some ⟨w.heap.size + 1, 0, none⟩) 1 1, .slice (some ⟨w.heap.size + 1 + 1, 0, none⟩) 1 1, .int .u64 2] 72)) ∧
      Below w.heap.size w W ∧ SlR W (fun _ => True) (some ⟨w.heap.size, 0, none⟩) 2 2 [eA13, eC13] ∧ SlR W (fun _ => True) (some ⟨w.heap.size + 1 + 1 + 1, 0, none⟩) 1 1 [sB13] := by
  refine ⟨_, rfl, ?_⟩
  have al := (Below.refl w.heap.size w).alloc (Nat.le_refl _) (.cells #[.slice A1 n1 c1, .int .u64 1, .int .u8 2, .slice A2 n2 c2, .slice A3 n3 c3, .int .u64 3, .int .u8 2, .slice A4 n4 c4] 69)
  have row : SlR (w.alloc (.cells #[.slice A1 n1 c1, .int .u64 1, .int .u8 2, .slice A2 n2 c2, .slice A3 n3 c3, .int .u64 3, .int .u8 2, .slice A4 n4 c4] 69)) (fun _ => True) (some ⟨w.heap.size, 0, none⟩) 2 2 [eA13, eC13] := by
    refine ⟨[.slice A1 n1 c1, .int .u64 1, .int .u8 2, .slice A2 n2 c2, .slice A3 n3 c3, .int .u64 3, .int .u8 2, .slice A4 n4 c4], ⟨rfl, Nat.le_refl _, by unfold maxLen; omega, fun _ => ⟨w.heap.size, 0, rfl, fun j u hu => by rw [cell_of_row _ _ _ _ _ _ (heap_alloc_new w _)]; simpa using hu⟩⟩, ?_, fun _ _ _ => trivial⟩
    exact ⟨[.slice A1 n1 c1, .int .u64 1, .int .u8 2, .slice A2 n2 c2], [.slice A3 n3 c3, .int .u64 3, .int .u8 2, .slice A4 n4 c4], rfl, ⟨_, _, rfl, Bk.of (s1.below (by omega) al), Bk.of (s2.below (by omega) al)⟩, RowC.single ⟨_, _, rfl, Bk.of (s3.below (by omega) al), Bk.of (s4.below (by omega) al)⟩⟩
  have z0 : (w.alloc (.cells #[.slice A1 n1 c1, .int .u64 1, .int .u8 2, .slice A2 n2 c2, .slice A3 n3 c3, .int .u64 3, .int .u8 2, .slice A4 n4 c4] 69)).heap.size = w.heap.size + 1 := World.size_alloc _ _
  generalize (w.alloc (.cells #[.slice A1 n1 c1, .int .u64 1, .int .u8 2, .slice A2 n2 c2, .slice A3 n3 c3, .int .u64 3, .int .u8 2, .slice A4 n4 c4] 69)) = w1 at *
  obtain ⟨t1, b1, z1⟩ := litT w1 98
  rw [show (((98 : UInt8).toNat : Nat) : Int) = 98 from rfl] at t1 b1 z1
  rw [z0] at t1 z1
  have row := row.below b1
  have al := al.trans (b1.mono al.size)
  generalize (w1.alloc (.cells #[.int .u8 98] 5 (1, 2))) = w2 at *
  obtain ⟨t2, b2, z2⟩ := litT w2 100
  rw [show (((100 : UInt8).toNat : Nat) : Int) = 100 from rfl] at t2 b2 z2
  rw [z1] at t2 z2
  have row := row.below b2
  have t1 := t1.below (by omega) b2
  have al := al.trans (b2.mono al.size)
  generalize (w2.alloc (.cells #[.int .u8 100] 5 (1, 2))) = w3 at *
  have al3 := (Below.refl w3.heap.size w3).alloc (Nat.le_refl _) (.cells #[.slice (some ⟨w.heap.size + 1, 0, none⟩) 1 1, .slice (some ⟨w.heap.size + 1 + 1, 0, none⟩) 1 1, .int .u64 2] 72)
  obtain ⟨xs, h1, h2⟩ := spanRow w3 sB13 2 rfl (fun _ => True) _ 1 1 _ 1 1 t1 (fun _ _ _ => trivial) t2 (fun _ _ _ => trivial) 72
  rw [z2] at h1
  exact ⟨al.trans (al3.mono al.size), row.below al3, ⟨xs, h1, h2, fun _ _ _ => trivial⟩⟩
theorem tab_len2 {l : List EntL} {sp : List SpanL} (hc : checkTabL l sp = 0) : (tabBytesL l sp).length ≤ 5090 * leafCount l + 2 * l.length + 160 * sp.length + 200 := by
  obtain ⟨c1, c2, c3, c4, c5, c6⟩ := checkTab_zero hc
  have b1 := leaves_len c4 (leafCount l)
  have b2 := index_len c4 (leafCount l) (Nat.le_refl _)
  have b3 := build_len (usersL l)
  have b4 := ranges_len c6
  have b5 : (usersL l).length = l.length := by simp [usersL]
  unfold tabBytesL partsL
  rw [List.length_append, footL_len]
  simp only [List.flatten_cons, List.flatten_nil, List.length_append, List.length_nil, closeL_len]
  omega
set_option maxHeartbeats 16000000 in
theorem awake13 (w : World) (hq : Quarter w) : Calls Tryz.prog 7 #[] w fun e w' => e = .returned (.bool true) ∧ Below w.heap.size w w' := by
  have k1 := fun w' => ent13_any w' ⟨#[97]⟩ [97] rfl (by decide) ⟨#[120]⟩ [120] rfl (by decide) 1
  have k2 := fun w' => ent13_any w' ⟨#[99]⟩ [99] rfl (by decide) ⟨#[121]⟩ [121] rfl (by decide) 3
  have K1 := Lib.hid k1
  have K2 := Lib.hid k2
  have HQ := Lib.hid hq
  clear k1 k2 hq
  have m0 := fun w C n c => constT w C n c _ rfl
  have m1 := fun (w : World) o C n c => constT (w.alloc o) C n c (w.heap.size + 1) (by simp)
  have m2 := fun (w : World) o o' C n c => constT ((w.alloc o).alloc o') C n c (w.heap.size + 1 + 1) (by simp)
  go_enter Tryz.func7, Tryz.ntmps7
  go_wp2_with fail
  refine (K1.out _).mono ?_
  rintro e w1 ⟨A1, n1, c1, A2, n2, c2, rfl, s1, s2, hb⟩
  have q := hb
  clear hb K1
  go_wp2_with fail
  refine (K2.out _).mono ?_
  rintro e w2 ⟨A3, n3, c3, A4, n4, c4, rfl, s3, s4, hb⟩
  have s1 := s1.below (by omega) hb
  have s2 := s2.below (by omega) hb
  have q := q.trans (hb.mono q.size)
  clear hb K2
  go_wp2_with fail
  obtain ⟨W, hW, hb, r1, r2⟩ := rows13 w2 A1 n1 c1 A2 n2 c2 A3 n3 c3 A4 n4 c4 s1 s2 s3 s4
  have q := q.trans (hb.mono q.size)
  rw [← hW]
  have kb := tbuild_any W _ _ 2 2 _ r1 _ _ 1 1 _ r2 (HQ.out.below q)
  have e1 : tabBE [eA13, eC13] [sB13] = (tabBytesL [eA13, eC13] [sB13], 0) := by unfold tabBE; rw [if_pos check13]
  rw [e1] at kb
  have hl := tab_len2 check13
  have hlc : leafCount [eA13, eC13] = 1 := rfl
  rw [hlc] at hl
  simp only [List.length_cons, List.length_nil] at hl
  obtain ⟨P, hP⟩ : ∃ P, tabBytesL [eA13, eC13] [sB13] = P := ⟨_, rfl⟩
  rw [hP] at kb hl
  have HP := Lib.hid hP
  unfold GotBE at kb
  have Kb := Lib.hid kb
  clear kb hP hW s1 s2 s3 s4 hb e1 r1 r2 hlc
  refine Kb.out.mono ?_
  rintro e w3 ⟨A5, n5, c5, rfl, ho5, hb⟩
  have q := q.trans (hb.mono q.size)
  have s5 := OwnB.sl ho5
  have hl5 := s5.lenb
  clear Kb hb ho5
  go_wp2_with fail
  refine (topen_any w3 A5 n5 c5 P s5 (HQ.out.below q) (by omega)).mono ?_
  rintro e w4 ⟨hb, ⟨g, l, sp, hc, hp, rfl, hT⟩ | ⟨hno, rfl⟩⟩
  case inr => exact absurd HP.out (hno _ _ check13)
  have q := q.trans (hb.mono q.size)
  obtain ⟨rfl, rfl⟩ := tab_one check13 hc (hp.trans HP.out.symm)
  have hl2 : (tabBytesL [eA13, eC13] [sB13]).length ≤ 65536 := by rw [hp]; omega
  have Hl2 := Lib.hid hl2
  clear hp hb s5 hl5 hl HP hl2 hc
  go_wp2_with fail
  obtain ⟨t1, hb, z1⟩ := litT w4 99
  rw [show (((99 : UInt8).toNat : Nat) : Int) = 99 from rfl] at t1 hb z1
  have q := q.trans (hb.mono q.size)
  have hT := hT.below hb
  have kg := tget_any _ _ g _ _ check13 hT Hl2.out (HQ.out.below q) _ 1 1 _ t1 (by omega) 9
  rw [get13a, show (((9 : UInt64).toNat : Nat) : Int) = 9 from rfl] at kg
  unfold GotVal at kg
  generalize (w4.alloc (.cells #[.int .u8 99] 5 (1, 2))) = w5 at *
  have Kg := Lib.hid kg
  clear kg hb t1 z1
  refine Kg.out.mono ?_
  rintro e w6 ⟨A6, n6, c6, rfl, s6, hb⟩
  have q := q.trans (hb.mono q.size)
  have hT := hT.below hb
  clear hb Kg
  simp only at s6
  go_wp2_with fail
  obtain ⟨t1, hb, z1⟩ := litT w6 99
  rw [show (((99 : UInt8).toNat : Nat) : Int) = 99 from rfl] at t1 hb z1
  have q := q.trans (hb.mono q.size)
  have hT := hT.below hb
  have s6 := s6.below (by omega) hb
  have kg := tget_any _ _ g _ _ check13 hT Hl2.out (HQ.out.below q) _ 1 1 _ t1 (by omega) 2
  rw [get13b, show (((2 : UInt64).toNat : Nat) : Int) = 2 from rfl] at kg
  unfold GotVal at kg
  generalize (w6.alloc (.cells #[.int .u8 99] 5 (1, 2))) = w7 at *
  have Kg := Lib.hid kg
  clear kg hb t1 z1
  refine Kg.out.mono ?_
  rintro e w8 ⟨A7, n7, c7, rfl, -, hb⟩
  have q := q.trans (hb.mono q.size)
  have hT := hT.below hb
  have s6 := s6.below (by omega) hb
  clear hb Kg
  go_wp2_with fail
  have kb := tbounds_any _ _ g _ _ check13 hT Hl2.out (HQ.out.below q)
  rw [bounds13] at kb
  have Kb := Lib.hid kb
  clear kb
  refine Kb.out.mono ?_
  rintro e w9 ⟨A8, n8, c8, A9, n9, c9, rfl, s8, s9, hb⟩
  have q := q.trans (hb.mono q.size)
  have hT := hT.below hb
  have s6 := s6.below (by omega) hb
  simp only at s8 s9
  have v6 := conv_is w9 A6 n6 c6 _ s6 ⟨#[121]⟩ rfl
  have v8 := conv_is w9 A8 n8 c8 _ s8 ⟨#[97]⟩ rfl
  have v9 := conv_is w9 A9 n9 c9 _ s9 ⟨#[100]⟩ rfl
  have kl := tableaves_any w9 _ g _ _ hT
  rw [show leafCount [eA13, eC13] = 1 from rfl] at kl
  have Kl := Lib.hid kl
  clear hb Kb kl s6 s8 s9 hT
  go_wp2_with fail
  refine Kl.out.mono ?_
  rintro e w' ⟨rfl, rfl⟩
  go_wp2
  go_ret
  exact ⟨rfl, q⟩
end Go.Proofs.YtpffieogkfndaaaGreatDoor
