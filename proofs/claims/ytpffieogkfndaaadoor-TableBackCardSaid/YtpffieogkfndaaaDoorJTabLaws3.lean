/-
  TabAwake, TabRight, TabLaws3 in one text. No condition but sizes.
-/
import Derived.Test.YtpffieogkfndaaaDoorJTabOpenW
import Derived.Test.YtpffieogkfndaaaDoorTabBoundsW
import Derived.Lib.SlBytesConst
import Derived.Test.YtpffieogkfndaaaDoorSpanFew
import Derived.Test.YtpffieogkfndaaaDoorSpanSame
import Derived.Test.YtpffieogkfndaaaDoorJSpanOne
import Derived.Test.YtpffieogkfndaaaDoorJTabOpenP
import Derived.Test.YtpffieogkfndaaaDoorJBatchReadW
namespace Go.Proofs.YtpffieogkfndaaaDoor
open Go.RowKit
set_option maxRecDepth 20000
set_option linter.unusedVariables false
set_option linter.unusedSimpArgs false
theorem constT (w : World) (C : Array Value) (n c k : Nat) (h : w.heap.size = k) : (convert 29 29 (.slice (some ⟨k, 0, none⟩) n c)).run Tryd.prog (w.alloc (.cells C 5)) = .ok (.slice (some ⟨k, 0, none⟩) n c) (w.alloc (.cells C 5 (C.size, C.size + 1))) := by
  subst h
  exact Lib.run_convert_bytes_const (P := Tryd.prog) w 29 5 C n c Tryd.underlying29 Tryd.underlying5
/-- one byte, marked -/
theorem litT (w : World) (x : UInt8) : Sl (w.alloc (.cells #[.int .u8 (x.toNat : Int)] 5 (1, 2))) 1 (some ⟨w.heap.size, 0, none⟩) 1 1 (bc [x]) ∧ Below w.heap.size w (w.alloc (.cells #[.int .u8 (x.toNat : Int)] 5 (1, 2))) ∧ (w.alloc (.cells #[.int .u8 (x.toNat : Int)] 5 (1, 2))).heap.size = w.heap.size + 1 :=
  ⟨Sl.lit w _ _ 1 _ _ rfl (by unfold maxLen; omega) rfl, (Below.refl _ w).alloc (Nat.le_refl _) _, World.size_alloc _ _⟩
theorem conv_is (w : World) (A : Option Addr) (n c : Nat) (l : List UInt8) (h : Sl w 1 A n c (bc l)) (b : ByteArray) (hb : b.data.toList = l) : (convert 29 9 (.slice A n c)).run Tryd.prog w = .ok (.string b) w := by
  obtain ⟨s, e, r⟩ := run_conv w A n c l h
  rw [ByteArray.toList_eq] at e
  have : s = b := ByteArray.ext (Array.toList_inj.1 (e.trans hb.symm))
  rw [← this]
  exact r
set_option maxHeartbeats 4000000 in
theorem ent13_any (w : World) (s : ByteArray) (l : List UInt8) (hl : s.data.toList = l) (hm : l.length ≤ 1000000) (s2 : ByteArray) (l2 : List UInt8) (hl2 : s2.data.toList = l2) (hm2 : l2.length ≤ 1000000) (q : Int) :
    Calls Tryd.prog 15 #[.string s, .int .u64 q, .string s2] w fun e w' => ∃ (A : Option Addr) (n c : Nat) (B : Option Addr) (m d : Nat), e = .returned (.agg #[.slice A n c, .int .u64 q, .int .u8 2, .slice B m d]) ∧ Sl w' 1 A n c (bc l) ∧ Sl w' 1 B m d (bc l2) ∧ Below w.heap.size w w' := by
  have al := (Below.refl w.heap.size w).alloc (Nat.le_refl _) (.cells #[.slice none 0 0, .int .u64 0, .int .u8 0, .slice none 0 0] 45)
  have kR := Bx4.fresh w (.slice none 0 0) (.int .u64 0) (.int .u8 0) (.slice none 0 0) 45
  generalize hW : (w.alloc (.cells #[.slice none 0 0, .int .u64 0, .int .u8 0, .slice none 0 0] 45)) = w0 at *
  obtain ⟨c1, w1, r1, h1, b1⟩ := conv_text w0 s l hl hm
  obtain ⟨c2, w2, r2, h2, b2⟩ := conv_text w1 s2 l2 hl2 hm2
  have zR := kR.lt
  have h1 := h1.below (by omega) b2
  have kR := (kR.below b1).below b2
  have z1 := b1.size
  have hq := al.trans ((b1.trans (b2.mono b1.size)).mono al.size)
  obtain ⟨gA, hgA⟩ : ∃ gA, gA = w0.heap.size := ⟨_, rfl⟩
  obtain ⟨gB, hgB⟩ : ∃ gB, gB = w1.heap.size := ⟨_, rfl⟩
  rw [← hgA] at r1 h1 zR
  rw [← hgB] at r2 h2
  have zB : w.heap.size < gB := by omega
  have H1 := Lib.hid h1
  have H2 := Lib.hid h2
  have Hq := Lib.hid hq
  clear hl hl2 h1 h2 b1 b2 al hgA hgB z1 hq
  obtain ⟨x0, x1, x2, x3, x4⟩ := id kR
  go_enter Tryd.func15, Tryd.ntmps15
  go_wp2
  refine bodyPost_ret (v := .agg #[.slice (some ⟨gA, 0, none⟩) s.size c1, .int .u64 q, .int .u8 2, .slice (some ⟨gB, 0, none⟩) s2.size c2]) (by simp [results, Tryd.results15, go_sem, x0, x1, x2, x3]) rfl ⟨_, _, _, _, _, _, rfl, ?_, ?_, ?_⟩
  · iterate 4 refine sl_set ?_ (by simp; omega) _
    exact H1.out
  · iterate 4 refine sl_set ?_ (by simp; omega) _
    exact H2.out
  · iterate 4 refine Below.setCell ?_ (by simp) _
    exact Hq.out
def eA13 : EntL := ⟨⟨[97], 1, 2⟩, [120]⟩
def eC13 : EntL := ⟨⟨[99], 3, 2⟩, [121]⟩
def sB13 : SpanL := ⟨[98], [100], 2⟩
theorem check13 : checkTabL [eA13, eC13] [sB13] = 0 := by decide +kernel
theorem get13a : getL [eA13, eC13] [sB13] [99] 9 = ([121], 3, 1) := by decide +kernel
theorem get13b : getL [eA13, eC13] [sB13] [99] 2 = ([], 2, 2) := by decide +kernel
theorem bounds13 : boundsL [eA13, eC13] [sB13] = ([97], [100]) := by decide +kernel
/-- the rows of the example -/
theorem rows13 (w : World) (A1 : Option Addr) (n1 c1 : Nat) (A2 : Option Addr) (n2 c2 : Nat) (A3 : Option Addr) (n3 c3 : Nat) (A4 : Option Addr) (n4 c4 : Nat) (s1 : Sl w 1 A1 n1 c1 (bc [97])) (s2 : Sl w 1 A2 n2 c2 (bc [120])) (s3 : Sl w 1 A3 n3 c3 (bc [99])) (s4 : Sl w 1 A4 n4 c4 (bc [121])) :
    ∃ W : World, W = ((((w.alloc (.cells #[.slice A1 n1 c1, .int .u64 1, .int .u8 2, .slice A2 n2 c2, .slice A3 n3 c3, .int .u64 3, .int .u8 2, .slice A4 n4 c4] 45)).alloc (.cells #[.int .u8 98] 5 (1, 2))).alloc (.cells #[.int .u8 100] 5 (1, 2))).alloc (.cells #[.slice (some ⟨w.heap.size + 1, 0, none⟩) 1 1, .slice (some ⟨w.heap.size + 1 + 1, 0, none⟩) 1 1, .int .u64 2] 48)) ∧
      Below w.heap.size w W ∧ SlR W (fun _ => True) (some ⟨w.heap.size, 0, none⟩) 2 2 [eA13, eC13] ∧ SlR W (fun _ => True) (some ⟨w.heap.size + 1 + 1 + 1, 0, none⟩) 1 1 [sB13] := by
  refine ⟨_, rfl, ?_⟩
  have al := (Below.refl w.heap.size w).alloc (Nat.le_refl _) (.cells #[.slice A1 n1 c1, .int .u64 1, .int .u8 2, .slice A2 n2 c2, .slice A3 n3 c3, .int .u64 3, .int .u8 2, .slice A4 n4 c4] 45)
  have row : SlR (w.alloc (.cells #[.slice A1 n1 c1, .int .u64 1, .int .u8 2, .slice A2 n2 c2, .slice A3 n3 c3, .int .u64 3, .int .u8 2, .slice A4 n4 c4] 45)) (fun _ => True) (some ⟨w.heap.size, 0, none⟩) 2 2 [eA13, eC13] := by
    refine ⟨[.slice A1 n1 c1, .int .u64 1, .int .u8 2, .slice A2 n2 c2, .slice A3 n3 c3, .int .u64 3, .int .u8 2, .slice A4 n4 c4], ⟨rfl, Nat.le_refl _, by unfold maxLen; omega, fun _ => ⟨w.heap.size, 0, rfl, fun j u hu => by rw [cell_of_row _ _ _ _ _ _ (heap_alloc_new w _)]; simpa using hu⟩⟩, ?_, fun _ _ _ => trivial⟩
    exact ⟨[.slice A1 n1 c1, .int .u64 1, .int .u8 2, .slice A2 n2 c2], [.slice A3 n3 c3, .int .u64 3, .int .u8 2, .slice A4 n4 c4], rfl, ⟨_, _, rfl, Bk.of (s1.below (by omega) al), Bk.of (s2.below (by omega) al)⟩, RowC.single ⟨_, _, rfl, Bk.of (s3.below (by omega) al), Bk.of (s4.below (by omega) al)⟩⟩
  have z0 : (w.alloc (.cells #[.slice A1 n1 c1, .int .u64 1, .int .u8 2, .slice A2 n2 c2, .slice A3 n3 c3, .int .u64 3, .int .u8 2, .slice A4 n4 c4] 45)).heap.size = w.heap.size + 1 := World.size_alloc _ _
  generalize (w.alloc (.cells #[.slice A1 n1 c1, .int .u64 1, .int .u8 2, .slice A2 n2 c2, .slice A3 n3 c3, .int .u64 3, .int .u8 2, .slice A4 n4 c4] 45)) = w1 at *
  obtain ⟨t1, b1, z1⟩ := litT w1 98
  rw [show (((98 : UInt8).toNat : Nat) : Int) = 98 from rfl] at t1 b1 z1
  rw [z0] at t1 z1
  have row := row.below b1
  have al := al.trans (b1.mono al.size)
  generalize (w1.alloc (.cells #[.int .u8 98] 5 (1, 2))) = w2 at *
  obtain ⟨t2, b2, z2⟩ := litT w2 100
  rw [show (((100 : UInt8).toNat : Nat) : Int) = 100 from rfl] at t2 b2 z2
  rw [z1] at t2 z2
  have row := row.below b2
  have t1 := t1.below (by omega) b2
  have al := al.trans (b2.mono al.size)
  generalize (w2.alloc (.cells #[.int .u8 100] 5 (1, 2))) = w3 at *
  have al3 := (Below.refl w3.heap.size w3).alloc (Nat.le_refl _) (.cells #[.slice (some ⟨w.heap.size + 1, 0, none⟩) 1 1, .slice (some ⟨w.heap.size + 1 + 1, 0, none⟩) 1 1, .int .u64 2] 48)
  obtain ⟨xs, h1, h2⟩ := spanRow w3 sB13 2 rfl (fun _ => True) _ 1 1 _ 1 1 t1 (fun _ _ _ => trivial) t2 (fun _ _ _ => trivial) 48
  rw [z2] at h1
  exact ⟨al.trans (al3.mono al.size), row.below al3, ⟨xs, h1, h2, fun _ _ _ => trivial⟩⟩
theorem tab_len2 {l : List EntL} {sp : List SpanL} (hc : checkTabL l sp = 0) : (tabBytesL l sp).length ≤ 5090 * leafCount l + 2 * l.length + 160 * sp.length + 200 := by
  obtain ⟨c1, c2, c3, c4, c5, c6⟩ := checkTab_zero hc
  have b1 := leaves_len c4 (leafCount l)
  have b2 := index_len c4 (leafCount l) (Nat.le_refl _)
  have b3 := build_len (usersL l)
  have b4 := ranges_len c6
  have b5 : (usersL l).length = l.length := by simp [usersL]
  unfold tabBytesL partsL
  rw [List.length_append, footL_len]
  simp only [List.flatten_cons, List.flatten_nil, List.length_append, List.length_nil, closeL_len]
  omega
set_option maxHeartbeats 16000000 in
theorem awake13 (w : World) (hq : Quarter w) : Calls Tryd.prog 4 #[] w fun e w' => e = .returned (.bool true) ∧ Below w.heap.size w w' := by
  have k1 := fun w' => ent13_any w' ⟨#[97]⟩ [97] rfl (by decide) ⟨#[120]⟩ [120] rfl (by decide) 1
  have k2 := fun w' => ent13_any w' ⟨#[99]⟩ [99] rfl (by decide) ⟨#[121]⟩ [121] rfl (by decide) 3
  have K1 := Lib.hid k1
  have K2 := Lib.hid k2
  have HQ := Lib.hid hq
  clear k1 k2 hq
  have m0 := fun w C n c => constT w C n c _ rfl
  have m1 := fun (w : World) o C n c => constT (w.alloc o) C n c (w.heap.size + 1) (by simp)
  have m2 := fun (w : World) o o' C n c => constT ((w.alloc o).alloc o') C n c (w.heap.size + 1 + 1) (by simp)
  go_enter Tryd.func4, Tryd.ntmps4
  go_wp2_with fail
  refine (K1.out _).mono ?_
  rintro e w1 ⟨A1, n1, c1, A2, n2, c2, rfl, s1, s2, hb⟩
  have q := hb
  clear hb K1
  go_wp2_with fail
  refine (K2.out _).mono ?_
  rintro e w2 ⟨A3, n3, c3, A4, n4, c4, rfl, s3, s4, hb⟩
  have s1 := s1.below (by omega) hb
  have s2 := s2.below (by omega) hb
  have q := q.trans (hb.mono q.size)
  clear hb K2
  go_wp2_with fail
  obtain ⟨W, hW, hb, r1, r2⟩ := rows13 w2 A1 n1 c1 A2 n2 c2 A3 n3 c3 A4 n4 c4 s1 s2 s3 s4
  have q := q.trans (hb.mono q.size)
  rw [← hW]
  have kb := tbuild_any W _ _ 2 2 _ r1 _ _ 1 1 _ r2 (HQ.out.below q)
  have e1 : tabBE [eA13, eC13] [sB13] = (tabBytesL [eA13, eC13] [sB13], 0) := by unfold tabBE; rw [if_pos check13]
  rw [e1] at kb
  have hl := tab_len2 check13
  have hlc : leafCount [eA13, eC13] = 1 := rfl
  rw [hlc] at hl
  simp only [List.length_cons, List.length_nil] at hl
  obtain ⟨P, hP⟩ : ∃ P, tabBytesL [eA13, eC13] [sB13] = P := ⟨_, rfl⟩
  rw [hP] at kb hl
  have HP := Lib.hid hP
  unfold GotBE at kb
  have Kb := Lib.hid kb
  clear kb hP hW s1 s2 s3 s4 hb e1 r1 r2 hlc
  refine Kb.out.mono ?_
  rintro e w3 ⟨A5, n5, c5, rfl, ho5, hb⟩
  have q := q.trans (hb.mono q.size)
  have s5 := OwnB.sl ho5
  have hl5 := s5.lenb
  clear Kb hb ho5
  go_wp2_with fail
  refine (topen_any w3 A5 n5 c5 P s5 (HQ.out.below q) (by omega)).mono ?_
  rintro e w4 ⟨hb, ⟨g, l, sp, hc, hp, rfl, hT⟩ | ⟨hno, rfl⟩⟩
  case inr => exact absurd HP.out (hno _ _ check13)
  have q := q.trans (hb.mono q.size)
  obtain ⟨rfl, rfl⟩ := tab_one check13 hc (hp.trans HP.out.symm)
  have hl2 : (tabBytesL [eA13, eC13] [sB13]).length ≤ 65536 := by rw [hp]; omega
  have Hl2 := Lib.hid hl2
  clear hp hb s5 hl5 hl HP hl2 hc
  go_wp2_with fail
  obtain ⟨t1, hb, z1⟩ := litT w4 99
  rw [show (((99 : UInt8).toNat : Nat) : Int) = 99 from rfl] at t1 hb z1
  have q := q.trans (hb.mono q.size)
  have hT := hT.below hb
  have kg := tget_any _ _ g _ _ check13 hT Hl2.out (HQ.out.below q) _ 1 1 _ t1 (by omega) 9
  rw [get13a, show (((9 : UInt64).toNat : Nat) : Int) = 9 from rfl] at kg
  unfold GotVal at kg
  generalize (w4.alloc (.cells #[.int .u8 99] 5 (1, 2))) = w5 at *
  have Kg := Lib.hid kg
  clear kg hb t1 z1
  refine Kg.out.mono ?_
  rintro e w6 ⟨A6, n6, c6, rfl, s6, hb⟩
  have q := q.trans (hb.mono q.size)
  have hT := hT.below hb
  clear hb Kg
  simp only at s6
  go_wp2_with fail
  obtain ⟨t1, hb, z1⟩ := litT w6 99
  rw [show (((99 : UInt8).toNat : Nat) : Int) = 99 from rfl] at t1 hb z1
  have q := q.trans (hb.mono q.size)
  have hT := hT.below hb
  have s6 := s6.below (by omega) hb
  have kg := tget_any _ _ g _ _ check13 hT Hl2.out (HQ.out.below q) _ 1 1 _ t1 (by omega) 2
  rw [get13b, show (((2 : UInt64).toNat : Nat) : Int) = 2 from rfl] at kg
  unfold GotVal at kg
  generalize (w6.alloc (.cells #[.int .u8 99] 5 (1, 2))) = w7 at *
  have Kg := Lib.hid kg
  clear kg hb t1 z1
  refine Kg.out.mono ?_
  rintro e w8 ⟨A7, n7, c7, rfl, -, hb⟩
  have q := q.trans (hb.mono q.size)
  have hT := hT.below hb
  have s6 := s6.below (by omega) hb
  clear hb Kg
  go_wp2_with fail
  have kb := tbounds_any _ _ g _ _ check13 hT Hl2.out (HQ.out.below q)
  rw [bounds13] at kb
  have Kb := Lib.hid kb
  clear kb
  refine Kb.out.mono ?_
  rintro e w9 ⟨A8, n8, c8, A9, n9, c9, rfl, s8, s9, hb⟩
  have q := q.trans (hb.mono q.size)
  have hT := hT.below hb
  have s6 := s6.below (by omega) hb
  simp only at s8 s9
  have v6 := conv_is w9 A6 n6 c6 _ s6 ⟨#[121]⟩ rfl
  have v8 := conv_is w9 A8 n8 c8 _ s8 ⟨#[97]⟩ rfl
  have v9 := conv_is w9 A9 n9 c9 _ s9 ⟨#[100]⟩ rfl
  have kl := tableaves_any w9 _ g _ _ hT
  rw [show leafCount [eA13, eC13] = 1 from rfl] at kl
  have Kl := Lib.hid kl
  clear hb Kb kl s6 s8 s9 hT
  go_wp2_with fail
  refine Kl.out.mono ?_
  rintro e w' ⟨rfl, rfl⟩
  go_wp2
  go_ret
  exact ⟨rfl, q⟩
end Go.Proofs.YtpffieogkfndaaaDoor

namespace Go.Proofs.YtpffieogkfndaaaDoor
open Go.RowKit
set_option maxRecDepth 20000
set_option linter.unusedVariables false
set_option linter.unusedSimpArgs false
theorem sents_is13 (w : World) (p : Nat → Prop) (A : Option Addr) (n c : Nat) (ls : List EntL) (h : SlR w p A n c ls) (p' : Nat → Prop) (A' : Option Addr) (n' c' : Nat) (h' : SlR w p' A' n' c' ls) :
    Calls Tryd.prog 11 #[.slice A n c, .slice A' n' c'] w fun e w' => e = .returned (.bool true) ∧ Below w.heap.size w w' := by
  have := sents_any w p A n c ls h p' A' n' c' ls h'
  simpa using this
theorem sspans_is (w : World) (p : Nat → Prop) (A : Option Addr) (n c : Nat) (ls : List SpanL) (h : SlR w p A n c ls) (p' : Nat → Prop) (A' : Option Addr) (n' c' : Nat) (h' : SlR w p' A' n' c' ls) :
    Calls Tryd.prog 13 #[.slice A n c, .slice A' n' c'] w fun e w' => e = .returned (.bool true) ∧ Below w.heap.size w w' := by
  have := rsamespans_any w p A n c ls h p' A' n' c' ls h'
  simpa using this
theorem fews_bounds (ls : List SpanL) (k : Nat) : (fewSpans ls k).length ≤ k ∧ ∀ s ∈ fewSpans ls k, s.lo.length ≤ 80 ∧ s.hi.length ≤ 80 := by
  refine ⟨fewSpans_len ls k, fun s hs => ?_⟩
  unfold fewSpans at hs
  obtain ⟨x, _, rfl⟩ := List.mem_map.1 hs
  simp only [List.length_take]
  omega
theorem right_bounds {ls : List SpanL} {k : Nat} (h1 : ls.length ≤ k) (h2 : ∀ s ∈ ls, s.lo.length ≤ 80 ∧ s.hi.length ≤ 80) : (rightSpans ls).length ≤ k ∧ ∀ s ∈ rightSpans ls, s.lo.length ≤ 80 ∧ s.hi.length ≤ 80 := by
  unfold rightSpans
  exact ⟨Nat.le_trans (List.length_filter_le _ _) h1, fun s hs => h2 s (List.mem_filter.1 hs).1⟩
theorem check_right {l : List EntL} {sp : List SpanL} (h1 : Rises l) (h2 : ∀ x ∈ l, checkEntL x = 0) (h3 : ∀ s ∈ sp, checkSpanL s = 0) (hl : l.length ≤ 1000) (hs : sp.length ≤ 1000) : checkTabL l sp = if l.length + sp.length = 0 then 2 else 0 := by
  unfold checkTabL
  rw [if_neg (by omega)]
  split
  · rfl
  · rw [(firstErr_zero checkEntL l).2 h2, if_neg (by omega), if_pos ((rises_pair l).2 h1), (firstErr_zero checkSpanL sp).2 h3]
end Go.Proofs.YtpffieogkfndaaaDoor

namespace Go.Proofs.YtpffieogkfndaaaDoor
open Go.RowKit
set_option maxRecDepth 20000
set_option linter.unusedVariables false
set_option linter.unusedSimpArgs false
set_option maxHeartbeats 16000000 in
theorem tableBack.walk (w : World) (A : Option Addr) (n c : Nat) (ls : List EntL) (h : SlR w (fun _ => True) A n c ls) (A' : Option Addr) (n' c' : Nat) (sp : List SpanL) (h' : SlR w (fun _ => True) A' n' c' sp) (hq : Quarter w) :
    Calls Tryd.prog 3 #[.slice A n c, .slice A' n' c'] w fun e w' => e = .returned (.bool true) ∧ Below w.heap.size w w' := by
  have HQ := Lib.hid hq
  have q := Below.refl w.heap.size w
  clear hq
  go_enter Tryd.func3, Tryd.ntmps3
  go_wp2_with fail
  refine (awake13 w HQ.out).mono ?_
  rintro e w_1 ⟨rfl, hb_1⟩
  have h := h.below hb_1
  have h' := h'.below hb_1
  have q := q.trans (hb_1.mono q.size)
  clear hb_1
  go_wp2_with fail
  refine (fewents_any w_1 _ A n c ls 60 h (by omega)).mono ?_
  rintro e w_2 ⟨A2, n2, c2, rfl, ho2, hb_2⟩
  have h := h.below hb_2
  have h' := h'.below hb_2
  have q := q.trans (hb_2.mono q.size)
  clear hb_2
  have h2 := ho2.sl
  have hfb := fewe_bounds ls 60
  generalize fewEnts ls 60 = fs at *
  clear ho2 h
  have hm2 : n2 ≤ 60 := by have := hfb.1; have := h2.lenR; omega
  go_wp2_with fail
  refine (rsort_any _ _ A2 n2 c2 fs h2 (by omega)).mono ?_
  rintro e w_3 ⟨A3, n3, c3, rfl, ho3, hb_3⟩
  have h' := h'.below hb_3
  have q := q.trans (hb_3.mono q.size)
  have h2 := h2.below hb_3
  clear hb_3
  have h3 := ho3.sl
  obtain ⟨hrise, hgood, hlen⟩ := sortL_good fs
  have hl3 : (sortL fs).length ≤ 60 := by have := hfb.1; omega
  clear hfb h2 ho3 hlen hm2
  generalize sortL fs = L at *
  go_wp2_with fail
  refine (fewspans_any _ _ A' n' c' sp 20 h' (by omega)).mono ?_
  rintro e w_4 ⟨A4, n4, c4, rfl, ho4, hb_4⟩
  have h' := h'.below hb_4
  have q := q.trans (hb_4.mono q.size)
  have h3 := h3.below hb_4
  clear hb_4
  have h4 := ho4.sl
  have hfs := fews_bounds sp 20
  generalize fewSpans sp 20 = ss at *
  clear ho4 h'
  have hm4 : n4 ≤ 20 := by have := hfs.1; have := h4.lenR; omega
  go_wp2_with fail
  refine (right_spans _ _ A4 n4 c4 ss h4 (by omega)).mono ?_
  rintro e w_5 ⟨A5, n5, c5, rfl, ho5, hb_5⟩
  have q := q.trans (hb_5.mono q.size)
  have h3 := h3.below hb_5
  have h4 := h4.below hb_5
  clear hb_5
  have h5 := ho5.sl
  have hl5 := (right_bounds hfs.1 hfs.2).1
  have hright : ∀ s ∈ rightSpans ss, checkSpanL s = 0 := fun s hs => by
    unfold rightSpans at hs
    simpa using (List.mem_filter.1 hs).2
  clear hfs h4 ho5 hm4
  generalize rightSpans ss = S at *
  have hck := check_right hrise hgood hright (by omega) (by omega)
  clear hrise hgood hright
  have hn3 := h3.lenR
  have hn5 := h5.lenR
  have cb := fun w' (h : SlR w' (fun _ => True) A3 n3 c3 L) (h' : SlR w' (fun _ => True) A5 n5 c5 S) hq => tbuild_any w' _ A3 n3 c3 L h _ A5 n5 c5 S h' hq
  by_cases hz : L.length + S.length = 0
  case pos =>
    rw [if_pos hz] at hck
    have e1 : tabBE L S = ([], 2) := by unfold tabBE; rw [if_neg (by omega), hck]
    rw [e1] at cb
    unfold GotBE at cb
    simp only at cb
    obtain rfl : n3 = 0 := by omega
    obtain rfl : n5 = 0 := by omega
    have Cb := Lib.hid cb
    clear cb e1 hck hz hn3 hn5
    go_wp2_with fail
    refine (Cb.out _ h3 h5 (HQ.out.below q)).mono ?_
    rintro e w9 ⟨A9, n9, c9, rfl, _, hb⟩
    have q := q.trans (hb.mono q.size)
    clear h3 h5 Cb
    go_wp2
    go_ret
    exact ⟨rfl, q⟩
  rw [if_neg hz] at hck
  have e1 : tabBE L S = (tabBytesL L S, 0) := by unfold tabBE; rw [if_pos hck]
  rw [e1] at cb
  have hlen := tab_len2 hck
  have hle : (tabBytesL L S).length ≤ 65536 := by unfold leafCount at hlen; omega
  unfold GotBE at cb
  simp only at cb
  have z0 : ((n3 : Int) + (n5 : Int) == 0) = false := by simp; omega
  obtain ⟨m, hm⟩ : ∃ m, n3 + n5 = m := ⟨_, rfl⟩
  have em : (n3 : Int) + (n5 : Int) = (m : Int) := by omega
  have zm : ((m : Int) == 0) = false := by simp; omega
  have hnb3 : n3 ≤ 60 := by omega
  have hnb5 : n5 ≤ 20 := by omega
  have Cb := Lib.hid cb
  have Hck := Lib.hid hck
  have Hle := Lib.hid hle
  clear cb e1 hlen hck hle hz hn3 hn5 hm hl3 hl5
  go_wp2_with fail
  refine (Cb.out _ h3 h5 (HQ.out.below q)).mono ?_
  rintro e w_6 ⟨A6, n6, c6, rfl, ho6, hb_6⟩
  have q := q.trans (hb_6.mono q.size)
  have h3 := h3.below hb_6
  have h5 := h5.below hb_6
  clear hb_6
  have s6 := OwnB.sl ho6
  have hl6 := s6.lenb
  clear ho6 Cb
  go_wp2_with fail
  have hle6 : n6 ≤ 65536 := by have := Hle.out; omega
  refine (topen_any _ A6 n6 c6 _ s6 (HQ.out.below q) hle6).mono ?_
  rintro e w8 ⟨hb, ⟨g, l', sp', hc', hp', rfl, hT⟩ | ⟨hno, rfl⟩⟩
  case inr => exact absurd rfl (hno _ _ Hck.out)
  obtain ⟨rfl, rfl⟩ := tab_one Hck.out hc' hp'
  have h3 := h3.below hb
  have h5 := h5.below hb
  have q := q.trans (hb.mono q.size)
  clear hb s6 hp' hc' hl6
  go_wp2_with fail
  refine (tabents_any _ _ g _ _ Hck.out hT Hle.out (HQ.out.below q)).mono ?_
  rintro e w_7 ⟨A7, n7, c7, rfl, h7, hb_7⟩
  have q := q.trans (hb_7.mono q.size)
  have h3 := h3.below hb_7
  have h5 := h5.below hb_7
  have hT := hT.below hb_7
  clear hb_7
  go_wp2_with fail
  refine (sents_is13 _ _ A7 n7 c7 _ h7 _ A3 n3 c3 h3).mono ?_
  rintro e w_8 ⟨rfl, hb_8⟩
  have q := q.trans (hb_8.mono q.size)
  have h3 := h3.below hb_8
  have h5 := h5.below hb_8
  have hT := hT.below hb_8
  have h7 := h7.below hb_8
  clear hb_8
  clear h7 h3
  go_wp2_with fail
  refine (tabspans_any _ _ g _ _ Hck.out hT).mono ?_
  rintro e w_9 ⟨A8, n8, c8, rfl, h8, hb_9⟩
  have q := q.trans (hb_9.mono q.size)
  have h5 := h5.below hb_9
  have hT := hT.below hb_9
  clear hb_9
  clear hT
  go_wp2_with fail
  refine (sspans_is _ _ A8 n8 c8 _ h8 _ A5 n5 c5 h5).mono ?_
  rintro e w_10 ⟨rfl, hb_10⟩
  have q := q.trans (hb_10.mono q.size)
  have h5 := h5.below hb_10
  have h8 := h8.below hb_10
  clear hb_10
  clear h8 h5
  go_wp2
  go_ret
  exact ⟨rfl, q⟩
end Go.Proofs.YtpffieogkfndaaaDoor
