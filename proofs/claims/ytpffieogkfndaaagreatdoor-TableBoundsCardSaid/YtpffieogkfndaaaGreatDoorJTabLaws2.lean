/-
  TabRight, TabLaws1, TabLaws4, TabLaws2 in one text. No condition but sizes.
-/
import Derived.Test.YtpffieogkfndaaaGreatDoorJTabAwake
import Derived.Test.YtpffieogkfndaaaGreatDoorJTabOpenW
import Derived.Test.YtpffieogkfndaaaGreatDoorSpanSame
import Derived.Test.YtpffieogkfndaaaGreatDoorJRowsZ
import Derived.Test.YtpffieogkfndaaaGreatDoorJTabOpenP
import Derived.Test.YtpffieogkfndaaaGreatDoorJSealLaws1
import Derived.Test.YtpffieogkfndaaaGreatDoorJTabByte
namespace Go.Proofs.YtpffieogkfndaaaGreatDoor
open Go.RowKit
set_option maxRecDepth 20000
set_option linter.unusedVariables false
set_option linter.unusedSimpArgs false
theorem sents_is13 (w : World) (p : Nat → Prop) (A : Option Addr) (n c : Nat) (ls : List EntL) (h : SlR w p A n c ls) (p' : Nat → Prop) (A' : Option Addr) (n' c' : Nat) (h' : SlR w p' A' n' c' ls) :
    Calls Tryz.prog 16 #[.slice A n c, .slice A' n' c'] w fun e w' => e = .returned (.bool true) ∧ Below w.heap.size w w' := by
  have := sents_any w p A n c ls h p' A' n' c' ls h'
  simpa using this
theorem sspans_is (w : World) (p : Nat → Prop) (A : Option Addr) (n c : Nat) (ls : List SpanL) (h : SlR w p A n c ls) (p' : Nat → Prop) (A' : Option Addr) (n' c' : Nat) (h' : SlR w p' A' n' c' ls) :
    Calls Tryz.prog 17 #[.slice A n c, .slice A' n' c'] w fun e w' => e = .returned (.bool true) ∧ Below w.heap.size w w' := by
  have := rsamespans_any w p A n c ls h p' A' n' c' ls h'
  simpa using this
theorem fews_bounds (ls : List SpanL) (k : Nat) : (fewSpans ls k).length ≤ k ∧ ∀ s ∈ fewSpans ls k, s.lo.length ≤ 80 ∧ s.hi.length ≤ 80 := by
  refine ⟨fewSpans_len ls k, fun s hs => ?_⟩
  unfold fewSpans at hs
  obtain ⟨x, _, rfl⟩ := List.mem_map.1 hs
  simp only [List.length_take]
  omega
theorem fews_id {ls : List SpanL} {k : Nat} (h1 : ls.length ≤ k) (h2 : ∀ s ∈ ls, s.lo.length ≤ 80 ∧ s.hi.length ≤ 80) : fewSpans ls k = ls := by
  unfold fewSpans
  rw [List.take_of_length_le h1]
  conv => rhs; rw [← List.map_id ls]
  refine List.map_congr_left fun s hs => ?_
  obtain ⟨a, b⟩ := h2 s hs
  rw [List.take_of_length_le a, List.take_of_length_le b]
  rfl
theorem right_bounds {ls : List SpanL} {k : Nat} (h1 : ls.length ≤ k) (h2 : ∀ s ∈ ls, s.lo.length ≤ 80 ∧ s.hi.length ≤ 80) : (rightSpans ls).length ≤ k ∧ ∀ s ∈ rightSpans ls, s.lo.length ≤ 80 ∧ s.hi.length ≤ 80 := by
  unfold rightSpans
  exact ⟨Nat.le_trans (List.length_filter_le _ _) h1, fun s hs => h2 s (List.mem_filter.1 hs).1⟩
theorem check_right {l : List EntL} {sp : List SpanL} (h1 : Rises l) (h2 : ∀ x ∈ l, checkEntL x = 0) (h3 : ∀ s ∈ sp, checkSpanL s = 0) (hl : l.length ≤ 1000) (hs : sp.length ≤ 1000) : checkTabL l sp = if l.length + sp.length = 0 then 2 else 0 := by
  unfold checkTabL
  rw [if_neg (by omega)]
  split
  · rfl
  · rw [(firstErr_zero checkEntL l).2 h2, if_neg (by omega), if_pos ((rises_pair l).2 h1), (firstErr_zero checkSpanL sp).2 h3]
theorem noTab_nil : NoTab [] := fun l sp _ hp => by
  have h := congrArg List.length hp
  unfold tabBytesL partsL at h
  rw [List.length_append, footL_len] at h
  simp at h
end Go.Proofs.YtpffieogkfndaaaGreatDoor

namespace Go.Proofs.YtpffieogkfndaaaGreatDoor
open Go.RowKit
set_option maxRecDepth 20000
set_option linter.unusedVariables false
set_option linter.unusedSimpArgs false
set_option maxHeartbeats 16000000 in
theorem tableBuilds.walk (w : World) (A : Option Addr) (n c : Nat) (ls : List EntL) (h : SlR w (fun _ => True) A n c ls) (A' : Option Addr) (n' c' : Nat) (sp : List SpanL) (h' : SlR w (fun _ => True) A' n' c' sp) (b : Bool) (hq : Quarter w) :
    Calls Tryz.prog 3 #[.slice A n c, .slice A' n' c', .bool b] w fun e w' => e = .returned (.bool true) ∧ Below w.heap.size w w' := by
  have HQ := Lib.hid hq
  have q := Below.refl w.heap.size w
  clear hq
  go_enter Tryz.func3, Tryz.ntmps3
  go_wp2_with fail
  refine (awake13 w HQ.out).mono ?_
  rintro e w_1 ⟨rfl, hb_1⟩
  have h := h.below hb_1
  have h' := h'.below hb_1
  have q := q.trans (hb_1.mono q.size)
  clear hb_1
  go_wp2_with fail
  refine (fewents_any w_1 _ A n c ls 40 h (by omega)).mono ?_
  rintro e w_2 ⟨A2, n2, c2, rfl, ho2, hb_2⟩
  have h := h.below hb_2
  have h' := h'.below hb_2
  have q := q.trans (hb_2.mono q.size)
  clear hb_2
  have h2 := ho2.sl
  have hfb := fewe_bounds ls 40
  generalize fewEnts ls 40 = fs at *
  clear ho2 h
  go_wp2_with fail
  refine (fewspans_any w_2 _ A' n' c' sp 20 h' (by omega)).mono ?_
  rintro e w_3 ⟨A3, n3, c3, rfl, ho3, hb_3⟩
  have h' := h'.below hb_3
  have q := q.trans (hb_3.mono q.size)
  have h2 := h2.below hb_3
  clear hb_3
  have h3 := ho3.sl
  have hfs := fews_bounds sp 20
  generalize fewSpans sp 20 = ss at *
  clear ho3 h'
  cases b
  case false =>
    have ht := h2.lenR
    have ht3 := h3.lenR
    have hB := hfb.2
    have hm : n2 ≤ 40 := by have := hfb.1; omega
    have hfi := fews_id hfs.1 hfs.2
    have Hfi := Lib.hid hfi
    clear hfb ht ht3 hfi hfs
    go_wp2_with fail
    refine (twins_any _ _ A2 n2 c2 fs h2 (by omega) (fun e he => by have := hB e he; omega)).mono ?_
    rintro e w_21 ⟨A5, n5, c5, rfl, ho5, hb_21⟩
    have q := q.trans (hb_21.mono q.size)
    have h2 := h2.below hb_21
    have h3 := h3.below hb_21
    clear hb_21
    have h5 := ho5.sl
    clear ho5 hB
    have kf := fun w' (h : SlR w' (fun _ => True) A3 n3 c3 ss) => fewspans_any w' _ A3 n3 c3 ss 20 h (by omega)
    rw [Hfi.out] at kf
    have Kf := Lib.hid kf
    clear kf Hfi
    go_wp2_with fail
    refine (Kf.out _ h3).mono ?_
    rintro e w_22 ⟨A6, n6, c6, rfl, ho6, hb_22⟩
    have q := q.trans (hb_22.mono q.size)
    have h2 := h2.below hb_22
    have h3 := h3.below hb_22
    have h5 := h5.below hb_22
    clear hb_22
    have h6 := ho6.sl
    clear ho6 Kf
    have cb := fun w' A n c p (h : SlR w' p A n c fs) A' n' c' p' (h' : SlR w' p' A' n' c' ss) hq => tbuild_any w' p A n c fs h p' A' n' c' ss h' hq
    have cr := fun w' A n c p (h : SlR w' p A n c fs) A' n' c' p' (h' : SlR w' p' A' n' c' ss) => rtbuild_any w' p A n c fs h p' A' n' c' ss h'
    generalize (tabBE fs ss).1 = pb at *
    generalize (tabBE fs ss).2 = r at *
    unfold GotBE at cb cr
    have Cb := Lib.hid cb
    have Cr := Lib.hid cr
    clear cb cr
    go_wp2_with fail
    refine (Cb.out _ A5 n5 c5 _ h5 A6 n6 c6 _ h6 (HQ.out.below q)).mono ?_
    rintro e w_23 ⟨A7, n7, c7, rfl, ho7, hb_23⟩
    have q := q.trans (hb_23.mono q.size)
    have h2 := h2.below hb_23
    have h3 := h3.below hb_23
    have h5 := h5.below hb_23
    have h6 := h6.below hb_23
    clear hb_23
    have s7 := OwnB.sl (l := pb) ho7
    clear ho7 Cb
    go_wp2_with fail
    refine (Cr.out _ A2 n2 c2 _ h2 A3 n3 c3 _ h3).mono ?_
    rintro e w_24 ⟨A8, n8, c8, rfl, ho8, hb_24⟩
    have q := q.trans (hb_24.mono q.size)
    have h2 := h2.below hb_24
    have h3 := h3.below hb_24
    have h5 := h5.below hb_24
    have h6 := h6.below hb_24
    have s7 := s7.below (by omega) hb_24
    clear hb_24
    have s8 := OwnB.sl (l := pb) ho8
    clear ho8 Cr
    have hrr : ((r : Int) == (r : Int)) = true := by simp
    go_wp2_with fail
    refine (same_is _ A7 n7 c7 _ A8 n8 c8 _ true (by unfold Hid; simp) s7 s8).mono ?_
    rintro e w' ⟨rfl, rfl⟩
    clear s7 s8
    go_wp2_with fail
    refine (sents_is13 _ _ A5 n5 c5 _ h5 _ A2 n2 c2 h2).mono ?_
    rintro e w_25 ⟨rfl, hb_25⟩
    have q := q.trans (hb_25.mono q.size)
    have h2 := h2.below hb_25
    have h3 := h3.below hb_25
    have h5 := h5.below hb_25
    have h6 := h6.below hb_25
    clear hb_25
    clear h5 h2
    go_wp2_with fail
    refine (sspans_is _ _ A6 n6 c6 _ h6 _ A3 n3 c3 h3).mono ?_
    rintro e w_26 ⟨rfl, hb_26⟩
    have q := q.trans (hb_26.mono q.size)
    have h3 := h3.below hb_26
    have h6 := h6.below hb_26
    clear hb_26
    clear h6 h3
    go_wp2
    go_ret
    exact ⟨rfl, q⟩
  case true =>
    have hm : n2 ≤ 40 := by have := hfb.1; have := h2.lenR; omega
    have hm3 : n3 ≤ 20 := by have := hfs.1; have := h3.lenR; omega
    go_wp2_with fail
    refine (rsort_any _ _ A2 n2 c2 fs h2 (by omega)).mono ?_
    rintro e w_21 ⟨A9, n9, c9, rfl, ho9, hb_21⟩
    have q := q.trans (hb_21.mono q.size)
    have h2 := h2.below hb_21
    have h3 := h3.below hb_21
    clear hb_21
    have h9 := ho9.sl
    obtain ⟨_, hgood, hlen⟩ := sortL_good fs
    have hfb2 : (sortL fs).length ≤ 40 ∧ ∀ e ∈ sortL fs, e.key.user.length ≤ 80 ∧ e.value.length ≤ 600 := ⟨by have := hfb.1; omega, fun e he => by
      have h1 := checkEnt_zero (hgood e he)
      have h2 := checkKey_bounds h1.1
      omega⟩
    clear hfb h2 ho9 hgood hlen hm
    generalize sortL fs = fs2 at *
    have hfb := hfb2
    clear hfb2
    go_wp2_with fail
    refine (right_spans _ _ A3 n3 c3 ss h3 (by omega)).mono ?_
    rintro e w_22 ⟨A10, n10, c10, rfl, ho10, hb_22⟩
    have q := q.trans (hb_22.mono q.size)
    have h3 := h3.below hb_22
    have h9 := h9.below hb_22
    clear hb_22
    have h10 := ho10.sl
    have hfs2 := right_bounds hfs.1 hfs.2
    clear hfs h3 ho10 hm3
    generalize rightSpans ss = ss2 at *
    have hfs := hfs2
    clear hfs2
    have h2 := h9
    have h3 := h10
    clear h9 h10
    have ht := h2.lenR
    have ht3 := h3.lenR
    have hB := hfb.2
    have hm : n9 ≤ 40 := by have := hfb.1; omega
    have hfi := fews_id hfs.1 hfs.2
    have Hfi := Lib.hid hfi
    clear hfb ht ht3 hfi hfs
    go_wp2_with fail
    refine (twins_any _ _ A9 n9 c9 fs2 h2 (by omega) (fun e he => by have := hB e he; omega)).mono ?_
    rintro e w_41 ⟨A5, n5, c5, rfl, ho5, hb_41⟩
    have q := q.trans (hb_41.mono q.size)
    have h2 := h2.below hb_41
    have h3 := h3.below hb_41
    clear hb_41
    have h5 := ho5.sl
    clear ho5 hB
    have kf := fun w' (h : SlR w' (fun _ => True) A10 n10 c10 ss2) => fewspans_any w' _ A10 n10 c10 ss2 20 h (by omega)
    rw [Hfi.out] at kf
    have Kf := Lib.hid kf
    clear kf Hfi
    go_wp2_with fail
    refine (Kf.out _ h3).mono ?_
    rintro e w_42 ⟨A6, n6, c6, rfl, ho6, hb_42⟩
    have q := q.trans (hb_42.mono q.size)
    have h2 := h2.below hb_42
    have h3 := h3.below hb_42
    have h5 := h5.below hb_42
    clear hb_42
    have h6 := ho6.sl
    clear ho6 Kf
    have cb := fun w' A n c p (h : SlR w' p A n c fs2) A' n' c' p' (h' : SlR w' p' A' n' c' ss2) hq => tbuild_any w' p A n c fs2 h p' A' n' c' ss2 h' hq
    have cr := fun w' A n c p (h : SlR w' p A n c fs2) A' n' c' p' (h' : SlR w' p' A' n' c' ss2) => rtbuild_any w' p A n c fs2 h p' A' n' c' ss2 h'
    generalize (tabBE fs2 ss2).1 = pb at *
    generalize (tabBE fs2 ss2).2 = r at *
    unfold GotBE at cb cr
    have Cb := Lib.hid cb
    have Cr := Lib.hid cr
    clear cb cr
    go_wp2_with fail
    refine (Cb.out _ A5 n5 c5 _ h5 A6 n6 c6 _ h6 (HQ.out.below q)).mono ?_
    rintro e w_43 ⟨A7, n7, c7, rfl, ho7, hb_43⟩
    have q := q.trans (hb_43.mono q.size)
    have h2 := h2.below hb_43
    have h3 := h3.below hb_43
    have h5 := h5.below hb_43
    have h6 := h6.below hb_43
    clear hb_43
    have s7 := OwnB.sl (l := pb) ho7
    clear ho7 Cb
    go_wp2_with fail
    refine (Cr.out _ A9 n9 c9 _ h2 A10 n10 c10 _ h3).mono ?_
    rintro e w_44 ⟨A8, n8, c8, rfl, ho8, hb_44⟩
    have q := q.trans (hb_44.mono q.size)
    have h2 := h2.below hb_44
    have h3 := h3.below hb_44
    have h5 := h5.below hb_44
    have h6 := h6.below hb_44
    have s7 := s7.below (by omega) hb_44
    clear hb_44
    have s8 := OwnB.sl (l := pb) ho8
    clear ho8 Cr
    have hrr : ((r : Int) == (r : Int)) = true := by simp
    go_wp2_with fail
    refine (same_is _ A7 n7 c7 _ A8 n8 c8 _ true (by unfold Hid; simp) s7 s8).mono ?_
    rintro e w' ⟨rfl, rfl⟩
    clear s7 s8
    go_wp2_with fail
    refine (sents_is13 _ _ A5 n5 c5 _ h5 _ A9 n9 c9 h2).mono ?_
    rintro e w_45 ⟨rfl, hb_45⟩
    have q := q.trans (hb_45.mono q.size)
    have h2 := h2.below hb_45
    have h3 := h3.below hb_45
    have h5 := h5.below hb_45
    have h6 := h6.below hb_45
    clear hb_45
    clear h5 h2
    go_wp2_with fail
    refine (sspans_is _ _ A6 n6 c6 _ h6 _ A10 n10 c10 h3).mono ?_
    rintro e w_46 ⟨rfl, hb_46⟩
    have q := q.trans (hb_46.mono q.size)
    have h3 := h3.below hb_46
    have h6 := h6.below hb_46
    clear hb_46
    clear h6 h3
    go_wp2
    go_ret
    exact ⟨rfl, q⟩
end Go.Proofs.YtpffieogkfndaaaGreatDoor

namespace Go.Proofs.YtpffieogkfndaaaGreatDoor
open Go.RowKit
set_option maxRecDepth 20000
set_option linter.unusedVariables false
set_option linter.unusedSimpArgs false
/-- a table of what is right among these, and the document's; or neither -/
def GotMake (w : World) (e : Ending) (w' : World) : Prop := Below w.heap.size w w' ∧ (e = .returned (.tuple #[.pointer none, .pointer none]) ∨
  ∃ L S g g2, checkTabL L S = 0 ∧ (tabBytesL L S).length ≤ 65536 ∧ e = .returned (.tuple #[.pointer (some ⟨g, 0, none⟩), .pointer (some ⟨g2, 0, none⟩)]) ∧ TabIs w' w.heap.size g L S)
theorem TabIs.low {w : World} {B B' g : Nat} {l : List EntL} {sp : List SpanL} (h : TabIs w B g l sp) (hB : B' ≤ B) : TabIs w B' g l sp := by
  obtain ⟨A, n, c, Ap, np, cp, Af, nf, cf, g2, b1, b2, cs, s, r, f, t, u, v⟩ := h
  exact ⟨A, n, c, Ap, np, cp, Af, nf, cf, g2, by omega, by omega, cs, s, r.mono fun b _ hb => by have h2 : B ≤ b := hb; omega, f, t, fun b hn q => by have := u b hn q; omega, fun b hn q => by have := v b hn q; omega⟩
set_option maxHeartbeats 16000000 in
theorem make2_any (w : World) (A : Option Addr) (n c : Nat) (ls : List EntL) (h : SlR w (fun _ => True) A n c ls) (A' : Option Addr) (n' c' : Nat) (sp : List SpanL) (h' : SlR w (fun _ => True) A' n' c' sp) (hq : Quarter w) :
    Calls Tryz.prog 18 #[.slice A n c, .slice A' n' c'] w (GotMake w) := by
  have HQ := Lib.hid hq
  have q := Below.refl w.heap.size w
  clear hq
  unfold GotMake
  go_enter Tryz.func18, Tryz.ntmps18
  go_wp2_with fail
  refine (fewents_any w _ A n c ls 60 h (by omega)).mono ?_
  rintro e w_1 ⟨A2, n2, c2, rfl, ho2, hb_1⟩
  have h := h.below hb_1
  have h' := h'.below hb_1
  have q := q.trans (hb_1.mono q.size)
  clear hb_1
  have h2 := ho2.sl
  have hfb := fewe_bounds ls 60
  generalize fewEnts ls 60 = fs at *
  clear ho2 h
  have hm2 : n2 ≤ 60 := by have := hfb.1; have := h2.lenR; omega
  go_wp2_with fail
  refine (rsort_any _ _ A2 n2 c2 fs h2 (by omega)).mono ?_
  rintro e w_2 ⟨A3, n3, c3, rfl, ho3, hb_2⟩
  have h' := h'.below hb_2
  have q := q.trans (hb_2.mono q.size)
  have h2 := h2.below hb_2
  clear hb_2
  have h3 := ho3.sl
  obtain ⟨hrise, hgood, hlen⟩ := sortL_good fs
  have hl3 : (sortL fs).length ≤ 60 := by have := hfb.1; omega
  clear hfb h2 ho3 hlen hm2
  generalize sortL fs = L at *
  go_wp2_with fail
  refine (fewspans_any _ _ A' n' c' sp 20 h' (by omega)).mono ?_
  rintro e w_3 ⟨A4, n4, c4, rfl, ho4, hb_3⟩
  have h' := h'.below hb_3
  have q := q.trans (hb_3.mono q.size)
  have h3 := h3.below hb_3
  clear hb_3
  have h4 := ho4.sl
  have hfs := fews_bounds sp 20
  generalize fewSpans sp 20 = ss at *
  clear ho4 h'
  have hm4 : n4 ≤ 20 := by have := hfs.1; have := h4.lenR; omega
  go_wp2_with fail
  refine (right_spans _ _ A4 n4 c4 ss h4 (by omega)).mono ?_
  rintro e w_4 ⟨A5, n5, c5, rfl, ho5, hb_4⟩
  have q := q.trans (hb_4.mono q.size)
  have h3 := h3.below hb_4
  have h4 := h4.below hb_4
  clear hb_4
  have h5 := ho5.sl
  have hl5 := (right_bounds hfs.1 hfs.2).1
  have hright : ∀ s ∈ rightSpans ss, checkSpanL s = 0 := fun s hs => by
    unfold rightSpans at hs
    simpa using (List.mem_filter.1 hs).2
  clear hfs h4 ho5 hm4
  generalize rightSpans ss = S at *
  have hck := check_right hrise hgood hright (by omega) (by omega)
  clear hrise hgood hright
  have cr := fun w' (h : SlR w' (fun _ => True) A3 n3 c3 L) (h' : SlR w' (fun _ => True) A5 n5 c5 S) => rtbuild_any w' _ A3 n3 c3 L h _ A5 n5 c5 S h'
  by_cases hz : L.length + S.length = 0
  case pos =>
    rw [if_pos hz] at hck
    have e1 : tabBE L S = ([], 2) := by unfold tabBE; rw [if_neg (by omega), hck]
    rw [e1] at cr
    unfold GotBE at cr
    simp only at cr
    have Cr := Lib.hid cr
    clear cr e1 hck hz
    go_wp2_with fail
    refine (Cr.out _ h3 h5).mono ?_
    rintro e w9 ⟨A9, n9, c9, rfl, ho9, hb⟩
    have q := q.trans (hb.mono q.size)
    have s9 := OwnB.sl ho9
    obtain rfl : n9 = 0 := by have := OwnB.len' ho9; simpa using this.symm
    clear h3 h5 Cr ho9
    go_wp2_with fail
    refine (topen_any _ A9 0 c9 [] s9 (HQ.out.below q) (by omega)).mono ?_
    rintro e w8 ⟨hb, ⟨g, l', sp', hc', hp', rfl, hT⟩ | ⟨hno, rfl⟩⟩
    case inl => exact absurd hp' (noTab_nil _ _ hc')
    have q := q.trans (hb.mono q.size)
    go_wp2
    refine bodyPost_ret (v := .tuple #[.pointer none, .pointer none]) (by simp [results, Tryz.results18, go_sem]) rfl ?_
    exact ⟨q, .inl rfl⟩
  rw [if_neg hz] at hck
  have e1 : tabBE L S = (tabBytesL L S, 0) := by unfold tabBE; rw [if_pos hck]
  rw [e1] at cr
  have hlen := tab_len2 hck
  have hle : (tabBytesL L S).length ≤ 65536 := by unfold leafCount at hlen; omega
  unfold GotBE at cr
  simp only at cr
  have Cr := Lib.hid cr
  have Hck := Lib.hid hck
  have Hle := Lib.hid hle
  clear cr e1 hlen hck hle hz hl3 hl5
  go_wp2_with fail
  refine (Cr.out _ h3 h5).mono ?_
  rintro e w_5 ⟨A6, n6, c6, rfl, ho6, hb_5⟩
  have q := q.trans (hb_5.mono q.size)
  have h3 := h3.below hb_5
  have h5 := h5.below hb_5
  clear hb_5
  have s6 := OwnB.sl ho6
  have hl6 := s6.lenb
  clear ho6 Cr h3 h5
  go_wp2_with fail
  have hle6 : n6 ≤ 65536 := by have := Hle.out; omega
  have hqs := q.size
  refine (topen_any _ A6 n6 c6 _ s6 (HQ.out.below q) hle6).mono ?_
  rintro e w8 ⟨hb, ⟨g, l', sp', hc', hp', rfl, hT⟩ | ⟨hno, rfl⟩⟩
  case inr => exact absurd rfl (hno _ _ Hck.out)
  obtain ⟨rfl, rfl⟩ := tab_one Hck.out hc' hp'
  have q := q.trans (hb.mono q.size)
  have hT := hT.low hqs
  have hb2 := (Below.refl w8.heap.size w8).alloc (Nat.le_refl _) (.cells #[.slice A3 n3 c3, .slice A5 n5 c5] 64)
  have HT := Lib.hid (hT.below hb2)
  have Q := Lib.hid (q.trans (hb2.mono q.size))
  clear hb s6 hp' hc' hl6 hT hb2 q
  go_wp2
  refine bodyPost_ret (v := .tuple #[.pointer (some ⟨g, 0, none⟩), .pointer (some ⟨w8.heap.size, 0, none⟩)]) (by simp [results, Tryz.results18, go_sem]) rfl ?_
  exact ⟨Q.out, .inr ⟨_, _, g, _, Hck.out, Hle.out, rfl, HT.out⟩⟩
set_option maxHeartbeats 16000000 in
theorem tableBounds.walk (w : World) (A : Option Addr) (n c : Nat) (ls : List EntL) (h : SlR w (fun _ => True) A n c ls) (A' : Option Addr) (n' c' : Nat) (sp : List SpanL) (h' : SlR w (fun _ => True) A' n' c' sp) (KA : Option Addr) (k ck : Nat) (key : List UInt8) (hk : Sl w 1 KA k ck (bc key)) (hq : Quarter w) :
    Calls Tryz.prog 4 #[.slice A n c, .slice A' n' c', .slice KA k ck] w fun e w' => e = .returned (.bool true) ∧ Below w.heap.size w w' := by
  have HQ := Lib.hid hq
  have q := Below.refl w.heap.size w
  clear hq
  go_enter Tryz.func4, Tryz.ntmps4
  go_wp2_with fail
  refine (awake13 w HQ.out).mono ?_
  rintro e w_1 ⟨rfl, hb_1⟩
  have h := h.below hb_1
  have h' := h'.below hb_1
  have q := q.trans (hb_1.mono q.size)
  have hk := hk.below (by omega) hb_1
  clear hb_1
  have km := make2_any w_1 A n c ls h A' n' c' sp h' (HQ.out.below q)
  unfold GotMake at km
  go_wp2_with fail
  refine km.mono ?_
  rintro e w2 ⟨hb, rfl | ⟨L, S, g, g2, hc, hle, rfl, hT⟩⟩
  · have q := q.trans (hb.mono q.size)
    clear km hk h h' hb
    go_wp2
    go_ret
    exact ⟨rfl, q⟩
  have hk := hk.below (by omega) hb
  have q := q.trans (hb.mono q.size)
  have Hc := Lib.hid hc
  have Hle := Lib.hid hle
  clear km h h' hb hc hle
  go_wp2_with fail
  refine (cut_any _ KA k ck key 80 hk (by omega)).mono ?_
  rintro e w_2 ⟨A3, n3, c3, rfl, ho3, hb_2⟩
  have q := q.trans (hb_2.mono q.size)
  have hk := hk.below (by omega) hb_2
  have hT := hT.below hb_2
  clear hb_2
  have s3 := OwnB.sl ho3
  have hl3 := s3.lenb
  have hk80 : n3 ≤ 80 := by rw [List.length_take] at hl3; omega
  clear ho3 hk hl3
  generalize key.take 80 = key at *
  go_wp2_with fail
  refine (tbounds_any _ _ g _ _ Hc.out hT Hle.out (HQ.out.below q)).mono ?_
  rintro e w_3 ⟨A4, n4, c4, A5, n5, c5, rfl, s4, s5, hb_3⟩
  have q := q.trans (hb_3.mono q.size)
  have hT := hT.below hb_3
  have s3 := s3.below (by omega) hb_3
  clear hb_3
  have kg := fun w' (hT : TabIs w' w_1.heap.size g L S) hq (s3 : Sl w' 1 A3 n3 c3 (bc key)) => tget_any w' w_1.heap.size g L S Hc.out hT Hle.out hq A3 n3 c3 key s3 (by omega) 72057594037927935
  have hw := fun h => get_within Hc.out (key := key) (seq := 72057594037927935) h
  obtain ⟨R, hR⟩ : ∃ R, getL L S key 72057594037927935 = R := ⟨_, rfl⟩
  rw [hR] at kg
  rw [hR] at hw
  rw [show (((72057594037927935 : UInt64).toNat : Nat) : Int) = 72057594037927935 from rfl] at kg
  unfold GotVal at kg
  have Kg := Lib.hid kg
  have Hw := Lib.hid hw
  clear kg hw hR
  go_wp2_with fail
  refine (Kg.out _ hT (HQ.out.below q) s3).mono ?_
  rintro e w_4 ⟨A6, n6, c6, rfl, _, hb_4⟩
  have q := q.trans (hb_4.mono q.size)
  have hT := hT.below hb_4
  have s3 := s3.below (by omega) hb_4
  have s4 := s4.below (by omega) hb_4
  have s5 := s5.below (by omega) hb_4
  clear hb_4
  clear Kg hT Hc Hle
  obtain ⟨r1, r2, r3⟩ := R
  simp only at Hw
  by_cases z : r3 = 0
  case pos =>
    subst z
    clear Hw s3 s4 s5
    go_wp2
    go_ret
    exact ⟨rfl, q⟩
  obtain ⟨y1, y2⟩ := Hw.out z
  have z1 : ((r3 : Int) == 0) = false := by simp; omega
  have z2 : ((r3 : Int) != 0) = true := by simp; omega
  have c1 := rless_is _ A3 n3 c3 _ s3 A4 n4 c4 _ s4 false (Lib.hid y1)
  have c2 := rless_is _ A3 n3 c3 _ s3 A5 n5 c5 _ s5 true (Lib.hid y2)
  have C1 := Lib.hid c1
  have C2 := Lib.hid c2
  clear c1 c2 y1 y2 Hw s3 s4 s5
  go_wp2_with fail
  refine C1.out.mono ?_
  rintro e w' ⟨rfl, rfl⟩
  go_wp2_with fail
  refine C2.out.mono ?_
  rintro e w' ⟨rfl, rfl⟩
  clear C1 C2
  go_wp2
  go_ret
  exact ⟨rfl, q⟩
end Go.Proofs.YtpffieogkfndaaaGreatDoor

namespace Go.Proofs.YtpffieogkfndaaaGreatDoor
open Go.RowKit
set_option maxRecDepth 20000
set_option linter.unusedVariables false
set_option linter.unusedSimpArgs false
theorem xor_ne (x b : Nat) (h : b ≠ 0) : x ^^^ b ≠ x := fun q => h (by
  have h1 := congrArg (x ^^^ ·) q
  simp only [← Nat.xor_assoc, Nat.xor_self, Nat.zero_xor] at h1
  exact h1)
set_option maxHeartbeats 16000000 in
theorem tableByte.walk (w : World) (A : Option Addr) (n c : Nat) (ls : List EntL) (h : SlR w (fun _ => True) A n c ls) (A' : Option Addr) (n' c' : Nat) (sp : List SpanL) (h' : SlR w (fun _ => True) A' n' c' sp) (at_ : Nat) (hat : at_ ≤ 65535) (by_ : Nat) (hby : by_ ≤ 255) (hq : Quarter w) :
    Calls Tryz.prog 5 #[.slice A n c, .slice A' n' c', .int .u16 (at_ : Int), .int .u8 (by_ : Int)] w fun e w' => e = .returned (.bool true) ∧ Below w.heap.size w w' := by
  have HQ := Lib.hid hq
  have q := Below.refl w.heap.size w
  clear hq
  go_enter Tryz.func5, Tryz.ntmps5
  go_wp2_with fail
  refine (awake13 w HQ.out).mono ?_
  rintro e w_1 ⟨rfl, hb_1⟩
  have h := h.below hb_1
  have h' := h'.below hb_1
  have q := q.trans (hb_1.mono q.size)
  clear hb_1
  by_cases z : by_ = 0
  case pos =>
    subst z
    clear h h'
    go_wp2_with fail
    refine (awake13 _ (HQ.out.below q)).mono ?_
    rintro e w9 ⟨rfl, hb⟩
    have q := q.trans (hb.mono q.size)
    go_wp2
    go_ret
    exact ⟨rfl, q⟩
  have z1 : ((by_ : Int) == 0) = false := by simp; omega
  go_wp2_with fail
  refine (fewents_any w_1 _ A n c ls 40 h (by omega)).mono ?_
  rintro e w_2 ⟨A2, n2, c2, rfl, ho2, hb_2⟩
  have h := h.below hb_2
  have h' := h'.below hb_2
  have q := q.trans (hb_2.mono q.size)
  clear hb_2
  have h2 := ho2.sl
  have hfb := fewe_bounds ls 40
  generalize fewEnts ls 40 = fs at *
  clear ho2 h
  have hm2 : n2 ≤ 40 := by have := hfb.1; have := h2.lenR; omega
  go_wp2_with fail
  refine (rsort_any _ _ A2 n2 c2 fs h2 (by omega)).mono ?_
  rintro e w_3 ⟨A3, n3, c3, rfl, ho3, hb_3⟩
  have h' := h'.below hb_3
  have q := q.trans (hb_3.mono q.size)
  have h2 := h2.below hb_3
  clear hb_3
  have h3 := ho3.sl
  obtain ⟨_, hgood, hlen⟩ := sortL_good fs
  have hl3 : (sortL fs).length ≤ 40 := by have := hfb.1; omega
  clear hfb h2 ho3 hgood hlen hm2
  generalize sortL fs = L at *
  go_wp2_with fail
  refine (fewspans_any _ _ A' n' c' sp 20 h' (by omega)).mono ?_
  rintro e w_4 ⟨A4, n4, c4, rfl, ho4, hb_4⟩
  have h' := h'.below hb_4
  have q := q.trans (hb_4.mono q.size)
  have h3 := h3.below hb_4
  clear hb_4
  have h4 := ho4.sl
  have hfs := fews_bounds sp 20
  generalize fewSpans sp 20 = ss at *
  clear ho4 h'
  have hm4 : n4 ≤ 20 := by have := hfs.1; have := h4.lenR; omega
  go_wp2_with fail
  refine (right_spans _ _ A4 n4 c4 ss h4 (by omega)).mono ?_
  rintro e w_5 ⟨A5, n5, c5, rfl, ho5, hb_5⟩
  have q := q.trans (hb_5.mono q.size)
  have h3 := h3.below hb_5
  have h4 := h4.below hb_5
  clear hb_5
  have h5 := ho5.sl
  have hl5 := (right_bounds hfs.1 hfs.2).1
  clear hfs h4 ho5 hm4
  generalize rightSpans ss = S at *
  have cr := fun w' (h : SlR w' (fun _ => True) A3 n3 c3 L) (h' : SlR w' (fun _ => True) A5 n5 c5 S) => rtbuild_any w' _ A3 n3 c3 L h _ A5 n5 c5 S h'
  by_cases hc : checkTabL L S = 0
  case neg =>
    have e1 : tabBE L S = ([], checkTabL L S) := by unfold tabBE; rw [if_neg hc]
    rw [e1] at cr
    unfold GotBE at cr
    simp only at cr
    generalize checkTabL L S = r at *
    have t1 : ((r : Int) == 0) = false := by simp; omega
    have t2 : ((r : Int) != 0) = true := by simp; omega
    have Cr := Lib.hid cr
    clear cr e1
    go_wp2_with fail
    refine (Cr.out _ h3 h5).mono ?_
    rintro e w9 ⟨A9, n9, c9, rfl, _, hb⟩
    have q := q.trans (hb.mono q.size)
    clear h3 h5
    go_wp2
    go_ret
    exact ⟨rfl, q⟩
  have e1 : tabBE L S = (tabBytesL L S, 0) := by unfold tabBE; rw [if_pos hc]
  rw [e1] at cr
  have hlen := tab_len2 hc
  have hle : (tabBytesL L S).length ≤ 65536 := by unfold leafCount at hlen; omega
  have hpos : 0 < (tabBytesL L S).length := by unfold tabBytesL partsL; rw [List.length_append, footL_len]; omega
  obtain ⟨P, hP⟩ : ∃ P, tabBytesL L S = P := ⟨_, rfl⟩
  rw [hP] at cr hle hpos
  have tb := fun k y hk hy l' sp' hc' => tab_byte hc hP (k := k) (y := y) hk hy (l' := l') (sp' := sp') hc'
  unfold GotBE at cr
  have Cr := Lib.hid cr
  have Tb := Lib.hid tb
  clear cr e1 hlen hP tb hc
  have hq5 := q.size
  go_wp2_with fail
  refine (Cr.out _ h3 h5).mono ?_
  rintro e w_6 ⟨A6, n6, c6, rfl, ho6, hb_6⟩
  have q := q.trans (hb_6.mono q.size)
  have h3 := h3.below hb_6
  have h5 := h5.below hb_6
  clear hb_6
  obtain rfl := OwnB.len' ho6
  obtain ⟨k, hk⟩ : ∃ k, at_ % P.length = k := ⟨_, rfl⟩
  have hkl : k < P.length := by rw [← hk]; exact Nat.mod_lt _ hpos
  obtain ⟨g, o, x, rfl, hg, hgl, hx, hcell, hfr⟩ := OwnB.place ho6 hkl
  have hxl := x.toNat_lt
  have hxor := u8_xor_nat x.toNat by_ (by omega) (by omega)
  have hv : x.toNat ^^^ by_ < 256 := Nat.xor_lt_two_pow (n := 8) (by omega) (by omega)
  have hst := OwnB.stored ho6 hkl (UInt8.ofNat (x.toNat ^^^ by_))
  rw [UInt8.toNat_ofNat_of_lt' (by simpa using hv)] at hst
  have hxe : P[k] = x := by
    rw [List.getElem?_eq_getElem hkl] at hx
    exact Option.some.inj hx
  have hyn : UInt8.ofNat (x.toNat ^^^ by_) ≠ P[k] := fun e => xor_ne x.toNat by_ z (by
    have h1 := congrArg UInt8.toNat e
    rw [hxe, UInt8.toNat_ofNat_of_lt' (by simpa using hv)] at h1
    exact h1)
  have hno := Tb.out k _ hkl hyn
  have sP := OwnB.sl hst
  have hqs := q.setCell (p := ⟨g, o + k, none⟩) (by show w.heap.size ≤ g; omega) (.int .u8 ((x.toNat ^^^ by_ : Nat) : Int))
  generalize UInt8.ofNat (x.toNat ^^^ by_) = y at *
  generalize hxn : x.toNat = xn at *
  generalize hxv : xn ^^^ by_ = xv at *
  have e1 : (at_ : Int) % (P.length : Int) = (k : Int) := by rw [← hk]; simp
  have e2 : Int.tmod (at_ : Int) (P.length : Int) = (k : Int) := by rw [Int.tmod_eq_emod_of_nonneg (Int.natCast_nonneg at_)]; exact e1
  have ne : ((P.length : Int) == 0) = false := by rw [beq_eq_false_iff_ne]; omega
  have Hno := Lib.hid hno
  have Hq := Lib.hid hqs
  have SP_ := Lib.hid sP
  have Hle := Lib.hid hle
  have Hk := Lib.hid hk
  clear hno hqs sP hst hyn hxe hx ho6 hxn hxv hk h3 h5 Cr Tb hle hl3 hl5 q
  generalize hpl : P.length = pl at *
  clear hpl
  go_wp2_with fail
  refine (topen_any _ (some ⟨g, o, none⟩) pl c6 (P.set k y) SP_.out (HQ.out.below Hq.out) Hle.out).mono ?_
  rintro e w8 ⟨hb, ⟨_, l', sp', hc', hp', rfl, _⟩ | ⟨_, rfl⟩⟩
  case inl => exact absurd hp' (Hno.out l' sp' hc')
  have q := Hq.out.trans (hb.mono Hq.out.size)
  clear Hno Hq SP_ hb
  go_wp2
  go_ret
  exact ⟨rfl, q⟩
end Go.Proofs.YtpffieogkfndaaaGreatDoor
