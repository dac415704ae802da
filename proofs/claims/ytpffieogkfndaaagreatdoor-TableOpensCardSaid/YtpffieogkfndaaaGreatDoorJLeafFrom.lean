/-
  TabIs, LeafFrom in one text. No condition but sizes.
-/
import Derived.Test.YtpffieogkfndaaaGreatDoorJTabBox
import Derived.Test.YtpffieogkfndaaaGreatDoorJSetWalk
import Derived.Test.YtpffieogkfndaaaGreatDoorJKeyBytesR
import Derived.Test.YtpffieogkfndaaaGreatDoorJLeafPlace
namespace Go.Proofs.YtpffieogkfndaaaGreatDoor
open Go.RowKit
set_option maxRecDepth 20000
set_option linter.unusedVariables false
set_option linter.unusedSimpArgs false
/-- the table of l and sp lies in block g; all that it points to lies from B on -/
def TabIs (w : World) (B g : Nat) (l : List EntL) (sp : List SpanL) : Prop :=
  ∃ (A : Option Addr) (n c : Nat) (Ap : Option Addr) (np cp : Nat) (Af : Option Addr) (nf cf g2 : Nat), B ≤ g ∧ B ≤ g2 ∧
    (w.cell? ⟨g, 0, none⟩ = some (.slice A n c) ∧ w.cell? ⟨g, 1, none⟩ = some (.slice Ap np cp) ∧ w.cell? ⟨g, 2, none⟩ = some (.slice Af nf cf) ∧ w.cell? ⟨g, 3, none⟩ = some (.pointer (some ⟨g2, 0, none⟩))) ∧
    Sl w 1 A n c (bc (tabBytesL l sp)) ∧ SlR w (fun b => B ≤ b) Ap np cp (pagesN l (leafCount l)) ∧ Sl w 1 Af nf cf (bc (buildL 10 (usersL l))) ∧ SetIs w g2 sp ∧
    (∀ b, 0 < n → A.map (·.block) = some b → B ≤ b) ∧ (∀ b, 0 < nf → Af.map (·.block) = some b → B ≤ b)
theorem TabIs.below {w w' : World} {B g : Nat} {l : List EntL} {sp : List SpanL} (h : TabIs w B g l sp) (hb : Below w.heap.size w w') : TabIs w' B g l sp := by
  obtain ⟨A, n, c, Ap, np, cp, Af, nf, cf, g2, b1, b2, ⟨c0, c1, c2, c3⟩, s, r, f, t, u, v⟩ := h
  exact ⟨A, n, c, Ap, np, cp, Af, nf, cf, g2, b1, b2, ⟨stays hb c0, stays hb c1, stays hb c2, stays hb c3⟩, s.below (by omega) hb, r.below hb, f.below (by omega) hb, t.below hb, u, v⟩
theorem pagesN_ok {l : List EntL} {sp : List SpanL} (hc : checkTabL l sp = 0) : (∀ x ∈ pagesN l (leafCount l), x.lo ≤ x.hi ∧ x.hi ≤ 1000000000000000) ∧ (pagesN l (leafCount l)).length ≤ 126 := by
  obtain ⟨c1, c2, c3, c4, c5, c6⟩ := checkTab_zero hc
  have hn : leafCount l ≤ 126 := by unfold leafCount; omega
  refine ⟨fun x hx => ?_, by simpa [pagesN] using hn⟩
  obtain ⟨i, hi, rfl⟩ := List.mem_map.1 hx
  have h1 := List.mem_range.1 hi
  have h2 := leaves_len c4 (i + 1)
  have h3 : (leavesN l (i + 1)).length = (leavesN l i).length + (sealedL l i).length := by rw [leavesN_succ, List.length_append]
  show (leavesN l i).length ≤ (leavesN l (i + 1)).length ∧ (leavesN l (i + 1)).length ≤ 1000000000000000
  omega
set_option maxHeartbeats 4000000 in
theorem tabents_any (w : World) (B g : Nat) (l : List EntL) (sp : List SpanL) (hc : checkTabL l sp = 0) (hT : TabIs w B g l sp) (hn : (tabBytesL l sp).length ≤ 65536) (hq : Quarter w) :
    Calls Tryz.prog 26 #[.pointer (some ⟨g, 0, none⟩)] w fun e w' => ∃ A n c, e = .returned (.slice A n c) ∧ SlR w' (fun b => w.heap.size ≤ b) A n c l ∧ Below w.heap.size w w' := by
  obtain ⟨A, n, c, Ap, np, cp, Af, nf, cf, g2, b1, b2, ⟨c0, c1, c2, c3⟩, s, r, f, t, u, v⟩ := hT
  obtain ⟨h1, h2⟩ := pagesN_ok hc
  have hnp : np ≤ 1000000 := by have := r.lenR; omega
  have hs := s.lenb
  have k := tentries_any w g A n c _ c0 s (by omega) hq _ Ap np cp _ c1 r h1 hnp
  obtain ⟨_, _, _, _, _, _, _, _, _, _, he⟩ := tab_fwd hc rfl
  rw [he] at k
  unfold GotLeaf at k
  simp only [Option.isSome, Option.getD] at k
  have K := Lib.hid k
  clear k he c0 c1 c2 c3 s r f t u v h1 h2 hs
  go_enter Tryz.func26, Tryz.ntmps26
  go_wp2_with fail
  refine K.out.mono ?_
  rintro e w1 ⟨A1, n1, c1, rfl, s1, hb1⟩
  have S1 := Lib.hid s1
  clear s1 K
  go_wp2
  go_ret
  exact ⟨A1, n1, c1, rfl, S1.out, hb1⟩
set_option maxHeartbeats 4000000 in
theorem tabspans_any (w : World) (B g : Nat) (l : List EntL) (sp : List SpanL) (hc : checkTabL l sp = 0) (hT : TabIs w B g l sp) :
    Calls Tryz.prog 27 #[.pointer (some ⟨g, 0, none⟩)] w (NewSpans w sp) := by
  obtain ⟨A, n, c, Ap, np, cp, Af, nf, cf, g2, b1, b2, ⟨c0, c1, c2, c3⟩, s, r, f, t, u, v⟩ := hT
  obtain ⟨_, d2, _, _, _, d6⟩ := checkTab_zero hc
  have k := all_any w g2 sp t (by omega) fun x hx => by have := checkSpan_zero (d6 x hx); omega
  unfold NewSpans at *
  have K := Lib.hid k
  clear k c0 c1 c2 s r f t u v d2 d6
  go_enter Tryz.func27, Tryz.ntmps27
  go_wp2_with fail
  refine K.out.mono ?_
  rintro e w1 ⟨A1, n1, c1, rfl, s1, hb1⟩
  have S1 := Lib.hid s1
  clear s1 K
  go_wp2
  go_ret
  exact ⟨A1, n1, c1, rfl, S1.out, hb1⟩
set_option maxHeartbeats 4000000 in
theorem tableaves_any (w : World) (B g : Nat) (l : List EntL) (sp : List SpanL) (hT : TabIs w B g l sp) :
    Calls Tryz.prog 28 #[.pointer (some ⟨g, 0, none⟩)] w fun e w' => e = .returned (.int .i64 (leafCount l : Nat)) ∧ w = w' := by
  obtain ⟨A, n, c, Ap, np, cp, Af, nf, cf, g2, b1, b2, ⟨c0, c1, c2, c3⟩, s, r, f, t, u, v⟩ := hT
  have hnp : leafCount l = np := by have := r.lenR; simpa [pagesN] using this
  rw [hnp]
  clear hnp c0 c2 c3 s r f t u v
  go_enter Tryz.func28, Tryz.ntmps28
  go_wp2
  go_ret
  exact ⟨rfl, rfl⟩
set_option maxHeartbeats 4000000 in
theorem tabmay_any (w : World) (B g : Nat) (l : List EntL) (sp : List SpanL) (hc : checkTabL l sp = 0) (hT : TabIs w B g l sp) (hq : Quarter w) (K : Option Addr) (k ck : Nat) (key : List UInt8) (hk : Sl w 1 K k ck (bc key)) :
    Calls Tryz.prog 29 #[.pointer (some ⟨g, 0, none⟩), .slice K k ck] w fun e w' => e = .returned (.bool (hasL (buildL 10 (usersL l)) key)) ∧ Below w.heap.size w w' := by
  obtain ⟨A, n, c, Ap, np, cp, Af, nf, cf, g2, b1, b2, ⟨c0, c1, c2, c3⟩, s, r, f, t, u, v⟩ := hT
  obtain ⟨d1, _⟩ := checkTab_zero hc
  have hbl := build_len (usersL l)
  have hul : (usersL l).length = l.length := by simp [usersL]
  have hfl := f.lenb
  have kk := has_any w Af nf cf _ f K k ck key hk hq (by omega)
  generalize hasL (buildL 10 (usersL l)) key = hb at *
  have Kk := Lib.hid kk
  clear kk c0 c1 c3 s r f t u v hbl hul hfl d1 hk hq
  go_enter Tryz.func29, Tryz.ntmps29
  go_wp2_with fail
  refine Kk.out.mono ?_
  rintro e w1 ⟨rfl, hb1⟩
  go_wp2
  go_ret
  exact ⟨rfl, hb1⟩
end Go.Proofs.YtpffieogkfndaaaGreatDoor

namespace Go.Proofs.YtpffieogkfndaaaGreatDoor
open Go.RowKit
set_option maxRecDepth 20000
set_option linter.unusedVariables false
set_option linter.unusedSimpArgs false
/-- the same; where the value lies -/
def GotAtN (w : World) (o : Option EntL) (q : Nat) (e : Ending) (w' : World) : Prop :=
  ∃ (A : Option Addr) (n c : Nat) (B : Option Addr) (m d : Nat), e = .returned (.tuple #[.agg #[.slice A n c, .int .u64 ((o.getD ⟨⟨[], 0, 0⟩, []⟩).key.seq.toNat : Int), .int .u8 ((o.getD ⟨⟨[], 0, 0⟩, []⟩).key.kind.toNat : Int), .slice B m d], .bool o.isSome, .int .i64 (q : Int)]) ∧
    Sl w' 1 A n c (bc (o.getD ⟨⟨[], 0, 0⟩, []⟩).key.user) ∧ Sl w' 1 B m d (bc (o.getD ⟨⟨[], 0, 0⟩, []⟩).value) ∧ Below w.heap.size w w' ∧ ∀ b, 0 < m → B.map (·.block) = some b → w.heap.size ≤ b
set_option maxHeartbeats 8000000 in
theorem from12n_any (w : World) (A : Option Addr) (n c : Nat) (p : List UInt8) (h : Sl w 1 A n c (bc p)) (hn : n ≤ 65536) (A2 : Option Addr) (n2 c2 : Nat) (k : KeyL) (s2 : Sl w 1 A2 n2 c2 (bc k.user)) :
    Calls Tryz.prog 101 #[.slice A n c, .agg #[.slice A2 n2 c2, .int .u64 (k.seq.toNat : Int), .int .u8 (k.kind.toNat : Int)]] w (GotAtN w (fromL ((readLeafL p).getD []) k) (if (readLeafL p).isSome then 0 else 4)) := by
  have hb1 := (Below.refl w.heap.size w).alloc (Nat.le_refl _) (.cells #[.slice A2 n2 c2, .int .u64 (k.seq.toNat : Int), .int .u8 (k.kind.toNat : Int)] 67)
  have kK := Bx.fresh w (.slice A2 n2 c2) (.int .u64 (k.seq.toNat : Int)) (.int .u8 (k.kind.toNat : Int)) 67
  have cp := fun w' (hb : Below w.heap.size w w') => place_any w' A n c p (h.below (by omega) hb) hn A2 n2 c2 k (s2.below (by omega) hb)
  generalize k.seq.toNat = s at *
  generalize k.kind.toNat = d at *
  generalize hW : (w.alloc (.cells #[.slice A2 n2 c2, .int .u64 (s : Int), .int .u8 (d : Int)] 67)) = w1 at *
  have al := (Below.refl w1.heap.size w1).alloc (Nat.le_refl _) (.cells #[.slice none 0 0, .int .u64 0, .int .u8 0, .slice none 0 0] 69)
  have kR := Bx4.fresh w1 (.slice none 0 0) (.int .u64 0) (.int .u8 0) (.slice none 0 0) 69
  have kK := kK.below al
  have zR0 := hb1.size
  have hb2 := hb1.trans (al.mono hb1.size)
  generalize hW2 : (w1.alloc (.cells #[.slice none 0 0, .int .u64 0, .int .u8 0, .slice none 0 0] 69)) = w2 at *
  obtain ⟨gR, hgR⟩ : ∃ gR, gR = w1.heap.size := ⟨_, rfl⟩
  rw [← hgR] at kR zR0
  unfold GotPlace at cp
  generalize readLeafL p = r at *
  generalize r.getD [] = ls at *
  generalize hq : (if r.isSome then 0 else 4 : Nat) = q at *
  obtain ⟨O, hO⟩ : ∃ O, fromL ls k = O := ⟨_, rfl⟩
  rw [hO]
  have HO := Lib.hid hO
  have Cp := Lib.hid cp
  clear cp h s2 al hq hO
  obtain ⟨x0, x1, x2, x3⟩ := id kK
  go_enter Tryz.func101, Tryz.ntmps101
  go_wp2_with fail
  try rw [hW]
  try rw [hW2]
  try rw [← hgR]
  clear hW hW2 hgR x0 x1 x2 x3
  refine (Cp.out _ hb2).mono ?_
  rintro e w3 ⟨A6, n6, c6, i, rfl, h6, hb3, hi6, hF, hB⟩
  have kR0 := kR
  have kR := kR.below hb3
  have hq := hb2.trans (hb3.mono hb2.size)
  have zR : gR < w2.heap.size := by have := kR0.lt; omega
  have hn6 := h6.lenR
  have Hn6 := Lib.hid hn6
  have hcp6 := h6.cap
  have hcm6 := hcp6.2
  unfold maxLen at hcm6
  have HF := Lib.hid hF
  have HB := Lib.hid hB
  clear hn6 hF hB Cp hb3
  by_cases hin : i = n6
  case pos =>
    have e1 : ((i : Int) == (n6 : Int)) = true := by rw [beq_iff_eq]; omega
    obtain ⟨x0, x1, x2, x3, x4⟩ := id kR
    have hN : O = none := by have hF := HF.out; have hB := HB.out; rw [← HO.out]; rw [hF, List.getElem?_eq_none (by have := Hn6.out; omega)]
    subst hN
    go_wp2
    refine bodyPost_ret (v := .tuple #[.agg #[.slice none 0 0, .int .u64 0, .int .u8 0, .slice none 0 0], .bool false, .int .i64 (q : Int)]) (by simp [results, Tryz.results101, go_sem, x0, x1, x2, x3]) rfl ?_
    refine ⟨none, 0, 0, none, 0, 0, rfl, sl_none _, sl_none _, ?_, fun b hn => absurd hn (by omega)⟩
    iterate 4 refine Below.setCell ?_ (by omega) _
    exact hq
  have e1 : ((i : Int) == (n6 : Int)) = false := by rw [beq_eq_false_iff_ne]; omega
  have hii : i < n6 := by omega
  obtain ⟨bb, o, A3, n3, c3, A4, n4, c4, hjl, rfl, d0, d1, d2, d3, g3, g4⟩ := h6.entAt hii
  obtain ⟨bb', o', x, cs, hbo, hx, ⟨v, v', rfl, ⟨_, _, _, rfl, _, hN3⟩, ⟨_, _, _, rfl, _, hN4⟩⟩, hcell⟩ := h6.get hii
  obtain ⟨rfl, rfl⟩ : bb = bb' ∧ o = o' := by simpa using hbo
  have hc0 : w3.cell? ⟨bb, o + i * 4, none⟩ = _ := hcell 0 _ rfl
  have hc3 : w3.cell? ⟨bb, o + i * 4 + 3, none⟩ = _ := hcell 3 _ rfl
  rw [d0] at hc0
  rw [d3] at hc3
  obtain ⟨rfl, rfl, rfl⟩ : A3 = _ ∧ n3 = _ ∧ c3 = _ := by simpa using hc0
  obtain ⟨rfl, rfl, rfl⟩ : A4 = _ ∧ n4 = _ ∧ c4 = _ := by simpa using hc3
  have hN : O = some ls[i] := by have hF := HF.out; have hB := HB.out; rw [← HO.out]; rw [hF]; exact List.getElem?_eq_getElem hjl
  clear HO
  generalize ls[i] = X at *
  subst hN
  obtain ⟨x0, x1, x2, x3, x4⟩ := id kR
  clear hc0 hc3 hcell hbo hx
  go_wp2
  refine bodyPost_ret (v := .tuple #[.agg #[.slice A3 n3 c3, .int .u64 (X.key.seq.toNat : Int), .int .u8 (X.key.kind.toNat : Int), .slice A4 n4 c4], .bool true, .int .i64 (q : Int)]) (by simp [results, Tryz.results101, go_sem, x0, x1, x2, x3]) rfl ?_
  obtain ⟨_, hgs⟩ := Bx4.set kR (v0 := .slice A3 n3 c3) (v1 := .int .u64 (X.key.seq.toNat : Int)) (v2 := .int .u8 (X.key.kind.toNat : Int)) (v3 := .slice A4 n4 c4)
  exact ⟨A3, n3, c3, A4, n4, c4, rfl, g3.grown (by omega) hgs (fun hn b e q => by have := hN3 b hn e; simp at q; omega), g4.grown (by omega) hgs (fun hn b e q => by have := hN4 b hn e; simp at q; omega), hq.grown hgs hq.size (fun b hb => by simp at hb; omega), fun b hn e => by have := hN4 b hn e; have := hb2.size; omega⟩
end Go.Proofs.YtpffieogkfndaaaGreatDoor
