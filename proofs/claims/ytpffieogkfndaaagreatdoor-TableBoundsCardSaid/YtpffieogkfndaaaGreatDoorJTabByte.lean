/-
  TabIs, LeafFrom, BloomRef, BloomRefB, TabByte in one text. No condition but sizes.
-/
import Derived.Test.YtpffieogkfndaaaGreatDoorJSealLaws2
import Derived.Test.YtpffieogkfndaaaGreatDoorSetWalk
import Derived.Test.YtpffieogkfndaaaGreatDoorJKeyBytesR
import Derived.Test.YtpffieogkfndaaaGreatDoorLeafPlace
import Derived.Test.YtpffieogkfndaaaGreatDoorJBatchReadW
import Derived.Test.YtpffieogkfndaaaGreatDoorJBloomPlain
import Derived.Test.YtpffieogkfndaaaGreatDoorJZeros
namespace Go.Proofs.YtpffieogkfndaaaGreatDoor
open Go.RowKit
set_option maxRecDepth 20000
set_option linter.unusedVariables false
set_option linter.unusedSimpArgs false
/-- the table of l and sp lies in block g; all that it points to lies from B on -/
def TabIs (w : World) (B g : Nat) (l : List EntL) (sp : List SpanL) : Prop :=
  ∃ (A : Option Addr) (n c : Nat) (Ap : Option Addr) (np cp : Nat) (Af : Option Addr) (nf cf g2 : Nat), B ≤ g ∧ B ≤ g2 ∧
    (w.cell? ⟨g, 0, none⟩ = some (.slice A n c) ∧ w.cell? ⟨g, 1, none⟩ = some (.slice Ap np cp) ∧ w.cell? ⟨g, 2, none⟩ = some (.slice Af nf cf) ∧ w.cell? ⟨g, 3, none⟩ = some (.pointer (some ⟨g2, 0, none⟩))) ∧
    Sl w 1 A n c (bc (tabBytesL l sp)) ∧ SlR w (fun b => B ≤ b) Ap np cp (pagesN l (leafCount l)) ∧ Sl w 1 Af nf cf (bc (buildL 10 (usersL l))) ∧ SetIs w g2 sp ∧
    (∀ b, 0 < n → A.map (·.block) = some b → B ≤ b) ∧ (∀ b, 0 < nf → Af.map (·.block) = some b → B ≤ b)
theorem TabIs.below {w w' : World} {B g : Nat} {l : List EntL} {sp : List SpanL} (h : TabIs w B g l sp) (hb : Below w.heap.size w w') : TabIs w' B g l sp := by
  obtain ⟨A, n, c, Ap, np, cp, Af, nf, cf, g2, b1, b2, ⟨c0, c1, c2, c3⟩, s, r, f, t, u, v⟩ := h
  exact ⟨A, n, c, Ap, np, cp, Af, nf, cf, g2, b1, b2, ⟨stays hb c0, stays hb c1, stays hb c2, stays hb c3⟩, s.below (by omega) hb, r.below hb, f.below (by omega) hb, t.below hb, u, v⟩
theorem pagesN_ok {l : List EntL} {sp : List SpanL} (hc : checkTabL l sp = 0) : (∀ x ∈ pagesN l (leafCount l), x.lo ≤ x.hi ∧ x.hi ≤ 1000000000000000) ∧ (pagesN l (leafCount l)).length ≤ 126 := by
  obtain ⟨c1, c2, c3, c4, c5, c6⟩ := checkTab_zero hc
  have hn : leafCount l ≤ 126 := by unfold leafCount; omega
  refine ⟨fun x hx => ?_, by simpa [pagesN] using hn⟩
  obtain ⟨i, hi, rfl⟩ := List.mem_map.1 hx
  have h1 := List.mem_range.1 hi
  have h2 := leaves_len c4 (i + 1)
  have h3 : (leavesN l (i + 1)).length = (leavesN l i).length + (sealedL l i).length := by rw [leavesN_succ, List.length_append]
  show (leavesN l i).length ≤ (leavesN l (i + 1)).length ∧ (leavesN l (i + 1)).length ≤ 1000000000000000
  omega
set_option maxHeartbeats 4000000 in
theorem tabents_any (w : World) (B g : Nat) (l : List EntL) (sp : List SpanL) (hc : checkTabL l sp = 0) (hT : TabIs w B g l sp) (hn : (tabBytesL l sp).length ≤ 65536) (hq : Quarter w) :
    Calls Tryz.prog 26 #[.pointer (some ⟨g, 0, none⟩)] w fun e w' => ∃ A n c, e = .returned (.slice A n c) ∧ SlR w' (fun b => w.heap.size ≤ b) A n c l ∧ Below w.heap.size w w' := by
  obtain ⟨A, n, c, Ap, np, cp, Af, nf, cf, g2, b1, b2, ⟨c0, c1, c2, c3⟩, s, r, f, t, u, v⟩ := hT
  obtain ⟨h1, h2⟩ := pagesN_ok hc
  have hnp : np ≤ 1000000 := by have := r.lenR; omega
  have hs := s.lenb
  have k := tentries_any w g A n c _ c0 s (by omega) hq _ Ap np cp _ c1 r h1 hnp
  obtain ⟨_, _, _, _, _, _, _, _, _, _, he⟩ := tab_fwd hc rfl
  rw [he] at k
  unfold GotLeaf at k
  simp only [Option.isSome, Option.getD] at k
  have K := Lib.hid k
  clear k he c0 c1 c2 c3 s r f t u v h1 h2 hs
  go_enter Tryz.func26, Tryz.ntmps26
  go_wp2_with fail
  refine K.out.mono ?_
  rintro e w1 ⟨A1, n1, c1, rfl, s1, hb1⟩
  have S1 := Lib.hid s1
  clear s1 K
  go_wp2
  go_ret
  exact ⟨A1, n1, c1, rfl, S1.out, hb1⟩
set_option maxHeartbeats 4000000 in
theorem tabspans_any (w : World) (B g : Nat) (l : List EntL) (sp : List SpanL) (hc : checkTabL l sp = 0) (hT : TabIs w B g l sp) :
    Calls Tryz.prog 27 #[.pointer (some ⟨g, 0, none⟩)] w (NewSpans w sp) := by
  obtain ⟨A, n, c, Ap, np, cp, Af, nf, cf, g2, b1, b2, ⟨c0, c1, c2, c3⟩, s, r, f, t, u, v⟩ := hT
  obtain ⟨_, d2, _, _, _, d6⟩ := checkTab_zero hc
  have k := all_any w g2 sp t (by omega) fun x hx => by have := checkSpan_zero (d6 x hx); omega
  unfold NewSpans at *
  have K := Lib.hid k
  clear k c0 c1 c2 s r f t u v d2 d6
  go_enter Tryz.func27, Tryz.ntmps27
  go_wp2_with fail
  refine K.out.mono ?_
  rintro e w1 ⟨A1, n1, c1, rfl, s1, hb1⟩
  have S1 := Lib.hid s1
  clear s1 K
  go_wp2
  go_ret
  exact ⟨A1, n1, c1, rfl, S1.out, hb1⟩
set_option maxHeartbeats 4000000 in
theorem tableaves_any (w : World) (B g : Nat) (l : List EntL) (sp : List SpanL) (hT : TabIs w B g l sp) :
    Calls Tryz.prog 28 #[.pointer (some ⟨g, 0, none⟩)] w fun e w' => e = .returned (.int .i64 (leafCount l : Nat)) ∧ w = w' := by
  obtain ⟨A, n, c, Ap, np, cp, Af, nf, cf, g2, b1, b2, ⟨c0, c1, c2, c3⟩, s, r, f, t, u, v⟩ := hT
  have hnp : leafCount l = np := by have := r.lenR; simpa [pagesN] using this
  rw [hnp]
  clear hnp c0 c2 c3 s r f t u v
  go_enter Tryz.func28, Tryz.ntmps28
  go_wp2
  go_ret
  exact ⟨rfl, rfl⟩
set_option maxHeartbeats 4000000 in
theorem tabmay_any (w : World) (B g : Nat) (l : List EntL) (sp : List SpanL) (hc : checkTabL l sp = 0) (hT : TabIs w B g l sp) (hq : Quarter w) (K : Option Addr) (k ck : Nat) (key : List UInt8) (hk : Sl w 1 K k ck (bc key)) :
    Calls Tryz.prog 29 #[.pointer (some ⟨g, 0, none⟩), .slice K k ck] w fun e w' => e = .returned (.bool (hasL (buildL 10 (usersL l)) key)) ∧ Below w.heap.size w w' := by
  obtain ⟨A, n, c, Ap, np, cp, Af, nf, cf, g2, b1, b2, ⟨c0, c1, c2, c3⟩, s, r, f, t, u, v⟩ := hT
  obtain ⟨d1, _⟩ := checkTab_zero hc
  have hbl := build_len (usersL l)
  have hul : (usersL l).length = l.length := by simp [usersL]
  have hfl := f.lenb
  have kk := has_any w Af nf cf _ f K k ck key hk hq (by omega)
  generalize hasL (buildL 10 (usersL l)) key = hb at *
  have Kk := Lib.hid kk
  clear kk c0 c1 c3 s r f t u v hbl hul hfl d1 hk hq
  go_enter Tryz.func29, Tryz.ntmps29
  go_wp2_with fail
  refine Kk.out.mono ?_
  rintro e w1 ⟨rfl, hb1⟩
  go_wp2
  go_ret
  exact ⟨rfl, hb1⟩
end Go.Proofs.YtpffieogkfndaaaGreatDoor

namespace Go.Proofs.YtpffieogkfndaaaGreatDoor
open Go.RowKit
set_option maxRecDepth 20000
set_option linter.unusedVariables false
set_option linter.unusedSimpArgs false
/-- the same; where the value lies -/
def GotAtN (w : World) (o : Option EntL) (q : Nat) (e : Ending) (w' : World) : Prop :=
  ∃ (A : Option Addr) (n c : Nat) (B : Option Addr) (m d : Nat), e = .returned (.tuple #[.agg #[.slice A n c, .int .u64 ((o.getD ⟨⟨[], 0, 0⟩, []⟩).key.seq.toNat : Int), .int .u8 ((o.getD ⟨⟨[], 0, 0⟩, []⟩).key.kind.toNat : Int), .slice B m d], .bool o.isSome, .int .i64 (q : Int)]) ∧
    Sl w' 1 A n c (bc (o.getD ⟨⟨[], 0, 0⟩, []⟩).key.user) ∧ Sl w' 1 B m d (bc (o.getD ⟨⟨[], 0, 0⟩, []⟩).value) ∧ Below w.heap.size w w' ∧ ∀ b, 0 < m → B.map (·.block) = some b → w.heap.size ≤ b
set_option maxHeartbeats 8000000 in
theorem from12n_any (w : World) (A : Option Addr) (n c : Nat) (p : List UInt8) (h : Sl w 1 A n c (bc p)) (hn : n ≤ 65536) (A2 : Option Addr) (n2 c2 : Nat) (k : KeyL) (s2 : Sl w 1 A2 n2 c2 (bc k.user)) :
    Calls Tryz.prog 101 #[.slice A n c, .agg #[.slice A2 n2 c2, .int .u64 (k.seq.toNat : Int), .int .u8 (k.kind.toNat : Int)]] w (GotAtN w (fromL ((readLeafL p).getD []) k) (if (readLeafL p).isSome then 0 else 4)) := by
  have hb1 := (Below.refl w.heap.size w).alloc (Nat.le_refl _) (.cells #[.slice A2 n2 c2, .int .u64 (k.seq.toNat : Int), .int .u8 (k.kind.toNat : Int)] 67)
  have kK := Bx.fresh w (.slice A2 n2 c2) (.int .u64 (k.seq.toNat : Int)) (.int .u8 (k.kind.toNat : Int)) 67
  have cp := fun w' (hb : Below w.heap.size w w') => place_any w' A n c p (h.below (by omega) hb) hn A2 n2 c2 k (s2.below (by omega) hb)
  generalize k.seq.toNat = s at *
  generalize k.kind.toNat = d at *
  generalize hW : (w.alloc (.cells #[.slice A2 n2 c2, .int .u64 (s : Int), .int .u8 (d : Int)] 67)) = w1 at *
  have al := (Below.refl w1.heap.size w1).alloc (Nat.le_refl _) (.cells #[.slice none 0 0, .int .u64 0, .int .u8 0, .slice none 0 0] 69)
  have kR := Bx4.fresh w1 (.slice none 0 0) (.int .u64 0) (.int .u8 0) (.slice none 0 0) 69
  have kK := kK.below al
  have zR0 := hb1.size
  have hb2 := hb1.trans (al.mono hb1.size)
  generalize hW2 : (w1.alloc (.cells #[.slice none 0 0, .int .u64 0, .int .u8 0, .slice none 0 0] 69)) = w2 at *
  obtain ⟨gR, hgR⟩ : ∃ gR, gR = w1.heap.size := ⟨_, rfl⟩
  rw [← hgR] at kR zR0
  unfold GotPlace at cp
  generalize readLeafL p = r at *
  generalize r.getD [] = ls at *
  generalize hq : (if r.isSome then 0 else 4 : Nat) = q at *
  obtain ⟨O, hO⟩ : ∃ O, fromL ls k = O := ⟨_, rfl⟩
  rw [hO]
  have HO := Lib.hid hO
  have Cp := Lib.hid cp
  clear cp h s2 al hq hO
  obtain ⟨x0, x1, x2, x3⟩ := id kK
  go_enter Tryz.func101, Tryz.ntmps101
  go_wp2_with fail
  try rw [hW]
  try rw [hW2]
  try rw [← hgR]
  clear hW hW2 hgR x0 x1 x2 x3
  refine (Cp.out _ hb2).mono ?_
  rintro e w3 ⟨A6, n6, c6, i, rfl, h6, hb3, hi6, hF, hB⟩
  have kR0 := kR
  have kR := kR.below hb3
  have hq := hb2.trans (hb3.mono hb2.size)
  have zR : gR < w2.heap.size := by have := kR0.lt; omega
  have hn6 := h6.lenR
  have Hn6 := Lib.hid hn6
  have hcp6 := h6.cap
  have hcm6 := hcp6.2
  unfold maxLen at hcm6
  have HF := Lib.hid hF
  have HB := Lib.hid hB
  clear hn6 hF hB Cp hb3
  by_cases hin : i = n6
  case pos =>
    have e1 : ((i : Int) == (n6 : Int)) = true := by rw [beq_iff_eq]; omega
    obtain ⟨x0, x1, x2, x3, x4⟩ := id kR
    have hN : O = none := by have hF := HF.out; have hB := HB.out; rw [← HO.out]; rw [hF, List.getElem?_eq_none (by have := Hn6.out; omega)]
    subst hN
    go_wp2
    refine bodyPost_ret (v := .tuple #[.agg #[.slice none 0 0, .int .u64 0, .int .u8 0, .slice none 0 0], .bool false, .int .i64 (q : Int)]) (by simp [results, Tryz.results101, go_sem, x0, x1, x2, x3]) rfl ?_
    refine ⟨none, 0, 0, none, 0, 0, rfl, sl_none _, sl_none _, ?_, fun b hn => absurd hn (by omega)⟩
    iterate 4 refine Below.setCell ?_ (by omega) _
    exact hq
  have e1 : ((i : Int) == (n6 : Int)) = false := by rw [beq_eq_false_iff_ne]; omega
  have hii : i < n6 := by omega
  obtain ⟨bb, o, A3, n3, c3, A4, n4, c4, hjl, rfl, d0, d1, d2, d3, g3, g4⟩ := h6.entAt hii
  obtain ⟨bb', o', x, cs, hbo, hx, ⟨v, v', rfl, ⟨_, _, _, rfl, _, hN3⟩, ⟨_, _, _, rfl, _, hN4⟩⟩, hcell⟩ := h6.get hii
  obtain ⟨rfl, rfl⟩ : bb = bb' ∧ o = o' := by simpa using hbo
  have hc0 : w3.cell? ⟨bb, o + i * 4, none⟩ = _ := hcell 0 _ rfl
  have hc3 : w3.cell? ⟨bb, o + i * 4 + 3, none⟩ = _ := hcell 3 _ rfl
  rw [d0] at hc0
  rw [d3] at hc3
  obtain ⟨rfl, rfl, rfl⟩ : A3 = _ ∧ n3 = _ ∧ c3 = _ := by simpa using hc0
  obtain ⟨rfl, rfl, rfl⟩ : A4 = _ ∧ n4 = _ ∧ c4 = _ := by simpa using hc3
  have hN : O = some ls[i] := by have hF := HF.out; have hB := HB.out; rw [← HO.out]; rw [hF]; exact List.getElem?_eq_getElem hjl
  clear HO
  generalize ls[i] = X at *
  subst hN
  obtain ⟨x0, x1, x2, x3, x4⟩ := id kR
  clear hc0 hc3 hcell hbo hx
  go_wp2
  refine bodyPost_ret (v := .tuple #[.agg #[.slice A3 n3 c3, .int .u64 (X.key.seq.toNat : Int), .int .u8 (X.key.kind.toNat : Int), .slice A4 n4 c4], .bool true, .int .i64 (q : Int)]) (by simp [results, Tryz.results101, go_sem, x0, x1, x2, x3]) rfl ?_
  obtain ⟨_, hgs⟩ := Bx4.set kR (v0 := .slice A3 n3 c3) (v1 := .int .u64 (X.key.seq.toNat : Int)) (v2 := .int .u8 (X.key.kind.toNat : Int)) (v3 := .slice A4 n4 c4)
  exact ⟨A3, n3, c3, A4, n4, c4, rfl, g3.grown (by omega) hgs (fun hn b e q => by have := hN3 b hn e; simp at q; omega), g4.grown (by omega) hgs (fun hn b e q => by have := hN4 b hn e; simp at q; omega), hq.grown hgs hq.size (fun b hb => by simp at hb; omega), fun b hn e => by have := hN4 b hn e; have := hb2.size; omega⟩
end Go.Proofs.YtpffieogkfndaaaGreatDoor

namespace Go.Proofs.YtpffieogkfndaaaGreatDoor
set_option maxRecDepth 20000
set_option linter.unusedVariables false
set_option linter.unusedSimpArgs false
open Go.RowKit

set_option maxHeartbeats 400000 in
theorem rbltake_any (w : World) (b : Int) : Calls Tryz.prog 94 #[.int .i64 b] w fun e w' => e = .returned (.int .i64 (takeN b : Nat)) ∧ w = w' := by
  go_enter Tryz.func94, Tryz.ntmps94
  go_wp2
  all_goals go_ret
  all_goals (refine ⟨ret_int ?_, rfl⟩; unfold takeN; split <;> (try split) <;> omega)
set_option maxHeartbeats 400000 in
theorem rprobes_any (w : World) (b : Int) : Calls Tryz.prog 95 #[.int .i64 b] w fun e w' => e = .returned (.int .i64 (probesN b : Nat)) ∧ w = w' := by
  have h1 := takeN_le b
  have ht := rbltake_any w b
  have h2 : probesN b = min (max (takeN b * 69 / 100) 1) 30 := by unfold probesN; split <;> (try split) <;> omega
  rw [h2]
  clear h2
  generalize takeN b = t at *
  go_enter Tryz.func95, Tryz.ntmps95
  go_wp2_with fail
  refine ht.mono ?_
  rintro e w' ⟨rfl, rfl⟩
  go_wp2
  all_goals go_ret
  all_goals exact ⟨ret_int (by omega), rfl⟩
set_option maxHeartbeats 1000000 in
theorem rprobe_any (w : World) (A : Option Addr) (nk ck : Nat) (key : List UInt8) (hk : Sl w 1 A nk ck (bc key)) (hn : nk ≤ 4398046511104) (i m : Nat) (hi : i ≤ 30) (hm : 0 < m) (hm2 : m < 4294967296) :
    Calls Tryz.prog 96 #[.slice A nk ck, .int .i64 (i : Int), .int .i64 (m : Int)] w fun e w' => e = .returned (.int .i64 (probeL key m i : Nat)) ∧ Below w.heap.size w w' := by
  have Hl : Hid (key.length = nk) := hk.lenb
  have hcm := hk.capm
  have hcc := hk.cap
  unfold maxLen at hcm
  go_enter Tryz.func96, Tryz.ntmps96
  go_wp2
  go_loop [7, 13] (fun s q => ∃ k : Nat, k ≤ nk ∧ q = .int .i64 k ∧ s = .int .u64 (fnvL 2166136261 (key.take k) : Nat)) (fun _ q => nk - (intOf q).toNat)
  case atStart => exact ⟨0, Nat.zero_le _, rfl, rfl⟩
  case round =>
    obtain ⟨k, hk', rfl, rfl⟩ := hrel
    by_cases hlt : k < nk
    · have hkl : k < key.length := by have := Hl.out; omega
      obtain ⟨g, o, x, rfl, hx, hxl, hcell⟩ := hk.byte hkl
      have hv := fnvL_lt (key.take k) basis_lt
      have hs := fnvL_snoc 2166136261 (key.take k) key[k]
      rw [← take_snoc _ _ hkl, hx] at hs
      have HS := Lib.hid hs
      generalize fnvL 2166136261 (key.take k) = v at *
      obtain ⟨t, hte, htl⟩ : ∃ t : Nat, v ^^^ x = t ∧ t < 4294967296 := ⟨_, rfl, Nat.xor_lt_two_pow (n := 32) hv (by omega)⟩
      have e1 : bits .xor .u64 (v : Int) (x : Int) = (t : Int) := by rw [u64_xor_nat _ _ (by omega) (by omega), hte]
      have HT := Lib.hid hte
      clear hs hx hte
      go_wp2
      go_round
      case rel => exact ⟨k + 1, by omega, by go_num, by rw [HS.out, HT.out]; simp⟩
      case measure => simp [intOf]; omega
    · obtain rfl : k = nk := by omega
      have e1 : key.take k = key := List.take_of_length_le (by have := Hl.out; omega)
      rw [e1]
      obtain ⟨h, hh⟩ : ∃ h, hashL key = h := ⟨_, rfl⟩
      have hhl := hashL_lt key
      have hpr : probeL key m i = (h + i * stepL key) % 4294967296 % m := by rw [← hh]; rfl
      have Hpr := Lib.hid hpr
      rw [show fnvL 2166136261 key = h from hh]
      rw [hh] at hhl
      have hsl := sumL_lt key
      obtain ⟨d, hd⟩ : ∃ d, stepL key = d := ⟨_, rfl⟩
      have hd2 : d = if sumL key % 2 = 0 then sumL key + 1 else sumL key := by rw [← hd]; rfl
      have Hd := Lib.hid hd
      clear hh hpr hd
      go_wp2_with fail
      refine (rsum_any w A k ck key hk hn).mono ?_
      rintro e w1 ⟨rfl, hb1⟩
      have Hb := Lib.hid hb1
      clear hb1
      generalize sumL key = sk at *
      have hdl : d < 4294967296 := by split at hd2 <;> omega
      have hid : i * d ≤ 30 * 4294967296 := Nat.mul_le_mul hi (by omega)
      have hid2 : (i : Int) * d = ((i * d : Nat) : Int) := by simp
      obtain ⟨y, hy⟩ : ∃ y, i * d = y := ⟨_, rfl⟩
      rw [hy] at hid hid2
      have hy2 := Lib.hid hy
      clear hy
      have hm0 : ((m : Int) == 0) = false := by simp; omega
      obtain ⟨z, hz⟩ : ∃ z : Nat, (h + y) % 4294967296 % m = z := ⟨_, rfl⟩
      have hzm : z < m := by rw [← hz]; exact Nat.mod_lt _ hm
      have hzI : ((h : Int) + y) % 4294967296 % (m : Int) = (z : Int) := by rw [← hz]; simp
      have Hz := Lib.hid hz
      have Hfin : Hid (probeL key m i = z) := by have h1 := Hpr.out; rw [Hd.out, hy2.out, Hz.out] at h1; exact h1
      clear hz
      by_cases hpar : sk % 2 = 0
      · rw [if_pos hpar] at hd2
        subst hd2
        have hidI : (i : Int) * ((sk : Int) + 1) = (y : Int) := by rw [← hid2]; simp
        have d1 : ((sk : Int) % 2 == 0) = true := by simp; omega
        go_wp2
        go_ret
        exact ⟨ret_int (by rw [Hfin.out]), Hb.out⟩
      · rw [if_neg hpar] at hd2
        subst hd2
        have d1 : ((d : Int) % 2 == 0) = false := by simp; omega
        go_wp2
        go_ret
        exact ⟨ret_int (by rw [Hfin.out]), Hb.out⟩
end Go.Proofs.YtpffieogkfndaaaGreatDoor

namespace Go.Proofs.YtpffieogkfndaaaGreatDoor
set_option maxRecDepth 20000
set_option linter.unusedVariables false
set_option linter.unusedSimpArgs false
open Go.RowKit

/-- the bits from t on of the byte j -/
def partN (s : List Bool) (j t : Nat) : Nat := (List.range' t (8 - t)).foldr (fun k acc => (s[8 * j + k]?.getD false).toNat + 2 * acc) 0
theorem partN_all (s : List Bool) (j : Nat) : partN s j 0 = byteN s j := by unfold partN byteN; rw [List.range_eq_range']
theorem partN_step (s : List Bool) (j t : Nat) (h : t < 8) : partN s j t = (s[8 * j + t]?.getD false).toNat + 2 * partN s j (t + 1) := by
  unfold partN
  rw [show 8 - t = (8 - (t + 1)) + 1 by omega, List.range'_succ, List.foldr_cons]
theorem partN_lt (s : List Bool) (j t : Nat) (ht : 1 ≤ t) : partN s j t < 128 := by
  by_cases h : t < 8
  · refine Nat.lt_pow_two_of_testBit (n := 7) _ fun i hi => ?_
    unfold partN
    rw [foldr_bits (fun k => s[8 * j + k]?.getD false)]
    have h1 : ¬ i < 8 - t := by omega
    simp [h1]
  · unfold partN
    rw [show 8 - t = 0 by omega]
    simp
def bv (s : List Bool) : List Value := s.map Value.bool
theorem bv_get (s : List Bool) (k : Nat) (h : k < s.length) : (bv s)[k]? = some (.bool (s[k]?.getD false)) := by simp [bv, h]
theorem bv_set (s : List Bool) (k : Nat) : (bv s).set k (.bool true) = bv (s.set k true) := by simp [bv, List.map_set]
theorem bytesN_succ (s : List Bool) (j : Nat) : bytesN s (j + 1) = bytesN s j ++ [UInt8.ofNat (byteN s j)] := by simp [bytesN, List.range_succ]
theorem probesL_succ (key : List UInt8) (m i : Nat) : probesL key m (i + 1) = probesL key m i ++ [probeL key m i] := by simp [probesL, List.range_succ]

set_option maxHeartbeats 2000000 in
theorem rbuild_any (w : World) (bt : Int) (A : Option Addr) (n c : Nat) (vs : List Value) (keys : List (List UInt8)) (h : Sl w 1 A n c vs) (hp : PartsOf w vs keys) (hlong : ∀ key ∈ keys, key.length ≤ 4398046511104) (hn : n ≤ 1000) :
    Calls Tryz.prog 54 #[.int .i64 bt, .slice A n c] w (NewB w (buildL bt keys)) := by
  have Hl : Hid (keys.length = n) := by have h1 := h.len; have h2 := hp.1; unfold Hid; omega
  have hcm := h.capm
  have hcc := h.cap
  unfold maxLen at hcm
  have ht := takeN_le bt
  have ht1 := takeN_pos bt
  have hpr := probesN_le bt
  have hpr1 := probesN_pos bt
  obtain ⟨sz, hsz⟩ : ∃ sz, sizeN bt keys.length = sz := ⟨_, rfl⟩
  have hsz2 : max ((takeN bt * n + 7) / 8) 8 = sz := by rw [← hsz, Hl.out]; rfl
  have ht2 : takeN bt * n ≤ 100 * n := Nat.mul_le_mul_right _ ht
  have hsz3 : sz ≤ 100000 := by omega
  have hsz4 : 8 ≤ sz := by omega
  have htk := fun w' => rbltake_any w' bt
  have hpb := fun w' => rprobes_any w' bt
  have hfin : buildL bt keys = bytesN (setAll (List.replicate (8 * sz) false) (keys.flatMap fun key => probesL key (8 * sz) (probesN bt))) sz ++ [UInt8.ofNat (probesN bt)] := by unfold buildL bitsL; rw [hsz]
  rw [hfin]
  clear hfin
  generalize takeN bt = t at *
  generalize probesN bt = p at *
  have Hmul : Hid ((t : Int) * n = ((t * n : Nat) : Int)) := by unfold Hid; simp
  have Htk := Lib.hid htk
  have Hpb := Lib.hid hpb
  obtain ⟨i0, hi0, hz0, hs1, hb1⟩ := info_parts infoF
  obtain ⟨E, hE⟩ : ∃ E : Int, ((t : Int) * n + 7) / 8 = E := ⟨_, rfl⟩
  have hE2 : (E < 8 → (sz : Int) = 8) ∧ (8 ≤ E → (sz : Int) = E) := by
    have := Hmul.out
    constructor <;> omega
  have HE2 := Lib.hid hE2
  have Hone : Hid True := trivial
  clear hsz hsz2 htk hpb hE2
  go_enter Tryz.func54, Tryz.ntmps54
  go_wp2_with fail
  refine (Htk.out _).mono ?_
  rintro e w' ⟨rfl, rfl⟩
  have hpc : ∀ (wr : World) (A' : Option Addr) (n' c' : Nat) (key : List UInt8) (i : Nat) (M : Int), Sl wr 1 A' n' c' (bc key) → n' ≤ 4398046511104 → i ≤ 30 → M = ((8 * sz : Nat) : Int) →
      Calls Tryz.prog 96 #[.slice A' n' c', .int .i64 (i : Int), .int .i64 M] wr fun e w' => e = .returned (.int .i64 (probeL key (8 * sz) i : Nat)) ∧ Below wr.heap.size wr w' := by
    rintro wr A' n' c' key i M hk hn' hi rfl
    exact rprobe_any wr A' n' c' key hk hn' i (8 * sz) hi (by omega) (by omega)
  have Hpc := Lib.hid hpc
  clear hpc
  go_wp2_with (at_make; refine wpList_mk _ rfl (.tmp 24) (.tmp 24) _ rfl w.heap.size 4 i0 (.bool false) 1 Tryz.underlying137 hi0 hz0 hs1 hb1 rfl _ _ _ _ (8 * sz) rfl rfl ?_ ?_ ?_ ?_ ?_ ?_)
  all_goals try (have := HE2.out; omega)
  all_goals try (unfold maxLen; omega)
  all_goals
    intro w1 ho1 hb1 _
    have ho1 : Own w1 w.heap.size 4 1 (some ⟨w.heap.size, 0, none⟩) (8 * sz) (8 * sz) (bv (List.replicate (8 * sz) false)) := by
      unfold bv
      rw [List.map_replicate]
      exact ho1
    go_wp2
    go_loopw [28] (fun q wr => ∃ j : Nat, j ≤ n ∧ q = .int .i64 j ∧ Below w.heap.size w wr ∧
      Own wr w.heap.size 4 1 (some ⟨w.heap.size, 0, none⟩) (8 * sz) (8 * sz) (bv (setAll (List.replicate (8 * sz) false) ((keys.take j).flatMap fun key => probesL key (8 * sz) p)))) (fun q _ => n - (intOf q).toNat)
    case atStart => exact ⟨0, Nat.zero_le _, rfl, hb1, ho1⟩
    case round =>
      clear ho1 hb1
      obtain ⟨j, hj, rfl, hbr, hor⟩ := hrel
      by_cases hlt : j < n
      · obtain ⟨b, o, A', n', c', hkl, rfl, hcell, hsl⟩ := hp.get h hlt
        have hcell := (hbr.cell (p := ⟨b, o + j, none⟩) (World.block_lt_of_cell? _ _ hcell)).trans hcell
        have hlk := hlong keys[j] (List.getElem_mem hkl)
        rw [hsl.lenb] at hlk
        have Hor := Lib.hid hor
        clear hor
        go_wp2_with fail
        refine (Hpb.out _).mono ?_
        rintro e w' ⟨rfl, rfl⟩
        go_wp2
        go_loopw [34] (fun q wx => ∃ i : Nat, i ≤ p ∧ q = .int .i64 i ∧ Below w.heap.size w wx ∧
          Own wx w.heap.size 4 1 (some ⟨w.heap.size, 0, none⟩) (8 * sz) (8 * sz) (bv (setAll (setAll (List.replicate (8 * sz) false) ((keys.take j).flatMap fun key => probesL key (8 * sz) p)) (probesL keys[j] (8 * sz) i)))) (fun q _ => p - (intOf q).toNat)
        case atStart => exact ⟨0, Nat.zero_le _, rfl, hbr, Hor.out⟩
        case round =>
          clear hbr hcell
          obtain ⟨i, hi, rfl, hbx, hox⟩ := hrel
          by_cases hlti : i < p
          · obtain ⟨v, hv⟩ : ∃ v, probeL keys[j] (8 * sz) i = v := ⟨_, rfl⟩
            have hvl : v < 8 * sz := by rw [← hv]; exact probeL_lt _ (by omega) i
            have Hv := Lib.hid hv
            have Hox := Lib.hid hox
            clear hv hox
            go_wp2_with fail
            refine (Hpc.out _ A' n' c' keys[j] i _ (hsl.below (by omega) hbx) hlk (by omega) (by have := HE2.out; omega)).mono ?_
            rw [Hv.out]
            rintro e w2 ⟨rfl, hb2⟩
            have ho2 := Own.below Hox.out hb2
            have hb3 := hbx.trans (hb2.mono hbx.size)
            obtain ⟨gg, oo, uu, eA, _, _, _, hcl, hfr⟩ := Own.place ho2 hvl
            obtain ⟨rfl, rfl⟩ : w.heap.size = gg ∧ 0 = oo := by simpa using eA
            have hst := Own.stored ho2 hvl (.bool true)
            rw [bv_set, ← setAll_snoc, Nat.zero_add] at hst
            rw [Nat.zero_add] at hcl hfr
            have Hst := Lib.hid hst
            clear hst ho2 eA hb2
            go_wp2
            go_roundw
            case rel => exact ⟨i + 1, by omega, by go_num, hb3.setCell (p := ⟨w.heap.size, v, none⟩) (Nat.le_refl _) _, by rw [probesL_succ, Hv.out]; exact Hst.out⟩
            case measure => simp [intOf]; omega
          · obtain rfl : i = p := by omega
            go_wp2
            go_roundw
            case rel =>
              refine ⟨j + 1, by omega, by go_num, hbx, ?_⟩
              rw [take_snoc _ _ hkl, List.flatMap_append, setAll_append]
              simpa using hox
            case measure => simp [intOf]; omega
      · obtain rfl : j = n := by omega
        rw [List.take_of_length_le (show keys.length ≤ j by have := Hl.out; omega)] at hor
        obtain ⟨s, hs⟩ : ∃ s, setAll (List.replicate (8 * sz) false) (keys.flatMap fun key => probesL key (8 * sz) p) = s := ⟨_, rfl⟩
        have hsl : s.length = 8 * sz := by rw [← hs]; simp
        rw [hs] at hor
        have Hs := Lib.hid hs
        clear hs
        go_wp2
        go_loopw [10, 47] (fun ov q wx => ∃ k : Nat, k ≤ sz ∧ q = .int .i64 k ∧ Below w.heap.size w wx ∧ Own wx w.heap.size 4 1 (some ⟨w.heap.size, 0, none⟩) (8 * sz) (8 * sz) (bv s) ∧
          ∃ A2 c2, ov = .slice A2 k c2 ∧ OwnB wx w.heap.size A2 k c2 (bytesN s k)) (fun _ q _ => sz - (intOf q).toNat)
        case atStart => exact ⟨0, Nat.zero_le _, rfl, hbr, hor, none, 0, rfl, Own.nil _ _ _ _ _⟩
        case round =>
          clear hor hbr
          obtain ⟨k, hk, rfl, hbx, hox, A2, c2, rfl, ho2⟩ := hrel
          by_cases hkl : k < sz
          · have hkE := HE2.out
            have Ho2 := Lib.hid ho2
            have Hox := Lib.hid hox
            clear ho2 hox
            go_wp2
            go_loop [12, 13] (fun bv q => ∃ t : Nat, t ≤ 8 ∧ q = .int .i64 ((t : Int) - 1) ∧ bv = .int .u8 (partN s k t : Nat)) (fun _ q => (intOf q + 1).toNat)
            case atStart => exact ⟨8, Nat.le_refl _, rfl, rfl⟩
            case round =>
              obtain ⟨tt, htt, rfl, rfl⟩ := hrel
              cases tt with
              | zero =>
                rw [partN_all]
                have hbl := byteN_lt s k
                have hbs := bytesN_succ s k
                obtain ⟨y, hy⟩ : ∃ y, byteN s k = y := ⟨_, rfl⟩
                rw [hy] at hbl hbs
                rw [hy]
                have Hbs := Lib.hid hbs
                have hsz : w.heap.size ≤ wr.heap.size := hbx.size
                have hlit : OwnB (wr.alloc (.cells #[.int .u8 (y : Int)] 5)) w.heap.size (some ⟨wr.heap.size, 0, none⟩) 1 1 [UInt8.ofNat y] :=
                  Own.lit wr _ _ 1 _ _ hsz rfl (by unfold maxLen; omega) (by simp [bc]; omega)
                have hba := (Below.refl wr.heap.size wr).alloc (Nat.le_refl _) (.cells #[.int .u8 (y : Int)] 5)
                have hoa : OwnB (wr.alloc (.cells #[.int .u8 (y : Int)] 5)) w.heap.size A2 k c2 (bytesN s k) := Own.below Ho2.out hba
                have hxa := Own.below Hox.out hba
                clear hbs hy
                go_wp2_with (at_builtin; refine wpList_appB _ rfl (.tmp 65) (.tmp 67) rfl w.heap.size A2 k c2 _ rfl hoa _ 1 1 [UInt8.ofNat y] rfl hlit.sl ?_ ?_ ?_)
                · omega
                · first | (have := hsz; omega) | (rw [World.size_alloc]; omega) | trace_state
                intro A3 c3 w3 ho3 hg3 _
                go_wp2
                go_roundw
                case rel =>
                  refine ⟨k + 1, by omega, by go_num, (hbx.alloc hsz _).grown hg3 (by simp; omega) (fun q hq => (Own.lt hoa q hq).1), Own.grown hxa hg3 (own_apart hxa hoa (by decide)), A3, c3, rfl, ?_⟩
                  rw [Hbs.out]
                  exact ho3
                case measure => simp [intOf]; omega
              | succ tt =>
                have hpt := partN_lt s k (tt + 1) (by omega)
                have hst := partN_step s k tt (by omega)
                obtain ⟨y, hy⟩ : ∃ y, partN s k (tt + 1) = y := ⟨_, rfl⟩
                rw [hy] at hpt hst
                rw [hy]
                have hkt : 8 * k + tt < 8 * sz := by omega
                obtain ⟨gg, oo, uu, eA, _, _, hu, hcl, _⟩ := Own.place Hox.out hkt
                obtain ⟨rfl, rfl⟩ : w.heap.size = gg ∧ 0 = oo := by simpa using eA
                rw [bv_get s _ (by omega)] at hu
                obtain rfl := Option.some.inj hu
                rw [Nat.zero_add] at hcl
                have Hst := Lib.hid hst
                clear hst hy hu eA
                cases hbit : s[8 * k + tt]?.getD false with
                | true =>
                  rw [hbit] at hcl
                  have Hbit := Lib.hid hbit
                  clear hbit
                  go_wp2
                  go_round
                  case rel => exact ⟨tt, by omega, rfl, by rw [Hst.out, Hbit.out]; congr 1; simp <;> omega⟩
                  case measure => simp [intOf] <;> omega
                | false =>
                  rw [hbit] at hcl
                  have Hbit := Lib.hid hbit
                  clear hbit
                  go_wp2
                  go_round
                  case rel => exact ⟨tt, by omega, rfl, by rw [Hst.out, Hbit.out]; congr 1; simp <;> omega⟩
                  case measure => simp [intOf] <;> omega
          · obtain rfl : k = sz := by omega
            have hkE := HE2.out
            have hsz : w.heap.size ≤ wr.heap.size := hbx.size
            have hlit : OwnB (wr.alloc (.cells #[.int .u8 (p : Int)] 5)) w.heap.size (some ⟨wr.heap.size, 0, none⟩) 1 1 [UInt8.ofNat p] :=
              Own.lit wr _ _ 1 _ _ hsz rfl (by unfold maxLen; omega) (by simp [bc]; omega)
            have hba := (Below.refl wr.heap.size wr).alloc (Nat.le_refl _) (.cells #[.int .u8 (p : Int)] 5)
            have hoa : OwnB (wr.alloc (.cells #[.int .u8 (p : Int)] 5)) w.heap.size A2 k c2 (bytesN s k) := Own.below ho2 hba
            clear ho2 hox
            go_wp2_with fail
            refine (Hpb.out _).mono ?_
            rintro e w' ⟨rfl, rfl⟩
            go_wp2_with (at_builtin; refine wpList_appB _ rfl (.tmp 70) (.tmp 74) rfl w.heap.size A2 k c2 _ rfl hoa _ 1 1 [UInt8.ofNat p] rfl hlit.sl ?_ ?_ ?_)
            · omega
            · simp; omega
            intro A3 c3 w3 ho3 hg3 _
            go_wp2
            go_ret
            rw [Hs.out]
            exact ⟨A3, _, c3, rfl, ho3, (hbx.alloc hsz _).grown hg3 (by simp; omega) (fun q hq => (Own.lt hoa q hq).1)⟩
end Go.Proofs.YtpffieogkfndaaaGreatDoor

namespace Go.Proofs.YtpffieogkfndaaaGreatDoor
set_option maxRecDepth 20000
set_option linter.unusedVariables false
set_option linter.unusedSimpArgs false
theorem sub_out (P : List UInt8) (k : Nat) (y : UInt8) (o n : Nat) (h : k < o ∨ o + n ≤ k) : ((P.set k y).drop o).take n = (P.drop o).take n := by
  rw [List.drop_set]
  split
  · rfl
  · rw [List.take_set, List.set_eq_of_length_le (by simp; omega)]
theorem sub_in (P : List UInt8) (k : Nat) (y : UInt8) (o n : Nat) (h : o ≤ k) : ((P.set k y).drop o).take n = ((P.drop o).take n).set (k - o) y := by
  rw [List.drop_set, if_neg (by omega), List.take_set]
theorem sub_get (P : List UInt8) (k o n : Nat) (h : o ≤ k) (h2 : k < o + n) (hk : k < P.length) (hq : k - o < ((P.drop o).take n).length) : ((P.drop o).take n)[k - o] = P[k] := by
  simp only [List.getElem_take, List.getElem_drop]
  congr 1
  omega
/-- a seal of which one byte is another one is none -/
theorem sub_clash {P t u : List UInt8} {k o n q : Nat} {y : UInt8} (hk : k < P.length) (hy : y ≠ P[k]) (h1 : o ≤ k) (h2 : k < o + n) (hs : openL ((P.drop o).take n) = (t, 0)) (h : openL (((P.set k y).drop o).take n) = (u, q)) : q = 5 := by
  rw [sub_in P k y o n h1, open_inv hs] at h
  have hl : k - o < ((P.drop o).take n).length := by simp; omega
  have hl2 : k - o < (closeL t).length := by rw [← open_inv hs]; exact hl
  rw [open_spoilt t (k - o) y hl2 (by
    intro e
    apply hy
    rw [e]
    have := sub_get P k o n h1 h2 hk hl
    simp only [open_inv hs] at this
    exact this)] at h
  exact (Prod.mk.inj h).2.symm
theorem tab_sec {l : List EntL} {sp : List SpanL} (hc : checkTabL l sp = 0) : sectionsL (tabBytesL l sp) = some (partsL l sp) := by
  obtain ⟨c1, c2, c3, c4, c5, c6⟩ := checkTab_zero hc
  have hn : leafCount l ≤ 126 := by unfold leafCount; omega
  have b1 := leaves_len c4 (leafCount l)
  have b2 := index_len c4 (leafCount l) (Nat.le_refl _)
  have b3 := build_len (usersL l)
  have b4 := ranges_len c6
  have b5 : (usersL l).length = l.length := by simp [usersL]
  exact sections_of _ _ _ _ (by omega) (by rw [closeL_len]; omega) (by rw [closeL_len]; omega) (by rw [closeL_len]; omega)
theorem sec_some {p : List UInt8} {a b c d : List UInt8} (h : sectionsL p = some [a, b, c, d]) : 23 ≤ p.length ∧ (openL (p.drop (p.length - 23))).2 = 0 ∧ secAt (openL (p.drop (p.length - 23))).1 4 = p.length - 23 ∧
    a = (p.drop (secAt (openL (p.drop (p.length - 23))).1 0)).take (secN (openL (p.drop (p.length - 23))).1 0) ∧ b = (p.drop (secAt (openL (p.drop (p.length - 23))).1 1)).take (secN (openL (p.drop (p.length - 23))).1 1) ∧
    c = (p.drop (secAt (openL (p.drop (p.length - 23))).1 2)).take (secN (openL (p.drop (p.length - 23))).1 2) ∧ d = (p.drop (secAt (openL (p.drop (p.length - 23))).1 3)).take (secN (openL (p.drop (p.length - 23))).1 3) := by
  unfold sectionsL at h
  split at h
  · cases h
  · rename_i g1
    split at h
    · cases h
    · rename_i g2
      split at h
      · rename_i g3
        injection h with h
        rw [show List.range 4 = [0, 1, 2, 3] from rfl] at h
        simp only [List.map_cons, List.map_nil] at h
        injection h with e1 h
        injection h with e2 h
        injection h with e3 h
        injection h with e4 _
        exact ⟨by omega, by omega, g3, e1.symm, e2.symm, e3.symm, e4.symm⟩
      · cases h
theorem find_page (f : Nat → Nat) (k : Nat) : ∀ n, f 0 ≤ k → k < f n → ∃ i, i < n ∧ f i ≤ k ∧ k < f (i + 1)
  | 0, h0, h => by omega
  | n + 1, h0, h => by
    by_cases q : f n ≤ k
    · exact ⟨n, by omega, q, h⟩
    · obtain ⟨i, h1, h2, h3⟩ := find_page f k n h0 (by omega)
      exact ⟨i, by omega, h2, h3⟩
theorem entries_each {p : List UInt8} : ∀ {xs : List PageL} {l : List EntL}, entriesL p xs = some l → ∀ x ∈ xs, ∃ c, leafAtL p x = some c
  | [], _, _, x, hx => by cases hx
  | y :: xs, l, h, x, hx => by
    unfold entriesL at h
    split at h
    · cases h
    · rename_i c hc
      rcases List.mem_cons.1 hx with rfl | hx
      · exact ⟨c, hc⟩
      · obtain ⟨m, hm, _⟩ := Option.map_eq_some_iff.1 h
        exact entries_each hm x hx
theorem leafAt_some {p : List UInt8} {x : PageL} {c : List EntL} (h : leafAtL p x = some c) : (openL ((p.drop x.lo).take (x.hi - x.lo))).2 = 0 := by
  unfold leafAtL at h
  split at h
  · cases h
  · split at h
    · cases h
    · rename_i q
      omega
/-- A TABLE OF WHICH ONE BYTE IS ANOTHER ONE IS NONE -/
theorem tab_byte {l : List EntL} {sp : List SpanL} (hc : checkTabL l sp = 0) {P : List UInt8} (hP : tabBytesL l sp = P) {k : Nat} {y : UInt8} (hk : k < P.length) (hy : y ≠ P[k]) {l' : List EntL} {sp' : List SpanL} (hc' : checkTabL l' sp' = 0) : tabBytesL l' sp' ≠ P.set k y := by
  intro hp'
  obtain ⟨a', b', c', d', g1, g2, g3, g4, g5, g6, g7⟩ := tab_fwd hc' hp'
  have hs := tab_sec hc
  rw [hP] at hs
  unfold partsL at hs
  obtain ⟨s1, s2, s3, sa, sb, sc, sd⟩ := sec_some hs
  obtain ⟨t1, t2, t3, ta, tb, tc, td⟩ := sec_some g1
  rw [List.length_set] at t1 t2 t3 ta tb tc td
  have hfull : ∀ q : List UInt8, q.length = P.length → q.drop (P.length - 23) = (q.drop (P.length - 23)).take 23 := fun q hq => by rw [List.take_of_length_le (by simp; omega)]
  by_cases hf : P.length - 23 ≤ k
  · obtain ⟨u, hu⟩ : ∃ u, openL (P.drop (P.length - 23)) = (u, 0) := ⟨_, Prod.ext rfl s2⟩
    obtain ⟨v, hv⟩ : ∃ v, openL ((P.set k y).drop (P.length - 23)) = (v, 0) := ⟨_, Prod.ext rfl t2⟩
    rw [hfull P rfl] at hu
    rw [hfull (P.set k y) (by simp)] at hv
    have := sub_clash hk hy hf (by omega) hu hv
    omega
  have hE : (P.set k y).drop (P.length - 23) = P.drop (P.length - 23) := by
    rw [hfull P rfl, hfull (P.set k y) (by simp)]
    exact sub_out P k y _ _ (.inl (by omega))
  rw [hE] at ta tb tc td t3
  obtain ⟨E, hEE⟩ : ∃ E, (openL (P.drop (P.length - 23))).1 = E := ⟨_, rfl⟩
  rw [hEE] at s3 sa sb sc sd ta tb tc td t3
  have e0 : secAt E 0 = 0 := rfl
  have e1 : secAt E 1 = secAt E 0 + secN E 0 := secAt_succ E 0
  have e2 : secAt E 2 = secAt E 1 + secN E 1 := secAt_succ E 1
  have e3 : secAt E 3 = secAt E 2 + secN E 2 := secAt_succ E 2
  have e4 : secAt E 4 = secAt E 3 + secN E 3 := secAt_succ E 3
  have clash : ∀ (o n : Nat) (t u : List UInt8), o ≤ k → k < o + n → openL ((P.drop o).take n) = (t, 0) → openL (((P.set k y).drop o).take n) = (u, 0) → False := fun o n t u h1 h2 h3 h4 => by
    have := sub_clash hk hy h1 h2 h3 h4
    omega
  have nb : ¬ (secAt E 1 ≤ k ∧ k < secAt E 1 + secN E 1) := fun h => clash _ _ (indexN l (leafCount l)) _ h.1 h.2 (by rw [← sb]; exact open_shut _) (by rw [← tb]; exact g2)
  have nc : ¬ (secAt E 2 ≤ k ∧ k < secAt E 2 + secN E 2) := fun h => clash _ _ (buildL 10 (usersL l)) _ h.1 h.2 (by rw [← sc]; exact open_shut _) (by rw [← tc]; exact g3)
  have nd : ¬ (secAt E 3 ≤ k ∧ k < secAt E 3 + secN E 3) := fun h => clash _ _ (rangesL sp) _ h.1 h.2 (by rw [← sd]; exact open_shut _) (by rw [← td]; exact g4)
  have hk0 : k < secN E 0 := by omega
  have hla : (leavesN l (leafCount l)).length = secN E 0 := by
    rw [sa, e0, List.drop_zero, List.length_take, Nat.min_eq_left (by omega)]
  have hbb : b' = closeL (indexN l (leafCount l)) := by
    rw [tb, sb]
    exact sub_out P k y _ _ (.inl (by omega))
  rw [hbb, open_shut] at g2
  have hix := (Prod.mk.inj g2).1
  obtain ⟨c1, c2, c3, c4, c5, c6⟩ := checkTab_zero hc
  rw [← hix, pages_of c4] at g5
  have hpg := Option.some.inj g5
  rw [← hpg] at g7
  obtain ⟨i, hi, hi1, hi2⟩ := find_page (fun i => (leavesN l i).length) k (leafCount l) (by simp [leavesN]) (by show k < (leavesN l (leafCount l)).length; omega)
  obtain ⟨c, hcc⟩ := entries_each g7 (pageL l i) (List.mem_map.2 ⟨i, List.mem_range.2 hi, rfl⟩)
  have hown : leafAtL P (pageL l i) = some (chunkL l i) := by
    have : P = leavesN l (leafCount l) ++ ([closeL (indexN l (leafCount l)), closeL (buildL 10 (usersL l)), closeL (rangesL sp)].flatten ++ footL (partsL l sp)) := by
      rw [← hP]
      unfold tabBytesL partsL
      rw [List.flatten_cons, List.append_assoc]
    rw [this]
    exact leafAt_of c4 c5 _ i hi
  have q1 := leafAt_some hcc
  have q2 := leafAt_some hown
  exact clash _ _ _ _ hi1 (by show k < (leavesN l i).length + ((leavesN l (i + 1)).length - (leavesN l i).length); have h1 : (leavesN l i).length ≤ k := hi1; have h2 : k < (leavesN l (i + 1)).length := hi2; omega) (Prod.ext rfl q2) (Prod.ext rfl q1)
end Go.Proofs.YtpffieogkfndaaaGreatDoor
