/-
  Build of a table. (Printed by gentabbuild.py.) The seals' table lies in its variable; no other condition but sizes.
-/
import Derived.Test.YtpffieogkfndaaaGreatDoorJTabBox
import Derived.Test.YtpffieogkfndaaaGreatDoorJRowsL
import Derived.Test.YtpffieogkfndaaaGreatDoorJKeyAfterW
import Derived.Test.YtpffieogkfndaaaGreatDoorJSealRef
namespace Go.Proofs.YtpffieogkfndaaaGreatDoor
open Go.RowKit
set_option maxRecDepth 20000
set_option linter.unusedVariables false
set_option linter.unusedSimpArgs false
attribute [local go_sem] Oper.semAt_some
/-- the deferred row of a range over a function stands, empty -/
def Mk (D : Nat) (w : World) : Prop := w.heap[D]? = some (.deferred (some []))
theorem Mk.keep {D : Nat} {w w' : World} (h : Mk D w) (k : KeepsOthers w w') : Mk D w' := k.same D _ h rfl
theorem Mk.below {D : Nat} {w w' : World} (h : Mk D w) (hb : Below w.heap.size w w') : Mk D w' := h.keep (keeps_below hb)
def EndRel (w9 : World) (ps : List (List UInt8)) (ov iv : Value) (wr : World) : Prop :=
  ∃ (j : Nat) (A : Option Addr) (n c : Nat), iv = .int .i64 (j : Int) ∧ ov = .slice A n c ∧ j ≤ 4 ∧ Below w9.heap.size w9 wr ∧ OwnB wr w9.heap.size A n c ((ps.take j).flatMap fun p => le4 p.length)
def fourC (n : Nat) (e : TypeId) : Obj := .cells #[.int .u8 ((n : Int) % 256), .int .u8 ((n : Int) / 256 % 256), .int .u8 ((n : Int) / 65536), .int .u8 ((n : Int) / 16777216)] e
theorem four_lit (w : World) (n : Nat) (hn : n ≤ 700000) (e : TypeId) : Sl (w.alloc (fourC n e)) 1 (some ⟨w.heap.size, 0, none⟩) 4 4 (bc (le4 n)) := by
  refine Sl.lit w _ _ 4 _ _ (by simp [le4]) (by unfold maxLen; omega) ?_
  simp [bc, le4]
  try omega
/-- two boxes side by side -/
def BB (b : Nat) (v v' : Value) (w : World) : Prop := Bx1 w b v ∧ Bx1 w (b + 1) v'
theorem BB.below {b : Nat} {v v' : Value} {w w' : World} (h : BB b v v' w) (hb : Below w.heap.size w w') : BB b v v' w' := ⟨h.1.below hb, h.2.below hb⟩
theorem BB.grown {b : Nat} {v v' : Value} {w w' : World} (h : BB b v v' w) {row : Option Nat} (hg : w.grownBy w' row) (hne : ∀ k, row = some k → b + 1 < k) : BB b v v' w' :=
  ⟨h.1.grown hg (fun q => by have := hne _ q; omega), h.2.grown hg (fun q => by have := hne _ q; omega)⟩
/-- a post that only a normal end meets -/
def calm1 (Q : Exit → Act → World → Prop) : Exit → Act → World → Prop
  | .normal, a, w => Q .normal a w
  | _, _, _ => False
theorem calm1_post {Q : Exit → Act → World → Prop} : ∀ (e : Exit) (a : Act) (w : World), calm1 Q e a w → Q e a w := fun e _ _ h => by cases e <;> first | exact h | exact h.elim
theorem calm1_normal {Q : Exit → Act → World → Prop} {a : Act} {w : World} (h : Q .normal a w) : calm1 Q .normal a w := h
def noDefer (ops : Array Oper) : Bool := ops.toList.all fun o => match o.op with
  | .defer _ => false
  | _ => true
theorem noDefer_spec {ops : Array Oper} (h : noDefer ops = true) : ∀ (i : Nat) (o : Oper) c, ops[i]? = some o → o.op ≠ .defer c := fun i o c hi q => by
  have h1 := List.all_eq_true.1 h o (Array.mem_toList_iff.2 (Array.mem_of_getElem? hi))
  rw [q] at h1
  cases h1
/-- two texts in a list of two -/
theorem two_parts {w : World} {A A' : Option Addr} {n c n' c' : Nat} {l l' : List UInt8} (h : Sl w 1 A n c (bc l)) (h' : Sl w 1 A' n' c' (bc l')) (e : TypeId) :
    Sl (w.alloc (.cells #[.slice A n c, .slice A' n' c'] e)) 1 (some ⟨w.heap.size, 0, none⟩) 2 2 [.slice A n c, .slice A' n' c'] ∧ PartsOf (w.alloc (.cells #[.slice A n c, .slice A' n' c'] e)) [.slice A n c, .slice A' n' c'] [l, l'] := by
  have al := (Below.refl w.heap.size w).alloc (Nat.le_refl _) (.cells #[.slice A n c, .slice A' n' c'] e)
  exact ⟨Sl.lit w _ _ 2 _ _ rfl (by unfold maxLen; omega) rfl, parts_cons (h.below (by omega) al) (parts_cons (h'.below (by omega) al) (parts_nil _))⟩
set_option maxHeartbeats 64000000 in
theorem tbuild_any (w : World) (p : Nat → Prop) (A : Option Addr) (n c : Nat) (ls : List EntL) (h : SlR w p A n c ls) (p' : Nat → Prop) (A' : Option Addr) (n' c' : Nat) (sp : List SpanL) (h' : SlR w p' A' n' c' sp) (hq : Quarter w) :
    Calls Tryz.prog 13 #[.slice A n c, .slice A' n' c'] w (GotBE w (tabBE ls sp).1 (tabBE ls sp).2) := by
  obtain ⟨R1, hR1⟩ : ∃ r, (tabBE ls sp).1 = r := ⟨_, rfl⟩
  obtain ⟨R2, hR2⟩ : ∃ r, (tabBE ls sp).2 = r := ⟨_, rfl⟩
  rw [hR1, hR2]
  have ck := tcheck_any w p A n c ls h p' A' n' c' sp h'
  have hl := h.lenR
  have hl' := h'.lenR
  have hcp := h.cap
  have hcp' := h'.cap
  unfold maxLen at hcp hcp'
  by_cases hc : checkTabL ls sp = 0
  case neg =>
    have e1 : tabBE ls sp = ([], checkTabL ls sp) := by unfold tabBE; rw [if_neg hc]
    rw [e1] at hR1 hR2
    subst hR1 hR2
    simp only
    generalize checkTabL ls sp = q at *
    have t1 : ((q : Int) == 0) = false := by simp; omega
    have t2 : ((q : Int) != 0) = true := by simp; omega
    have Ck := Lib.hid ck
    clear hc ck e1 hl hl' h h'
    go_enter Tryz.func13, Tryz.ntmps13
    go_wp2_with fail
    refine Ck.out.mono ?_
    rintro e w1 ⟨rfl, hb1⟩
    go_wp2
    go_ret2
    exact ⟨none, 0, 0, rfl, Own.nil _ _ _ _ _, hb1⟩
  have e1 : tabBE ls sp = (tabBytesL ls sp, 0) := by unfold tabBE; rw [if_pos hc]
  rw [e1] at hR1 hR2
  obtain ⟨c1, c2, -, c4, c5, c6⟩ := checkTab_zero hc
  rw [hc] at ck
  have HR1 := Lib.hid hR1
  subst hR2
  have C4 := Lib.hid c4
  have C5 := Lib.hid c5
  have C6 := Lib.hid c6
  have hn : n ≤ 1000 := by omega
  have hn' : n' ≤ 1000 := by omega
  have Hl := Lib.hid hl
  have Hl' := Lib.hid hl'
  have Ck := Lib.hid ck
  have hlc : leafCount ls ≤ 126 := by unfold leafCount; omega
  have hK : leafCount ls = (n + 7) / 8 := by unfold leafCount; rw [Hl.out]
  have HQ := Lib.hid hq
  have hmix : Tryz.prog.follows .mixedOrders = true := by kernel_rfl
  clear hc ck e1 hR1 c1 c2 c4 c5 c6 hl hl'
  refine (callsIn_wide (n := 5)).1 ?_
  refine callsIn_of_wp_marks Tryz.func13 rfl trivial ?_ rfl
  simp only [Tryz.ntmps13, List.size_toArray, List.length_cons, List.length_nil, Nat.reduceAdd, Nat.reduceSub, Array.replicate_succ, Array.replicate_zero, List.push_toArray, List.append_toArray, List.nil_append, List.cons_append]
  refine wpIn_wide.2 ?_
  go_wp2_with fail
  refine Ck.out.mono ?_
  rintro e w0 ⟨rfl, hb0⟩
  have h := h.below hb0
  have h' := h'.below hb0
  have hq := hq.below hb0
  clear Ck
  have k7 := Bx1.fresh w0 (.slice none 0 0) 29
  have k8 := Bx1.fresh (w0.alloc (.cells #[.slice none 0 0] 29)) (.slice none 0 0) 29
  have k7 := k7.alloc (.cells #[.slice none 0 0] 29)
  have hs2 : ((w0.alloc (.cells #[.slice none 0 0] 29)).alloc (.cells #[.slice none 0 0] 29)).heap.size = w0.heap.size + 2 := by simp
  have hb2 := ((Below.refl w0.heap.size w0).alloc (Nat.le_refl _) (.cells #[.slice none 0 0] 29)).alloc (by simp) (.cells #[.slice none 0 0] 29)
  rw [World.size_alloc] at k8
  go_wp2_with fail
  generalize hW2 : ((w0.alloc (.cells #[.slice none 0 0] 29)).alloc (.cells #[.slice none 0 0] 29)) = w2 at *
  try rw [hW2]
  clear hW2
  refine (chunk_any w2 A n c).mono ?_
  rintro e w4 ⟨rfl, rfl⟩
  have q1 := Bx1.fresh w2 (.slice A n c) 22
  have q2 := Bx1.fresh (w2.alloc (.cells #[.slice A n c] 22)) (.int .i64 8) 3
  have q1 := q1.alloc (.cells #[.int .i64 8] 3)
  have k7 := (k7.alloc (.cells #[.slice A n c] 22)).alloc (.cells #[.int .i64 8] 3)
  have k8 := (k8.alloc (.cells #[.slice A n c] 22)).alloc (.cells #[.int .i64 8] 3)
  have hs4 : ((w2.alloc (.cells #[.slice A n c] 22)).alloc (.cells #[.int .i64 8] 3)).heap.size = w2.heap.size + 2 := by simp
  have hb4 := ((Below.refl w2.heap.size w2).alloc (Nat.le_refl _) (.cells #[.slice A n c] 22)).alloc (by simp) (.cells #[.int .i64 8] 3)
  rw [World.size_alloc] at q2
  generalize hW4 : ((w2.alloc (.cells #[.slice A n c] 22)).alloc (.cells #[.int .i64 8] 3)) = w4 at *
  clear hW4
  have hb4 := hb2.trans (hb4.mono (by omega))
  clear hb2
  go_wp2_with fail
  refine (wpIn_wide (n := 5)).1 ?_
  refine range_one rfl (by omega) (p := 34) (q := 11) (gf := 78) ?hg trivial (enters_of Tryz.func78 (by kernel_rfl) rfl)
    (chunk_stops _ (by omega) w2.heap.size (w2.heap.size + 1) A n c (leafCount ls) hK hn hcp.1 hcp.2 w4 q1.1 q2.1) keep2_t (keep2_b (by omega) (by omega)) (Below.refl _ _)
    (fun pre W => ChI w0 w4.heap.size w0.heap.size (w0.heap.size + 1) ls pre W)
    (fun _ _ _ => False)
    (chI_from _ _ _ _ _ (by omega) (by omega) (by omega))
    (fun _ _ _ _ _ hs _ _ => hs)
    ⟨⟨none, 0, 0, none, 0, 0, k7, k8, Own.nil _ _ _ _ _, Own.nil _ _ _ _ _, fun b q => by simp [blk] at q⟩, hb4, Nat.le_refl _⟩ (by simp) ?body ?done ?stop
  case hg => rw [hs2]; rfl
  case body =>
    rintro l pre x W ⟨⟨A2, n2, c2, A3, n3, c3, x7, x8, ho2, ho3, hap⟩, hB, hZ⟩ hpl
    obtain ⟨x, hx⟩ := x
    have sc := chunk_row (h.below hB) (x := x) (by omega)
    obtain ⟨m, hm⟩ : ∃ m, min 8 (n - 8 * x) = m := ⟨_, rfl⟩
    simp only [chunkVal, hm]
    rw [hm] at sc
    generalize A.map (·.add (8 * x * 4)) = Ac at *
    have hm1' : 0 < m := by omega
    have hm8 : m ≤ 8 := by omega
    have cb := build12_any W p Ac m m (chunkL ls x) sc
    rw [leaf_ok (chunk_check C4.out C5.out x)] at cb
    unfold GotBE at cb
    have hcl := sc.lenR
    have hlk : lastKey (chunkL ls x) = ((chunkL ls x)[m - 1]'(by omega)).key := by
      unfold lastKey
      rw [show (chunkL ls x).length - 1 = m - 1 by omega, List.getElem?_eq_getElem (by omega)]
      rfl
    have hkk : checkKey (lastKey (chunkL ls x)) = 0 := by
      obtain ⟨e, he, hk⟩ := lastKey_mem (l := ls) (i := x) hx
      rw [← hk]
      exact (C4.out e he).1
    have hsl := sealed_len ls C4.out x
    have hsn : sealedL ls x = closeL (leafBytesL (chunkL ls x)) := rfl
    have hnx : ((pre ++ [(⟨x, hx⟩ : Fin (leafCount ls))]).flatMap fun y => sealedL ls y.val) = (pre.flatMap fun y => sealedL ls y.val) ++ closeL (leafBytesL (chunkL ls x)) := by rw [List.flatMap_append, ← hsn]; simp
    have hix : ((pre ++ [(⟨x, hx⟩ : Fin (leafCount ls))]).flatMap fun y => lineL ls y.val) = (pre.flatMap fun y => lineL ls y.val) ++ [keyBytesL (lastKey (chunkL ls x)), numL (closeL (leafBytesL (chunkL ls x))).length].flatten := by
      rw [List.flatMap_append, ← hsn]
      simp [lineL]
    have hl2 := pre_len C4.out pre
    have hl3 := pre_line C4.out (Nat.le_refl _) pre
    have hln := line_len C4.out x hx
    have hn2 : n2 ≤ 700000 := by have := OwnB.len' ho2; omega
    have hn3 : n3 ≤ 20000 := by have := OwnB.len' ho3; omega
    rw [hsn] at hsl
    have hsll := closeL_len (leafBytesL (chunkL ls x))
    have hll : lineL ls x = keyBytesL (lastKey (chunkL ls x)) ++ numL (closeL (leafBytesL (chunkL ls x))).length := rfl
    rw [hll, List.length_append] at hln
    have hR := RT.refl (b1 := w2.heap.size) (b2 := w2.heap.size + 1) hB hZ
    generalize (pre.flatMap fun y => sealedL ls y.val) = ps at *
    generalize (pre.flatMap fun y => lineL ls y.val) = pl at *
    have hjl : [keyBytesL (lastKey (chunkL ls x)), numL (closeL (leafBytesL (chunkL ls x))).length].flatten.length ≤ 90 := by simp only [List.flatten_cons, List.flatten_nil, List.append_nil, List.length_append]; exact hln
    have Cb := Lib.hid cb
    have Hlk := Lib.hid hlk
    have Hkk := Lib.hid hkk
    have Hnx := Lib.hid hnx
    have Hix := Lib.hid hix
    generalize leafBytesL (chunkL ls x) = lb at *
    generalize lastKey (chunkL ls x) = lk at *
    have hlb : lb.length ≤ 5000 := by omega
    clear cb hlk hkk hnx hix hsn hsll hl2 hl3 hm hll
    have hqW := hq.below hB
    gi_wp2_with fail
    refine ⟨trivial, CallsIn.inRound l (callsIn_wide.2 (Cb.out.mono ?_))⟩
    rintro e w5 ⟨A4, n4, c4, rfl, ho4, hb⟩
    have hR := hR.below (by omega) (by omega) hb
    have sc := sc.below hb
    have x7 := x7.below hb
    have x8 := x8.below hb
    have ho2 := Own.below ho2 hb
    have ho3 := Own.below ho3 hb
    have hqW := hqW.below hb
    have hn4 : n4 ≤ 5000 := by have := OwnB.len' ho4; omega
    have s4 := OwnB.sl ho4
    clear ho4 hb Cb
    gi_wp2_with fail
    refine ⟨trivial, CallsIn.inRound l (callsIn_wide.2 ((close_any w5 A4 n4 c4 lb s4 hqW (by omega)).mono ?_))⟩
    generalize closeL lb = sl at *
    rintro e w6 ⟨A5, n5, c5, rfl, ho5, hb⟩
    have hR := hR.below (by omega) (by omega) hb
    have hR6 := hR.sz
    have sc := sc.below hb
    have x7 := x7.below hb
    have x8 := x8.below hb
    have ho2 := Own.below ho2 hb
    have ho3 := Own.below ho3 hb
    have hn5 := OwnB.len' ho5
    have hn5l : n5 ≤ 5000 := by omega
    have s5 := OwnB.sl ho5
    have u5 := fun (b : Nat) (hn : 0 < n5) q => own_at (b := b) ho5 hn q
    clear ho5 hb s4 hqW
    obtain ⟨b, o, A6, n6, c6, A7, n7, c7, hkl, rfl, d0, d1, d2, d3, s6, _⟩ := sc.entAt (k := m - 1) (by omega)
    have ckb := kbytes_any w6 A6 n6 c6 _ s6
    rw [← Hlk.out, key_ok Hkk.out] at ckb
    have hk1 : ((chunkL ls x)[m - 1]'hkl).key.seq.toNat = lk.seq.toNat := by rw [Hlk.out]
    have hk2 : ((chunkL ls x)[m - 1]'hkl).key.kind.toNat = lk.kind.toNat := by rw [Hlk.out]
    rw [hk1] at d1
    rw [hk2] at d2
    unfold GotBE at ckb
    generalize lk.seq.toNat = ks at *
    generalize lk.kind.toNat = kd at *
    obtain ⟨m1, hm1e⟩ : ∃ m1, m - 1 = m1 := ⟨_, rfl⟩
    rw [hm1e] at d0 d1 d2 d3
    have em : (m : Int) - 1 = (m1 : Int) := by omega
    have hmm : m1 < m := by omega
    have Ckb := Lib.hid ckb
    clear ckb hk1 hk2 hm1e s6 Hlk
    gi_wp2_with fail
    refine ⟨trivial, CallsIn.inRound l (callsIn_wide.2 (Ckb.out.mono ?_))⟩
    rintro e w7 ⟨A8, n8, c8, rfl, ho8, hb⟩
    have hlt2 : ∀ b, blk A2 c2 = some b → b < w6.heap.size := fun b q => (Own.lt ho2 b q).2
    have hR := hR.below (by omega) (by omega) hb
    have s5 := s5.below (by omega) hb
    have x7 := x7.below hb
    have x8 := x8.below hb
    have ho2 := Own.below ho2 hb
    have ho3 := Own.below ho3 hb
    have hn8 := OwnB.len' ho8
    have hlt8 := fun (b : Nat) (hn : 0 < n8) q => own_at (b := b) ho8 hn q
    have s8 := OwnB.sl ho8
    have hR7 := hR.sz
    rw [hn5] at hjl
    rw [show sl.length = n5 from hn5] at Hix
    have HJ9 := Lib.hid hjl
    have HJL := Lib.hid (Nat.le_trans hjl (show 90 ≤ 1099511627776 by omega))
    clear hb d0 d1 d2 d3 Ckb sc ho8 hjl hn5
    obtain ⟨y1, y2⟩ := id x7
    gi_wp2_with (gi_at_builtin; refine wpListIn_appB _ rfl (.tmp 53) (.tmp 54) rfl w4.heap.size A2 n2 c2 _ rfl ho2 A5 n5 c5 _ rfl s5 ?_ ?_ ?_)
    · omega
    · exact hR7
    intro A9 c9 w9 ho9 hg9 hx9
    have hap9 := apart_new ho3 hap hx9
    have hM2 := fun (b : Nat) q => (Own.lt ho2 b q).1
    have ho3 := Own.grown ho3 hg9 (fun b hb q => hap b q hb)
    have s8 := s8.grown (by omega) hg9 (fun hn b hb q => by have := hlt2 b q; have := hlt8 b hn hb; omega)
    have x7 := x7.grown hg9 (fun q => by have := hM2 _ q; omega)
    have x8 := x8.grown hg9 (fun q => by have := hM2 _ q; omega)
    have hR := hR.own (by omega) (by omega) (by omega) ho2 hg9
    clear ho2 hg9 hx9 hap s5 hlt2 y1 y2 hM2
    obtain ⟨y1, y2⟩ := id x7
    gi_wp2_with fail
    clear y1 y2
    have s8 := s8.grown (by omega) (only_set (World.grownBy.refl w9 (some w0.heap.size)) 0 (.slice A9 (n2 + n5) c9)) (fun hn b hb q => by have := hlt8 b hn hb; have := Option.some.inj q; omega)
    have x7 := x7.set (.slice A9 (n2 + n5) c9)
    have x8 := x8.other (g := w0.heap.size) (by omega) 0 (.slice A9 (n2 + n5) c9)
    have ho9 := own_set ho9 (g := w0.heap.size) (j := 0) (by omega) (.slice A9 (n2 + n5) c9)
    have ho3 := own_set ho3 (g := w0.heap.size) (j := 0) (by omega) (.slice A9 (n2 + n5) c9)
    have hR := hR.set (b := w0.heap.size) (Nat.le_refl _) (by omega) (by omega) (.slice A9 (n2 + n5) c9)
    generalize hW9 : (w9.setCell ⟨w0.heap.size, 0, none⟩ (.slice A9 (n2 + n5) c9)) = w10 at *
    have bd := (Below.refl w10.heap.size w10).drew
    have s8 := s8.drew
    have x7 := x7.drew
    have hX := x8.drew
    have ho9 := Own.below ho9 bd
    have ho3 := Own.below ho3 bd
    have hR := hR.drew
    clear bd x8 hW9 hlt8
    generalize hW : w10.drew = wz at *
    have hwr5 : IntKind.u64.wrap (n5 : Int) = (n5 : Int) := by rw [IntKind.wrap_u64]; omega
    refine Code.wpIn_mono calm1_post ?_
    refine regionF_in (S := (fun j wa wb => j ≠ 9 → Bx1 wa (w0.heap.size + 1) (.slice A3 n3 c3) → Bx1 wb (w0.heap.size + 1) (.slice A3 n3 c3))) hmix (noDefer_spec (by kernel_rfl)) (fun ⟨_, _, h⟩ => h) ?_
    try rw [hW]
    clear hW
    refine takeM (i := 0) (v := ?_) rfl hX ?hy ?_
    case hy =>
      intro wS hSw
      obtain ⟨z1, z2⟩ := id hSw
      clear hSw
      go_simp
      try with_reducible rfl
    refine takeT (i := 1) (v := ?_) rfl ?hy ?_
    case hy => intro wS; go_simp; try with_reducible rfl
    refine takeT (i := 2) (v := ?_) rfl ?hy ?_
    case hy => intro wS; go_simp; try with_reducible rfl
    refine takeT (i := 3) (v := ?_) rfl ?hy ?_
    case hy => intro wS; go_simp; try with_reducible rfl
    refine takeT (i := 4) (v := ?_) rfl ?hy ?_
    case hy => intro wS; go_simp; try with_reducible rfl
    try simp only [List.getElem_toArray, List.getElem_cons_succ, List.getElem_cons_zero, Act.put, List.setIfInBounds_toArray, List.set_cons_zero, List.set_cons_succ]
    refine readyF (rs := [5]) (by kernel_rfl) (by simp) ?_
    refine AllF.cons rfl (fun K hK => ?_) AllF.nil
    go_simp
    refine (num_any n5 wz (by omega)).mono ?_
    rintro e wz_5 ⟨A11, n11, c11, rfl, ho11, hb⟩
    refine hK _ _ (fun _ => fun h => h.below hb) ?_
    clear hK K
    have hR := hR.below (by omega) (by omega) hb
    have hn11 := OwnB.len' ho11
    have s11 := OwnB.sl ho11
    clear ho11
    have hX := hX.below hb
    have s8 := s8.below (by omega) hb
    have x7 := x7.below hb
    have ho9 := Own.below ho9 hb
    have ho3 := Own.below ho3 hb
    clear hb
    refine readyF (rs := [6]) (by kernel_rfl) (by simp) ?_
    refine AllF.cons rfl (fun K hK => ?_) AllF.nil
    go_simp
    refine hK _ _ (fun _ => fun h => h.alloc _) ?_
    clear hK K
    have hb := (Below.refl wz_5.heap.size wz_5).alloc (Nat.le_refl _) (.cells #[.slice A8 n8 c8, .slice A11 n11 c11] 29)
    have hR := hR.below (by omega) (by omega) hb
    obtain ⟨sJ, pJ⟩ := two_parts s8 s11 29
    generalize (wz_5.alloc (.cells #[.slice A8 n8 c8, .slice A11 n11 c11] 29)) = wz_5_6 at *
    clear s11
    have hX := hX.below hb
    have s8 := s8.below (by omega) hb
    have x7 := x7.below hb
    have ho9 := Own.below ho9 hb
    have ho3 := Own.below ho3 hb
    clear hb
    clear s8
    refine readyF (rs := [7]) (by kernel_rfl) (by simp) ?_
    refine AllF.cons rfl (fun K hK => ?_) AllF.nil
    go_simp
    refine (ajoin_any wz_5_6 _ 2 2 _ _ sJ pJ (by omega) HJL.out).mono ?_
    rintro e wz_5_6_7 ⟨A12, n12, c12, rfl, ho12, hb⟩
    refine hK _ _ (fun _ => fun h => h.below hb) ?_
    clear hK K
    have hR := hR.below (by omega) (by omega) hb
    have hn12 := OwnB.len' ho12
    have s12 := OwnB.sl ho12
    clear ho12 sJ pJ
    have hX := hX.below hb
    have x7 := x7.below hb
    have ho9 := Own.below ho9 hb
    have ho3 := Own.below ho3 hb
    clear hb
    have hn12l : n12 ≤ 90 := by have := HJ9.out; omega
    refine readyF (rs := [8]) (by kernel_rfl) (by simp) ?_
    refine AllF.cons rfl (fun K hK => ?_) AllF.nil
    refine step_appB (by rfl) (.tmp 56) (.tmp 63) (by rfl) w4.heap.size A3 n3 c3 _ (by rfl) ho3 A12 n12 c12 _ (by rfl) s12 (by omega) hR.sz ?_
    intro A13 c13 wz_5_6_7_8 ho13 hg hx
    have hM3 := fun (b : Nat) q => (Own.lt ho3 b q).1
    refine hK _ _ (fun _ => fun h => h.grown hg (fun q => by have := hM3 _ q; omega)) ?_
    clear hK K
    have hap13 := apart_new ho9 (fun b q r => hap9 b r q) hx
    have ho9 := Own.grown ho9 hg (fun b hb q => hap9 b hb q)
    have x7 := x7.grown hg (fun q => by have := hM3 _ q; omega)
    have hX := hX.grown hg (fun q => by have := hM3 _ q; omega)
    have hR := hR.own (by omega) (by omega) (by omega) ho3 hg
    clear hg hx s12 hM3 hap9 ho3
    refine readyF (rs := [9]) (by kernel_rfl) (by simp) ?_
    refine AllF.cons rfl (fun K hK => ?_) AllF.nil
    obtain ⟨z1, z2⟩ := id hX
    go_simp
    refine hK _ _ (fun q => absurd rfl q) ?_
    clear hK K z1 z2
    have x8 := hX.set (.slice A13 (n3 + n12) c13)
    have x7 := x7.other (g := w0.heap.size + 1) (by omega) 0 (.slice A13 (n3 + n12) c13)
    have ho9 := own_set ho9 (g := w0.heap.size + 1) (j := 0) (by omega) (.slice A13 (n3 + n12) c13)
    have ho13 := own_set ho13 (g := w0.heap.size + 1) (j := 0) (by omega) (.slice A13 (n3 + n12) c13)
    have hR := hR.set (b := w0.heap.size + 1) (by omega) (by omega) (by omega) (.slice A13 (n3 + n12) c13)
    generalize hWe : (wz_5_6_7_8.setCell ⟨w0.heap.size + 1, 0, none⟩ (.slice A13 (n3 + n12) c13)) = wz_5_6_7_8_9 at *
    refine doneF (by kernel_rfl) ?_ _
    try simp only [List.getElem_toArray, List.getElem_cons_succ, List.getElem_cons_zero, Act.put, List.setIfInBounds_toArray, List.set_cons_zero, List.set_cons_succ]
    refine calm1_normal ?_
    have E9 := Lib.hid ho9
    have E13 := Lib.hid ho13
    have ER := Lib.hid hR
    have E7 := Lib.hid x7
    have E8 := Lib.hid x8
    have EA := Lib.hid hap13
    clear ho9 ho13 hR x7 x8 hap13
    gi_wp2
    refine ⟨ER.out.ko, ⟨ER.out.k1, ER.out.k2⟩, ⟨A9, n2 + n5, c9, A13, n3 + n12, c13, E7.out, E8.out, ?_, ?_, fun b q r => EA.out b r q⟩, ER.out.bl, ER.out.sz⟩
    · rw [Hnx.out, show w4.heap.size = w0.heap.size + 2 + 2 by omega]
      exact E9.out
    · rw [Hix.out]
      exact E13.out
  case stop =>
    rintro D cd pre W _ _ hf _
    exact hf.elim
  case done =>
    rintro D ys W hD rfl ⟨⟨A2, n2, c2, A3, n3, c3, x7, x8, ho2, ho3, -⟩, hB, hZ⟩ hMk
    have hMk : Mk D W := hMk
    rw [comeC_flat (sealedL ls) _ (Nat.le_refl _)] at ho2
    rw [comeC_flat (lineL ls) _ (Nat.le_refl _)] at ho3
    have ho2 : OwnB W w4.heap.size A2 n2 c2 (leavesN ls (leafCount ls)) := ho2
    have ho3 : OwnB W w4.heap.size A3 n3 c3 (indexN ls (leafCount ls)) := ho3
    obtain ⟨lv, hlv⟩ : ∃ lv, leavesN ls (leafCount ls) = lv := ⟨_, rfl⟩
    obtain ⟨ix, hix⟩ : ∃ ix, indexN ls (leafCount ls) = ix := ⟨_, rfl⟩
    rw [hlv] at ho2
    rw [hix] at ho3
    have Hlv := Lib.hid hlv
    have Hix := Lib.hid hix
    have h1 := h.below hB
    have h1' := h'.below hB
    have hbw := hb0.trans (hB.mono hb0.size)
    have s2 := OwnB.sl ho2
    have s3 := OwnB.sl ho3
    have hb78 : w0.heap.size + 1 < W.heap.size := by omega
    obtain ⟨g7, hg7⟩ : ∃ g7, w0.heap.size = g7 := ⟨_, rfl⟩
    rw [hg7] at x7 x8 hb78
    try rw [hg7]
    have HD : Hid (w.heap.size ≤ D) := Lib.hid (by have := hb0.size; omega)
    have U2 : Hid (∀ b, 0 < n2 → A2.map (·.block) = some b → g7 + 1 < b) := Lib.hid fun b hn q => by have := own_at (b := b) ho2 hn q; omega
    clear h h' hlv hix hB hZ hD ho2 ho3 k7 k8 q1 q2 hs2 hs4 hb4 hcp hcp' hK
    obtain ⟨w1, hw1⟩ : ∃ w1 : World, w1 = W := ⟨_, rfl⟩
    subst hw1
    go_wp2
    go_loopw [10, 67] (UsersRel w1 w1.heap.size ls n) (fun _ q _ => n - (intOf q).toNat)
    case atStart => exact ⟨0, none, 0, 0, rfl, rfl, Nat.zero_le _, Below.refl _ _, OwnL.nil _ _ _ _ _⟩
    case round =>
      obtain ⟨j, A4, n4, c4, rfl, rfl, hj, hbr1, ho4⟩ := hrel
      by_cases hlt1 : j < n
      case pos =>
        have hr : SlR wr (fun b => b < w1.heap.size) A n c ls := h1.move fun b hl _ => ⟨hbr1.block b hl, hl⟩
        obtain ⟨b, o, x, cs, rfl, hx, ⟨v, v', rfl, hk', hv⟩, hcell⟩ := hr.get hlt1
        obtain ⟨A5, n5, c5, rfl, s5, l5⟩ := hk'
        obtain ⟨A6, n6, c6, rfl, s6, _⟩ := hv
        obtain ⟨hjl, rfl⟩ := List.getElem?_eq_some_iff.1 hx
        have d0 : wr.cell? ⟨b, o + j * 4, none⟩ = some (.slice A5 n5 c5) := hcell 0 _ rfl
        have d1 : wr.cell? ⟨b, o + j * 4 + 1, none⟩ = some (.int .u64 (ls[j].key.seq.toNat : Int)) := hcell 1 _ rfl
        have d2 : wr.cell? ⟨b, o + j * 4 + 2, none⟩ = some (.int .u8 (ls[j].key.kind.toNat : Int)) := hcell 2 _ rfl
        have d3 : wr.cell? ⟨b, o + j * 4 + 3, none⟩ = some (.slice A6 n6 c6) := hcell 3 _ rfl
        have hst := users_snoc ls j hjl
        have hn4 : n4 ≤ 1000 := by have h2 := ho4.lenR; unfold usersL at h2; rw [List.length_map, List.length_take] at h2; omega
        clear hr hcell hx s6 x7 x8 s2 s3 hMk
        generalize ls[j].key.seq.toNat = ks at *
        generalize ls[j].key.kind.toNat = kd at *
        generalize ls[j].key.user = us at *
        have al := (Below.refl wr.heap.size wr).alloc (Nat.le_refl _) (.cells #[.slice A5 n5 c5, .int .u64 (ks : Int), .int .u8 (kd : Int), .slice A6 n6 c6] 69)
        have kB := Bx4.fresh wr (.slice A5 n5 c5) (.int .u64 (ks : Int)) (.int .u8 (kd : Int)) (.slice A6 n6 c6) 69
        have s5 := s5.below (by omega) al
        have ho4 := ho4.below al
        have hbr1 := hbr1.trans (al.mono hbr1.size)
        generalize hW : (wr.alloc (.cells #[.slice A5 n5 c5, .int .u64 (ks : Int), .int .u8 (kd : Int), .slice A6 n6 c6] 69)) = w3 at *
        have hrow := userRow w3 w1.heap.size A5 n5 c5 us s5 l5 29
        have al2 := (Below.refl w3.heap.size w3).alloc (Nat.le_refl _) (.cells #[.slice A5 n5 c5] 29)
        have ho4 := ho4.below al2
        have hbr1 := hbr1.trans (al2.mono hbr1.size)
        have Hst := Lib.hid hst
        clear hst al al2 s5 l5
        obtain ⟨x0, x1, x2, x3, x4⟩ := id kB
        go_wp2_with (at_builtin; (try rw [hW]); refine wpList_appL (α := List UInt8) _ rfl (.tmp 71) (.tmp 75) 78 rfl w1.heap.size w1.heap.size 29 _ 24 Tryz.underlying78 infoP rfl A4 n4 c4 _ rfl ho4 _ 1 1 [us] rfl hrow ?_ ?_ ?_ (Nat.le_refl _) ?_)
        · unfold maxLen; omega
        · omega
        · have := hbr1.size; rw [World.size_alloc] at this; omega
        intro A9 c9 w9 ho9 hg9 _
        have hbr9 := hbr1.grown hg9 hbr1.size (fun b hb => (ho4.lt b hb).1)
        rw [← Hst.out] at ho9
        clear x0 x1 x2 x3 x4 kB hrow ho4 hg9 d0 d1 d2 d3
        go_wp2
        go_roundw
        case rel => exact ⟨j + 1, A9, _, c9, by go_num, rfl, by omega, hbr9, ho9⟩
        case measure => simp [intOf]; omega
      obtain rfl : n = j := by omega
      rw [List.take_of_length_le (by have := Hl.out; omega)] at ho4
      obtain ⟨w2, hw2⟩ : ∃ w2 : World, w2 = wr := ⟨_, rfl⟩
      subst hw2
      have h2' := h1'.below hbr1
      have x7 := x7.below hbr1
      have x8 := x8.below hbr1
      have s2 := s2.below (by omega) hbr1
      have s3 := s3.below (by omega) hbr1
      have hMk := hMk.below hbr1
      have hbw := hbw.trans (hbr1.mono hbw.size)
      have hb78 : g7 + 1 < w2.heap.size := Nat.lt_of_lt_of_le hb78 hbr1.size
      clear h1 h1' hbr1 hlt1
      go_wp2
      go_loopw [9, 80] (RangesRel w2 sp n') (fun _ q _ => n' - (intOf q).toNat)
      case atStart => exact ⟨0, none, 0, 0, rfl, rfl, Nat.zero_le _, Below.refl _ _, Own.nil _ _ _ _ _⟩
      case round =>
        obtain ⟨j, A5, n5, c5, rfl, rfl, hj2, hbr2, ho5⟩ := hrel
        have hrl := ranges_len (sp := sp.take j) fun s hs => C6.out s (List.mem_of_mem_take hs)
        rw [List.length_take] at hrl
        have hn5 : n5 ≤ 160000 := by have := OwnB.len' ho5; omega
        by_cases hlt2 : j < n'
        case pos =>
          clear x7 x8 s2 s3 hMk ho4
          obtain ⟨b, o, A6, n6, c6, A7, n7, c7, hjl, rfl, d0, d1, d2, s6, l6, s7, l7⟩ := (show SlR wr (fun b => b < w2.heap.size) A' n' c' sp from (h2'.mono (q := fun _ => True) fun _ _ _ => trivial).move fun b hl _ => ⟨hbr2.block b hl, hl⟩).spanAt hlt2
          have hst := ranges_snoc sp j hjl
          have hxz := checkSpan_zero (C6.out sp[j] (List.getElem_mem hjl))
          generalize sp[j] = x at *
          have hst2 : rangesL (sp.take (j + 1)) = rangesL (sp.take j) ++ [textL x.lo, textL x.hi, numL x.seq.toNat].flatten := by rw [hst]; simp [rangeL]
          have hn6 : n6 ≤ 64 := by have := s6.lenb; omega
          have hn7 : n7 ≤ 64 := by have := s7.lenb; omega
          have t6 : (textL x.lo).length ≤ 100 := by have := num_len x.lo.length; unfold textL; rw [List.length_append]; omega
          have t7 : (textL x.hi).length ≤ 100 := by have := num_len x.hi.length; unfold textL; rw [List.length_append]; omega
          have t8 := num_len x.seq.toNat
          have hsl2 : x.seq.toNat < 18446744073709551616 := by omega
          have ct6 := fun w' A n c (h : Sl w' 1 A n c (bc x.lo)) hn => text_any w' A n c x.lo h hn
          have ct7 := fun w' A n c (h : Sl w' 1 A n c (bc x.hi)) hn => text_any w' A n c x.hi h hn
          have cn := fun w' => num_any x.seq.toNat w' hsl2
          generalize numL x.seq.toNat = tn at *
          generalize x.seq.toNat = s at *
          generalize textL x.lo = tl at *
          generalize textL x.hi = th at *
          generalize rangesL (sp.take j) = rj at *
          have hjl2 : [tl, th, tn].flatten.length ≤ 300 := by simp only [List.flatten_cons, List.flatten_nil, List.append_nil, List.length_append]; omega
          have HJ9 := Lib.hid hjl2
          have HJL := Lib.hid (Nat.le_trans hjl2 (show 300 ≤ 1099511627776 by omega))
          have hNe : Hid (∀ b, blk A5 c5 = some b → b ≠ wr.heap.size) := Lib.hid fun b q => by have := (Own.lt ho5 b q).2; omega
          have al := (Below.refl wr.heap.size wr).alloc (Nat.le_refl _) (.cells #[.slice A6 n6 c6, .slice A7 n7 c7, .int .u64 (s : Int)] 72)
          have kB := Bx.fresh wr (.slice A6 n6 c6) (.slice A7 n7 c7) (.int .u64 (s : Int)) 72
          have s6 := s6.below (by omega) al
          have s7 := s7.below (by omega) al
          have ho5 := Own.below ho5 al
          have hq := hbr2.trans (al.mono hbr2.size)
          generalize hW : (wr.alloc (.cells #[.slice A6 n6 c6, .slice A7 n7 c7, .int .u64 (s : Int)] 72)) = w3 at *
          have Hst := Lib.hid hst2
          have Ct6 := Lib.hid ct6
          have Ct7 := Lib.hid ct7
          have Cn := Lib.hid cn
          obtain ⟨x0, x1, x2, x3⟩ := id kB
          clear hst hst2 al ct6 ct7 cn hxz hsl2 hrl hjl2
          go_wp2_with fail
          try rw [hW]
          clear x0 x1 x2 x3 d0 d1 d2 hW
          have bd := (Below.refl w3.heap.size w3).drew
          have hX := kB.drew
          have s6 := s6.drew
          have s7 := s7.drew
          have ho5 := Own.below ho5 bd
          have hq := hq.drew
          clear bd kB
          generalize hW8 : w3.drew = w5 at *
          refine Code.wp_mono calm1_post ?_
          refine regionF (fun _ wa wb => Bx wa wr.heap.size (.slice A6 n6 c6) (.slice A7 n7 c7) (.int .u64 (s : Int)) → Bx wb wr.heap.size (.slice A6 n6 c6) (.slice A7 n7 c7) (.int .u64 (s : Int))) (by kernel_rfl) ?_
          rw [hW8]
          clear hW8
          refine takeT (i := 0) (v := ?_) rfl ?hy ?_
          case hy => intro wS; go_simp; try with_reducible rfl
          refine takeT (i := 1) (v := ?_) rfl ?hy ?_
          case hy => intro wS; go_simp; try with_reducible rfl
          refine takeP (i := 2) (v := ?_) rfl hX ?hy ?_
          case hy =>
            intro wS hSw
            obtain ⟨x0, x1, x2, x3⟩ := id hSw
            clear hSw
            go_simp
            try with_reducible rfl
          refine takeT (i := 4) (v := ?_) rfl ?hy ?_
          case hy => intro wS; go_simp; try with_reducible rfl
          refine takeP (i := 5) (v := ?_) rfl hX ?hy ?_
          case hy =>
            intro wS hSw
            obtain ⟨x0, x1, x2, x3⟩ := id hSw
            clear hSw
            go_simp
            try with_reducible rfl
          refine takeT (i := 7) (v := ?_) rfl ?hy ?_
          case hy => intro wS; go_simp; try with_reducible rfl
          refine takeP (i := 8) (v := ?_) rfl hX ?hy ?_
          case hy =>
            intro wS hSw
            obtain ⟨x0, x1, x2, x3⟩ := id hSw
            clear hSw
            go_simp
            try with_reducible rfl
          try simp only [List.getElem_toArray, List.getElem_cons_succ, List.getElem_cons_zero, Act.put, List.setIfInBounds_toArray, List.set_cons_zero, List.set_cons_succ]
          refine readyF (rs := [3]) (by kernel_rfl) (by simp) ?_
          refine AllF.cons rfl (fun K hK => ?_) AllF.nil
          go_simp
          refine (Ct6.out w5 A6 n6 c6 s6 (by omega)).mono ?_
          rintro e w5_3 ⟨A8, n8, c8, rfl, ho8, hb⟩
          refine hK _ _ (fun h => h.below hb) ?_
          clear hK K
          have hX := hX.below hb
          have s7 := s7.below (by omega) hb
          have ho5 := Own.below ho5 hb
          have hq := hq.trans (hb.mono hq.size)
          have s8 := OwnB.sl ho8
          clear ho8 s6 hb
          refine readyF (rs := [6]) (by kernel_rfl) (by simp) ?_
          refine AllF.cons rfl (fun K hK => ?_) AllF.nil
          go_simp
          refine (Ct7.out w5_3 A7 n7 c7 s7 (by omega)).mono ?_
          rintro e w5_3_6 ⟨A10, n10, c10, rfl, ho10, hb⟩
          refine hK _ _ (fun h => h.below hb) ?_
          clear hK K
          have hX := hX.below hb
          have s8 := s8.below (by omega) hb
          have ho5 := Own.below ho5 hb
          have hq := hq.trans (hb.mono hq.size)
          have s10 := OwnB.sl ho10
          clear ho10 s7 hb
          refine readyF (rs := [9]) (by kernel_rfl) (by simp) ?_
          refine AllF.cons rfl (fun K hK => ?_) AllF.nil
          go_simp
          refine (Cn.out w5_3_6).mono ?_
          rintro e w5_3_6_9 ⟨A12, n12, c12, rfl, ho12, hb⟩
          refine hK _ _ (fun h => h.below hb) ?_
          clear hK K
          have hX := hX.below hb
          have s8 := s8.below (by omega) hb
          have s10 := s10.below (by omega) hb
          have ho5 := Own.below ho5 hb
          have hq := hq.trans (hb.mono hq.size)
          have s12 := OwnB.sl ho12
          clear ho12 hb
          refine readyF (rs := [10]) (by kernel_rfl) (by simp) ?_
          refine AllF.cons rfl (fun K hK => ?_) AllF.nil
          go_simp
          refine hK _ _ (fun h => h.below ((Below.refl _ _).alloc (Nat.le_refl _) _)) ?_
          clear hK K
          have hb := (Below.refl w5_3_6_9.heap.size w5_3_6_9).alloc (Nat.le_refl _) (.cells #[.slice A8 n8 c8, .slice A10 n10 c10, .slice A12 n12 c12] 29)
          have hX := hX.below hb
          have s8 := s8.below (by omega) hb
          have s10 := s10.below (by omega) hb
          have s12 := s12.below (by omega) hb
          have ho5 := Own.below ho5 hb
          have hq := hq.trans (hb.mono hq.size)
          have sJ : Sl (w5_3_6_9.alloc (.cells #[.slice A8 n8 c8, .slice A10 n10 c10, .slice A12 n12 c12] 29)) 1 (some ⟨w5_3_6_9.heap.size, 0, none⟩) 3 3 [.slice A8 n8 c8, .slice A10 n10 c10, .slice A12 n12 c12] := Sl.lit w5_3_6_9 _ _ 3 _ _ rfl (by unfold maxLen; omega) rfl
          have pJ := parts_cons s8 (parts_cons s10 (parts_cons s12 (parts_nil _)))
          generalize (w5_3_6_9.alloc (.cells #[.slice A8 n8 c8, .slice A10 n10 c10, .slice A12 n12 c12] 29)) = w5_3_6_9_10 at *
          clear hb s8 s10 s12
          refine readyF (rs := [11]) (by kernel_rfl) (by simp) ?_
          refine AllF.cons rfl (fun K hK => ?_) AllF.nil
          go_simp
          refine (ajoin_any w5_3_6_9_10 _ 3 3 _ _ sJ pJ (by omega) HJL.out).mono ?_
          rintro e w5_3_6_9_10_11 ⟨A13, n13, c13, rfl, ho13, hb⟩
          refine hK _ _ (fun h => h.below hb) ?_
          clear hK K
          have hX := hX.below hb
          have ho5 := Own.below ho5 hb
          have hq := hq.trans (hb.mono hq.size)
          have hn13 : n13 ≤ 300 := by have := OwnB.len' ho13; have := HJ9.out; omega
          have sx := OwnB.sl ho13
          clear ho13 hb sJ pJ
          refine readyF (rs := [12]) (by kernel_rfl) (by simp) ?_
          refine AllF.cons rfl (fun K hK => ?_) AllF.nil
          refine step_appB (by rfl) (.tmp 84) (.tmp 95) (by rfl) w2.heap.size A5 n5 c5 _ (by rfl) ho5 A13 n13 c13 _ (by rfl) sx (by omega) hq.size ?_
          intro A14 c14 w5_3_6_9_10_11_12 hoN hg _
          have hM := fun (b : Nat) q => (Own.lt ho5 b q).1
          have hLt := fun (b : Nat) q => (Own.lt ho5 b q).2
          refine hK _ _ (fun h => h.grownO hg (fun q => by have := hNe.out _ q; omega)) ?_
          clear hK K
          have hq := hq.grown hg hq.size hM
          clear hg hM hLt sx hX
          refine takeT (i := 13) (v := ?_) rfl ?hy ?_
          case hy => intro wS; go_simp; try with_reducible rfl
          try simp only [List.getElem_toArray, List.getElem_cons_succ, List.getElem_cons_zero, Act.put, List.setIfInBounds_toArray, List.set_cons_zero, List.set_cons_succ]
          refine doneF (by kernel_rfl) ?_ _
          try simp only [List.getElem_toArray, List.getElem_cons_succ, List.getElem_cons_zero, Act.put, List.setIfInBounds_toArray, List.set_cons_zero, List.set_cons_succ]
          refine calm1_normal ?_
          go_wp2
          go_roundw
          case rel => exact ⟨j + 1, A14, _, c14, by go_num, rfl, by omega, hq, by rw [Hst.out]; exact hoN⟩
          case measure => simp [intOf]; omega
        obtain rfl : n' = j := by omega
        rw [List.take_of_length_le (by have := Hl'.out; omega)] at ho5
        have x7 := x7.below hbr2
        have x8 := x8.below hbr2
        have s2 := s2.below (by omega) hbr2
        have s3 := s3.below (by omega) hbr2
        have hMk := hMk.below hbr2
        have ho4 := ho4.below hbr2
        have hbw := hbw.trans (hbr2.mono hbw.size)
        have hb78 : g7 + 1 < wr.heap.size := Nat.lt_of_lt_of_le hb78 hbr2.size
        have hlx := ranges_len C6.out
        obtain ⟨rg, hrg⟩ : ∃ rg, rangesL sp = rg := ⟨_, rfl⟩
        rw [hrg] at ho5 hlx
        have hHlv := leaves_len C4.out (leafCount ls)
        have hHix := index_len C4.out (leafCount ls) (Nat.le_refl _)
        rw [Hlv.out] at hHlv
        rw [Hix.out] at hHix
        have s5 := OwnB.sl ho5
        have hlv2 := s2.lenb
        have hix2 := s3.lenb
        have hrg2 := s5.lenb
        have hn2b : n2 ≤ 700000 := by omega
        have hn3b : n3 ≤ 20000 := by omega
        have hn5b : n5 ≤ 160000 := by have := Hl'.out; omega
        have hbl := build_len (usersL ls)
        have hul : (usersL ls).length = n := by unfold usersL; rw [List.length_map]; exact Hl.out
        have hn4b : n4 ≤ 1000 := by have := ho4.lenR; omega
        have hR : R1 = [lv, closeL ix, closeL (buildL 10 (usersL ls)), closeL rg, closeL ([lv, closeL ix, closeL (buildL 10 (usersL ls)), closeL rg].flatMap (fun p => le4 p.length) ++ [26, 177, 229])].flatten := by
          rw [← HR1.out, ← Hlv.out, ← Hix.out, ← hrg]
          simp [tabBytesL, partsL, footL]
        obtain ⟨us, hus⟩ : ∃ us, usersL ls = us := ⟨_, rfl⟩
        rw [hus] at hR ho4 hbl hul
        have H2 := Lib.hid hR
        have cb : ∀ (w' : World), Below wr.heap.size wr w' → Quarter w' → Calls Tryz.prog 47 #[.int .i64 10, .slice A4 n4 c4] w' (NewB w' (buildL 10 us)) := fun w' hb hq => by
          obtain ⟨vs, hs, hp⟩ := (ho4.below hb).parts
          exact build_any w' 10 _ _ _ vs us hs hp hq (by omega)
        generalize buildL 10 us = bf at *
        have hcl1 := closeL_len ix
        have hcl2 := closeL_len bf
        have hcl3 := closeL_len rg
        have c1 := fun w' A n c (h : Sl w' 1 A n c (bc ix)) hq hn => close_any w' A n c ix h hq hn
        have c2 := fun w' A n c (h : Sl w' 1 A n c (bc bf)) hq hn => close_any w' A n c bf h hq hn
        have c3 := fun w' A n c (h : Sl w' 1 A n c (bc rg)) hq hn => close_any w' A n c rg h hq hn
        generalize closeL ix = xa at *
        generalize closeL bf = xb at *
        generalize closeL rg = xc at *
        have hxa : xa.length ≤ 21000 := by omega
        have hbfl : bf.length ≤ 3000 := by omega
        have hxb : xb.length ≤ 3000 := by omega
        have hxc : xc.length ≤ 161000 := by omega
        have Cb := Lib.hid cb
        have Cc1 := Lib.hid c1
        have Cc2 := Lib.hid c2
        have Cc3 := Lib.hid c3
        have hZ := Below.refl wr.heap.size wr
        clear cb c1 c2 c3 hR hlx hrg hHlv hHix hlv2 hix2 hrg2 hbl hul hus hcl1 hcl2 hcl3 hlt2 hj2 hbr2 ho5 hn5 hrl
        obtain ⟨y1, y2⟩ := id x8
        go_wp2_with fail
        clear y1 y2
        refine (Cc1.out wr A3 n3 c3 s3 (HQ.out.below hbw) (by omega)).mono ?_
        rintro e w4 ⟨A6, n6, c6, rfl, ho6, hb⟩
        have hZ := hZ.trans (hb.mono hZ.size)
        have x7 := x7.below hb
        have x8 := x8.below hb
        have s2 := s2.below (by omega) hb
        have s5 := s5.below (by omega) hb
        have hMk := hMk.below hb
        have hbw := hbw.trans (hb.mono hbw.size)
        clear hb s3 Cc1
        go_wp2_with fail
        refine (Cb.out w4 hZ (HQ.out.below hbw)).mono ?_
        rintro e w5 ⟨A7, n7, c7, rfl, ho7, hb⟩
        have hZ := hZ.trans (hb.mono hZ.size)
        have hn7 : n7 ≤ 3000 := by have := OwnB.len' ho7; omega
        have x7 := x7.below hb
        have x8 := x8.below hb
        have s2 := s2.below (by omega) hb
        have s5 := s5.below (by omega) hb
        have hMk := hMk.below hb
        have hbw := hbw.trans (hb.mono hbw.size)
        have ho6 := Own.below ho6 hb
        clear hb Cb ho4
        go_wp2_with fail
        have hz5 := hZ.size
        refine (Cc2.out w5 A7 n7 c7 (OwnB.sl ho7) (HQ.out.below hbw) (by omega)).mono ?_
        rintro e w6 ⟨A8, n8, c8, rfl, ho8, hb⟩
        have ho8 := Own.mono ho8 hz5
        have hZ := hZ.trans (hb.mono hZ.size)
        have x7 := x7.below hb
        have x8 := x8.below hb
        have s2 := s2.below (by omega) hb
        have s5 := s5.below (by omega) hb
        have hMk := hMk.below hb
        have hbw := hbw.trans (hb.mono hbw.size)
        have ho6 := Own.below ho6 hb
        clear hb Cc2 ho7
        go_wp2_with fail
        have hz6 := hZ.size
        refine (Cc3.out w6 A5 n5 c5 s5 (HQ.out.below hbw) (by omega)).mono ?_
        rintro e w7 ⟨A9, n9, c9, rfl, ho9, hb⟩
        have ho9 := Own.mono ho9 hz6
        have x7 := x7.below hb
        have x8 := x8.below hb
        have s2 := s2.below (by omega) hb
        have hMk := hMk.below hb
        have hbw := hbw.trans (hb.mono hbw.size)
        have ho6 := Own.below ho6 hb
        have ho8 := Own.below ho8 hb
        have hn6 := OwnB.len' ho6
        have hn8 := OwnB.len' ho8
        have hn9 := OwnB.len' ho9
        have hn6l : n6 ≤ 21000 := by omega
        have hn8l : n8 ≤ 3000 := by omega
        have hn9l : n9 ≤ 161000 := by omega
        have hbgw := hb0.size
        have z7 := x7.other (g := g7 + 1) (by omega) 0 (.slice A6 n6 c6)
        have z8 := x8.set (.slice A6 n6 c6)
        have s2 := s2.grown (by omega) (only_set (World.grownBy.refl w7 (some (g7 + 1))) 0 (.slice A6 n6 c6)) (fun hn b hb q => by have := U2.out b hn hb; have := Option.some.inj q; omega)
        have s6 := OwnB.sl (own_set ho6 (g := g7 + 1) (j := 0) (by omega) (.slice A6 n6 c6))
        have s8 := OwnB.sl (own_set ho8 (g := g7 + 1) (j := 0) (by omega) (.slice A6 n6 c6))
        have s9 := OwnB.sl (own_set ho9 (g := g7 + 1) (j := 0) (by omega) (.slice A6 n6 c6))
        have hMk := hMk.keep (KeepsOthers.setCell w7 ⟨g7 + 1, 0, none⟩ (.slice A6 n6 c6))
        have hbw := hbw.setCell (p := ⟨g7 + 1, 0, none⟩) (by show w.heap.size ≤ g7 + 1; omega) (.slice A6 n6 c6)
        have hps : Hid (∀ p ∈ [lv, xa, xb, xc], p.length ≤ 700000) := Lib.hid fun p hp => by
          have := s2.lenb
          simp only [List.mem_cons, List.not_mem_nil, or_false] at hp
          rcases hp with rfl | rfl | rfl | rfl <;> omega
        clear hb Cc3 s5 ho6 ho8 ho9 hz5 hz6 hZ hn6 hn8 hn9 hxa hxb hxc hbfl
        obtain ⟨y1, y2⟩ := id x7
        obtain ⟨y3, y4⟩ := id x8
        obtain ⟨y5, y6⟩ := id z7
        obtain ⟨y7, y8⟩ := id z8
        go_wp2_with fail
        clear y1 y2 y3 y4 y5 y6 y7 y8 x7 x8
        have hwS : (w7.setCell ⟨g7 + 1, 0, none⟩ (.slice A6 n6 c6)).heap.size = w7.heap.size := by simp
        generalize hw8 : (w7.setCell ⟨g7 + 1, 0, none⟩ (.slice A6 n6 c6)) = w8 at *
        clear hw8
        have sJ : Sl (w8.alloc (.cells #[.slice A2 n2 c2, .slice A6 n6 c6, .slice A8 n8 c8, .slice A9 n9 c9] 29)) 1 (some ⟨w7.heap.size, 0, none⟩) 4 4 [.slice A2 n2 c2, .slice A6 n6 c6, .slice A8 n8 c8, .slice A9 n9 c9] := by
          rw [← hwS]
          exact Sl.lit w8 _ _ 4 _ _ rfl (by unfold maxLen; omega) rfl
        have al := (Below.refl w8.heap.size w8).alloc (Nat.le_refl _) (.cells #[.slice A2 n2 c2, .slice A6 n6 c6, .slice A8 n8 c8, .slice A9 n9 c9] 29)
        have z7 := z7.below al
        have z8 := z8.below al
        have s2 := s2.below (by omega) al
        have s6 := s6.below (by omega) al
        have s8 := s8.below (by omega) al
        have s9 := s9.below (by omega) al
        have hMk := hMk.below al
        have hbw := hbw.trans (al.mono hbw.size)
        have pJ := parts_cons s2 (parts_cons s6 (parts_cons s8 (parts_cons s9 (parts_nil _))))
        generalize (w8.alloc (.cells #[.slice A2 n2 c2, .slice A6 n6 c6, .slice A8 n8 c8, .slice A9 n9 c9] 29)) = w9 at *
        have M2 := Lib.hid (s2.lt (by omega))
        have M6 := Lib.hid (s6.lt (by omega))
        have M8 := Lib.hid (s8.lt (by omega))
        have M9 := Lib.hid (s9.lt (by omega))
        have hg9 := z8.lt
        clear al hwS
        go_loopw [22, 111] (EndRel w9 [lv, xa, xb, xc]) (fun _ iv _ => 4 - (intOf iv).toNat)
        case atStart => exact ⟨0, none, 0, 0, rfl, rfl, Nat.zero_le _, Below.refl _ _, Own.nil _ _ _ _ _⟩
        case round =>
          obtain ⟨j, AE, nE, cE, rfl, rfl, hj4, hbr4, hoE⟩ := hrel
          have hE16 : nE ≤ 16 := by
            have h1 := OwnB.len' hoE
            have h2 := flat_len (fun p : List UInt8 => le4 p.length) 4 ([lv, xa, xb, xc].take j) (fun x _ => by simp [le4])
            rw [List.length_take] at h2
            omega
          by_cases hlt4 : j < 4
          case pos =>
            obtain ⟨b, o, Aq, nq, cq, hjl, eA, hcell, hsq⟩ := (pJ.below hbr4).get (sJ.below (by omega) hbr4) hlt4
            obtain ⟨rfl, rfl⟩ : w7.heap.size = b ∧ 0 = o := by simpa using eA
            have hlq := hsq.lenb
            have hq7 := hps.out _ (List.getElem_mem hjl)
            rw [hlq] at hq7
            rw [Nat.zero_add] at hcell
            have hst : ([lv, xa, xb, xc].take (j + 1)).flatMap (fun p => le4 p.length) = ([lv, xa, xb, xc].take j).flatMap (fun p => le4 p.length) ++ le4 nq := by
              rw [take_snoc _ _ hjl, List.flatMap_append]
              simp only [List.flatMap_cons, List.flatMap_nil, List.append_nil]
              rw [hlq]
            have Hst := Lib.hid hst
            clear hst eA hsq z7 z8 s2 s6 s8 s9 hMk hlq
            generalize ([lv, xa, xb, xc].take j).flatMap (fun p => le4 p.length) = ej at *
            have hlit := four_lit wr nq (by omega) 5
            have al := (Below.refl wr.heap.size wr).alloc (Nat.le_refl _) (fourC nq 5)
            have hoE := Own.below hoE al
            have hbr4 := hbr4.trans (al.mono hbr4.size)
            unfold fourC at *
            go_wp2_with (at_builtin; refine wpList_appB _ rfl (.tmp 117) (.tmp 129) rfl w9.heap.size AE nE cE _ rfl hoE _ 4 4 _ rfl hlit ?_ ?_ ?_)
            · omega
            · exact hbr4.size
            intro A9e c9e w9e ho9 hg9 _
            have hbr9 := hbr4.grown hg9 hbr4.size (fun b hb => (Own.lt hoE b hb).1)
            rw [← Hst.out] at ho9
            clear hlit hoE hg9 hcell
            go_wp2
            go_roundw
            case rel => exact ⟨j + 1, A9e, _, c9e, by go_num, rfl, by omega, hbr9, ho9⟩
            case measure => simp [intOf]; omega
          obtain rfl : j = 4 := by omega
          rw [List.take_of_length_le (show [lv, xa, xb, xc].length ≤ 4 by simp)] at hoE
          have z7 := z7.below hbr4
          have z8 := z8.below hbr4
          have hMk := hMk.below hbr4
          have hbw := hbw.trans (hbr4.mono hbw.size)
          have hb49 := hbr4.size
          have s2 := s2.below (by omega) hbr4
          have s6 := s6.below (by omega) hbr4
          have s8 := s8.below (by omega) hbr4
          have s9 := s9.below (by omega) hbr4
          have hR := H2.out
          have hlE := OwnB.len' hoE
          generalize [lv, xa, xb, xc].flatMap (fun p => le4 p.length) = en at *
          have hfl := closeL_len (en ++ [26, 177, 229])
          rw [List.length_append, hlE] at hfl
          simp only [List.length_cons, List.length_nil] at hfl
          have cc := fun w' A n c (h : Sl w' 1 A n c (bc (en ++ [26, 177, 229]))) hq hn => close_any w' A n c _ h hq hn
          generalize closeL (en ++ [26, 177, 229]) = fo at *
          have hJL : [lv, xa, xb, xc, fo].flatten.length ≤ 1099511627776 := by
            have h2 := s2.lenb
            have h6 := s6.lenb
            have h8 := s8.lenb
            have h9 := s9.lenb
            simp only [List.flatten_cons, List.flatten_nil, List.append_nil, List.length_append]
            omega
          rw [← hR] at hJL
          have hjj := fun w' A n c vs (h : Sl w' 1 A n c vs) (hp : PartsOf w' vs [lv, xa, xb, xc, fo]) hn hF => ajoin_any w' A n c vs [lv, xa, xb, xc, fo] h hp hn hF
          rw [← hR] at hjj
          have Cc := Lib.hid cc
          have Jj := Lib.hid hjj
          have HJL := Lib.hid hJL
          clear cc hjj hJL hR hfl hlE H2 hlt4 hj4 hps pJ sJ
          go_wp2_with fail
          have hX : BB g7 (.slice A2 n2 c2) (.slice A6 n6 c6) wr.drew := ⟨z7.drew, z8.drew⟩
          have bd := (Below.refl wr.heap.size wr).drew
          have s2 := s2.drew
          have s6 := s6.drew
          have s8 := s8.drew
          have s9 := s9.drew
          have hoE := Own.below hoE bd
          have hMk := hMk.below bd
          have hbw := hbw.drew
          have hbr4 := hbr4.drew
          clear bd z7 z8
          generalize hW : wr.drew = wz at *
          refine Code.wp_mono calm1_post ?_
          refine regionF (fun _ wa wb => BB g7 (.slice A2 n2 c2) (.slice A6 n6 c6) wa → BB g7 (.slice A2 n2 c2) (.slice A6 n6 c6) wb) (by kernel_rfl) ?_
          rw [hW]
          clear hW
          refine takeP (i := 0) (v := ?_) rfl hX ?hy ?_
          case hy =>
            intro wS hSw
            obtain ⟨⟨z1, z2⟩, ⟨z3, z4⟩⟩ := id hSw
            clear hSw
            go_simp
            try with_reducible rfl
          refine takeP (i := 1) (v := ?_) rfl hX ?hy ?_
          case hy =>
            intro wS hSw
            obtain ⟨⟨z1, z2⟩, ⟨z3, z4⟩⟩ := id hSw
            clear hSw
            go_simp
            try with_reducible rfl
          refine takeT (i := 2) (v := ?_) rfl ?hy ?_
          case hy => intro wS; go_simp; try with_reducible rfl
          refine takeT (i := 3) (v := ?_) rfl ?hy ?_
          case hy => intro wS; go_simp; try with_reducible rfl
          refine takeT (i := 4) (v := ?_) rfl ?hy ?_
          case hy => intro wS; go_simp; try with_reducible rfl
          try simp only [List.getElem_toArray, List.getElem_cons_succ, List.getElem_cons_zero, Act.put, List.setIfInBounds_toArray, List.set_cons_zero, List.set_cons_succ]
          refine readyF (rs := [5]) (by kernel_rfl) (by simp) ?_
          refine AllF.cons rfl (fun K hK => ?_) AllF.nil
          go_simp
          refine hK _ _ (fun h => h.below ((Below.refl _ _).alloc (Nat.le_refl _) _)) ?_
          clear hK K
          have hb := (Below.refl wz.heap.size wz).alloc (Nat.le_refl _) (.cells #[.int .u8 26, .int .u8 177, .int .u8 229] 5)
          have hlit : Sl (wz.alloc (.cells #[.int .u8 26, .int .u8 177, .int .u8 229] 5)) 1 (some ⟨wz.heap.size, 0, none⟩) 3 3 (bc [26, 177, 229]) := Sl.lit wz _ _ 3 _ _ rfl (by unfold maxLen; omega) rfl
          have s2 := s2.below (by omega) hb
          have s6 := s6.below (by omega) hb
          have s8 := s8.below (by omega) hb
          have s9 := s9.below (by omega) hb
          have hoE := Own.below hoE hb
          have hMk := hMk.below hb
          have hbw := hbw.trans (hb.mono hbw.size)
          have hbr4 := hbr4.trans (hb.mono hbr4.size)
          have hX := hX.below hb
          generalize (wz.alloc (.cells #[.int .u8 26, .int .u8 177, .int .u8 229] 5)) = wz_5 at *
          clear hb
          refine readyF (rs := [6]) (by kernel_rfl) (by simp) ?_
          refine AllF.cons rfl (fun K hK => ?_) AllF.nil
          refine step_appB (by rfl) (.tmp 136) (.tmp 137) (by rfl) w9.heap.size AE nE cE _ (by rfl) hoE _ 3 3 [26, 177, 229] (by rfl) hlit (by omega) hbr4.size ?_
          intro AF cF wz_5_6 hoN hg _
          have hM := fun (b : Nat) q => (Own.lt hoE b q).1
          refine hK _ _ (fun h => h.grown hg (fun b q => by have := hM b q; have := hg9; omega)) ?_
          clear hK K
          have s2 := s2.grown (by omega) hg (fun hn b hb q => by have := hM b q; have := M2.out hn b hb; omega)
          have s6 := s6.grown (by omega) hg (fun hn b hb q => by have := hM b q; have := M6.out hn b hb; omega)
          have s8 := s8.grown (by omega) hg (fun hn b hb q => by have := hM b q; have := M8.out hn b hb; omega)
          have s9 := s9.grown (by omega) hg (fun hn b hb q => by have := hM b q; have := M9.out hn b hb; omega)
          have hX := hX.grown hg (fun b q => by have := hM b q; have := hg9; omega)
          have hMk := hMk.keep (keeps_own hoE hg)
          have hbw := hbw.grown hg hbw.size (fun b q => by have := hM b q; omega)
          have hbr4 := hbr4.grown hg hbr4.size hM
          have sE := OwnB.sl hoN
          clear hg hM hoN hoE hlit
          refine readyF (rs := [7]) (by kernel_rfl) (by simp) ?_
          refine AllF.cons rfl (fun K hK => ?_) AllF.nil
          go_simp
          refine (Cc.out wz_5_6 AF (nE + 3) cF sE (HQ.out.below hbw) (by omega)).mono ?_
          rintro e wz_5_6_7 ⟨AG, nG, cG, rfl, hoG, hb⟩
          refine hK _ _ (fun h => h.below hb) ?_
          clear hK K
          have s2 := s2.below (by omega) hb
          have s6 := s6.below (by omega) hb
          have s8 := s8.below (by omega) hb
          have s9 := s9.below (by omega) hb
          have hMk := hMk.below hb
          have hbw := hbw.trans (hb.mono hbw.size)
          have hbr4 := hbr4.trans (hb.mono hbr4.size)
          have hX := hX.below hb
          have sG := OwnB.sl hoG
          clear hoG hb sE Cc
          refine readyF (rs := [8]) (by kernel_rfl) (by simp) ?_
          refine AllF.cons rfl (fun K hK => ?_) AllF.nil
          go_simp
          refine hK _ _ (fun h => h.below ((Below.refl _ _).alloc (Nat.le_refl _) _)) ?_
          clear hK K
          have hb := (Below.refl wz_5_6_7.heap.size wz_5_6_7).alloc (Nat.le_refl _) (.cells #[.slice A2 n2 c2, .slice A6 n6 c6, .slice A8 n8 c8, .slice A9 n9 c9, .slice AG nG cG] 29)
          have sJ : Sl (wz_5_6_7.alloc (.cells #[.slice A2 n2 c2, .slice A6 n6 c6, .slice A8 n8 c8, .slice A9 n9 c9, .slice AG nG cG] 29)) 1 (some ⟨wz_5_6_7.heap.size, 0, none⟩) 5 5 [.slice A2 n2 c2, .slice A6 n6 c6, .slice A8 n8 c8, .slice A9 n9 c9, .slice AG nG cG] := Sl.lit wz_5_6_7 _ _ 5 _ _ rfl (by unfold maxLen; omega) rfl
          have s2 := s2.below (by omega) hb
          have s6 := s6.below (by omega) hb
          have s8 := s8.below (by omega) hb
          have s9 := s9.below (by omega) hb
          have hMk := hMk.below hb
          have hbw := hbw.trans (hb.mono hbw.size)
          have hbr4 := hbr4.trans (hb.mono hbr4.size)
          have hX := hX.below hb
          have sG := sG.below (by omega) hb
          have pJ := parts_cons s2 (parts_cons s6 (parts_cons s8 (parts_cons s9 (parts_cons sG (parts_nil _)))))
          generalize (wz_5_6_7.alloc (.cells #[.slice A2 n2 c2, .slice A6 n6 c6, .slice A8 n8 c8, .slice A9 n9 c9, .slice AG nG cG] 29)) = wz_5_6_7_8 at *
          clear hb s2 s6 s8 s9 sG
          refine readyF (rs := [9]) (by kernel_rfl) (by simp) ?_
          refine AllF.cons rfl (fun K hK => ?_) AllF.nil
          go_simp
          refine (Jj.out wz_5_6_7_8 _ 5 5 _ sJ pJ (by omega) HJL.out).mono ?_
          rintro e wz_5_6_7_8_9 ⟨AH, nH, cH, rfl, hoH, hb⟩
          refine hK _ _ (fun h => h.below hb) ?_
          clear hK K
          have hbs := hbw.size
          have hMk := hMk.below hb
          have hbw := hbw.trans (hb.mono hbw.size)
          have HoH := Lib.hid (Own.mono hoH hbs)
          clear hoH hb sJ pJ Jj hX
          refine takeT (i := 10) (v := ?_) rfl ?hy ?_
          case hy => intro wS; go_simp; try with_reducible rfl
          refine takeT (i := 11) (v := ?_) rfl ?hy ?_
          case hy => intro wS; go_simp; try with_reducible rfl
          try simp only [List.getElem_toArray, List.getElem_cons_succ, List.getElem_cons_zero, Act.put, List.setIfInBounds_toArray, List.set_cons_zero, List.set_cons_succ]
          refine doneF (by kernel_rfl) ?_ _
          try simp only [List.getElem_toArray, List.getElem_cons_succ, List.getElem_cons_zero, Act.put, List.setIfInBounds_toArray, List.set_cons_zero, List.set_cons_succ]
          refine calm1_normal ?_
          have HMk := Lib.hid hMk
          have HBW := Lib.hid hbw
          clear hMk hbw hbr4
          go_wp2
          refine leaves_all [D] _ (by simp) (fun D' hD' => by rw [show D' = D by simpa using hD']; exact HMk.out) (fun W' h1 h2 h3 h4 h5 => ?_)
          refine ⟨_, results_tmp2 rfl _ _ _, AH, nH, cH, by go_simp, Own.keep HoH.out (fun b hb => h5 b (fun hm => ?_)), ?_⟩
          · have q1 := own_ne HoH.out hb HMk.out rfl
            have q2 : b = D := by simpa using hm
            exact q1 q2.symm
          · have hbw := HBW.out
            refine ⟨h1.trans hbw.os, h2.trans hbw.tape, h3.trans hbw.output, by rw [h4]; exact hbw.size, fun k hk => ?_⟩
            have hne : k ∉ [D] := fun hm => by
              have q : k = D := by simpa using hm
              have := HD.out
              omega
            exact (h5 k hne).trans (hbw.block k hk)
end Go.Proofs.YtpffieogkfndaaaGreatDoor
