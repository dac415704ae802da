/-
  EntSame, SpanCheck in one text. No condition but sizes.
-/
import Derived.Test.YtpffieogkfndaaaGreatDoorJTabPlain
import Derived.Test.YtpffieogkfndaaaGreatDoorJRowsX
import Derived.Test.YtpffieogkfndaaaGreatDoorJAtomWalk
import Derived.Test.YtpffieogkfndaaaGreatDoorJSpans
import Derived.Test.YtpffieogkfndaaaGreatDoorJBloomPlain
import Derived.Test.YtpffieogkfndaaaGreatDoorJHeld
namespace Go.Proofs.YtpffieogkfndaaaGreatDoor
open Go.RowKit
set_option maxRecDepth 20000
set_option linter.unusedVariables false
set_option linter.unusedSimpArgs false
set_option maxHeartbeats 8000000 in
theorem sent_any (w : World) (A : Option Addr) (n c : Nat) (B : Option Addr) (m d : Nat) (x : EntL) (h1 : Sl w 1 A n c (bc x.key.user)) (h2 : Sl w 1 B m d (bc x.value)) (A' : Option Addr) (n' c' : Nat) (B' : Option Addr) (m' d' : Nat) (y : EntL) (h1' : Sl w 1 A' n' c' (bc y.key.user)) (h2' : Sl w 1 B' m' d' (bc y.value)) :
    Calls Tryz.prog 56 #[.agg #[.slice A n c, .int .u64 (x.key.seq.toNat : Int), .int .u8 (x.key.kind.toNat : Int), .slice B m d], .agg #[.slice A' n' c', .int .u64 (y.key.seq.toNat : Int), .int .u8 (y.key.kind.toNat : Int), .slice B' m' d']] w fun e w' => e = .returned (.bool (decide (x = y))) ∧ Below w.heap.size w w' := by
  have ck := fun w' (hb : Below w.heap.size w w') => keq_any w' A n c x.key (h1.below (by omega) hb) A' n' c' y.key (h1'.below (by omega) hb)
  have cs := fun w' (hb : Below w.heap.size w w') => same_any w' B m d x.value B' m' d' y.value (h2.below (by omega) hb) (h2'.below (by omega) hb)
  have he : decide (x = y) = ((x.key == y.key) && (x.value == y.value)) := by
    cases x with | mk k v =>
    cases y with | mk k' v' =>
    rw [Bool.eq_iff_iff]
    simp
  rw [he]
  generalize (x.key == y.key) = b1 at *
  generalize (x.value == y.value) = b2 at *
  generalize x.key.seq.toNat = s at *
  generalize x.key.kind.toNat = k at *
  generalize y.key.seq.toNat = s' at *
  generalize y.key.kind.toNat = k' at *
  have Ck := Lib.hid ck
  have Cs := Lib.hid cs
  clear ck cs he h1 h2 h1' h2'
  have a1 := (Below.refl w.heap.size w).alloc (Nat.le_refl _) (.cells #[.slice A n c, .int .u64 (s : Int), .int .u8 (k : Int), .slice B m d] 69)
  have k1 := Bx4.fresh w (.slice A n c) (.int .u64 (s : Int)) (.int .u8 (k : Int)) (.slice B m d) 69
  generalize hW1 : (w.alloc (.cells #[.slice A n c, .int .u64 (s : Int), .int .u8 (k : Int), .slice B m d] 69)) = w1 at *
  have a2 := (Below.refl w1.heap.size w1).alloc (Nat.le_refl _) (.cells #[.slice A' n' c', .int .u64 (s' : Int), .int .u8 (k' : Int), .slice B' m' d'] 69)
  have k2 := Bx4.fresh w1 (.slice A' n' c') (.int .u64 (s' : Int)) (.int .u8 (k' : Int)) (.slice B' m' d') 69
  have k1 := k1.below a2
  have hq := a1.trans (a2.mono a1.size)
  generalize hW2 : (w1.alloc (.cells #[.slice A' n' c', .int .u64 (s' : Int), .int .u8 (k' : Int), .slice B' m' d'] 69)) = w2 at *
  clear a1 a2
  obtain ⟨x0, x1, x2, x3, x4⟩ := id k1
  obtain ⟨y0, y1, y2, y3, y4⟩ := id k2
  go_enter Tryz.func56, Tryz.ntmps56
  go_wp2_with fail
  try rw [hW1]
  try rw [hW2]
  clear hW1 hW2
  refine (Ck.out _ hq).mono ?_
  rintro e w3 ⟨rfl, hb3⟩
  have k1 := k1.below hb3
  have k2 := k2.below hb3
  have hq := hq.trans (hb3.mono hq.size)
  clear hb3 x0 x1 x2 x3 x4 y0 y1 y2 y3 y4
  obtain ⟨x0, x1, x2, x3, x4⟩ := id k1
  obtain ⟨y0, y1, y2, y3, y4⟩ := id k2
  cases b1
  · go_wp2
    go_ret
    exact ⟨rfl, hq⟩
  · go_wp2_with fail
    refine (Cs.out _ hq).mono ?_
    rintro e w' ⟨rfl, rfl⟩
    go_wp2
    go_ret
    exact ⟨rfl, hq⟩
set_option maxHeartbeats 8000000 in
theorem sents_any (w : World) (p : Nat → Prop) (A : Option Addr) (n c : Nat) (ls : List EntL) (h : SlR w p A n c ls) (p' : Nat → Prop) (A' : Option Addr) (n' c' : Nat) (ms : List EntL) (h' : SlR w p' A' n' c' ms) :
    Calls Tryz.prog 16 #[.slice A n c, .slice A' n' c'] w fun e w' => e = .returned (.bool (decide (ls = ms))) ∧ Below w.heap.size w w' := by
  have hcp := h.cap
  unfold maxLen at hcp
  have hl := h.lenR
  have hl' := h'.lenR
  obtain ⟨r, hr⟩ : ∃ r, decide (ls = ms) = r := ⟨_, rfl⟩
  rw [hr]
  by_cases hnn : n = n'
  case neg =>
    have e1 : ((n : Int) != (n' : Int)) = true := by rw [bne_iff_ne]; omega
    have e2 : ((n : Int) == (n' : Int)) = false := by rw [beq_eq_false_iff_ne]; omega
    have er : r = false := by rw [← hr, decide_eq_false_iff_not]; rintro rfl; omega
    subst er
    clear hr hl hl' h h'
    go_enter Tryz.func16, Tryz.ntmps16
    go_wp2
    go_ret
    exact ⟨rfl, Below.refl _ _⟩
  subst hnn
  have Hl := Lib.hid hl
  have Hl' := Lib.hid hl'
  have e1 : ((n : Int) != (n : Int)) = false := by simp
  have Hr : Hid (decide (ls.drop 0 = ms.drop 0) = r) := Lib.hid (by rw [List.drop_zero, List.drop_zero]; exact hr)
  clear hr hl hl'
  go_enter Tryz.func16, Tryz.ntmps16
  go_wp2
  clear e1
  go_loopw [13] (fun q wr => ∃ j : Nat, j ≤ n ∧ q = .int .i64 j ∧ Below w.heap.size w wr ∧ Hid (decide (ls.drop j = ms.drop j) = r)) (fun q _ => n - (intOf q).toNat)
  case atStart => exact ⟨0, Nat.zero_le _, rfl, Below.refl _ _, Hr⟩
  case round =>
    obtain ⟨j, hj, rfl, hbr, He⟩ := hrel
    by_cases hlt : j < n
    case neg =>
      obtain rfl : n = j := by omega
      have e := He.out
      rw [List.drop_of_length_le (by have := Hl.out; omega), List.drop_of_length_le (by have := Hl'.out; omega)] at e
      obtain rfl : true = r := by simpa using e
      go_wp2
      go_ret
      exact ⟨rfl, hbr⟩
    obtain ⟨b, o, A3, n3, c3, A4, n4, c4, hjl, rfl, d0, d1, d2, d3, g3, g4⟩ := h.entAt hlt
    obtain ⟨b', o', A5, n5, c5, A6, n6, c6, hjm, rfl, f0, f1, f2, f3, g5, g6⟩ := h'.entAt hlt
    have hbr := below_drew hbr
    have d0 := stays hbr d0
    have d1 := stays hbr d1
    have d2 := stays hbr d2
    have d3 := stays hbr d3
    have f0 := stays hbr f0
    have f1 := stays hbr f1
    have f2 := stays hbr f2
    have f3 := stays hbr f3
    have hst : decide (ls.drop j = ms.drop j) = (decide (ls[j] = ms[j]) && decide (ls.drop (j + 1) = ms.drop (j + 1))) := by
      rw [List.drop_eq_getElem_cons hjl, List.drop_eq_getElem_cons hjm, Bool.eq_iff_iff]
      simp only [decide_eq_true_eq, Bool.and_eq_true, List.cons.injEq]
    rw [He.out] at hst
    generalize hW : World.drew _ = w0 at *
    have cm := fun w' (hb : Below w0.heap.size w0 w') => sent_any w' A3 n3 c3 A4 n4 c4 ls[j] (g3.below (by omega) (hbr.trans (hb.mono hbr.size))) (g4.below (by omega) (hbr.trans (hb.mono hbr.size))) A5 n5 c5 A6 n6 c6 ms[j] (g5.below (by omega) (hbr.trans (hb.mono hbr.size))) (g6.below (by omega) (hbr.trans (hb.mono hbr.size)))
    generalize decide (ls[j] = ms[j]) = b1 at *
    generalize ls[j].key.seq.toNat = s1 at *
    generalize ls[j].key.kind.toNat = k1 at *
    generalize ms[j].key.seq.toNat = s2 at *
    generalize ms[j].key.kind.toNat = k2 at *
    have Cm := Lib.hid cm
    have Hst := Lib.hid hst.symm
    clear cm hst g3 g4 g5 g6 He hjl hjm
    go_wp2_with fail
    cases b1
    case false =>
      obtain rfl : false = r := Hst.out
      refine regionF (fun _ wa wb => Below w0.heap.size w0 wa → Below w0.heap.size w0 wb) (by kernel_rfl) ?_
      rw [hW]
      clear hW
      have hX := Below.refl w0.heap.size w0
      refine takeP (i := 0) (v := ?_) rfl hX ?hy ?_
      case hy =>
        intro wS hSw
        clear hSw
        go_simp
        try with_reducible rfl
      refine takeP (i := 1) (v := ?_) rfl hX ?hy ?_
      case hy =>
        intro wS hSw
        clear hSw
        go_simp
        try with_reducible rfl
      refine takeP (i := 2) (v := ?_) rfl hX ?hy ?_
      case hy =>
        intro wS hSw
        clear hSw
        go_simp
        try with_reducible rfl
      refine takeP (i := 3) (v := ?_) rfl hX ?hy ?_
      case hy =>
        intro wS hSw
        have d0 := stays hSw d0
        have d1 := stays hSw d1
        have d2 := stays hSw d2
        have d3 := stays hSw d3
        clear hSw
        go_simp
        try with_reducible rfl
      refine takeP (i := 4) (v := ?_) rfl hX ?hy ?_
      case hy =>
        intro wS hSw
        clear hSw
        go_simp
        try with_reducible rfl
      refine takeP (i := 5) (v := ?_) rfl hX ?hy ?_
      case hy =>
        intro wS hSw
        clear hSw
        go_simp
        try with_reducible rfl
      refine takeP (i := 6) (v := ?_) rfl hX ?hy ?_
      case hy =>
        intro wS hSw
        clear hSw
        go_simp
        try with_reducible rfl
      refine takeP (i := 7) (v := ?_) rfl hX ?hy ?_
      case hy =>
        intro wS hSw
        have f0 := stays hSw f0
        have f1 := stays hSw f1
        have f2 := stays hSw f2
        have f3 := stays hSw f3
        clear hSw
        go_simp
        try with_reducible rfl
      try simp only [List.getElem_toArray, List.getElem_cons_succ, List.getElem_cons_zero, Act.put, List.setIfInBounds_toArray, List.set_cons_zero, List.set_cons_succ]
      refine readyF (rs := [8]) (by kernel_rfl) (by simp) ?_
      refine AllF.cons rfl (fun K hK => ?_) AllF.nil
      go_simp
      refine (Cm.out _ hX).mono ?_
      rintro e w0_8 ⟨rfl, hb⟩
      refine hK _ _ (fun h => h.trans (hb.mono h.size)) ?_
      clear hK K
      have hX := hX.trans (hb.mono hX.size)
      clear hb
      refine takeP (i := 9) (v := ?_) rfl hX ?hy ?_
      case hy =>
        intro wS hSw
        clear hSw
        go_simp
        try with_reducible rfl
      try simp only [List.getElem_toArray, List.getElem_cons_succ, List.getElem_cons_zero, Act.put, List.setIfInBounds_toArray, List.set_cons_zero, List.set_cons_succ]
      refine doneF (by kernel_rfl) ?_ _
      try simp only [List.getElem_toArray, List.getElem_cons_succ, List.getElem_cons_zero, Act.put, List.setIfInBounds_toArray, List.set_cons_zero, List.set_cons_succ]
      go_wp2
      go_ret
      exact ⟨rfl, hbr.trans (hX.mono hbr.size)⟩
    case true =>
      refine regionF (fun _ wa wb => Below w0.heap.size w0 wa → Below w0.heap.size w0 wb) (by kernel_rfl) ?_
      rw [hW]
      clear hW
      have hX := Below.refl w0.heap.size w0
      refine takeP (i := 0) (v := ?_) rfl hX ?hy ?_
      case hy =>
        intro wS hSw
        clear hSw
        go_simp
        try with_reducible rfl
      refine takeP (i := 1) (v := ?_) rfl hX ?hy ?_
      case hy =>
        intro wS hSw
        clear hSw
        go_simp
        try with_reducible rfl
      refine takeP (i := 2) (v := ?_) rfl hX ?hy ?_
      case hy =>
        intro wS hSw
        clear hSw
        go_simp
        try with_reducible rfl
      refine takeP (i := 3) (v := ?_) rfl hX ?hy ?_
      case hy =>
        intro wS hSw
        have d0 := stays hSw d0
        have d1 := stays hSw d1
        have d2 := stays hSw d2
        have d3 := stays hSw d3
        clear hSw
        go_simp
        try with_reducible rfl
      refine takeP (i := 4) (v := ?_) rfl hX ?hy ?_
      case hy =>
        intro wS hSw
        clear hSw
        go_simp
        try with_reducible rfl
      refine takeP (i := 5) (v := ?_) rfl hX ?hy ?_
      case hy =>
        intro wS hSw
        clear hSw
        go_simp
        try with_reducible rfl
      refine takeP (i := 6) (v := ?_) rfl hX ?hy ?_
      case hy =>
        intro wS hSw
        clear hSw
        go_simp
        try with_reducible rfl
      refine takeP (i := 7) (v := ?_) rfl hX ?hy ?_
      case hy =>
        intro wS hSw
        have f0 := stays hSw f0
        have f1 := stays hSw f1
        have f2 := stays hSw f2
        have f3 := stays hSw f3
        clear hSw
        go_simp
        try with_reducible rfl
      try simp only [List.getElem_toArray, List.getElem_cons_succ, List.getElem_cons_zero, Act.put, List.setIfInBounds_toArray, List.set_cons_zero, List.set_cons_succ]
      refine readyF (rs := [8]) (by kernel_rfl) (by simp) ?_
      refine AllF.cons rfl (fun K hK => ?_) AllF.nil
      go_simp
      refine (Cm.out _ hX).mono ?_
      rintro e w0_8 ⟨rfl, hb⟩
      refine hK _ _ (fun h => h.trans (hb.mono h.size)) ?_
      clear hK K
      have hX := hX.trans (hb.mono hX.size)
      clear hb
      refine takeP (i := 9) (v := ?_) rfl hX ?hy ?_
      case hy =>
        intro wS hSw
        clear hSw
        go_simp
        try with_reducible rfl
      try simp only [List.getElem_toArray, List.getElem_cons_succ, List.getElem_cons_zero, Act.put, List.setIfInBounds_toArray, List.set_cons_zero, List.set_cons_succ]
      refine doneF (by kernel_rfl) ?_ _
      try simp only [List.getElem_toArray, List.getElem_cons_succ, List.getElem_cons_zero, Act.put, List.setIfInBounds_toArray, List.set_cons_zero, List.set_cons_succ]
      go_wp2
      go_roundw
      case rel => exact ⟨j + 1, by omega, by go_num, hbr.trans (hX.mono hbr.size), Lib.hid (by have := Hst.out; simpa using this)⟩
      case measure => simp [intOf]; omega
end Go.Proofs.YtpffieogkfndaaaGreatDoor

namespace Go.Proofs.YtpffieogkfndaaaGreatDoor
open Go.RowKit
set_option maxRecDepth 20000
set_option linter.unusedVariables false
set_option linter.unusedSimpArgs false
theorem wpList_appL {P : Program} {α : Type} [Rep α] (w : World) {ops : Array Oper} {rest : List Oper} {o : Oper} {a : Act} {Q : Exit → Act → World → Prop} (hgd : o.guard = none) (s x : Operand) (t : TypeId)
    (ho : o.op = .call { callee := .builtin .append, args := #[s, x], argTypes := #[t, t] })
    (B L : Nat) (e : TypeId) (z : Value) (bytes : Nat) (ht : P.underlying t = some (.slice e)) (hi : (P.info? e).map (fun i => (i.zero, i.size, i.bytes)) = some (some z, Rep.size α, bytes))
    (hzs : z.cells.size = Rep.size α)
    (A : Option Addr) (n c : Nat) (ls : List α) (hsv : a.eval s = .slice A n c) (hown : OwnL w B L e A n c ls)
    (A2 : Option Addr) (m c2 : Nat) (ms : List α) (hx : a.eval x = .slice A2 m c2) (hs : ∃ xs, Sl w (Rep.size α) A2 m c2 xs ∧ RowC w (fun b => b < L) xs ms)
    (h63 : n + m ≤ maxLen) (hbytes : (n + m) * bytes ≤ 140737488355328) (hB : B ≤ w.heap.size) (hL : L ≤ B)
    (h : ∀ A' c' w', OwnL w' B L e A' (n + m) c' (ls ++ ms) → w.grownBy w' (blk A c) → (blk A' c' = blk A c ∨ blk A' c' = some w.heap.size) → wpList P ops Q rest (a.put o.dst (.slice A' (n + m) c')) w') : wpList P ops Q (o :: rest) a w := by
  obtain ⟨A', c', w', hrun, h2, h3, h4⟩ := row_appL P w t o.type z bytes ht hi hzs hown A2 m c2 ms hs h63 hbytes hB hL
  refine wpList_plain hgd fun _ hK => ?_
  unfold Oper.wp execOp
  simp only [ho, resolve, invoke, builtin, Sem.run_bind, Sem.run_pure, Result.andThen_ok, List.map_toArray, List.map_cons, List.map_nil, hsv, hx, hrun]
  exact hK _ _ (h A' c' w' h2 h3 h4)
set_option maxHeartbeats 8000000 in
theorem scheck_any (w : World) (A : Option Addr) (n c : Nat) (B : Option Addr) (m d : Nat) (x : SpanL) (h3 : Sl w 1 A n c (bc x.lo)) (h4 : Sl w 1 B m d (bc x.hi)) :
    Calls Tryz.prog 77 #[.agg #[.slice A n c, .slice B m d, .int .u64 (x.seq.toNat : Int)]] w fun e w' => e = .returned (.int .i64 (checkSpanL x : Nat)) ∧ Below w.heap.size w w' := by
  have hl3 := h3.lenb
  have hl4 := h4.lenb
  have hnil : m = 0 → ltL x.lo x.hi = false := fun e => by
    have : x.hi = [] := List.length_eq_zero_iff.1 (by omega)
    rw [this]
    unfold ltL
    cases x.lo <;> rfl
  obtain ⟨r, hr⟩ : ∃ r, checkSpanL x = r := ⟨_, rfl⟩
  rw [hr]
  unfold checkSpanL at hr
  rw [hl3, hl4] at hr
  obtain ⟨bl, hbl⟩ : ∃ b, ltL x.lo x.hi = b := ⟨_, rfl⟩
  rw [hbl] at hr hnil
  have al := (Below.refl w.heap.size w).alloc (Nat.le_refl _) (.cells #[.slice A n c, .slice B m d, .int .u64 (x.seq.toNat : Int)] 72)
  have ck := less_is (w.alloc (.cells #[.slice A n c, .slice B m d, .int .u64 (x.seq.toNat : Int)] 72)) A n c _ (h3.below (by omega) al) B m d _ (h4.below (by omega) al) bl (Lib.hid hbl)
  have kB := Bx.fresh w (.slice A n c) (.slice B m d) (.int .u64 (x.seq.toNat : Int)) 72
  generalize x.seq.toNat = s at *
  generalize hW : (w.alloc (.cells #[.slice A n c, .slice B m d, .int .u64 (s : Int)] 72)) = w1 at *
  have Hr := Lib.hid hr
  have Ck := Lib.hid ck
  have Hn := Lib.hid hnil
  clear hr ck hl3 hl4 hbl h3 h4 hnil
  obtain ⟨x0, x1, x2, x3⟩ := id kB
  go_enter Tryz.func77, Tryz.ntmps77
  by_cases q0 : n = 0
  case pos =>
    subst q0
    go_wp2
    go_ret
    refine ⟨ret_int ?_, (by first | exact al | (rw [hW]; exact al))⟩
    rw [← Hr.out]
    rw [if_neg (by intro g; omega)]
    rfl
  have t0 : ((n : Int) == 0) = false := by simp; omega
  by_cases q1 : 64 < n
  case pos =>
    have t1 : decide ((64 : Int) < (n : Int)) = true := decide_eq_true (by omega)
    go_wp2
    go_ret
    refine ⟨ret_int ?_, (by first | exact al | (rw [hW]; exact al))⟩
    rw [← Hr.out]
    rw [if_neg (by intro g; omega)]
    rfl
  have t1 : decide ((64 : Int) < (n : Int)) = false := decide_eq_false (by omega)
  by_cases q2 : 64 < m
  case pos =>
    have t2 : decide ((64 : Int) < (m : Int)) = true := decide_eq_true (by omega)
    go_wp2
    go_ret
    refine ⟨ret_int ?_, (by first | exact al | (rw [hW]; exact al))⟩
    rw [← Hr.out]
    rw [if_neg (by intro g; omega)]
    rfl
  have t2 : decide ((64 : Int) < (m : Int)) = false := decide_eq_false (by omega)
  have ck := Ck.out
  clear Ck
  have Ck := Lib.hid ck
  clear ck
  go_wp2_with fail
  try rw [hW]
  refine Ck.out.mono ?_
  rintro e w' ⟨rfl, rfl⟩
  cases bl
  case false =>
    go_wp2
    go_ret
    refine ⟨ret_int ?_, (by first | exact al | (rw [hW]; exact al))⟩
    rw [← Hr.out]
    rw [if_neg (by intro g; exact absurd g.2.2.2.1 (by simp))]
    rfl
  by_cases p0 : s = 0
  case pos =>
    subst p0
    go_wp2
    go_ret
    refine ⟨ret_int ?_, (by first | exact al | (rw [hW]; exact al))⟩
    rw [← Hr.out]
    rw [if_neg (by intro g; omega)]
    rfl
  have t10 : ((s : Int) == 0) = false := by simp; omega
  by_cases p1 : 72057594037927935 < s
  case pos =>
    have t11 : decide ((72057594037927935 : Int) < (s : Int)) = true := decide_eq_true (by omega)
    go_wp2
    go_ret
    refine ⟨ret_int ?_, (by first | exact al | (rw [hW]; exact al))⟩
    rw [← Hr.out]
    rw [if_neg (by intro g; omega)]
    rfl
  have t11 : decide ((72057594037927935 : Int) < (s : Int)) = false := decide_eq_false (by omega)
  go_wp2
  go_ret
  refine ⟨ret_int ?_, (by first | exact al | (rw [hW]; exact al))⟩
  rw [← Hr.out]
  rw [if_pos ⟨by omega, by omega, by omega, by simp, by omega, by omega⟩]
  rfl
set_option maxHeartbeats 8000000 in
theorem rscheck_any (w : World) (A : Option Addr) (n c : Nat) (B : Option Addr) (m d : Nat) (x : SpanL) (h3 : Sl w 1 A n c (bc x.lo)) (h4 : Sl w 1 B m d (bc x.hi)) :
    Calls Tryz.prog 37 #[.agg #[.slice A n c, .slice B m d, .int .u64 (x.seq.toNat : Int)]] w fun e w' => e = .returned (.int .i64 (checkSpanL x : Nat)) ∧ Below w.heap.size w w' := by
  have hl3 := h3.lenb
  have hl4 := h4.lenb
  have hnil : m = 0 → ltL x.lo x.hi = false := fun e => by
    have : x.hi = [] := List.length_eq_zero_iff.1 (by omega)
    rw [this]
    unfold ltL
    cases x.lo <;> rfl
  obtain ⟨r, hr⟩ : ∃ r, checkSpanL x = r := ⟨_, rfl⟩
  rw [hr]
  unfold checkSpanL at hr
  rw [hl3, hl4] at hr
  obtain ⟨bl, hbl⟩ : ∃ b, ltL x.lo x.hi = b := ⟨_, rfl⟩
  rw [hbl] at hr hnil
  have al := (Below.refl w.heap.size w).alloc (Nat.le_refl _) (.cells #[.slice A n c, .slice B m d, .int .u64 (x.seq.toNat : Int)] 72)
  have ck := rless_is (w.alloc (.cells #[.slice A n c, .slice B m d, .int .u64 (x.seq.toNat : Int)] 72)) A n c _ (h3.below (by omega) al) B m d _ (h4.below (by omega) al) bl (Lib.hid hbl)
  have kB := Bx.fresh w (.slice A n c) (.slice B m d) (.int .u64 (x.seq.toNat : Int)) 72
  generalize x.seq.toNat = s at *
  generalize hW : (w.alloc (.cells #[.slice A n c, .slice B m d, .int .u64 (s : Int)] 72)) = w1 at *
  have Hr := Lib.hid hr
  have Ck := Lib.hid ck
  have Hn := Lib.hid hnil
  clear hr ck hl3 hl4 hbl h3 h4 hnil
  obtain ⟨x0, x1, x2, x3⟩ := id kB
  go_enter Tryz.func37, Tryz.ntmps37
  by_cases q0 : n < 1
  case pos =>
    have t0 : decide ((n : Int) < 1) = true := decide_eq_true (by omega)
    go_wp2
    go_ret
    refine ⟨ret_int ?_, (by first | exact al | (rw [hW]; exact al))⟩
    rw [← Hr.out]
    rw [if_neg (by intro g; omega)]
    rfl
  have t0 : decide ((n : Int) < 1) = false := decide_eq_false (by omega)
  by_cases q1 : 64 < n
  case pos =>
    have t1 : decide ((64 : Int) < (n : Int)) = true := decide_eq_true (by omega)
    go_wp2
    go_ret
    refine ⟨ret_int ?_, (by first | exact al | (rw [hW]; exact al))⟩
    rw [← Hr.out]
    rw [if_neg (by intro g; omega)]
    rfl
  have t1 : decide ((64 : Int) < (n : Int)) = false := decide_eq_false (by omega)
  by_cases q2 : m < 1
  case pos =>
    have t2 : decide ((m : Int) < 1) = true := decide_eq_true (by omega)
    go_wp2
    go_ret
    refine ⟨ret_int ?_, (by first | exact al | (rw [hW]; exact al))⟩
    rw [← Hr.out]
    rw [if_neg (by intro g; rw [Hn.out (by omega)] at g; exact absurd g.2.2.2.1 (by simp))]
    rfl
  have t2 : decide ((m : Int) < 1) = false := decide_eq_false (by omega)
  by_cases q3 : 64 < m
  case pos =>
    have t3 : decide ((64 : Int) < (m : Int)) = true := decide_eq_true (by omega)
    go_wp2
    go_ret
    refine ⟨ret_int ?_, (by first | exact al | (rw [hW]; exact al))⟩
    rw [← Hr.out]
    rw [if_neg (by intro g; omega)]
    rfl
  have t3 : decide ((64 : Int) < (m : Int)) = false := decide_eq_false (by omega)
  have ck := Ck.out
  clear Ck
  have Ck := Lib.hid ck
  clear ck
  go_wp2_with fail
  try rw [hW]
  refine Ck.out.mono ?_
  rintro e w' ⟨rfl, rfl⟩
  cases bl
  case false =>
    go_wp2
    go_ret
    refine ⟨ret_int ?_, (by first | exact al | (rw [hW]; exact al))⟩
    rw [← Hr.out]
    rw [if_neg (by intro g; exact absurd g.2.2.2.1 (by simp))]
    rfl
  by_cases p0 : s < 1
  case pos =>
    have t10 : decide ((s : Int) < 1) = true := decide_eq_true (by omega)
    go_wp2
    go_ret
    refine ⟨ret_int ?_, (by first | exact al | (rw [hW]; exact al))⟩
    rw [← Hr.out]
    rw [if_neg (by intro g; omega)]
    rfl
  have t10 : decide ((s : Int) < 1) = false := decide_eq_false (by omega)
  by_cases p1 : 72057594037927936 ≤ s
  case pos =>
    have t11 : decide ((72057594037927936 : Int) ≤ (s : Int)) = true := decide_eq_true (by omega)
    go_wp2
    go_ret
    refine ⟨ret_int ?_, (by first | exact al | (rw [hW]; exact al))⟩
    rw [← Hr.out]
    rw [if_neg (by intro g; omega)]
    rfl
  have t11 : decide ((72057594037927936 : Int) ≤ (s : Int)) = false := decide_eq_false (by omega)
  go_wp2
  go_ret
  refine ⟨ret_int ?_, (by first | exact al | (rw [hW]; exact al))⟩
  rw [← Hr.out]
  rw [if_pos ⟨by omega, by omega, by omega, by simp, by omega, by omega⟩]
  rfl
set_option maxHeartbeats 8000000 in
theorem covers_any (w : World) (A : Option Addr) (n c : Nat) (B : Option Addr) (m d : Nat) (x : SpanL) (h3 : Sl w 1 A n c (bc x.lo)) (h4 : Sl w 1 B m d (bc x.hi)) (K : Option Addr) (k ck : Nat) (key : List UInt8) (hk : Sl w 1 K k ck (bc key)) :
    Calls Tryz.prog 102 #[.agg #[.slice A n c, .slice B m d, .int .u64 (x.seq.toNat : Int)], .slice K k ck] w fun e w' => e = .returned (.bool (coversS x key)) ∧ Below w.heap.size w w' := by
  unfold coversS
  obtain ⟨b1, hb1⟩ : ∃ b, ltL key x.lo = b := ⟨_, rfl⟩
  obtain ⟨b2, hb2⟩ : ∃ b, ltL key x.hi = b := ⟨_, rfl⟩
  rw [hb1, hb2]
  have al := (Below.refl w.heap.size w).alloc (Nat.le_refl _) (.cells #[.slice A n c, .slice B m d, .int .u64 (x.seq.toNat : Int)] 72)
  have c1 := less_is (w.alloc (.cells #[.slice A n c, .slice B m d, .int .u64 (x.seq.toNat : Int)] 72)) K k ck _ (hk.below (by omega) al) A n c _ (h3.below (by omega) al) b1 (Lib.hid hb1)
  have c2 := less_is (w.alloc (.cells #[.slice A n c, .slice B m d, .int .u64 (x.seq.toNat : Int)] 72)) K k ck _ (hk.below (by omega) al) B m d _ (h4.below (by omega) al) b2 (Lib.hid hb2)
  have kB := Bx.fresh w (.slice A n c) (.slice B m d) (.int .u64 (x.seq.toNat : Int)) 72
  generalize x.seq.toNat = s at *
  generalize hW : (w.alloc (.cells #[.slice A n c, .slice B m d, .int .u64 (s : Int)] 72)) = w1 at *
  have C1 := Lib.hid c1
  have C2 := Lib.hid c2
  clear c1 c2 hb1 hb2 h3 h4 hk
  obtain ⟨x0, x1, x2, x3⟩ := id kB
  go_enter Tryz.func102, Tryz.ntmps102
  go_wp2_with fail
  try rw [hW]
  refine C1.out.mono ?_
  rintro e w' ⟨rfl, rfl⟩
  cases b1
  case true =>
    go_wp2
    go_ret
    exact ⟨rfl, al⟩
  go_wp2_with fail
  refine C2.out.mono ?_
  rintro e w' ⟨rfl, rfl⟩
  go_wp2
  go_ret
  exact ⟨rfl, al⟩
theorem right_step (ls : List SpanL) (j : Nat) (hj : j < ls.length) : rightSpans (ls.take (j + 1)) = if checkSpanL ls[j] = 0 then rightSpans (ls.take j) ++ [ls[j]] else rightSpans (ls.take j) := by
  unfold rightSpans
  rw [take_snoc _ _ hj, List.filter_append]
  split
  · rename_i h
    rw [List.filter_cons_of_pos (by simpa using h)]
    rfl
  · rename_i h
    rw [List.filter_cons_of_neg (by simpa using h)]
    simp
end Go.Proofs.YtpffieogkfndaaaGreatDoor
