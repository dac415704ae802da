/-
  What tomb.Check, covers and the reference's Check and Right of spans answer. (Printed by genspan.py.) No condition.
-/
import Derived.Test.YtpffieogkfndaaaDoorJLeafVersion
import Derived.Test.YtpffieogkfndaaaDoorJKeyMake
import Derived.Test.YtpffieogkfndaaaDoorJHeldF
namespace Go.Proofs.YtpffieogkfndaaaDoor
open Go.RowKit
set_option maxRecDepth 20000
set_option linter.unusedVariables false
set_option linter.unusedSimpArgs false
theorem wpList_appL {P : Program} {α : Type} [Rep α] (w : World) {ops : Array Oper} {rest : List Oper} {o : Oper} {a : Act} {Q : Exit → Act → World → Prop} (hgd : o.guard = none) (s x : Operand) (t : TypeId)
    (ho : o.op = .call { callee := .builtin .append, args := #[s, x], argTypes := #[t, t] })
    (B L : Nat) (e : TypeId) (z : Value) (bytes : Nat) (ht : P.underlying t = some (.slice e)) (hi : (P.info? e).map (fun i => (i.zero, i.size, i.bytes)) = some (some z, Rep.size α, bytes))
    (hzs : z.cells.size = Rep.size α)
    (A : Option Addr) (n c : Nat) (ls : List α) (hsv : a.eval s = .slice A n c) (hown : OwnL w B L e A n c ls)
    (A2 : Option Addr) (m c2 : Nat) (ms : List α) (hx : a.eval x = .slice A2 m c2) (hs : ∃ xs, Sl w (Rep.size α) A2 m c2 xs ∧ RowC w (fun b => b < L) xs ms)
    (h63 : n + m ≤ maxLen) (hbytes : (n + m) * bytes ≤ 140737488355328) (hB : B ≤ w.heap.size) (hL : L ≤ B)
    (h : ∀ A' c' w', OwnL w' B L e A' (n + m) c' (ls ++ ms) → w.grownBy w' (blk A c) → (blk A' c' = blk A c ∨ blk A' c' = some w.heap.size) → wpList P ops Q rest (a.put o.dst (.slice A' (n + m) c')) w') : wpList P ops Q (o :: rest) a w := by
  obtain ⟨A', c', w', hrun, h2, h3, h4⟩ := row_appL P w t o.type z bytes ht hi hzs hown A2 m c2 ms hs h63 hbytes hB hL
  refine wpList_plain hgd fun _ hK => ?_
  unfold Oper.wp execOp
  simp only [ho, resolve, invoke, builtin, Sem.run_bind, Sem.run_pure, Result.andThen_ok, List.map_toArray, List.map_cons, List.map_nil, hsv, hx, hrun]
  exact hK _ _ (h A' c' w' h2 h3 h4)
set_option maxHeartbeats 8000000 in
theorem scheck_any (w : World) (A : Option Addr) (n c : Nat) (B : Option Addr) (m d : Nat) (x : SpanL) (h3 : Sl w 1 A n c (bc x.lo)) (h4 : Sl w 1 B m d (bc x.hi)) :
    Calls Tryd.prog 50 #[.agg #[.slice A n c, .slice B m d, .int .u64 (x.seq.toNat : Int)]] w fun e w' => e = .returned (.int .i64 (checkSpanL x : Nat)) ∧ Below w.heap.size w w' := by
  have hl3 := h3.lenb
  have hl4 := h4.lenb
  have hnil : m = 0 → ltL x.lo x.hi = false := fun e => by
    have : x.hi = [] := List.length_eq_zero_iff.1 (by omega)
    rw [this]
    unfold ltL
    cases x.lo <;> rfl
  obtain ⟨r, hr⟩ : ∃ r, checkSpanL x = r := ⟨_, rfl⟩
  rw [hr]
  unfold checkSpanL at hr
  rw [hl3, hl4] at hr
  obtain ⟨bl, hbl⟩ : ∃ b, ltL x.lo x.hi = b := ⟨_, rfl⟩
  rw [hbl] at hr hnil
  have al := (Below.refl w.heap.size w).alloc (Nat.le_refl _) (.cells #[.slice A n c, .slice B m d, .int .u64 (x.seq.toNat : Int)] 48)
  have ck := less_is (w.alloc (.cells #[.slice A n c, .slice B m d, .int .u64 (x.seq.toNat : Int)] 48)) A n c _ (h3.below (by omega) al) B m d _ (h4.below (by omega) al) bl (Lib.hid hbl)
  have kB := Bx.fresh w (.slice A n c) (.slice B m d) (.int .u64 (x.seq.toNat : Int)) 48
  generalize x.seq.toNat = s at *
  generalize hW : (w.alloc (.cells #[.slice A n c, .slice B m d, .int .u64 (s : Int)] 48)) = w1 at *
  have Hr := Lib.hid hr
  have Ck := Lib.hid ck
  have Hn := Lib.hid hnil
  clear hr ck hl3 hl4 hbl h3 h4 hnil
  obtain ⟨x0, x1, x2, x3⟩ := id kB
  go_enter Tryd.func50, Tryd.ntmps50
  by_cases q0 : n = 0
  case pos =>
    subst q0
    go_wp2
    go_ret
    refine ⟨ret_int ?_, (by first | exact al | (rw [hW]; exact al))⟩
    rw [← Hr.out]
    rw [if_neg (by intro g; omega)]
    rfl
  have t0 : ((n : Int) == 0) = false := by simp; omega
  by_cases q1 : 64 < n
  case pos =>
    have t1 : decide ((64 : Int) < (n : Int)) = true := decide_eq_true (by omega)
    go_wp2
    go_ret
    refine ⟨ret_int ?_, (by first | exact al | (rw [hW]; exact al))⟩
    rw [← Hr.out]
    rw [if_neg (by intro g; omega)]
    rfl
  have t1 : decide ((64 : Int) < (n : Int)) = false := decide_eq_false (by omega)
  by_cases q2 : 64 < m
  case pos =>
    have t2 : decide ((64 : Int) < (m : Int)) = true := decide_eq_true (by omega)
    go_wp2
    go_ret
    refine ⟨ret_int ?_, (by first | exact al | (rw [hW]; exact al))⟩
    rw [← Hr.out]
    rw [if_neg (by intro g; omega)]
    rfl
  have t2 : decide ((64 : Int) < (m : Int)) = false := decide_eq_false (by omega)
  have ck := Ck.out
  clear Ck
  have Ck := Lib.hid ck
  clear ck
  go_wp2_with fail
  try rw [hW]
  refine Ck.out.mono ?_
  rintro e w' ⟨rfl, rfl⟩
  cases bl
  case false =>
    go_wp2
    go_ret
    refine ⟨ret_int ?_, (by first | exact al | (rw [hW]; exact al))⟩
    rw [← Hr.out]
    rw [if_neg (by intro g; exact absurd g.2.2.2.1 (by simp))]
    rfl
  by_cases p0 : s = 0
  case pos =>
    subst p0
    go_wp2
    go_ret
    refine ⟨ret_int ?_, (by first | exact al | (rw [hW]; exact al))⟩
    rw [← Hr.out]
    rw [if_neg (by intro g; omega)]
    rfl
  have t10 : ((s : Int) == 0) = false := by simp; omega
  by_cases p1 : 72057594037927935 < s
  case pos =>
    have t11 : decide ((72057594037927935 : Int) < (s : Int)) = true := decide_eq_true (by omega)
    go_wp2
    go_ret
    refine ⟨ret_int ?_, (by first | exact al | (rw [hW]; exact al))⟩
    rw [← Hr.out]
    rw [if_neg (by intro g; omega)]
    rfl
  have t11 : decide ((72057594037927935 : Int) < (s : Int)) = false := decide_eq_false (by omega)
  go_wp2
  go_ret
  refine ⟨ret_int ?_, (by first | exact al | (rw [hW]; exact al))⟩
  rw [← Hr.out]
  rw [if_pos ⟨by omega, by omega, by omega, by simp, by omega, by omega⟩]
  rfl
set_option maxHeartbeats 8000000 in
theorem rscheck_any (w : World) (A : Option Addr) (n c : Nat) (B : Option Addr) (m d : Nat) (x : SpanL) (h3 : Sl w 1 A n c (bc x.lo)) (h4 : Sl w 1 B m d (bc x.hi)) :
    Calls Tryd.prog 23 #[.agg #[.slice A n c, .slice B m d, .int .u64 (x.seq.toNat : Int)]] w fun e w' => e = .returned (.int .i64 (checkSpanL x : Nat)) ∧ Below w.heap.size w w' := by
  have hl3 := h3.lenb
  have hl4 := h4.lenb
  have hnil : m = 0 → ltL x.lo x.hi = false := fun e => by
    have : x.hi = [] := List.length_eq_zero_iff.1 (by omega)
    rw [this]
    unfold ltL
    cases x.lo <;> rfl
  obtain ⟨r, hr⟩ : ∃ r, checkSpanL x = r := ⟨_, rfl⟩
  rw [hr]
  unfold checkSpanL at hr
  rw [hl3, hl4] at hr
  obtain ⟨bl, hbl⟩ : ∃ b, ltL x.lo x.hi = b := ⟨_, rfl⟩
  rw [hbl] at hr hnil
  have al := (Below.refl w.heap.size w).alloc (Nat.le_refl _) (.cells #[.slice A n c, .slice B m d, .int .u64 (x.seq.toNat : Int)] 48)
  have ck := rless_is (w.alloc (.cells #[.slice A n c, .slice B m d, .int .u64 (x.seq.toNat : Int)] 48)) A n c _ (h3.below (by omega) al) B m d _ (h4.below (by omega) al) bl (Lib.hid hbl)
  have kB := Bx.fresh w (.slice A n c) (.slice B m d) (.int .u64 (x.seq.toNat : Int)) 48
  generalize x.seq.toNat = s at *
  generalize hW : (w.alloc (.cells #[.slice A n c, .slice B m d, .int .u64 (s : Int)] 48)) = w1 at *
  have Hr := Lib.hid hr
  have Ck := Lib.hid ck
  have Hn := Lib.hid hnil
  clear hr ck hl3 hl4 hbl h3 h4 hnil
  obtain ⟨x0, x1, x2, x3⟩ := id kB
  go_enter Tryd.func23, Tryd.ntmps23
  by_cases q0 : n < 1
  case pos =>
    have t0 : decide ((n : Int) < 1) = true := decide_eq_true (by omega)
    go_wp2
    go_ret
    refine ⟨ret_int ?_, (by first | exact al | (rw [hW]; exact al))⟩
    rw [← Hr.out]
    rw [if_neg (by intro g; omega)]
    rfl
  have t0 : decide ((n : Int) < 1) = false := decide_eq_false (by omega)
  by_cases q1 : 64 < n
  case pos =>
    have t1 : decide ((64 : Int) < (n : Int)) = true := decide_eq_true (by omega)
    go_wp2
    go_ret
    refine ⟨ret_int ?_, (by first | exact al | (rw [hW]; exact al))⟩
    rw [← Hr.out]
    rw [if_neg (by intro g; omega)]
    rfl
  have t1 : decide ((64 : Int) < (n : Int)) = false := decide_eq_false (by omega)
  by_cases q2 : m < 1
  case pos =>
    have t2 : decide ((m : Int) < 1) = true := decide_eq_true (by omega)
    go_wp2
    go_ret
    refine ⟨ret_int ?_, (by first | exact al | (rw [hW]; exact al))⟩
    rw [← Hr.out]
    rw [if_neg (by intro g; rw [Hn.out (by omega)] at g; exact absurd g.2.2.2.1 (by simp))]
    rfl
  have t2 : decide ((m : Int) < 1) = false := decide_eq_false (by omega)
  by_cases q3 : 64 < m
  case pos =>
    have t3 : decide ((64 : Int) < (m : Int)) = true := decide_eq_true (by omega)
    go_wp2
    go_ret
    refine ⟨ret_int ?_, (by first | exact al | (rw [hW]; exact al))⟩
    rw [← Hr.out]
    rw [if_neg (by intro g; omega)]
    rfl
  have t3 : decide ((64 : Int) < (m : Int)) = false := decide_eq_false (by omega)
  have ck := Ck.out
  clear Ck
  have Ck := Lib.hid ck
  clear ck
  go_wp2_with fail
  try rw [hW]
  refine Ck.out.mono ?_
  rintro e w' ⟨rfl, rfl⟩
  cases bl
  case false =>
    go_wp2
    go_ret
    refine ⟨ret_int ?_, (by first | exact al | (rw [hW]; exact al))⟩
    rw [← Hr.out]
    rw [if_neg (by intro g; exact absurd g.2.2.2.1 (by simp))]
    rfl
  by_cases p0 : s < 1
  case pos =>
    have t10 : decide ((s : Int) < 1) = true := decide_eq_true (by omega)
    go_wp2
    go_ret
    refine ⟨ret_int ?_, (by first | exact al | (rw [hW]; exact al))⟩
    rw [← Hr.out]
    rw [if_neg (by intro g; omega)]
    rfl
  have t10 : decide ((s : Int) < 1) = false := decide_eq_false (by omega)
  by_cases p1 : 72057594037927936 ≤ s
  case pos =>
    have t11 : decide ((72057594037927936 : Int) ≤ (s : Int)) = true := decide_eq_true (by omega)
    go_wp2
    go_ret
    refine ⟨ret_int ?_, (by first | exact al | (rw [hW]; exact al))⟩
    rw [← Hr.out]
    rw [if_neg (by intro g; omega)]
    rfl
  have t11 : decide ((72057594037927936 : Int) ≤ (s : Int)) = false := decide_eq_false (by omega)
  go_wp2
  go_ret
  refine ⟨ret_int ?_, (by first | exact al | (rw [hW]; exact al))⟩
  rw [← Hr.out]
  rw [if_pos ⟨by omega, by omega, by omega, by simp, by omega, by omega⟩]
  rfl
set_option maxHeartbeats 8000000 in
theorem covers_any (w : World) (A : Option Addr) (n c : Nat) (B : Option Addr) (m d : Nat) (x : SpanL) (h3 : Sl w 1 A n c (bc x.lo)) (h4 : Sl w 1 B m d (bc x.hi)) (K : Option Addr) (k ck : Nat) (key : List UInt8) (hk : Sl w 1 K k ck (bc key)) :
    Calls Tryd.prog 74 #[.agg #[.slice A n c, .slice B m d, .int .u64 (x.seq.toNat : Int)], .slice K k ck] w fun e w' => e = .returned (.bool (coversS x key)) ∧ Below w.heap.size w w' := by
  unfold coversS
  obtain ⟨b1, hb1⟩ : ∃ b, ltL key x.lo = b := ⟨_, rfl⟩
  obtain ⟨b2, hb2⟩ : ∃ b, ltL key x.hi = b := ⟨_, rfl⟩
  rw [hb1, hb2]
  have al := (Below.refl w.heap.size w).alloc (Nat.le_refl _) (.cells #[.slice A n c, .slice B m d, .int .u64 (x.seq.toNat : Int)] 48)
  have c1 := less_is (w.alloc (.cells #[.slice A n c, .slice B m d, .int .u64 (x.seq.toNat : Int)] 48)) K k ck _ (hk.below (by omega) al) A n c _ (h3.below (by omega) al) b1 (Lib.hid hb1)
  have c2 := less_is (w.alloc (.cells #[.slice A n c, .slice B m d, .int .u64 (x.seq.toNat : Int)] 48)) K k ck _ (hk.below (by omega) al) B m d _ (h4.below (by omega) al) b2 (Lib.hid hb2)
  have kB := Bx.fresh w (.slice A n c) (.slice B m d) (.int .u64 (x.seq.toNat : Int)) 48
  generalize x.seq.toNat = s at *
  generalize hW : (w.alloc (.cells #[.slice A n c, .slice B m d, .int .u64 (s : Int)] 48)) = w1 at *
  have C1 := Lib.hid c1
  have C2 := Lib.hid c2
  clear c1 c2 hb1 hb2 h3 h4 hk
  obtain ⟨x0, x1, x2, x3⟩ := id kB
  go_enter Tryd.func74, Tryd.ntmps74
  go_wp2_with fail
  try rw [hW]
  refine C1.out.mono ?_
  rintro e w' ⟨rfl, rfl⟩
  cases b1
  case true =>
    go_wp2
    go_ret
    exact ⟨rfl, al⟩
  go_wp2_with fail
  refine C2.out.mono ?_
  rintro e w' ⟨rfl, rfl⟩
  go_wp2
  go_ret
  exact ⟨rfl, al⟩
theorem right_step (ls : List SpanL) (j : Nat) (hj : j < ls.length) : rightSpans (ls.take (j + 1)) = if checkSpanL ls[j] = 0 then rightSpans (ls.take j) ++ [ls[j]] else rightSpans (ls.take j) := by
  unfold rightSpans
  rw [take_snoc _ _ hj, List.filter_append]
  split
  · rename_i h
    rw [List.filter_cons_of_pos (by simpa using h)]
    rfl
  · rename_i h
    rw [List.filter_cons_of_neg (by simpa using h)]
    simp
set_option maxHeartbeats 8000000 in
theorem right_spans (w : World) (p : Nat → Prop) (A : Option Addr) (n c : Nat) (ls : List SpanL) (h : SlR w p A n c ls) (hn : n ≤ 100000) :
    Calls Tryd.prog 7 #[.slice A n c] w fun e w' => ∃ A' n' c', e = .returned (.slice A' n' c') ∧ OwnL w' w.heap.size w.heap.size 48 A' n' c' (rightSpans ls) ∧ Below w.heap.size w w' := by
  have hcp := h.cap
  unfold maxLen at hcp
  have hl := h.lenR
  have Hl := Lib.hid hl
  clear hl
  have h := h.mono (q := fun _ => True) fun _ _ _ => trivial
  go_enter Tryd.func7, Tryd.ntmps7
  go_wp2
  go_loopw [3, 8] (fun s q wr => ∃ j : Nat, j ≤ n ∧ q = .int .i64 j ∧ Below w.heap.size w wr ∧ ∃ A2 n2 c2, s = .slice A2 n2 c2 ∧ OwnL wr w.heap.size w.heap.size 48 A2 n2 c2 (rightSpans (ls.take j))) (fun _ q _ => n - (intOf q).toNat)
  case atStart => exact ⟨0, Nat.zero_le _, rfl, Below.refl _ _, none, 0, 0, rfl, OwnL.nil _ _ _ _ _⟩
  case round =>
    obtain ⟨j, hj, rfl, hbr, A2, n2, c2, rfl, ho2⟩ := hrel
    by_cases hlt : j < n
    case neg =>
      obtain rfl : n = j := by omega
      rw [List.take_of_length_le (by have := Hl.out; omega)] at ho2
      have Ho2 := Lib.hid ho2
      clear ho2
      go_wp2
      go_ret
      exact ⟨A2, n2, c2, rfl, Ho2.out, hbr⟩
    have hn2 : n2 ≤ 100000 := by
      have h1 := ho2.lenR
      have h2 := List.length_filter_le (fun s => decide (checkSpanL s = 0)) (ls.take j)
      unfold rightSpans at h1
      rw [List.length_take] at h2
      omega
    have hr : SlR wr (fun b => b < w.heap.size) A n c ls := h.move fun b hl _ => ⟨hbr.block b hl, hl⟩
    obtain ⟨b, o, A3, n3, c3, A4, n4, c4, hjl, rfl, d0, d1, d2, s3, h3, s4, h4⟩ := hr.spanAt hlt
    clear hr
    have hst := right_step ls j hjl
    generalize ls[j] = x at *
    have al := (Below.refl wr.heap.size wr).alloc (Nat.le_refl _) (.cells #[.slice A3 n3 c3, .slice A4 n4 c4, .int .u64 (x.seq.toNat : Int)] 48)
    have ck := rscheck_any (wr.alloc (.cells #[.slice A3 n3 c3, .slice A4 n4 c4, .int .u64 (x.seq.toNat : Int)] 48)) A3 n3 c3 A4 n4 c4 x (s3.below (by omega) al) (s4.below (by omega) al)
    have kB := Bx.fresh wr (.slice A3 n3 c3) (.slice A4 n4 c4) (.int .u64 (x.seq.toNat : Int)) 48
    generalize hs : x.seq.toNat = s at *
    generalize checkSpanL x = e at *
    have s3 := s3.below (by omega) al
    have s4 := s4.below (by omega) al
    have ho2 := ho2.below al
    have hbr := hbr.trans (al.mono hbr.size)
    generalize hW : (wr.alloc (.cells #[.slice A3 n3 c3, .slice A4 n4 c4, .int .u64 (s : Int)] 48)) = w1 at *
    have Hst := Lib.hid hst
    have Ck := Lib.hid ck
    have Hs := Lib.hid hs
    clear hst ck al hs
    obtain ⟨x0, x1, x2, x3⟩ := id kB
    go_wp2_with fail
    try rw [hW]
    refine Ck.out.mono ?_
    rintro e' w2 ⟨rfl, hb2⟩
    have kB := kB.below hb2
    have s3 := s3.below (by omega) hb2
    have s4 := s4.below (by omega) hb2
    have ho2 := ho2.below hb2
    have hbr := hbr.trans (hb2.mono hbr.size)
    clear x0 x1 x2 x3 d0 d1 d2 hb2 Ck
    obtain ⟨x0, x1, x2, x3⟩ := id kB
    by_cases he : e = 0
    case neg =>
      have t1 : ((e : Int) == 0) = false := by simp; omega
      have hst : rightSpans (ls.take (j + 1)) = rightSpans (ls.take j) := by rw [Hst.out, if_neg he]
      clear Hst
      have Hst := Lib.hid hst
      clear hst
      go_wp2
      go_roundw
      case rel => exact ⟨j + 1, by omega, by go_num, hbr, A2, n2, c2, rfl, by rw [Hst.out]; exact ho2⟩
      case measure => simp [intOf]; omega
    subst he
    have hst : rightSpans (ls.take (j + 1)) = rightSpans (ls.take j) ++ [x] := by rw [Hst.out]; simp
    clear Hst
    have Hst := Lib.hid hst
    clear hst
    have hrow := spanRow w2 x s Hs.out (fun b => b < w.heap.size) A3 n3 c3 A4 n4 c4 s3 h3 s4 h4 48
    have al := (Below.refl w2.heap.size w2).alloc (Nat.le_refl _) (.cells #[.slice A3 n3 c3, .slice A4 n4 c4, .int .u64 (s : Int)] 48)
    have ho2 := ho2.below al
    have hbr := hbr.trans (al.mono hbr.size)
    go_wp2_with (at_builtin; refine wpList_appL _ rfl (.tmp 15) (.tmp 17) 23 rfl w.heap.size w.heap.size 48 _ 56 Tryd.underlying23 infoSpan rfl A2 n2 c2 _ rfl ho2 _ 1 1 [x] rfl hrow ?_ ?_ ?_ (Nat.le_refl _) ?_)
    · unfold maxLen; omega
    · omega
    · exact hbr.size
    intro A9 c9 w9 ho9 hg9 _
    have hbr9 := hbr.grown hg9 hbr.size (fun b hb => (ho2.lt b hb).1)
    rw [← Hst.out] at ho9
    clear x0 x1 x2 x3 kB hrow ho2 hg9
    go_wp2
    go_roundw
    case rel => exact ⟨j + 1, by omega, by go_num, hbr9, A9, _, c9, rfl, ho9⟩
    case measure => simp [intOf]; omega
end Go.Proofs.YtpffieogkfndaaaDoor
