/-
  EntSame, SpanOne in one text. No condition but sizes.
-/
import Derived.Test.YtpffieogkfndaaaDoorJKeyReadW
import Derived.Test.YtpffieogkfndaaaDoorJRowsY
import Derived.Test.YtpffieogkfndaaaDoorJHeldF
import Derived.Test.YtpffieogkfndaaaDoorSpanCheck
namespace Go.Proofs.YtpffieogkfndaaaDoor
open Go.RowKit
set_option maxRecDepth 20000
set_option linter.unusedVariables false
set_option linter.unusedSimpArgs false
set_option maxHeartbeats 8000000 in
theorem sent_any (w : World) (A : Option Addr) (n c : Nat) (B : Option Addr) (m d : Nat) (x : EntL) (h1 : Sl w 1 A n c (bc x.key.user)) (h2 : Sl w 1 B m d (bc x.value)) (A' : Option Addr) (n' c' : Nat) (B' : Option Addr) (m' d' : Nat) (y : EntL) (h1' : Sl w 1 A' n' c' (bc y.key.user)) (h2' : Sl w 1 B' m' d' (bc y.value)) :
    Calls Tryd.prog 41 #[.agg #[.slice A n c, .int .u64 (x.key.seq.toNat : Int), .int .u8 (x.key.kind.toNat : Int), .slice B m d], .agg #[.slice A' n' c', .int .u64 (y.key.seq.toNat : Int), .int .u8 (y.key.kind.toNat : Int), .slice B' m' d']] w fun e w' => e = .returned (.bool (decide (x = y))) ∧ Below w.heap.size w w' := by
  have ck := fun w' (hb : Below w.heap.size w w') => keq_any w' A n c x.key (h1.below (by omega) hb) A' n' c' y.key (h1'.below (by omega) hb)
  have cs := fun w' (hb : Below w.heap.size w w') => same_any w' B m d x.value B' m' d' y.value (h2.below (by omega) hb) (h2'.below (by omega) hb)
  have he : decide (x = y) = ((x.key == y.key) && (x.value == y.value)) := by
    cases x with | mk k v =>
    cases y with | mk k' v' =>
    rw [Bool.eq_iff_iff]
    simp
  rw [he]
  generalize (x.key == y.key) = b1 at *
  generalize (x.value == y.value) = b2 at *
  generalize x.key.seq.toNat = s at *
  generalize x.key.kind.toNat = k at *
  generalize y.key.seq.toNat = s' at *
  generalize y.key.kind.toNat = k' at *
  have Ck := Lib.hid ck
  have Cs := Lib.hid cs
  clear ck cs he h1 h2 h1' h2'
  have a1 := (Below.refl w.heap.size w).alloc (Nat.le_refl _) (.cells #[.slice A n c, .int .u64 (s : Int), .int .u8 (k : Int), .slice B m d] 45)
  have k1 := Bx4.fresh w (.slice A n c) (.int .u64 (s : Int)) (.int .u8 (k : Int)) (.slice B m d) 45
  generalize hW1 : (w.alloc (.cells #[.slice A n c, .int .u64 (s : Int), .int .u8 (k : Int), .slice B m d] 45)) = w1 at *
  have a2 := (Below.refl w1.heap.size w1).alloc (Nat.le_refl _) (.cells #[.slice A' n' c', .int .u64 (s' : Int), .int .u8 (k' : Int), .slice B' m' d'] 45)
  have k2 := Bx4.fresh w1 (.slice A' n' c') (.int .u64 (s' : Int)) (.int .u8 (k' : Int)) (.slice B' m' d') 45
  have k1 := k1.below a2
  have hq := a1.trans (a2.mono a1.size)
  generalize hW2 : (w1.alloc (.cells #[.slice A' n' c', .int .u64 (s' : Int), .int .u8 (k' : Int), .slice B' m' d'] 45)) = w2 at *
  clear a1 a2
  obtain ⟨x0, x1, x2, x3, x4⟩ := id k1
  obtain ⟨y0, y1, y2, y3, y4⟩ := id k2
  go_enter Tryd.func41, Tryd.ntmps41
  go_wp2_with fail
  try rw [hW1]
  try rw [hW2]
  clear hW1 hW2
  refine (Ck.out _ hq).mono ?_
  rintro e w3 ⟨rfl, hb3⟩
  have k1 := k1.below hb3
  have k2 := k2.below hb3
  have hq := hq.trans (hb3.mono hq.size)
  clear hb3 x0 x1 x2 x3 x4 y0 y1 y2 y3 y4
  obtain ⟨x0, x1, x2, x3, x4⟩ := id k1
  obtain ⟨y0, y1, y2, y3, y4⟩ := id k2
  cases b1
  · go_wp2
    go_ret
    exact ⟨rfl, hq⟩
  · go_wp2_with fail
    refine (Cs.out _ hq).mono ?_
    rintro e w' ⟨rfl, rfl⟩
    go_wp2
    go_ret
    exact ⟨rfl, hq⟩
set_option maxHeartbeats 8000000 in
theorem sents_any (w : World) (p : Nat → Prop) (A : Option Addr) (n c : Nat) (ls : List EntL) (h : SlR w p A n c ls) (p' : Nat → Prop) (A' : Option Addr) (n' c' : Nat) (ms : List EntL) (h' : SlR w p' A' n' c' ms) :
    Calls Tryd.prog 11 #[.slice A n c, .slice A' n' c'] w fun e w' => e = .returned (.bool (decide (ls = ms))) ∧ Below w.heap.size w w' := by
  have hcp := h.cap
  unfold maxLen at hcp
  have hl := h.lenR
  have hl' := h'.lenR
  obtain ⟨r, hr⟩ : ∃ r, decide (ls = ms) = r := ⟨_, rfl⟩
  rw [hr]
  by_cases hnn : n = n'
  case neg =>
    have e1 : ((n : Int) != (n' : Int)) = true := by rw [bne_iff_ne]; omega
    have e2 : ((n : Int) == (n' : Int)) = false := by rw [beq_eq_false_iff_ne]; omega
    have er : r = false := by rw [← hr, decide_eq_false_iff_not]; rintro rfl; omega
    subst er
    clear hr hl hl' h h'
    go_enter Tryd.func11, Tryd.ntmps11
    go_wp2
    go_ret
    exact ⟨rfl, Below.refl _ _⟩
  subst hnn
  have Hl := Lib.hid hl
  have Hl' := Lib.hid hl'
  have e1 : ((n : Int) != (n : Int)) = false := by simp
  have Hr : Hid (decide (ls.drop 0 = ms.drop 0) = r) := Lib.hid (by rw [List.drop_zero, List.drop_zero]; exact hr)
  clear hr hl hl'
  go_enter Tryd.func11, Tryd.ntmps11
  go_wp2
  clear e1
  go_loopw [13] (fun q wr => ∃ j : Nat, j ≤ n ∧ q = .int .i64 j ∧ Below w.heap.size w wr ∧ Hid (decide (ls.drop j = ms.drop j) = r)) (fun q _ => n - (intOf q).toNat)
  case atStart => exact ⟨0, Nat.zero_le _, rfl, Below.refl _ _, Hr⟩
  case round =>
    obtain ⟨j, hj, rfl, hbr, He⟩ := hrel
    by_cases hlt : j < n
    case neg =>
      obtain rfl : n = j := by omega
      have e := He.out
      rw [List.drop_of_length_le (by have := Hl.out; omega), List.drop_of_length_le (by have := Hl'.out; omega)] at e
      obtain rfl : true = r := by simpa using e
      go_wp2
      go_ret
      exact ⟨rfl, hbr⟩
    obtain ⟨b, o, A3, n3, c3, A4, n4, c4, hjl, rfl, d0, d1, d2, d3, g3, g4⟩ := h.entAt hlt
    obtain ⟨b', o', A5, n5, c5, A6, n6, c6, hjm, rfl, f0, f1, f2, f3, g5, g6⟩ := h'.entAt hlt
    have hbr := below_drew hbr
    have d0 := stays hbr d0
    have d1 := stays hbr d1
    have d2 := stays hbr d2
    have d3 := stays hbr d3
    have f0 := stays hbr f0
    have f1 := stays hbr f1
    have f2 := stays hbr f2
    have f3 := stays hbr f3
    have hst : decide (ls.drop j = ms.drop j) = (decide (ls[j] = ms[j]) && decide (ls.drop (j + 1) = ms.drop (j + 1))) := by
      rw [List.drop_eq_getElem_cons hjl, List.drop_eq_getElem_cons hjm, Bool.eq_iff_iff]
      simp only [decide_eq_true_eq, Bool.and_eq_true, List.cons.injEq]
    rw [He.out] at hst
    generalize hW : World.drew _ = w0 at *
    have cm := fun w' (hb : Below w0.heap.size w0 w') => sent_any w' A3 n3 c3 A4 n4 c4 ls[j] (g3.below (by omega) (hbr.trans (hb.mono hbr.size))) (g4.below (by omega) (hbr.trans (hb.mono hbr.size))) A5 n5 c5 A6 n6 c6 ms[j] (g5.below (by omega) (hbr.trans (hb.mono hbr.size))) (g6.below (by omega) (hbr.trans (hb.mono hbr.size)))
    generalize decide (ls[j] = ms[j]) = b1 at *
    generalize ls[j].key.seq.toNat = s1 at *
    generalize ls[j].key.kind.toNat = k1 at *
    generalize ms[j].key.seq.toNat = s2 at *
    generalize ms[j].key.kind.toNat = k2 at *
    have Cm := Lib.hid cm
    have Hst := Lib.hid hst.symm
    clear cm hst g3 g4 g5 g6 He hjl hjm
    go_wp2_with fail
    cases b1
    case false =>
      obtain rfl : false = r := Hst.out
      refine regionF (fun _ wa wb => Below w0.heap.size w0 wa → Below w0.heap.size w0 wb) (by kernel_rfl) ?_
      rw [hW]
      clear hW
      have hX := Below.refl w0.heap.size w0
      refine takeP (i := 0) (v := ?_) rfl hX ?hy ?_
      case hy =>
        intro wS hSw
        clear hSw
        go_simp
        try with_reducible rfl
      refine takeP (i := 1) (v := ?_) rfl hX ?hy ?_
      case hy =>
        intro wS hSw
        clear hSw
        go_simp
        try with_reducible rfl
      refine takeP (i := 2) (v := ?_) rfl hX ?hy ?_
      case hy =>
        intro wS hSw
        clear hSw
        go_simp
        try with_reducible rfl
      refine takeP (i := 3) (v := ?_) rfl hX ?hy ?_
      case hy =>
        intro wS hSw
        have d0 := stays hSw d0
        have d1 := stays hSw d1
        have d2 := stays hSw d2
        have d3 := stays hSw d3
        clear hSw
        go_simp
        try with_reducible rfl
      refine takeP (i := 4) (v := ?_) rfl hX ?hy ?_
      case hy =>
        intro wS hSw
        clear hSw
        go_simp
        try with_reducible rfl
      refine takeP (i := 5) (v := ?_) rfl hX ?hy ?_
      case hy =>
        intro wS hSw
        clear hSw
        go_simp
        try with_reducible rfl
      refine takeP (i := 6) (v := ?_) rfl hX ?hy ?_
      case hy =>
        intro wS hSw
        clear hSw
        go_simp
        try with_reducible rfl
      refine takeP (i := 7) (v := ?_) rfl hX ?hy ?_
      case hy =>
        intro wS hSw
        have f0 := stays hSw f0
        have f1 := stays hSw f1
        have f2 := stays hSw f2
        have f3 := stays hSw f3
        clear hSw
        go_simp
        try with_reducible rfl
      try simp only [List.getElem_toArray, List.getElem_cons_succ, List.getElem_cons_zero, Act.put, List.setIfInBounds_toArray, List.set_cons_zero, List.set_cons_succ]
      refine readyF (rs := [8]) (by kernel_rfl) (by simp) ?_
      refine AllF.cons rfl (fun K hK => ?_) AllF.nil
      go_simp
      refine (Cm.out _ hX).mono ?_
      rintro e w0_8 ⟨rfl, hb⟩
      refine hK _ _ (fun h => h.trans (hb.mono h.size)) ?_
      clear hK K
      have hX := hX.trans (hb.mono hX.size)
      clear hb
      refine takeP (i := 9) (v := ?_) rfl hX ?hy ?_
      case hy =>
        intro wS hSw
        clear hSw
        go_simp
        try with_reducible rfl
      try simp only [List.getElem_toArray, List.getElem_cons_succ, List.getElem_cons_zero, Act.put, List.setIfInBounds_toArray, List.set_cons_zero, List.set_cons_succ]
      refine doneF (by kernel_rfl) ?_ _
      try simp only [List.getElem_toArray, List.getElem_cons_succ, List.getElem_cons_zero, Act.put, List.setIfInBounds_toArray, List.set_cons_zero, List.set_cons_succ]
      go_wp2
      go_ret
      exact ⟨rfl, hbr.trans (hX.mono hbr.size)⟩
    case true =>
      refine regionF (fun _ wa wb => Below w0.heap.size w0 wa → Below w0.heap.size w0 wb) (by kernel_rfl) ?_
      rw [hW]
      clear hW
      have hX := Below.refl w0.heap.size w0
      refine takeP (i := 0) (v := ?_) rfl hX ?hy ?_
      case hy =>
        intro wS hSw
        clear hSw
        go_simp
        try with_reducible rfl
      refine takeP (i := 1) (v := ?_) rfl hX ?hy ?_
      case hy =>
        intro wS hSw
        clear hSw
        go_simp
        try with_reducible rfl
      refine takeP (i := 2) (v := ?_) rfl hX ?hy ?_
      case hy =>
        intro wS hSw
        clear hSw
        go_simp
        try with_reducible rfl
      refine takeP (i := 3) (v := ?_) rfl hX ?hy ?_
      case hy =>
        intro wS hSw
        have d0 := stays hSw d0
        have d1 := stays hSw d1
        have d2 := stays hSw d2
        have d3 := stays hSw d3
        clear hSw
        go_simp
        try with_reducible rfl
      refine takeP (i := 4) (v := ?_) rfl hX ?hy ?_
      case hy =>
        intro wS hSw
        clear hSw
        go_simp
        try with_reducible rfl
      refine takeP (i := 5) (v := ?_) rfl hX ?hy ?_
      case hy =>
        intro wS hSw
        clear hSw
        go_simp
        try with_reducible rfl
      refine takeP (i := 6) (v := ?_) rfl hX ?hy ?_
      case hy =>
        intro wS hSw
        clear hSw
        go_simp
        try with_reducible rfl
      refine takeP (i := 7) (v := ?_) rfl hX ?hy ?_
      case hy =>
        intro wS hSw
        have f0 := stays hSw f0
        have f1 := stays hSw f1
        have f2 := stays hSw f2
        have f3 := stays hSw f3
        clear hSw
        go_simp
        try with_reducible rfl
      try simp only [List.getElem_toArray, List.getElem_cons_succ, List.getElem_cons_zero, Act.put, List.setIfInBounds_toArray, List.set_cons_zero, List.set_cons_succ]
      refine readyF (rs := [8]) (by kernel_rfl) (by simp) ?_
      refine AllF.cons rfl (fun K hK => ?_) AllF.nil
      go_simp
      refine (Cm.out _ hX).mono ?_
      rintro e w0_8 ⟨rfl, hb⟩
      refine hK _ _ (fun h => h.trans (hb.mono h.size)) ?_
      clear hK K
      have hX := hX.trans (hb.mono hX.size)
      clear hb
      refine takeP (i := 9) (v := ?_) rfl hX ?hy ?_
      case hy =>
        intro wS hSw
        clear hSw
        go_simp
        try with_reducible rfl
      try simp only [List.getElem_toArray, List.getElem_cons_succ, List.getElem_cons_zero, Act.put, List.setIfInBounds_toArray, List.set_cons_zero, List.set_cons_succ]
      refine doneF (by kernel_rfl) ?_ _
      try simp only [List.getElem_toArray, List.getElem_cons_succ, List.getElem_cons_zero, Act.put, List.setIfInBounds_toArray, List.set_cons_zero, List.set_cons_succ]
      go_wp2
      go_roundw
      case rel => exact ⟨j + 1, by omega, by go_num, hbr.trans (hX.mono hbr.size), Lib.hid (by have := Hst.out; simpa using this)⟩
      case measure => simp [intOf]; omega
end Go.Proofs.YtpffieogkfndaaaDoor

namespace Go.Proofs.YtpffieogkfndaaaDoor
open Go.RowKit
set_option maxRecDepth 20000
set_option linter.unusedVariables false
set_option linter.unusedSimpArgs false
/-- a span whose bytes are the call's own -/
def GotSpan (w : World) (x : SpanL) (e : Ending) (w' : World) : Prop :=
  ∃ A3 n3 c3 A4 n4 c4, e = .returned (.agg #[.slice A3 n3 c3, .slice A4 n4 c4, .int .u64 (x.seq.toNat : Int)]) ∧ OwnB w' w.heap.size A3 n3 c3 x.lo ∧ OwnB w' w.heap.size A4 n4 c4 x.hi ∧ Below w.heap.size w w'
set_option maxHeartbeats 8000000 in
theorem sone_any (w : World) (A3 : Option Addr) (n3 c3 : Nat) (A4 : Option Addr) (n4 c4 : Nat) (x : SpanL) (hs3 : Sl w 1 A3 n3 c3 (bc x.lo)) (hs4 : Sl w 1 A4 n4 c4 (bc x.hi)) (hn3 : n3 ≤ 1000000) (hn4 : n4 ≤ 1000000) :
    Calls Tryd.prog 68 #[.agg #[.slice A3 n3 c3, .slice A4 n4 c4, .int .u64 (x.seq.toNat : Int)]] w (GotSpan w x) := by
  unfold GotSpan
  generalize x.seq.toNat = d at *
  generalize x.lo = y at *
  generalize x.hi = z at *
  go_enter Tryd.func68, Tryd.ntmps68
  go_wp2_with fail
  have al := (Below.refl w.heap.size w).alloc (Nat.le_refl _) (.cells #[.slice A3 n3 c3, .slice A4 n4 c4, .int .u64 (d : Int)] 48)
  have kB := Bx.fresh w (.slice A3 n3 c3) (.slice A4 n4 c4) (.int .u64 (d : Int)) 48
  have hs3 := hs3.below (by omega) al
  have hs4 := hs4.below (by omega) al
  have e1 : (w.alloc (.cells #[.slice A3 n3 c3, .slice A4 n4 c4, .int .u64 (d : Int)] 48)).heap.size = w.heap.size + 1 := by simp
  generalize (w.alloc (.cells #[.slice A3 n3 c3, .slice A4 n4 c4, .int .u64 (d : Int)] 48)) = w1 at *
  have al1 := (Below.refl w1.heap.size w1).alloc (Nat.le_refl _) (.cells #[.slice none 0 0, .slice none 0 0, .int .u64 0] 48)
  have kC := Bx.fresh w1 (.slice none 0 0) (.slice none 0 0) (.int .u64 0) 48
  rw [e1] at kC
  have kB := kB.below al1
  have hs3 := hs3.below (by omega) al1
  have hs4 := hs4.below (by omega) al1
  have hbr := al.trans (al1.mono al.size)
  generalize (w1.alloc (.cells #[.slice none 0 0, .slice none 0 0, .int .u64 0] 48)) = w2 at *
  clear al al1
  have kB := kB.drew
  have kC := kC.drew
  have hs3 := hs3.drew
  have hs4 := hs4.drew
  have hbr := hbr.drew
  refine regionS 10 (fun w' => Bx w' w.heap.size (.slice A3 n3 c3) (.slice A4 n4 c4) (.int .u64 (d : Int))) (by kernel_rfl) ?_
  try (change AnyS _ _ _ _ _ _ _ _ _ (World.drew _))
  generalize w2.drew = w3 at *
  have hlt3 := kC.lt
  refine takeS (i := 0) (v := ?_) rfl (by kernel_rfl) (by kernel_rfl) (by kernel_rfl) (by kernel_rfl) (by kernel_rfl) (fun _ _ _ h => h) (Or.inl ⟨by kernel_rfl, ?_⟩) kB ?_
  case refine_2 =>
    intro wS hSw
    clear hSw
    go_simp
    try with_reducible rfl
  try simp only [List.getElem_toArray, List.getElem_cons_succ, List.getElem_cons_zero, Act.put, List.setIfInBounds_toArray, List.set_cons_zero, List.set_cons_succ]
  refine takeS (i := 1) (v := ?_) rfl (by kernel_rfl) (by kernel_rfl) (by kernel_rfl) (by kernel_rfl) (by kernel_rfl) (fun _ _ _ h => h) (Or.inl ⟨by kernel_rfl, ?_⟩) kB ?_
  case refine_2 =>
    intro wS hSw
    obtain ⟨x0, x1, x2, x3⟩ := hSw
    go_simp
    try with_reducible rfl
  try simp only [List.getElem_toArray, List.getElem_cons_succ, List.getElem_cons_zero, Act.put, List.setIfInBounds_toArray, List.set_cons_zero, List.set_cons_succ]
  refine takeS (i := 3) (v := ?_) rfl (by kernel_rfl) (by kernel_rfl) (by kernel_rfl) (by kernel_rfl) (by kernel_rfl) (fun _ _ _ h => h) (Or.inl ⟨by kernel_rfl, ?_⟩) kB ?_
  case refine_2 =>
    intro wS hSw
    clear hSw
    go_simp
    try with_reducible rfl
  try simp only [List.getElem_toArray, List.getElem_cons_succ, List.getElem_cons_zero, Act.put, List.setIfInBounds_toArray, List.set_cons_zero, List.set_cons_succ]
  refine takeS (i := 4) (v := ?_) rfl (by kernel_rfl) (by kernel_rfl) (by kernel_rfl) (by kernel_rfl) (by kernel_rfl) (fun _ _ _ h => h) (Or.inl ⟨by kernel_rfl, ?_⟩) kB ?_
  case refine_2 =>
    intro wS hSw
    obtain ⟨x0, x1, x2, x3⟩ := hSw
    go_simp
    try with_reducible rfl
  try simp only [List.getElem_toArray, List.getElem_cons_succ, List.getElem_cons_zero, Act.put, List.setIfInBounds_toArray, List.set_cons_zero, List.set_cons_succ]
  refine takeS (i := 6) (v := ?_) rfl (by kernel_rfl) (by kernel_rfl) (by kernel_rfl) (by kernel_rfl) (by kernel_rfl) (fun _ _ _ h => h) (Or.inl ⟨by kernel_rfl, ?_⟩) kB ?_
  case refine_2 =>
    intro wS hSw
    clear hSw
    go_simp
    try with_reducible rfl
  try simp only [List.getElem_toArray, List.getElem_cons_succ, List.getElem_cons_zero, Act.put, List.setIfInBounds_toArray, List.set_cons_zero, List.set_cons_succ]
  refine takeS (i := 7) (v := ?_) rfl (by kernel_rfl) (by kernel_rfl) (by kernel_rfl) (by kernel_rfl) (by kernel_rfl) (fun _ _ _ h => h) (Or.inl ⟨by kernel_rfl, ?_⟩) kB ?_
  case refine_2 =>
    intro wS hSw
    obtain ⟨x0, x1, x2, x3⟩ := hSw
    go_simp
    try with_reducible rfl
  try simp only [List.getElem_toArray, List.getElem_cons_succ, List.getElem_cons_zero, Act.put, List.setIfInBounds_toArray, List.set_cons_zero, List.set_cons_succ]
  refine readyS (i := 2) (by kernel_rfl) rfl (fun K hK => ?_)
  go_simp
  refine (clone_any _ A3 n3 c3 _ hs3 (by omega)).mono ?_
  rintro e w4 ⟨A5, n5, c5, rfl, ho5, hb4⟩
  refine hK _ _ (kB.below hb4) ?_
  clear hK K
  have kB := kB.below hb4
  have kC := kC.below hb4
  have hbr := hbr.trans (hb4.mono hbr.size)
  have hs4 := hs4.below (by omega) hb4
  clear hb4
  have hlt4 := kC.lt
  refine readyS (i := 5) (by kernel_rfl) rfl (fun K hK => ?_)
  go_simp
  refine (clone_any _ A4 n4 c4 _ hs4 (by omega)).mono ?_
  rintro e w4 ⟨A6, n6, c6, rfl, ho6, hb4⟩
  refine hK _ _ (kB.below hb4) ?_
  clear hK K
  have kB := kB.below hb4
  have kC := kC.below hb4
  have hbr := hbr.trans (hb4.mono hbr.size)
  have ho5 := Own.below ho5 hb4
  refine takeS (i := 8) (v := ?_) rfl (by kernel_rfl) (by kernel_rfl) (by kernel_rfl) (by kernel_rfl) (by kernel_rfl) (fun _ _ _ h => h) (Or.inl ⟨by kernel_rfl, ?_⟩) kB ?_
  case refine_2 =>
    intro wS hSw
    clear hSw
    go_simp
    try with_reducible rfl
  try simp only [List.getElem_toArray, List.getElem_cons_succ, List.getElem_cons_zero, Act.put, List.setIfInBounds_toArray, List.set_cons_zero, List.set_cons_succ]
  refine readyS (i := 9) (by kernel_rfl) rfl (fun K hK => ?_)
  obtain ⟨y0, y1, y2, y3⟩ := id kC
  go_simp
  obtain ⟨kD, hg⟩ := Bx.set (v0 := .slice A5 n5 c5) (v1 := .slice A6 n6 c6) (v2 := .int .u64 (d : Int)) kC rfl
  refine hK _ _ (kB.grown hg (by omega)) ?_
  clear hK K
  refine doneS (by kernel_rfl) ?_ _
  try simp only [List.getElem_toArray, List.getElem_cons_succ, List.getElem_cons_zero, Act.put, List.setIfInBounds_toArray, List.set_cons_zero, List.set_cons_succ]
  have hb9 := hbr.grown hg hbr.size (fun b hb => by simp at hb; omega)
  have ho5 := own_set (own_set (own_set ho5 (g := w.heap.size + 1) (j := 0) hlt3 (.slice A5 n5 c5)) (g := w.heap.size + 1) (j := 1) hlt3 (.slice A6 n6 c6)) (g := w.heap.size + 1) (j := 2) hlt3 (.int .u64 (d : Int))
  have ho6 := own_set (own_set (own_set ho6 (g := w.heap.size + 1) (j := 0) hlt4 (.slice A5 n5 c5)) (g := w.heap.size + 1) (j := 1) hlt4 (.slice A6 n6 c6)) (g := w.heap.size + 1) (j := 2) hlt4 (.int .u64 (d : Int))
  obtain ⟨y0, y1, y2, y3⟩ := kD
  go_wp2
  refine bodyPost_ret (v := .agg #[.slice A5 n5 c5, .slice A6 n6 c6, .int .u64 (d : Int)]) (by simp [results, Tryd.results68, go_sem, y0, y1, y2]) rfl ?_
  exact ⟨A5, n5, c5, A6, n6, c6, rfl, Own.mono ho5 (by omega), Own.mono ho6 (by omega), hb9⟩
end Go.Proofs.YtpffieogkfndaaaDoor
