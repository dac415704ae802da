/-
  The reference's From and Before of entries in order. (Printed by genleaf15.py.) No condition.
-/
import Derived.Test.YtpffieogkfndaaaEntFew
import Derived.Test.YtpffieogkfndaaaGKey
import Derived.Test.YtpffieogkfndaaaGAtom
namespace Go.Proofs.Ytpffieogkfndaaa
open Go.RowKit
set_option maxRecDepth 20000
/-- an entry that a call gives back, and whether there is one -/
def GotAt8 (w : World) (o : Option EntL) (e : Ending) (w' : World) : Prop :=
  ∃ (A : Option Addr) (n c : Nat) (B : Option Addr) (m d : Nat), e = .returned (.tuple #[.agg #[.slice A n c, .int .u64 ((o.getD ⟨⟨[], 0, 0⟩, []⟩).key.seq.toNat : Int), .int .u8 ((o.getD ⟨⟨[], 0, 0⟩, []⟩).key.kind.toNat : Int), .slice B m d], .bool o.isSome]) ∧
    Sl w' 1 A n c (bc (o.getD ⟨⟨[], 0, 0⟩, []⟩).key.user) ∧ Sl w' 1 B m d (bc (o.getD ⟨⟨[], 0, 0⟩, []⟩).value) ∧ Below w.heap.size w w'
theorem grown_trans8 {w w1 w2 : World} {g : Nat} (h : w.grownBy w1 (some g)) (h2 : w1.grownBy w2 (some g)) : w.grownBy w2 (some g) :=
  ⟨h2.os.trans h.os, h2.tape.trans h.tape, h2.output.trans h.output, Nat.le_trans h.size h2.size, fun i hi hne => (h2.block i (Nat.lt_of_lt_of_le hi h.size) hne).trans (h.block i hi hne)⟩
theorem grown_below {w w1 w2 : World} {g : Nat} (h : w.grownBy w1 (some g)) (h2 : Below w1.heap.size w1 w2) : w.grownBy w2 (some g) :=
  ⟨h2.os.trans h.os, h2.tape.trans h.tape, h2.output.trans h.output, Nat.le_trans h.size h2.size, fun i hi hne => (h2.block i (Nat.lt_of_lt_of_le hi h.size)).trans (h.block i hi hne)⟩
set_option maxHeartbeats 8000000 in
theorem rfrom8_any (w : World) (p : Nat → Prop) (A : Option Addr) (n c : Nat) (ls : List EntL) (h : SlR w p A n c ls) (A2 : Option Addr) (n2 c2 : Nat) (k : KeyL) (s2 : Sl w 1 A2 n2 c2 (bc k.user)) :
    Calls Try.prog 12 #[.slice A n c, .agg #[.slice A2 n2 c2, .int .u64 (k.seq.toNat : Int), .int .u8 (k.kind.toNat : Int)]] w (GotAt8 w (fromL ls k)) := by
  have hl := h.lenR
  have hcp := h.cap
  unfold maxLen at hcp
  have hb1 := (Below.refl w.heap.size w).alloc (Nat.le_refl _) (.cells #[.slice A2 n2 c2, .int .u64 (k.seq.toNat : Int), .int .u8 (k.kind.toNat : Int)] 25)
  have kK := Bx.fresh w (.slice A2 n2 c2) (.int .u64 (k.seq.toNat : Int)) (.int .u8 (k.kind.toNat : Int)) 25
  have cl := fun w' (hb : Below w.heap.size w w') A3 n3 c3 (x : KeyL) (h3 : Sl w' 1 A3 n3 c3 (bc x.user)) => klt_any w' A3 n3 c3 x h3 A2 n2 c2 k (s2.below (by omega) hb)
  generalize hss : k.seq.toNat = s at *
  generalize hdd : k.kind.toNat = d at *
  generalize hW : (w.alloc (.cells #[.slice A2 n2 c2, .int .u64 (s : Int), .int .u8 (d : Int)] 25)) = w1 at *
  have al := (Below.refl w1.heap.size w1).alloc (Nat.le_refl _) (.cells #[.slice none 0 0, .int .u64 0, .int .u8 0, .slice none 0 0] 37)
  have kR := Bx4.fresh w1 (.slice none 0 0) (.int .u64 0) (.int .u8 0) (.slice none 0 0) 37
  have kK := kK.below al
  have zR0 := hb1.size
  have hb2 := hb1.trans (al.mono hb1.size)
  generalize hW2 : (w1.alloc (.cells #[.slice none 0 0, .int .u64 0, .int .u8 0, .slice none 0 0] 37)) = w2 at *
  obtain ⟨gR, hgR⟩ : ∃ gR, gR = w1.heap.size := ⟨_, rfl⟩
  rw [← hgR] at kR zR0
  obtain ⟨gK, hgK⟩ : ∃ gK, gK = w.heap.size := ⟨_, rfl⟩
  rw [← hgK] at kK
  have zR : gR < w2.heap.size := kR.lt
  have Hl := Lib.hid hl
  have Cl := Lib.hid cl
  obtain ⟨O, hO⟩ : ∃ O, fromL ls k = O := ⟨_, rfl⟩
  rw [hO]
  clear hl cl s2 al hss hdd
  have HO : Hid (fromL (ls.drop 0) k = O) := Lib.hid (by rw [List.drop_zero]; exact hO)
  clear hO
  go_enter Try.func12, Try.ntmps12
  go_wp2
  try rw [hW]
  try rw [hW2]
  try rw [← hgR]
  try rw [← hgK]
  clear hW hW2 hgR hgK
  go_loopw [10] (fun q wr => ∃ j : Nat, j ≤ n ∧ q = .int .i64 j ∧ Below w2.heap.size w2 wr ∧ Hid (fromL (ls.drop j) k = O)) (fun q _ => n - (intOf q).toNat)
  case atStart => exact ⟨0, Nat.zero_le _, rfl, Below.refl _ _, HO⟩
  case round =>
    obtain ⟨j, hj, rfl, h2r, Hj⟩ := hrel
    by_cases hlt : j < n
    case neg =>
      obtain rfl : n = j := by omega
      have hN : O = none := by rw [← Hj.out, List.drop_of_length_le (by have := Hl.out; omega)]; rfl
      subst hN
      have hq := hb2.trans (h2r.mono hb2.size)
      obtain ⟨x0, x1, x2, x3, x4⟩ := kR.below h2r
      go_wp2
      refine bodyPost_ret (v := .tuple #[.agg #[.slice none 0 0, .int .u64 0, .int .u8 0, .slice none 0 0], .bool false]) (by simp [results, Try.results12, go_sem, x0, x1, x2, x3]) rfl ?_
      refine ⟨none, 0, 0, none, 0, 0, rfl, sl_none _, sl_none _, ?_⟩
      iterate 4 refine Below.setCell ?_ (by omega) _
      exact hq
    have hbr := hb2.trans (h2r.mono hb2.size)
    obtain ⟨b, o, A5, n5, c5, A6, n6, c6, hjl, rfl, d0, d1, d2, d3, g5, g6⟩ := h.entAt hlt
    have d0 := stays hbr d0
    have d1 := stays hbr d1
    have d2 := stays hbr d2
    have d3 := stays hbr d3
    have hst : fromL (ls.drop j) k = if lessKey ls[j].key k = true then fromL (ls.drop (j + 1)) k else some ls[j] := by
      rw [List.drop_eq_getElem_cons hjl]
      unfold fromL
      rw [List.find?_cons]
      cases lessKey ls[j].key k <;> simp
    rw [Hj.out] at hst
    generalize hX : ls[j] = X at *
    have kX := Bx4.fresh wr (.slice A5 n5 c5) (.int .u64 (X.key.seq.toNat : Int)) (.int .u8 (X.key.kind.toNat : Int)) (.slice A6 n6 c6) 37
    have al := (Below.refl wr.heap.size wr).alloc (Nat.le_refl _) (.cells #[.slice A5 n5 c5, .int .u64 (X.key.seq.toNat : Int), .int .u8 (X.key.kind.toNat : Int), .slice A6 n6 c6] 37)
    generalize hW : (wr.alloc (.cells #[.slice A5 n5 c5, .int .u64 (X.key.seq.toNat : Int), .int .u8 (X.key.kind.toNat : Int), .slice A6 n6 c6] 37)) = w5 at *
    have h2r := h2r.trans (al.mono h2r.size)
    have hbr := hbr.trans (al.mono hbr.size)
    have cc := Cl.out w5 hbr A5 n5 c5 X.key (g5.below (by omega) hbr)
    generalize lessKey X.key k = lk at *
    have Hst := Lib.hid hst
    obtain ⟨x0, x1, x2, x3, x4⟩ := id kX
    obtain ⟨y0, y1, y2, y3⟩ := kK.below h2r
    clear hst hX hjl
    go_wp2_with fail
    clear x0 x1 x2 x3 x4
    try rw [hW]
    clear hW
    obtain ⟨gX, hgX⟩ : ∃ gX, gX = wr.heap.size := ⟨_, rfl⟩
    rw [← hgX] at kX
    try rw [← hgX]
    clear hgX y0 y1 y2 y3 d0 d1 d2 d3
    refine cc.mono ?_
    rintro e w6 ⟨rfl, hb6⟩
    have kX := kX.below hb6
    have h2r := h2r.trans (hb6.mono h2r.size)
    have hbr := hbr.trans (hb6.mono hbr.size)
    clear cc al
    cases lk
    · have hN : O = some X := Hst.out
      subst hN
      have kRr := kR.below h2r
      obtain ⟨x0, x1, x2, x3, x4⟩ := id kX
      obtain ⟨y0, y1, y2, y3, y4⟩ := id kRr
      go_wp2
      refine bodyPost_ret (v := .tuple #[.agg #[.slice A5 n5 c5, .int .u64 (X.key.seq.toNat : Int), .int .u8 (X.key.kind.toNat : Int), .slice A6 n6 c6], .bool true]) (by simp [results, Try.results12, go_sem, y0, y1, y2, y3]) rfl ?_
      obtain ⟨_, hgs⟩ := Bx4.set kRr (v0 := .slice A5 n5 c5) (v1 := .int .u64 (X.key.seq.toNat : Int)) (v2 := .int .u8 (X.key.kind.toNat : Int)) (v3 := .slice A6 n6 c6)
      exact ⟨A5, n5, c5, A6, n6, c6, rfl, (g5.below (by omega) hbr).grown (by omega) hgs (fun hn b e q => by have := g5.lt (by omega) hn b e; simp at q; omega), (g6.below (by omega) hbr).grown (by omega) hgs (fun hn b e q => by have := g6.lt (by omega) hn b e; simp at q; omega), hbr.grown hgs hbr.size (fun b hb => by simp at hb; omega)⟩
    · have hst2 : fromL (ls.drop (j + 1)) k = O := Hst.out.symm
      have Hst2 := Lib.hid hst2
      obtain ⟨x0, x1, x2, x3, x4⟩ := id kX
      clear hst2
      go_wp2
      go_roundw
      case rel => exact ⟨j + 1, by omega, by go_num, h2r, Hst2⟩
      case measure => simp [intOf]; omega
set_option maxHeartbeats 8000000 in
theorem rbefore8_any (w : World) (p : Nat → Prop) (A : Option Addr) (n c : Nat) (ls : List EntL) (h : SlR w p A n c ls) (A2 : Option Addr) (n2 c2 : Nat) (k : KeyL) (s2 : Sl w 1 A2 n2 c2 (bc k.user)) :
    Calls Try.prog 14 #[.slice A n c, .agg #[.slice A2 n2 c2, .int .u64 (k.seq.toNat : Int), .int .u8 (k.kind.toNat : Int)]] w (GotAt8 w (beforeL ls k)) := by
  have hl := h.lenR
  have hcp := h.cap
  unfold maxLen at hcp
  have hb1 := (Below.refl w.heap.size w).alloc (Nat.le_refl _) (.cells #[.slice A2 n2 c2, .int .u64 (k.seq.toNat : Int), .int .u8 (k.kind.toNat : Int)] 25)
  have kK := Bx.fresh w (.slice A2 n2 c2) (.int .u64 (k.seq.toNat : Int)) (.int .u8 (k.kind.toNat : Int)) 25
  have cl := fun w' (hb : Below w.heap.size w w') A3 n3 c3 (x : KeyL) (h3 : Sl w' 1 A3 n3 c3 (bc x.user)) => klt_any w' A3 n3 c3 x h3 A2 n2 c2 k (s2.below (by omega) hb)
  generalize hss : k.seq.toNat = s at *
  generalize hdd : k.kind.toNat = d at *
  generalize hW : (w.alloc (.cells #[.slice A2 n2 c2, .int .u64 (s : Int), .int .u8 (d : Int)] 25)) = w1 at *
  have al := (Below.refl w1.heap.size w1).alloc (Nat.le_refl _) (.cells #[.slice none 0 0, .int .u64 0, .int .u8 0, .slice none 0 0] 37)
  have kR := Bx4.fresh w1 (.slice none 0 0) (.int .u64 0) (.int .u8 0) (.slice none 0 0) 37
  have kK := kK.below al
  have zR0 := hb1.size
  have hb2 := hb1.trans (al.mono hb1.size)
  generalize hW2 : (w1.alloc (.cells #[.slice none 0 0, .int .u64 0, .int .u8 0, .slice none 0 0] 37)) = w2 at *
  obtain ⟨gR, hgR⟩ : ∃ gR, gR = w1.heap.size := ⟨_, rfl⟩
  rw [← hgR] at kR zR0
  obtain ⟨gK, hgK⟩ : ∃ gK, gK = w.heap.size := ⟨_, rfl⟩
  rw [← hgK] at kK
  have zR : gR < w2.heap.size := kR.lt
  have Hl := Lib.hid hl
  have Cl := Lib.hid cl
  obtain ⟨O, hO⟩ : ∃ O, beforeL ls k = O := ⟨_, rfl⟩
  rw [hO]
  clear hl cl s2 al hss hdd
  have HO := Lib.hid hO
  have zK : gK < w2.heap.size := kK.lt
  have al := (Below.refl w2.heap.size w2).alloc (Nat.le_refl _) (.cells #[.slice none 0 0, .int .u64 0, .int .u8 0, .slice none 0 0] 37)
  have kO := Bx4.fresh w2 (.slice none 0 0) (.int .u64 0) (.int .u8 0) (.slice none 0 0) 37
  have kK := kK.below al
  have kR := kR.below al
  have zO : gR < w2.heap.size := zR
  have hb3 := hb2.trans (al.mono hb2.size)
  generalize hW3 : (w2.alloc (.cells #[.slice none 0 0, .int .u64 0, .int .u8 0, .slice none 0 0] 37)) = w3 at *
  obtain ⟨gO, hgO⟩ : ∃ gO, gO = w2.heap.size := ⟨_, rfl⟩
  rw [← hgO] at kO zO zK
  have zw : w.heap.size ≤ gR := zR0
  have zO2 : gO < w3.heap.size := kO.lt
  clear hO
  go_enter Try.func14, Try.ntmps14
  go_wp2
  try rw [hW]
  try rw [hW2]
  try rw [hW3]
  try rw [← hgR]
  try rw [← hgO]
  try rw [← hgK]
  clear hW hW2 hW3 hgR hgK hgO
  go_loopw [7, 12] (fun t q wr => ∃ (j : Nat) (O1 : Option EntL) (AO : Option Addr) (nO cO : Nat) (BO : Option Addr) (mO dO : Nat), j ≤ n ∧ q = .int .i64 j ∧ t = .bool O1.isSome ∧ Hid (beforeL (ls.take j) k = O1) ∧ Bx4 wr gO (.slice AO nO cO) (.int .u64 ((O1.getD ⟨⟨[], 0, 0⟩, []⟩).key.seq.toNat : Int)) (.int .u8 ((O1.getD ⟨⟨[], 0, 0⟩, []⟩).key.kind.toNat : Int)) (.slice BO mO dO) ∧ Sl w 1 AO nO cO (bc (O1.getD ⟨⟨[], 0, 0⟩, []⟩).key.user) ∧ Sl w 1 BO mO dO (bc (O1.getD ⟨⟨[], 0, 0⟩, []⟩).value) ∧ w3.grownBy wr (some gO)) (fun _ q _ => n - (intOf q).toNat)
  case atStart => exact ⟨0, none, none, 0, 0, none, 0, 0, Nat.zero_le _, rfl, rfl, Lib.hid (by rfl), kO, sl_none _, sl_none _, World.grownBy.refl _ _⟩
  case round =>
    obtain ⟨j, O1, AO, nO, cO, BO, mO, dO, hj, rfl, rfl, Hj, kO, sO, vO, hg⟩ := hrel
    have kRr := kR.grownO hg (by simp; omega)
    have kKr := Bx.grownO kK hg (by simp; omega)
    have hbr : Below w.heap.size w wr := hb3.grown hg hb3.size (fun b hb => by simp at hb; omega)
    by_cases hlt : j < n
    case neg =>
      obtain rfl : n = j := by omega
      have hN : O1 = O := by rw [← Hj.out, ← HO.out, List.take_of_length_le (by have := Hl.out; omega)]
      subst hN
      obtain ⟨x0, x1, x2, x3, x4⟩ := id kRr
      obtain ⟨y0, y1, y2, y3, y4⟩ := id kO
      go_wp2
      refine bodyPost_ret (v := .tuple #[.agg #[.slice AO nO cO, .int .u64 ((O1.getD ⟨⟨[], 0, 0⟩, []⟩).key.seq.toNat : Int), .int .u8 ((O1.getD ⟨⟨[], 0, 0⟩, []⟩).key.kind.toNat : Int), .slice BO mO dO], .bool O1.isSome]) (by simp [results, Try.results14, go_sem, x0, x1, x2, x3]) rfl ?_
      obtain ⟨_, hgs⟩ := Bx4.set kRr (v0 := .slice AO nO cO) (v1 := .int .u64 ((O1.getD ⟨⟨[], 0, 0⟩, []⟩).key.seq.toNat : Int)) (v2 := .int .u8 ((O1.getD ⟨⟨[], 0, 0⟩, []⟩).key.kind.toNat : Int)) (v3 := .slice BO mO dO)
      exact ⟨AO, nO, cO, BO, mO, dO, rfl, (sO.below (by omega) hbr).grown (by omega) hgs (fun hn b e q => by have := sO.lt (by omega) hn b e; simp at q; omega), (vO.below (by omega) hbr).grown (by omega) hgs (fun hn b e q => by have := vO.lt (by omega) hn b e; simp at q; omega), hbr.grown hgs hbr.size (fun b hb => by simp at hb; omega)⟩
    obtain ⟨b, o, A5, n5, c5, A6, n6, c6, hjl, rfl, d0, d1, d2, d3, g5, g6⟩ := h.entAt hlt
    have d0 := stays hbr d0
    have d1 := stays hbr d1
    have d2 := stays hbr d2
    have d3 := stays hbr d3
    have hst : beforeL (ls.take (j + 1)) k = if lessKey ls[j].key k = true then some ls[j] else beforeL (ls.take j) k := by
      rw [List.take_succ_eq_append_getElem hjl]
      unfold beforeL
      rw [List.filter_append]
      cases hh : lessKey ls[j].key k <;> simp [List.filter_cons, hh]
    rw [Hj.out] at hst
    generalize hX : ls[j] = X at *
    have kX := Bx4.fresh wr (.slice A5 n5 c5) (.int .u64 (X.key.seq.toNat : Int)) (.int .u8 (X.key.kind.toNat : Int)) (.slice A6 n6 c6) 37
    have al := (Below.refl wr.heap.size wr).alloc (Nat.le_refl _) (.cells #[.slice A5 n5 c5, .int .u64 (X.key.seq.toNat : Int), .int .u8 (X.key.kind.toNat : Int), .slice A6 n6 c6] 37)
    generalize hW : (wr.alloc (.cells #[.slice A5 n5 c5, .int .u64 (X.key.seq.toNat : Int), .int .u8 (X.key.kind.toNat : Int), .slice A6 n6 c6] 37)) = w5 at *
    have kO := kO.below al
    have kKr := kKr.below al
    have kRr := kRr.below al
    have hg := grown_below hg al
    have hbr := hbr.trans (al.mono hbr.size)
    have cc := Cl.out w5 hbr A5 n5 c5 X.key (g5.below (by omega) hbr)
    generalize lessKey X.key k = lk at *
    have Hst := Lib.hid hst
    obtain ⟨x0, x1, x2, x3, x4⟩ := id kX
    obtain ⟨y0, y1, y2, y3⟩ := id kKr
    clear hst hX hjl
    go_wp2_with fail
    clear x0 x1 x2 x3 x4
    try rw [hW]
    clear hW
    obtain ⟨gX, hgX⟩ : ∃ gX, gX = wr.heap.size := ⟨_, rfl⟩
    rw [← hgX] at kX
    try rw [← hgX]
    clear hgX y0 y1 y2 y3 d0 d1 d2 d3
    refine cc.mono ?_
    rintro e w6 ⟨rfl, hb6⟩
    have kX := kX.below hb6
    have kO := kO.below hb6
    have hg := grown_below hg hb6
    have hbr := hbr.trans (hb6.mono hbr.size)
    clear cc al
    cases lk
    · have hst2 : beforeL (ls.take (j + 1)) k = O1 := Hst.out
      have Hst2 := Lib.hid hst2
      clear hst2
      go_wp2
      go_roundw
      case rel => exact ⟨j + 1, O1, AO, nO, cO, BO, mO, dO, by omega, by go_num, rfl, Hst2, kO, sO, vO, hg⟩
      case measure => simp [intOf]; omega
    · have hst2 : beforeL (ls.take (j + 1)) k = some X := Hst.out
      have Hst2 := Lib.hid hst2
      obtain ⟨x0, x1, x2, x3, x4⟩ := id kX
      obtain ⟨y0, y1, y2, y3, y4⟩ := id kO
      obtain ⟨k3, hgs⟩ := Bx4.set kO (v0 := .slice A5 n5 c5) (v1 := .int .u64 (X.key.seq.toNat : Int)) (v2 := .int .u8 (X.key.kind.toNat : Int)) (v3 := .slice A6 n6 c6)
      clear hst2
      go_wp2
      go_roundw
      case rel => exact ⟨j + 1, some X, A5, n5, c5, A6, n6, c6, by omega, by go_num, rfl, Hst2, k3, g5, g6, grown_trans8 hg hgs⟩
      case measure => simp [intOf]; omega
end Go.Proofs.Ytpffieogkfndaaa
