/-
  A set of spans: Add, New, Cover, All. (Printed by genset.py.) No condition.
-/
import Derived.Test.YtpffieogkfndaaaDoorJSpanOne
import Derived.Test.YtpffieogkfndaaaDoorJKeyReadW
import Derived.Test.YtpffieogkfndaaaDoorJHeldF
namespace Go.Proofs.YtpffieogkfndaaaDoor
open Go.RowKit
set_option maxRecDepth 20000
set_option linter.unusedVariables false
set_option linter.unusedSimpArgs false
/-- a set of spans in block g, all of it from g on -/
def SetIs (w : World) (g : Nat) (ls : List SpanL) : Prop :=
  ∃ A n c, w.cell? ⟨g, 0, none⟩ = some (.slice A n c) ∧ w.frozen? ⟨g, 0, none⟩ = false ∧ OwnZ w (g + 1) 48 A n c ls
theorem SetIs.below {w w' : World} {g : Nat} {ls : List SpanL} (h : SetIs w g ls) (hb : Below w.heap.size w w') : SetIs w' g ls := by
  obtain ⟨A, n, c, h1, h2, h3⟩ := h
  have hlt := World.block_lt_of_cell? _ _ h1
  exact ⟨A, n, c, stays hb h1, (hb.frozen (p := ⟨g, 0, none⟩) hlt).trans h2, h3.below hb⟩
theorem SetIs.lt {w : World} {g : Nat} {ls : List SpanL} (h : SetIs w g ls) : g < w.heap.size := by
  obtain ⟨A, n, c, h1, _⟩ := h
  exact World.block_lt_of_cell? _ _ h1
/-- a region's world: the boxed span and the set's cell stand -/
def SP (gs : Nat) (u0 u1 u2 : Value) (g : Nat) (v : Value) (w : World) : Prop := Bx w gs u0 u1 u2 ∧ w.cell? ⟨g, 0, none⟩ = some v ∧ w.frozen? ⟨g, 0, none⟩ = false
theorem SP.below {gs g : Nat} {u0 u1 u2 v : Value} {w w' : World} (h : SP gs u0 u1 u2 g v w) (hb : Below w.heap.size w w') : SP gs u0 u1 u2 g v w' :=
  ⟨h.1.below hb, stays hb h.2.1, (hb.frozen (p := ⟨g, 0, none⟩) (World.block_lt_of_cell? _ _ h.2.1)).trans h.2.2⟩
theorem SP.grown {gs g : Nat} {u0 u1 u2 v : Value} {w w' : World} {row : Option Nat} (h : SP gs u0 u1 u2 g v w) (hg : w.grownBy w' row) (h1 : row ≠ some gs) (h2 : row ≠ some g) : SP gs u0 u1 u2 g v w' := by
  have hlt := World.block_lt_of_cell? _ _ h.2.1
  have e : w'.heap[g]? = w.heap[g]? := hg.block g hlt fun q => h2 q.symm
  exact ⟨h.1.grownO hg h1, (World.cell?_of_block (a := ⟨g, 0, none⟩) e).trans h.2.1, (World.frozen?_of_block (a := ⟨g, 0, none⟩) e).trans h.2.2⟩
theorem OwnZ.setLow {α : Type} [Rep α] {w : World} {B : Nat} {e : TypeId} {A : Option Addr} {n c : Nat} {ls : List α} (h : OwnZ w B e A n c ls) {g : Nat} (hg : g < B) (v : Value) : OwnZ (w.setCell ⟨g, 0, none⟩ v) B e A n c ls := by
  obtain ⟨xs, ho, hr⟩ := h
  exact ⟨xs, own_set ho hg v, hr.move fun b hl hp => ⟨Below.heap_setCell w _ v b (by have := hp.2; show b ≠ g; omega), hp⟩⟩
theorem step_appZ {P : Program} {α : Type} [Rep α] {ops : Array Oper} {o : Oper} {a : Act} {w : World} {K : Act → World → Prop} {Q : Exit → Act → World → Prop} {E : Prop} (hgd : o.guard = none) (s x : Operand) (t : TypeId)
    (ho : o.op = .call { callee := .builtin .append, args := #[s, x], argTypes := #[t, t] })
    (B : Nat) (e : TypeId) (z : Value) (bytes : Nat) (ht : P.underlying t = some (.slice e)) (hi : (P.info? e).map (fun i => (i.zero, i.size, i.bytes)) = some (some z, Rep.size α, bytes))
    (hzs : z.cells.size = Rep.size α)
    (A : Option Addr) (n c : Nat) (ls : List α) (hsv : a.eval s = .slice A n c) (hown : OwnZ w B e A n c ls)
    (A2 : Option Addr) (m c2 : Nat) (ms : List α) (hx : a.eval x = .slice A2 m c2) (hs : ∃ xs, Sl w (Rep.size α) A2 m c2 xs ∧ RowC w (fun b => blk A c ≠ some b ∧ B ≤ b) xs ms)
    (h63 : n + m ≤ maxLen) (hbytes : (n + m) * bytes ≤ 140737488355328) (hB : B ≤ w.heap.size)
    (h : ∀ A' c' w', OwnZ w' B e A' (n + m) c' (ls ++ ms) → w.grownBy w' (blk A c) → (blk A' c' = blk A c ∨ blk A' c' = some w.heap.size) → K (a.put o.dst (.slice A' (n + m) c')) w') :
    if Region.wanted o (yielded ops a.tmps) = true then Oper.wp P o a w K Q else E := by
  have hw : Region.wanted o (yielded ops a.tmps) = true := by simp [Region.wanted, hgd]
  rw [if_pos hw]
  obtain ⟨A', c', w', hrun, h2, h3, h4⟩ := row_appZ P w t o.type z bytes ht hi hzs hown A2 m c2 ms hs h63 hbytes hB
  unfold Oper.wp execOp
  simp only [ho, resolve, invoke, builtin, Sem.run_bind, Sem.run_pure, Result.andThen_ok, List.map_toArray, List.map_cons, List.map_nil, hsv, hx, hrun]
  exact h A' c' w' h2 h3 h4
theorem own_at {w : World} {G : Nat} {e : TypeId} {size : Nat} {A : Option Addr} {n c : Nat} {xs : List Value} (h : Own w G e size A n c xs) {b : Nat} (hn : 0 < n) (q : A.map (·.block) = some b) : G ≤ b := by
  have := h.cap
  refine (h.lt b ?_).1
  unfold blk
  rw [if_neg (by omega)]
  exact q
/-- a span whose bytes are the call's own, as a row just made -/
theorem spanRowZ (w : World) (x : SpanL) (s : Nat) (hs : x.seq.toNat = s) (B G : Nat) (X : Option Nat) (hG : B ≤ G) (hX : ∀ b, X = some b → b < G) (A3 : Option Addr) (n3 c3 : Nat) (A4 : Option Addr) (n4 c4 : Nat) (s3 : OwnB w G A3 n3 c3 x.lo) (s4 : OwnB w G A4 n4 c4 x.hi) (e : TypeId) :
    ∃ xs, Sl (w.alloc (.cells #[.slice A3 n3 c3, .slice A4 n4 c4, .int .u64 (s : Int)] e)) 3 (some ⟨w.heap.size, 0, none⟩) 1 1 xs ∧ RowC (w.alloc (.cells #[.slice A3 n3 c3, .slice A4 n4 c4, .int .u64 (s : Int)] e)) (fun b => X ≠ some b ∧ B ≤ b) xs [x] :=
  spanRow w x s hs _ A3 n3 c3 A4 n4 c4 s3.sl (fun b hn q => by have := own_at s3 hn q; exact ⟨fun r => by have := hX b r; omega, by omega⟩) s4.sl (fun b hn q => by have := own_at s4 hn q; exact ⟨fun r => by have := hX b r; omega, by omega⟩) e
set_option maxHeartbeats 16000000 in
theorem add_any (w : World) (g : Nat) (ls : List SpanL) (hS : SetIs w g ls) (hl : ls.length ≤ 1000000) (A3 : Option Addr) (n3 c3 : Nat) (A4 : Option Addr) (n4 c4 : Nat) (x : SpanL) (s3 : Sl w 1 A3 n3 c3 (bc x.lo)) (s4 : Sl w 1 A4 n4 c4 (bc x.hi)) (hn3 : n3 ≤ 1000000) (hn4 : n4 ≤ 1000000) :
    Calls Tryd.prog 66 #[.pointer (some ⟨g, 0, none⟩), .agg #[.slice A3 n3 c3, .slice A4 n4 c4, .int .u64 (x.seq.toNat : Int)]] w fun e w' => e = .returned (.int .i64 (checkSpanL x : Nat)) ∧ SetIs w' g (if checkSpanL x = 0 then ls ++ [x] else ls) ∧ Below g w w' := by
  have hgl := hS.lt
  obtain ⟨A, n, c, hC, hfz, hoZ⟩ := hS
  have hlt0 : ∀ b, blk A c = some b → b < w.heap.size := fun b q => (hoZ.lt b q).2
  have hln := hoZ.lenR
  have hn1 : n ≤ 1000000 := by omega
  have al := (Below.refl w.heap.size w).alloc (Nat.le_refl _) (.cells #[.slice A3 n3 c3, .slice A4 n4 c4, .int .u64 (x.seq.toNat : Int)] 48)
  have ck := scheck_any (w.alloc (.cells #[.slice A3 n3 c3, .slice A4 n4 c4, .int .u64 (x.seq.toNat : Int)] 48)) A3 n3 c3 A4 n4 c4 x (s3.below (by omega) al) (s4.below (by omega) al)
  have kB := Bx.fresh w (.slice A3 n3 c3) (.slice A4 n4 c4) (.int .u64 (x.seq.toNat : Int)) 48
  generalize hd : x.seq.toNat = d at *
  generalize checkSpanL x = r at *
  have hX : SP w.heap.size (.slice A3 n3 c3) (.slice A4 n4 c4) (.int .u64 (d : Int)) g (.slice A n c) (w.alloc (.cells #[.slice A3 n3 c3, .slice A4 n4 c4, .int .u64 (d : Int)] 48)) := ⟨kB, stays al hC, (al.frozen (p := ⟨g, 0, none⟩) hgl).trans hfz⟩
  have s3 := s3.below (by omega) al
  have s4 := s4.below (by omega) al
  have hoZ := hoZ.below al
  have hq := al.mono (Nat.le_of_lt hgl)
  generalize hW : (w.alloc (.cells #[.slice A3 n3 c3, .slice A4 n4 c4, .int .u64 (d : Int)] 48)) = w1 at *
  have Hd := Lib.hid hd
  have Ck := Lib.hid ck
  clear al ck hd hln hl hC hfz
  obtain ⟨x0, x1, x2, x3⟩ := id kB
  clear kB
  go_enter Tryd.func66, Tryd.ntmps66
  go_wp2_with fail
  try rw [hW]
  refine Ck.out.mono ?_
  rintro e w2 ⟨rfl, hb2⟩
  have hX0 := hX.2.1
  have hX := hX.below hb2
  have s3 := s3.below (by omega) hb2
  have s4 := s4.below (by omega) hb2
  have hoZ := hoZ.below hb2
  have hq := hq.trans (hb2.mono (Nat.le_of_lt (World.block_lt_of_cell? _ _ hX0)))
  clear x0 x1 x2 x3 hb2 Ck
  by_cases hr : r = 0
  case neg =>
    have t1 : ((r : Int) == 0) = false := by simp; omega
    have t2 : ((r : Int) != 0) = true := by rw [bne_iff_ne]; omega
    have HS := Lib.hid (show SetIs w2 g ls from ⟨A, n, c, hX.2.1, hX.2.2, hoZ⟩)
    clear hX hoZ s3 s4
    go_wp2
    go_ret
    try rw [if_neg hr]
    refine ⟨?_, HS.out, hq⟩
    first | rfl | go_simp
  subst hr
  have bd := (Below.refl w2.heap.size w2).drew
  have hX := hX.below bd
  have s3 := s3.drew
  have s4 := s4.drew
  have hoZ := hoZ.below bd
  have hq := hq.drew
  have hngs : blk A c ≠ some w.heap.size := fun q => by have := hlt0 _ q; omega
  clear bd hW
  go_wp2_with fail
  generalize hW8 : w2.drew = w8 at *
  have hlt8 : ∀ b, blk A c = some b → b < w8.heap.size := fun b q => (hoZ.lt b q).2
  have hg8 : g < w8.heap.size := World.block_lt_of_cell? _ _ hX.2.1
  refine regionF (fun j wa wb => j ≠ 11 → SP w.heap.size (.slice A3 n3 c3) (.slice A4 n4 c4) (.int .u64 (d : Int)) g (.slice A n c) wa → SP w.heap.size (.slice A3 n3 c3) (.slice A4 n4 c4) (.int .u64 (d : Int)) g (.slice A n c) wb) (by kernel_rfl) ?_
  rw [hW8]
  clear hW8
  refine takeT (i := 0) (v := ?_) rfl ?hy ?_
  case hy => intro wS; go_simp; try with_reducible rfl
  refine takeT (i := 1) (v := ?_) rfl ?hy ?_
  case hy => intro wS; go_simp; try with_reducible rfl
  refine takeT (i := 2) (v := ?_) rfl ?hy ?_
  case hy => intro wS; go_simp; try with_reducible rfl
  refine takeT (i := 3) (v := ?_) rfl ?hy ?_
  case hy => intro wS; go_simp; try with_reducible rfl
  refine takeM (i := 4) (v := ?_) rfl hX ?hy ?_
  case hy =>
    intro wS hSw
    obtain ⟨⟨x0, x1, x2, x3⟩, x4, x5⟩ := id hSw
    clear hSw
    go_simp
    try with_reducible rfl
  refine takeM (i := 5) (v := ?_) rfl hX ?hy ?_
  case hy =>
    intro wS hSw
    obtain ⟨⟨x0, x1, x2, x3⟩, x4, x5⟩ := id hSw
    clear hSw
    go_simp
    try with_reducible rfl
  try simp only [List.getElem_toArray, List.getElem_cons_succ, List.getElem_cons_zero, Act.put, List.setIfInBounds_toArray, List.set_cons_zero, List.set_cons_succ]
  refine readyF (rs := [6]) (by kernel_rfl) (by simp) ?_
  refine AllF.cons rfl (fun K hK => ?_) AllF.nil
  go_simp
  have co := sone_any w8 A3 n3 c3 A4 n4 c4 x s3 s4 hn3 hn4
  unfold GotSpan at co
  rw [Hd.out] at co
  refine co.mono ?_
  clear co
  rintro e w8_6 ⟨A5, n5, c5, A6, n6, c6, rfl, ho5, ho6, hb⟩
  refine hK _ _ (fun _ h => h.below hb) ?_
  clear hK K
  have hg9 : g < w8.heap.size := World.block_lt_of_cell? _ _ hX.2.1
  have hX := hX.below hb
  have hoZ := hoZ.below hb
  have hq := hq.trans (hb.mono (Nat.le_of_lt hg9))
  refine readyF (rs := [7]) (by kernel_rfl) (by simp) ?_
  refine AllF.cons rfl (fun K hK => ?_) AllF.nil
  go_simp
  refine hK _ _ (fun _ h => h.below ((Below.refl w8_6.heap.size w8_6).alloc (Nat.le_refl _) (.cells #[.slice A5 n5 c5, .slice A6 n6 c6, .int .u64 (d : Int)] 48))) ?_
  clear hK K
  have hb := (Below.refl w8_6.heap.size w8_6).alloc (Nat.le_refl _) (.cells #[.slice A5 n5 c5, .slice A6 n6 c6, .int .u64 (d : Int)] 48)
  have hrow := spanRowZ w8_6 x d Hd.out (g + 1) w8.heap.size (blk A c) (by omega) (fun b q => hlt8 b q) A5 n5 c5 A6 n6 c6 ho5 ho6 48
  generalize (w8_6.alloc (.cells #[.slice A5 n5 c5, .slice A6 n6 c6, .int .u64 (d : Int)] 48)) = w8_6_7 at *
  have hg9 : g < w8_6.heap.size := World.block_lt_of_cell? _ _ hX.2.1
  have hX := hX.below hb
  have hoZ := hoZ.below hb
  have hq := hq.trans (hb.mono (Nat.le_of_lt hg9))
  clear hb ho5 ho6
  refine readyF (rs := [8]) (by kernel_rfl) (by simp) ?_
  refine AllF.cons rfl (fun K hK => ?_) AllF.nil
  refine step_appZ (α := SpanL) (by rfl) (.tmp 17) (.tmp 20) 23 (by rfl) (g + 1) 48 _ 56 Tryd.underlying23 infoSpan rfl A n c _ (by rfl) hoZ _ 1 1 [x] (by rfl) hrow (by unfold maxLen; omega) (by omega) (by have : g < w8_6_7.heap.size := World.block_lt_of_cell? _ _ hX.2.1; omega) ?_
  intro A9 c9 w8_6_7_8 ho9 hg _
  refine hK _ _ (fun _ h => h.grown hg hngs (fun q => by have := (hoZ.lt _ q).1; omega)) ?_
  clear hK K
  have hg9 : g < w8_6_7.heap.size := World.block_lt_of_cell? _ _ hX.2.1
  have hX := hX.grown hg (fun q => hngs q) (fun q => by have := (hoZ.lt _ q).1; omega)
  have hq := hq.grown hg (Nat.le_of_lt hg9) (fun b q => by have := (hoZ.lt _ q).1; omega)
  clear hg hrow hoZ
  refine takeT (i := 9) (v := ?_) rfl ?hy ?_
  case hy => intro wS; go_simp; try with_reducible rfl
  refine takeT (i := 10) (v := ?_) rfl ?hy ?_
  case hy => intro wS; go_simp; try with_reducible rfl
  try simp only [List.getElem_toArray, List.getElem_cons_succ, List.getElem_cons_zero, Act.put, List.setIfInBounds_toArray, List.set_cons_zero, List.set_cons_succ]
  refine readyF (rs := [11]) (by kernel_rfl) (by simp) ?_
  refine AllF.cons rfl (fun K hK => ?_) AllF.nil
  obtain ⟨y0, y1, y2⟩ := id hX
  go_simp
  refine hK _ _ (fun q => absurd rfl q) ?_
  clear hK K
  refine doneF (by kernel_rfl) ?_ _
  try simp only [List.getElem_toArray, List.getElem_cons_succ, List.getElem_cons_zero, Act.put, List.setIfInBounds_toArray, List.set_cons_zero, List.set_cons_succ]
  have hq2 : Below g w (w8_6_7_8.setCell ⟨g, 0, none⟩ (.slice A9 (n + 1) c9)) := hq.setCell (p := ⟨g, 0, none⟩) (Nat.le_refl g) _
  have hset : SetIs (w8_6_7_8.setCell ⟨g, 0, none⟩ (.slice A9 (n + 1) c9)) g (ls ++ [x]) := ⟨A9, n + 1, c9, set_same hX.2.1 _, (by simp [hX.2.2]), ho9.setLow (by omega) _⟩
  have Hq := Lib.hid hq2
  have HS := Lib.hid hset
  clear hq2 hset hX ho9 hq
  go_wp2
  go_ret
  try rw [if_pos (by rfl)]
  refine ⟨?_, HS.out, Hq.out⟩
  first | rfl | go_simp
/-- what New gives back: the right ones, in memory of its own -/
def GotSet (w : World) (ls : List SpanL) (e : Ending) (w' : World) : Prop := ∃ g, e = .returned (.pointer (some ⟨g, 0, none⟩)) ∧ w.heap.size ≤ g ∧ SetIs w' g ls ∧ Below w.heap.size w w'
theorem setCell1 (w : World) (v : Value) (e : TypeId) : (w.alloc (.cells #[v] e)).cell? ⟨w.heap.size, 0, none⟩ = some v ∧ (w.alloc (.cells #[v] e)).frozen? ⟨w.heap.size, 0, none⟩ = false := by
  have h := boxed (Below.refl _ _) (box1 w (.cells #[v] e))
  exact ⟨h.1 0 _ rfl, h.2 0⟩
set_option maxHeartbeats 8000000 in
theorem new_any (w : World) (p : Nat → Prop) (A : Option Addr) (n c : Nat) (ls : List SpanL) (h : SlR w p A n c ls) (hn : n ≤ 1000000) (hb : ∀ s ∈ ls, s.lo.length ≤ 1000000 ∧ s.hi.length ≤ 1000000) :
    Calls Tryd.prog 38 #[.slice A n c] w (GotSet w (rightSpans ls)) := by
  have hcp := h.cap
  unfold maxLen at hcp
  have hl := h.lenR
  have Hl := Lib.hid hl
  have Hb := Lib.hid hb
  clear hl hb
  unfold GotSet
  have al := (Below.refl w.heap.size w).alloc (Nat.le_refl _) (.cells #[.slice none 0 0] 113)
  have hc0 := setCell1 w (.slice none 0 0) 113
  have hS : SetIs (w.alloc (.cells #[.slice none 0 0] 113)) w.heap.size [] := ⟨none, 0, 0, hc0.1, hc0.2, OwnZ.nil _ _ _ _⟩
  go_enter Tryd.func38, Tryd.ntmps38
  go_wp2_with fail
  generalize hW : (w.alloc (.cells #[.slice none 0 0] 113)) = w1 at *
  clear hc0
  go_loopw [10] (fun q wr => ∃ j : Nat, j ≤ n ∧ q = .int .i64 j ∧ Below w.heap.size w wr ∧ SetIs wr w.heap.size (rightSpans (ls.take j))) (fun q _ => n - (intOf q).toNat)
  case atStart => exact ⟨0, Nat.zero_le _, rfl, al, hS⟩
  case round =>
    clear hS al hW
    obtain ⟨j, hj, rfl, hbr, hS⟩ := hrel
    by_cases hlt : j < n
    case neg =>
      obtain rfl : n = j := by omega
      rw [List.take_of_length_le (by have := Hl.out; omega)] at hS
      have HS := Lib.hid hS
      clear hS h
      go_wp2
      go_ret
      exact ⟨_, rfl, Nat.le_refl _, HS.out, hbr⟩
    obtain ⟨b, o, A3, n3, c3, A4, n4, c4, hjl, rfl, d0, d1, d2, s3, h3, s4, h4⟩ := (h.below hbr).spanAt hlt
    have hst := right_step ls j hjl
    obtain ⟨hx3, hx4⟩ := Hb.out ls[j] (List.getElem_mem hjl)
    have hrl : (rightSpans (ls.take j)).length ≤ 1000000 := by
      have h2 := List.length_filter_le (fun s => decide (checkSpanL s = 0)) (ls.take j)
      unfold rightSpans
      rw [List.length_take] at h2
      omega
    generalize ls[j] = x at *
    have hl3 := s3.lenb
    have hl4 := s4.lenb
    have al2 := (Below.refl wr.heap.size wr).alloc (Nat.le_refl _) (.cells #[.slice A3 n3 c3, .slice A4 n4 c4, .int .u64 (x.seq.toNat : Int)] 48)
    have ca := add_any (wr.alloc (.cells #[.slice A3 n3 c3, .slice A4 n4 c4, .int .u64 (x.seq.toNat : Int)] 48)) w.heap.size _ (hS.below al2) hrl A3 n3 c3 A4 n4 c4 x (s3.below (by omega) al2) (s4.below (by omega) al2) (by omega) (by omega)
    have kB := Bx.fresh wr (.slice A3 n3 c3) (.slice A4 n4 c4) (.int .u64 (x.seq.toNat : Int)) 48
    have es : (if checkSpanL x = 0 then rightSpans (ls.take j) ++ [x] else rightSpans (ls.take j)) = rightSpans (ls.take (j + 1)) := hst.symm
    rw [es] at ca
    generalize x.seq.toNat = s at *
    generalize checkSpanL x = r at *
    have hgr := hS.lt
    have hbr := hbr.trans (al2.mono hbr.size)
    generalize hW2 : (wr.alloc (.cells #[.slice A3 n3 c3, .slice A4 n4 c4, .int .u64 (s : Int)] 48)) = w2 at *
    have Ca := Lib.hid ca
    clear ca hst es al2 hS hl3 hl4 s3 s4 hx3 hx4 h3 h4
    obtain ⟨x0, x1, x2, x3⟩ := id kB
    go_wp2_with fail
    try rw [hW2]
    refine Ca.out.mono ?_
    rintro e w3 ⟨rfl, hS, hb3⟩
    have HS := Lib.hid hS
    have hbr := hbr.trans hb3
    clear x0 x1 x2 x3 kB d0 d1 d2 Ca hS hW2 hb3
    go_wp2
    go_roundw
    case rel => exact ⟨j + 1, by omega, by go_num, hbr, HS.out⟩
    case measure => simp [intOf]; omega
theorem cov_step (key : List UInt8) (seq : Nat) (ls : List SpanL) (j : Nat) (hj : j < ls.length) : coverL (ls.take (j + 1)) key seq = covStep key seq (coverL (ls.take j) key seq) ls[j] := by
  unfold coverL
  rw [take_snoc _ _ hj, List.foldl_append]
  rfl
theorem cov_le (key : List UInt8) (seq : Nat) : ∀ (ls : List SpanL) (b : Nat), b < 18446744073709551616 → ls.foldl (covStep key seq) b < 18446744073709551616
  | [], b, h => h
  | s :: ls, b, h => cov_le key seq ls _ (by unfold covStep; have := s.seq.toNat_lt; split <;> omega)
set_option maxHeartbeats 8000000 in
theorem cover_any (w : World) (g : Nat) (ls : List SpanL) (hS : SetIs w g ls) (K : Option Addr) (k ck : Nat) (key : List UInt8) (hk : Sl w 1 K k ck (bc key)) (seq : Nat) (hs : seq < 18446744073709551616) :
    Calls Tryd.prog 45 #[.pointer (some ⟨g, 0, none⟩), .slice K k ck, .int .u64 (seq : Int)] w fun e w' => e = .returned (.int .u64 (coverL ls key seq : Nat)) ∧ Below w.heap.size w w' := by
  obtain ⟨A, n, c, hC, hfz, hoZ⟩ := hS
  have h := hoZ.sl
  have hl := h.lenR
  have hcp := h.cap
  unfold maxLen at hcp
  have Hl := Lib.hid hl
  obtain ⟨r, hr⟩ : ∃ r, coverL ls key seq = r := ⟨_, rfl⟩
  rw [hr]
  have Hr := Lib.hid hr
  clear hl hoZ hfz hr
  go_enter Tryd.func45, Tryd.ntmps45
  go_wp2
  go_loopw [7, 17] (fun bv q wr => ∃ j bb : Nat, j ≤ n ∧ q = .int .i64 j ∧ bv = .int .u64 (bb : Int) ∧ Below w.heap.size w wr ∧ Hid (coverL (ls.take j) key seq = bb)) (fun _ q _ => n - (intOf q).toNat)
  case atStart => exact ⟨0, 0, Nat.zero_le _, rfl, rfl, Below.refl _ _, Lib.hid rfl⟩
  case round =>
    obtain ⟨j, bb, hj, rfl, rfl, hbr, HB⟩ := hrel
    by_cases hlt : j < n
    case neg =>
      obtain rfl : n = j := by omega
      have hB := HB.out
      rw [List.take_of_length_le (by have := Hl.out; omega), Hr.out] at hB
      subst hB
      clear HB
      go_wp2
      go_ret
      exact ⟨rfl, hbr⟩
    obtain ⟨b, o, A3, n3, c3, A4, n4, c4, hjl, rfl, d0, d1, d2, s3, h3, s4, h4⟩ := (h.below hbr).spanAt hlt
    have hst := cov_step key seq ls j hjl
    rw [HB.out] at hst
    unfold covStep at hst
    generalize ls[j] = x at *
    have hbl : bb < 18446744073709551616 := by rw [← HB.out]; exact cov_le key seq _ 0 (by omega)
    have hxl := x.seq.toNat_lt
    have al2 := (Below.refl wr.heap.size wr).alloc (Nat.le_refl _) (.cells #[.slice A3 n3 c3, .slice A4 n4 c4, .int .u64 (x.seq.toNat : Int)] 48)
    have cc := covers_any (wr.alloc (.cells #[.slice A3 n3 c3, .slice A4 n4 c4, .int .u64 (x.seq.toNat : Int)] 48)) A3 n3 c3 A4 n4 c4 x (s3.below (by omega) al2) (s4.below (by omega) al2) K k ck key (hk.below (by omega) (hbr.trans (al2.mono hbr.size)))
    have kB := Bx.fresh wr (.slice A3 n3 c3) (.slice A4 n4 c4) (.int .u64 (x.seq.toNat : Int)) 48
    generalize x.seq.toNat = s at *
    generalize coversS x key = cv at *
    have hbr := hbr.trans (al2.mono hbr.size)
    generalize hW2 : (wr.alloc (.cells #[.slice A3 n3 c3, .slice A4 n4 c4, .int .u64 (s : Int)] 48)) = w2 at *
    have Cc := Lib.hid cc
    have Hst := Lib.hid hst
    clear cc hst al2 s3 s4 h3 h4 HB
    obtain ⟨x0, x1, x2, x3⟩ := id kB
    by_cases hle : s ≤ seq
    case neg =>
      have t1 : decide ((s : Int) ≤ (seq : Int)) = false := decide_eq_false (by omega)
      have hst : coverL (ls.take (j + 1)) key seq = bb := by rw [Hst.out, if_neg (by omega)]
      clear Hst
      have Hst := Lib.hid hst
      clear hst Cc
      go_wp2
      go_roundw
      case rel => exact ⟨j + 1, bb, by omega, by go_num, rfl, hbr, Lib.hid Hst.out⟩
      case measure => simp [intOf]; omega
    have t1 : decide ((s : Int) ≤ (seq : Int)) = true := decide_eq_true (by omega)
    go_wp2_with fail
    try rw [hW2]
    refine Cc.out.mono ?_
    rintro e w3 ⟨rfl, hb3⟩
    have kB := kB.below hb3
    have hbr := hbr.trans (hb3.mono hbr.size)
    clear x0 x1 x2 x3 d0 d1 d2 Cc hb3
    obtain ⟨x0, x1, x2, x3⟩ := id kB
    cases cv
    case false =>
      have hst : coverL (ls.take (j + 1)) key seq = bb := by rw [Hst.out]; simp
      clear Hst
      have Hst := Lib.hid hst
      clear hst
      go_wp2
      go_roundw
      case rel => exact ⟨j + 1, bb, by omega, by go_num, rfl, hbr, Lib.hid Hst.out⟩
      case measure => simp [intOf]; omega
    have hst : coverL (ls.take (j + 1)) key seq = max bb s := by rw [Hst.out]; simp [hle]
    clear Hst
    have Hst := Lib.hid hst
    clear hst
    by_cases hm : bb < s
    case pos =>
      have q1 : max bb s = s := Nat.max_eq_right (by omega)
      have q2 : (bb : Int) < (s : Int) := by omega
      have q3 : decide ((bb : Int) < (s : Int)) = true := decide_eq_true q2
      have HQ := Lib.hid q1
      clear q1
      go_wp2
      go_roundw
      case rel => exact ⟨j + 1, s, by omega, by go_num, rfl, hbr, Lib.hid (Hst.out.trans HQ.out)⟩
      case measure => simp [intOf]; omega
    have q1 : max bb s = bb := Nat.max_eq_left (by omega)
    have q2 : ¬ (bb : Int) < (s : Int) := by omega
    have q3 : decide ((bb : Int) < (s : Int)) = false := decide_eq_false q2
    have HQ := Lib.hid q1
    clear q1
    go_wp2
    go_roundw
    case rel => exact ⟨j + 1, bb, by omega, by go_num, rfl, hbr, Lib.hid (Hst.out.trans HQ.out)⟩
    case measure => simp [intOf]; omega
/-- spans that a call gives back, in memory of its own -/
def NewSpans (w : World) (ls : List SpanL) (e : Ending) (w' : World) : Prop := ∃ A n c, e = .returned (.slice A n c) ∧ SlR w' (fun b => w.heap.size ≤ b) A n c ls ∧ Below w.heap.size w w'
set_option maxHeartbeats 8000000 in
theorem all_any (w : World) (g : Nat) (ls : List SpanL) (hS : SetIs w g ls) (hn : ls.length ≤ 1000000) (hb : ∀ s ∈ ls, s.lo.length ≤ 1000000 ∧ s.hi.length ≤ 1000000) :
    Calls Tryd.prog 43 #[.pointer (some ⟨g, 0, none⟩)] w (NewSpans w ls) := by
  obtain ⟨A, n, c, hC, hfz, hoZ⟩ := hS
  have h := hoZ.sl
  have hl := h.lenR
  have hcp := h.cap
  unfold maxLen at hcp
  have hn : n ≤ 1000000 := by omega
  have Hl := Lib.hid hl
  have Hb := Lib.hid hb
  clear hl hoZ hfz hb
  unfold NewSpans
  go_enter Tryd.func43, Tryd.ntmps43
  go_wp2
  go_loopw [3, 13] (fun sv q wr => ∃ j : Nat, j ≤ n ∧ q = .int .i64 j ∧ Below w.heap.size w wr ∧ ∃ A2 n2 c2, sv = .slice A2 n2 c2 ∧ OwnZ wr w.heap.size 48 A2 n2 c2 (ls.take j)) (fun _ q _ => n - (intOf q).toNat)
  case atStart => exact ⟨0, Nat.zero_le _, rfl, Below.refl _ _, none, 0, 0, rfl, OwnZ.nil _ _ _ _⟩
  case round =>
    obtain ⟨j, hj, rfl, hbr, A2, n2, c2, rfl, ho2⟩ := hrel
    by_cases hlt : j < n
    case neg =>
      obtain rfl : n = j := by omega
      rw [List.take_of_length_le (by have := Hl.out; omega)] at ho2
      have Ho2 := Lib.hid ho2
      clear ho2 hC
      go_wp2
      go_ret
      exact ⟨A2, n2, c2, rfl, Ho2.out.slB, hbr⟩
    have hn2 : n2 ≤ 1000000 := by have h1 := ho2.lenR; rw [List.length_take] at h1; omega
    obtain ⟨b, o, A3, n3, c3, A4, n4, c4, hjl, rfl, d0, d1, d2, s3, h3, s4, h4⟩ := (h.below hbr).spanAt hlt
    have hst : ls.take (j + 1) = ls.take j ++ [ls[j]] := List.take_succ_eq_append_getElem hjl
    obtain ⟨hx3, hx4⟩ := Hb.out ls[j] (List.getElem_mem hjl)
    generalize ls[j] = x at *
    have hl3 := s3.lenb
    have hl4 := s4.lenb
    have al2 := (Below.refl wr.heap.size wr).alloc (Nat.le_refl _) (.cells #[.slice A3 n3 c3, .slice A4 n4 c4, .int .u64 (x.seq.toNat : Int)] 48)
    have co := sone_any (wr.alloc (.cells #[.slice A3 n3 c3, .slice A4 n4 c4, .int .u64 (x.seq.toNat : Int)] 48)) A3 n3 c3 A4 n4 c4 x (s3.below (by omega) al2) (s4.below (by omega) al2) (by omega) (by omega)
    unfold GotSpan at co
    have kB := Bx.fresh wr (.slice A3 n3 c3) (.slice A4 n4 c4) (.int .u64 (x.seq.toNat : Int)) 48
    generalize hs : x.seq.toNat = s at *
    have ho2 := ho2.below al2
    have hbr := hbr.trans (al2.mono hbr.size)
    generalize hW2 : (wr.alloc (.cells #[.slice A3 n3 c3, .slice A4 n4 c4, .int .u64 (s : Int)] 48)) = w2 at *
    have Co := Lib.hid co
    have Hst := Lib.hid hst
    have Hs := Lib.hid hs
    clear co hst hs al2 hl3 hl4 s3 s4 hx3 hx4 h3 h4
    obtain ⟨x0, x1, x2, x3⟩ := id kB
    go_wp2_with fail
    try rw [hW2]
    refine Co.out.mono ?_
    rintro e w3 ⟨A5, n5, c5, A6, n6, c6, rfl, ho5, ho6, hb3⟩
    have hlt2 : ∀ b, blk A2 c2 = some b → b < w2.heap.size := fun b q => (ho2.lt b q).2
    have hbs := hbr.size
    have ho2 := ho2.below hb3
    have hbr := hbr.trans (hb3.mono hbr.size)
    have hrow := spanRowZ w3 x s Hs.out w.heap.size w2.heap.size (blk A2 c2) hbs hlt2 A5 n5 c5 A6 n6 c6 ho5 ho6 48
    have al3 := (Below.refl w3.heap.size w3).alloc (Nat.le_refl _) (.cells #[.slice A5 n5 c5, .slice A6 n6 c6, .int .u64 (s : Int)] 48)
    have ho2 := ho2.below al3
    have hbr := hbr.trans (al3.mono hbr.size)
    clear x0 x1 x2 x3 kB d0 d1 d2 Co hb3 ho5 ho6 hlt2 al3
    go_wp2_with (at_builtin; refine wpList_appZ _ rfl (.tmp 17) (.tmp 20) 23 rfl w.heap.size 48 _ 56 Tryd.underlying23 infoSpan rfl A2 n2 c2 _ rfl ho2 _ 1 1 [x] rfl hrow ?_ ?_ ?_ ?_)
    · unfold maxLen; omega
    · omega
    · exact hbr.size
    intro A9 c9 w9 ho9 hg9 _
    have hbr9 := hbr.grown hg9 hbr.size (fun b hb => (ho2.lt b hb).1)
    rw [← Hst.out] at ho9
    clear hrow ho2 hg9
    go_wp2
    go_roundw
    case rel => exact ⟨j + 1, by omega, by go_num, hbr9, A9, _, c9, rfl, ho9⟩
    case measure => simp [intOf]; omega
end Go.Proofs.YtpffieogkfndaaaDoor
