/-
  TabIndexW, Chunk, TabBox, TabOpenP in one text. No condition but sizes.
-/
import Derived.Test.YtpffieogkfndaaaGreatDoorJTabByte
import Derived.Test.YtpffieogkfndaaaGreatDoorJSealLaws1
import Derived.Test.YtpffieogkfndaaaGreatDoorTabBuildR
import Derived.Test.YtpffieogkfndaaaGreatDoorJBloomWalk
import Derived.Test.YtpffieogkfndaaaGreatDoorJSealLaws2
import Derived.Test.YtpffieogkfndaaaGreatDoorLeafBuild
import Derived.Test.YtpffieogkfndaaaGreatDoorBloomBuild
import Derived.Test.YtpffieogkfndaaaGreatDoorJBatchReadW
namespace Go.Proofs.YtpffieogkfndaaaGreatDoor
open Go.RowKit
set_option maxRecDepth 20000
set_option linter.unusedVariables false
set_option linter.unusedSimpArgs false
theorem find_some {f : Nat → Bool} {n i : Nat} (hi : i < n) (h0 : ∀ j, j < i → f j = false) (h1 : f i = true) : (List.range n).find? f = some i := by
  rw [List.find?_range_eq_some]
  exact ⟨h1, by simpa using hi, fun j hj => by simp [h0 j hj]⟩
theorem find_none {f : Nat → Bool} {n : Nat} (h0 : ∀ j, j < n → f j = false) : (List.range n).find? f = none := by
  rw [List.find?_eq_none]
  intro j hj
  simp [h0 j (List.mem_range.1 hj)]
set_option maxHeartbeats 4000000 in
theorem ver1_any (w : World) (x : KeyL) (A3 : Option Addr) (n3 c3 : Nat) (s3 : Sl w 1 A3 n3 c3 (bc x.user)) (ks kd : Nat) (lo hi : Int) (hks : x.seq.toNat = ks) (hkd : x.kind.toNat = kd)
    (g : Nat) (k : KeyL) (A2 : Option Addr) (n2 c2 : Nat) (s2 : Sl w 1 A2 n2 c2 (bc k.user)) (s d : Nat) (hs : k.seq.toNat = s) (hd : k.kind.toNat = d) (kK : Bx w g (.slice A2 n2 c2) (.int .u64 (s : Int)) (.int .u8 (d : Int))) :
    Calls Tryz.prog 100 #[.agg #[.slice A3 n3 c3, .int .u64 (ks : Int), .int .u8 (kd : Int), .int .i64 lo, .int .i64 hi], .pointer (some ⟨g, 0, none⟩)] w fun e w' => e = .returned (.bool (decide (0 ≤ cmpKey x k))) ∧ Below w.heap.size w w' := by
  have al := (Below.refl w.heap.size w).alloc (Nat.le_refl _) (.cells #[.slice A3 n3 c3, .int .u64 (ks : Int), .int .u8 (kd : Int), .int .i64 lo, .int .i64 hi] 142)
  have hbx := boxed (Below.refl _ _) (box1 w (.cells #[.slice A3 n3 c3, .int .u64 (ks : Int), .int .u8 (kd : Int), .int .i64 lo, .int .i64 hi] 142))
  have y0 := hbx.1 0 _ rfl
  have y1 := hbx.1 1 _ rfl
  have y2 := hbx.1 2 _ rfl
  have kK := kK.below al
  have ck := compare_any _ A3 n3 c3 x (s3.below (by omega) al) A2 n2 c2 k (s2.below (by omega) al)
  rw [hks, hkd, hs, hd] at ck
  obtain ⟨v, hv⟩ : ∃ v, cmpKey x k = v := ⟨_, rfl⟩
  rw [hv] at ck ⊢
  generalize hW : (w.alloc (.cells #[.slice A3 n3 c3, .int .u64 (ks : Int), .int .u8 (kd : Int), .int .i64 lo, .int .i64 hi] 142)) = w1 at *
  have Ck := Lib.hid ck
  clear ck hbx hks hkd hs hd hv s2 s3
  obtain ⟨x0, x1, x2, x3⟩ := id kK
  go_enter Tryz.func100, Tryz.ntmps100
  go_wp2_with fail
  try rw [hW]
  clear hW x0 x1 x2 x3 y0 y1 y2 kK
  refine Ck.out.mono ?_
  rintro e w2 ⟨rfl, hb⟩
  have hbr := al.trans (hb.mono al.size)
  clear Ck hb al
  go_wp2
  go_ret
  exact ⟨rfl, hbr⟩
set_option maxHeartbeats 8000000 in
theorem index_any (w : World) (p : Nat → Prop) (A : Option Addr) (n c : Nat) (ps : List PageL) (h : SlR w p A n c ps) (hn : n ≤ 1000000)
    (g : Nat) (k : KeyL) (A2 : Option Addr) (n2 c2 : Nat) (s2 : Sl w 1 A2 n2 c2 (bc k.user)) (s d : Nat) (hs : k.seq.toNat = s) (hd : k.kind.toNat = d) (kK : Bx w g (.slice A2 n2 c2) (.int .u64 (s : Int)) (.int .u8 (d : Int)))
    (f : Nat → Bool) (hf : ∀ (i : Nat) (hi : i < ps.length), f i = decide (0 ≤ cmpKey ps[i].last k)) :
    Calls Tryz.prog 99 #[.slice A n c, .func (.func 100) #[] #[.pointer (some ⟨g, 0, none⟩)]] w
      fun e w' => e = .returned (.int .i64 (match (List.range n).find? f with | some i => (i : Int) | none => -1)) ∧ Below w.heap.size w w' := by
  have hcp := h.cap
  unfold maxLen at hcp
  have Hf := Lib.hid hf
  obtain ⟨r, hr⟩ : ∃ r, (match (List.range n).find? f with | some i => (i : Int) | none => -1) = r := ⟨_, rfl⟩
  rw [hr]
  have Hr := Lib.hid hr
  have Hs := Lib.hid hs
  have Hd := Lib.hid hd
  clear hf hr hs hd
  go_enter Tryz.func99, Tryz.ntmps99
  go_wp2
  go_loopw [8] (fun iv wr => ∃ j : Nat, j ≤ n ∧ iv = .int .i64 (j : Int) ∧ Hid (∀ i, i < j → f i = false) ∧ Below w.heap.size w wr) (fun iv _ => n - (intOf iv).toNat)
  case atStart => exact ⟨0, Nat.zero_le _, rfl, Lib.hid fun i hi => by omega, Below.refl _ _⟩
  case round =>
    obtain ⟨j, hj, rfl, H0, hbr⟩ := hrel
    by_cases hlt : j < n
    case neg =>
      obtain rfl : n = j := by omega
      have er : -1 = r := by rw [← Hr.out, find_none H0.out]
      subst er
      clear Hr H0 Hf h kK s2
      go_wp2
      go_ret
      exact ⟨rfl, hbr⟩
    have hp := h.below hbr
    obtain ⟨b, o, x, cs, rfl, hx, ⟨v, rfl, hk⟩, hcell⟩ := hp.get hlt
    obtain ⟨A3, n3, c3, rfl, hs3, _⟩ := hk
    obtain ⟨hjl, rfl⟩ := List.getElem?_eq_some_iff.1 hx
    have d0 : wr.cell? ⟨b, o + j * 5, none⟩ = some (.slice A3 n3 c3) := hcell 0 _ rfl
    have d1 : wr.cell? ⟨b, o + j * 5 + 1, none⟩ = some (.int .u64 (ps[j].last.seq.toNat : Int)) := hcell 1 _ rfl
    have d2 : wr.cell? ⟨b, o + j * 5 + 2, none⟩ = some (.int .u8 (ps[j].last.kind.toNat : Int)) := hcell 2 _ rfl
    have d3 : wr.cell? ⟨b, o + j * 5 + 3, none⟩ = some (.int .i64 (ps[j].lo : Int)) := hcell 3 _ rfl
    have d4 : wr.cell? ⟨b, o + j * 5 + 4, none⟩ = some (.int .i64 (ps[j].hi : Int)) := hcell 4 _ rfl
    have ck := ver1_any wr ps[j].last A3 n3 c3 hs3 _ _ (ps[j].lo : Int) (ps[j].hi : Int) rfl rfl g k A2 n2 c2 (s2.below (by omega) hbr) s d Hs.out Hd.out (kK.below hbr)
    have hfj := Hf.out j hjl
    rw [← hfj] at ck
    generalize ps[j].last.seq.toNat = ks at *
    generalize ps[j].last.kind.toNat = kd at *
    generalize ps[j].lo = lo at *
    generalize ps[j].hi = hi at *
    obtain ⟨fj, hfj2⟩ : ∃ fj, f j = fj := ⟨_, rfl⟩
    rw [hfj2] at ck
    have Ck := Lib.hid ck
    have Hfj := Lib.hid hfj2
    clear ck hfj hfj2 hp hx hcell hs3
    go_wp2_with fail
    refine Ck.out.mono ?_
    rintro e w1 ⟨rfl, hb⟩
    have hbr := hbr.trans (hb.mono hbr.size)
    clear Ck hb d0 d1 d2 d3 d4
    cases fj
    · go_wp2
      go_roundw
      case rel => exact ⟨j + 1, by omega, by go_num, Lib.hid fun i hi => by
        by_cases q : i = j
        · rw [q]; exact Hfj.out
        · exact H0.out i (by omega), hbr⟩
      case measure => simp [intOf]; omega
    · have er : (j : Int) = r := by rw [← Hr.out, find_some hlt H0.out Hfj.out]
      subst er
      clear Hr H0 Hf h kK s2 Hfj
      go_wp2
      go_ret
      exact ⟨rfl, hbr⟩
end Go.Proofs.YtpffieogkfndaaaGreatDoor

namespace Go.Proofs.YtpffieogkfndaaaGreatDoor
open Go.RowKit
set_option maxRecDepth 20000
set_option linter.unusedVariables false
set_option linter.unusedSimpArgs false
attribute [local go_sem] Oper.semAt_some
/-- chunk x of a row of n entries, as a value -/
def chunkVal (A : Option Addr) (n x : Nat) : Value := .slice (A.map (·.add (8 * x * 4))) (min 8 (n - 8 * x)) (min 8 (n - 8 * x))
theorem cutLHM {A : Option Addr} {n c : Nat} (i j k : Int) (lo hi : Nat) (ei : i = lo) (ej : j = hi) (ek : k = hi) (h1 : lo < hi) (h2 : hi ≤ c) (w' : World) :
    (Instr.slice 22 (.slice A n c) (some (.int .i64 i)) (some (.int .i64 j)) (some (.int .i64 k))).run Tryz.prog w' = .ok (.slice (A.map (·.add (lo * 4))) (hi - lo) (hi - lo)) w' := by
  subst ei ej ek
  have := run_slice_lhm (P := Tryz.prog) w' 22 A n c Tryz.underlying22 .i64 .i64 .i64 lo hi hi (by omega) (by omega) (by omega) (by omega)
  rw [this]
  show ((sizeOf 69).run Tryz.prog w').andThen _ = _
  rw [run_sizeE]
  simp only [Result.andThen, sliced, Int.toNat_natCast]
  rw [if_neg (by omega)]
def ChunkP (b1 b2 : Nat) (A : Option Addr) (n c : Nat) (w : World) : Prop := w.cell? ⟨b1, 0, none⟩ = some (.slice A n c) ∧ w.cell? ⟨b2, 0, none⟩ = some (.int .i64 8)
/-- the chunks that have come when k rounds are over -/
def comeC (K k : Nat) (h : k ≤ K) : List (Fin K) := (List.range k).attach.map fun i => ⟨i.1, by have := List.mem_range.1 i.2; omega⟩
theorem comeC_length (K k : Nat) (h : k ≤ K) : (comeC K k h).length = k := by simp [comeC]
theorem comeC_succ (K k : Nat) (h : k + 1 ≤ K) : comeC K (k + 1) h = comeC K k (by omega) ++ [⟨k, by omega⟩] := by
  unfold comeC
  apply List.ext_getElem?
  intro i
  by_cases hi : i < k
  · rw [List.getElem?_append_left (by simpa using hi)]
    simp [hi, (show i < k + 1 by omega)]
  · by_cases he : i = k
    · subst he
      rw [List.getElem?_append_right (by simp)]
      simp
    · rw [List.getElem?_eq_none (by simp; omega), List.getElem?_eq_none (by simp; omega)]
theorem grown_drew (w : World) : w.grownBy w.drew none := ⟨rfl, rfl, rfl, Nat.le_refl _, fun _ _ _ => rfl⟩
set_option maxRecDepth 100000 in
set_option maxHeartbeats 4000000 in
theorem chunk1_in (dp : Nat) (hdp : 1 ≤ dp) (l b1 b2 : Nat) (A : Option Addr) (n c K : Nat) (hK : K = (n + 7) / 8) (hn : n ≤ 1000) (hc : n ≤ c) (hcm : c ≤ 9223372036854775807) (J Jx : List (Fin K) → World → Prop)
    (hY : ∀ pre (x : Fin K) W, J pre W → pre.length < K → YieldAt Fence.wide (dp - 1) Tryz.prog l #[chunkVal A n x.val] W fun e W' =>
      (e = .returned (.bool true) ∧ J (pre ++ [x]) W' ∧ (W'.heap[b1]? = W.heap[b1]? ∧ W'.heap[b2]? = W.heap[b2]?)) ∨ (e = .returned (.bool false) ∧ Jx (pre ++ [x]) W'))
    (W : World) (hJ : AbidesFrom W.heap.size J) (c1 : W.cell? ⟨b1, 0, none⟩ = some (.slice A n c)) (c2 : W.cell? ⟨b2, 0, none⟩ = some (.int .i64 8)) (h0 : J [] W) :
    CallsIn Fence.wide dp Tryz.prog 78 #[.func (.yield l) #[] #[], .pointer (some ⟨b1, 0, none⟩), .pointer (some ⟨b2, 0, none⟩)] W fun e W' => (∃ v, e = .returned v) ∧
      ((∃ ys, ys = comeC K K (Nat.le_refl _) ∧ J ys W') ∨ (∃ pre, (∃ k, ∃ h : k ≤ K, pre = comeC K k h) ∧ Jx pre W')) := by
  refine callsIn_of_wp Tryz.func78 rfl trivial ?_ rfl
  simp only [Tryz.ntmps78, List.size_toArray, List.length_cons, List.length_nil, Nat.reduceAdd, Nat.reduceSub, Array.replicate_succ, Array.replicate_zero, List.push_toArray, List.append_toArray, List.nil_append, List.cons_append]
  gi_wp2
  gi_loopw [4] (fun iv wr => ∃ k : Nat, ∃ hk : k ≤ K, iv = .int .i64 ((8 * k : Nat) : Int) ∧ J (comeC K k hk) wr ∧ ChunkP b1 b2 A n c wr) (fun iv _ => n - (intOf iv).toNat)
  case atStart => exact ⟨0, Nat.zero_le _, rfl, h0, c1, c2⟩
  case round =>
    obtain ⟨k, hk, rfl, hJk, x1, x2⟩ := hrel
    by_cases hlt : 8 * k < n
    case neg =>
      obtain rfl : k = K := by omega
      gi_wp2
      go_end0
      exact ⟨⟨_, rfl⟩, .inl ⟨_, rfl, hJk⟩⟩
    have hkK : k < K := by omega
    obtain ⟨i, hi⟩ : ∃ i, 8 * k = i := ⟨_, rfl⟩
    obtain ⟨m, hm⟩ : ∃ m, n - i = m := ⟨_, rfl⟩
    obtain ⟨e, he⟩ : ∃ e, min 8 m = e := ⟨_, rfl⟩
    rw [hi] at hlt ⊢
    have he1 : 0 < e := by omega
    have he2 : i + e ≤ n := by omega
    have he3 : e ≤ 8 := by omega
    have hm1 : (if (m : Int) < 8 then (m : Int) else 8) = (e : Int) := by split <;> omega
    have hm2 : (if (8 : Int) < (m : Int) then (8 : Int) else (m : Int)) = (e : Int) := by split <;> omega
    have hm3 : min (8 : Int) (m : Int) = (e : Int) := by omega
    have r1 := fun w => cutLE (A := A) (n := n) (c := c) .i64 (i : Int) i rfl (by omega) hc w
    simp only [hm] at r1
    have r2 := fun w => cutLHM (A := A) (n := n) (c := c) (i : Int) ((i : Int) + (e : Int)) ((i : Int) + (e : Int)) i (i + e) rfl (by omega) (by omega) (by omega) (by omega) w
    have e0 : i + e - i = e := by omega
    simp only [e0] at r2
    have hJd : J (comeC K k hk) wr.drew := hJ _ _ _ none hJk (grown_drew wr) (fun r e => by cases e)
    obtain ⟨fn, tmps, assign, body, hy, hR⟩ := hY _ ⟨k, hkK⟩ wr.drew hJd (by rw [comeC_length]; exact hkK)
    dsimp only at hy
    simp only [chunkVal, hi, hm, he] at hy
    have hX : ChunkP b1 b2 A n c wr.drew := ⟨x1, x2⟩
    have Hi := Lib.hid hi
    clear hm he e0 hi hJd hJk
    gi_wp2
    refine wpIn_wide.2 ?_
    generalize hW : wr.drew = wz at *
    refine regionF (fun _ wa wb => ChunkP b1 b2 A n c wa → ChunkP b1 b2 A n c wb) (by kernel_rfl) ?_
    rw [hW]
    clear hW
    refine takeP (i := 0) (v := ?_) rfl hX ?hy ?_
    case hy =>
      intro wS hSw
      obtain ⟨x1, x2⟩ := id hSw
      clear hSw
      go_simp
      try with_reducible rfl
    refine takeP (i := 1) (v := ?_) rfl hX ?hy ?_
    case hy =>
      intro wS hSw
      obtain ⟨x1, x2⟩ := id hSw
      clear hSw
      go_simp
      try with_reducible rfl
    refine takeT (i := 2) (v := ?_) rfl ?hy ?_
    case hy => intro wS; go_simp; try with_reducible rfl
    refine takeT (i := 3) (v := ?_) rfl ?hy ?_
    case hy => intro wS; go_simp; try with_reducible rfl
    refine takeT (i := 4) (v := ?_) rfl ?hy ?_
    case hy => intro wS; go_simp; try with_reducible rfl
    refine takeT (i := 5) (v := ?_) rfl ?hy ?_
    case hy => intro wS; go_simp; try with_reducible rfl
    refine takeT (i := 6) (v := ?_) rfl ?hy ?_
    case hy => intro wS; go_simp; try with_reducible rfl
    try simp only [List.getElem_toArray, List.getElem_cons_succ, List.getElem_cons_zero, Act.put, List.setIfInBounds_toArray, List.set_cons_zero, List.set_cons_succ]
    refine doneF (by kernel_rfl) ?_ _
    try simp only [List.getElem_toArray, List.getElem_cons_succ, List.getElem_cons_zero, Act.put, List.setIfInBounds_toArray, List.set_cons_zero, List.set_cons_succ]
    obtain ⟨x1, x2⟩ := id hX
    gi_wp2
    refine hR.mono ?_
    rintro e W3 (⟨rfl, hJ3, hk3, hk4⟩ | ⟨rfl, hJx3⟩)
    · have y1 := (World.cell?_of_block (a := ⟨b1, 0, none⟩) hk3).trans x1
      have y2 := (World.cell?_of_block (a := ⟨b2, 0, none⟩) hk4).trans x2
      gi_wp2
      go_roundw
      case rel => exact ⟨k + 1, by omega, by rw [show 8 * (k + 1) = i + 8 by have := Hi.out; omega]; go_num, by rw [comeC_succ]; exact hJ3, y1, y2⟩
      case measure => simp [intOf]; omega
    · gi_wp2
      refine bodyPost_ret (results_none rfl _ _ _) rfl ?_
      exact ⟨⟨_, rfl⟩, .inr ⟨_, ⟨k + 1, by omega, (comeC_succ _ _ _).symm⟩, hJx3⟩⟩
theorem chunk_stops (dp : Nat) (hdp : 1 ≤ dp) (b1 b2 : Nat) (A : Option Addr) (n c K : Nat) (hK : K = (n + 7) / 8) (hn : n ≤ 1000) (hc : n ≤ c) (hcm : c ≤ 9223372036854775807) (w : World)
    (c1 : w.cell? ⟨b1, 0, none⟩ = some (.slice A n c)) (c2 : w.cell? ⟨b2, 0, none⟩ = some (.int .i64 8)) :
    SeqStopsK Fence.wide dp Tryz.prog 78 #[.pointer (some ⟨b1, 0, none⟩), .pointer (some ⟨b2, 0, none⟩)] (fun x : Fin K => #[chunkVal A n x.val])
      (fun W W' => W'.heap[b1]? = W.heap[b1]? ∧ W'.heap[b2]? = W.heap[b2]?) (fun ys => ys = comeC K K (Nat.le_refl _)) (fun pre => ∃ k, ∃ h : k ≤ K, pre = comeC K k h) K w := fun l J Jx W hW hJ _ hY h0 =>
  chunk1_in dp hdp l b1 b2 A n c K hK hn hc hcm J Jx hY W hJ ((hW.cell (p := ⟨b1, 0, none⟩) (World.block_lt_of_cell? _ _ c1)).trans c1) ((hW.cell (p := ⟨b2, 0, none⟩) (World.block_lt_of_cell? _ _ c2)).trans c2) h0
/-- the iterator's own keeping: two blocks -/
theorem keep2_t {b c : Nat} {A B C : World} (h : B.heap[b]? = A.heap[b]? ∧ B.heap[c]? = A.heap[c]?) (k : C.heap[b]? = B.heap[b]? ∧ C.heap[c]? = B.heap[c]?) : C.heap[b]? = A.heap[b]? ∧ C.heap[c]? = A.heap[c]? := ⟨k.1.trans h.1, k.2.trans h.2⟩
theorem keep2_b {b c : Nat} {w : World} (hb : b < w.heap.size) (hc : c < w.heap.size) (W : World) (l : Nat) (o o' : Obj) (hl : w.heap.size ≤ l) (_ : W.heap[l]? = some o) (_ : o.isCells = false) (_ : o.isWalk = false) : (W.putObj l o').heap[b]? = W.heap[b]? ∧ (W.putObj l o').heap[c]? = W.heap[c]? :=
  ⟨World.putObj_heap_other (by omega), World.putObj_heap_other (by omega)⟩
set_option maxHeartbeats 400000 in
theorem chunk_any (w : World) (A : Option Addr) (n c : Nat) :
    Calls Tryz.prog 40 #[.slice A n c, .int .i64 8] w fun e w' =>
      e = .returned (.func (.func 78) #[] #[.pointer (some ⟨w.heap.size, 0, none⟩), .pointer (some ⟨w.heap.size + 1, 0, none⟩)]) ∧
      w' = (w.alloc (.cells #[.slice A n c] 22)).alloc (.cells #[.int .i64 8] 3) := by
  have hc := setCell1 (w.alloc (.cells #[.slice A n c] 22)) (.int .i64 8) 3
  rw [World.size_alloc] at hc
  obtain ⟨x1, -⟩ := hc
  go_enter Tryz.func40, Tryz.ntmps40
  go_wp2
  go_ret
  exact ⟨rfl, rfl⟩
/-- the entries of chunk x lie where its value says -/
theorem chunk_row {w : World} {p : Nat → Prop} {A : Option Addr} {n c : Nat} {ls : List EntL} (h : SlR w p A n c ls) {x : Nat} (hx : x < (n + 7) / 8) : SlR w p (A.map (·.add (8 * x * 4))) (min 8 (n - 8 * x)) (min 8 (n - 8 * x)) (chunkL ls x) := by
  have hcap := h.cap
  have h1 := (h.drop (k := 8 * x) (by omega)).take (k := min 8 (n - 8 * x)) (by omega)
  have h2 : (ls.drop (8 * x)).take (min 8 (n - 8 * x)) = chunkL ls x := by
    unfold chunkL
    have := h.lenR
    rcases Nat.lt_or_ge (n - 8 * x) 8 with q | q
    · rw [Nat.min_eq_right (by omega), List.take_of_length_le (by rw [List.length_drop]; omega), List.take_of_length_le (by rw [List.length_drop]; omega)]
    · rw [Nat.min_eq_left q]
  rw [h2, if_neg (by omega)] at h1
  obtain ⟨xs, hs, hr, hp⟩ := h1
  exact ⟨xs, ⟨hs.len, Nat.le_refl _, by have := hs.capm; unfold maxLen at *; omega, hs.at_⟩, hr, hp⟩
end Go.Proofs.YtpffieogkfndaaaGreatDoor

namespace Go.Proofs.YtpffieogkfndaaaGreatDoor
open Go.RowKit
set_option maxRecDepth 20000
set_option linter.unusedVariables false
set_option linter.unusedSimpArgs false
/-- a box of one cell -/
def Bx1 (w : World) (b : Nat) (v : Value) : Prop := w.cell? ⟨b, 0, none⟩ = some v ∧ w.frozen? ⟨b, 0, none⟩ = false
section
variable {w w' : World} {b : Nat} {v : Value}
theorem Bx1.lt (h : Bx1 w b v) : b < w.heap.size := World.block_lt_of_cell? _ _ h.1
theorem Bx1.keep (h : Bx1 w b v) (e : w'.heap[b]? = w.heap[b]?) : Bx1 w' b v :=
  ⟨(World.cell?_of_block (a := ⟨b, 0, none⟩) e).trans h.1, by have h2 := h.2; unfold World.frozen? at *; rw [show w'.heap[(⟨b, 0, none⟩ : Addr).block]? = w.heap[b]? from e]; exact h2⟩
theorem Bx1.below (h : Bx1 w b v) (hb : Below w.heap.size w w') : Bx1 w' b v := h.keep (hb.block b h.lt)
theorem Bx1.grown (h : Bx1 w b v) {row : Option Nat} (hg : w.grownBy w' row) (hne : row ≠ some b) : Bx1 w' b v := h.keep (hg.block b h.lt (fun e => hne e.symm))
theorem Bx1.drew (h : Bx1 w b v) : Bx1 w.drew b v := h
theorem Bx1.fresh (w : World) (v : Value) (t : TypeId) : Bx1 (w.alloc (.cells #[v] t)) w.heap.size v := cell_new1 w v t
theorem Bx1.alloc (h : Bx1 w b v) (o : Obj) : Bx1 (w.alloc o) b v := h.below ((Below.refl w.heap.size w).alloc (Nat.le_refl _) o)
theorem Bx1.set (h : Bx1 w b v) (v' : Value) : Bx1 (w.setCell ⟨b, 0, none⟩ v') b v' :=
  ⟨World.cell?_setCell_same' _ _ _ (by rw [h.1]; rfl), by rw [World.frozen?_setCell]; exact h.2⟩
theorem Bx1.other (h : Bx1 w b v) {g : Nat} (hne : b ≠ g) (i : Nat) (v' : Value) : Bx1 (w.setCell ⟨g, i, none⟩ v') b v := h.keep (Below.heap_setCell _ _ _ _ hne)
end
theorem own_ne {w : World} {B : Nat} {A : Option Addr} {n c : Nat} {e : TypeId} {size : Nat} {xs : List Value} (h : Own w B e size A n c xs) {b r : Nat} {o : Obj} (hb : blk A c = some b) (hr : w.heap[r]? = some o) (hn : o.isCells = false) : r ≠ b := by
  rintro rfl
  unfold blk at hb
  split at hb
  · cases hb
  · obtain ⟨g, o', cur, rfl, _, hh, _⟩ := h.row (by omega)
    simp at hb
    subst hb
    rw [hh] at hr
    cases hr
    cases hn
theorem keeps_below {w w' : World} (h : Below w.heap.size w w') : KeepsOthers w w' := ⟨h.size, fun k _ hk _ => (h.block k (heap_lt hk)).trans hk⟩
theorem keeps_own {w w' : World} {B : Nat} {A : Option Addr} {n c : Nat} {e : TypeId} {size : Nat} {xs : List Value} (h : Own w B e size A n c xs) (hg : w.grownBy w' (blk A c)) : KeepsOthers w w' :=
  ⟨hg.size, fun k _ hk ho => (hg.block k (heap_lt hk) (fun e => own_ne h e.symm hk ho rfl)).trans hk⟩
/-- what a round has done so far: M: where the rows of the call's own begin; b1, b2: the iterator's blocks -/
structure RT (w0 : World) (M b1 b2 : Nat) (W W' : World) : Prop where
  ko : KeepsOthers W W'
  k1 : W'.heap[b1]? = W.heap[b1]?
  k2 : W'.heap[b2]? = W.heap[b2]?
  bl : Below w0.heap.size w0 W'
  sz : M ≤ W'.heap.size
section
variable {w0 : World} {M b1 b2 : Nat} {W W1 W2 : World}
theorem RT.refl (hb : Below w0.heap.size w0 W) (hs : M ≤ W.heap.size) : RT w0 M b1 b2 W W := ⟨KeepsOthers.refl _, rfl, rfl, hb, hs⟩
theorem RT.below (h : RT w0 M b1 b2 W W1) (h1 : b1 < M) (h2 : b2 < M) (hb : Below W1.heap.size W1 W2) : RT w0 M b1 b2 W W2 :=
  ⟨h.ko.trans (keeps_below hb), (hb.block b1 (by have := h.sz; omega)).trans h.k1, (hb.block b2 (by have := h.sz; omega)).trans h.k2, h.bl.trans (hb.mono h.bl.size), Nat.le_trans h.sz hb.size⟩
theorem RT.own (h : RT w0 M b1 b2 W W1) (h1 : b1 < M) (h2 : b2 < M) (hM : w0.heap.size ≤ M) {A : Option Addr} {n c : Nat} {e : TypeId} {size : Nat} {xs : List Value} (ho : Own W1 M e size A n c xs) (hg : W1.grownBy W2 (blk A c)) : RT w0 M b1 b2 W W2 :=
  ⟨h.ko.trans (keeps_own ho hg), (hg.block b1 (by have := h.sz; omega) (fun q => by have := (Own.lt ho b1 q.symm).1; omega)).trans h.k1, (hg.block b2 (by have := h.sz; omega) (fun q => by have := (Own.lt ho b2 q.symm).1; omega)).trans h.k2,
    h.bl.grown hg h.bl.size (fun b hb => Nat.le_trans hM (Own.lt ho b hb).1), Nat.le_trans h.sz hg.size⟩
theorem RT.set (h : RT w0 M b1 b2 W W1) {b : Nat} (hb : w0.heap.size ≤ b) (n1 : b1 ≠ b) (n2 : b2 ≠ b) (v : Value) : RT w0 M b1 b2 W (W1.setCell ⟨b, 0, none⟩ v) :=
  ⟨h.ko.trans (KeepsOthers.setCell _ _ _), (Below.heap_setCell _ _ _ _ n1).trans h.k1, (Below.heap_setCell _ _ _ _ n2).trans h.k2, h.bl.setCell (p := ⟨b, 0, none⟩) hb _, Nat.le_trans h.sz (h.ko.size |> fun _ => (KeepsOthers.setCell W1 ⟨b, 0, none⟩ v).size)⟩
theorem RT.drew (h : RT w0 M b1 b2 W W1) : RT w0 M b1 b2 W W1.drew := ⟨⟨h.ko.size, h.ko.same⟩, h.k1, h.k2, h.bl.drew, h.sz⟩
end
/-- append of bytes to bytes of the call's own, inside a fence -/
theorem wpListIn_appB {F : Fence} {nf : Nat} (w : World) {ops : Array Oper} {rest : List Oper} {o : Oper} {a : Act} {Q : Exit → Act → World → Prop} (hgd : o.guard = none) (s x : Operand)
    (ho : o.op = .call { callee := .builtin .append, args := #[s, x], argTypes := #[29, 29] })
    (B : Nat) (A : Option Addr) (n c : Nat) (l : List UInt8) (hsv : a.eval s = .slice A n c) (hown : OwnB w B A n c l)
    (A2 : Option Addr) (m c2 : Nat) (l2 : List UInt8) (hx : a.eval x = .slice A2 m c2) (hs : Sl w 1 A2 m c2 (bc l2))
    (hbytes : n + m ≤ 140737488355328) (hB : B ≤ w.heap.size)
    (h : ∀ A' c' w', OwnB w' B A' (n + m) c' (l ++ l2) → w.grownBy w' (blk A c) → (blk A' c' = blk A c ∨ blk A' c' = some w.heap.size) → wpListIn F nf Tryz.prog ops Q rest (a.put o.dst (.slice A' (n + m) c')) w') :
    wpListIn F nf Tryz.prog ops Q (o :: rest) a w := by
  obtain ⟨i, hi, hz, hs1, hb1⟩ := info_parts infoB
  refine wpListIn_plain hgd fun K hK' => ?_
  obtain ⟨A', c', w', hrun, h2, h3, h4⟩ := run_append_own2 (P := Tryz.prog) w B 29 o.type _ i _ 1 1 Tryz.underlying29 hi hz hs1 hb1 rfl A n c (bc l) hown A2 m c2 (bc l2) hs (bc_one _) (by unfold maxLen; omega) (by omega) hB
  unfold Oper.wpIn
  refine ⟨?_, ?_⟩
  · simp [Oper.about, ho, resolve, Target.leads, Sem.run_pure]
  · rw [Oper.semAt_plain F _ _ (by rw [ho]; intro c hc'; cases hc')]
    simp only [execOp, ho, resolve, invoke, builtin, Sem.run_bind, Sem.run_pure, Result.andThen_ok, List.map_toArray, List.map_cons, List.map_nil, hsv, hx, hrun]
    exact hK' _ _ (h A' c' w' (by unfold OwnB; rw [bc_append]; exact h2) h3 h4)
/-- what is known behind the chunks 'pre' -/
def ChI (w0 : World) (M B7 B8 : Nat) (ls : List EntL) {K : Nat} (pre : List (Fin K)) (W : World) : Prop :=
  (∃ (A2 : Option Addr) (n2 c2 : Nat) (A3 : Option Addr) (n3 c3 : Nat), Bx1 W B7 (.slice A2 n2 c2) ∧ Bx1 W B8 (.slice A3 n3 c3) ∧ OwnB W M A2 n2 c2 (pre.flatMap fun x => sealedL ls x.val) ∧ OwnB W M A3 n3 c3 (pre.flatMap fun x => lineL ls x.val) ∧
    ∀ b, blk A2 c2 = some b → blk A3 c3 ≠ some b) ∧ Below w0.heap.size w0 W ∧ M ≤ W.heap.size
theorem chI_from (w0 : World) (M B7 B8 : Nat) (ls : List EntL) {K : Nat} (h7 : B7 < M) (h8 : B8 < M) (hM : w0.heap.size ≤ M) : OwnFrom M (ChI w0 M B7 B8 ls (K := K)) := fun s W W' row hs hg hr => by
  obtain ⟨⟨A2, n2, c2, A3, n3, c3, x7, x8, o2, o3, hap⟩, hb, hz⟩ := hs
  have hc : ∀ {b}, b < M → row ≠ some b := fun hlt e => by have := (hr _ e).1; omega
  refine ⟨⟨A2, n2, c2, A3, n3, c3, x7.grown hg (hc h7), x8.grown hg (hc h8), Own.grown o2 hg (fun b q e => ?_), Own.grown o3 hg (fun b q e => ?_), hap⟩, hb.grown hg hb.size (fun b e => Nat.le_trans hM (hr b e).1), Nat.le_trans hz hg.size⟩
  · obtain ⟨_, o, h1, h2⟩ := hr b e
    exact own_ne o2 q h1 h2 rfl
  · obtain ⟨_, o, h1, h2⟩ := hr b e
    exact own_ne o3 q h1 h2 rfl
theorem pre_len {l : List EntL} (h1 : ∀ e ∈ l, checkKey e.key = 0 ∧ e.value.length ≤ 512) {K : Nat} (pre : List (Fin K)) : (pre.flatMap fun x => sealedL l x.val).length ≤ 5000 * pre.length :=
  flat_len (fun x : Fin K => sealedL l x.val) 5000 pre fun i _ => sealed_len l h1 i.val
theorem line_len {l : List EntL} (h1 : ∀ e ∈ l, checkKey e.key = 0 ∧ e.value.length ≤ 512) (i : Nat) (hi : i < leafCount l) : (lineL l i).length ≤ 90 := by
  obtain ⟨e, he, hk⟩ := lastKey_mem (l := l) (i := i) hi
  have h2 := checkKey_bounds (h1 e he).1
  rw [hk] at h2
  have h3 := num_len (sealedL l i).length
  have h4 := num_len (lastKey (chunkL l i)).user.length
  unfold lineL keyBytesL textL
  simp only [List.length_append, le8_len]
  omega
theorem pre_line {l : List EntL} (h1 : ∀ e ∈ l, checkKey e.key = 0 ∧ e.value.length ≤ 512) {K : Nat} (hK : K ≤ leafCount l) (pre : List (Fin K)) : (pre.flatMap fun x => lineL l x.val).length ≤ 90 * pre.length :=
  flat_len (fun x : Fin K => lineL l x.val) 90 pre fun i _ => line_len h1 i.val (by omega)
theorem comeC_flat {K : Nat} (f : Nat → List UInt8) (k : Nat) (h : k ≤ K) : ((comeC K k h).flatMap fun x => f x.val) = (List.range k).flatMap f := by
  induction k with
  | zero => simp [comeC]
  | succ k ih =>
    rw [comeC_succ, List.flatMap_append, ih, List.range_succ, List.flatMap_append]
    simp
end Go.Proofs.YtpffieogkfndaaaGreatDoor

namespace Go.Proofs.YtpffieogkfndaaaGreatDoor
set_option maxRecDepth 20000
set_option linter.unusedVariables false
set_option linter.unusedSimpArgs false
def NoTab (p : List UInt8) : Prop := ∀ l sp, checkTabL l sp = 0 → tabBytesL l sp ≠ p
theorem noTab_secs {p : List UInt8} (h : sectionsL p = none) : NoTab p := fun l sp hc hp => by
  obtain ⟨a, b, c, d, h1, _⟩ := tab_fwd hc hp
  rw [h] at h1
  cases h1
section
variable {p a b c d : List UInt8} (h : sectionsL p = some [a, b, c, d])
include h
theorem tab_same {l : List EntL} {sp : List SpanL} (hc : checkTabL l sp = 0) (hp : tabBytesL l sp = p) : openL b = (indexN l (leafCount l), 0) ∧ openL c = (buildL 10 (usersL l), 0) ∧ openL d = (rangesL sp, 0) ∧
    pagesL (openL b).1 = some (pagesN l (leafCount l)) ∧ spansL (openL d).1 = some sp ∧ entriesL p (pagesN l (leafCount l)) = some l := by
  obtain ⟨a', b', c', d', h1, h2, h3, h4, h5, h6, h7⟩ := tab_fwd hc hp
  rw [h] at h1
  injection h1 with h1
  injection h1 with e1 h1
  injection h1 with e2 h1
  injection h1 with e3 h1
  injection h1 with e4 _
  subst e1 e2 e3 e4
  refine ⟨h2, h3, h4, ?_, ?_, h7⟩
  · rw [h2]; exact h5
  · rw [h4]; exact h6
theorem noTab_open (hz : (openL b).2 ≠ 0 ∨ (openL c).2 ≠ 0 ∨ (openL d).2 ≠ 0) : NoTab p := fun l sp hc hp => by
  obtain ⟨h2, h3, h4, _⟩ := tab_same h hc hp
  rw [h2, h3, h4] at hz
  simp at hz
theorem noTab_parse (hz : pagesL (openL b).1 = none ∨ spansL (openL d).1 = none ∨ entriesL p ((pagesL (openL b).1).getD []) = none) : NoTab p := fun l sp hc hp => by
  obtain ⟨_, _, _, h5, h6, h7⟩ := tab_same h hc hp
  rw [h5, h6] at hz
  simp only [Option.getD_some] at hz
  rw [h7] at hz
  rcases hz with q | q | q <;> cases q
theorem noTab_build {pg : List PageL} {sp : List SpanL} {l : List EntL} (hp : pagesL (openL b).1 = some pg) (hs : spansL (openL d).1 = some sp) (he : entriesL p pg = some l) (hz : (tabBE l sp).2 ≠ 0 ∨ (tabBE l sp).1 ≠ p) : NoTab p := fun l' sp' hc hb => by
  obtain ⟨_, _, _, h5, h6, h7⟩ := tab_same h hc hb
  rw [hp] at h5
  rw [hs] at h6
  have e1 := Option.some.inj h5
  have e2 := Option.some.inj h6
  rw [← e1, he] at h7
  have e3 := Option.some.inj h7
  rw [← e2, ← e3] at hc hb
  unfold tabBE at hz
  rw [if_pos hc] at hz
  rcases hz with q | q
  · exact q rfl
  · exact q hb
theorem tab_yes {pg : List PageL} {sp : List SpanL} {l : List EntL} (hp : pagesL (openL b).1 = some pg) (h0 : (tabBE l sp).2 = 0) (h1 : (tabBE l sp).1 = p) :
    checkTabL l sp = 0 ∧ tabBytesL l sp = p ∧ pg = pagesN l (leafCount l) ∧ (openL c).1 = buildL 10 (usersL l) ∧ rangesL sp = (openL d).1 ∧ ∀ s ∈ sp, checkSpanL s = 0 := by
  have hc : checkTabL l sp = 0 := by
    unfold tabBE at h0
    split at h0
    · assumption
    · exact h0
  have hb : tabBytesL l sp = p := by
    unfold tabBE at h1
    rw [if_pos hc] at h1
    exact h1
  obtain ⟨_, h3, h4, h5, _, _⟩ := tab_same h hc hb
  rw [hp] at h5
  obtain ⟨_, _, _, _, _, c6⟩ := checkTab_zero hc
  refine ⟨hc, hb, Option.some.inj h5, ?_, ?_, c6⟩
  · rw [h3]
  · rw [h4]
end
theorem sections_four {p : List UInt8} {ls : List (List UInt8)} (h : sectionsL p = some ls) : ∃ a b c d, ls = [a, b, c, d] ∧ b.length ≤ p.length ∧ c.length ≤ p.length ∧ d.length ≤ p.length := by
  unfold sectionsL at h
  split at h
  · cases h
  · split at h
    · cases h
    · split at h
      · injection h with h
        rw [show List.range 4 = [0, 1, 2, 3] from rfl] at h
        refine ⟨_, _, _, _, h.symm, ?_, ?_, ?_⟩
        all_goals
          rw [List.length_take, List.length_drop]
          omega
      · cases h
theorem takeText_64 (p : List UInt8) : (takeTextL p 64).1.length ≤ 64 := by
  unfold takeTextL
  split
  · simp
  · split
    · simp
    · split
      · simp
      · simp only [List.length_take]
        omega
theorem parseS_bounds : ∀ (m : Nat) (p : List UInt8) (sp : List SpanL), parseS m p = some sp → (∀ s ∈ sp, s.lo.length ≤ 64 ∧ s.hi.length ≤ 64) ∧ sp.length ≤ m
  | 0, p, sp, h => by
    unfold parseS at h
    split at h
    · injection h with h
      subst h
      simp
    · cases h
  | m + 1, p, sp, h => by
    unfold parseS at h
    split at h
    · injection h with h
      subst h
      simp
    · split at h
      · cases h
      · obtain ⟨r, hr, rfl⟩ := Option.map_eq_some_iff.1 h
        obtain ⟨i1, i2⟩ := parseS_bounds m _ r hr
        refine ⟨fun s hs => ?_, by simp; omega⟩
        rcases List.mem_cons.1 hs with rfl | hs
        · exact ⟨takeText_64 _, takeText_64 _⟩
        · exact i1 s hs
theorem parseP_bounds : ∀ (m at_ : Nat) (p : List UInt8) (ps : List PageL), parseP m at_ p = some ps → (∀ x ∈ ps, x.lo ≤ x.hi ∧ x.hi ≤ at_ + 1048576 * m) ∧ ps.length ≤ m
  | 0, at_, p, ps, h => by
    unfold parseP at h
    split at h
    · injection h with h
      subst h
      simp
    · cases h
  | m + 1, at_, p, ps, h => by
    unfold parseP at h
    split at h
    · injection h with h
      subst h
      simp
    · split at h
      · cases h
      · rename_i hn
        obtain ⟨r, hr, rfl⟩ := Option.map_eq_some_iff.1 h
        obtain ⟨i1, i2⟩ := parseP_bounds m _ _ r hr
        generalize (takeL (keyReadL p).2.1).1 = k at *
        refine ⟨fun s hs => ?_, by simp; omega⟩
        rcases List.mem_cons.1 hs with rfl | hs
        · show at_ ≤ at_ + k ∧ at_ + k ≤ at_ + 1048576 * (m + 1)
          omega
        · have := i1 s hs
          omega
theorem pages_bounds {p : List UInt8} (hp : p.length ≤ 65536) : (∀ x ∈ (pagesL p).getD [], x.lo ≤ x.hi ∧ x.hi ≤ 1000000000000000) ∧ ((pagesL p).getD []).length ≤ 65536 := by
  cases h : pagesL p with
  | none => simp
  | some ps =>
    obtain ⟨h1, h2⟩ := parseP_bounds _ _ _ _ h
    refine ⟨fun x hx => ?_, by show ps.length ≤ 65536; omega⟩
    have := h1 x hx
    omega
theorem spans_bounds {p : List UInt8} (hp : p.length ≤ 65536) : (∀ s ∈ (spansL p).getD [], s.lo.length ≤ 1000000 ∧ s.hi.length ≤ 1000000) ∧ ((spansL p).getD []).length ≤ 65536 := by
  cases h : spansL p with
  | none => simp
  | some sp =>
    obtain ⟨h1, h2⟩ := parseS_bounds _ _ _ h
    refine ⟨fun x hx => ?_, by show sp.length ≤ 65536; omega⟩
    have := h1 x hx
    omega
end Go.Proofs.YtpffieogkfndaaaGreatDoor
