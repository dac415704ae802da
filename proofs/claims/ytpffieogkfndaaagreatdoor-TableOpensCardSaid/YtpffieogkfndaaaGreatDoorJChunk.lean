/-
  TabPageW, Chunk in one text. No condition but sizes.
-/
import Derived.Test.YtpffieogkfndaaaGreatDoorJTabPagesW
import Derived.Test.YtpffieogkfndaaaGreatDoorJSetWalk
import Derived.Test.YtpffieogkfndaaaGreatDoorJSealRef
import Derived.Test.YtpffieogkfndaaaGreatDoorJTabBuildR
import Derived.Test.YtpffieogkfndaaaGreatDoorJBloomWalk
import Derived.Test.YtpffieogkfndaaaGreatDoorJEntSort
namespace Go.Proofs.YtpffieogkfndaaaGreatDoor
open Go.RowKit
set_option maxRecDepth 20000
set_option linter.unusedVariables false
set_option linter.unusedSimpArgs false
def PgP (gs g lo hi : Nat) (A : Option Addr) (n c : Nat) (w : World) : Prop := w.cell? ⟨gs, 3, none⟩ = some (.int .i64 (lo : Int)) ∧ w.cell? ⟨gs, 4, none⟩ = some (.int .i64 (hi : Int)) ∧ w.cell? ⟨g, 0, none⟩ = some (.slice A n c)
theorem PgP.below {gs g lo hi : Nat} {A : Option Addr} {n c : Nat} {w w' : World} (h : PgP gs g lo hi A n c w) (hb : Below w.heap.size w w') : PgP gs g lo hi A n c w' := ⟨stays hb h.1, stays hb h.2.1, stays hb h.2.2⟩
def GotLeaf (w : World) (r : Option (List EntL)) (e : Ending) (w' : World) : Prop :=
  ∃ A n c, e = .returned (.tuple #[.slice A n c, .bool r.isSome]) ∧ SlR w' (fun b => w.heap.size ≤ b) A n c (r.getD []) ∧ Below w.heap.size w w'
theorem open_len (p : List UInt8) : (openL p).1.length ≤ p.length := by
  unfold openL
  repeat' split
  all_goals simp
theorem open_bad {p o : List UInt8} {e : Nat} (h : openL p = (o, e)) (he : e ≠ 0) : o = [] := by
  unfold openL at h
  repeat' split at h
  all_goals simp at h
  all_goals simp_all
theorem readLeaf_nil : readLeafL [] = none := by
  cases h : readLeafL [] with
  | none => rfl
  | some l =>
    obtain ⟨_, h2⟩ := (readLeaf_iff [] l).1 h
    have := congrArg List.length h2
    unfold leafBytesL twoL at this
    simp at this
set_option maxHeartbeats 16000000 in
theorem tpage_any (w : World) (g : Nat) (A : Option Addr) (n c : Nat) (p : List UInt8) (hg : w.cell? ⟨g, 0, none⟩ = some (.slice A n c)) (h : Sl w 1 A n c (bc p)) (hn : n ≤ 65536) (hq : Quarter w) (x : PageL) (A3 : Option Addr) (n3 c3 ks kd lo hi : Nat) (hlo : x.lo = lo) (hhi : x.hi = hi) (hle : lo ≤ hi) (hbig : hi ≤ 1000000000000000) :
    Calls Tryz.prog 107 #[.pointer (some ⟨g, 0, none⟩), .agg #[.slice A3 n3 c3, .int .u64 (ks : Int), .int .u8 (kd : Int), .int .i64 (lo : Int), .int .i64 (hi : Int)]] w (GotLeaf w (leafAtL p x)) := by
  have hl := h.lenb
  have al := (Below.refl w.heap.size w).alloc (Nat.le_refl _) (.cells #[.slice A3 n3 c3, .int .u64 (ks : Int), .int .u8 (kd : Int), .int .i64 (lo : Int), .int .i64 (hi : Int)] 142)
  have hz := World.block_lt_of_cell? _ _ hg
  have hbx := boxed (Below.refl _ _) (box1 w (.cells #[.slice A3 n3 c3, .int .u64 (ks : Int), .int .u8 (kd : Int), .int .i64 (lo : Int), .int .i64 (hi : Int)] 142))
  have hX : PgP w.heap.size g lo hi A n c (w.alloc (.cells #[.slice A3 n3 c3, .int .u64 (ks : Int), .int .u8 (kd : Int), .int .i64 (lo : Int), .int .i64 (hi : Int)] 142)) := ⟨hbx.1 3 _ rfl, hbx.1 4 _ rfl, stays al hg⟩
  have h := h.below (by omega) al
  have hq := hq.below al
  obtain ⟨rr, hrr⟩ : ∃ r, leafAtL p x = r := ⟨_, rfl⟩
  rw [hrr]
  unfold leafAtL at hrr
  rw [hl, hlo, hhi] at hrr
  unfold GotLeaf
  have Hrr := Lib.hid hrr
  clear hrr hg hbx hz
  go_enter Tryz.func107, Tryz.ntmps107
  go_wp2_with fail
  generalize hW0 : (w.alloc (.cells #[.slice A3 n3 c3, .int .u64 (ks : Int), .int .u8 (kd : Int), .int .i64 (lo : Int), .int .i64 (hi : Int)] 142)) = w1 at *
  have hX := hX.below (Below.refl w1.heap.size w1).drew
  have h := h.drew
  have hq := hq.below (Below.refl w1.heap.size w1).drew
  have hbr := al.drew
  clear al hW0
  generalize hW : w1.drew = wz at *
  refine regionF (fun _ wa wb => PgP w.heap.size g lo hi A n c wa → PgP w.heap.size g lo hi A n c wb) (by kernel_rfl) ?_
  rw [hW]
  clear hW
  refine takeT (i := 0) (v := ?_) rfl ?hy ?_
  case hy => intro wS; go_simp; try with_reducible rfl
  refine takeP (i := 1) (v := ?_) rfl hX ?hy ?_
  case hy =>
    intro wS hSw
    obtain ⟨x3, x4, x5⟩ := id hSw
    clear hSw
    go_simp
    try with_reducible rfl
  refine takeT (i := 2) (v := ?_) rfl ?hy ?_
  case hy => intro wS; go_simp; try with_reducible rfl
  refine takeT (i := 3) (v := ?_) rfl ?hy ?_
  case hy => intro wS; go_simp; try with_reducible rfl
  refine takeT (i := 4) (v := ?_) rfl ?hy ?_
  case hy => intro wS; go_simp; try with_reducible rfl
  refine takeP (i := 5) (v := ?_) rfl hX ?hy ?_
  case hy =>
    intro wS hSw
    obtain ⟨x3, x4, x5⟩ := id hSw
    clear hSw
    go_simp
    try with_reducible rfl
  refine takeT (i := 6) (v := ?_) rfl ?hy ?_
  case hy => intro wS; go_simp; try with_reducible rfl
  refine takeT (i := 7) (v := ?_) rfl ?hy ?_
  case hy => intro wS; go_simp; try with_reducible rfl
  try simp only [List.getElem_toArray, List.getElem_cons_succ, List.getElem_cons_zero, Act.put, List.setIfInBounds_toArray, List.set_cons_zero, List.set_cons_succ]
  refine doneF (by kernel_rfl) ?_ _
  try simp only [List.getElem_toArray, List.getElem_cons_succ, List.getElem_cons_zero, Act.put, List.setIfInBounds_toArray, List.set_cons_zero, List.set_cons_succ]
  by_cases hh : n < hi
  case pos =>
    have d1 : decide ((n : Int) < (hi : Int)) = true := decide_eq_true (by omega)
    have p1 : (n : Int) < (hi : Int) := by omega
    have er := Hrr.out
    rw [if_pos hh] at er
    subst er
    clear Hrr
    go_wp2
    go_ret2
    exact ⟨none, 0, 0, rfl, SlR.nilnil _ _, hbr⟩
  have d1 : decide ((n : Int) < (hi : Int)) = false := decide_eq_false (by omega)
  have p1 : ¬ (n : Int) < (hi : Int) := by omega
  have er := Hrr.out
  rw [if_neg hh] at er
  obtain ⟨AQ, r1, sq, -⟩ := cutLH h .i64 .i64 (lo : Int) (hi : Int) lo hi rfl rfl (by omega) (by omega)
  have sq := sq.drew
  have hq := hq.below (Below.refl wz.heap.size wz).drew
  have hX := hX.below (Below.refl wz.heap.size wz).drew
  have hbr := hbr.drew
  generalize (p.drop lo).take (hi - lo) = pc at *
  have hol := open_len pc
  have ko := fun (w' : World) (h : Sl w' 1 AQ (hi - lo) (c - lo) (bc pc)) (hq : Quarter w') => open_any w' AQ (hi - lo) (c - lo) pc h hq (by omega)
  unfold NewB2 at ko
  have hrl : readLeafL [] = none := readLeaf_nil
  have hpc : pc.length ≤ 65536 := by have := sq.lenb; omega
  generalize hop : openL pc = O at *
  obtain ⟨oo, oe⟩ := O
  simp only at *
  have Ko := Lib.hid ko
  have HR := Lib.hid er
  have Hnil := Lib.hid hrl
  have Hzero : Hid (oe ≠ 0 → oo = []) := Lib.hid (fun q => open_bad hop q)
  clear er Hrr hrl hop h ko
  go_wp2_with fail
  generalize hW : wz.drew = wy at *
  refine regionF (fun _ wa wb => PgP w.heap.size g lo hi A n c wa → PgP w.heap.size g lo hi A n c wb) (by kernel_rfl) ?_
  rw [hW]
  clear hW
  refine takeT (i := 0) (v := ?_) rfl ?hy ?_
  case hy => intro wS; go_simp; try with_reducible rfl
  refine takeT (i := 1) (v := ?_) rfl ?hy ?_
  case hy => intro wS; go_simp; try with_reducible rfl
  refine takeT (i := 2) (v := ?_) rfl ?hy ?_
  case hy => intro wS; go_simp; try with_reducible rfl
  refine takeP (i := 3) (v := ?_) rfl hX ?hy ?_
  case hy =>
    intro wS hSw
    obtain ⟨x3, x4, x5⟩ := id hSw
    clear hSw
    go_simp
    try with_reducible rfl
  refine takeT (i := 4) (v := ?_) rfl ?hy ?_
  case hy => intro wS; go_simp; try with_reducible rfl
  refine takeP (i := 5) (v := ?_) rfl hX ?hy ?_
  case hy =>
    intro wS hSw
    obtain ⟨x3, x4, x5⟩ := id hSw
    clear hSw
    go_simp
    try with_reducible rfl
  refine takeT (i := 6) (v := ?_) rfl ?hy ?_
  case hy => intro wS; go_simp; try with_reducible rfl
  refine takeP (i := 7) (v := ?_) rfl hX ?hy ?_
  case hy =>
    intro wS hSw
    obtain ⟨x3, x4, x5⟩ := id hSw
    clear hSw
    go_simp
    try with_reducible rfl
  refine takeT (i := 8) (v := ?_) rfl ?hy ?_
  case hy => intro wS; go_simp; try with_reducible rfl
  try simp only [List.getElem_toArray, List.getElem_cons_succ, List.getElem_cons_zero, Act.put, List.setIfInBounds_toArray, List.set_cons_zero, List.set_cons_succ]
  refine readyF (rs := [9]) (by kernel_rfl) (by simp) ?_
  refine AllF.cons rfl (fun K hK => ?_) AllF.nil
  go_simp
  refine (Ko.out wy sq hq).mono ?_
  rintro e wy_9 ⟨A6, n6, c6, rfl, ho6, hb⟩
  refine hK _ _ (fun h => h.below hb) ?_
  clear hK K
  have hX := hX.below hb
  have hbr := hbr.trans (hb.mono hbr.size)
  have hn6 := OwnB.len' ho6
  have s6 := OwnB.sl ho6
  clear hb ho6 sq hq
  refine takeT (i := 10) (v := ?_) rfl ?hy ?_
  case hy => intro wS; go_simp; try with_reducible rfl
  refine takeT (i := 11) (v := ?_) rfl ?hy ?_
  case hy => intro wS; go_simp; try with_reducible rfl
  refine takeT (i := 12) (v := ?_) rfl ?hy ?_
  case hy => intro wS; go_simp; try with_reducible rfl
  refine takeT (i := 13) (v := ?_) rfl ?hy ?_
  case hy => intro wS; go_simp; try with_reducible rfl
  refine takeT (i := 14) (v := ?_) rfl ?hy ?_
  case hy => intro wS; go_simp; try with_reducible rfl
  try simp only [List.getElem_toArray, List.getElem_cons_succ, List.getElem_cons_zero, Act.put, List.setIfInBounds_toArray, List.set_cons_zero, List.set_cons_succ]
  refine doneF (by kernel_rfl) ?_ _
  try simp only [List.getElem_toArray, List.getElem_cons_succ, List.getElem_cons_zero, Act.put, List.setIfInBounds_toArray, List.set_cons_zero, List.set_cons_succ]
  have hn6l : n6 ≤ 65536 := by omega
  have k4 := fun w' (hb : Below wy_9.heap.size wy_9 w') => lread_any w' A6 n6 c6 oo (s6.below (by omega) hb) hn6l
  have k4 := k4 _ (Below.refl _ _)
  unfold GotEnts at k4
  by_cases ho : oe = 0
  case neg =>
    have eo := Hzero.out ho
    subst eo
    rw [Hnil.out] at k4
    have er := HR.out
    rw [if_pos ho] at er
    subst er
    have t1 : ((oe : Int) == 0) = false := by simp; omega
    have K4 := Lib.hid k4
    clear k4 HR Hnil Hzero
    go_wp2_with fail
    refine K4.out.mono ?_
    rintro e w9 ⟨A7, n7, c7, rfl, s7, hb9⟩
    have hbs := hbr.size
    have s7 := s7.mono (q := fun b => w.heap.size ≤ b) fun b _ hb => by omega
    have S7 := Lib.hid s7
    have hbr := hbr.trans (hb9.mono hbr.size)
    clear s7 hb9
    go_wp2
    go_ret2
    exact ⟨A7, n7, c7, rfl, S7.out, hbr⟩
  subst ho
  have er := HR.out
  rw [if_neg (by omega)] at er
  obtain ⟨rl, hrl⟩ : ∃ rl, readLeafL oo = rl := ⟨_, rfl⟩
  rw [hrl] at k4 er
  subst er
  have K4 := Lib.hid k4
  clear k4 HR Hnil Hzero hrl
  go_wp2_with fail
  refine K4.out.mono ?_
  rintro e w9 ⟨A7, n7, c7, rfl, s7, hb9⟩
  have hbs := hbr.size
  have s7 := s7.mono (q := fun b => w.heap.size ≤ b) fun b _ hb => by omega
  have S7 := Lib.hid s7
  have hbr := hbr.trans (hb9.mono hbr.size)
  clear s7 hb9 K4
  cases rl
  all_goals
    simp only [Option.isSome] at *
    go_wp2
    go_ret2
    exact ⟨A7, n7, c7, rfl, S7.out, hbr⟩
end Go.Proofs.YtpffieogkfndaaaGreatDoor

namespace Go.Proofs.YtpffieogkfndaaaGreatDoor
open Go.RowKit
set_option maxRecDepth 20000
set_option linter.unusedVariables false
set_option linter.unusedSimpArgs false
attribute [local go_sem] Oper.semAt_some
/-- chunk x of a row of n entries, as a value -/
def chunkVal (A : Option Addr) (n x : Nat) : Value := .slice (A.map (·.add (8 * x * 4))) (min 8 (n - 8 * x)) (min 8 (n - 8 * x))
theorem cutLHM {A : Option Addr} {n c : Nat} (i j k : Int) (lo hi : Nat) (ei : i = lo) (ej : j = hi) (ek : k = hi) (h1 : lo < hi) (h2 : hi ≤ c) (w' : World) :
    (Instr.slice 22 (.slice A n c) (some (.int .i64 i)) (some (.int .i64 j)) (some (.int .i64 k))).run Tryz.prog w' = .ok (.slice (A.map (·.add (lo * 4))) (hi - lo) (hi - lo)) w' := by
  subst ei ej ek
  have := run_slice_lhm (P := Tryz.prog) w' 22 A n c Tryz.underlying22 .i64 .i64 .i64 lo hi hi (by omega) (by omega) (by omega) (by omega)
  rw [this]
  show ((sizeOf 69).run Tryz.prog w').andThen _ = _
  rw [run_sizeE]
  simp only [Result.andThen, sliced, Int.toNat_natCast]
  rw [if_neg (by omega)]
def ChunkP (b1 b2 : Nat) (A : Option Addr) (n c : Nat) (w : World) : Prop := w.cell? ⟨b1, 0, none⟩ = some (.slice A n c) ∧ w.cell? ⟨b2, 0, none⟩ = some (.int .i64 8)
/-- the chunks that have come when k rounds are over -/
def comeC (K k : Nat) (h : k ≤ K) : List (Fin K) := (List.range k).attach.map fun i => ⟨i.1, by have := List.mem_range.1 i.2; omega⟩
theorem comeC_length (K k : Nat) (h : k ≤ K) : (comeC K k h).length = k := by simp [comeC]
theorem comeC_succ (K k : Nat) (h : k + 1 ≤ K) : comeC K (k + 1) h = comeC K k (by omega) ++ [⟨k, by omega⟩] := by
  unfold comeC
  apply List.ext_getElem?
  intro i
  by_cases hi : i < k
  · rw [List.getElem?_append_left (by simpa using hi)]
    simp [hi, (show i < k + 1 by omega)]
  · by_cases he : i = k
    · subst he
      rw [List.getElem?_append_right (by simp)]
      simp
    · rw [List.getElem?_eq_none (by simp; omega), List.getElem?_eq_none (by simp; omega)]
theorem grown_drew (w : World) : w.grownBy w.drew none := ⟨rfl, rfl, rfl, Nat.le_refl _, fun _ _ _ => rfl⟩
set_option maxRecDepth 100000 in
set_option maxHeartbeats 4000000 in
theorem chunk1_in (dp : Nat) (hdp : 1 ≤ dp) (l b1 b2 : Nat) (A : Option Addr) (n c K : Nat) (hK : K = (n + 7) / 8) (hn : n ≤ 1000) (hc : n ≤ c) (hcm : c ≤ 9223372036854775807) (J Jx : List (Fin K) → World → Prop)
    (hY : ∀ pre (x : Fin K) W, J pre W → pre.length < K → YieldAt Fence.wide (dp - 1) Tryz.prog l #[chunkVal A n x.val] W fun e W' =>
      (e = .returned (.bool true) ∧ J (pre ++ [x]) W' ∧ (W'.heap[b1]? = W.heap[b1]? ∧ W'.heap[b2]? = W.heap[b2]?)) ∨ (e = .returned (.bool false) ∧ Jx (pre ++ [x]) W'))
    (W : World) (hJ : AbidesFrom W.heap.size J) (c1 : W.cell? ⟨b1, 0, none⟩ = some (.slice A n c)) (c2 : W.cell? ⟨b2, 0, none⟩ = some (.int .i64 8)) (h0 : J [] W) :
    CallsIn Fence.wide dp Tryz.prog 78 #[.func (.yield l) #[] #[], .pointer (some ⟨b1, 0, none⟩), .pointer (some ⟨b2, 0, none⟩)] W fun e W' => (∃ v, e = .returned v) ∧
      ((∃ ys, ys = comeC K K (Nat.le_refl _) ∧ J ys W') ∨ (∃ pre, (∃ k, ∃ h : k ≤ K, pre = comeC K k h) ∧ Jx pre W')) := by
  refine callsIn_of_wp Tryz.func78 rfl trivial ?_ rfl
  simp only [Tryz.ntmps78, List.size_toArray, List.length_cons, List.length_nil, Nat.reduceAdd, Nat.reduceSub, Array.replicate_succ, Array.replicate_zero, List.push_toArray, List.append_toArray, List.nil_append, List.cons_append]
  gi_wp2
  gi_loopw [4] (fun iv wr => ∃ k : Nat, ∃ hk : k ≤ K, iv = .int .i64 ((8 * k : Nat) : Int) ∧ J (comeC K k hk) wr ∧ ChunkP b1 b2 A n c wr) (fun iv _ => n - (intOf iv).toNat)
  case atStart => exact ⟨0, Nat.zero_le _, rfl, h0, c1, c2⟩
  case round =>
    obtain ⟨k, hk, rfl, hJk, x1, x2⟩ := hrel
    by_cases hlt : 8 * k < n
    case neg =>
      obtain rfl : k = K := by omega
      gi_wp2
      go_end0
      exact ⟨⟨_, rfl⟩, .inl ⟨_, rfl, hJk⟩⟩
    have hkK : k < K := by omega
    obtain ⟨i, hi⟩ : ∃ i, 8 * k = i := ⟨_, rfl⟩
    obtain ⟨m, hm⟩ : ∃ m, n - i = m := ⟨_, rfl⟩
    obtain ⟨e, he⟩ : ∃ e, min 8 m = e := ⟨_, rfl⟩
    rw [hi] at hlt ⊢
    have he1 : 0 < e := by omega
    have he2 : i + e ≤ n := by omega
    have he3 : e ≤ 8 := by omega
    have hm1 : (if (m : Int) < 8 then (m : Int) else 8) = (e : Int) := by split <;> omega
    have hm2 : (if (8 : Int) < (m : Int) then (8 : Int) else (m : Int)) = (e : Int) := by split <;> omega
    have hm3 : min (8 : Int) (m : Int) = (e : Int) := by omega
    have r1 := fun w => cutLE (A := A) (n := n) (c := c) .i64 (i : Int) i rfl (by omega) hc w
    simp only [hm] at r1
    have r2 := fun w => cutLHM (A := A) (n := n) (c := c) (i : Int) ((i : Int) + (e : Int)) ((i : Int) + (e : Int)) i (i + e) rfl (by omega) (by omega) (by omega) (by omega) w
    have e0 : i + e - i = e := by omega
    simp only [e0] at r2
    have hJd : J (comeC K k hk) wr.drew := hJ _ _ _ none hJk (grown_drew wr) (fun r e => by cases e)
    obtain ⟨fn, tmps, assign, body, hy, hR⟩ := hY _ ⟨k, hkK⟩ wr.drew hJd (by rw [comeC_length]; exact hkK)
    dsimp only at hy
    simp only [chunkVal, hi, hm, he] at hy
    have hX : ChunkP b1 b2 A n c wr.drew := ⟨x1, x2⟩
    have Hi := Lib.hid hi
    clear hm he e0 hi hJd hJk
    gi_wp2
    refine wpIn_wide.2 ?_
    generalize hW : wr.drew = wz at *
    refine regionF (fun _ wa wb => ChunkP b1 b2 A n c wa → ChunkP b1 b2 A n c wb) (by kernel_rfl) ?_
    rw [hW]
    clear hW
    refine takeP (i := 0) (v := ?_) rfl hX ?hy ?_
    case hy =>
      intro wS hSw
      obtain ⟨x1, x2⟩ := id hSw
      clear hSw
      go_simp
      try with_reducible rfl
    refine takeP (i := 1) (v := ?_) rfl hX ?hy ?_
    case hy =>
      intro wS hSw
      obtain ⟨x1, x2⟩ := id hSw
      clear hSw
      go_simp
      try with_reducible rfl
    refine takeT (i := 2) (v := ?_) rfl ?hy ?_
    case hy => intro wS; go_simp; try with_reducible rfl
    refine takeT (i := 3) (v := ?_) rfl ?hy ?_
    case hy => intro wS; go_simp; try with_reducible rfl
    refine takeT (i := 4) (v := ?_) rfl ?hy ?_
    case hy => intro wS; go_simp; try with_reducible rfl
    refine takeT (i := 5) (v := ?_) rfl ?hy ?_
    case hy => intro wS; go_simp; try with_reducible rfl
    refine takeT (i := 6) (v := ?_) rfl ?hy ?_
    case hy => intro wS; go_simp; try with_reducible rfl
    try simp only [List.getElem_toArray, List.getElem_cons_succ, List.getElem_cons_zero, Act.put, List.setIfInBounds_toArray, List.set_cons_zero, List.set_cons_succ]
    refine doneF (by kernel_rfl) ?_ _
    try simp only [List.getElem_toArray, List.getElem_cons_succ, List.getElem_cons_zero, Act.put, List.setIfInBounds_toArray, List.set_cons_zero, List.set_cons_succ]
    obtain ⟨x1, x2⟩ := id hX
    gi_wp2
    refine hR.mono ?_
    rintro e W3 (⟨rfl, hJ3, hk3, hk4⟩ | ⟨rfl, hJx3⟩)
    · have y1 := (World.cell?_of_block (a := ⟨b1, 0, none⟩) hk3).trans x1
      have y2 := (World.cell?_of_block (a := ⟨b2, 0, none⟩) hk4).trans x2
      gi_wp2
      go_roundw
      case rel => exact ⟨k + 1, by omega, by rw [show 8 * (k + 1) = i + 8 by have := Hi.out; omega]; go_num, by rw [comeC_succ]; exact hJ3, y1, y2⟩
      case measure => simp [intOf]; omega
    · gi_wp2
      refine bodyPost_ret (results_none rfl _ _ _) rfl ?_
      exact ⟨⟨_, rfl⟩, .inr ⟨_, ⟨k + 1, by omega, (comeC_succ _ _ _).symm⟩, hJx3⟩⟩
theorem chunk_stops (dp : Nat) (hdp : 1 ≤ dp) (b1 b2 : Nat) (A : Option Addr) (n c K : Nat) (hK : K = (n + 7) / 8) (hn : n ≤ 1000) (hc : n ≤ c) (hcm : c ≤ 9223372036854775807) (w : World)
    (c1 : w.cell? ⟨b1, 0, none⟩ = some (.slice A n c)) (c2 : w.cell? ⟨b2, 0, none⟩ = some (.int .i64 8)) :
    SeqStopsK Fence.wide dp Tryz.prog 78 #[.pointer (some ⟨b1, 0, none⟩), .pointer (some ⟨b2, 0, none⟩)] (fun x : Fin K => #[chunkVal A n x.val])
      (fun W W' => W'.heap[b1]? = W.heap[b1]? ∧ W'.heap[b2]? = W.heap[b2]?) (fun ys => ys = comeC K K (Nat.le_refl _)) (fun pre => ∃ k, ∃ h : k ≤ K, pre = comeC K k h) K w := fun l J Jx W hW hJ _ hY h0 =>
  chunk1_in dp hdp l b1 b2 A n c K hK hn hc hcm J Jx hY W hJ ((hW.cell (p := ⟨b1, 0, none⟩) (World.block_lt_of_cell? _ _ c1)).trans c1) ((hW.cell (p := ⟨b2, 0, none⟩) (World.block_lt_of_cell? _ _ c2)).trans c2) h0
/-- the iterator's own keeping: two blocks -/
theorem keep2_t {b c : Nat} {A B C : World} (h : B.heap[b]? = A.heap[b]? ∧ B.heap[c]? = A.heap[c]?) (k : C.heap[b]? = B.heap[b]? ∧ C.heap[c]? = B.heap[c]?) : C.heap[b]? = A.heap[b]? ∧ C.heap[c]? = A.heap[c]? := ⟨k.1.trans h.1, k.2.trans h.2⟩
theorem keep2_b {b c : Nat} {w : World} (hb : b < w.heap.size) (hc : c < w.heap.size) (W : World) (l : Nat) (o o' : Obj) (hl : w.heap.size ≤ l) (_ : W.heap[l]? = some o) (_ : o.isCells = false) (_ : o.isWalk = false) : (W.putObj l o').heap[b]? = W.heap[b]? ∧ (W.putObj l o').heap[c]? = W.heap[c]? :=
  ⟨World.putObj_heap_other (by omega), World.putObj_heap_other (by omega)⟩
set_option maxHeartbeats 400000 in
theorem chunk_any (w : World) (A : Option Addr) (n c : Nat) :
    Calls Tryz.prog 40 #[.slice A n c, .int .i64 8] w fun e w' =>
      e = .returned (.func (.func 78) #[] #[.pointer (some ⟨w.heap.size, 0, none⟩), .pointer (some ⟨w.heap.size + 1, 0, none⟩)]) ∧
      w' = (w.alloc (.cells #[.slice A n c] 22)).alloc (.cells #[.int .i64 8] 3) := by
  have hc := setCell1 (w.alloc (.cells #[.slice A n c] 22)) (.int .i64 8) 3
  rw [World.size_alloc] at hc
  obtain ⟨x1, -⟩ := hc
  go_enter Tryz.func40, Tryz.ntmps40
  go_wp2
  go_ret
  exact ⟨rfl, rfl⟩
/-- the entries of chunk x lie where its value says -/
theorem chunk_row {w : World} {p : Nat → Prop} {A : Option Addr} {n c : Nat} {ls : List EntL} (h : SlR w p A n c ls) {x : Nat} (hx : x < (n + 7) / 8) : SlR w p (A.map (·.add (8 * x * 4))) (min 8 (n - 8 * x)) (min 8 (n - 8 * x)) (chunkL ls x) := by
  have hcap := h.cap
  have h1 := (h.drop (k := 8 * x) (by omega)).take (k := min 8 (n - 8 * x)) (by omega)
  have h2 : (ls.drop (8 * x)).take (min 8 (n - 8 * x)) = chunkL ls x := by
    unfold chunkL
    have := h.lenR
    rcases Nat.lt_or_ge (n - 8 * x) 8 with q | q
    · rw [Nat.min_eq_right (by omega), List.take_of_length_le (by rw [List.length_drop]; omega), List.take_of_length_le (by rw [List.length_drop]; omega)]
    · rw [Nat.min_eq_left q]
  rw [h2, if_neg (by omega)] at h1
  obtain ⟨xs, hs, hr, hp⟩ := h1
  exact ⟨xs, ⟨hs.len, Nat.le_refl _, by have := hs.capm; unfold maxLen at *; omega, hs.at_⟩, hr, hp⟩
end Go.Proofs.YtpffieogkfndaaaGreatDoor
