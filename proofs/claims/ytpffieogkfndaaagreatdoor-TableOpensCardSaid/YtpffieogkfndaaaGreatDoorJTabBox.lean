/-
  TabEntriesW, TabBox in one text. No condition but sizes.
-/
import Derived.Test.YtpffieogkfndaaaGreatDoorJChunk
import Derived.Test.YtpffieogkfndaaaGreatDoorJTabBounds
import Derived.Test.YtpffieogkfndaaaGreatDoorLeafBuild
import Derived.Test.YtpffieogkfndaaaGreatDoorBloomBuild
namespace Go.Proofs.YtpffieogkfndaaaGreatDoor
open Go.RowKit
set_option maxRecDepth 20000
set_option linter.unusedVariables false
set_option linter.unusedSimpArgs false
theorem entries_step {p : List UInt8} {ps : List PageL} {j : Nat} (hj : j < ps.length) : entriesL p (ps.drop j) = match leafAtL p ps[j] with
    | none => none
    | some l => (entriesL p (ps.drop (j + 1))).map (l ++ ·) := by
  rw [List.drop_eq_getElem_cons hj]
  rfl
theorem leafAt_len {p : List UInt8} {x : PageL} {l : List EntL} (h : leafAtL p x = some l) : l.length ≤ 64 := by
  unfold leafAtL at h
  repeat' split at h
  · cases h
  · cases h
  · exact (checkLeaf_zero ((readLeaf_iff _ _).1 h).1).1
set_option maxHeartbeats 16000000 in
theorem tentries_any (w : World) (g : Nat) (A : Option Addr) (n c : Nat) (p : List UInt8) (hg : w.cell? ⟨g, 0, none⟩ = some (.slice A n c)) (h : Sl w 1 A n c (bc p)) (hn : n ≤ 65536) (hq : Quarter w)
    (pp : Nat → Prop) (Ap : Option Addr) (np cp : Nat) (ps : List PageL) (hg1 : w.cell? ⟨g, 1, none⟩ = some (.slice Ap np cp)) (hp : SlR w pp Ap np cp ps) (hps : ∀ x ∈ ps, x.lo ≤ x.hi ∧ x.hi ≤ 1000000000000000) (hnp : np ≤ 1000000) :
    Calls Tryz.prog 67 #[.pointer (some ⟨g, 0, none⟩)] w (GotLeaf w (entriesL p ps)) := by
  have hlp := hp.lenR
  have hcp := hp.cap
  unfold maxLen at hcp
  obtain ⟨r, hr⟩ : ∃ r, entriesL p ps = r := ⟨_, rfl⟩
  rw [hr]
  have hr0 : (entriesL p (ps.drop 0)).map (([] : List EntL) ++ ·) = r := by rw [← hr, List.drop_zero]; cases entriesL p ps <;> simp
  have Hr := Lib.hid hr0
  have Hlp := Lib.hid hlp
  have Hps := Lib.hid hps
  clear hr hr0 hlp hps
  unfold GotLeaf
  go_enter Tryz.func67, Tryz.ntmps67
  go_wp2
  go_loopw [4, 14] (fun ov iv wr => ∃ (j : Nat) (out : List EntL) (A2 : Option Addr) (n2 c2 : Nat), iv = .int .i64 (j : Int) ∧ ov = .slice A2 n2 c2 ∧ j ≤ np ∧ Below w.heap.size w wr ∧ OwnZ wr w.heap.size 69 A2 n2 c2 out ∧ Hid ((entriesL p (ps.drop j)).map (out ++ ·) = r) ∧ n2 ≤ 64 * j) (fun _ iv _ => np - (intOf iv).toNat)
  case atStart => exact ⟨0, [], none, 0, 0, rfl, rfl, Nat.zero_le _, Below.refl _ _, OwnZ.nil _ _ _ _, Hr.out, Nat.zero_le _⟩
  case round =>
    obtain ⟨j, out, A2, n2, c2, rfl, rfl, hj, hbr, ho2, HP, hn2⟩ := hrel
    by_cases hlt : j < np
    case neg =>
      obtain rfl : np = j := by omega
      have er : r = some out := by
        rw [← HP.out, List.drop_of_length_le (by have := Hlp.out; omega)]
        simp [entriesL]
      subst er
      have HS := Lib.hid ho2.slB
      clear HP ho2 h
      go_wp2
      go_ret2
      exact ⟨A2, n2, c2, rfl, HS.out, hbr⟩
    obtain ⟨b, o, x, cs, rfl, hx, ⟨v, rfl, hk⟩, hcell⟩ := (hp.below hbr).get hlt
    obtain ⟨A3, n3, c3, rfl, hs3, _⟩ := hk
    obtain ⟨hjl, rfl⟩ := List.getElem?_eq_some_iff.1 hx
    have d0 : wr.cell? ⟨b, o + j * 5, none⟩ = some (.slice A3 n3 c3) := hcell 0 _ rfl
    have d1 : wr.cell? ⟨b, o + j * 5 + 1, none⟩ = some (.int .u64 (ps[j].last.seq.toNat : Int)) := hcell 1 _ rfl
    have d2 : wr.cell? ⟨b, o + j * 5 + 2, none⟩ = some (.int .u8 (ps[j].last.kind.toNat : Int)) := hcell 2 _ rfl
    have d3 : wr.cell? ⟨b, o + j * 5 + 3, none⟩ = some (.int .i64 (ps[j].lo : Int)) := hcell 3 _ rfl
    have d4 : wr.cell? ⟨b, o + j * 5 + 4, none⟩ = some (.int .i64 (ps[j].hi : Int)) := hcell 4 _ rfl
    obtain ⟨q1, q2⟩ := Hps.out ps[j] (List.getElem_mem hjl)
    have hst := entries_step (p := p) hjl
    have hle := fun l => leafAt_len (p := p) (x := ps[j]) (l := l)
    have al := (Below.refl wr.heap.size wr).alloc (Nat.le_refl _) (.cells #[.slice A3 n3 c3, .int .u64 (ps[j].last.seq.toNat : Int), .int .u8 (ps[j].last.kind.toNat : Int), .int .i64 (ps[j].lo : Int), .int .i64 (ps[j].hi : Int)] 142)
    have hbx := boxed (Below.refl _ _) (box1 wr (.cells #[.slice A3 n3 c3, .int .u64 (ps[j].last.seq.toNat : Int), .int .u8 (ps[j].last.kind.toNat : Int), .int .i64 (ps[j].lo : Int), .int .i64 (ps[j].hi : Int)] 142))
    have hba := hbr.trans (al.mono hbr.size)
    have ck := tpage_any _ g A n c p (stays (hba.mono (Nat.le_refl _)) hg) (h.below (by omega) hba) hn (hq.below hba) ps[j] A3 n3 c3 ps[j].last.seq.toNat ps[j].last.kind.toNat ps[j].lo ps[j].hi rfl rfl q1 q2
    have x0 := hbx.1 0 _ rfl
    have x1 := hbx.1 1 _ rfl
    have x2 := hbx.1 2 _ rfl
    have x3 := hbx.1 3 _ rfl
    have x4 := hbx.1 4 _ rfl
    unfold GotLeaf at ck
    rw [hst] at HP
    generalize leafAtL p ps[j] = lf at *
    generalize ps[j].last.seq.toNat = ks at *
    generalize ps[j].last.kind.toNat = kd at *
    generalize ps[j].lo = lo at *
    generalize ps[j].hi = hi at *
    have ho2 := ho2.below al
    generalize hW : (wr.alloc (.cells #[.slice A3 n3 c3, .int .u64 (ks : Int), .int .u8 (kd : Int), .int .i64 (lo : Int), .int .i64 (hi : Int)] 142)) = w1 at *
    have Ck := Lib.hid ck
    have Hle := Lib.hid hle
    clear ck hst hle al hbx hx hcell hs3
    go_wp2_with fail
    try rw [hW]
    refine Ck.out.mono ?_
    rintro e w3 ⟨A7, n7, c7, rfl, s7, hb3⟩
    have hlt2 : ∀ b, blk A2 c2 = some b → b < w1.heap.size := fun b q => (ho2.lt b q).2
    have hbs := hba.size
    have ho2 := ho2.below hb3
    have hbr := hba.trans (hb3.mono hba.size)
    clear Ck hb3 d0 d1 d2 d3 d4 hW x0 x1 x2 x3 x4 hba
    cases lf
    case none =>
      have er : r = none := by
        have := HP.out
        simpa using this.symm
      subst er
      simp only [Option.isSome] at *
      clear HP Hle
      go_wp2
      go_ret2
      exact ⟨none, 0, 0, rfl, SlR.nilnil _ _, hbr⟩
    case some l =>
      have hl64 := Hle.out l rfl
      have hnew : (entriesL p (ps.drop (j + 1))).map ((out ++ l) ++ ·) = r := by
        rw [← HP.out]
        simp only [Option.map_map]
        congr 1
        funext z
        simp
      have hl7 := s7.lenR
      have hrow : ∃ xs, Sl w3 4 A7 n7 c7 xs ∧ RowC w3 (fun b => blk A2 c2 ≠ some b ∧ w.heap.size ≤ b) xs l := by
        obtain ⟨xs, hs, hr, _⟩ := s7
        exact ⟨xs, hs, hr.move fun b _ hb => ⟨rfl, fun q => by have := hlt2 b q; omega, by omega⟩⟩
      have hn7 : n7 ≤ 64 := by rw [← hl7]; exact hl64
      have Hnew := Lib.hid hnew
      simp only [Option.isSome] at *
      clear HP Hle hnew hl7 s7 hl64
      go_wp2_with (at_builtin; refine wpList_appZ _ rfl (.tmp 26) (.tmp 27) 22 rfl w.heap.size 69 _ 64 Tryz.underlying22 infoEnt rfl A2 n2 c2 _ rfl ho2 A7 n7 c7 l rfl hrow ?_ ?_ ?_ ?_)
      · unfold maxLen; omega
      · omega
      · exact hbr.size
      intro A9 c9 w9 ho9 hg9 _
      have hbr9 := hbr.grown hg9 hbr.size (fun b hb => (ho2.lt b hb).1)
      clear hrow ho2 hg9
      go_wp2
      go_roundw
      case rel => exact ⟨j + 1, _, A9, _, c9, by go_num, rfl, by omega, hbr9, ho9, Hnew, by omega⟩
      case measure => simp [intOf]; omega
end Go.Proofs.YtpffieogkfndaaaGreatDoor

namespace Go.Proofs.YtpffieogkfndaaaGreatDoor
open Go.RowKit
set_option maxRecDepth 20000
set_option linter.unusedVariables false
set_option linter.unusedSimpArgs false
/-- a box of one cell -/
def Bx1 (w : World) (b : Nat) (v : Value) : Prop := w.cell? ⟨b, 0, none⟩ = some v ∧ w.frozen? ⟨b, 0, none⟩ = false
section
variable {w w' : World} {b : Nat} {v : Value}
theorem Bx1.lt (h : Bx1 w b v) : b < w.heap.size := World.block_lt_of_cell? _ _ h.1
theorem Bx1.keep (h : Bx1 w b v) (e : w'.heap[b]? = w.heap[b]?) : Bx1 w' b v :=
  ⟨(World.cell?_of_block (a := ⟨b, 0, none⟩) e).trans h.1, by have h2 := h.2; unfold World.frozen? at *; rw [show w'.heap[(⟨b, 0, none⟩ : Addr).block]? = w.heap[b]? from e]; exact h2⟩
theorem Bx1.below (h : Bx1 w b v) (hb : Below w.heap.size w w') : Bx1 w' b v := h.keep (hb.block b h.lt)
theorem Bx1.grown (h : Bx1 w b v) {row : Option Nat} (hg : w.grownBy w' row) (hne : row ≠ some b) : Bx1 w' b v := h.keep (hg.block b h.lt (fun e => hne e.symm))
theorem Bx1.drew (h : Bx1 w b v) : Bx1 w.drew b v := h
theorem Bx1.fresh (w : World) (v : Value) (t : TypeId) : Bx1 (w.alloc (.cells #[v] t)) w.heap.size v := cell_new1 w v t
theorem Bx1.alloc (h : Bx1 w b v) (o : Obj) : Bx1 (w.alloc o) b v := h.below ((Below.refl w.heap.size w).alloc (Nat.le_refl _) o)
theorem Bx1.set (h : Bx1 w b v) (v' : Value) : Bx1 (w.setCell ⟨b, 0, none⟩ v') b v' :=
  ⟨World.cell?_setCell_same' _ _ _ (by rw [h.1]; rfl), by rw [World.frozen?_setCell]; exact h.2⟩
theorem Bx1.other (h : Bx1 w b v) {g : Nat} (hne : b ≠ g) (i : Nat) (v' : Value) : Bx1 (w.setCell ⟨g, i, none⟩ v') b v := h.keep (Below.heap_setCell _ _ _ _ hne)
end
theorem own_ne {w : World} {B : Nat} {A : Option Addr} {n c : Nat} {e : TypeId} {size : Nat} {xs : List Value} (h : Own w B e size A n c xs) {b r : Nat} {o : Obj} (hb : blk A c = some b) (hr : w.heap[r]? = some o) (hn : o.isCells = false) : r ≠ b := by
  rintro rfl
  unfold blk at hb
  split at hb
  · cases hb
  · obtain ⟨g, o', cur, rfl, _, hh, _⟩ := h.row (by omega)
    simp at hb
    subst hb
    rw [hh] at hr
    cases hr
    cases hn
theorem keeps_below {w w' : World} (h : Below w.heap.size w w') : KeepsOthers w w' := ⟨h.size, fun k _ hk _ => (h.block k (heap_lt hk)).trans hk⟩
theorem keeps_own {w w' : World} {B : Nat} {A : Option Addr} {n c : Nat} {e : TypeId} {size : Nat} {xs : List Value} (h : Own w B e size A n c xs) (hg : w.grownBy w' (blk A c)) : KeepsOthers w w' :=
  ⟨hg.size, fun k _ hk ho => (hg.block k (heap_lt hk) (fun e => own_ne h e.symm hk ho rfl)).trans hk⟩
/-- what a round has done so far: M: where the rows of the call's own begin; b1, b2: the iterator's blocks -/
structure RT (w0 : World) (M b1 b2 : Nat) (W W' : World) : Prop where
  ko : KeepsOthers W W'
  k1 : W'.heap[b1]? = W.heap[b1]?
  k2 : W'.heap[b2]? = W.heap[b2]?
  bl : Below w0.heap.size w0 W'
  sz : M ≤ W'.heap.size
section
variable {w0 : World} {M b1 b2 : Nat} {W W1 W2 : World}
theorem RT.refl (hb : Below w0.heap.size w0 W) (hs : M ≤ W.heap.size) : RT w0 M b1 b2 W W := ⟨KeepsOthers.refl _, rfl, rfl, hb, hs⟩
theorem RT.below (h : RT w0 M b1 b2 W W1) (h1 : b1 < M) (h2 : b2 < M) (hb : Below W1.heap.size W1 W2) : RT w0 M b1 b2 W W2 :=
  ⟨h.ko.trans (keeps_below hb), (hb.block b1 (by have := h.sz; omega)).trans h.k1, (hb.block b2 (by have := h.sz; omega)).trans h.k2, h.bl.trans (hb.mono h.bl.size), Nat.le_trans h.sz hb.size⟩
theorem RT.own (h : RT w0 M b1 b2 W W1) (h1 : b1 < M) (h2 : b2 < M) (hM : w0.heap.size ≤ M) {A : Option Addr} {n c : Nat} {e : TypeId} {size : Nat} {xs : List Value} (ho : Own W1 M e size A n c xs) (hg : W1.grownBy W2 (blk A c)) : RT w0 M b1 b2 W W2 :=
  ⟨h.ko.trans (keeps_own ho hg), (hg.block b1 (by have := h.sz; omega) (fun q => by have := (Own.lt ho b1 q.symm).1; omega)).trans h.k1, (hg.block b2 (by have := h.sz; omega) (fun q => by have := (Own.lt ho b2 q.symm).1; omega)).trans h.k2,
    h.bl.grown hg h.bl.size (fun b hb => Nat.le_trans hM (Own.lt ho b hb).1), Nat.le_trans h.sz hg.size⟩
theorem RT.set (h : RT w0 M b1 b2 W W1) {b : Nat} (hb : w0.heap.size ≤ b) (n1 : b1 ≠ b) (n2 : b2 ≠ b) (v : Value) : RT w0 M b1 b2 W (W1.setCell ⟨b, 0, none⟩ v) :=
  ⟨h.ko.trans (KeepsOthers.setCell _ _ _), (Below.heap_setCell _ _ _ _ n1).trans h.k1, (Below.heap_setCell _ _ _ _ n2).trans h.k2, h.bl.setCell (p := ⟨b, 0, none⟩) hb _, Nat.le_trans h.sz (h.ko.size |> fun _ => (KeepsOthers.setCell W1 ⟨b, 0, none⟩ v).size)⟩
theorem RT.drew (h : RT w0 M b1 b2 W W1) : RT w0 M b1 b2 W W1.drew := ⟨⟨h.ko.size, h.ko.same⟩, h.k1, h.k2, h.bl.drew, h.sz⟩
end
/-- append of bytes to bytes of the call's own, inside a fence -/
theorem wpListIn_appB {F : Fence} {nf : Nat} (w : World) {ops : Array Oper} {rest : List Oper} {o : Oper} {a : Act} {Q : Exit → Act → World → Prop} (hgd : o.guard = none) (s x : Operand)
    (ho : o.op = .call { callee := .builtin .append, args := #[s, x], argTypes := #[29, 29] })
    (B : Nat) (A : Option Addr) (n c : Nat) (l : List UInt8) (hsv : a.eval s = .slice A n c) (hown : OwnB w B A n c l)
    (A2 : Option Addr) (m c2 : Nat) (l2 : List UInt8) (hx : a.eval x = .slice A2 m c2) (hs : Sl w 1 A2 m c2 (bc l2))
    (hbytes : n + m ≤ 140737488355328) (hB : B ≤ w.heap.size)
    (h : ∀ A' c' w', OwnB w' B A' (n + m) c' (l ++ l2) → w.grownBy w' (blk A c) → (blk A' c' = blk A c ∨ blk A' c' = some w.heap.size) → wpListIn F nf Tryz.prog ops Q rest (a.put o.dst (.slice A' (n + m) c')) w') :
    wpListIn F nf Tryz.prog ops Q (o :: rest) a w := by
  obtain ⟨i, hi, hz, hs1, hb1⟩ := info_parts infoB
  refine wpListIn_plain hgd fun K hK' => ?_
  obtain ⟨A', c', w', hrun, h2, h3, h4⟩ := run_append_own2 (P := Tryz.prog) w B 29 o.type _ i _ 1 1 Tryz.underlying29 hi hz hs1 hb1 rfl A n c (bc l) hown A2 m c2 (bc l2) hs (bc_one _) (by unfold maxLen; omega) (by omega) hB
  unfold Oper.wpIn
  refine ⟨?_, ?_⟩
  · simp [Oper.about, ho, resolve, Target.leads, Sem.run_pure]
  · rw [Oper.semAt_plain F _ _ (by rw [ho]; intro c hc'; cases hc')]
    simp only [execOp, ho, resolve, invoke, builtin, Sem.run_bind, Sem.run_pure, Result.andThen_ok, List.map_toArray, List.map_cons, List.map_nil, hsv, hx, hrun]
    exact hK' _ _ (h A' c' w' (by unfold OwnB; rw [bc_append]; exact h2) h3 h4)
/-- what is known behind the chunks 'pre' -/
def ChI (w0 : World) (M B7 B8 : Nat) (ls : List EntL) {K : Nat} (pre : List (Fin K)) (W : World) : Prop :=
  (∃ (A2 : Option Addr) (n2 c2 : Nat) (A3 : Option Addr) (n3 c3 : Nat), Bx1 W B7 (.slice A2 n2 c2) ∧ Bx1 W B8 (.slice A3 n3 c3) ∧ OwnB W M A2 n2 c2 (pre.flatMap fun x => sealedL ls x.val) ∧ OwnB W M A3 n3 c3 (pre.flatMap fun x => lineL ls x.val) ∧
    ∀ b, blk A2 c2 = some b → blk A3 c3 ≠ some b) ∧ Below w0.heap.size w0 W ∧ M ≤ W.heap.size
theorem chI_from (w0 : World) (M B7 B8 : Nat) (ls : List EntL) {K : Nat} (h7 : B7 < M) (h8 : B8 < M) (hM : w0.heap.size ≤ M) : OwnFrom M (ChI w0 M B7 B8 ls (K := K)) := fun s W W' row hs hg hr => by
  obtain ⟨⟨A2, n2, c2, A3, n3, c3, x7, x8, o2, o3, hap⟩, hb, hz⟩ := hs
  have hc : ∀ {b}, b < M → row ≠ some b := fun hlt e => by have := (hr _ e).1; omega
  refine ⟨⟨A2, n2, c2, A3, n3, c3, x7.grown hg (hc h7), x8.grown hg (hc h8), Own.grown o2 hg (fun b q e => ?_), Own.grown o3 hg (fun b q e => ?_), hap⟩, hb.grown hg hb.size (fun b e => Nat.le_trans hM (hr b e).1), Nat.le_trans hz hg.size⟩
  · obtain ⟨_, o, h1, h2⟩ := hr b e
    exact own_ne o2 q h1 h2 rfl
  · obtain ⟨_, o, h1, h2⟩ := hr b e
    exact own_ne o3 q h1 h2 rfl
theorem pre_len {l : List EntL} (h1 : ∀ e ∈ l, checkKey e.key = 0 ∧ e.value.length ≤ 512) {K : Nat} (pre : List (Fin K)) : (pre.flatMap fun x => sealedL l x.val).length ≤ 5000 * pre.length :=
  flat_len (fun x : Fin K => sealedL l x.val) 5000 pre fun i _ => sealed_len l h1 i.val
theorem line_len {l : List EntL} (h1 : ∀ e ∈ l, checkKey e.key = 0 ∧ e.value.length ≤ 512) (i : Nat) (hi : i < leafCount l) : (lineL l i).length ≤ 90 := by
  obtain ⟨e, he, hk⟩ := lastKey_mem (l := l) (i := i) hi
  have h2 := checkKey_bounds (h1 e he).1
  rw [hk] at h2
  have h3 := num_len (sealedL l i).length
  have h4 := num_len (lastKey (chunkL l i)).user.length
  unfold lineL keyBytesL textL
  simp only [List.length_append, le8_len]
  omega
theorem pre_line {l : List EntL} (h1 : ∀ e ∈ l, checkKey e.key = 0 ∧ e.value.length ≤ 512) {K : Nat} (hK : K ≤ leafCount l) (pre : List (Fin K)) : (pre.flatMap fun x => lineL l x.val).length ≤ 90 * pre.length :=
  flat_len (fun x : Fin K => lineL l x.val) 90 pre fun i _ => line_len h1 i.val (by omega)
theorem comeC_flat {K : Nat} (f : Nat → List UInt8) (k : Nat) (h : k ≤ K) : ((comeC K k h).flatMap fun x => f x.val) = (List.range k).flatMap f := by
  induction k with
  | zero => simp [comeC]
  | succ k ih =>
    rw [comeC_succ, List.flatMap_append, ih, List.range_succ, List.flatMap_append]
    simp
end Go.Proofs.YtpffieogkfndaaaGreatDoor
