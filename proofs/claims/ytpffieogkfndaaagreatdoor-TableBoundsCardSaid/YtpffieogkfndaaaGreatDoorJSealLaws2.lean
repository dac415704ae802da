/-
  FrameT, TabPageW, TabEntriesW, Bridge, SealLaws2 in one text. No condition but sizes.
-/
import Derived.Test.YtpffieogkfndaaaGreatDoorJLeafNums
import Derived.Test.YtpffieogkfndaaaGreatDoorJTabPagesW
import Derived.Test.YtpffieogkfndaaaGreatDoorLeafRead
import Derived.Test.YtpffieogkfndaaaGreatDoorJBloomPlain
import Derived.Test.YtpffieogkfndaaaGreatDoorEntFew
import Derived.Test.YtpffieogkfndaaaGreatDoorJHeldF
import Derived.Test.YtpffieogkfndaaaGreatDoorJBatchReadW
import Derived.Test.YtpffieogkfndaaaGreatDoorJSealLaws1
namespace Go.Proofs.YtpffieogkfndaaaGreatDoor
set_option maxRecDepth 20000
set_option linter.unusedVariables false
set_option linter.unusedSimpArgs false
theorem opensSpan : Opens Tryz.prog 72 SpanL :=
  opens_span (tb := 29) (u64 := 46) (u8 := 5) Tryz.underlying72 (by kernel_rfl) ⟨by kernel_rfl, by kernel_rfl, by kernel_rfl, by kernel_rfl⟩ Tryz.underlying29 Tryz.underlying46 Tryz.underlying5
theorem cellsSpan : Tryz.prog.cellsOf 72 = Rep.size SpanL := by kernel_rfl
end Go.Proofs.YtpffieogkfndaaaGreatDoor

namespace Go.Proofs.YtpffieogkfndaaaGreatDoor
open Go.RowKit
set_option maxRecDepth 20000
set_option linter.unusedVariables false
set_option linter.unusedSimpArgs false
def PgP (gs g lo hi : Nat) (A : Option Addr) (n c : Nat) (w : World) : Prop := w.cell? ⟨gs, 3, none⟩ = some (.int .i64 (lo : Int)) ∧ w.cell? ⟨gs, 4, none⟩ = some (.int .i64 (hi : Int)) ∧ w.cell? ⟨g, 0, none⟩ = some (.slice A n c)
theorem PgP.below {gs g lo hi : Nat} {A : Option Addr} {n c : Nat} {w w' : World} (h : PgP gs g lo hi A n c w) (hb : Below w.heap.size w w') : PgP gs g lo hi A n c w' := ⟨stays hb h.1, stays hb h.2.1, stays hb h.2.2⟩
def GotLeaf (w : World) (r : Option (List EntL)) (e : Ending) (w' : World) : Prop :=
  ∃ A n c, e = .returned (.tuple #[.slice A n c, .bool r.isSome]) ∧ SlR w' (fun b => w.heap.size ≤ b) A n c (r.getD []) ∧ Below w.heap.size w w'
theorem open_len (p : List UInt8) : (openL p).1.length ≤ p.length := by
  unfold openL
  repeat' split
  all_goals simp
theorem open_bad {p o : List UInt8} {e : Nat} (h : openL p = (o, e)) (he : e ≠ 0) : o = [] := by
  unfold openL at h
  repeat' split at h
  all_goals simp at h
  all_goals simp_all
theorem readLeaf_nil : readLeafL [] = none := by
  cases h : readLeafL [] with
  | none => rfl
  | some l =>
    obtain ⟨_, h2⟩ := (readLeaf_iff [] l).1 h
    have := congrArg List.length h2
    unfold leafBytesL twoL at this
    simp at this
set_option maxHeartbeats 16000000 in
theorem tpage_any (w : World) (g : Nat) (A : Option Addr) (n c : Nat) (p : List UInt8) (hg : w.cell? ⟨g, 0, none⟩ = some (.slice A n c)) (h : Sl w 1 A n c (bc p)) (hn : n ≤ 65536) (hq : Quarter w) (x : PageL) (A3 : Option Addr) (n3 c3 ks kd lo hi : Nat) (hlo : x.lo = lo) (hhi : x.hi = hi) (hle : lo ≤ hi) (hbig : hi ≤ 1000000000000000) :
    Calls Tryz.prog 107 #[.pointer (some ⟨g, 0, none⟩), .agg #[.slice A3 n3 c3, .int .u64 (ks : Int), .int .u8 (kd : Int), .int .i64 (lo : Int), .int .i64 (hi : Int)]] w (GotLeaf w (leafAtL p x)) := by
  have hl := h.lenb
  have al := (Below.refl w.heap.size w).alloc (Nat.le_refl _) (.cells #[.slice A3 n3 c3, .int .u64 (ks : Int), .int .u8 (kd : Int), .int .i64 (lo : Int), .int .i64 (hi : Int)] 142)
  have hz := World.block_lt_of_cell? _ _ hg
  have hbx := boxed (Below.refl _ _) (box1 w (.cells #[.slice A3 n3 c3, .int .u64 (ks : Int), .int .u8 (kd : Int), .int .i64 (lo : Int), .int .i64 (hi : Int)] 142))
  have hX : PgP w.heap.size g lo hi A n c (w.alloc (.cells #[.slice A3 n3 c3, .int .u64 (ks : Int), .int .u8 (kd : Int), .int .i64 (lo : Int), .int .i64 (hi : Int)] 142)) := ⟨hbx.1 3 _ rfl, hbx.1 4 _ rfl, stays al hg⟩
  have h := h.below (by omega) al
  have hq := hq.below al
  obtain ⟨rr, hrr⟩ : ∃ r, leafAtL p x = r := ⟨_, rfl⟩
  rw [hrr]
  unfold leafAtL at hrr
  rw [hl, hlo, hhi] at hrr
  unfold GotLeaf
  have Hrr := Lib.hid hrr
  clear hrr hg hbx hz
  go_enter Tryz.func107, Tryz.ntmps107
  go_wp2_with fail
  generalize hW0 : (w.alloc (.cells #[.slice A3 n3 c3, .int .u64 (ks : Int), .int .u8 (kd : Int), .int .i64 (lo : Int), .int .i64 (hi : Int)] 142)) = w1 at *
  have hX := hX.below (Below.refl w1.heap.size w1).drew
  have h := h.drew
  have hq := hq.below (Below.refl w1.heap.size w1).drew
  have hbr := al.drew
  clear al hW0
  generalize hW : w1.drew = wz at *
  refine regionF (fun _ wa wb => PgP w.heap.size g lo hi A n c wa → PgP w.heap.size g lo hi A n c wb) (by kernel_rfl) ?_
  rw [hW]
  clear hW
  refine takeT (i := 0) (v := ?_) rfl ?hy ?_
  case hy => intro wS; go_simp; try with_reducible rfl
  refine takeP (i := 1) (v := ?_) rfl hX ?hy ?_
  case hy =>
    intro wS hSw
    obtain ⟨x3, x4, x5⟩ := id hSw
    clear hSw
    go_simp
    try with_reducible rfl
  refine takeT (i := 2) (v := ?_) rfl ?hy ?_
  case hy => intro wS; go_simp; try with_reducible rfl
  refine takeT (i := 3) (v := ?_) rfl ?hy ?_
  case hy => intro wS; go_simp; try with_reducible rfl
  refine takeT (i := 4) (v := ?_) rfl ?hy ?_
  case hy => intro wS; go_simp; try with_reducible rfl
  refine takeP (i := 5) (v := ?_) rfl hX ?hy ?_
  case hy =>
    intro wS hSw
    obtain ⟨x3, x4, x5⟩ := id hSw
    clear hSw
    go_simp
    try with_reducible rfl
  refine takeT (i := 6) (v := ?_) rfl ?hy ?_
  case hy => intro wS; go_simp; try with_reducible rfl
  refine takeT (i := 7) (v := ?_) rfl ?hy ?_
  case hy => intro wS; go_simp; try with_reducible rfl
  try simp only [List.getElem_toArray, List.getElem_cons_succ, List.getElem_cons_zero, Act.put, List.setIfInBounds_toArray, List.set_cons_zero, List.set_cons_succ]
  refine doneF (by kernel_rfl) ?_ _
  try simp only [List.getElem_toArray, List.getElem_cons_succ, List.getElem_cons_zero, Act.put, List.setIfInBounds_toArray, List.set_cons_zero, List.set_cons_succ]
  by_cases hh : n < hi
  case pos =>
    have d1 : decide ((n : Int) < (hi : Int)) = true := decide_eq_true (by omega)
    have p1 : (n : Int) < (hi : Int) := by omega
    have er := Hrr.out
    rw [if_pos hh] at er
    subst er
    clear Hrr
    go_wp2
    go_ret2
    exact ⟨none, 0, 0, rfl, SlR.nilnil _ _, hbr⟩
  have d1 : decide ((n : Int) < (hi : Int)) = false := decide_eq_false (by omega)
  have p1 : ¬ (n : Int) < (hi : Int) := by omega
  have er := Hrr.out
  rw [if_neg hh] at er
  obtain ⟨AQ, r1, sq, -⟩ := cutLH h .i64 .i64 (lo : Int) (hi : Int) lo hi rfl rfl (by omega) (by omega)
  have sq := sq.drew
  have hq := hq.below (Below.refl wz.heap.size wz).drew
  have hX := hX.below (Below.refl wz.heap.size wz).drew
  have hbr := hbr.drew
  generalize (p.drop lo).take (hi - lo) = pc at *
  have hol := open_len pc
  have ko := fun (w' : World) (h : Sl w' 1 AQ (hi - lo) (c - lo) (bc pc)) (hq : Quarter w') => open_any w' AQ (hi - lo) (c - lo) pc h hq (by omega)
  unfold NewB2 at ko
  have hrl : readLeafL [] = none := readLeaf_nil
  have hpc : pc.length ≤ 65536 := by have := sq.lenb; omega
  generalize hop : openL pc = O at *
  obtain ⟨oo, oe⟩ := O
  simp only at *
  have Ko := Lib.hid ko
  have HR := Lib.hid er
  have Hnil := Lib.hid hrl
  have Hzero : Hid (oe ≠ 0 → oo = []) := Lib.hid (fun q => open_bad hop q)
  clear er Hrr hrl hop h ko
  go_wp2_with fail
  generalize hW : wz.drew = wy at *
  refine regionF (fun _ wa wb => PgP w.heap.size g lo hi A n c wa → PgP w.heap.size g lo hi A n c wb) (by kernel_rfl) ?_
  rw [hW]
  clear hW
  refine takeT (i := 0) (v := ?_) rfl ?hy ?_
  case hy => intro wS; go_simp; try with_reducible rfl
  refine takeT (i := 1) (v := ?_) rfl ?hy ?_
  case hy => intro wS; go_simp; try with_reducible rfl
  refine takeT (i := 2) (v := ?_) rfl ?hy ?_
  case hy => intro wS; go_simp; try with_reducible rfl
  refine takeP (i := 3) (v := ?_) rfl hX ?hy ?_
  case hy =>
    intro wS hSw
    obtain ⟨x3, x4, x5⟩ := id hSw
    clear hSw
    go_simp
    try with_reducible rfl
  refine takeT (i := 4) (v := ?_) rfl ?hy ?_
  case hy => intro wS; go_simp; try with_reducible rfl
  refine takeP (i := 5) (v := ?_) rfl hX ?hy ?_
  case hy =>
    intro wS hSw
    obtain ⟨x3, x4, x5⟩ := id hSw
    clear hSw
    go_simp
    try with_reducible rfl
  refine takeT (i := 6) (v := ?_) rfl ?hy ?_
  case hy => intro wS; go_simp; try with_reducible rfl
  refine takeP (i := 7) (v := ?_) rfl hX ?hy ?_
  case hy =>
    intro wS hSw
    obtain ⟨x3, x4, x5⟩ := id hSw
    clear hSw
    go_simp
    try with_reducible rfl
  refine takeT (i := 8) (v := ?_) rfl ?hy ?_
  case hy => intro wS; go_simp; try with_reducible rfl
  try simp only [List.getElem_toArray, List.getElem_cons_succ, List.getElem_cons_zero, Act.put, List.setIfInBounds_toArray, List.set_cons_zero, List.set_cons_succ]
  refine readyF (rs := [9]) (by kernel_rfl) (by simp) ?_
  refine AllF.cons rfl (fun K hK => ?_) AllF.nil
  go_simp
  refine (Ko.out wy sq hq).mono ?_
  rintro e wy_9 ⟨A6, n6, c6, rfl, ho6, hb⟩
  refine hK _ _ (fun h => h.below hb) ?_
  clear hK K
  have hX := hX.below hb
  have hbr := hbr.trans (hb.mono hbr.size)
  have hn6 := OwnB.len' ho6
  have s6 := OwnB.sl ho6
  clear hb ho6 sq hq
  refine takeT (i := 10) (v := ?_) rfl ?hy ?_
  case hy => intro wS; go_simp; try with_reducible rfl
  refine takeT (i := 11) (v := ?_) rfl ?hy ?_
  case hy => intro wS; go_simp; try with_reducible rfl
  refine takeT (i := 12) (v := ?_) rfl ?hy ?_
  case hy => intro wS; go_simp; try with_reducible rfl
  refine takeT (i := 13) (v := ?_) rfl ?hy ?_
  case hy => intro wS; go_simp; try with_reducible rfl
  refine takeT (i := 14) (v := ?_) rfl ?hy ?_
  case hy => intro wS; go_simp; try with_reducible rfl
  try simp only [List.getElem_toArray, List.getElem_cons_succ, List.getElem_cons_zero, Act.put, List.setIfInBounds_toArray, List.set_cons_zero, List.set_cons_succ]
  refine doneF (by kernel_rfl) ?_ _
  try simp only [List.getElem_toArray, List.getElem_cons_succ, List.getElem_cons_zero, Act.put, List.setIfInBounds_toArray, List.set_cons_zero, List.set_cons_succ]
  have hn6l : n6 ≤ 65536 := by omega
  have k4 := fun w' (hb : Below wy_9.heap.size wy_9 w') => lread_any w' A6 n6 c6 oo (s6.below (by omega) hb) hn6l
  have k4 := k4 _ (Below.refl _ _)
  unfold GotEnts at k4
  by_cases ho : oe = 0
  case neg =>
    have eo := Hzero.out ho
    subst eo
    rw [Hnil.out] at k4
    have er := HR.out
    rw [if_pos ho] at er
    subst er
    have t1 : ((oe : Int) == 0) = false := by simp; omega
    have K4 := Lib.hid k4
    clear k4 HR Hnil Hzero
    go_wp2_with fail
    refine K4.out.mono ?_
    rintro e w9 ⟨A7, n7, c7, rfl, s7, hb9⟩
    have hbs := hbr.size
    have s7 := s7.mono (q := fun b => w.heap.size ≤ b) fun b _ hb => by omega
    have S7 := Lib.hid s7
    have hbr := hbr.trans (hb9.mono hbr.size)
    clear s7 hb9
    go_wp2
    go_ret2
    exact ⟨A7, n7, c7, rfl, S7.out, hbr⟩
  subst ho
  have er := HR.out
  rw [if_neg (by omega)] at er
  obtain ⟨rl, hrl⟩ : ∃ rl, readLeafL oo = rl := ⟨_, rfl⟩
  rw [hrl] at k4 er
  subst er
  have K4 := Lib.hid k4
  clear k4 HR Hnil Hzero hrl
  go_wp2_with fail
  refine K4.out.mono ?_
  rintro e w9 ⟨A7, n7, c7, rfl, s7, hb9⟩
  have hbs := hbr.size
  have s7 := s7.mono (q := fun b => w.heap.size ≤ b) fun b _ hb => by omega
  have S7 := Lib.hid s7
  have hbr := hbr.trans (hb9.mono hbr.size)
  clear s7 hb9 K4
  cases rl
  all_goals
    simp only [Option.isSome] at *
    go_wp2
    go_ret2
    exact ⟨A7, n7, c7, rfl, S7.out, hbr⟩
end Go.Proofs.YtpffieogkfndaaaGreatDoor

namespace Go.Proofs.YtpffieogkfndaaaGreatDoor
open Go.RowKit
set_option maxRecDepth 20000
set_option linter.unusedVariables false
set_option linter.unusedSimpArgs false
theorem entries_step {p : List UInt8} {ps : List PageL} {j : Nat} (hj : j < ps.length) : entriesL p (ps.drop j) = match leafAtL p ps[j] with
    | none => none
    | some l => (entriesL p (ps.drop (j + 1))).map (l ++ ·) := by
  rw [List.drop_eq_getElem_cons hj]
  rfl
theorem leafAt_len {p : List UInt8} {x : PageL} {l : List EntL} (h : leafAtL p x = some l) : l.length ≤ 64 := by
  unfold leafAtL at h
  repeat' split at h
  · cases h
  · cases h
  · exact (checkLeaf_zero ((readLeaf_iff _ _).1 h).1).1
set_option maxHeartbeats 16000000 in
theorem tentries_any (w : World) (g : Nat) (A : Option Addr) (n c : Nat) (p : List UInt8) (hg : w.cell? ⟨g, 0, none⟩ = some (.slice A n c)) (h : Sl w 1 A n c (bc p)) (hn : n ≤ 65536) (hq : Quarter w)
    (pp : Nat → Prop) (Ap : Option Addr) (np cp : Nat) (ps : List PageL) (hg1 : w.cell? ⟨g, 1, none⟩ = some (.slice Ap np cp)) (hp : SlR w pp Ap np cp ps) (hps : ∀ x ∈ ps, x.lo ≤ x.hi ∧ x.hi ≤ 1000000000000000) (hnp : np ≤ 1000000) :
    Calls Tryz.prog 67 #[.pointer (some ⟨g, 0, none⟩)] w (GotLeaf w (entriesL p ps)) := by
  have hlp := hp.lenR
  have hcp := hp.cap
  unfold maxLen at hcp
  obtain ⟨r, hr⟩ : ∃ r, entriesL p ps = r := ⟨_, rfl⟩
  rw [hr]
  have hr0 : (entriesL p (ps.drop 0)).map (([] : List EntL) ++ ·) = r := by rw [← hr, List.drop_zero]; cases entriesL p ps <;> simp
  have Hr := Lib.hid hr0
  have Hlp := Lib.hid hlp
  have Hps := Lib.hid hps
  clear hr hr0 hlp hps
  unfold GotLeaf
  go_enter Tryz.func67, Tryz.ntmps67
  go_wp2
  go_loopw [4, 14] (fun ov iv wr => ∃ (j : Nat) (out : List EntL) (A2 : Option Addr) (n2 c2 : Nat), iv = .int .i64 (j : Int) ∧ ov = .slice A2 n2 c2 ∧ j ≤ np ∧ Below w.heap.size w wr ∧ OwnZ wr w.heap.size 69 A2 n2 c2 out ∧ Hid ((entriesL p (ps.drop j)).map (out ++ ·) = r) ∧ n2 ≤ 64 * j) (fun _ iv _ => np - (intOf iv).toNat)
  case atStart => exact ⟨0, [], none, 0, 0, rfl, rfl, Nat.zero_le _, Below.refl _ _, OwnZ.nil _ _ _ _, Hr.out, Nat.zero_le _⟩
  case round =>
    obtain ⟨j, out, A2, n2, c2, rfl, rfl, hj, hbr, ho2, HP, hn2⟩ := hrel
    by_cases hlt : j < np
    case neg =>
      obtain rfl : np = j := by omega
      have er : r = some out := by
        rw [← HP.out, List.drop_of_length_le (by have := Hlp.out; omega)]
        simp [entriesL]
      subst er
      have HS := Lib.hid ho2.slB
      clear HP ho2 h
      go_wp2
      go_ret2
      exact ⟨A2, n2, c2, rfl, HS.out, hbr⟩
    obtain ⟨b, o, x, cs, rfl, hx, ⟨v, rfl, hk⟩, hcell⟩ := (hp.below hbr).get hlt
    obtain ⟨A3, n3, c3, rfl, hs3, _⟩ := hk
    obtain ⟨hjl, rfl⟩ := List.getElem?_eq_some_iff.1 hx
    have d0 : wr.cell? ⟨b, o + j * 5, none⟩ = some (.slice A3 n3 c3) := hcell 0 _ rfl
    have d1 : wr.cell? ⟨b, o + j * 5 + 1, none⟩ = some (.int .u64 (ps[j].last.seq.toNat : Int)) := hcell 1 _ rfl
    have d2 : wr.cell? ⟨b, o + j * 5 + 2, none⟩ = some (.int .u8 (ps[j].last.kind.toNat : Int)) := hcell 2 _ rfl
    have d3 : wr.cell? ⟨b, o + j * 5 + 3, none⟩ = some (.int .i64 (ps[j].lo : Int)) := hcell 3 _ rfl
    have d4 : wr.cell? ⟨b, o + j * 5 + 4, none⟩ = some (.int .i64 (ps[j].hi : Int)) := hcell 4 _ rfl
    obtain ⟨q1, q2⟩ := Hps.out ps[j] (List.getElem_mem hjl)
    have hst := entries_step (p := p) hjl
    have hle := fun l => leafAt_len (p := p) (x := ps[j]) (l := l)
    have al := (Below.refl wr.heap.size wr).alloc (Nat.le_refl _) (.cells #[.slice A3 n3 c3, .int .u64 (ps[j].last.seq.toNat : Int), .int .u8 (ps[j].last.kind.toNat : Int), .int .i64 (ps[j].lo : Int), .int .i64 (ps[j].hi : Int)] 142)
    have hbx := boxed (Below.refl _ _) (box1 wr (.cells #[.slice A3 n3 c3, .int .u64 (ps[j].last.seq.toNat : Int), .int .u8 (ps[j].last.kind.toNat : Int), .int .i64 (ps[j].lo : Int), .int .i64 (ps[j].hi : Int)] 142))
    have hba := hbr.trans (al.mono hbr.size)
    have ck := tpage_any _ g A n c p (stays (hba.mono (Nat.le_refl _)) hg) (h.below (by omega) hba) hn (hq.below hba) ps[j] A3 n3 c3 ps[j].last.seq.toNat ps[j].last.kind.toNat ps[j].lo ps[j].hi rfl rfl q1 q2
    have x0 := hbx.1 0 _ rfl
    have x1 := hbx.1 1 _ rfl
    have x2 := hbx.1 2 _ rfl
    have x3 := hbx.1 3 _ rfl
    have x4 := hbx.1 4 _ rfl
    unfold GotLeaf at ck
    rw [hst] at HP
    generalize leafAtL p ps[j] = lf at *
    generalize ps[j].last.seq.toNat = ks at *
    generalize ps[j].last.kind.toNat = kd at *
    generalize ps[j].lo = lo at *
    generalize ps[j].hi = hi at *
    have ho2 := ho2.below al
    generalize hW : (wr.alloc (.cells #[.slice A3 n3 c3, .int .u64 (ks : Int), .int .u8 (kd : Int), .int .i64 (lo : Int), .int .i64 (hi : Int)] 142)) = w1 at *
    have Ck := Lib.hid ck
    have Hle := Lib.hid hle
    clear ck hst hle al hbx hx hcell hs3
    go_wp2_with fail
    try rw [hW]
    refine Ck.out.mono ?_
    rintro e w3 ⟨A7, n7, c7, rfl, s7, hb3⟩
    have hlt2 : ∀ b, blk A2 c2 = some b → b < w1.heap.size := fun b q => (ho2.lt b q).2
    have hbs := hba.size
    have ho2 := ho2.below hb3
    have hbr := hba.trans (hb3.mono hba.size)
    clear Ck hb3 d0 d1 d2 d3 d4 hW x0 x1 x2 x3 x4 hba
    cases lf
    case none =>
      have er : r = none := by
        have := HP.out
        simpa using this.symm
      subst er
      simp only [Option.isSome] at *
      clear HP Hle
      go_wp2
      go_ret2
      exact ⟨none, 0, 0, rfl, SlR.nilnil _ _, hbr⟩
    case some l =>
      have hl64 := Hle.out l rfl
      have hnew : (entriesL p (ps.drop (j + 1))).map ((out ++ l) ++ ·) = r := by
        rw [← HP.out]
        simp only [Option.map_map]
        congr 1
        funext z
        simp
      have hl7 := s7.lenR
      have hrow : ∃ xs, Sl w3 4 A7 n7 c7 xs ∧ RowC w3 (fun b => blk A2 c2 ≠ some b ∧ w.heap.size ≤ b) xs l := by
        obtain ⟨xs, hs, hr, _⟩ := s7
        exact ⟨xs, hs, hr.move fun b _ hb => ⟨rfl, fun q => by have := hlt2 b q; omega, by omega⟩⟩
      have hn7 : n7 ≤ 64 := by rw [← hl7]; exact hl64
      have Hnew := Lib.hid hnew
      simp only [Option.isSome] at *
      clear HP Hle hnew hl7 s7 hl64
      go_wp2_with (at_builtin; refine wpList_appZ _ rfl (.tmp 26) (.tmp 27) 22 rfl w.heap.size 69 _ 64 Tryz.underlying22 infoEnt rfl A2 n2 c2 _ rfl ho2 A7 n7 c7 l rfl hrow ?_ ?_ ?_ ?_)
      · unfold maxLen; omega
      · omega
      · exact hbr.size
      intro A9 c9 w9 ho9 hg9 _
      have hbr9 := hbr.grown hg9 hbr.size (fun b hb => (ho2.lt b hb).1)
      clear hrow ho2 hg9
      go_wp2
      go_roundw
      case rel => exact ⟨j + 1, _, A9, _, c9, by go_num, rfl, by omega, hbr9, ho9, Hnew, by omega⟩
      case measure => simp [intOf]; omega
end Go.Proofs.YtpffieogkfndaaaGreatDoor

namespace Go.Proofs.YtpffieogkfndaaaGreatDoor
open Go.RowKit
set_option maxRecDepth 20000
set_option linter.unusedVariables false
set_option linter.unusedSimpArgs false
section
variable {P : Program} {ops : Array Oper} {Q : Exit → Act → World → Prop} {md : Region.Mode} {l n : Nat}
theorem oper_bridge {o : Oper} {a : Act} {w : World} {K : Act → World → Prop} (hd : ∀ c, o.op ≠ .defer c) (h : o.wp P a w K Q) : o.wpIn (Fence.wide.inRound l) n P a w K Q := by
  unfold Oper.wpIn
  refine ⟨fun _ _ => trivial, ?_⟩
  rw [show (Fence.wide.inRound l).round = some l from rfl, Oper.semAt_some l _ _ hd]
  unfold Oper.wp at h
  generalize (execOp a.eval o).run P w = r at *
  cases r with
  | ok x w' =>
    cases x
    case enter f args => exact ⟨(fun q => by cases q), CallsIn.inRound l (callsIn_wide.2 h)⟩
    case row r args => exact ⟨(fun q => by cases q), fun c cs _ => let ⟨v, w', r, s⟩ := h c cs; ⟨v, w', r, stepsIn_wide.2 s⟩⟩
    case round => exact h.elim
    all_goals exact h
  | halt x w' => cases x <;> exact h
theorem any_bridge {S : Nat → World → World → Prop} (hd : ∀ (i : Nat) (o : Oper) c, ops[i]? = some o → o.op ≠ .defer c) (hout : ¬ LetsOut Q) :
    ∀ (fuel : Nat) (listed : Array Bool) (a : Act) (w : World), AnyF P md ops Q S fuel listed a w → wpAnyIn (Fence.wide.inRound l) n P md ops Q fuel listed a w
  | 0, _, _, _, h => h
  | fuel + 1, listed, a, w, h => by
    refine ⟨h.1, fun i hi => ?_⟩
    have h2 := h.2 i hi
    unfold wpOp at h2
    unfold wpOpIn
    split at h2
    · rename_i ho
      rw [ho]
      exact any_bridge hd hout fuel _ _ _ h2.2
    · rename_i o ho
      rw [ho]
      simp only
      split at h2
      · rename_i hw
        rw [if_pos hw]
        rcases h2 with h2 | ⟨_, h2⟩
        · exact oper_bridge (fun c => hd i o c ho) (Oper.wp_mono (fun a' w' q => any_bridge hd hout fuel _ a' w' q.2) h2)
        · exact absurd h2 hout
      · rename_i hw
        rw [if_neg hw]
        exact ⟨fun _ _ => trivial, any_bridge hd hout fuel _ _ _ h2.2⟩
theorem regionF_in {S : Nat → World → World → Prop} {id : Nat} {a : Act} {w : World} (hm : P.follows .mixedOrders = true) (hd : ∀ (i : Nat) (o : Oper) c, ops[i]? = some o → o.op ≠ .defer c) (hout : ¬ LetsOut Q)
    (h : AnyF P .any ops Q S ops.size (Array.replicate ops.size false) a w.drew) : (Code.region id ops true).wpIn (Fence.wide.inRound l) n P Q a w :=
  wpIn_region_any hm (any_bridge hd hout _ _ _ _ h)
end
end Go.Proofs.YtpffieogkfndaaaGreatDoor

namespace Go.Proofs.YtpffieogkfndaaaGreatDoor
set_option maxRecDepth 20000
set_option linter.unusedVariables false
set_option linter.unusedSimpArgs false
open Go.RowKit

theorem unmask_mask2 (x : Nat) (h : x < 4294967296) : unmaskL (maskL x) = x := by
  have h1 : (maskL x + 1568478504) % 4294967296 = x / 32768 + x % 32768 * 131072 := by unfold maskL; omega
  unfold unmaskL
  rw [h1]
  omega
theorem mask_inj {x y : Nat} (hx : x < 4294967296) (hy : y < 4294967296) (h : maskL x = maskL y) : x = y := by
  rw [← unmask_mask2 x hx, h, unmask_mask2 y hy]
theorem le4_inj {x y : Nat} (hx : x < 4294967296) (hy : y < 4294967296) (h : le4 x = le4 y) : x = y := by
  simp only [le4, List.cons.injEq, and_true] at h
  obtain ⟨h1, h2, h3, h4⟩ := h
  have e : ∀ a b : Nat, UInt8.ofNat a = UInt8.ofNat b → a % 256 = b % 256 := fun a b h => by
    have := congrArg UInt8.toNat h
    simpa using this
  have := e _ _ h1
  have := e _ _ h2
  have := e _ _ h3
  have := e _ _ h4
  omega
/-- A SEAL OF WHICH ONE BYTE IS ANOTHER ONE IS NONE -/
theorem open_spoilt (t : List UInt8) (k : Nat) (y : UInt8) (hk : k < (closeL t).length) (hy : y ≠ (closeL t)[k]) : openL ((closeL t).set k y) = ([], 5) := by
  have hN := length_closeL t
  have hne : ¬ closeL (((closeL t).set k y).take (((closeL t).set k y).length - 4)) = (closeL t).set k y := by
    rw [List.length_set, hN, Nat.add_sub_cancel]
    rcases Nat.lt_or_ge k t.length with h | h
    · have e1 : (closeL t).set k y = t.set k y ++ le4 (maskL (sumL t)) := by
        unfold closeL
        rw [List.set_append_left _ _ h]
      rw [e1, List.take_left' (by simp)]
      unfold closeL
      intro e
      have e2 := le4_inj (maskL_lt _) (maskL_lt _) (List.append_cancel_left e)
      have e3 := mask_inj (sumL_lt _) (sumL_lt _) e2
      refine sum_byte t k y h ?_ e3
      have : (closeL t)[k] = t[k] := by
        have h2 : (closeL t)[k]? = t[k]? := by
          unfold closeL
          exact List.getElem?_append_left h
        rw [List.getElem?_eq_getElem hk, List.getElem?_eq_getElem h] at h2
        exact Option.some.inj h2
      rw [← this]
      exact hy
    · have e1 : ((closeL t).set k y).take t.length = t := by
        rw [List.take_set_of_le h]
        unfold closeL
        exact List.take_left
      rw [e1]
      intro e
      have e2 : ((closeL t).set k y)[k]? = some (closeL t)[k] := by rw [← e]; exact List.getElem?_eq_getElem hk
      rw [List.getElem?_set] at e2
      simp [hk] at e2
      exact hy e2
  unfold openL
  rw [if_neg (by rw [List.length_set]; omega), if_neg (by simpa using hne)]

end Go.Proofs.YtpffieogkfndaaaGreatDoor
