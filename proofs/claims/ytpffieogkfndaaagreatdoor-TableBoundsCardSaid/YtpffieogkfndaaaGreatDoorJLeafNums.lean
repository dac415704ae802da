/-
  Frame, FrameR, SpanOne, LeafNums in one text. No condition but sizes.
-/
import Derived.Test.YtpffieogkfndaaaGreatDoorCards
import Derived.Test.YtpffieogkfndaaaGreatDoorTie
import Derived.Test.YtpffieogkfndaaaGreatDoorJSealLaws1
import Derived.Test.YtpffieogkfndaaaGreatDoorJHeldF
import Derived.WalkKit
import Derived.ProofKit
import Derived.OpenShut
import Derived.Deep.DeepHandedRow
import Derived.Deep.DeepWitnessRowRef
import Derived.Lib.LaidTab
import Derived.Test.YtpffieogkfndaaaGreatDoorJBloomPlain
import Derived.Test.YtpffieogkfndaaaGreatDoorSpanCheck
import Derived.Test.YtpffieogkfndaaaGreatDoorLeafBuildR
namespace Go.Proofs.YtpffieogkfndaaaGreatDoor
set_option maxRecDepth 20000
set_option linter.unusedVariables false
set_option linter.unusedSimpArgs false
open Go.ChangeShapes Go.WideShapes Go.ChangeAt Go.RowKit

theorem own : ownKnob Tryz.prog.godebug = none := by kernel_rfl
theorem cellsU8 : Tryz.prog.cellsOf 5 = 1 := by kernel_rfl
theorem laidOut : laidOutB Tryz.prog = true := by kernel_rfl
theorem gTab : Tryz.prog.globalNamed "bartizan/seal.quarter" = some 0 := by kernel_rfl
theorem gTabType : (Tryz.prog.globals[0]?).map (·.type) = some 161 := by kernel_rfl
theorem cellsTab : Tryz.prog.cellsOf 161 = 16 := by kernel_rfl
theorem cellsU32 : Tryz.prog.cellsOf 126 = 1 := by kernel_rfl
/-- the table's numbers, as integers -/
def quarterZ : List Int := quarterL.map fun (n : Nat) => (n : Int)
/-- WHAT THE ROW's LIST GIVES -/
theorem quarter_laid {W : World} {rest : List (String × DataW Unit)} (h : laidMet Tryz.prog (("bartizan/seal.quarter", Rows.laid_bartizan_seal_quarter) :: rest) W) : Quarter W := by
  have ht : Lib.TabIs Tryz.prog W "bartizan/seal.quarter" .u32 quarterZ :=
    Lib.tabIs_of_head (rest := rest) gTab gTabType Tryz.underlying161 Tryz.underlying126 cellsU32 cellsTab h
  intro i hi
  have := ht.cell gTab i (by simpa [quarterZ, quarterL] using hi)
  rw [this]
  congr 2
  rcases Nat.lt_or_ge i 16 with h | h
  · have : ∀ i : Fin 16, quarterZ.getD i.val 0 = ((quarterL.getD i.val 0 : Nat) : Int) := by decide
    exact this ⟨i, h⟩
  · omega
/-- A WORLD FOR THE WITNESS: the table holding what its initialiser lays -/
noncomputable def laidWorld (os : Os) : World :=
  { World.holding Tryz.prog os ⟨#[], #[], []⟩ with heap := (World.holding Tryz.prog os ⟨#[], #[], []⟩).heap.modify 0 fun
      | .cells _ t frozen => .cells (quarterZ.map (Value.int .u32)).toArray t frozen
      | o => o }
end Go.Proofs.YtpffieogkfndaaaGreatDoor

namespace Go.Proofs.YtpffieogkfndaaaGreatDoor
set_option maxRecDepth 20000
set_option linter.unusedVariables false
set_option linter.unusedSimpArgs false
open Go.ChangeShapes Go.WideShapes Go.ChangeAt Go.RowKit

theorem opensEnt : Opens Tryz.prog 69 EntL :=
  opens_ent (tk := 67) (tb := 29) (u64 := 46) (u8 := 5) Tryz.underlying69 (by kernel_rfl) Tryz.underlying67 (by kernel_rfl) ⟨by kernel_rfl, by kernel_rfl, by kernel_rfl, by kernel_rfl, by kernel_rfl⟩ Tryz.underlying29 Tryz.underlying46 Tryz.underlying5
theorem cellsEnt : Tryz.prog.cellsOf 69 = Rep.size EntL := by kernel_rfl
end Go.Proofs.YtpffieogkfndaaaGreatDoor

namespace Go.Proofs.YtpffieogkfndaaaGreatDoor
open Go.RowKit
set_option maxRecDepth 20000
set_option linter.unusedVariables false
set_option linter.unusedSimpArgs false
/-- a span whose bytes are the call's own -/
def GotSpan (w : World) (x : SpanL) (e : Ending) (w' : World) : Prop :=
  ∃ A3 n3 c3 A4 n4 c4, e = .returned (.agg #[.slice A3 n3 c3, .slice A4 n4 c4, .int .u64 (x.seq.toNat : Int)]) ∧ OwnB w' w.heap.size A3 n3 c3 x.lo ∧ OwnB w' w.heap.size A4 n4 c4 x.hi ∧ Below w.heap.size w w'
set_option maxHeartbeats 8000000 in
theorem sone_any (w : World) (A3 : Option Addr) (n3 c3 : Nat) (A4 : Option Addr) (n4 c4 : Nat) (x : SpanL) (hs3 : Sl w 1 A3 n3 c3 (bc x.lo)) (hs4 : Sl w 1 A4 n4 c4 (bc x.hi)) (hn3 : n3 ≤ 1000000) (hn4 : n4 ≤ 1000000) :
    Calls Tryz.prog 108 #[.agg #[.slice A3 n3 c3, .slice A4 n4 c4, .int .u64 (x.seq.toNat : Int)]] w (GotSpan w x) := by
  unfold GotSpan
  generalize x.seq.toNat = d at *
  generalize x.lo = y at *
  generalize x.hi = z at *
  go_enter Tryz.func108, Tryz.ntmps108
  go_wp2_with fail
  have al := (Below.refl w.heap.size w).alloc (Nat.le_refl _) (.cells #[.slice A3 n3 c3, .slice A4 n4 c4, .int .u64 (d : Int)] 72)
  have kB := Bx.fresh w (.slice A3 n3 c3) (.slice A4 n4 c4) (.int .u64 (d : Int)) 72
  have hs3 := hs3.below (by omega) al
  have hs4 := hs4.below (by omega) al
  have e1 : (w.alloc (.cells #[.slice A3 n3 c3, .slice A4 n4 c4, .int .u64 (d : Int)] 72)).heap.size = w.heap.size + 1 := by simp
  generalize (w.alloc (.cells #[.slice A3 n3 c3, .slice A4 n4 c4, .int .u64 (d : Int)] 72)) = w1 at *
  have al1 := (Below.refl w1.heap.size w1).alloc (Nat.le_refl _) (.cells #[.slice none 0 0, .slice none 0 0, .int .u64 0] 72)
  have kC := Bx.fresh w1 (.slice none 0 0) (.slice none 0 0) (.int .u64 0) 72
  rw [e1] at kC
  have kB := kB.below al1
  have hs3 := hs3.below (by omega) al1
  have hs4 := hs4.below (by omega) al1
  have hbr := al.trans (al1.mono al.size)
  generalize (w1.alloc (.cells #[.slice none 0 0, .slice none 0 0, .int .u64 0] 72)) = w2 at *
  clear al al1
  have kB := kB.drew
  have kC := kC.drew
  have hs3 := hs3.drew
  have hs4 := hs4.drew
  have hbr := hbr.drew
  refine regionS 10 (fun w' => Bx w' w.heap.size (.slice A3 n3 c3) (.slice A4 n4 c4) (.int .u64 (d : Int))) (by kernel_rfl) ?_
  try (change AnyS _ _ _ _ _ _ _ _ _ (World.drew _))
  generalize w2.drew = w3 at *
  have hlt3 := kC.lt
  refine takeS (i := 0) (v := ?_) rfl (by kernel_rfl) (by kernel_rfl) (by kernel_rfl) (by kernel_rfl) (by kernel_rfl) (fun _ _ _ h => h) (Or.inl ⟨by kernel_rfl, ?_⟩) kB ?_
  case refine_2 =>
    intro wS hSw
    clear hSw
    go_simp
    try with_reducible rfl
  try simp only [List.getElem_toArray, List.getElem_cons_succ, List.getElem_cons_zero, Act.put, List.setIfInBounds_toArray, List.set_cons_zero, List.set_cons_succ]
  refine takeS (i := 1) (v := ?_) rfl (by kernel_rfl) (by kernel_rfl) (by kernel_rfl) (by kernel_rfl) (by kernel_rfl) (fun _ _ _ h => h) (Or.inl ⟨by kernel_rfl, ?_⟩) kB ?_
  case refine_2 =>
    intro wS hSw
    obtain ⟨x0, x1, x2, x3⟩ := hSw
    go_simp
    try with_reducible rfl
  try simp only [List.getElem_toArray, List.getElem_cons_succ, List.getElem_cons_zero, Act.put, List.setIfInBounds_toArray, List.set_cons_zero, List.set_cons_succ]
  refine takeS (i := 3) (v := ?_) rfl (by kernel_rfl) (by kernel_rfl) (by kernel_rfl) (by kernel_rfl) (by kernel_rfl) (fun _ _ _ h => h) (Or.inl ⟨by kernel_rfl, ?_⟩) kB ?_
  case refine_2 =>
    intro wS hSw
    clear hSw
    go_simp
    try with_reducible rfl
  try simp only [List.getElem_toArray, List.getElem_cons_succ, List.getElem_cons_zero, Act.put, List.setIfInBounds_toArray, List.set_cons_zero, List.set_cons_succ]
  refine takeS (i := 4) (v := ?_) rfl (by kernel_rfl) (by kernel_rfl) (by kernel_rfl) (by kernel_rfl) (by kernel_rfl) (fun _ _ _ h => h) (Or.inl ⟨by kernel_rfl, ?_⟩) kB ?_
  case refine_2 =>
    intro wS hSw
    obtain ⟨x0, x1, x2, x3⟩ := hSw
    go_simp
    try with_reducible rfl
  try simp only [List.getElem_toArray, List.getElem_cons_succ, List.getElem_cons_zero, Act.put, List.setIfInBounds_toArray, List.set_cons_zero, List.set_cons_succ]
  refine takeS (i := 6) (v := ?_) rfl (by kernel_rfl) (by kernel_rfl) (by kernel_rfl) (by kernel_rfl) (by kernel_rfl) (fun _ _ _ h => h) (Or.inl ⟨by kernel_rfl, ?_⟩) kB ?_
  case refine_2 =>
    intro wS hSw
    clear hSw
    go_simp
    try with_reducible rfl
  try simp only [List.getElem_toArray, List.getElem_cons_succ, List.getElem_cons_zero, Act.put, List.setIfInBounds_toArray, List.set_cons_zero, List.set_cons_succ]
  refine takeS (i := 7) (v := ?_) rfl (by kernel_rfl) (by kernel_rfl) (by kernel_rfl) (by kernel_rfl) (by kernel_rfl) (fun _ _ _ h => h) (Or.inl ⟨by kernel_rfl, ?_⟩) kB ?_
  case refine_2 =>
    intro wS hSw
    obtain ⟨x0, x1, x2, x3⟩ := hSw
    go_simp
    try with_reducible rfl
  try simp only [List.getElem_toArray, List.getElem_cons_succ, List.getElem_cons_zero, Act.put, List.setIfInBounds_toArray, List.set_cons_zero, List.set_cons_succ]
  refine readyS (i := 2) (by kernel_rfl) rfl (fun K hK => ?_)
  go_simp
  refine (clone_any _ A3 n3 c3 _ hs3 (by omega)).mono ?_
  rintro e w4 ⟨A5, n5, c5, rfl, ho5, hb4⟩
  refine hK _ _ (kB.below hb4) ?_
  clear hK K
  have kB := kB.below hb4
  have kC := kC.below hb4
  have hbr := hbr.trans (hb4.mono hbr.size)
  have hs4 := hs4.below (by omega) hb4
  clear hb4
  have hlt4 := kC.lt
  refine readyS (i := 5) (by kernel_rfl) rfl (fun K hK => ?_)
  go_simp
  refine (clone_any _ A4 n4 c4 _ hs4 (by omega)).mono ?_
  rintro e w4 ⟨A6, n6, c6, rfl, ho6, hb4⟩
  refine hK _ _ (kB.below hb4) ?_
  clear hK K
  have kB := kB.below hb4
  have kC := kC.below hb4
  have hbr := hbr.trans (hb4.mono hbr.size)
  have ho5 := Own.below ho5 hb4
  refine takeS (i := 8) (v := ?_) rfl (by kernel_rfl) (by kernel_rfl) (by kernel_rfl) (by kernel_rfl) (by kernel_rfl) (fun _ _ _ h => h) (Or.inl ⟨by kernel_rfl, ?_⟩) kB ?_
  case refine_2 =>
    intro wS hSw
    clear hSw
    go_simp
    try with_reducible rfl
  try simp only [List.getElem_toArray, List.getElem_cons_succ, List.getElem_cons_zero, Act.put, List.setIfInBounds_toArray, List.set_cons_zero, List.set_cons_succ]
  refine readyS (i := 9) (by kernel_rfl) rfl (fun K hK => ?_)
  obtain ⟨y0, y1, y2, y3⟩ := id kC
  go_simp
  obtain ⟨kD, hg⟩ := Bx.set (v0 := .slice A5 n5 c5) (v1 := .slice A6 n6 c6) (v2 := .int .u64 (d : Int)) kC rfl
  refine hK _ _ (kB.grown hg (by omega)) ?_
  clear hK K
  refine doneS (by kernel_rfl) ?_ _
  try simp only [List.getElem_toArray, List.getElem_cons_succ, List.getElem_cons_zero, Act.put, List.setIfInBounds_toArray, List.set_cons_zero, List.set_cons_succ]
  have hb9 := hbr.grown hg hbr.size (fun b hb => by simp at hb; omega)
  have ho5 := own_set (own_set (own_set ho5 (g := w.heap.size + 1) (j := 0) hlt3 (.slice A5 n5 c5)) (g := w.heap.size + 1) (j := 1) hlt3 (.slice A6 n6 c6)) (g := w.heap.size + 1) (j := 2) hlt3 (.int .u64 (d : Int))
  have ho6 := own_set (own_set (own_set ho6 (g := w.heap.size + 1) (j := 0) hlt4 (.slice A5 n5 c5)) (g := w.heap.size + 1) (j := 1) hlt4 (.slice A6 n6 c6)) (g := w.heap.size + 1) (j := 2) hlt4 (.int .u64 (d : Int))
  obtain ⟨y0, y1, y2, y3⟩ := kD
  go_wp2
  refine bodyPost_ret (v := .agg #[.slice A5 n5 c5, .slice A6 n6 c6, .int .u64 (d : Int)]) (by simp [results, Tryz.results108, go_sem, y0, y1, y2]) rfl ?_
  exact ⟨A5, n5, c5, A6, n6, c6, rfl, Own.mono ho5 (by omega), Own.mono ho6 (by omega), hb9⟩
end Go.Proofs.YtpffieogkfndaaaGreatDoor

namespace Go.Proofs.YtpffieogkfndaaaGreatDoor
open Go.RowKit
set_option maxRecDepth 20000
set_option linter.unusedVariables false
set_option linter.unusedSimpArgs false
def numsL : Nat → List UInt8 → Option (List Nat × List UInt8)
  | 0, p => some ([], p)
  | n + 1, p => if (takeL p).2.2 = 0 ∧ (takeL p).1 ≤ 65536 then (numsL n (takeL p).2.1).map fun x => ((takeL p).1 :: x.1, x.2) else none
def contU (outs : List Nat) (o : Option (List Nat × List UInt8)) : Option (List Nat × List UInt8) := o.map fun x => (outs ++ x.1, x.2)
theorem contU_nil (o : Option (List Nat × List UInt8)) : contU [] o = o := by
  cases o with
  | none => rfl
  | some x => rfl
theorem contU_step (outs : List Nat) (n : Nat) (p : List UInt8) (h : (takeL p).2.2 = 0 ∧ (takeL p).1 ≤ 65536) : contU outs (numsL (n + 1) p) = contU (outs ++ [(takeL p).1]) (numsL n (takeL p).2.1) := by
  simp only [numsL]
  rw [if_pos h]
  unfold contU
  cases numsL n (takeL p).2.1 with
  | none => rfl
  | some x => simp
/-- numbers, bytes and whether they are so that a call gives back -/
def GotNums (w : World) (r : Option (List Nat × List UInt8)) (e : Ending) (w' : World) : Prop :=
  ∃ (A : Option Addr) (n c : Nat) (B : Option Addr) (m d : Nat), e = .returned (.tuple #[.slice A n c, .slice B m d, .bool r.isSome]) ∧ Sl w' 1 A n c (ic (r.getD ([], [])).1) ∧ Sl w' 1 B m d (bc (r.getD ([], [])).2) ∧ Below w.heap.size w w' ∧ NewAt w A n ∧ NewAt w B m
set_option maxHeartbeats 8000000 in
theorem nums_any (w : World) (A : Option Addr) (n c : Nat) (p : List UInt8) (k : Nat) (h : Sl w 1 A n c (bc p)) (hn : n ≤ 1000000) (hk : k ≤ 1000) (hk0 : 0 < k) :
    Calls Tryz.prog 125 #[.slice A n c, .int .i64 (k : Int)] w (GotNums w (numsL k p)) := by
  obtain ⟨r, hr⟩ : ∃ r, numsL k p = r := ⟨_, rfl⟩
  rw [hr]
  have hl := h.lenb
  have Hr := Lib.hid hr
  have hp : p.length ≤ 1000000 := by omega
  clear hr hl
  go_enter Tryz.func125, Tryz.ntmps125
  go_wp2
  go_loopw [0, 7, 12] (fun q s i wr => ∃ j : Nat, j ≤ k ∧ i = .int .i64 j ∧ Below w.heap.size w wr ∧ ∃ A2 n2 c2 outs A3 n3 c3 rest, s = .slice A2 n2 c2 ∧ Own wr w.heap.size 3 1 A2 n2 c2 (ic outs) ∧ outs.length = j ∧ q = .slice A3 n3 c3 ∧ Sl wr 1 A3 n3 c3 (bc rest) ∧ (∀ b, 0 < n3 → A3.map (·.block) = some b → blk A2 c2 ≠ some b ∧ (0 < j → w.heap.size ≤ b)) ∧ rest.length ≤ 1000000 ∧ Hid (numsL k p = contU outs (numsL (k - j) rest))) (fun _ _ i _ => k - (intOf i).toNat)
  case atStart => exact ⟨0, Nat.zero_le _, rfl, Below.refl _ _, none, 0, 0, [], A, n, c, p, rfl, Own.nil _ _ _ _ _, rfl, rfl, h, fun b _ _ => ⟨fun e => by simp [blk] at e, fun q => absurd q (by omega)⟩, hp, Lib.hid (by rw [contU_nil]; rfl)⟩
  case round =>
    clear h
    obtain ⟨j, hj, rfl, hbr, A2, n2, c2, outs, A3, n3, c3, rest, rfl, ho2, hol, rfl, s3, hne, hrl, Hc⟩ := hrel
    by_cases hlt : j < k
    case neg =>
      obtain rfl : k = j := by omega
      have er : some (outs, rest) = r := by rw [← Hr.out, Hc.out, Nat.sub_self]; simp [numsL, contU]
      subst er
      go_wp2
      refine bodyPost_ret (v := .tuple #[.slice A2 n2 c2, .slice A3 n3 c3, .bool true]) (by simp [results, Tryz.results125, go_sem]) rfl ?_
      refine ⟨A2, n2, c2, A3, n3, c3, rfl, ho2.sl, s3, hbr, fun b hn e => ?_, fun b hn e => (hne b hn e).2 hk0⟩
      have := ho2.lt b (by have := ho2.cap; unfold blk; rw [if_neg (by omega)]; exact e)
      exact this.1
    have hc := take_any wr A3 n3 c3 rest s3 (by have := s3.lenb; omega)
    have hll := takeL_len rest
    have hlt64 := takeL_lt rest
    have hst := contU_step outs (k - (j + 1)) rest
    have hst2 : ¬ ((takeL rest).2.2 = 0 ∧ (takeL rest).1 ≤ 65536) → contU outs (numsL (k - (j + 1) + 1) rest) = none := fun hh => by
      simp only [numsL]
      rw [if_neg hh]
      rfl
    rw [show k - (j + 1) + 1 = k - j by omega, ← Hc.out, Hr.out] at hst hst2
    unfold TookB at hc
    generalize takeL rest = a at *
    obtain ⟨N, q, e1⟩ := a
    simp only at hc hll hlt64 hst hst2
    have hn2 := ho2.len
    rw [ic_len] at hn2
    have C := Lib.hid hc
    have Zr := Lib.hid hbr.size
    have Hst := Lib.hid hst
    have Hst2 := Lib.hid hst2
    have Hol := Lib.hid hol
    have Hq : Hid (q.length ≤ 1000000) := by unfold Hid; omega
    have hn2b : n2 ≤ 1000 := by omega
    have Hjk : Hid (j < k) := hlt
    clear hc hll hst hst2 hol hn2 s3 hrl hne
    go_wp2_with fail
    refine C.out.mono ?_
    rintro e w1 ⟨A4, n4, c4, rfl, o4, hb⟩
    have ho2 := Own.below ho2 hb
    have hbr := hbr.trans (hb.mono hbr.size)
    clear hb C
    by_cases z1 : e1 = 0
    case neg =>
      have er : none = r := (Hst2.out (fun hh => z1 hh.1)).symm
      subst er
      have i1 : ((e1 : Int) == 0) = false := by rw [beq_eq_false_iff_ne]; omega
      have i2 : ((e1 : Int) != 0) = true := by rw [bne_iff_ne]; omega
      clear z1
      go_wp2
      refine bodyPost_ret (v := .tuple #[.slice none 0 0, .slice none 0 0, .bool false]) (by simp [results, Tryz.results125, go_sem]) rfl ?_
      exact ⟨none, 0, 0, none, 0, 0, rfl, Sl.nil _ _ _ _ (Nat.zero_le _), sl_none _, hbr, none_new _, none_new _⟩
    subst z1
    by_cases z2 : N ≤ 65536
    case neg =>
      have er : none = r := (Hst2.out (fun hh => z2 hh.2)).symm
      subst er
      have i1 : decide ((65536 : Int) < (N : Int)) = true := decide_eq_true (by omega)
      clear z2
      go_wp2
      refine bodyPost_ret (v := .tuple #[.slice none 0 0, .slice none 0 0, .bool false]) (by simp [results, Tryz.results125, go_sem]) rfl ?_
      exact ⟨none, 0, 0, none, 0, 0, rfl, Sl.nil _ _ _ _ (Nat.zero_le _), sl_none _, hbr, none_new _, none_new _⟩
    have i1 : decide ((65536 : Int) < (N : Int)) = false := decide_eq_false (by omega)
    have hst3 : r = contU (outs ++ [N]) (numsL (k - (j + 1)) q) := Hst.out ⟨(by first | rfl | trivial), z2⟩
    have Hst3 := Lib.hid hst3
    have hwr : IntKind.i64.wrap (N : Int) = (N : Int) := by rw [IntKind.wrap_i64]; omega
    have hlit : Sl (w1.alloc (.cells #[.int .i64 (N : Int)] 3)) 1 (some ⟨w1.heap.size, 0, none⟩) 1 1 (ic [N]) := Sl.lit w1 _ _ 1 _ _ rfl (by unfold maxLen; omega) rfl
    have al := (Below.refl w1.heap.size w1).alloc (Nat.le_refl _) (.cells #[.int .i64 (N : Int)] 3)
    have ho2 := Own.below ho2 al
    have o4 : OwnB _ _ _ _ _ _ := Own.below o4 al
    have hbr := hbr.trans (al.mono hbr.size)
    obtain ⟨iI, hiI, hzI, hsI, hbI⟩ := info_parts infoInt
    clear al hst3
    go_wp2_with (at_builtin; refine wpList_app _ rfl (.tmp 26) (.tmp 29) 135 rfl w.heap.size 3 iI _ 1 8 Tryz.underlying135 hiI hzI hsI hbI rfl A2 n2 c2 (ic outs) rfl ho2 _ 1 1 (ic [N]) rfl hlit (ic_one _) ?_ ?_ ?_ ?_)
    · unfold maxLen; omega
    · omega
    · exact hbr.size
    intro A5 c5 w5 ho5 hg5 hx5
    rw [← ic_append] at ho5
    have o45 : OwnB w5 _ _ _ _ _ := Own.grown o4 hg5 (own_apart o4 ho2 (by decide))
    have hbr := hbr.grown hg5 hbr.size (fun b hb => (Own.lt ho2 b hb).1)
    have hne5 : ∀ b, 0 < n4 → A4.map (·.block) = some b → blk A5 c5 ≠ some b ∧ (0 < j + 1 → w.heap.size ≤ b) := fun b hn e => by
      have e4 : blk A4 c4 = some b := by have := (OwnB.sl o4).cap; unfold blk; rw [if_neg (by omega)]; exact e
      refine ⟨fun h5 => ?_, fun _ => by have := (Own.lt o4 b e4).1; have := Zr.out; omega⟩
      rcases hx5 with q | q
      · exact own_apart o4 ho2 (by decide) b e4 (q ▸ h5)
      · rw [q] at h5
        have := (Own.lt o4 b e4).2
        simp at h5
        simp at this
        omega
    have Hne5 := Lib.hid hne5
    clear hiI hzI hsI hbI hlit hg5 hx5 o4 ho2 hne5
    go_wp2
    go_roundw
    case rel => exact ⟨j + 1, by have := Hjk.out; omega, by go_num, hbr, A5, _, c5, outs ++ [N], A4, n4, c4, q, rfl, ho5, by rw [List.length_append, Hol.out]; rfl, rfl, OwnB.sl o45, Hne5.out, Hq.out, Lib.hid (by rw [Hr.out]; exact Hst3.out)⟩
    case measure => have := Hjk.out; simp [intOf]; omega
end Go.Proofs.YtpffieogkfndaaaGreatDoor
