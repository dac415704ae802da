/-
  LeafNums, BloomWalk in one text. No condition but sizes.
-/
import Derived.Test.YtpffieogkfndaaaGreatDoorJTabBounds
import Derived.Test.YtpffieogkfndaaaGreatDoorLeafBuildR
import Derived.RangeFuncNested
import Derived.RangeFuncBound
import Derived.RangeFuncCalls
import Derived.RangeFuncLeaves
import Derived.Shelf.Abstract
import Derived.Shelf.RegionOpen
import Derived.OwnWalkIn
import Derived.TacticsInMore
import Derived.LoopNIn
import Derived.LoopIn
import Derived.Test.YtpffieogkfndaaaGreatDoorJSealRef
import Derived.Test.YtpffieogkfndaaaGreatDoorJBloomPlain
namespace Go.Proofs.YtpffieogkfndaaaGreatDoor
open Go.RowKit
set_option maxRecDepth 20000
set_option linter.unusedVariables false
set_option linter.unusedSimpArgs false
def numsL : Nat → List UInt8 → Option (List Nat × List UInt8)
  | 0, p => some ([], p)
  | n + 1, p => if (takeL p).2.2 = 0 ∧ (takeL p).1 ≤ 65536 then (numsL n (takeL p).2.1).map fun x => ((takeL p).1 :: x.1, x.2) else none
def contU (outs : List Nat) (o : Option (List Nat × List UInt8)) : Option (List Nat × List UInt8) := o.map fun x => (outs ++ x.1, x.2)
theorem contU_nil (o : Option (List Nat × List UInt8)) : contU [] o = o := by
  cases o with
  | none => rfl
  | some x => rfl
theorem contU_step (outs : List Nat) (n : Nat) (p : List UInt8) (h : (takeL p).2.2 = 0 ∧ (takeL p).1 ≤ 65536) : contU outs (numsL (n + 1) p) = contU (outs ++ [(takeL p).1]) (numsL n (takeL p).2.1) := by
  simp only [numsL]
  rw [if_pos h]
  unfold contU
  cases numsL n (takeL p).2.1 with
  | none => rfl
  | some x => simp
/-- numbers, bytes and whether they are so that a call gives back -/
def GotNums (w : World) (r : Option (List Nat × List UInt8)) (e : Ending) (w' : World) : Prop :=
  ∃ (A : Option Addr) (n c : Nat) (B : Option Addr) (m d : Nat), e = .returned (.tuple #[.slice A n c, .slice B m d, .bool r.isSome]) ∧ Sl w' 1 A n c (ic (r.getD ([], [])).1) ∧ Sl w' 1 B m d (bc (r.getD ([], [])).2) ∧ Below w.heap.size w w' ∧ NewAt w A n ∧ NewAt w B m
set_option maxHeartbeats 8000000 in
theorem nums_any (w : World) (A : Option Addr) (n c : Nat) (p : List UInt8) (k : Nat) (h : Sl w 1 A n c (bc p)) (hn : n ≤ 1000000) (hk : k ≤ 1000) (hk0 : 0 < k) :
    Calls Tryz.prog 125 #[.slice A n c, .int .i64 (k : Int)] w (GotNums w (numsL k p)) := by
  obtain ⟨r, hr⟩ : ∃ r, numsL k p = r := ⟨_, rfl⟩
  rw [hr]
  have hl := h.lenb
  have Hr := Lib.hid hr
  have hp : p.length ≤ 1000000 := by omega
  clear hr hl
  go_enter Tryz.func125, Tryz.ntmps125
  go_wp2
  go_loopw [0, 7, 12] (fun q s i wr => ∃ j : Nat, j ≤ k ∧ i = .int .i64 j ∧ Below w.heap.size w wr ∧ ∃ A2 n2 c2 outs A3 n3 c3 rest, s = .slice A2 n2 c2 ∧ Own wr w.heap.size 3 1 A2 n2 c2 (ic outs) ∧ outs.length = j ∧ q = .slice A3 n3 c3 ∧ Sl wr 1 A3 n3 c3 (bc rest) ∧ (∀ b, 0 < n3 → A3.map (·.block) = some b → blk A2 c2 ≠ some b ∧ (0 < j → w.heap.size ≤ b)) ∧ rest.length ≤ 1000000 ∧ Hid (numsL k p = contU outs (numsL (k - j) rest))) (fun _ _ i _ => k - (intOf i).toNat)
  case atStart => exact ⟨0, Nat.zero_le _, rfl, Below.refl _ _, none, 0, 0, [], A, n, c, p, rfl, Own.nil _ _ _ _ _, rfl, rfl, h, fun b _ _ => ⟨fun e => by simp [blk] at e, fun q => absurd q (by omega)⟩, hp, Lib.hid (by rw [contU_nil]; rfl)⟩
  case round =>
    clear h
    obtain ⟨j, hj, rfl, hbr, A2, n2, c2, outs, A3, n3, c3, rest, rfl, ho2, hol, rfl, s3, hne, hrl, Hc⟩ := hrel
    by_cases hlt : j < k
    case neg =>
      obtain rfl : k = j := by omega
      have er : some (outs, rest) = r := by rw [← Hr.out, Hc.out, Nat.sub_self]; simp [numsL, contU]
      subst er
      go_wp2
      refine bodyPost_ret (v := .tuple #[.slice A2 n2 c2, .slice A3 n3 c3, .bool true]) (by simp [results, Tryz.results125, go_sem]) rfl ?_
      refine ⟨A2, n2, c2, A3, n3, c3, rfl, ho2.sl, s3, hbr, fun b hn e => ?_, fun b hn e => (hne b hn e).2 hk0⟩
      have := ho2.lt b (by have := ho2.cap; unfold blk; rw [if_neg (by omega)]; exact e)
      exact this.1
    have hc := take_any wr A3 n3 c3 rest s3 (by have := s3.lenb; omega)
    have hll := takeL_len rest
    have hlt64 := takeL_lt rest
    have hst := contU_step outs (k - (j + 1)) rest
    have hst2 : ¬ ((takeL rest).2.2 = 0 ∧ (takeL rest).1 ≤ 65536) → contU outs (numsL (k - (j + 1) + 1) rest) = none := fun hh => by
      simp only [numsL]
      rw [if_neg hh]
      rfl
    rw [show k - (j + 1) + 1 = k - j by omega, ← Hc.out, Hr.out] at hst hst2
    unfold TookB at hc
    generalize takeL rest = a at *
    obtain ⟨N, q, e1⟩ := a
    simp only at hc hll hlt64 hst hst2
    have hn2 := ho2.len
    rw [ic_len] at hn2
    have C := Lib.hid hc
    have Zr := Lib.hid hbr.size
    have Hst := Lib.hid hst
    have Hst2 := Lib.hid hst2
    have Hol := Lib.hid hol
    have Hq : Hid (q.length ≤ 1000000) := by unfold Hid; omega
    have hn2b : n2 ≤ 1000 := by omega
    have Hjk : Hid (j < k) := hlt
    clear hc hll hst hst2 hol hn2 s3 hrl hne
    go_wp2_with fail
    refine C.out.mono ?_
    rintro e w1 ⟨A4, n4, c4, rfl, o4, hb⟩
    have ho2 := Own.below ho2 hb
    have hbr := hbr.trans (hb.mono hbr.size)
    clear hb C
    by_cases z1 : e1 = 0
    case neg =>
      have er : none = r := (Hst2.out (fun hh => z1 hh.1)).symm
      subst er
      have i1 : ((e1 : Int) == 0) = false := by rw [beq_eq_false_iff_ne]; omega
      have i2 : ((e1 : Int) != 0) = true := by rw [bne_iff_ne]; omega
      clear z1
      go_wp2
      refine bodyPost_ret (v := .tuple #[.slice none 0 0, .slice none 0 0, .bool false]) (by simp [results, Tryz.results125, go_sem]) rfl ?_
      exact ⟨none, 0, 0, none, 0, 0, rfl, Sl.nil _ _ _ _ (Nat.zero_le _), sl_none _, hbr, none_new _, none_new _⟩
    subst z1
    by_cases z2 : N ≤ 65536
    case neg =>
      have er : none = r := (Hst2.out (fun hh => z2 hh.2)).symm
      subst er
      have i1 : decide ((65536 : Int) < (N : Int)) = true := decide_eq_true (by omega)
      clear z2
      go_wp2
      refine bodyPost_ret (v := .tuple #[.slice none 0 0, .slice none 0 0, .bool false]) (by simp [results, Tryz.results125, go_sem]) rfl ?_
      exact ⟨none, 0, 0, none, 0, 0, rfl, Sl.nil _ _ _ _ (Nat.zero_le _), sl_none _, hbr, none_new _, none_new _⟩
    have i1 : decide ((65536 : Int) < (N : Int)) = false := decide_eq_false (by omega)
    have hst3 : r = contU (outs ++ [N]) (numsL (k - (j + 1)) q) := Hst.out ⟨(by first | rfl | trivial), z2⟩
    have Hst3 := Lib.hid hst3
    have hwr : IntKind.i64.wrap (N : Int) = (N : Int) := by rw [IntKind.wrap_i64]; omega
    have hlit : Sl (w1.alloc (.cells #[.int .i64 (N : Int)] 3)) 1 (some ⟨w1.heap.size, 0, none⟩) 1 1 (ic [N]) := Sl.lit w1 _ _ 1 _ _ rfl (by unfold maxLen; omega) rfl
    have al := (Below.refl w1.heap.size w1).alloc (Nat.le_refl _) (.cells #[.int .i64 (N : Int)] 3)
    have ho2 := Own.below ho2 al
    have o4 : OwnB _ _ _ _ _ _ := Own.below o4 al
    have hbr := hbr.trans (al.mono hbr.size)
    obtain ⟨iI, hiI, hzI, hsI, hbI⟩ := info_parts infoInt
    clear al hst3
    go_wp2_with (at_builtin; refine wpList_app _ rfl (.tmp 26) (.tmp 29) 135 rfl w.heap.size 3 iI _ 1 8 Tryz.underlying135 hiI hzI hsI hbI rfl A2 n2 c2 (ic outs) rfl ho2 _ 1 1 (ic [N]) rfl hlit (ic_one _) ?_ ?_ ?_ ?_)
    · unfold maxLen; omega
    · omega
    · exact hbr.size
    intro A5 c5 w5 ho5 hg5 hx5
    rw [← ic_append] at ho5
    have o45 : OwnB w5 _ _ _ _ _ := Own.grown o4 hg5 (own_apart o4 ho2 (by decide))
    have hbr := hbr.grown hg5 hbr.size (fun b hb => (Own.lt ho2 b hb).1)
    have hne5 : ∀ b, 0 < n4 → A4.map (·.block) = some b → blk A5 c5 ≠ some b ∧ (0 < j + 1 → w.heap.size ≤ b) := fun b hn e => by
      have e4 : blk A4 c4 = some b := by have := (OwnB.sl o4).cap; unfold blk; rw [if_neg (by omega)]; exact e
      refine ⟨fun h5 => ?_, fun _ => by have := (Own.lt o4 b e4).1; have := Zr.out; omega⟩
      rcases hx5 with q | q
      · exact own_apart o4 ho2 (by decide) b e4 (q ▸ h5)
      · rw [q] at h5
        have := (Own.lt o4 b e4).2
        simp at h5
        simp at this
        omega
    have Hne5 := Lib.hid hne5
    clear hiI hzI hsI hbI hlit hg5 hx5 o4 ho2 hne5
    go_wp2
    go_roundw
    case rel => exact ⟨j + 1, by have := Hjk.out; omega, by go_num, hbr, A5, _, c5, outs ++ [N], A4, n4, c4, q, rfl, ho5, by rw [List.length_append, Hol.out]; rfl, rfl, OwnB.sl o45, Hne5.out, Hq.out, Lib.hid (by rw [Hr.out]; exact Hst3.out)⟩
    case measure => have := Hjk.out; simp [intOf]; omega
end Go.Proofs.YtpffieogkfndaaaGreatDoor

namespace Go.Proofs.YtpffieogkfndaaaGreatDoor
set_option maxRecDepth 20000
set_option linter.unusedVariables false
set_option linter.unusedSimpArgs false
open Go.RowKit

attribute [local go_sem] Oper.semAt_some

set_option maxHeartbeats 400000 in
theorem bltake_any (w : World) (b : Int) : Calls Tryz.prog 87 #[.int .i64 b] w fun e w' => e = .returned (.int .i64 (takeN b : Nat)) ∧ w = w' := by
  go_enter Tryz.func87, Tryz.ntmps87
  go_wp2
  all_goals go_ret
  all_goals (refine ⟨ret_int ?_, rfl⟩; unfold takeN; split <;> (try split) <;> omega)
set_option maxHeartbeats 400000 in
theorem probes_any (w : World) (b : Int) : Calls Tryz.prog 88 #[.int .i64 b] w fun e w' => e = .returned (.int .i64 (probesN b : Nat)) ∧ w = w' := by
  have h1 := takeN_le b
  have h2 : probesN b = min (max (takeN b * 69 / 100) 1) 30 := by unfold probesN; split <;> (try split) <;> omega
  rw [h2]
  clear h2
  have ht := bltake_any w b
  generalize takeN b = t at *
  go_enter Tryz.func88, Tryz.ntmps88
  go_wp2_with fail
  refine ht.mono ?_
  rintro e w' ⟨rfl, rfl⟩
  go_wp2
  all_goals go_ret
  all_goals exact ⟨ret_int (by omega), rfl⟩
set_option maxHeartbeats 400000 in
theorem each_any (w : World) (A : Option Addr) (n c : Nat) (p m : Int) :
    Calls Tryz.prog 89 #[.slice A n c, .int .i64 p, .int .u32 m] w fun e w' =>
      e = .returned (.func (.func 114) #[] #[.pointer (some ⟨w.heap.size, 0, none⟩), .pointer (some ⟨w.heap.size + 1, 0, none⟩), .pointer (some ⟨w.heap.size + 1 + 1, 0, none⟩)]) ∧
      w' = ((w.alloc (.cells #[.slice A n c] 29)).alloc (.cells #[.int .i64 p] 3)).alloc (.cells #[.int .u32 m] 126) := by
  go_enter Tryz.func89, Tryz.ntmps89
  go_wp2
  go_ret
  exact ⟨rfl, rfl⟩
/-- the probes that have come when k rounds are over -/
def comeL (key : List UInt8) {m : Nat} (hm : 0 < m) (k : Nat) : List (Fin m) := (List.range k).map fun i => ⟨probeL key m i, probeL_lt key hm i⟩
theorem comeL_succ (key : List UInt8) {m : Nat} (hm : 0 < m) (k : Nat) : comeL key hm (k + 1) = comeL key hm k ++ [⟨probeL key m k, probeL_lt key hm k⟩] := by simp [comeL, List.range_succ]
theorem comeL_length (key : List UInt8) {m : Nat} (hm : 0 < m) (k : Nat) : (comeL key hm k).length = k := by simp [comeL]
theorem comeL_val (key : List UInt8) {m : Nat} (hm : 0 < m) (k : Nat) : (comeL key hm k).map (·.val) = probesL key m k := by simp [comeL, probesL]
theorem or_step (key : List UInt8) : bits .or .u32 (sumL key : Nat) 1 = (stepL key : Nat) := by
  have h := u32_or_nat (sumL key) 1 (sumL_lt key) (by omega)
  rw [or_one] at h
  exact h
theorem stepL_lt (key : List UInt8) : stepL key < 4294967296 := by
  have := sumL_lt key
  unfold stepL
  split <;> omega

set_option maxRecDepth 100000 in
set_option maxHeartbeats 2000000 in
theorem each1_in (n : Nat) (hn : 1 ≤ n) (l b1 b2 b3 : Nat) (A : Option Addr) (nk ck : Nat) (key : List UInt8) (p m : Nat) (hm : 0 < m) (hp : p ≤ 30) (J Jx : List (Fin m) → World → Prop)
    (hY : ∀ pre (x : Fin m) W, J pre W → pre.length < p → YieldAt Fence.wide (n - 1) Tryz.prog l #[.int .u32 ((x.val : Nat) : Int)] W fun e W' =>
      (e = .returned (.bool true) ∧ J (pre ++ [x]) W' ∧ W'.heap[b3]? = W.heap[b3]?) ∨ (e = .returned (.bool false) ∧ Jx (pre ++ [x]) W'))
    (W : World) (hJ : AbidesFrom W.heap.size J) (c1 : W.cell? ⟨b1, 0, none⟩ = some (.slice A nk ck)) (c2 : W.cell? ⟨b2, 0, none⟩ = some (.int .i64 (p : Int))) (c3 : W.cell? ⟨b3, 0, none⟩ = some (.int .u32 (m : Int)))
    (hk : Sl W 1 A nk ck (bc key)) (hq : Quarter W) (h0 : J [] W) :
    CallsIn Fence.wide n Tryz.prog 114 #[.func (.yield l) #[] #[], .pointer (some ⟨b1, 0, none⟩), .pointer (some ⟨b2, 0, none⟩), .pointer (some ⟨b3, 0, none⟩)] W fun e W' => (∃ v, e = .returned v) ∧
      ((∃ ys, ys = comeL key hm p ∧ J ys W') ∨ (∃ pre, (∃ k, k ≤ p ∧ pre = comeL key hm k) ∧ Jx pre W')) := by
  have Hl : Hid (key.length = nk) := hk.lenb
  have hcm := hk.capm
  have hcc := hk.cap
  unfold maxLen at hcm
  refine callsIn_of_wp Tryz.func114 rfl trivial ?_ rfl
  simp only [Tryz.ntmps114, List.size_toArray, List.length_cons, List.length_nil, Nat.reduceAdd, Nat.reduceSub, Array.replicate_succ, Array.replicate_zero, List.push_toArray, List.append_toArray, List.nil_append, List.cons_append]
  gi_wp2
  gi_loop [5, 11] (fun s i => ∃ k : Nat, k ≤ nk ∧ i = .int .i64 k ∧ s = .int .u32 (fnvL 2166136261 (key.take k) : Nat)) (fun _ i => nk - (intOf i).toNat)
  case atStart => exact ⟨0, Nat.zero_le _, rfl, rfl⟩
  case round =>
    obtain ⟨k, hk', rfl, rfl⟩ := hrel
    by_cases hlt : k < nk
    · have hkl : k < key.length := by have := Hl.out; omega
      obtain ⟨g, o, x, rfl, hx, hxl, hcell⟩ := hk.byte hkl
      have hv := fnvL_lt (key.take k) basis_lt
      have hs := fnvL_snoc 2166136261 (key.take k) key[k]
      rw [← take_snoc _ _ hkl, hx] at hs
      have HS := Lib.hid hs
      generalize fnvL 2166136261 (key.take k) = v at *
      obtain ⟨t, hte, htl⟩ : ∃ t : Nat, v ^^^ x = t ∧ t < 4294967296 := ⟨_, rfl, Nat.xor_lt_two_pow (n := 32) hv (by omega)⟩
      have e1 : bits .xor .u32 (v : Int) (x : Int) = (t : Int) := by rw [u32_xor_nat _ _ hv (by omega), hte]
      have HT := Lib.hid hte
      clear hs hx hte
      gi_wp2
      go_round
      case rel => exact ⟨k + 1, by omega, by go_num, by rw [HS.out, HT.out]; simp⟩
      case measure => simp [intOf]; omega
    · obtain rfl : k = nk := by omega
      have e1 : key.take k = key := List.take_of_length_le (by have := Hl.out; omega)
      rw [e1]
      obtain ⟨p1, p2⟩ := one_part W A k ck key hk 29
      have hb0 := (Below.refl W.heap.size W).alloc (Nat.le_refl _) (.cells #[.slice A k ck] 29)
      have hq1 := hq.below hb0
      have hJ1 : J [] (W.alloc (.cells #[.slice A k ck] 29)) := hJ [] W _ none h0 (World.grownBy_alloc W _ none) (fun r e => by cases e)
      have c2' := (hb0.cell (p := ⟨b2, 0, none⟩) (World.block_lt_of_cell? _ _ c2)).trans c2
      have c3' := (hb0.cell (p := ⟨b3, 0, none⟩) (World.block_lt_of_cell? _ _ c3)).trans c3
      have eo := or_step key
      obtain ⟨h, hh⟩ : ∃ h, hashL key = h := ⟨_, rfl⟩
      have hhl := hashL_lt key
      obtain ⟨d, hd⟩ : ∃ d, stepL key = d := ⟨_, rfl⟩
      have hdl := stepL_lt key
      have hpr : ∀ i, probeL key m i = (h + i * d) % 4294967296 % m := by intro i; rw [← hh, ← hd]; rfl
      have Hpr := Lib.hid hpr
      rw [show fnvL 2166136261 key = h from hh]
      rw [hh] at hhl
      rw [hd] at eo hdl
      clear hh hd hpr
      gi_wp2_with fail
      refine ⟨trivial, callsIn_wide.2 ((sum_any _ _ _ _ _ _ p1 p2 hq1).mono ?_)⟩
      rw [show [key].flatten = key by simp]
      rintro e w' ⟨rfl, rfl⟩
      clear p1 p2 hq1 hb0 hq hk c1 hJ
      generalize W.alloc (.cells #[.slice A k ck] 29) = W1 at *
      generalize sumL key = sk at *
      gi_wp2
      gi_loopw [5, 26] (fun s i wr => ∃ k : Nat, k ≤ p ∧ i = .int .i64 k ∧ s = .int .u32 ((h + k * d) % 4294967296 : Nat) ∧ J (comeL key hm k) wr ∧ wr.heap[b3]? = W1.heap[b3]?) (fun _ i _ => p - (intOf i).toNat)
      case atStart => exact ⟨0, Nat.zero_le _, rfl, by rw [Nat.zero_mul, Nat.add_zero, Nat.mod_eq_of_lt hhl], hJ1, rfl⟩
      case round =>
        obtain ⟨q, hqp, rfl, rfl, hJq, hbq⟩ := hrel
        have c3q := (World.cell?_of_block (a := ⟨b3, 0, none⟩) hbq).trans c3'
        by_cases hlt : q < p
        · obtain ⟨fn, tmps, assign, body, hy, hR⟩ := hY _ ⟨probeL key m q, probeL_lt key hm q⟩ wr hJq (by rw [comeL_length]; exact hlt)
          dsimp only at hy
          have hz : (h + q * d) % 4294967296 < 4294967296 := Nat.mod_lt _ (by decide)
          rw [Hpr.out] at hy
          obtain ⟨z, hze⟩ : ∃ z, (h + q * d) % 4294967296 = z := ⟨_, rfl⟩
          rw [hze] at hy hz
          rw [hze]
          have Hz := Lib.hid hze
          clear hze
          simp only [Int.natCast_emod] at hy
          have hm0 : ¬ (m = 0) := by omega
          gi_wp2
          refine hR.mono ?_
          rintro e W3 (⟨rfl, hJ3, hk3⟩ | ⟨rfl, hJx3⟩)
          · gi_wp2
            go_roundw
            case rel =>
              refine ⟨q + 1, by omega, by go_num, ?_, by rw [comeL_succ]; exact hJ3, hk3.trans hbq⟩
              congr 1
              rw [← Hz.out]
              have e2 : (q + 1) * d = q * d + d := Nat.succ_mul q d
              rw [e2]
              generalize q * d = y
              omega
            case measure => simp [intOf]; omega
          · gi_wp2
            refine bodyPost_ret (results_none rfl _ _ _) rfl ?_
            exact ⟨⟨_, rfl⟩, .inr ⟨_, ⟨q + 1, by omega, (comeL_succ _ _ _).symm⟩, hJx3⟩⟩
        · obtain rfl : q = p := by omega
          gi_wp2
          go_end0
          exact ⟨⟨_, rfl⟩, .inl ⟨_, rfl, hJq⟩⟩
theorem each_stops (n : Nat) (hn : 1 ≤ n) (b1 b2 b3 : Nat) (A : Option Addr) (nk ck : Nat) (key : List UInt8) (p m : Nat) (hm : 0 < m) (hp : p ≤ 30) (w : World)
    (c1 : w.cell? ⟨b1, 0, none⟩ = some (.slice A nk ck)) (c2 : w.cell? ⟨b2, 0, none⟩ = some (.int .i64 (p : Int))) (c3 : w.cell? ⟨b3, 0, none⟩ = some (.int .u32 (m : Int)))
    (hk : Sl w 1 A nk ck (bc key)) (hq : Quarter w) :
    SeqStopsK Fence.wide n Tryz.prog 114 #[.pointer (some ⟨b1, 0, none⟩), .pointer (some ⟨b2, 0, none⟩), .pointer (some ⟨b3, 0, none⟩)] (fun x : Fin m => #[Value.int .u32 ((x.val : Nat) : Int)])
      (fun W W' => W'.heap[b3]? = W.heap[b3]?) (fun ys => ys = comeL key hm p) (fun pre => ∃ k, k ≤ p ∧ pre = comeL key hm k) p w := fun l J Jx W hW hJ _ hY h0 =>
  each1_in n hn l b1 b2 b3 A nk ck key p m hm hp J Jx hY W hJ ((hW.cell (p := ⟨b1, 0, none⟩) (World.block_lt_of_cell? _ _ c1)).trans c1) ((hW.cell (p := ⟨b2, 0, none⟩) (World.block_lt_of_cell? _ _ c2)).trans c2)
    ((hW.cell (p := ⟨b3, 0, none⟩) (World.block_lt_of_cell? _ _ c3)).trans c3) (hk.below (by omega) hW) (hq.below hW) h0
/-- an iterator's own keeping: one block -/
theorem keep1_t {b : Nat} {A B C : World} (h : B.heap[b]? = A.heap[b]?) (k : C.heap[b]? = B.heap[b]?) : C.heap[b]? = A.heap[b]? := k.trans h
theorem keep1_b {b : Nat} {w : World} (hb : b < w.heap.size) (W : World) (l : Nat) (o o' : Obj) (hl : w.heap.size ≤ l) (_ : W.heap[l]? = some o) (_ : o.isCells = false) (_ : o.isWalk = false) : (W.putObj l o').heap[b]? = W.heap[b]? :=
  World.putObj_heap_other (by omega)
end Go.Proofs.YtpffieogkfndaaaGreatDoor
