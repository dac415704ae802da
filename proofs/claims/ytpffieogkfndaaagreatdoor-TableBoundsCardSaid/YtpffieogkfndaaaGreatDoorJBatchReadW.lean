/-
  SealRef, SealRef2, TabPlain, Spans, Range, RowsY, StepX, BatchReadW in one text. No condition but sizes.
-/
import Derived.Test.YtpffieogkfndaaaGreatDoorJBloomPlain
import Derived.Test.YtpffieogkfndaaaGreatDoorJRowsZ
import Derived.Test.YtpffieogkfndaaaGreatDoorJRowsL
import Derived.RangeFuncNested
import Derived.RangeFuncBound
import Derived.RangeFuncCalls
import Derived.RangeFuncLeaves
import Derived.Shelf.Abstract
import Derived.Shelf.RegionOpen
import Derived.WalkKit
import Derived.OwnWalkIn
import Derived.TacticsInMore
import Derived.LoopNIn
import Derived.LoopIn
import Derived.Test.YtpffieogkfndaaaGreatDoorJZeros
import Derived.Test.YtpffieogkfndaaaGreatDoorJKeyAfterW
import Derived.Test.YtpffieogkfndaaaGreatDoorAtomRTake
namespace Go.Proofs.YtpffieogkfndaaaGreatDoor
set_option maxRecDepth 20000
set_option linter.unusedVariables false
set_option linter.unusedSimpArgs false
open Go.RowKit

/-- a row of bits of the call's own -/
def bools (N : Nat) (f : Nat → Bool) : List Value := (List.range N).map fun i => Value.bool (f i)
def OwnF (w : World) (B : Nat) (A : Option Addr) (N : Nat) (f : Nat → Bool) : Prop := Own w B 4 1 A N N (bools N f)
theorem bools_get (N : Nat) (f : Nat → Bool) (k : Nat) (h : k < N) : (bools N f)[k]? = some (.bool (f k)) := by simp [bools, h]
theorem bools_set (N : Nat) (f : Nat → Bool) (k : Nat) (v : Bool) : (bools N f).set k (.bool v) = bools N (fun j => if j = k then v else f j) := by
  apply List.ext_getElem?
  intro j
  simp only [bools, List.getElem?_set, List.getElem?_map, List.length_map, List.length_range]
  by_cases h : k = j
  · subst h
    by_cases hk : k < N
    · simp [hk]
    · simp [hk]
  · by_cases hj : j < N
    · simp [h, hj, Ne.symm h]
    · simp [h, hj]
theorem OwnF.place {w : World} {B : Nat} {g N : Nat} {f : Nat → Bool} (h : OwnF w B (some ⟨g, 0, none⟩) N f) {k : Nat} (hk : k < N) :
    w.cell? ⟨g, k, none⟩ = some (.bool (f k)) ∧ w.frozen? ⟨g, k, none⟩ = false := by
  obtain ⟨g', o, u, e, _, _, hu, hc, hf⟩ := Own.place h hk
  obtain ⟨rfl, rfl⟩ : g = g' ∧ 0 = o := by simpa using e
  rw [bools_get N f k hk] at hu
  obtain rfl := Option.some.inj hu
  rw [Nat.zero_add] at hc hf
  exact ⟨hc, hf⟩
theorem OwnF.stored {w : World} {B : Nat} {g N : Nat} {f : Nat → Bool} (h : OwnF w B (some ⟨g, 0, none⟩) N f) {k : Nat} (hk : k < N) (v : Bool) (f' : Nat → Bool) (hf : ∀ j, j < N → f' j = if j = k then v else f j) :
    OwnF (w.setCell ⟨g, k, none⟩ (.bool v)) B (some ⟨g, 0, none⟩) N f' := by
  have := Own.stored h hk (.bool v)
  rw [Nat.zero_add, bools_set] at this
  unfold OwnF
  have e : bools N f' = bools N (fun j => if j = k then v else f j) := by
    unfold bools
    apply List.map_congr_left
    intro j hj
    rw [hf j (by simpa using hj)]
  rw [e]
  exact this
theorem OwnF.congr {w : World} {B : Nat} {A : Option Addr} {N : Nat} {f f' : Nat → Bool} (h : OwnF w B A N f) (hf : ∀ j, j < N → f' j = f j) : OwnF w B A N f' := by
  unfold OwnF
  have e : bools N f' = bools N f := by
    unfold bools
    apply List.map_congr_left
    intro j hj
    rw [hf j (by simpa using hj)]
  rw [e]
  exact h
/-- the powers in memory -/
def byV : List Value := byL.map fun (k : Nat) => Value.int .i64 (k : Int)
theorem byV_get (t : Nat) (h : t < 17) : ∃ k, byL[t]? = some k ∧ k ≤ 28 ∧ byV[t]? = some (.int .i64 (k : Int)) := by
  have hl : t < byL.length := h
  refine ⟨byL[t], List.getElem?_eq_getElem hl, by_small _ (List.getElem_mem hl), ?_⟩
  simp [byV, List.getElem?_eq_getElem hl]
theorem infoF : (Tryz.prog.info? 4).map (fun i => (i.zero, i.size, i.bytes)) = some (some (.bool false), 1, 1) := by kernel_rfl

set_option maxHeartbeats 2000000 in
theorem rsum_any (w : World) (A : Option Addr) (n c : Nat) (l : List UInt8) (h : Sl w 1 A n c (bc l)) (hn : n ≤ 4398046511104) :
    Calls Tryz.prog 93 #[.slice A n c] w fun e w' => e = .returned (.int .u32 (sumL l : Nat)) ∧ Below w.heap.size w w' := by
  have Hl : Hid (l.length = n) := h.lenb
  obtain ⟨i0, hi0, hz, hs1, hb1⟩ := info_parts infoF
  obtain ⟨N, hN⟩ : ∃ N, N = 8 * n + 32 := ⟨_, rfl⟩
  have HN := Lib.hid hN
  have hN1 : 32 ≤ N := by omega
  have hN2 : N ≤ 35184372088864 := by omega
  clear hN
  go_enter Tryz.func93, Tryz.ntmps93
  go_wp2_with (at_make; refine wpList_mk _ rfl (.tmp 15) (.tmp 15) _ rfl w.heap.size 4 i0 (.bool false) 1 Tryz.underlying137 hi0 hz hs1 hb1 rfl _ _ _ _ N rfl rfl ?_ ?_ ?_ ?_ ?_ ?_)
  · have := HN.out; omega
  · have := HN.out; omega
  · omega
  · unfold maxLen; omega
  · exact Nat.le_refl _
  intro w1 hown1 hb1 _
  have hown1 : OwnF w1 w.heap.size (some ⟨w.heap.size, 0, none⟩) N (fun _ => false) := by
    unfold OwnF bools
    have e : (List.range N).map (fun _ => Value.bool false) = List.replicate N (.bool false) := by
      apply List.ext_getElem?
      intro j
      by_cases hj : j < N <;> simp [hj]
    rw [e]
    exact hown1
  clear hi0 hz hs1
  have h1 := h.below (by omega) hb1
  have hc := h.capm
  unfold maxLen at hc
  go_wp2
  go_loopw [20] (fun i wr => ∃ k : Nat, k ≤ 8 * n ∧ i = .int .i64 k ∧ Below w.heap.size w wr ∧ ∃ f, OwnF wr w.heap.size (some ⟨w.heap.size, 0, none⟩) N f ∧ Hid (∀ j, j < N → f j = (mbit l j && decide (j < k)))) (fun i _ => 8 * n - (intOf i).toNat)
  case atStart => exact ⟨0, Nat.zero_le _, rfl, hb1, _, hown1, by intro j _; simp⟩
  case round =>
    obtain ⟨k, hk, rfl, hbr, f, hof, Hf⟩ := hrel
    by_cases hlt : k < 8 * n
    · obtain ⟨b, o, x, rfl, hx, hxl, hbyte⟩ := (h.below (by omega) hbr).byte (k := k / 8) (by have := Hl.out; omega)
      have HX := Lib.hid hx
      obtain ⟨hcell, hfr⟩ := hof.place (k := k) (by have := HN.out; omega)
      have Hof := Lib.hid hof
      clear hx hof
      have hkN : k < N := by have := HN.out; omega
      go_wp2
      go_roundw
      case rel =>
        refine ⟨k + 1, by omega, by go_num, hbr.setCell (Nat.le_refl _) _, fun j => mbit l j && decide (j < k + 1), ?_, fun j _ => rfl⟩
        refine Hof.out.stored hkN _ _ (fun j hj => ?_)
        rw [bit_spelt, ← HX.out, Hf.out j hj]
        by_cases e : j = k
        · subst e
          simp only [↓reduceIte]
          have hkl : j / 8 < l.length := by have := Hl.out; omega
          simp [mbit, List.getD_eq_getElem?_getD, List.getElem?_eq_getElem hkl]
        · rw [if_neg e]
          by_cases e2 : j < k
          · simp [e2, show j < k + 1 by omega]
          · simp [e2, show ¬ j < k + 1 by omega]
      case measure => simp [intOf]; omega
    · obtain rfl : k = 8 * n := by omega
      have hof2 : OwnF wr w.heap.size (some ⟨w.heap.size, 0, none⟩) N (mbit l) := hof.congr fun j hj => by
        rw [Hf.out j hj]
        by_cases e : j < 8 * n
        · simp [e]
        · simp [e, mbit_past l j (by have := Hl.out; omega)]
      clear hof Hf h hown1 hb1 h1
      go_wp2
      go_loopw [38] (fun i wr => ∃ k : Nat, k ≤ 32 ∧ i = .int .i64 k ∧ Below w.heap.size w wr ∧ ∃ f, OwnF wr w.heap.size (some ⟨w.heap.size, 0, none⟩) N f ∧ Hid (∀ j, j < N → f j = (mbit l j ^^ decide (j < k)))) (fun i _ => 32 - (intOf i).toNat)
      case atStart => exact ⟨0, Nat.zero_le _, rfl, hbr, _, hof2, by intro j _; simp⟩
      case round =>
        clear hof2 hbr
        obtain ⟨k, hk, rfl, hbr, f, hof, Hf⟩ := hrel
        by_cases hlt : k < 32
        · obtain ⟨hcell, hfr⟩ := hof.place (k := k) (by omega)
          have Hof := Lib.hid hof
          clear hof
          have hkN : k < N := by omega
          go_wp2
          go_roundw
          case rel =>
            refine ⟨k + 1, by omega, by go_num, hbr.setCell (Nat.le_refl _) _, fun j => (mbit l j ^^ decide (j < k + 1)), ?_, fun j _ => rfl⟩
            refine Hof.out.stored hkN _ _ (fun j hj => ?_)
            rw [Hf.out k hkN, Hf.out j hj]
            by_cases e : j = k
            · subst e
              simp
            · rw [if_neg e]
              by_cases e2 : j < k
              · simp [e2, show j < k + 1 by omega]
              · simp [e2, show ¬ j < k + 1 by omega]
          case measure => simp [intOf]; omega
        · obtain rfl : k = 32 := by omega
          have hof2 := hof
          obtain ⟨wo, rfl⟩ : ∃ wo : World, wo = wr := ⟨_, rfl⟩
          have hgb : w.heap.size < wo.heap.size := (Own.lt hof _ (by simp [blk]; omega)).2
          have hba := (Below.refl wo.heap.size wo).alloc (Nat.le_refl _) (.cells byV.toArray 3)
          have hby : Own (wo.alloc (.cells byV.toArray 3)) 0 3 1 (some ⟨wo.heap.size, 0, none⟩) 17 17 byV :=
            Own.fresh wo 0 3 1 17 17 _ _ (Nat.zero_le _) (Nat.le_refl _) (by unfold maxLen; omega) rfl rfl rfl
          have hof3 := Own.below hof hba
          have hw3 : Win N (mbit l) 0 f := Win.start N _ _ (fun j hj => Hf.out j hj) hN1
          have hbr3 := hbr.trans (hba.mono hbr.size)
          clear hof Hf hba hbr hof2
          go_wp2
          go_loopw [7] (fun i wr => ∃ k : Nat, k ≤ 8 * n ∧ i = .int .i64 k ∧ Below w.heap.size w wr ∧ Own wr 0 3 1 (some ⟨wo.heap.size, 0, none⟩) 17 17 byV ∧ ∃ f, OwnF wr w.heap.size (some ⟨w.heap.size, 0, none⟩) N f ∧ Win N (mbit l) k f) (fun i _ => 8 * n - (intOf i).toNat)
          case atStart => exact ⟨0, Nat.zero_le _, rfl, hbr3, hby, f, hof3, hw3⟩
          case round =>
            clear hof3 hbr3 hby hw3
            obtain ⟨k, hk, rfl, hbr, hby, f, hof, hw⟩ := hrel
            by_cases hlt : k < 8 * n
            · have hkN : k + 32 < N := by have := HN.out; omega
              obtain ⟨hcell, hfr⟩ := hof.place (k := k) (by omega)
              have Hof := Lib.hid hof
              cases hfk : f k with
              | false =>
                rw [hfk] at hcell
                have Hw := Lib.hid (hw.zero hfk hkN)
                clear hof hw hfk
                go_wp2
                go_roundw
                case rel => exact ⟨k + 1, by omega, by go_num, hbr, hby, f, Hof.out, Hw.out⟩
                case measure => simp [intOf]; omega
              | true =>
                rw [hfk] at hcell
                have Hw := Lib.hid hw
                have Hfk := Lib.hid hfk
                clear hof hw hfk
                go_wp2
                obtain ⟨wi, rfl⟩ : ∃ wi : World, wi = wr := ⟨_, rfl⟩
                go_loopw [64] (fun i wr => ∃ t : Nat, t ≤ 17 ∧ i = .int .i64 t ∧ Below w.heap.size w wr ∧ Own wr 0 3 1 (some ⟨wo.heap.size, 0, none⟩) 17 17 byV ∧ ∃ f', OwnF wr w.heap.size (some ⟨w.heap.size, 0, none⟩) N f' ∧ Hid (∀ j, j < N → f' j = (f j ^^ hits (byL.take t) (fun b => decide (k + 32 - b = j))))) (fun i _ => 17 - (intOf i).toNat)
                case atStart => exact ⟨0, Nat.zero_le _, rfl, hbr, hby, f, Hof.out, fun j _ => by simp [hits]⟩
                case round =>
                  clear hcell hfr hbr hby
                  obtain ⟨t, ht, rfl, hbr, hby, f', hof', Hf'⟩ := hrel
                  by_cases htl : t < 17
                  · obtain ⟨bk, hbk, hb28, hbv⟩ := byV_get t htl
                    obtain ⟨gb, ob, ub, eb, _, _, hub, hcb, _⟩ := Own.place hby htl
                    obtain ⟨rfl, rfl⟩ : wo.heap.size = gb ∧ 0 = ob := by simpa using eb
                    rw [hbv] at hub
                    obtain rfl := Option.some.inj hub
                    rw [Nat.zero_add] at hcb
                    obtain ⟨hcell, hfr⟩ := hof'.place (k := k + 32 - bk) (by omega)
                    have Hof' := Lib.hid hof'
                    have Hbk := Lib.hid hbk
                    have hidx : k + 32 - bk < N := by omega
                    have Hby := Lib.hid hby
                    clear hof' eb hub hbv hbk hby
                    go_wp2
                    go_roundw
                    case rel =>
                      refine ⟨t + 1, by omega, by go_num, hbr.setCell (Nat.le_refl _) _, Hby.out.keep (fun b e => Below.heap_setCell _ _ _ _ (by simp [blk] at e; simp; omega)), fun j => (f j ^^ hits (byL.take (t + 1)) (fun b => decide (k + 32 - b = j))), ?_, fun j _ => rfl⟩
                      refine Hof'.out.stored hidx _ _ (fun j hj => ?_)
                      have hl : t < byL.length := htl
                      have e1 : byL[t] = bk := by have := Hbk.out; rw [List.getElem?_eq_getElem hl] at this; exact Option.some.inj this
                      rw [take_snoc byL t hl, hits_snoc, e1, ← Bool.xor_assoc, ← Hf'.out j hj]
                      by_cases e : j = k + 32 - bk
                      · subst e
                        simp
                      · rw [if_neg e]
                        simp [Ne.symm e]
                    case measure => simp [intOf]; omega
                  · obtain rfl : t = 17 := by omega
                    have hw2 := Hw.out.one Hfk.out (f' := f') (fun j hj => by rw [Hf'.out j hj]; rfl) hkN
                    have Hw2 := Lib.hid hw2
                    have Hof' := Lib.hid hof'
                    have Hby := Lib.hid hby
                    clear hw2 hof' hby
                    go_wp2
                    go_roundw
                    case rel => exact ⟨k + 1, by omega, by go_num, hbr, Hby.out, f', Hof'.out, Hw2.out⟩
                    case measure => simp [intOf]; omega
            · obtain rfl : k = 8 * n := by omega
              have hNN : ¬ 8 * n + 32 < N := by have := HN.out; omega
              have hbit : ∀ j, j < 32 → (!f (8 * n + j)) = (sumL l).testBit j := fun j hj => by
                have hl := Hl.out
                subst hl
                have e : N = 8 * l.length + 32 := HN.out
                subst e
                rw [hw.last (mbit_past l) j hj, sum_reg]
              have Hbit := Lib.hid hbit
              have hS := sumL_lt l
              clear hbit hw hby
              generalize hSe : sumL l = S at *
              have HSe := Lib.hid hSe
              clear hSe
              go_wp2
              go_loop [10, 11] (fun s i => ∃ (z : Int) (j : Nat), z = (j : Int) - 1 ∧ j ≤ 32 ∧ i = .int .i64 z ∧ s = .int .u32 (S / 2 ^ j : Nat)) (fun _ i => (intOf i + 1).toNat)
              case atStart => exact ⟨31, 32, by omega, by omega, rfl, by simp; omega⟩
              case round =>
                obtain ⟨z, j, hz, hj, rfl, rfl⟩ := hrel
                rcases Nat.eq_zero_or_pos j with h0 | h0
                · subst h0
                  obtain rfl : z = -1 := by omega
                  clear hz
                  go_wp2
                  go_ret
                  exact ⟨ret_int (by rw [HSe.out]), hbr⟩
                · obtain ⟨j, rfl⟩ : ∃ i, j = i + 1 := ⟨j - 1, by omega⟩
                  obtain rfl : z = (j : Int) := by omega
                  clear hz
                  obtain ⟨hcell, hfr⟩ := hof.place (k := 8 * n + j) (by have := HN.out; omega)
                  have hst := high_step S j
                  rw [← Hbit.out j (by omega)] at hst
                  have hlt : S / 2 ^ j < 4294967296 := Nat.lt_of_le_of_lt (Nat.div_le_self _ _) hS
                  have hNN2 : N = 8 * n + 32 := HN.out
                  generalize S / 2 ^ (j + 1) = s1 at *
                  generalize hs2 : S / 2 ^ j = s2 at *
                  have Hs2 := Lib.hid hs2
                  have Hof := Lib.hid hof
                  clear hof hs2
                  have hNi : (N : Int) - 32 + j = ((8 * n + j : Nat) : Int) := by omega
                  have hNj : 8 * n + j < N := by omega
                  clear hNN2
                  cases hfb : f (8 * n + j)
                  all_goals
                    rw [hfb] at hcell hst
                    have hst2 : s2 = 2 * s1 ∨ s2 = 2 * s1 + 1 := by simp at hst; omega
                    have Hst := Lib.hid hst
                    clear hst hfb
                    go_wp2
                    go_round
                    case rel =>
                      refine ⟨_, j, rfl, by omega, rfl, ?_⟩
                      rw [Hs2.out]
                      congr 1
                      have := Hst.out
                      simp at this
                      omega
                    case measure => simp [intOf]
end Go.Proofs.YtpffieogkfndaaaGreatDoor

namespace Go.Proofs.YtpffieogkfndaaaGreatDoor
set_option maxRecDepth 20000
set_option linter.unusedVariables false
set_option linter.unusedSimpArgs false
open Go.RowKit

set_option maxHeartbeats 400000 in
theorem rmask_any (w : World) (x : Nat) (hx : x < 4294967296) :
    Calls Tryz.prog 92 #[.int .u32 (x : Int)] w fun e w' => e = .returned (.int .u32 (maskL x : Nat)) ∧ w = w' := by
  go_enter Tryz.func92, Tryz.ntmps92
  go_wp2
  go_ret
  refine ⟨ret_int ?_, rfl⟩
  unfold maskL
  omega
set_option maxHeartbeats 1000000 in
theorem rclose_any (w : World) (A : Option Addr) (n c : Nat) (l : List UInt8) (h : Sl w 1 A n c (bc l)) (hn : n ≤ 4398046511104) :
    Calls Tryz.prog 50 #[.slice A n c] w (NewB w (closeL l)) := by
  have hsm := sumL_lt l
  have hml := maskL_lt (sumL l)
  go_enter Tryz.func50, Tryz.ntmps50
  go_wp2_with fail
  refine (rsum_any w A n c l h hn).mono ?_
  rintro e w1 ⟨rfl, hb1⟩
  have h1 := h.below (by omega) hb1
  go_wp2_with fail
  refine (rmask_any _ (sumL l) hsm).mono ?_
  rintro e w' ⟨rfl, rfl⟩
  go_wp2_with fail
  refine (copy_any _ A n c l h1 (by omega)).mono ?_
  rintro e w2 ⟨A2, n2, c2, rfl, ho2, hb2⟩
  generalize hs : maskL (sumL l) = s at *
  have Hs := Lib.hid hs
  clear hs
  go_wp2_with (at_builtin; refine wpList_appB _ rfl (.tmp 8) (.tmp 20) rfl w.heap.size A2 n2 c2 l rfl ?_ _ 4 4 (le4 s) rfl ?_ ?_ ?_ ?_)
  · exact (ho2.mono hb1.size).below ((Below.refl _ _).alloc (Nat.le_refl _) _)
  · refine (Own.lit _ 0 _ 4 _ _ (Nat.zero_le _) rfl (by unfold maxLen; omega) ?_).sl
    simp [bc, le4]
    omega
  · have := ho2.len'; have := h.lenb; omega
  · have := hb1.size; have := hb2.size; simp; omega
  intro A3 c3 w3 ho3 hg3 _
  go_wp2
  go_ret
  refine ⟨A3, _, c3, rfl, ?_, ?_⟩
  · unfold closeL; rw [Hs.out]; exact ho3
  · refine ((hb1.trans (hb2.mono hb1.size)).alloc (Nat.le_trans hb1.size hb2.size) _).grown hg3 ?_ ?_
    · have := hb1.size; have := hb2.size; simp; omega
    · intro k hk
      have := hb1.size
      have := (Own.lt ho2 k hk).1
      omega
end Go.Proofs.YtpffieogkfndaaaGreatDoor

namespace Go.Proofs.YtpffieogkfndaaaGreatDoor
set_option maxRecDepth 20000
set_option linter.unusedVariables false
set_option linter.unusedSimpArgs false
def checkSpanL (s : SpanL) : Nat := if 1 ≤ s.lo.length ∧ s.lo.length ≤ 64 ∧ s.hi.length ≤ 64 ∧ ltL s.lo s.hi = true ∧ 1 ≤ s.seq.toNat ∧ s.seq.toNat < 72057594037927936 then 0 else 4
theorem checkSpan_zero {s : SpanL} (h : checkSpanL s = 0) : 1 ≤ s.lo.length ∧ s.lo.length ≤ 64 ∧ s.hi.length ≤ 64 ∧ ltL s.lo s.hi = true ∧ 1 ≤ s.seq.toNat ∧ s.seq.toNat < 72057594037927936 := by
  unfold checkSpanL at h
  split at h
  · assumption
  · omega
def coversS (s : SpanL) (key : List UInt8) : Bool := !ltL key s.lo && ltL key s.hi
def covStep (key : List UInt8) (seq : Nat) (best : Nat) (s : SpanL) : Nat := if s.seq.toNat ≤ seq ∧ coversS s key = true then max best s.seq.toNat else best
def coverL (sp : List SpanL) (key : List UInt8) (seq : Nat) : Nat := sp.foldl (covStep key seq) 0
def checkTabL (l : List EntL) (sp : List SpanL) : Nat :=
  if 1000 < l.length ∨ 1000 < sp.length then 3 else if l.length + sp.length = 0 then 2 else if firstErr checkEntL l ≠ 0 then firstErr checkEntL l else if risesL l = true then firstErr checkSpanL sp else 10
theorem checkTab_zero {l : List EntL} {sp : List SpanL} (h : checkTabL l sp = 0) : l.length ≤ 1000 ∧ sp.length ≤ 1000 ∧ 0 < l.length + sp.length ∧ (∀ e ∈ l, checkKey e.key = 0 ∧ e.value.length ≤ 512) ∧ risesL l = true ∧ ∀ s ∈ sp, checkSpanL s = 0 := by
  unfold checkTabL at h
  split at h
  · omega
  · rename_i h1
    split at h
    · omega
    · rename_i h2
      split at h
      · rename_i h3; exact absurd h h3
      · rename_i h3
        split at h
        · rename_i h4
          refine ⟨by omega, by omega, by omega, fun e he => checkEnt_zero ((firstErr_zero checkEntL l).1 (by omega) e he), h4, (firstErr_zero checkSpanL sp).1 h⟩
        · omega
/-- the entries of leaf i -/
def chunkL (l : List EntL) (i : Nat) : List EntL := (l.drop (8 * i)).take 8
def lastKey (c : List EntL) : KeyL := ((c[c.length - 1]?).map (·.key)).getD noKey
def sealedL (l : List EntL) (i : Nat) : List UInt8 := closeL (leafBytesL (chunkL l i))
/-- of the first j leaves: their bytes, their lines of the index, their pages -/
def leavesN (l : List EntL) (j : Nat) : List UInt8 := (List.range j).flatMap (sealedL l)
def lineL (l : List EntL) (i : Nat) : List UInt8 := keyBytesL (lastKey (chunkL l i)) ++ numL (sealedL l i).length
def indexN (l : List EntL) (j : Nat) : List UInt8 := (List.range j).flatMap (lineL l)
structure PageL where
  last : KeyL
  lo : Nat
  hi : Nat
def pageL (l : List EntL) (i : Nat) : PageL := ⟨lastKey (chunkL l i), (leavesN l i).length, (leavesN l (i + 1)).length⟩
def pagesN (l : List EntL) (j : Nat) : List PageL := (List.range j).map (pageL l)
def leafCount (l : List EntL) : Nat := (l.length + 7) / 8
def rangeL (s : SpanL) : List UInt8 := textL s.lo ++ (textL s.hi ++ numL s.seq.toNat)
def rangesL (sp : List SpanL) : List UInt8 := sp.flatMap rangeL
def usersL (l : List EntL) : List (List UInt8) := l.map (·.key.user)
def partsL (l : List EntL) (sp : List SpanL) : List (List UInt8) := [leavesN l (leafCount l), closeL (indexN l (leafCount l)), closeL (buildL 10 (usersL l)), closeL (rangesL sp)]
def footL (ps : List (List UInt8)) : List UInt8 := closeL (ps.flatMap (fun p => le4 p.length) ++ [26, 177, 229])
def tabBytesL (l : List EntL) (sp : List SpanL) : List UInt8 := (partsL l sp).flatten ++ footL (partsL l sp)
def tabBE (l : List EntL) (sp : List SpanL) : List UInt8 × Nat := if checkTabL l sp = 0 then (tabBytesL l sp, 0) else ([], checkTabL l sp)
theorem leavesN_succ (l : List EntL) (j : Nat) : leavesN l (j + 1) = leavesN l j ++ sealedL l j := by simp [leavesN, List.range_succ]
theorem indexN_succ (l : List EntL) (j : Nat) : indexN l (j + 1) = indexN l j ++ lineL l j := by simp [indexN, List.range_succ]
theorem closeL_len (p : List UInt8) : (closeL p).length = p.length + 4 := by simp [closeL, le4]
theorem open_shut (p : List UInt8) : openL (closeL p) = (p, 0) := by
  unfold openL
  have h : (closeL p).take ((closeL p).length - 4) = p := by
    rw [closeL_len, Nat.add_sub_cancel]
    unfold closeL
    exact List.take_left
  rw [if_neg (by rw [closeL_len]; omega), h, if_pos (by simp)]
theorem open_inv {p q : List UInt8} (h : openL p = (q, 0)) : p = closeL q := by
  unfold openL at h
  split at h
  · simp at h
  · split at h
    · rename_i h2
      obtain ⟨rfl, -⟩ := Prod.mk.inj h
      exact (eq_of_beq h2).symm
    · simp at h
/-- a leaf of right entries is right -/
theorem rises_chunk (l : List EntL) (h : risesL l = true) (i : Nat) : risesL (chunkL l i) = true := by
  rw [risesL_iff] at h ⊢
  intro k hk
  unfold chunkL at hk ⊢
  simp only [List.length_take, List.length_drop] at hk
  simp only [List.getElem_take, List.getElem_drop]
  exact h (8 * i + k) (by omega)
theorem chunk_check {l : List EntL} (h1 : ∀ e ∈ l, checkKey e.key = 0 ∧ e.value.length ≤ 512) (h2 : risesL l = true) (i : Nat) : checkLeafL (chunkL l i) = 0 := by
  have hl : (chunkL l i).length ≤ 8 := by unfold chunkL; simp; omega
  have hf : firstErr checkEntL (chunkL l i) = 0 := (firstErr_zero _ _).2 fun e he => by
    obtain ⟨g1, g2⟩ := h1 e (List.mem_of_mem_drop (List.mem_of_mem_take he))
    unfold checkEntL
    rw [if_neg (by omega), if_neg (by omega)]
  unfold checkLeafL
  rw [if_neg (by omega), hf, if_neg (by omega), if_pos (rises_chunk l h2 i)]
theorem chunk_len (l : List EntL) (i : Nat) : (chunkL l i).length = min 8 (l.length - 8 * i) := by unfold chunkL; simp
theorem lastKey_mem {l : List EntL} {i : Nat} (h : i < leafCount l) : ∃ e ∈ l, e.key = lastKey (chunkL l i) := by
  have hl := chunk_len l i
  unfold leafCount at h
  have h0 : (chunkL l i).length - 1 < (chunkL l i).length := by omega
  refine ⟨(chunkL l i)[(chunkL l i).length - 1], List.mem_of_mem_drop (List.mem_of_mem_take (List.getElem_mem h0)), ?_⟩
  unfold lastKey
  rw [List.getElem?_eq_getElem h0]
  rfl
theorem chunks_all (l : List EntL) : (List.range (leafCount l)).flatMap (chunkL l) = l := by
  have : ∀ j, j ≤ leafCount l → (List.range j).flatMap (chunkL l) = l.take (8 * j) := by
    intro j
    induction j with
    | zero => intro _; simp
    | succ j ih =>
      intro hj
      rw [List.range_succ, List.flatMap_append, ih (by omega)]
      simp only [List.flatMap_cons, List.flatMap_nil, List.append_nil]
      unfold chunkL
      rw [show 8 * (j + 1) = 8 * j + 8 by omega, List.take_add]
  rw [this _ (Nat.le_refl _)]
  unfold leafCount
  rw [List.take_of_length_le (by omega)]
-- WHAT THE PARTS SAY
/-- the pages of an index -/
def parseP : Nat → Nat → List UInt8 → Option (List PageL)
  | 0, _, p => if p = [] then some [] else none
  | m + 1, at_, p => if p = [] then some [] else
      if (keyReadL p).2.2 ≠ 0 ∨ (takeL (keyReadL p).2.1).2.2 ≠ 0 ∨ 1048576 < (takeL (keyReadL p).2.1).1 then none
      else (parseP m (at_ + (takeL (keyReadL p).2.1).1) (takeL (keyReadL p).2.1).2.1).map (⟨(keyReadL p).1, at_, at_ + (takeL (keyReadL p).2.1).1⟩ :: ·)
def pagesL (p : List UInt8) : Option (List PageL) := parseP p.length 0 p
/-- the spans of a part -/
def parseS : Nat → List UInt8 → Option (List SpanL)
  | 0, p => if p = [] then some [] else none
  | m + 1, p => if p = [] then some [] else
      if (takeTextL p 64).2.2 ≠ 0 ∨ (takeTextL (takeTextL p 64).2.1 64).2.2 ≠ 0 ∨ (takeL (takeTextL (takeTextL p 64).2.1 64).2.1).2.2 ≠ 0 then none
      else (parseS m (takeL (takeTextL (takeTextL p 64).2.1 64).2.1).2.1).map (⟨(takeTextL p 64).1, (takeTextL (takeTextL p 64).2.1 64).1, UInt64.ofNat (takeL (takeTextL (takeTextL p 64).2.1 64).2.1).1⟩ :: ·)
def spansL (p : List UInt8) : Option (List SpanL) := parseS p.length p
/-- the entries of one leaf, of some leaves -/
def leafAtL (p : List UInt8) (x : PageL) : Option (List EntL) :=
  if p.length < x.hi then none else if (openL ((p.drop x.lo).take (x.hi - x.lo))).2 ≠ 0 then none else readLeafL (openL ((p.drop x.lo).take (x.hi - x.lo))).1
def entriesL (p : List UInt8) : List PageL → Option (List EntL)
  | [] => some []
  | x :: xs => match leafAtL p x with
    | none => none
    | some l => (entriesL p xs).map (l ++ ·)
/-- a section's length in the foot -/
def secN (e : List UInt8) (i : Nat) : Nat := (e.getD (4 * i) 0).toNat + 256 * (e.getD (4 * i + 1) 0).toNat + 65536 * (e.getD (4 * i + 2) 0).toNat + 16777216 * (e.getD (4 * i + 3) 0).toNat
def secAt (e : List UInt8) (i : Nat) : Nat := ((List.range i).map (secN e)).sum
def sectionsL (p : List UInt8) : Option (List (List UInt8)) :=
  if p.length < 23 then none else
  if (openL (p.drop (p.length - 23))).2 ≠ 0 then none else
  if secAt (openL (p.drop (p.length - 23))).1 4 = p.length - 23 then
    some ((List.range 4).map fun i => (p.drop (secAt (openL (p.drop (p.length - 23))).1 i)).take (secN (openL (p.drop (p.length - 23))).1 i)) else none
theorem secAt_succ (e : List UInt8) (i : Nat) : secAt e (i + 1) = secAt e i + secN e i := by simp [secAt, List.range_succ]
theorem le4_val (n : Nat) (h : n < 4294967296) : (UInt8.ofNat n).toNat + 256 * (UInt8.ofNat (n / 256)).toNat + 65536 * (UInt8.ofNat (n / 65536)).toNat + 16777216 * (UInt8.ofNat (n / 16777216)).toNat = n := by
  simp only [UInt8.toNat_ofNat']
  omega
theorem footL_len (a b c d : List UInt8) : (footL [a, b, c, d]).length = 23 := by simp [footL, closeL_len, le4]
theorem secN_foot (a b c d : List UInt8) (ha : a.length < 4294967296) (hb : b.length < 4294967296) (hc : c.length < 4294967296) (hd : d.length < 4294967296) :
    secN (([a, b, c, d].flatMap (fun p => le4 p.length)) ++ [26, 177, 229]) 0 = a.length ∧ secN (([a, b, c, d].flatMap (fun p => le4 p.length)) ++ [26, 177, 229]) 1 = b.length ∧
    secN (([a, b, c, d].flatMap (fun p => le4 p.length)) ++ [26, 177, 229]) 2 = c.length ∧ secN (([a, b, c, d].flatMap (fun p => le4 p.length)) ++ [26, 177, 229]) 3 = d.length := by
  refine ⟨le4_val _ ha, le4_val _ hb, le4_val _ hc, le4_val _ hd⟩
theorem sections_of (a b c d : List UInt8) (ha : a.length < 4294967296) (hb : b.length < 4294967296) (hc : c.length < 4294967296) (hd : d.length < 4294967296) :
    sectionsL ([a, b, c, d].flatten ++ footL [a, b, c, d]) = some [a, b, c, d] := by
  have hf := footL_len a b c d
  have hl : ([a, b, c, d].flatten ++ footL [a, b, c, d]).length - 23 = [a, b, c, d].flatten.length := by rw [List.length_append, hf]; omega
  have hdr : ([a, b, c, d].flatten ++ footL [a, b, c, d]).drop (([a, b, c, d].flatten ++ footL [a, b, c, d]).length - 23) = footL [a, b, c, d] := by rw [hl]; exact List.drop_left
  have ho : openL (([a, b, c, d].flatten ++ footL [a, b, c, d]).drop (([a, b, c, d].flatten ++ footL [a, b, c, d]).length - 23)) = (([a, b, c, d].flatMap (fun p => le4 p.length)) ++ [26, 177, 229], 0) := by
    rw [hdr]
    exact open_shut _
  obtain ⟨s0, s1, s2, s3⟩ := secN_foot a b c d ha hb hc hd
  unfold sectionsL
  rw [if_neg (by rw [List.length_append, hf]; omega), ho, hl]
  simp only [ne_eq, not_true_eq_false, if_false]
  generalize ([a, b, c, d].flatMap (fun p => le4 p.length)) ++ [26, 177, 229] = E at *
  have t0 : secAt E 0 = 0 := rfl
  have t1 : secAt E 1 = a.length := by rw [secAt_succ, t0, s0]; omega
  have t2 : secAt E 2 = a.length + b.length := by rw [secAt_succ, t1, s1]
  have t3 : secAt E 3 = a.length + b.length + c.length := by rw [secAt_succ, t2, s2]
  have t4 : secAt E 4 = a.length + b.length + c.length + d.length := by rw [secAt_succ, t3, s3]
  have hall : [a, b, c, d].flatten.length = a.length + b.length + c.length + d.length := by simp; omega
  rw [if_pos (by rw [hall]; exact t4)]
  have hF : [a, b, c, d].flatten = a ++ (b ++ (c ++ d)) := by simp
  rw [show List.range 4 = [0, 1, 2, 3] from rfl]
  simp only [List.map_cons, List.map_nil, t0, t1, t2, t3, s0, s1, s2, s3, hF, List.append_assoc]
  congr 1
  refine List.cons_eq_cons.2 ⟨?_, List.cons_eq_cons.2 ⟨?_, List.cons_eq_cons.2 ⟨?_, List.cons_eq_cons.2 ⟨?_, rfl⟩⟩⟩⟩
  · rw [List.drop_zero, List.take_left]
  · rw [List.drop_left, List.take_left]
  · rw [← List.append_assoc a b, List.drop_left' (by simp), List.take_left]
  · rw [← List.append_assoc b c, ← List.append_assoc a (b ++ c), List.drop_left' (by simp; omega), List.take_left]
theorem sealed_len (l : List EntL) (h : ∀ e ∈ l, checkKey e.key = 0 ∧ e.value.length ≤ 512) (i : Nat) : (sealedL l i).length ≤ 5000 := by
  have h1 := leafBody_len (chunkL l i) 0 [] fun e he => h e (List.mem_of_mem_drop (List.mem_of_mem_take he))
  have h2 := chunk_len l i
  unfold sealedL
  rw [closeL_len]
  unfold leafBytesL
  simp only [List.length_append, twosL_len, starts_len]
  have h3 : (twoL ((chunkL l i).length + 3) ).length = 2 := rfl
  have : (twoL (((chunkL l i).length + 3) / 4)).length = 2 := rfl
  omega
theorem parseP_of {l : List EntL} (h1 : ∀ e ∈ l, checkKey e.key = 0 ∧ e.value.length ≤ 512) : ∀ (d j m : Nat), j + d = leafCount l → d ≤ m →
    parseP m (leavesN l j).length ((List.range' j d).flatMap (lineL l)) = some ((List.range' j d).map (pageL l))
  | 0, j, m, _, _ => by cases m <;> simp [parseP]
  | d + 1, j, 0, _, h => by omega
  | d + 1, j, m + 1, hj, hm => by
    have ih := parseP_of h1 d (j + 1) m (by omega) (by omega)
    obtain ⟨e, he, hk⟩ := lastKey_mem (l := l) (i := j) (by omega)
    have hck : checkKey (lastKey (chunkL l j)) = 0 := by rw [← hk]; exact (h1 e he).1
    rw [List.range'_succ, List.flatMap_cons, List.map_cons]
    unfold parseP
    have hs := sealed_len l h1 j
    have e1 : keyReadL (lineL l j ++ (List.range' (j + 1) d).flatMap (lineL l)) = (lastKey (chunkL l j), numL (sealedL l j).length ++ (List.range' (j + 1) d).flatMap (lineL l), 0) := by
      unfold lineL
      rw [List.append_assoc]
      exact keyRead_bytes _ hck _
    have e2 := take_num (sealedL l j).length (by omega) ((List.range' (j + 1) d).flatMap (lineL l))
    have hne : lineL l j ++ (List.range' (j + 1) d).flatMap (lineL l) ≠ [] := by
      intro q
      have := congrArg List.length q
      simp only [List.length_append, List.length_nil] at this
      have h3 := num_len (sealedL l j).length
      unfold lineL at this
      simp only [List.length_append] at this
      omega
    rw [if_neg hne, e1]
    simp only [e2]
    rw [if_neg (by omega)]
    have e3 : (leavesN l j).length + (sealedL l j).length = (leavesN l (j + 1)).length := by rw [leavesN_succ, List.length_append]
    rw [e3, ih]
    simp [pageL]
theorem line_pos (l : List EntL) (i : Nat) : 1 ≤ (lineL l i).length := by
  have := num_len (sealedL l i).length
  unfold lineL
  rw [List.length_append]
  omega
theorem flat_ge {f : Nat → List UInt8} (h : ∀ i, 1 ≤ (f i).length) : ∀ (d j : Nat), d ≤ ((List.range' j d).flatMap f).length
  | 0, _ => by simp
  | d + 1, j => by
    have := flat_ge h d (j + 1)
    rw [List.range'_succ, List.flatMap_cons, List.length_append]
    have := h j
    omega
theorem pages_of {l : List EntL} (h1 : ∀ e ∈ l, checkKey e.key = 0 ∧ e.value.length ≤ 512) : pagesL (indexN l (leafCount l)) = some (pagesN l (leafCount l)) := by
  have h := parseP_of h1 (leafCount l) 0 (indexN l (leafCount l)).length (by omega) (by
    have := flat_ge (line_pos l) (leafCount l) 0
    unfold indexN
    rw [List.range_eq_range']
    exact this)
  unfold pagesL
  unfold indexN pagesN at *
  rw [List.range_eq_range']
  simpa [leavesN, List.range_eq_range'] using h
theorem text_span (t : List UInt8) (h : t.length ≤ 64) (rest : List UInt8) : takeTextL (textL t ++ rest) 64 = (t, rest, 0) := by
  unfold takeTextL textL
  rw [List.append_assoc, take_num t.length (by omega)]
  simp only [ne_eq, not_true_eq_false, if_false]
  rw [if_neg (by omega), if_neg (by simp), List.take_left, List.drop_left]
theorem parseS_of : ∀ (sp : List SpanL) (m : Nat), sp.length ≤ m → (∀ s ∈ sp, checkSpanL s = 0) → parseS m (rangesL sp) = some sp
  | [], m, _, _ => by cases m <;> simp [parseS, rangesL]
  | s :: sp, 0, h, _ => by simp at h
  | s :: sp, m + 1, h, hc => by
    have ih := parseS_of sp m (by simpa using h) fun x hx => hc x (List.mem_cons_of_mem _ hx)
    obtain ⟨g1, g2, g3, g4, g5, g6⟩ := checkSpan_zero (hc s (List.mem_cons_self ..))
    unfold parseS
    have e0 : rangesL (s :: sp) = textL s.lo ++ (textL s.hi ++ (numL s.seq.toNat ++ rangesL sp)) := by simp [rangesL, rangeL]
    have hne : rangesL (s :: sp) ≠ [] := by
      intro q
      have := congrArg List.length q
      rw [e0] at this
      have h3 := num_len s.seq.toNat
      simp only [List.length_append, List.length_nil] at this
      omega
    rw [if_neg hne, e0, text_span _ g2]
    simp only [text_span _ g3, take_num s.seq.toNat (by omega)]
    rw [if_neg (by omega), ih]
    have : UInt64.ofNat s.seq.toNat = s.seq := UInt64.ofNat_toNat
    simp [this]
theorem spans_of (sp : List SpanL) (h : ∀ s ∈ sp, checkSpanL s = 0) : spansL (rangesL sp) = some sp := by
  refine parseS_of sp _ ?_ h
  clear h
  induction sp with
  | nil => simp
  | cons s sp ih =>
    have e0 : rangesL (s :: sp) = rangeL s ++ rangesL sp := by simp [rangesL]
    have h3 := num_len s.seq.toNat
    rw [e0]
    unfold rangeL
    simp only [List.length_append, List.length_cons]
    omega
/-- leaf i of a table's bytes -/
theorem leafAt_of {l : List EntL} (h1 : ∀ e ∈ l, checkKey e.key = 0 ∧ e.value.length ≤ 512) (h2 : risesL l = true) (rest : List UInt8) (i : Nat) (hi : i < leafCount l) : leafAtL (leavesN l (leafCount l) ++ rest) (pageL l i) = some (chunkL l i) := by
  have hle : ∀ d, (leavesN l (i + 1)).length ≤ (leavesN l (i + 1 + d)).length := by
    intro d
    induction d with
    | zero => exact Nat.le_refl _
    | succ d ih => rw [← Nat.add_assoc, leavesN_succ l (i + 1 + d), List.length_append]; omega
  have hpre : ∀ d, leavesN l (i + 1) <+: leavesN l (i + 1 + d) := by
    intro d
    induction d with
    | zero => exact List.prefix_rfl
    | succ d ih => rw [← Nat.add_assoc, leavesN_succ l (i + 1 + d)]; exact ih.trans (List.prefix_append _ _)
  have hd : i + 1 + (leafCount l - (i + 1)) = leafCount l := by omega
  have h3 := hle (leafCount l - (i + 1))
  obtain ⟨t, ht⟩ := hpre (leafCount l - (i + 1))
  rw [hd] at h3 ht
  unfold leafAtL
  have e1 : ((leavesN l (leafCount l) ++ rest).drop (pageL l i).lo).take ((pageL l i).hi - (pageL l i).lo) = sealedL l i := by
    show ((leavesN l (leafCount l) ++ rest).drop (leavesN l i).length).take ((leavesN l (i + 1)).length - (leavesN l i).length) = sealedL l i
    rw [← ht, leavesN_succ, List.append_assoc, List.append_assoc, List.drop_left, List.length_append, Nat.add_sub_cancel_left, List.take_left]
  rw [if_neg (by show ¬ (leavesN l (leafCount l) ++ rest).length < (leavesN l (i + 1)).length; rw [List.length_append]; omega), e1]
  unfold sealedL
  rw [open_shut]
  simp only [ne_eq, not_true_eq_false, if_false]
  exact (readLeaf_iff _ _).2 ⟨chunk_check h1 h2 i, rfl⟩
theorem entries_of {l : List EntL} (h1 : ∀ e ∈ l, checkKey e.key = 0 ∧ e.value.length ≤ 512) (h2 : risesL l = true) (rest : List UInt8) : entriesL (leavesN l (leafCount l) ++ rest) (pagesN l (leafCount l)) = some l := by
  have : ∀ (d j : Nat), j + d = leafCount l → entriesL (leavesN l (leafCount l) ++ rest) ((List.range' j d).map (pageL l)) = some ((List.range' j d).flatMap (chunkL l)) := by
    intro d
    induction d with
    | zero => intro j _; simp [entriesL]
    | succ d ih =>
      intro j hj
      rw [List.range'_succ, List.map_cons, List.flatMap_cons]
      unfold entriesL
      rw [leafAt_of h1 h2 rest j (by omega)]
      simp only [ih (j + 1) (by omega), Option.map_some]
  have h := this (leafCount l) 0 (by omega)
  rw [← List.range_eq_range', chunks_all] at h
  exact h
theorem build_len (keys : List (List UInt8)) : (buildL 10 keys).length ≤ 2 * keys.length + 20 := by
  unfold buildL bytesN sizeN
  have : takeN 10 = 10 := by decide
  simp only [List.length_append, List.length_map, List.length_range, List.length_cons, List.length_nil, this]
  omega
theorem flat_len {α : Type} (f : α → List UInt8) (m : Nat) : ∀ l : List α, (∀ x ∈ l, (f x).length ≤ m) → (l.flatMap f).length ≤ m * l.length
  | [], _ => by simp
  | x :: l, h => by
    have := flat_len f m l fun y hy => h y (List.mem_cons_of_mem _ hy)
    have := h x (List.mem_cons_self ..)
    rw [List.flatMap_cons, List.length_append, List.length_cons, Nat.mul_add]
    omega
theorem leaves_len {l : List EntL} (h1 : ∀ e ∈ l, checkKey e.key = 0 ∧ e.value.length ≤ 512) (j : Nat) : (leavesN l j).length ≤ 5000 * j := by
  have := flat_len (sealedL l) 5000 (List.range j) fun i _ => sealed_len l h1 i
  rw [List.length_range] at this
  exact this
theorem index_len {l : List EntL} (h1 : ∀ e ∈ l, checkKey e.key = 0 ∧ e.value.length ≤ 512) (j : Nat) (hj : j ≤ leafCount l) : (indexN l j).length ≤ 90 * j := by
  have := flat_len (lineL l) 90 (List.range j) fun i hi => by
    obtain ⟨e, he, hk⟩ := lastKey_mem (l := l) (i := i) (by have := List.mem_range.1 hi; omega)
    have h2 := checkKey_bounds (h1 e he).1
    rw [hk] at h2
    have h3 := num_len (sealedL l i).length
    have h4 := num_len (lastKey (chunkL l i)).user.length
    unfold lineL keyBytesL textL
    simp only [List.length_append, le8_len]
    omega
  rw [List.length_range] at this
  exact this
theorem ranges_len {sp : List SpanL} (h : ∀ s ∈ sp, checkSpanL s = 0) : (rangesL sp).length ≤ 160 * sp.length :=
  flat_len rangeL 160 sp fun s hs => by
    have h2 := checkSpan_zero (h s hs)
    have h3 := num_len s.lo.length
    have h4 := num_len s.hi.length
    have h5 := num_len s.seq.toNat
    unfold rangeL textL
    simp only [List.length_append]
    omega
/-- WHAT A TABLE's BYTES SAY -/
theorem tab_fwd {l : List EntL} {sp : List SpanL} {p : List UInt8} (hc : checkTabL l sp = 0) (hp : tabBytesL l sp = p) :
    ∃ a b c d, sectionsL p = some [a, b, c, d] ∧ openL b = (indexN l (leafCount l), 0) ∧ openL c = (buildL 10 (usersL l), 0) ∧ openL d = (rangesL sp, 0) ∧
      pagesL (indexN l (leafCount l)) = some (pagesN l (leafCount l)) ∧ spansL (rangesL sp) = some sp ∧ entriesL p (pagesN l (leafCount l)) = some l := by
  obtain ⟨c1, c2, c3, c4, c5, c6⟩ := checkTab_zero hc
  have hn : leafCount l ≤ 126 := by unfold leafCount; omega
  have b1 := leaves_len c4 (leafCount l)
  have b2 := index_len c4 (leafCount l) (Nat.le_refl _)
  have b3 := build_len (usersL l)
  have b4 := ranges_len c6
  have b5 : (usersL l).length = l.length := by simp [usersL]
  refine ⟨leavesN l (leafCount l), closeL (indexN l (leafCount l)), closeL (buildL 10 (usersL l)), closeL (rangesL sp), ?_, open_shut _, open_shut _, open_shut _, pages_of c4, spans_of sp c6, ?_⟩
  · rw [← hp]
    exact sections_of _ _ _ _ (by omega) (by rw [closeL_len]; omega) (by rw [closeL_len]; omega) (by rw [closeL_len]; omega)
  · rw [← hp]
    have : tabBytesL l sp = leavesN l (leafCount l) ++ ([closeL (indexN l (leafCount l)), closeL (buildL 10 (usersL l)), closeL (rangesL sp)].flatten ++ footL (partsL l sp)) := by
      unfold tabBytesL partsL
      rw [List.flatten_cons, List.append_assoc]
    rw [this]
    exact entries_of c4 c5 _
/-- two tables with the same bytes are one -/
theorem tab_one {l l' : List EntL} {sp sp' : List SpanL} (hc : checkTabL l sp = 0) (hc' : checkTabL l' sp' = 0) (h : tabBytesL l' sp' = tabBytesL l sp) : l' = l ∧ sp' = sp := by
  obtain ⟨a, b, c, d, h1, h2, h3, h4, h5, h6, h7⟩ := tab_fwd hc rfl
  obtain ⟨a', b', c', d', g1, g2, g3, g4, g5, g6, g7⟩ := tab_fwd hc' h
  rw [h1] at g1
  injection g1 with g1
  injection g1 with e1 g1
  injection g1 with e2 g1
  injection g1 with e3 g1
  injection g1 with e4 _
  subst e1 e2 e3 e4
  rw [h2] at g2
  rw [h4] at g4
  have i2 := (Prod.mk.inj g2).1
  have i4 := (Prod.mk.inj g4).1
  rw [← i2, h5] at g5
  rw [← i4, h6] at g6
  have j5 := Option.some.inj g5
  rw [← j5, h7] at g7
  exact ⟨(Option.some.inj g7).symm, (Option.some.inj g6).symm⟩
end Go.Proofs.YtpffieogkfndaaaGreatDoor

namespace Go.Proofs.YtpffieogkfndaaaGreatDoor
set_option maxRecDepth 20000
set_option linter.unusedVariables false
set_option linter.unusedSimpArgs false
open Go.RowKit
/-- a span's places in a row -/
theorem SlR.spanAt {w : World} {p : Nat → Prop} {A : Option Addr} {n c : Nat} {ls : List SpanL} (h : SlR w p A n c ls) {k : Nat} (hk : k < n) : ∃ (b o : Nat) (A3 : Option Addr) (n3 c3 : Nat) (A4 : Option Addr) (n4 c4 : Nat) (hl : k < ls.length), A = some ⟨b, o, none⟩ ∧
    w.cell? ⟨b, o + k * 3, none⟩ = some (.slice A3 n3 c3) ∧ w.cell? ⟨b, o + k * 3 + 1, none⟩ = some (.slice A4 n4 c4) ∧ w.cell? ⟨b, o + k * 3 + 2, none⟩ = some (.int .u64 (ls[k].seq.toNat : Int)) ∧
    Sl w 1 A3 n3 c3 (bc ls[k].lo) ∧ (∀ b, 0 < n3 → A3.map (·.block) = some b → p b) ∧ Sl w 1 A4 n4 c4 (bc ls[k].hi) ∧ (∀ b, 0 < n4 → A4.map (·.block) = some b → p b) := by
  obtain ⟨b, o, x, cs, rfl, hx, ⟨v, v', rfl, hk', hv⟩, hcell⟩ := h.get hk
  obtain ⟨A3, n3, c3, rfl, hs3, h3⟩ := hk'
  obtain ⟨A4, n4, c4, rfl, hs4, h4⟩ := hv
  obtain ⟨hjl, rfl⟩ := List.getElem?_eq_some_iff.1 hx
  exact ⟨b, o, A3, n3, c3, A4, n4, c4, hjl, rfl, hcell 0 _ rfl, hcell 1 _ rfl, hcell 2 _ rfl, hs3, h3, hs4, h4⟩
/-- a row of one span, just made -/
theorem spanRow (w : World) (x : SpanL) (s : Nat) (hs : x.seq.toNat = s) (p : Nat → Prop) (A3 : Option Addr) (n3 c3 : Nat) (A4 : Option Addr) (n4 c4 : Nat) (s3 : Sl w 1 A3 n3 c3 (bc x.lo)) (h3 : ∀ b, 0 < n3 → A3.map (·.block) = some b → p b) (s4 : Sl w 1 A4 n4 c4 (bc x.hi)) (h4 : ∀ b, 0 < n4 → A4.map (·.block) = some b → p b) (e : TypeId) :
    ∃ xs, Sl (w.alloc (.cells #[.slice A3 n3 c3, .slice A4 n4 c4, .int .u64 (s : Int)] e)) 3 (some ⟨w.heap.size, 0, none⟩) 1 1 xs ∧ RowC (w.alloc (.cells #[.slice A3 n3 c3, .slice A4 n4 c4, .int .u64 (s : Int)] e)) p xs [x] := by
  subst hs
  have al := (Below.refl w.heap.size w).alloc (Nat.le_refl _) (.cells #[.slice A3 n3 c3, .slice A4 n4 c4, .int .u64 (x.seq.toNat : Int)] e)
  exact ⟨_, ⟨rfl, Nat.le_refl _, by unfold maxLen; omega, fun _ => ⟨w.heap.size, 0, rfl, fun j u hu => by rw [cell_of_row _ _ _ _ _ _ (heap_alloc_new w _)]; simpa [u64v] using hu⟩⟩, RowC.single ⟨_, _, rfl, ⟨A3, n3, c3, rfl, s3.below (by omega) al, h3⟩, ⟨A4, n4, c4, rfl, s4.below (by omega) al, h4⟩⟩⟩
theorem infoSpan : (Tryz.prog.info? 72).map (fun i => (i.zero, i.size, i.bytes)) = some (some (.agg #[.slice none 0 0, .slice none 0 0, .int .u64 0]), 3, 56) := by kernel_rfl
def fewSpans (l : List SpanL) (n : Nat) : List SpanL := (l.take n).map fun s => ⟨s.lo.take 80, s.hi.take 80, s.seq⟩
def rightSpans (l : List SpanL) : List SpanL := l.filter fun s => decide (checkSpanL s = 0)
theorem rightSpans_all (l : List SpanL) (h : ∀ s ∈ l, checkSpanL s = 0) : rightSpans l = l := by
  unfold rightSpans
  rw [List.filter_eq_self]
  intro s hs
  simpa using h s hs
theorem fewSpans_len (l : List SpanL) (n : Nat) : (fewSpans l n).length ≤ n := by unfold fewSpans; simp; omega
end Go.Proofs.YtpffieogkfndaaaGreatDoor

namespace Go.Proofs.YtpffieogkfndaaaGreatDoor
set_option maxRecDepth 20000
set_option linter.unusedVariables false
set_option linter.unusedSimpArgs false
open Go.RowKit

attribute [local go_sem] Oper.semAt_some

theorem range_one {F : Fence} {n : Nat} {P : Program} {α : Type} {g : Operand} {p q rid : Nat} {ty : TypeId} {pos : String} {body : Code} {Q : Exit → Act → World → Prop} {a : Act} {w : World}
    (hro : F.round = none) (h1 : 1 ≤ n) {gf : Nat} {lb : Array Value} (hg : a.eval g = .func (.func gf) #[] lb) (hFg : F.fn gf) (eg : ∀ args w, (callFunc gf args).run P w = .ok (.enter gf args) w)
    {enc : α → Value} {Kp : World → World → Prop} {S Sp : List α → Prop} {N : Nat} {w0 : World} (hseq : SeqStopsK F (n - 1) P gf lb (fun x => #[enc x]) Kp S Sp N w0)
    (hKt : ∀ {A B C : World}, Kp A B → Kp B C → Kp A C) (hKb : ∀ (W : World) (l : Nat) (o o' : Obj), w.heap.size ≤ l → W.heap[l]? = some o → o.isCells = false → o.isWalk = false → Kp W (W.putObj l o')) (hb0 : Below w0.heap.size w0 w)
    (I : List α → World → Prop) (Ix : Code → List α → World → Prop) (hI : OwnFrom w.heap.size I) (hIx : ∀ c, OwnFrom w.heap.size (Ix c)) (h0 : I [] w) (hp : p < a.tmps.size)
    (hbody : ∀ (l : Nat) (pre : List α) (x : α) (W : World), I pre W → pre.length < N → body.wpIn (F.inRound l) (n - 1 - 1) P (ownPostK Kp I Ix (pre ++ [x]) W) { tmps := (a.tmps.setIfInBounds p (enc x)).setIfInBounds q (enc x), defers := [] } W)
    (hdone : ∀ (D : Nat) (xs : List α) (W : World), w.heap.size ≤ D → S xs → I xs W → W.heap[D]? = some (.deferred (some [])) → Q .normal { a with defers := { target := .collected D, args := #[] } :: a.defers } W)
    (hstop : ∀ (D : Nat) (c : Code) (pre : List α) (W : World), w.heap.size ≤ D → Sp pre → Ix c pre W → W.heap[D]? = some (.deferred (some [])) → c.wpIn F n P Q { a with defers := { target := .collected D, args := #[] } :: a.defers } W) :
    (Code.rangeFunc g #[p] (.region rid #[{ dst := some q, op := Op.assign (.tmp p), type := ty, pos := pos, after := #[], guard := none }] false) body).wpIn F n P Q a w := by
  refine wpIn_rangeFunc_ownF hro h1 hg hFg eg hseq hKt hKb hb0 (fun _ => rfl) I Ix hI hIx h0 (fun x => { tmps := (a.tmps.setIfInBounds p (enc x)).setIfInBounds q (enc x), defers := [] }) ?_ hbody hdone hstop
  intro l x W K hK
  have e : (a.tmps.setIfInBounds p (enc x))[p]? = some (enc x) := by simp [hp]
  gi_wp2
  exact hK
end Go.Proofs.YtpffieogkfndaaaGreatDoor

namespace Go.Proofs.YtpffieogkfndaaaGreatDoor
open Go.RowKit
set_option maxRecDepth 20000
set_option linter.unusedVariables false
set_option linter.unusedSimpArgs false
section
variable {α : Type} [Rep α] {w w' : World} {B : Nat} {e t8 : TypeId} {A : Option Addr} {n c : Nat} {ls : List α}
/-- block b is the call's own, a row of t8 that nothing has frozen -/
def OwnU (w : World) (B : Nat) (t8 : TypeId) (b : Nat) : Prop := B ≤ b ∧ ∃ cur, w.heap[b]? = some (.cells cur t8 (0, 0))
theorem OwnU.move {b : Nat} (h : OwnU w B t8 b) (e : w'.heap[b]? = w.heap[b]?) : OwnU w' B t8 b := by
  obtain ⟨h1, cur, h2⟩ := h
  exact ⟨h1, cur, e.trans h2⟩
theorem Own.ownU {size : Nat} {xs : List Value} (h : Own w B t8 size A n c xs) : ∀ b, 0 < n → A.map (·.block) = some b → OwnU w B t8 b := by
  intro b hn hb
  obtain ⟨g, o, cur, rfl, hg, hh, _⟩ := h.row (by have := h.cap; omega)
  simp at hb
  subst hb
  exact ⟨hg, cur, hh⟩
def OwnY (w : World) (B : Nat) (e t8 : TypeId) (A : Option Addr) (n c : Nat) (ls : List α) : Prop :=
  ∃ xs, Own w B e (Rep.size α) A n c xs ∧ RowC w (fun b => blk A c ≠ some b ∧ OwnU w B t8 b) xs ls
theorem OwnY.nil (w : World) (B : Nat) (e t8 : TypeId) (A : Option Addr) : OwnY w B e t8 A 0 0 ([] : List α) := ⟨[], Own.nil _ _ _ _ _, rfl⟩
theorem OwnY.sl (h : OwnY w B e t8 A n c ls) : SlR w (fun _ => True) A n c ls := by
  obtain ⟨xs, ho, hr⟩ := h
  exact ⟨xs, ho.sl, hr.move fun _ _ _ => ⟨rfl, trivial⟩, fun _ _ _ => trivial⟩
theorem OwnY.lenR (h : OwnY w B e t8 A n c ls) : ls.length = n := h.sl.lenR
theorem OwnY.lt (h : OwnY w B e t8 A n c ls) : ∀ b, blk A c = some b → B ≤ b ∧ b < w.heap.size := by
  obtain ⟨xs, ho, _⟩ := h
  exact fun b hb => Own.lt ho b hb
theorem OwnY.below (h : OwnY w B e t8 A n c ls) (hb : Below w.heap.size w w') : OwnY w' B e t8 A n c ls := by
  obtain ⟨xs, ho, hr⟩ := h
  exact ⟨xs, ho.below hb, hr.move fun b hl hp => ⟨hb.block b hl, hp.1, hp.2.move (hb.block b hl)⟩⟩
theorem OwnY.mono {B' : Nat} (h : OwnY w B e t8 A n c ls) (hB : B' ≤ B) : OwnY w B' e t8 A n c ls := by
  obtain ⟨xs, ho, hr⟩ := h
  exact ⟨xs, ho.mono hB, hr.move fun b _ hp => ⟨rfl, hp.1, Nat.le_trans hB hp.2.1, hp.2.2⟩⟩
/-- another block was written -/
theorem OwnY.grown {g : Nat} {row : Option Nat} (h : OwnY w B e t8 A n c ls) (hg : w.grownBy w' row) (h1 : ∀ b, row = some b → g ≤ b) (h2 : w.heap.size ≤ g) : OwnY w' B e t8 A n c ls := by
  obtain ⟨xs, ho, hr⟩ := h
  refine ⟨xs, ho.grown hg fun b hb q => ?_, hr.move fun b hl hp => ?_⟩
  · have := (ho.lt b hb).2
    have := h1 b q
    omega
  · have e := hg.block b hl fun q => by have := h1 b q.symm; omega
    exact ⟨e, hp.1, hp.2.move e⟩
end
end Go.Proofs.YtpffieogkfndaaaGreatDoor

namespace Go.Proofs.YtpffieogkfndaaaGreatDoor
open Go.RowKit
set_option maxRecDepth 20000
set_option linter.unusedVariables false
set_option linter.unusedSimpArgs false
theorem step_appX {α : Type} [Rep α] {ops : Array Oper} {o : Oper} {a : Act} {w : World} {K : Act → World → Prop} {Q : Exit → Act → World → Prop} {E : Prop} (hgd : o.guard = none) (s x : Operand) (t : TypeId)
    (ho : o.op = .call { callee := .builtin .append, args := #[s, x], argTypes := #[t, t] })
    (B : Nat) (e : TypeId) (z : Value) (bytes : Nat) (ht : Tryz.prog.underlying t = some (.slice e)) (hi : (Tryz.prog.info? e).map (fun i => (i.zero, i.size, i.bytes)) = some (some z, Rep.size α, bytes))
    (hzs : z.cells.size = Rep.size α)
    (A : Option Addr) (n c : Nat) (ls : List α) (hsv : a.eval s = .slice A n c) (hown : OwnX w B e A n c ls)
    (A2 : Option Addr) (m c2 : Nat) (ms : List α) (hx : a.eval x = .slice A2 m c2) (hs : ∃ xs, Sl w (Rep.size α) A2 m c2 xs ∧ RowC w (fun b => blk A c ≠ some b) xs ms)
    (h63 : n + m ≤ maxLen) (hbytes : (n + m) * bytes ≤ 140737488355328) (hB : B ≤ w.heap.size)
    (h : ∀ A' c' w', OwnX w' B e A' (n + m) c' (ls ++ ms) → w.grownBy w' (blk A c) → (blk A' c' = blk A c ∨ blk A' c' = some w.heap.size) → K (a.put o.dst (.slice A' (n + m) c')) w') :
    if Region.wanted o (yielded ops a.tmps) = true then Oper.wp Tryz.prog o a w K Q else E := by
  have hw : Region.wanted o (yielded ops a.tmps) = true := by simp [Region.wanted, hgd]
  rw [if_pos hw]
  obtain ⟨A', c', w', hrun, h2, h3, h4⟩ := row_app Tryz.prog w t o.type z bytes ht hi hzs hown A2 m c2 ms hs h63 hbytes hB
  unfold Oper.wp execOp
  simp only [ho, resolve, invoke, builtin, Sem.run_bind, Sem.run_pure, Result.andThen_ok, List.map_toArray, List.map_cons, List.map_nil, hsv, hx, hrun]
  exact h A' c' w' h2 h3 h4
end Go.Proofs.YtpffieogkfndaaaGreatDoor

namespace Go.Proofs.YtpffieogkfndaaaGreatDoor
open Go.RowKit
set_option maxRecDepth 20000
set_option linter.unusedVariables false
set_option linter.unusedSimpArgs false
theorem takeText_len (p : List UInt8) (m : Int) : (takeTextL p m).2.1.length ≤ p.length := by
  have h := takeL_len p
  unfold takeTextL
  repeat' split
  · simp
  · simp
  · simp
  · simp only [List.length_drop]
    omega
end Go.Proofs.YtpffieogkfndaaaGreatDoor
