/-
  What the reference of the seal computes, walked once: the sum by division is the sum that goes by the table. No condition but sizes.
-/
import Derived.Test.YtpjinmiedanebaaDoorJReelPlain
import Derived.Test.YtpjinmiedanebaaDoorJFrameR
namespace Go.Proofs.YtpjinmiedanebaaDoor
set_option maxRecDepth 20000
open Go.RowKit

/-- a row of bits of the call's own -/
def bools (N : Nat) (f : Nat → Bool) : List Value := (List.range N).map fun i => Value.bool (f i)
def OwnF (w : World) (B : Nat) (A : Option Addr) (N : Nat) (f : Nat → Bool) : Prop := Own w B 4 1 A N N (bools N f)
theorem bools_get (N : Nat) (f : Nat → Bool) (k : Nat) (h : k < N) : (bools N f)[k]? = some (.bool (f k)) := by simp [bools, h]
theorem bools_set (N : Nat) (f : Nat → Bool) (k : Nat) (v : Bool) : (bools N f).set k (.bool v) = bools N (fun j => if j = k then v else f j) := by
  apply List.ext_getElem?
  intro j
  simp only [bools, List.getElem?_set, List.getElem?_map, List.length_map, List.length_range]
  by_cases h : k = j
  · subst h
    by_cases hk : k < N
    · simp [hk]
    · simp [hk]
  · by_cases hj : j < N
    · simp [h, hj, Ne.symm h]
    · simp [h, hj]
theorem OwnF.place {w : World} {B : Nat} {g N : Nat} {f : Nat → Bool} (h : OwnF w B (some ⟨g, 0, none⟩) N f) {k : Nat} (hk : k < N) :
    w.cell? ⟨g, k, none⟩ = some (.bool (f k)) ∧ w.frozen? ⟨g, k, none⟩ = false := by
  obtain ⟨g', o, u, e, _, _, hu, hc, hf⟩ := Own.place h hk
  obtain ⟨rfl, rfl⟩ : g = g' ∧ 0 = o := by simpa using e
  rw [bools_get N f k hk] at hu
  obtain rfl := Option.some.inj hu
  rw [Nat.zero_add] at hc hf
  exact ⟨hc, hf⟩
theorem OwnF.stored {w : World} {B : Nat} {g N : Nat} {f : Nat → Bool} (h : OwnF w B (some ⟨g, 0, none⟩) N f) {k : Nat} (hk : k < N) (v : Bool) (f' : Nat → Bool) (hf : ∀ j, j < N → f' j = if j = k then v else f j) :
    OwnF (w.setCell ⟨g, k, none⟩ (.bool v)) B (some ⟨g, 0, none⟩) N f' := by
  have := Own.stored h hk (.bool v)
  rw [Nat.zero_add, bools_set] at this
  unfold OwnF
  have e : bools N f' = bools N (fun j => if j = k then v else f j) := by
    unfold bools
    apply List.map_congr_left
    intro j hj
    rw [hf j (by simpa using hj)]
  rw [e]
  exact this
theorem OwnF.congr {w : World} {B : Nat} {A : Option Addr} {N : Nat} {f f' : Nat → Bool} (h : OwnF w B A N f) (hf : ∀ j, j < N → f' j = f j) : OwnF w B A N f' := by
  unfold OwnF
  have e : bools N f' = bools N f := by
    unfold bools
    apply List.map_congr_left
    intro j hj
    rw [hf j (by simpa using hj)]
  rw [e]
  exact h
/-- the powers in memory -/
def byV : List Value := byL.map fun (k : Nat) => Value.int .i64 (k : Int)
theorem byV_get (t : Nat) (h : t < 17) : ∃ k, byL[t]? = some k ∧ k ≤ 28 ∧ byV[t]? = some (.int .i64 (k : Int)) := by
  have hl : t < byL.length := h
  refine ⟨byL[t], List.getElem?_eq_getElem hl, by_small _ (List.getElem_mem hl), ?_⟩
  simp [byV, List.getElem?_eq_getElem hl]
theorem infoF : (Tryd.prog.info? 4).map (fun i => (i.zero, i.size, i.bytes)) = some (some (.bool false), 1, 1) := by kernel_rfl

set_option maxHeartbeats 2000000 in
theorem rsum_any (w : World) (A : Option Addr) (n c : Nat) (l : List UInt8) (h : Sl w 1 A n c (bc l)) (hn : n ≤ 4398046511104) :
    Calls Tryd.prog 50 #[.slice A n c] w fun e w' => e = .returned (.int .u32 (sumL l : Nat)) ∧ Below w.heap.size w w' := by
  have Hl : Hid (l.length = n) := h.lenb
  obtain ⟨i0, hi0, hz, hs1, hb1⟩ := info_parts infoF
  obtain ⟨N, hN⟩ : ∃ N, N = 8 * n + 32 := ⟨_, rfl⟩
  have HN := Lib.hid hN
  have hN1 : 32 ≤ N := by omega
  have hN2 : N ≤ 35184372088864 := by omega
  clear hN
  go_enter Tryd.func50, Tryd.ntmps50
  go_wp2_with (at_make; refine wpList_mk _ rfl (.tmp 15) (.tmp 15) _ rfl w.heap.size 4 i0 (.bool false) 1 Tryd.underlying110 hi0 hz hs1 hb1 rfl _ _ _ _ N rfl rfl ?_ ?_ ?_ ?_ ?_ ?_)
  · have := HN.out; omega
  · have := HN.out; omega
  · omega
  · unfold maxLen; omega
  · exact Nat.le_refl _
  intro w1 hown1 hb1 _
  have hown1 : OwnF w1 w.heap.size (some ⟨w.heap.size, 0, none⟩) N (fun _ => false) := by
    unfold OwnF bools
    have e : (List.range N).map (fun _ => Value.bool false) = List.replicate N (.bool false) := by
      apply List.ext_getElem?
      intro j
      by_cases hj : j < N <;> simp [hj]
    rw [e]
    exact hown1
  clear hi0 hz hs1
  have h1 := h.below (by omega) hb1
  have hc := h.capm
  unfold maxLen at hc
  go_wp2
  go_loopw [20] (fun i wr => ∃ k : Nat, k ≤ 8 * n ∧ i = .int .i64 k ∧ Below w.heap.size w wr ∧ ∃ f, OwnF wr w.heap.size (some ⟨w.heap.size, 0, none⟩) N f ∧ Hid (∀ j, j < N → f j = (mbit l j && decide (j < k)))) (fun i _ => 8 * n - (intOf i).toNat)
  case atStart => exact ⟨0, Nat.zero_le _, rfl, hb1, _, hown1, by intro j _; simp⟩
  case round =>
    obtain ⟨k, hk, rfl, hbr, f, hof, Hf⟩ := hrel
    by_cases hlt : k < 8 * n
    · obtain ⟨b, o, x, rfl, hx, hxl, hbyte⟩ := (h.below (by omega) hbr).byte (k := k / 8) (by have := Hl.out; omega)
      have HX := Lib.hid hx
      obtain ⟨hcell, hfr⟩ := hof.place (k := k) (by have := HN.out; omega)
      have Hof := Lib.hid hof
      clear hx hof
      have hkN : k < N := by have := HN.out; omega
      go_wp2
      go_roundw
      case rel =>
        refine ⟨k + 1, by omega, by go_num, hbr.setCell (Nat.le_refl _) _, fun j => mbit l j && decide (j < k + 1), ?_, fun j _ => rfl⟩
        refine Hof.out.stored hkN _ _ (fun j hj => ?_)
        rw [bit_spelt, ← HX.out, Hf.out j hj]
        by_cases e : j = k
        · subst e
          simp only [↓reduceIte]
          have hkl : j / 8 < l.length := by have := Hl.out; omega
          simp [mbit, List.getD_eq_getElem?_getD, List.getElem?_eq_getElem hkl]
        · rw [if_neg e]
          by_cases e2 : j < k
          · simp [e2, show j < k + 1 by omega]
          · simp [e2, show ¬ j < k + 1 by omega]
      case measure => simp [intOf]; omega
    · obtain rfl : k = 8 * n := by omega
      have hof2 : OwnF wr w.heap.size (some ⟨w.heap.size, 0, none⟩) N (mbit l) := hof.congr fun j hj => by
        rw [Hf.out j hj]
        by_cases e : j < 8 * n
        · simp [e]
        · simp [e, mbit_past l j (by have := Hl.out; omega)]
      clear hof Hf h hown1 hb1 h1
      go_wp2
      go_loopw [38] (fun i wr => ∃ k : Nat, k ≤ 32 ∧ i = .int .i64 k ∧ Below w.heap.size w wr ∧ ∃ f, OwnF wr w.heap.size (some ⟨w.heap.size, 0, none⟩) N f ∧ Hid (∀ j, j < N → f j = (mbit l j ^^ decide (j < k)))) (fun i _ => 32 - (intOf i).toNat)
      case atStart => exact ⟨0, Nat.zero_le _, rfl, hbr, _, hof2, by intro j _; simp⟩
      case round =>
        clear hof2 hbr
        obtain ⟨k, hk, rfl, hbr, f, hof, Hf⟩ := hrel
        by_cases hlt : k < 32
        · obtain ⟨hcell, hfr⟩ := hof.place (k := k) (by omega)
          have Hof := Lib.hid hof
          clear hof
          have hkN : k < N := by omega
          go_wp2
          go_roundw
          case rel =>
            refine ⟨k + 1, by omega, by go_num, hbr.setCell (Nat.le_refl _) _, fun j => (mbit l j ^^ decide (j < k + 1)), ?_, fun j _ => rfl⟩
            refine Hof.out.stored hkN _ _ (fun j hj => ?_)
            rw [Hf.out k hkN, Hf.out j hj]
            by_cases e : j = k
            · subst e
              simp
            · rw [if_neg e]
              by_cases e2 : j < k
              · simp [e2, show j < k + 1 by omega]
              · simp [e2, show ¬ j < k + 1 by omega]
          case measure => simp [intOf]; omega
        · obtain rfl : k = 32 := by omega
          have hof2 := hof
          obtain ⟨wo, rfl⟩ : ∃ wo : World, wo = wr := ⟨_, rfl⟩
          have hgb : w.heap.size < wo.heap.size := (Own.lt hof _ (by simp [blk]; omega)).2
          have hba := (Below.refl wo.heap.size wo).alloc (Nat.le_refl _) (.cells byV.toArray 3)
          have hby : Own (wo.alloc (.cells byV.toArray 3)) 0 3 1 (some ⟨wo.heap.size, 0, none⟩) 17 17 byV :=
            Own.fresh wo 0 3 1 17 17 _ _ (Nat.zero_le _) (Nat.le_refl _) (by unfold maxLen; omega) rfl rfl rfl
          have hof3 := Own.below hof hba
          have hw3 : Win N (mbit l) 0 f := Win.start N _ _ (fun j hj => Hf.out j hj) hN1
          have hbr3 := hbr.trans (hba.mono hbr.size)
          clear hof Hf hba hbr hof2
          go_wp2
          go_loopw [7] (fun i wr => ∃ k : Nat, k ≤ 8 * n ∧ i = .int .i64 k ∧ Below w.heap.size w wr ∧ Own wr 0 3 1 (some ⟨wo.heap.size, 0, none⟩) 17 17 byV ∧ ∃ f, OwnF wr w.heap.size (some ⟨w.heap.size, 0, none⟩) N f ∧ Win N (mbit l) k f) (fun i _ => 8 * n - (intOf i).toNat)
          case atStart => exact ⟨0, Nat.zero_le _, rfl, hbr3, hby, f, hof3, hw3⟩
          case round =>
            clear hof3 hbr3 hby hw3
            obtain ⟨k, hk, rfl, hbr, hby, f, hof, hw⟩ := hrel
            by_cases hlt : k < 8 * n
            · have hkN : k + 32 < N := by have := HN.out; omega
              obtain ⟨hcell, hfr⟩ := hof.place (k := k) (by omega)
              have Hof := Lib.hid hof
              cases hfk : f k with
              | false =>
                rw [hfk] at hcell
                have Hw := Lib.hid (hw.zero hfk hkN)
                clear hof hw hfk
                go_wp2
                go_roundw
                case rel => exact ⟨k + 1, by omega, by go_num, hbr, hby, f, Hof.out, Hw.out⟩
                case measure => simp [intOf]; omega
              | true =>
                rw [hfk] at hcell
                have Hw := Lib.hid hw
                have Hfk := Lib.hid hfk
                clear hof hw hfk
                go_wp2
                obtain ⟨wi, rfl⟩ : ∃ wi : World, wi = wr := ⟨_, rfl⟩
                go_loopw [64] (fun i wr => ∃ t : Nat, t ≤ 17 ∧ i = .int .i64 t ∧ Below w.heap.size w wr ∧ Own wr 0 3 1 (some ⟨wo.heap.size, 0, none⟩) 17 17 byV ∧ ∃ f', OwnF wr w.heap.size (some ⟨w.heap.size, 0, none⟩) N f' ∧ Hid (∀ j, j < N → f' j = (f j ^^ hits (byL.take t) (fun b => decide (k + 32 - b = j))))) (fun i _ => 17 - (intOf i).toNat)
                case atStart => exact ⟨0, Nat.zero_le _, rfl, hbr, hby, f, Hof.out, fun j _ => by simp [hits]⟩
                case round =>
                  clear hcell hfr hbr hby
                  obtain ⟨t, ht, rfl, hbr, hby, f', hof', Hf'⟩ := hrel
                  by_cases htl : t < 17
                  · obtain ⟨bk, hbk, hb28, hbv⟩ := byV_get t htl
                    obtain ⟨gb, ob, ub, eb, _, _, hub, hcb, _⟩ := Own.place hby htl
                    obtain ⟨rfl, rfl⟩ : wo.heap.size = gb ∧ 0 = ob := by simpa using eb
                    rw [hbv] at hub
                    obtain rfl := Option.some.inj hub
                    rw [Nat.zero_add] at hcb
                    obtain ⟨hcell, hfr⟩ := hof'.place (k := k + 32 - bk) (by omega)
                    have Hof' := Lib.hid hof'
                    have Hbk := Lib.hid hbk
                    have hidx : k + 32 - bk < N := by omega
                    have Hby := Lib.hid hby
                    clear hof' eb hub hbv hbk hby
                    go_wp2
                    go_roundw
                    case rel =>
                      refine ⟨t + 1, by omega, by go_num, hbr.setCell (Nat.le_refl _) _, Hby.out.keep (fun b e => Below.heap_setCell _ _ _ _ (by simp [blk] at e; simp; omega)), fun j => (f j ^^ hits (byL.take (t + 1)) (fun b => decide (k + 32 - b = j))), ?_, fun j _ => rfl⟩
                      refine Hof'.out.stored hidx _ _ (fun j hj => ?_)
                      have hl : t < byL.length := htl
                      have e1 : byL[t] = bk := by have := Hbk.out; rw [List.getElem?_eq_getElem hl] at this; exact Option.some.inj this
                      rw [take_snoc byL t hl, hits_snoc, e1, ← Bool.xor_assoc, ← Hf'.out j hj]
                      by_cases e : j = k + 32 - bk
                      · subst e
                        simp
                      · rw [if_neg e]
                        simp [Ne.symm e]
                    case measure => simp [intOf]; omega
                  · obtain rfl : t = 17 := by omega
                    have hw2 := Hw.out.one Hfk.out (f' := f') (fun j hj => by rw [Hf'.out j hj]; rfl) hkN
                    have Hw2 := Lib.hid hw2
                    have Hof' := Lib.hid hof'
                    have Hby := Lib.hid hby
                    clear hw2 hof' hby
                    go_wp2
                    go_roundw
                    case rel => exact ⟨k + 1, by omega, by go_num, hbr, Hby.out, f', Hof'.out, Hw2.out⟩
                    case measure => simp [intOf]; omega
            · obtain rfl : k = 8 * n := by omega
              have hNN : ¬ 8 * n + 32 < N := by have := HN.out; omega
              have hbit : ∀ j, j < 32 → (!f (8 * n + j)) = (sumL l).testBit j := fun j hj => by
                have hl := Hl.out
                subst hl
                have e : N = 8 * l.length + 32 := HN.out
                subst e
                rw [hw.last (mbit_past l) j hj, sum_reg]
              have Hbit := Lib.hid hbit
              have hS := sumL_lt l
              clear hbit hw hby
              generalize hSe : sumL l = S at *
              have HSe := Lib.hid hSe
              clear hSe
              go_wp2
              go_loop [10, 11] (fun s i => ∃ (z : Int) (j : Nat), z = (j : Int) - 1 ∧ j ≤ 32 ∧ i = .int .i64 z ∧ s = .int .u32 (S / 2 ^ j : Nat)) (fun _ i => (intOf i + 1).toNat)
              case atStart => exact ⟨31, 32, by omega, by omega, rfl, by simp; omega⟩
              case round =>
                obtain ⟨z, j, hz, hj, rfl, rfl⟩ := hrel
                rcases Nat.eq_zero_or_pos j with h0 | h0
                · subst h0
                  obtain rfl : z = -1 := by omega
                  clear hz
                  go_wp2
                  go_ret
                  exact ⟨ret_int (by rw [HSe.out]), hbr⟩
                · obtain ⟨j, rfl⟩ : ∃ i, j = i + 1 := ⟨j - 1, by omega⟩
                  obtain rfl : z = (j : Int) := by omega
                  clear hz
                  obtain ⟨hcell, hfr⟩ := hof.place (k := 8 * n + j) (by have := HN.out; omega)
                  have hst := high_step S j
                  rw [← Hbit.out j (by omega)] at hst
                  have hlt : S / 2 ^ j < 4294967296 := Nat.lt_of_le_of_lt (Nat.div_le_self _ _) hS
                  have hNN2 : N = 8 * n + 32 := HN.out
                  generalize S / 2 ^ (j + 1) = s1 at *
                  generalize hs2 : S / 2 ^ j = s2 at *
                  have Hs2 := Lib.hid hs2
                  have Hof := Lib.hid hof
                  clear hof hs2
                  have hNi : (N : Int) - 32 + j = ((8 * n + j : Nat) : Int) := by omega
                  have hNj : 8 * n + j < N := by omega
                  clear hNN2
                  cases hfb : f (8 * n + j)
                  all_goals
                    rw [hfb] at hcell hst
                    have hst2 : s2 = 2 * s1 ∨ s2 = 2 * s1 + 1 := by simp at hst; omega
                    have Hst := Lib.hid hst
                    clear hst hfb
                    go_wp2
                    go_round
                    case rel =>
                      refine ⟨_, j, rfl, by omega, rfl, ?_⟩
                      rw [Hs2.out]
                      congr 1
                      have := Hst.out
                      simp at this
                      omega
                    case measure => simp [intOf]
end Go.Proofs.YtpjinmiedanebaaDoor
