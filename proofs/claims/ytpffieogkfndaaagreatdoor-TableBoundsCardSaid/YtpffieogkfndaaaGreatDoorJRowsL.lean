/-
  Ents, Join, AtomJoin, Compare, KeyPlain, RowsX, RowsL in one text. No condition but sizes.
-/
import Derived.Test.YtpffieogkfndaaaGreatDoorJZeros
import Derived.Test.YtpffieogkfndaaaGreatDoorJBloomPlain
import Derived.Lib.MakeNoZero
import Derived.Test.YtpffieogkfndaaaGreatDoorAtomText
import Derived.Lib.BytesEntry
import Derived.Test.YtpffieogkfndaaaGreatDoorJHeldF
namespace Go.Proofs.YtpffieogkfndaaaGreatDoor
open Go.RowKit
set_option maxRecDepth 20000
set_option linter.unusedVariables false
set_option linter.unusedSimpArgs false
section
variable {w w' : World} {p : Nat → Prop} {A : Option Addr} {n c : Nat}
theorem SlR.entAt {ls : List EntL} (h : SlR w p A n c ls) {k : Nat} (hk : k < n) : ∃ (b o : Nat) (A3 : Option Addr) (n3 c3 : Nat) (A4 : Option Addr) (n4 c4 : Nat) (hl : k < ls.length), A = some ⟨b, o, none⟩ ∧
    w.cell? ⟨b, o + k * 4, none⟩ = some (.slice A3 n3 c3) ∧ w.cell? ⟨b, o + k * 4 + 1, none⟩ = some (.int .u64 (ls[k].key.seq.toNat : Int)) ∧ w.cell? ⟨b, o + k * 4 + 2, none⟩ = some (.int .u8 (ls[k].key.kind.toNat : Int)) ∧ w.cell? ⟨b, o + k * 4 + 3, none⟩ = some (.slice A4 n4 c4) ∧
    Sl w 1 A3 n3 c3 (bc ls[k].key.user) ∧ Sl w 1 A4 n4 c4 (bc ls[k].value) := by
  obtain ⟨b, o, x, cs, rfl, hx, ⟨v, v', rfl, hk', hv⟩, hcell⟩ := h.get hk
  obtain ⟨A3, n3, c3, rfl, hs3, _⟩ := hk'
  obtain ⟨A4, n4, c4, rfl, hs4, _⟩ := hv
  obtain ⟨hjl, rfl⟩ := List.getElem?_eq_some_iff.1 hx
  exact ⟨b, o, A3, n3, c3, A4, n4, c4, hjl, rfl, hcell 0 _ rfl, hcell 1 _ rfl, hcell 2 _ rfl, hcell 3 _ rfl, hs3, hs4⟩
end
/-- a variable of four cells that the call has boxed in block g -/
structure Bx4 (w : World) (g : Nat) (u0 u1 u2 u3 : Value) : Prop where
  c0 : w.cell? ⟨g, 0, none⟩ = some u0
  c1 : w.cell? ⟨g, 1, none⟩ = some u1
  c2 : w.cell? ⟨g, 2, none⟩ = some u2
  c3 : w.cell? ⟨g, 3, none⟩ = some u3
  fr : ∀ j : Nat, w.frozen? ⟨g, j, none⟩ = false
theorem Bx4.lt {w : World} {g : Nat} {u0 u1 u2 u3 : Value} (h : Bx4 w g u0 u1 u2 u3) : g < w.heap.size := World.block_lt_of_cell? _ _ h.c0
theorem Bx4.below {w w' : World} {g : Nat} {u0 u1 u2 u3 : Value} (h : Bx4 w g u0 u1 u2 u3) (hb : Below w.heap.size w w') : Bx4 w' g u0 u1 u2 u3 :=
  ⟨stays hb h.c0, stays hb h.c1, stays hb h.c2, stays hb h.c3, fun j => (hb.frozen (p := ⟨g, j, none⟩) h.lt).trans (h.fr j)⟩
theorem Bx4.fresh (w : World) (u0 u1 u2 u3 : Value) (e : TypeId) : Bx4 (w.alloc (.cells #[u0, u1, u2, u3] e)) w.heap.size u0 u1 u2 u3 := by
  have h := boxed (Below.refl _ _) (box1 w (.cells #[u0, u1, u2, u3] e))
  exact ⟨h.1 0 _ rfl, h.1 1 _ rfl, h.1 2 _ rfl, h.1 3 _ rfl, h.2⟩
theorem Bx4.drew {w : World} {g : Nat} {u0 u1 u2 u3 : Value} (h : Bx4 w g u0 u1 u2 u3) : Bx4 w.drew g u0 u1 u2 u3 := ⟨h.c0, h.c1, h.c2, h.c3, h.fr⟩
theorem Bx4.grownO {w w' : World} {g : Nat} {row : Option Nat} {u0 u1 u2 u3 : Value} (h : Bx4 w g u0 u1 u2 u3) (hg : w.grownBy w' row) (hne : row ≠ some g) : Bx4 w' g u0 u1 u2 u3 := by
  have hh : w'.heap[g]? = w.heap[g]? := hg.block g h.lt (fun e => hne e.symm)
  have hc : ∀ j : Nat, w'.cell? ⟨g, j, none⟩ = w.cell? ⟨g, j, none⟩ := fun j => World.cell?_of_block (a := ⟨g, j, none⟩) hh
  exact ⟨(hc 0).trans h.c0, (hc 1).trans h.c1, (hc 2).trans h.c2, (hc 3).trans h.c3, fun j => (World.frozen?_of_block (a := ⟨g, j, none⟩) hh).trans (h.fr j)⟩
theorem Bx4.set {w : World} {g : Nat} {u0 u1 u2 u3 v0 v1 v2 v3 : Value} (h : Bx4 w g u0 u1 u2 u3) :
    Bx4 ((((w.setCell ⟨g, 0, none⟩ v0).setCell ⟨g, 1, none⟩ v1).setCell ⟨g, 2, none⟩ v2).setCell ⟨g, 3, none⟩ v3) g v0 v1 v2 v3 ∧ w.grownBy ((((w.setCell ⟨g, 0, none⟩ v0).setCell ⟨g, 1, none⟩ v1).setCell ⟨g, 2, none⟩ v2).setCell ⟨g, 3, none⟩ v3) (some g) := by
  refine ⟨⟨set_other (set_other (set_other (set_same h.c0 _) _ (by omega)) _ (by omega)) _ (by omega), set_other (set_other (set_same (set_other h.c1 _ (by omega)) _) _ (by omega)) _ (by omega), set_other (set_same (set_other (set_other h.c2 _ (by omega)) _ (by omega)) _) _ (by omega), set_same (set_other (set_other (set_other h.c3 _ (by omega)) _ (by omega)) _ (by omega)) _, fun j => ?_⟩, ?_⟩
  · simp [h.fr]
  · exact only_set (only_set (only_set (only_set (World.grownBy.refl _ _) 0 v0) 1 v1) 2 v2) 3 v3
theorem parts_nil (w : World) : PartsOf w [] [] := ⟨rfl, fun i v l hv => by simp at hv⟩
theorem parts_cons {w : World} {A : Option Addr} {n c : Nat} {l : List UInt8} {vs : List Value} {ls : List (List UInt8)} (h : Sl w 1 A n c (bc l)) (hp : PartsOf w vs ls) : PartsOf w (.slice A n c :: vs) (l :: ls) := by
  refine ⟨by simp [hp.1], fun i v m hv hm => ?_⟩
  cases i with
  | zero =>
    simp at hv hm
    subst hv hm
    exact ⟨A, n, c, rfl, h⟩
  | succ i => exact hp.2 i v m (by simpa using hv) (by simpa using hm)
end Go.Proofs.YtpffieogkfndaaaGreatDoor

namespace Go.Proofs.YtpffieogkfndaaaGreatDoor
set_option maxRecDepth 20000
set_option linter.unusedVariables false
set_option linter.unusedSimpArgs false
open Go.RowKit

theorem flat_take_succ (ls : List (List UInt8)) (i : Nat) (h : i < ls.length) : (ls.take (i + 1)).flatten = (ls.take i).flatten ++ ls[i] := by
  rw [List.take_succ_eq_append_getElem h, List.flatten_append, List.flatten_cons, List.flatten_nil, List.append_nil]
theorem flat_take_le (ls : List (List UInt8)) (i : Nat) : (ls.take i).flatten.length ≤ ls.flatten.length := by
  have h : ls.flatten = (ls.take i).flatten ++ (ls.drop i).flatten := by rw [← List.flatten_append, List.take_append_drop]
  rw [h]
  simp
set_option maxRecDepth 100000 in
set_option maxHeartbeats 4000000 in
theorem join_any (w : World) (A : Option Addr) (n c : Nat) (vs : List Value) (ls : List (List UInt8)) (h : Sl w 1 A n c vs) (hp : PartsOf w vs ls) (hn : n ≤ 1000000) (hF : ls.flatten.length ≤ 1099511627776) :
    Calls Tryz.prog 86 #[.slice A n c, .slice none 0 0] w (NewB w ls.flatten) := by
  have Hl : Hid (ls.length = n) := by have h1 := h.len; have h2 := hp.1; unfold Hid; omega
  have hcap := h.cap
  have hcm := h.capm
  unfold maxLen at hcm
  by_cases h0 : n = 0
  · subst h0
    obtain rfl : ls = [] := List.eq_nil_of_length_eq_zero Hl.out
    go_enter Tryz.func86, Tryz.ntmps86
    go_wp2
    go_ret
    exact ⟨_, 0, 0, rfl, Own.nil _ _ _ _ _, (Below.refl w.heap.size w).alloc (Nat.le_refl _) _⟩
  by_cases h1 : n = 1
  · subst h1
    obtain ⟨b, o, A', n', c', hkl, rfl, hcell, hsl⟩ := hp.get h (k := 0) (by omega)
    have e : ls.flatten = ls[0] := by
      have h2 := flat_take_succ ls 0 hkl
      rw [List.take_of_length_le (by have := Hl.out; omega)] at h2
      simpa using h2
    rw [e] at hF ⊢
    have hl0 := hsl.lenb
    have hn' : n' ≤ 1099511627776 := by omega
    clear e hF hl0
    generalize ls[0] = l at *
    rw [Nat.add_zero] at hcell
    go_enter Tryz.func86, Tryz.ntmps86
    go_wp2_with (at_builtin; refine wpList_appB _ rfl (.const (.slice none 0 0)) (.tmp 21) rfl w.heap.size _ 0 0 [] rfl (Own.nil _ _ _ _ _) A' n' c' l rfl hsl ?_ ?_ ?_)
    · omega
    · exact Nat.le_refl _
    · intro A3 c3 w3 ho3 hg3 _
      go_wp2
      go_ret
      exact ⟨A3, _, c3, rfl, by simpa using ho3, (Below.refl w.heap.size w).grown hg3 (Nat.le_refl _) (by simp [blk])⟩
  have f0 : ((n : Int) == 0) = false := by simp; omega
  have f1 : ((n : Int) == 1) = false := by simp; omega
  have hmix : Tryz.prog.follows .mixedOrders = true := by kernel_rfl
  obtain ⟨T, hT⟩ : ∃ T, ls.flatten.length = T := ⟨_, rfl⟩
  rw [hT] at hF
  have HT := Lib.hid hT
  clear hT
  go_enter Tryz.func86, Tryz.ntmps86
  go_wp2
  go_loop [5, 44] (fun s i => ∃ j : Nat, j ≤ n ∧ i = .int .i64 j ∧ s = .int .i64 ((ls.take j).flatten.length : Nat)) (fun _ i => n - (intOf i).toNat)
  case atStart => exact ⟨0, Nat.zero_le _, rfl, rfl⟩
  case round =>
    obtain ⟨j, hj, rfl, rfl⟩ := hrel
    by_cases hlt : j < n
    · obtain ⟨b, o, A', n', c', hkl, rfl, hcell, hsl⟩ := hp.get h hlt
      have hs1 := flat_take_succ ls j hkl
      have hs2 := flat_take_le ls (j + 1)
      have hs3 := congrArg List.length hs1
      rw [List.length_append, hsl.lenb] at hs3
      rw [HT.out, hs3] at hs2
      generalize (ls.take j).flatten.length = acc at *
      have Hs3 := Lib.hid hs3
      have hb : ¬ (9223372036854775807 - (acc : Int) < (n' : Int)) := by omega
      clear hs1 hs3
      go_wp2
      go_round
      case rel => exact ⟨j + 1, by omega, by go_num, by rw [Hs3.out]; go_num⟩
      case measure => simp [intOf]; omega
    · obtain rfl : n = j := by omega
      rw [List.take_of_length_le (show ls.length ≤ n by have := Hl.out; omega), HT.out]
      obtain ⟨cs, hrunM, hle, hcm2⟩ := Lib.run_makeNoZero (P := Tryz.prog) w #[3] 29 5 Tryz.underlying29 T (by omega)
      have hcall : (callFunc 113 #[.int .i64 (T : Int)]).run Tryz.prog w = .ok (.value (.slice (some ⟨w.heap.size, 0, none⟩) T cs.size)) (w.drew.drew.alloc (.cells cs 5)) := by
        rw [run_callFunc_extern Tryz.func113 (by kernel_rfl) (by kernel_rfl) (by kernel_rfl) (e := Extern.BytealgMakeNoZero.makeNoZero #[3] #[29]) (by kernel_rfl), hrunM]
        rfl
      clear hrunM
      have i0 : (0 : Int) ≤ (T : Int) := by omega
      have i1 : (T : Int) ≤ (cs.size : Int) := by omega
      obtain ⟨wM, hwM⟩ : ∃ wM, w.drew.drew.alloc (.cells cs 5) = wM := ⟨_, rfl⟩
      have hbM : Below w.heap.size w wM := by rw [← hwM]; exact (((Below.refl w.heap.size w).drew).drew).alloc (Nat.le_refl _) _
      have hoM : Own wM w.heap.size 5 1 (some ⟨w.heap.size, 0, none⟩) T T (cs.toList.take T) := by
        rw [← hwM]
        exact ⟨by simp; omega, Nat.le_refl _, by unfold maxLen; omega, fun _ => ⟨w.heap.size, 0, cs, rfl, Nat.le_refl _, heap_alloc_new w.drew.drew _, by omega, by simp⟩⟩
      rw [hwM] at hcall
      obtain ⟨b, o, A', n', c', hkl, rfl, hcell, hsl⟩ := (hp.below hbM).get (h.below (by omega) hbM) (k := 0) (by omega)
      rw [Nat.add_zero] at hcell
      have hs1 := flat_take_succ ls 0 hkl
      have hs2 := flat_take_le ls (0 + 1)
      rw [List.take_zero, List.flatten_nil, List.nil_append] at hs1
      rw [hs1, hsl.lenb, HT.out] at hs2
      have Hs1 := Lib.hid hs1
      have HoM := Lib.hid hoM
      clear hs1 hwM hoM hcm2
      obtain ⟨A7, hr7, hs7⟩ := cutLP h .i64 (1 : Int) 1 rfl (by omega)
      have hp7 := hp.drop 1
      go_wp2_with fail
      obtain ⟨w1, hrun1, ho1, hg1⟩ := run_cpyHead wM w.heap.size (some ⟨w.heap.size, 0, none⟩) T T _ HoM.out A' n' c' _ hsl (by omega)
      rw [hrun1]
      have hb1 : Below w.heap.size w w1 := hbM.grown hg1 hbM.size (fun b hb => (Own.lt HoM.out b hb).1)
      have Ho1 := Lib.hid ho1
      have Hn' : Hid (ls[0].length = n') := hsl.lenb
      clear ho1 hg1 hcall hcell hbM hsl hrun1
      go_wp2
      go_loopw [9, 72] (fun s i wr => ∃ j : Nat, j ≤ n - 1 ∧ i = .int .i64 j ∧ s = .int .i64 ((ls.take (j + 1)).flatten.length : Nat) ∧ Below w.heap.size w wr ∧ ∃ junk, Own wr w.heap.size 5 1 (some ⟨w.heap.size, 0, none⟩) T T (bc (ls.take (j + 1)).flatten ++ junk)) (fun _ i _ => n - 1 - (intOf i).toNat)
      case atStart => exact ⟨0, Nat.zero_le _, rfl, by rw [Hs1.out, Hn'.out], hb1, _, by rw [Hs1.out]; exact Ho1.out⟩
      case round =>
        clear hb1
        obtain ⟨j, hj, rfl, rfl, hbr, junk, hor⟩ := hrel
        by_cases hlt : j < n - 1
        · obtain ⟨b2, o2, A2, n2, c2, hkl2, eA7, hcell2, hsl2⟩ := (hp7.below hbr).get (hs7.below (by omega) hbr) hlt
          subst eA7
          have hj1 : j + 1 < ls.length := by have := Hl.out; omega
          have hs3 := flat_take_succ ls (j + 1) hj1
          have hs4 := flat_take_le ls (j + 1 + 1)
          have e5 : (ls.drop 1)[j] = ls[j + 1] := by simp
          rw [e5] at hsl2
          rw [hs3, List.length_append, hsl2.lenb, HT.out] at hs4
          have hs5 := congrArg List.length hs3
          rw [List.length_append, hsl2.lenb] at hs5
          obtain ⟨D, hD⟩ : ∃ D, (ls.take (j + 1)).flatten = D := ⟨_, rfl⟩
          rw [hD] at hor hs3 hs4 hs5
          rw [hD]
          obtain ⟨d, hd⟩ : ∃ d, D.length = d := ⟨_, rfl⟩
          rw [hd] at hs4 hs5
          rw [hd]
          have Hd := Lib.hid hd
          have Hs3 := Lib.hid hs3
          have Hs5 := Lib.hid hs5
          have Hor := Lib.hid hor
          have hlt' : (j : Int) < (n : Int) - 1 := by omega
          have hlt2 : (j : Int) < ((n - 1 : Nat) : Int) := by omega
          have ht := fun w' => run_tailB w' (some ⟨w.heap.size, 0, none⟩) T T .i64 (d : Int) d rfl (by omega)
          clear hD hd hs3 hs5 hor e5
          have hcell2 := hcell2
          go_wp2_with fail
          obtain ⟨w2, hrun2, ho2, hg2⟩ := run_cpySub wr w.heap.size (some ⟨w.heap.size, 0, none⟩) T T _ Hor.out d (by omega) none 0 0 [] (Sl.nil _ _ _ _ (Nat.zero_le _)) (by omega)
          rw [hrun2]
          rw [bc_nil, List.append_nil, Nat.add_zero, List.take_append_drop] at ho2
          have hb2 : Below w.heap.size w w2 := hbr.grown hg2 hbr.size (fun b hb => (Own.lt Hor.out b hb).1)
          have Ho2 := Lib.hid ho2
          have hsl3 : Sl w2 1 A2 n2 c2 (bc ls[j + 1]) := hsl2.keep fun hn2 b hb => (hg2.block b (hsl2.lt (by omega) hn2 b hb) (fun e => by
            have h1 := (Own.lt Hor.out b e.symm).1
            obtain ⟨A9, n9, c9, hv9, hs9⟩ := hp7.2 j _ _ (List.getElem?_eq_getElem (by have h5 := hp7.1; omega)) (List.getElem?_eq_getElem hkl2)
            have h5 := hs7.below (w' := wr) (by omega) hbr
            obtain ⟨b5, o5, u5, e5, hu5, hc5⟩ := h5.cell hlt
            obtain ⟨rfl, rfl⟩ : b2 = b5 ∧ o2 = o5 := by simpa using e5
            rw [hcell2] at hc5
            rw [List.getElem?_eq_getElem (by have h6 := hp7.1; omega)] at hu5
            have h7 := (Option.some.inj hu5).trans (Option.some.inj hc5).symm
            rw [h7] at hv9
            injection hv9 with q1 q2 q3
            subst q1
            subst q2
            have h8 := hs9.lt (by omega) hn2 b hb
            omega))
          clear hrun2 ho2 hg2
          go_wp2_with fail
          obtain ⟨w3, hrun3, ho3, hg3⟩ := run_cpySub w2 w.heap.size (some ⟨w.heap.size, 0, none⟩) T T _ Ho2.out d (by omega) A2 n2 c2 _ hsl3 (by omega)
          rw [hrun3]
          have hb3 : Below w.heap.size w w3 := hb2.grown hg3 hb2.size (fun b hb => (Own.lt Ho2.out b hb).1)
          rw [List.take_left' (by rw [length_bc]; exact Hd.out)] at ho3
          rw [← bc_append] at ho3
          have Ho3 := Lib.hid ho3
          clear hrun3 ho3 hg3
          go_wp2
          go_roundw
          case rel => exact ⟨j + 1, by omega, by go_num, by rw [Hs5.out]; go_num, hb3, _, by rw [Hs3.out]; exact Ho3.out⟩
          case measure => simp [intOf]; omega
        · have hjn : j + 1 = n := by omega
          have hlt3 : ¬ ((j : Int) < (n : Int) - 1) := by omega
          have hlt4 : ¬ ((j : Int) < ((n - 1 : Nat) : Int)) := by omega
          have hall : ls.take (j + 1) = ls := List.take_of_length_le (by have := Hl.out; omega)
          rw [hall] at hor
          have hlen := hor.len
          rw [List.length_append, length_bc, HT.out] at hlen
          obtain rfl : junk = [] := List.eq_nil_of_length_eq_zero (by omega)
          rw [List.append_nil] at hor
          have Hor := Lib.hid hor
          clear hall hlen hor hjn
          go_wp2
          go_ret
          exact ⟨_, T, T, rfl, Hor.out, hbr⟩
end Go.Proofs.YtpffieogkfndaaaGreatDoor

namespace Go.Proofs.YtpffieogkfndaaaGreatDoor
set_option maxRecDepth 20000
set_option linter.unusedVariables false
set_option linter.unusedSimpArgs false
open Go.RowKit

theorem ajoin_any (w : World) (A : Option Addr) (n c : Nat) (vs : List Value) (ls : List (List UInt8)) (h : Sl w 1 A n c vs) (hp : PartsOf w vs ls) (hn : n ≤ 1000000) (hF : ls.flatten.length ≤ 1099511627776) :
    Calls Tryz.prog 44 #[.slice A n c] w (NewB w ls.flatten) := by
  have hc := join_any w A n c vs ls h hp hn hF
  have Hc := Lib.hid hc
  clear hc
  go_enter Tryz.func44, Tryz.ntmps44
  go_wp2_with fail
  refine Hc.out.mono ?_
  rintro e w1 ⟨A1, n1, c1, rfl, ho1, hb1⟩
  go_wp2
  go_ret
  exact ⟨A1, n1, c1, rfl, ho1, hb1⟩
/-- a row of two texts -/
theorem pair_parts (w : World) (A1 : Option Addr) (n1 c1 : Nat) (l1 : List UInt8) (A2 : Option Addr) (n2 c2 : Nat) (l2 : List UInt8) (h1 : Sl w 1 A1 n1 c1 (bc l1)) (h2 : Sl w 1 A2 n2 c2 (bc l2)) :
    Sl (w.alloc (.cells #[.slice A1 n1 c1, .slice A2 n2 c2] 29)) 1 (some ⟨w.heap.size, 0, none⟩) 2 2 [.slice A1 n1 c1, .slice A2 n2 c2] ∧
      PartsOf (w.alloc (.cells #[.slice A1 n1 c1, .slice A2 n2 c2] 29)) [.slice A1 n1 c1, .slice A2 n2 c2] [l1, l2] ∧ Below w.heap.size w (w.alloc (.cells #[.slice A1 n1 c1, .slice A2 n2 c2] 29)) := by
  have b := (Below.refl w.heap.size w).alloc (Nat.le_refl _) (.cells #[.slice A1 n1 c1, .slice A2 n2 c2] 29)
  refine ⟨Sl.lit w _ _ 2 _ _ rfl (by unfold maxLen; omega) rfl, ⟨rfl, ?_⟩, b⟩
  intro i v l hv hl
  rcases i with _ | _ | i
  · simp at hv hl; subst hv; subst hl; exact ⟨_, _, _, rfl, h1.below (by omega) b⟩
  · simp at hv hl; subst hv; subst hl; exact ⟨_, _, _, rfl, h2.below (by omega) b⟩
  · simp at hv
/-- Join of two -/
theorem ajoin_two (w : World) (A1 : Option Addr) (n1 c1 : Nat) (l1 : List UInt8) (A2 : Option Addr) (n2 c2 : Nat) (l2 : List UInt8) (h1 : Sl w 1 A1 n1 c1 (bc l1)) (h2 : Sl w 1 A2 n2 c2 (bc l2)) (hn : n1 + n2 ≤ 1099511627776) :
    Calls Tryz.prog 44 #[.slice (some ⟨w.heap.size, 0, none⟩) 2 2] (w.alloc (.cells #[.slice A1 n1 c1, .slice A2 n2 c2] 29)) (NewB w (l1 ++ l2)) := by
  obtain ⟨s, p, b⟩ := pair_parts w A1 n1 c1 l1 A2 n2 c2 l2 h1 h2
  have e1 := h1.lenb
  have e2 := h2.lenb
  have hf : [l1, l2].flatten = l1 ++ l2 := by simp
  refine (ajoin_any _ _ 2 2 _ _ s p (by omega) (by rw [hf, List.length_append]; omega)).mono ?_
  rw [hf]
  rintro e w1 ⟨A3, n3, c3, rfl, ho, hb⟩
  exact ⟨A3, n3, c3, rfl, Own.mono ho (by simp), b.trans (hb.mono (by simp))⟩
def textL (t : List UInt8) : List UInt8 := numL t.length ++ t
set_option maxHeartbeats 1000000 in
theorem text_any (w : World) (A : Option Addr) (n c : Nat) (t : List UInt8) (h : Sl w 1 A n c (bc t)) (hn : n ≤ 1000000) :
    Calls Tryz.prog 46 #[.slice A n c] w (NewB w (textL t)) := by
  have hl := h.lenb
  have hnl := num_len t.length
  have hc := fun w' => num_any t.length w' (by omega)
  have e : textL t = numL t.length ++ t := rfl
  rw [e]
  generalize hN : numL t.length = N at *
  rw [hl] at hc
  have Hc := Lib.hid hc
  clear hc hl e hN
  go_enter Tryz.func46, Tryz.ntmps46
  go_wp2_with fail
  refine (Hc.out _).mono ?_
  rintro e w1 ⟨A1, n1, c1, rfl, ho1, hb1⟩
  have hn1 := ho1.len'
  subst hn1
  go_wp2_with fail
  refine (ajoin_two w1 A1 _ c1 N A n c t (OwnB.sl ho1) (h.below (by omega) hb1) (by omega)).mono ?_
  rintro e w2 ⟨A2, n2, c2, rfl, ho2, hb2⟩
  go_wp2
  go_ret
  exact ⟨A2, n2, c2, rfl, Own.mono ho2 hb1.size, hb1.trans (hb2.mono hb1.size)⟩
theorem take_text (t rest : List UInt8) (ht : t.length < 18446744073709551616) (m : Nat) : takeTextL (textL t ++ rest) m = if t.length ≤ m then (t, rest, 0) else ([], [], 3) := by
  unfold takeTextL textL
  rw [List.append_assoc, take_num t.length ht]
  simp only [ne_eq, not_true_eq_false, if_false]
  by_cases h : t.length ≤ m
  · rw [if_neg (by omega), if_neg (by simp), if_pos h, List.take_left, List.drop_left]
  · rw [if_pos (.inr (by omega)), if_neg h]
end Go.Proofs.YtpffieogkfndaaaGreatDoor

namespace Go.Proofs.YtpffieogkfndaaaGreatDoor
set_option maxRecDepth 20000
set_option linter.unusedVariables false
set_option linter.unusedSimpArgs false
open Go.RowKit

theorem cmp_self (l : List UInt8) : Lib.compareBytes l l = 0 := by
  induction l with
  | nil => rfl
  | cons a l ih => simp [Lib.compareBytes, ih]
theorem cmp_swap : ∀ (l m : List UInt8), Lib.compareBytes m l = - Lib.compareBytes l m
  | [], [] => rfl
  | [], _ :: _ => rfl
  | _ :: _, [] => rfl
  | a :: l, b :: m => by
    have ih := cmp_swap l m
    simp only [Lib.compareBytes]
    by_cases h1 : a < b
    · have h2 : ¬ b < a := fun h => by
        rw [UInt8.lt_iff_toNat_lt] at h1 h
        omega
      simp [h1, h2]
    · by_cases h2 : b < a
      · simp [h1, h2]
      · simp [h1, h2, ih]
def ltL (l m : List UInt8) : Bool := decide (Lib.compareBytes l m < 0)
theorem run_bytesOf (w : World) (A : Option Addr) (n c : Nat) (l : List UInt8) (h : Sl w 1 A n c (bc l)) :
    ∃ s : ByteArray, s.data.toList = l ∧ (Extern.Bytes.bytesOf (.slice A n c)).run Tryz.prog w = .ok s w := by
  have hl := h.lenb
  cases A with
  | none =>
    obtain rfl := h.none_len
    obtain rfl : l = [] := List.eq_nil_of_length_eq_zero hl
    exact ⟨.empty, rfl, rfl⟩
  | some ad =>
    have hm : Lib.bytesOf (l.map fun x => (x.toNat : Int)) = l := by
      unfold Lib.bytesOf
      rw [List.map_map]
      conv => rhs; rw [← List.map_id l]
      apply List.map_congr_left
      intro x _
      simp
    have hr := Lib.run_loadBytesX (P := Tryz.prog) w (l.map fun x => (x.toNat : Int)) ad .empty (fun j x hj => by
      have hjl : j < l.length := by
        have := (List.getElem?_eq_some_iff.1 hj).1
        simpa using this
      obtain ⟨b, o, e, hc⟩ := h.at_ (by omega)
      obtain rfl := Option.some.inj e
      have h1 := hc j (.int .u8 x) (by rw [bc_get]; simpa using hj)
      rw [Addr.add_lit]
      exact h1)
    rw [List.length_map, hl, hm] at hr
    refine ⟨_, ?_, hr⟩
    show (ByteArray.empty.data ++ l.toArray).toList = l
    simp
theorem run_cmp (w : World) (A : Option Addr) (n c : Nat) (l : List UInt8) (h : Sl w 1 A n c (bc l)) (A2 : Option Addr) (n2 c2 : Nat) (m : List UInt8) (h2 : Sl w 1 A2 n2 c2 (bc m)) :
    (Extern.BytealgCompare.compare #[.slice A n c, .slice A2 n2 c2]).run Tryz.prog w = .ok (.int .i64 (Lib.compareBytes l m)) w := by
  obtain ⟨s, e1, r1⟩ := run_bytesOf w A n c l h
  obtain ⟨t, e2, r2⟩ := run_bytesOf w A2 n2 c2 m h2
  change Sem.run Tryz.prog (do pure (goInt (Extern.BytealgCompare.cmp (← Extern.Bytes.bytesOf (.slice A n c)) (← Extern.Bytes.bytesOf (.slice A2 n2 c2))))) w = _
  simp only [Sem.run_bind, Sem.run_pure, r1, r2, Result.andThen]
  rw [Lib.cmp_eq, e1, e2]
  rfl
set_option maxHeartbeats 1000000 in
theorem less_any (w : World) (A : Option Addr) (n c : Nat) (l : List UInt8) (h : Sl w 1 A n c (bc l)) (A2 : Option Addr) (n2 c2 : Nat) (m : List UInt8) (h2 : Sl w 1 A2 n2 c2 (bc m)) :
    Calls Tryz.prog 58 #[.slice A n c, .slice A2 n2 c2] w fun e w' => e = .returned (.bool (ltL l m)) ∧ w = w' := by
  have hcall : (callFunc 115 #[.slice A n c, .slice A2 n2 c2]).run Tryz.prog w = .ok (.value (.int .i64 (Lib.compareBytes l m))) w := by
    rw [run_callFunc_extern Tryz.func115 (by kernel_rfl) (by kernel_rfl) (by kernel_rfl) (e := Extern.BytealgCompare.compare) (by kernel_rfl), run_cmp w A n c l h A2 n2 c2 m h2]
    rfl
  unfold ltL
  generalize Lib.compareBytes l m = z at *
  have hc : Calls Tryz.prog 97 #[.slice A n c, .slice A2 n2 c2] w fun e w' => e = .returned (.int .i64 z) ∧ w = w' := by
    go_enter Tryz.func97, Tryz.ntmps97
    go_wp2
    go_ret
    exact ⟨rfl, rfl⟩
  clear hcall
  have Hc := Lib.hid hc
  clear hc
  go_enter Tryz.func58, Tryz.ntmps58
  go_wp2_with fail
  refine Hc.out.mono ?_
  rintro e w' ⟨rfl, rfl⟩
  go_wp2
  go_ret
  exact ⟨rfl, rfl⟩
theorem less_is (w : World) (A : Option Addr) (n c : Nat) (l : List UInt8) (h : Sl w 1 A n c (bc l)) (A2 : Option Addr) (n2 c2 : Nat) (m : List UInt8) (h2 : Sl w 1 A2 n2 c2 (bc m)) (b : Bool) (hb : Hid (ltL l m = b)) :
    Calls Tryz.prog 58 #[.slice A n c, .slice A2 n2 c2] w fun e w' => e = .returned (.bool b) ∧ w = w' := by
  rw [← hb.out]
  exact less_any w A n c l h A2 n2 c2 m h2
end Go.Proofs.YtpffieogkfndaaaGreatDoor

namespace Go.Proofs.YtpffieogkfndaaaGreatDoor
set_option maxRecDepth 20000
set_option linter.unusedVariables false
set_option linter.unusedSimpArgs false
open Go.RowKit

theorem cmp_val : ∀ l m : List UInt8, Lib.compareBytes l m = -1 ∨ Lib.compareBytes l m = 0 ∨ Lib.compareBytes l m = 1
  | [], [] => .inr (.inl rfl)
  | [], _ :: _ => .inl rfl
  | _ :: _, [] => .inr (.inr rfl)
  | a :: l, b :: m => by
    simp only [Lib.compareBytes]
    split
    · exact .inl rfl
    · split
      · exact .inr (.inr rfl)
      · exact cmp_val l m
theorem cmp_zero : ∀ l m : List UInt8, Lib.compareBytes l m = 0 ↔ l = m
  | [], [] => by simp [Lib.compareBytes]
  | [], _ :: _ => by simp [Lib.compareBytes]
  | _ :: _, [] => by simp [Lib.compareBytes]
  | a :: l, b :: m => by
    simp only [Lib.compareBytes]
    have ih := cmp_zero l m
    by_cases h1 : a < b
    · rw [if_pos h1]
      have : a ≠ b := fun e => by subst e; exact absurd h1 (by simp)
      simp [this]
    · rw [if_neg h1]
      by_cases h2 : b < a
      · rw [if_pos h2]
        have : a ≠ b := fun e => by subst e; exact absurd h2 (by simp)
        simp [this]
      · rw [if_neg h2, ih]
        have : a = b := UInt8.toNat_inj.1 (by rw [UInt8.lt_iff_toNat_lt] at h1 h2; omega)
        simp [this]
theorem cmp_trans : ∀ l m n : List UInt8, Lib.compareBytes l m < 0 → Lib.compareBytes m n < 0 → Lib.compareBytes l n < 0
  | [], m, n, h1, h2 => by
    cases m with
    | nil => simp [Lib.compareBytes] at h1
    | cons b m => cases n with
      | nil => simp [Lib.compareBytes] at h2
      | cons c n => simp [Lib.compareBytes]
  | a :: l, m, n, h1, h2 => by
    cases m with
    | nil => simp [Lib.compareBytes] at h1
    | cons b m => cases n with
      | nil => simp [Lib.compareBytes] at h2
      | cons c n =>
        simp only [Lib.compareBytes] at h1 h2 ⊢
        simp only [UInt8.lt_iff_toNat_lt] at h1 h2 ⊢
        have ih := cmp_trans l m n
        split at h1
        · split at h2
          · rw [if_pos (by omega)]; omega
          · split at h2
            · omega
            · rw [if_pos (by omega)]; omega
        · split at h1
          · omega
          · split at h2
            · rw [if_pos (by omega)]; omega
            · split at h2
              · omega
              · rw [if_neg (by omega), if_neg (by omega)]
                exact ih h1 h2
/-- of two numbers, as cmp.Compare has it -/
def cmpN (a b : Nat) : Int := if a < b then -1 else if b < a then 1 else 0
theorem cmpN_val (a b : Nat) : cmpN a b = -1 ∨ cmpN a b = 0 ∨ cmpN a b = 1 := by
  unfold cmpN
  split
  · exact .inl rfl
  · split
    · exact .inr (.inr rfl)
    · exact .inr (.inl rfl)
theorem cmpN_sgn (a b : Nat) : (cmpN a b < 0 ↔ a < b) ∧ (cmpN a b = 0 ↔ a = b) := by
  unfold cmpN
  repeat' split
  all_goals omega
/-- of two versions -/
def cmpKey (a b : KeyL) : Int :=
  if Lib.compareBytes a.user b.user ≠ 0 then Lib.compareBytes a.user b.user
  else if cmpN b.seq.toNat a.seq.toNat ≠ 0 then cmpN b.seq.toNat a.seq.toNat else cmpN b.kind.toNat a.kind.toNat
def lessKey (a b : KeyL) : Bool :=
  if !(a.user == b.user) then ltL a.user b.user else if !(a.seq == b.seq) then decide (b.seq.toNat < a.seq.toNat) else decide (b.kind.toNat < a.kind.toNat)
theorem cmpKey_val (a b : KeyL) : cmpKey a b = -1 ∨ cmpKey a b = 0 ∨ cmpKey a b = 1 := by
  unfold cmpKey
  split
  · exact cmp_val _ _
  · split
    · exact cmpN_val _ _
    · exact cmpN_val _ _
theorem cmpKey_swap (a b : KeyL) : cmpKey b a = - cmpKey a b := by
  have h1 := cmp_swap a.user b.user
  have h2 : cmpN a.seq.toNat b.seq.toNat = - cmpN b.seq.toNat a.seq.toNat := by unfold cmpN; repeat' split <;> omega
  have h3 : cmpN a.kind.toNat b.kind.toNat = - cmpN b.kind.toNat a.kind.toNat := by unfold cmpN; repeat' split <;> omega
  unfold cmpKey
  rw [h1, h2, h3]
  repeat' split
  all_goals omega
theorem cmpKey_zero (a b : KeyL) : cmpKey a b = 0 ↔ a = b := by
  unfold cmpKey
  have h1 := cmp_zero a.user b.user
  have h2 : cmpN b.seq.toNat a.seq.toNat = 0 ↔ a.seq = b.seq := by
    rw [← UInt64.toNat_inj]
    unfold cmpN
    repeat' split
    all_goals omega
  have h3 : cmpN b.kind.toNat a.kind.toNat = 0 ↔ a.kind = b.kind := by
    rw [← UInt8.toNat_inj]
    unfold cmpN
    repeat' split
    all_goals omega
  cases a with | mk u s k => cases b with | mk u' s' k' =>
  simp only [KeyL.mk.injEq] at *
  split
  · rename_i h
    constructor
    · intro e; exact absurd e h
    · rintro ⟨e, _⟩; exact absurd (h1.2 e) h
  · rename_i h
    have h := h1.1 (by omega)
    split
    · rename_i h'
      constructor
      · intro e; exact absurd e h'
      · rintro ⟨_, e, _⟩; exact absurd (h2.2 e) h'
    · rename_i h'
      have h' := h2.1 (by omega)
      rw [h3]
      simp [h, h']
theorem cmpKey_less (a b : KeyL) : decide (cmpKey a b < 0) = lessKey a b := by
  unfold cmpKey lessKey
  have h1 := cmp_zero a.user b.user
  by_cases hu : a.user = b.user
  · have hu0 := h1.2 hu
    have hub : (!(a.user == b.user)) = false := by rw [hu]; simp
    rw [if_neg (by omega), hub]
    simp only [Bool.false_eq_true, if_false]
    by_cases hs : a.seq = b.seq
    · have hsb : (!(a.seq == b.seq)) = false := by rw [hs]; simp
      have hz : cmpN b.seq.toNat a.seq.toNat = 0 := by rw [hs]; unfold cmpN; simp
      rw [if_neg (by omega), hsb]
      simp only [Bool.false_eq_true, if_false, decide_eq_decide]
      unfold cmpN
      repeat' split
      all_goals omega
    · have hs' : a.seq.toNat ≠ b.seq.toNat := fun e => hs (UInt64.toNat_inj.1 e)
      have hsb : (!(a.seq == b.seq)) = true := by simp [hs]
      have hz : cmpN b.seq.toNat a.seq.toNat ≠ 0 := by
        unfold cmpN
        repeat' split
        all_goals omega
      rw [if_pos hz, hsb]
      simp only [if_true, decide_eq_decide]
      unfold cmpN
      repeat' split
      all_goals omega
  · have hub : (!(a.user == b.user)) = true := by simp [hu]
    rw [if_pos (fun e => hu (h1.1 e)), hub]
    rfl
theorem cmpKey_trans (a b c : KeyL) (h1 : cmpKey a b < 0) (h2 : cmpKey b c < 0) : cmpKey a c < 0 := by
  unfold cmpKey at *
  have t := cmp_trans a.user b.user c.user
  have z1 := cmp_zero a.user b.user
  have z2 := cmp_zero b.user c.user
  have v := cmp_val a.user c.user
  by_cases e1 : a.user = b.user
  · have q1 := z1.2 e1
    rw [if_neg (by omega)] at h1
    by_cases e2 : b.user = c.user
    · have q2 := z2.2 e2
      rw [if_neg (by omega)] at h2
      rw [e1, e2, cmp_self, if_neg (by omega)]
      clear t z1 z2 v e1 e2 q1 q2
      have a1 := cmpN_sgn b.seq.toNat a.seq.toNat
      have a2 := cmpN_sgn c.seq.toNat b.seq.toNat
      have a3 := cmpN_sgn c.seq.toNat a.seq.toNat
      have k1 := cmpN_sgn b.kind.toNat a.kind.toNat
      have k2 := cmpN_sgn c.kind.toNat b.kind.toNat
      have k3 := cmpN_sgn c.kind.toNat a.kind.toNat
      generalize cmpN b.seq.toNat a.seq.toNat = x1 at *
      generalize cmpN c.seq.toNat b.seq.toNat = x2 at *
      generalize cmpN c.seq.toNat a.seq.toNat = x3 at *
      generalize cmpN b.kind.toNat a.kind.toNat = y1 at *
      generalize cmpN c.kind.toNat b.kind.toNat = y2 at *
      generalize cmpN c.kind.toNat a.kind.toNat = y3 at *
      by_cases e1 : x1 = 0
      · rw [if_neg (by omega)] at h1
        by_cases e2 : x2 = 0
        · rw [if_neg (by omega)] at h2
          rw [if_neg (by omega)]
          omega
        · rw [if_pos e2] at h2
          rw [if_pos (by omega)]
          omega
      · rw [if_pos e1] at h1
        by_cases e2 : x2 = 0
        · rw [if_pos (by omega)]
          omega
        · rw [if_pos e2] at h2
          rw [if_pos (by omega)]
          omega
    · rw [if_pos (by rw [ne_eq, z2]; exact e2)] at h2
      rw [e1, if_pos (by rw [ne_eq, z2]; exact e2)]
      exact h2
  · rw [if_pos (by rw [ne_eq, z1]; exact e1)] at h1
    by_cases e2 : b.user = c.user
    · rw [← e2, if_pos (by rw [ne_eq, z1]; exact e1)]
      exact h1
    · rw [if_pos (by rw [ne_eq, z2]; exact e2)] at h2
      have := t h1 h2
      rw [if_pos (by omega)]
      exact this
/-- is a version right? the error's number -/
def checkKey (k : KeyL) : Nat :=
  if k.seq.toNat ≥ 72057594037927936 ∨ k.kind.toNat < 1 ∨ k.kind.toNat > 2 then 1 else if k.user.length = 0 then 2 else if k.user.length > 64 then 3 else 0
/-- eight bytes, the least first -/
def le8 (n : Nat) : List UInt8 := (List.range 8).map fun i => UInt8.ofNat (n / 256 ^ i)
def keyN (k : KeyL) : Nat := k.seq.toNat * 256 + k.kind.toNat
def keyBytesL (k : KeyL) : List UInt8 := textL k.user ++ le8 (keyN k)
theorem after_lt (a : List UInt8) : Lib.compareBytes a (a ++ [0]) = -1 := by
  induction a with
  | nil => rfl
  | cons x a ih => simp [Lib.compareBytes, ih]
/-- what a number says behind a key -/
theorem ltL_self (a : List UInt8) : ltL a a = false := by unfold ltL; rw [cmp_self]; rfl
theorem ltL_swap {a b : List UInt8} (h : ltL a b = true) : ltL b a = false := by
  unfold ltL at *
  have := cmp_swap a b
  have h := of_decide_eq_true h
  exact decide_eq_false (by omega)
end Go.Proofs.YtpffieogkfndaaaGreatDoor

namespace Go.Proofs.YtpffieogkfndaaaGreatDoor
open Go.RowKit
set_option maxRecDepth 20000
set_option linter.unusedVariables false
set_option linter.unusedSimpArgs false
section
variable {α : Type} [Rep α] {w w' : World} {B : Nat} {e : TypeId} {A : Option Addr} {n c : Nat} {ls : List α}
def OwnX (w : World) (B : Nat) (e : TypeId) (A : Option Addr) (n c : Nat) (ls : List α) : Prop :=
  ∃ xs, Own w B e (Rep.size α) A n c xs ∧ RowC w (fun b => blk A c ≠ some b) xs ls
theorem OwnX.nil (w : World) (B : Nat) (e : TypeId) (A : Option Addr) : OwnX w B e A 0 0 ([] : List α) := ⟨[], Own.nil _ _ _ _ _, rfl⟩
theorem OwnX.sl (h : OwnX w B e A n c ls) : SlR w (fun _ => True) A n c ls := by
  obtain ⟨xs, ho, hr⟩ := h
  exact ⟨xs, ho.sl, hr.move fun _ _ _ => ⟨rfl, trivial⟩, fun _ _ _ => trivial⟩
theorem OwnX.lenR (h : OwnX w B e A n c ls) : ls.length = n := h.sl.lenR
theorem OwnX.lt (h : OwnX w B e A n c ls) : ∀ b, blk A c = some b → B ≤ b ∧ b < w.heap.size := by
  obtain ⟨xs, ho, _⟩ := h
  exact fun b hb => Own.lt ho b hb
theorem OwnX.below (h : OwnX w B e A n c ls) (hb : Below w.heap.size w w') : OwnX w' B e A n c ls := by
  obtain ⟨xs, ho, hr⟩ := h
  exact ⟨xs, ho.below hb, hr.move fun b hl hp => ⟨hb.block b hl, hp⟩⟩
theorem OwnX.mono {B' : Nat} (h : OwnX w B e A n c ls) (hB : B' ≤ B) : OwnX w B' e A n c ls := by
  obtain ⟨xs, ho, hr⟩ := h
  exact ⟨xs, ho.mono hB, hr⟩
/-- another block was written -/
theorem OwnX.grown {g : Nat} {row : Option Nat} (h : OwnX w B e A n c ls) (hg : w.grownBy w' row) (h1 : ∀ b, row = some b → g ≤ b) (h2 : w.heap.size ≤ g) : OwnX w' B e A n c ls := by
  obtain ⟨xs, ho, hr⟩ := h
  refine ⟨xs, ho.grown hg fun b hb q => ?_, hr.move fun b hl hp => ⟨hg.block b hl fun q => ?_, hp⟩⟩
  · have := (ho.lt b hb).2
    have := h1 b q
    omega
  · have := h1 b q.symm
    omega
theorem row_app (P : Program) (w : World) (t ty : TypeId) (z : Value) (bytes : Nat) (ht : P.underlying t = some (.slice e)) (hi : (P.info? e).map (fun i => (i.zero, i.size, i.bytes)) = some (some z, Rep.size α, bytes))
    (hzs : z.cells.size = Rep.size α) (hown : OwnX w B e A n c ls)
    (A2 : Option Addr) (m c2 : Nat) (ms : List α) (hs : ∃ xs, Sl w (Rep.size α) A2 m c2 xs ∧ RowC w (fun b => blk A c ≠ some b) xs ms)
    (h63 : n + m ≤ maxLen) (hbytes : (n + m) * bytes ≤ 140737488355328) (hB : B ≤ w.heap.size) :
    ∃ A' c' w', (Builtin.append_ #[t, t] ty #[.slice A n c, .slice A2 m c2]).run P w = .ok (.slice A' (n + m) c') w' ∧ OwnX w' B e A' (n + m) c' (ls ++ ms) ∧ w.grownBy w' (blk A c) ∧ (blk A' c' = blk A c ∨ blk A' c' = some w.heap.size) := by
  obtain ⟨i, hi1, hz, hs1, hb1⟩ := info_parts hi
  obtain ⟨xs, hO, hR⟩ := hown
  obtain ⟨ys, hS, hR2⟩ := hs
  obtain ⟨A', c', w', hrun, h2, h3, h4⟩ := run_append_own2 (P := P) w B t ty e i z (Rep.size α) bytes ht hi1 hz hs1 hb1 hzs A n c xs hO A2 m c2 ys hS hR2.one h63 hbytes hB
  have mv : ∀ b, b < w.heap.size → blk A c ≠ some b → w'.heap[b]? = w.heap[b]? ∧ blk A' c' ≠ some b := fun b hl hp => by
    refine ⟨h3.block b hl (fun q => hp q.symm), ?_⟩
    rcases h4 with q | q
    · rw [q]; exact hp
    · rw [q]
      intro r
      simp at r
      omega
  exact ⟨A', c', w', hrun, ⟨_, h2, (hR.move mv).append (hR2.move mv)⟩, h3, h4⟩
theorem wpList_appX {P : Program} (w : World) {ops : Array Oper} {rest : List Oper} {o : Oper} {a : Act} {Q : Exit → Act → World → Prop} (hgd : o.guard = none) (s x : Operand) (t : TypeId)
    (ho : o.op = .call { callee := .builtin .append, args := #[s, x], argTypes := #[t, t] })
    (B : Nat) (e : TypeId) (z : Value) (bytes : Nat) (ht : P.underlying t = some (.slice e)) (hi : (P.info? e).map (fun i => (i.zero, i.size, i.bytes)) = some (some z, Rep.size α, bytes))
    (hzs : z.cells.size = Rep.size α)
    (A : Option Addr) (n c : Nat) (ls : List α) (hsv : a.eval s = .slice A n c) (hown : OwnX w B e A n c ls)
    (A2 : Option Addr) (m c2 : Nat) (ms : List α) (hx : a.eval x = .slice A2 m c2) (hs : ∃ xs, Sl w (Rep.size α) A2 m c2 xs ∧ RowC w (fun b => blk A c ≠ some b) xs ms)
    (h63 : n + m ≤ maxLen) (hbytes : (n + m) * bytes ≤ 140737488355328) (hB : B ≤ w.heap.size)
    (h : ∀ A' c' w', OwnX w' B e A' (n + m) c' (ls ++ ms) → w.grownBy w' (blk A c) → (blk A' c' = blk A c ∨ blk A' c' = some w.heap.size) → wpList P ops Q rest (a.put o.dst (.slice A' (n + m) c')) w') : wpList P ops Q (o :: rest) a w := by
  obtain ⟨A', c', w', hrun, h2, h3, h4⟩ := row_app P w t o.type z bytes ht hi hzs hown A2 m c2 ms hs h63 hbytes hB
  refine wpList_plain hgd fun _ hK => ?_
  unfold Oper.wp execOp
  simp only [ho, resolve, invoke, builtin, Sem.run_bind, Sem.run_pure, Result.andThen_ok, List.map_toArray, List.map_cons, List.map_nil, hsv, hx, hrun]
  exact hK _ _ (h A' c' w' h2 h3 h4)
end
end Go.Proofs.YtpffieogkfndaaaGreatDoor

namespace Go.Proofs.YtpffieogkfndaaaGreatDoor
open Go.RowKit
set_option maxRecDepth 20000
set_option linter.unusedVariables false
set_option linter.unusedSimpArgs false
section
variable {α : Type} [Rep α] {w w' : World} {B L : Nat} {e : TypeId} {A : Option Addr} {n c : Nat} {ls : List α}
/-- the row is of the call's own from B on; what its records hold lies below L -/
def OwnL (w : World) (B L : Nat) (e : TypeId) (A : Option Addr) (n c : Nat) (ls : List α) : Prop :=
  ∃ xs, Own w B e (Rep.size α) A n c xs ∧ RowC w (fun b => b < L) xs ls
theorem OwnL.nil (w : World) (B L : Nat) (e : TypeId) (A : Option Addr) : OwnL w B L e A 0 0 ([] : List α) := ⟨[], Own.nil _ _ _ _ _, rfl⟩
theorem OwnL.sl (h : OwnL w B L e A n c ls) : SlR w (fun _ => True) A n c ls := by
  obtain ⟨xs, ho, hr⟩ := h
  exact ⟨xs, ho.sl, hr.move fun _ _ _ => ⟨rfl, trivial⟩, fun _ _ _ => trivial⟩
theorem OwnL.lenR (h : OwnL w B L e A n c ls) : ls.length = n := h.sl.lenR
theorem OwnL.lt (h : OwnL w B L e A n c ls) : ∀ b, blk A c = some b → B ≤ b ∧ b < w.heap.size := by
  obtain ⟨xs, ho, _⟩ := h
  exact fun b hb => Own.lt ho b hb
theorem OwnL.below (h : OwnL w B L e A n c ls) (hb : Below w.heap.size w w') : OwnL w' B L e A n c ls := by
  obtain ⟨xs, ho, hr⟩ := h
  exact ⟨xs, ho.below hb, hr.move fun b hl hp => ⟨hb.block b hl, hp⟩⟩
theorem OwnL.mono {B' : Nat} (h : OwnL w B L e A n c ls) (hB : B' ≤ B) : OwnL w B' L e A n c ls := by
  obtain ⟨xs, ho, hr⟩ := h
  exact ⟨xs, ho.mono hB, hr⟩
theorem row_appL (P : Program) (w : World) (t ty : TypeId) (z : Value) (bytes : Nat) (ht : P.underlying t = some (.slice e)) (hi : (P.info? e).map (fun i => (i.zero, i.size, i.bytes)) = some (some z, Rep.size α, bytes))
    (hzs : z.cells.size = Rep.size α) (hown : OwnL w B L e A n c ls)
    (A2 : Option Addr) (m c2 : Nat) (ms : List α) (hs : ∃ xs, Sl w (Rep.size α) A2 m c2 xs ∧ RowC w (fun b => b < L) xs ms)
    (h63 : n + m ≤ maxLen) (hbytes : (n + m) * bytes ≤ 140737488355328) (hB : B ≤ w.heap.size) (hL : L ≤ B) :
    ∃ A' c' w', (Builtin.append_ #[t, t] ty #[.slice A n c, .slice A2 m c2]).run P w = .ok (.slice A' (n + m) c') w' ∧ OwnL w' B L e A' (n + m) c' (ls ++ ms) ∧ w.grownBy w' (blk A c) ∧ (blk A' c' = blk A c ∨ blk A' c' = some w.heap.size) := by
  obtain ⟨i, hi1, hz, hs1, hb1⟩ := info_parts hi
  obtain ⟨xs, hO, hR⟩ := hown
  obtain ⟨ys, hS, hR2⟩ := hs
  obtain ⟨A', c', w', hrun, h2, h3, h4⟩ := run_append_own2 (P := P) w B t ty e i z (Rep.size α) bytes ht hi1 hz hs1 hb1 hzs A n c xs hO A2 m c2 ys hS hR2.one h63 hbytes hB
  have mv : ∀ b, b < w.heap.size → b < L → w'.heap[b]? = w.heap[b]? ∧ b < L := fun b hl hp => by
    refine ⟨h3.block b hl (fun q => ?_), hp⟩
    have := (Own.lt hO b q.symm).1
    omega
  exact ⟨A', c', w', hrun, ⟨_, h2, (hR.move mv).append (hR2.move mv)⟩, h3, h4⟩
theorem OwnL.row (h : OwnL w B L e A n c ls) : ∃ xs, Sl w (Rep.size α) A n c xs ∧ RowC w (fun b => b < L) xs ls := by
  obtain ⟨xs, ho, hr⟩ := h
  exact ⟨xs, ho.sl, hr⟩
end
/-- a region's world: below w1 as it was, and the record's cells stand -/
def RP (w1 : World) (g : Nat) (u0 u1 u2 u3 : Value) (w : World) : Prop := Below w1.heap.size w1 w ∧ Bx4 w g u0 u1 u2 u3
theorem RP.below {w1 w w' : World} {g : Nat} {u0 u1 u2 u3 : Value} (h : RP w1 g u0 u1 u2 u3 w) (hb : Below w.heap.size w w') : RP w1 g u0 u1 u2 u3 w' := ⟨h.1.trans (hb.mono h.1.size), h.2.below hb⟩
theorem RP.grown {w1 w w' : World} {g : Nat} {u0 u1 u2 u3 : Value} {row : Option Nat} (h : RP w1 g u0 u1 u2 u3 w) (hg : w.grownBy w' row) (h1 : ∀ b, row = some b → w1.heap.size ≤ b) (h2 : row ≠ some g) : RP w1 g u0 u1 u2 u3 w' :=
  ⟨h.1.grown hg h.1.size h1, h.2.grownO hg h2⟩
end Go.Proofs.YtpffieogkfndaaaGreatDoor
