/-
  Join, AtomJoin, Compare in one text. No condition but sizes.
-/
import Derived.Test.YtpffieogkfndaaaGByt
import Derived.Lib.MakeNoZero
import Derived.Test.YtpffieogkfndaaaGAtom
import Derived.Lib.BytesEntry
namespace Go.Proofs.Ytpffieogkfndaaa
set_option maxRecDepth 20000
open Go.RowKit

theorem flat_take_succ (ls : List (List UInt8)) (i : Nat) (h : i < ls.length) : (ls.take (i + 1)).flatten = (ls.take i).flatten ++ ls[i] := by
  rw [List.take_succ_eq_append_getElem h, List.flatten_append, List.flatten_cons, List.flatten_nil, List.append_nil]
theorem flat_take_le (ls : List (List UInt8)) (i : Nat) : (ls.take i).flatten.length ≤ ls.flatten.length := by
  have h : ls.flatten = (ls.take i).flatten ++ (ls.drop i).flatten := by rw [← List.flatten_append, List.take_append_drop]
  rw [h]
  simp
set_option maxRecDepth 100000 in
set_option maxHeartbeats 4000000 in
theorem join_any (w : World) (A : Option Addr) (n c : Nat) (vs : List Value) (ls : List (List UInt8)) (h : Sl w 1 A n c vs) (hp : PartsOf w vs ls) (hn : n ≤ 1000000) (hF : ls.flatten.length ≤ 1099511627776) :
    Calls Try.prog 46 #[.slice A n c, .slice none 0 0] w (NewB w ls.flatten) := by
  have Hl : Hid (ls.length = n) := by have h1 := h.len; have h2 := hp.1; unfold Hid; omega
  have hcap := h.cap
  have hcm := h.capm
  unfold maxLen at hcm
  by_cases h0 : n = 0
  · subst h0
    obtain rfl : ls = [] := List.eq_nil_of_length_eq_zero Hl.out
    go_enter Try.func46, Try.ntmps46
    go_wp2
    go_ret
    exact ⟨_, 0, 0, rfl, Own.nil _ _ _ _ _, (Below.refl w.heap.size w).alloc (Nat.le_refl _) _⟩
  by_cases h1 : n = 1
  · subst h1
    obtain ⟨b, o, A', n', c', hkl, rfl, hcell, hsl⟩ := hp.get h (k := 0) (by omega)
    have e : ls.flatten = ls[0] := by
      have h2 := flat_take_succ ls 0 hkl
      rw [List.take_of_length_le (by have := Hl.out; omega)] at h2
      simpa using h2
    rw [e] at hF ⊢
    have hl0 := hsl.lenb
    have hn' : n' ≤ 1099511627776 := by omega
    clear e hF hl0
    generalize ls[0] = l at *
    rw [Nat.add_zero] at hcell
    go_enter Try.func46, Try.ntmps46
    go_wp2_with (at_builtin; refine wpList_appB _ rfl (.const (.slice none 0 0)) (.tmp 21) rfl w.heap.size _ 0 0 [] rfl (Own.nil _ _ _ _ _) A' n' c' l rfl hsl ?_ ?_ ?_)
    · omega
    · exact Nat.le_refl _
    · intro A3 c3 w3 ho3 hg3 _
      go_wp2
      go_ret
      exact ⟨A3, _, c3, rfl, by simpa using ho3, (Below.refl w.heap.size w).grown hg3 (Nat.le_refl _) (by simp [blk])⟩
  have f0 : ((n : Int) == 0) = false := by simp; omega
  have f1 : ((n : Int) == 1) = false := by simp; omega
  have hmix : Try.prog.follows .mixedOrders = true := by kernel_rfl
  obtain ⟨T, hT⟩ : ∃ T, ls.flatten.length = T := ⟨_, rfl⟩
  rw [hT] at hF
  have HT := Lib.hid hT
  clear hT
  go_enter Try.func46, Try.ntmps46
  go_wp2
  go_loop [5, 44] (fun s i => ∃ j : Nat, j ≤ n ∧ i = .int .i64 j ∧ s = .int .i64 ((ls.take j).flatten.length : Nat)) (fun _ i => n - (intOf i).toNat)
  case atStart => exact ⟨0, Nat.zero_le _, rfl, rfl⟩
  case round =>
    obtain ⟨j, hj, rfl, rfl⟩ := hrel
    by_cases hlt : j < n
    · obtain ⟨b, o, A', n', c', hkl, rfl, hcell, hsl⟩ := hp.get h hlt
      have hs1 := flat_take_succ ls j hkl
      have hs2 := flat_take_le ls (j + 1)
      have hs3 := congrArg List.length hs1
      rw [List.length_append, hsl.lenb] at hs3
      rw [HT.out, hs3] at hs2
      generalize (ls.take j).flatten.length = acc at *
      have Hs3 := Lib.hid hs3
      have hb : ¬ (9223372036854775807 - (acc : Int) < (n' : Int)) := by omega
      clear hs1 hs3
      go_wp2
      go_round
      case rel => exact ⟨j + 1, by omega, by go_num, by rw [Hs3.out]; go_num⟩
      case measure => simp [intOf]; omega
    · obtain rfl : n = j := by omega
      rw [List.take_of_length_le (show ls.length ≤ n by have := Hl.out; omega), HT.out]
      obtain ⟨cs, hrunM, hle, hcm2⟩ := Lib.run_makeNoZero (P := Try.prog) w #[3] 22 5 Try.underlying22 T (by omega)
      have hcall : (callFunc 52 #[.int .i64 (T : Int)]).run Try.prog w = .ok (.value (.slice (some ⟨w.heap.size, 0, none⟩) T cs.size)) (w.drew.drew.alloc (.cells cs 5)) := by
        rw [run_callFunc_extern Try.func52 (by kernel_rfl) (by kernel_rfl) (by kernel_rfl) (e := Extern.BytealgMakeNoZero.makeNoZero #[3] #[22]) (by kernel_rfl), hrunM]
        rfl
      clear hrunM
      have i0 : (0 : Int) ≤ (T : Int) := by omega
      have i1 : (T : Int) ≤ (cs.size : Int) := by omega
      obtain ⟨wM, hwM⟩ : ∃ wM, w.drew.drew.alloc (.cells cs 5) = wM := ⟨_, rfl⟩
      have hbM : Below w.heap.size w wM := by rw [← hwM]; exact (((Below.refl w.heap.size w).drew).drew).alloc (Nat.le_refl _) _
      have hoM : Own wM w.heap.size 5 1 (some ⟨w.heap.size, 0, none⟩) T T (cs.toList.take T) := by
        rw [← hwM]
        exact ⟨by simp; omega, Nat.le_refl _, by unfold maxLen; omega, fun _ => ⟨w.heap.size, 0, cs, rfl, Nat.le_refl _, heap_alloc_new w.drew.drew _, by omega, by simp⟩⟩
      rw [hwM] at hcall
      obtain ⟨b, o, A', n', c', hkl, rfl, hcell, hsl⟩ := (hp.below hbM).get (h.below (by omega) hbM) (k := 0) (by omega)
      rw [Nat.add_zero] at hcell
      have hs1 := flat_take_succ ls 0 hkl
      have hs2 := flat_take_le ls (0 + 1)
      rw [List.take_zero, List.flatten_nil, List.nil_append] at hs1
      rw [hs1, hsl.lenb, HT.out] at hs2
      have Hs1 := Lib.hid hs1
      have HoM := Lib.hid hoM
      clear hs1 hwM hoM hcm2
      obtain ⟨A7, hr7, hs7⟩ := cutLP h .i64 (1 : Int) 1 rfl (by omega)
      have hp7 := hp.drop 1
      go_wp2_with fail
      obtain ⟨w1, hrun1, ho1, hg1⟩ := run_cpyHead wM w.heap.size (some ⟨w.heap.size, 0, none⟩) T T _ HoM.out A' n' c' _ hsl (by omega)
      rw [hrun1]
      have hb1 : Below w.heap.size w w1 := hbM.grown hg1 hbM.size (fun b hb => (Own.lt HoM.out b hb).1)
      have Ho1 := Lib.hid ho1
      have Hn' : Hid (ls[0].length = n') := hsl.lenb
      clear ho1 hg1 hcall hcell hbM hsl hrun1
      go_wp2
      go_loopw [9, 72] (fun s i wr => ∃ j : Nat, j ≤ n - 1 ∧ i = .int .i64 j ∧ s = .int .i64 ((ls.take (j + 1)).flatten.length : Nat) ∧ Below w.heap.size w wr ∧ ∃ junk, Own wr w.heap.size 5 1 (some ⟨w.heap.size, 0, none⟩) T T (bc (ls.take (j + 1)).flatten ++ junk)) (fun _ i _ => n - 1 - (intOf i).toNat)
      case atStart => exact ⟨0, Nat.zero_le _, rfl, by rw [Hs1.out, Hn'.out], hb1, _, by rw [Hs1.out]; exact Ho1.out⟩
      case round =>
        clear hb1
        obtain ⟨j, hj, rfl, rfl, hbr, junk, hor⟩ := hrel
        by_cases hlt : j < n - 1
        · obtain ⟨b2, o2, A2, n2, c2, hkl2, eA7, hcell2, hsl2⟩ := (hp7.below hbr).get (hs7.below (by omega) hbr) hlt
          subst eA7
          have hj1 : j + 1 < ls.length := by have := Hl.out; omega
          have hs3 := flat_take_succ ls (j + 1) hj1
          have hs4 := flat_take_le ls (j + 1 + 1)
          have e5 : (ls.drop 1)[j] = ls[j + 1] := by simp
          rw [e5] at hsl2
          rw [hs3, List.length_append, hsl2.lenb, HT.out] at hs4
          have hs5 := congrArg List.length hs3
          rw [List.length_append, hsl2.lenb] at hs5
          obtain ⟨D, hD⟩ : ∃ D, (ls.take (j + 1)).flatten = D := ⟨_, rfl⟩
          rw [hD] at hor hs3 hs4 hs5
          rw [hD]
          obtain ⟨d, hd⟩ : ∃ d, D.length = d := ⟨_, rfl⟩
          rw [hd] at hs4 hs5
          rw [hd]
          have Hd := Lib.hid hd
          have Hs3 := Lib.hid hs3
          have Hs5 := Lib.hid hs5
          have Hor := Lib.hid hor
          have hlt' : (j : Int) < (n : Int) - 1 := by omega
          have hlt2 : (j : Int) < ((n - 1 : Nat) : Int) := by omega
          have ht := fun w' => run_tailB w' (some ⟨w.heap.size, 0, none⟩) T T .i64 (d : Int) d rfl (by omega)
          clear hD hd hs3 hs5 hor e5
          have hcell2 := hcell2
          go_wp2_with fail
          obtain ⟨w2, hrun2, ho2, hg2⟩ := run_cpySub wr w.heap.size (some ⟨w.heap.size, 0, none⟩) T T _ Hor.out d (by omega) none 0 0 [] (Sl.nil _ _ _ _ (Nat.zero_le _)) (by omega)
          rw [hrun2]
          rw [bc_nil, List.append_nil, Nat.add_zero, List.take_append_drop] at ho2
          have hb2 : Below w.heap.size w w2 := hbr.grown hg2 hbr.size (fun b hb => (Own.lt Hor.out b hb).1)
          have Ho2 := Lib.hid ho2
          have hsl3 : Sl w2 1 A2 n2 c2 (bc ls[j + 1]) := hsl2.keep fun hn2 b hb => (hg2.block b (hsl2.lt (by omega) hn2 b hb) (fun e => by
            have h1 := (Own.lt Hor.out b e.symm).1
            obtain ⟨A9, n9, c9, hv9, hs9⟩ := hp7.2 j _ _ (List.getElem?_eq_getElem (by have h5 := hp7.1; omega)) (List.getElem?_eq_getElem hkl2)
            have h5 := hs7.below (w' := wr) (by omega) hbr
            obtain ⟨b5, o5, u5, e5, hu5, hc5⟩ := h5.cell hlt
            obtain ⟨rfl, rfl⟩ : b2 = b5 ∧ o2 = o5 := by simpa using e5
            rw [hcell2] at hc5
            rw [List.getElem?_eq_getElem (by have h6 := hp7.1; omega)] at hu5
            have h7 := (Option.some.inj hu5).trans (Option.some.inj hc5).symm
            rw [h7] at hv9
            injection hv9 with q1 q2 q3
            subst q1
            subst q2
            have h8 := hs9.lt (by omega) hn2 b hb
            omega))
          clear hrun2 ho2 hg2
          go_wp2_with fail
          obtain ⟨w3, hrun3, ho3, hg3⟩ := run_cpySub w2 w.heap.size (some ⟨w.heap.size, 0, none⟩) T T _ Ho2.out d (by omega) A2 n2 c2 _ hsl3 (by omega)
          rw [hrun3]
          have hb3 : Below w.heap.size w w3 := hb2.grown hg3 hb2.size (fun b hb => (Own.lt Ho2.out b hb).1)
          rw [List.take_left' (by rw [length_bc]; exact Hd.out)] at ho3
          rw [← bc_append] at ho3
          have Ho3 := Lib.hid ho3
          clear hrun3 ho3 hg3
          go_wp2
          go_roundw
          case rel => exact ⟨j + 1, by omega, by go_num, by rw [Hs5.out]; go_num, hb3, _, by rw [Hs3.out]; exact Ho3.out⟩
          case measure => simp [intOf]; omega
        · have hjn : j + 1 = n := by omega
          have hlt3 : ¬ ((j : Int) < (n : Int) - 1) := by omega
          have hlt4 : ¬ ((j : Int) < ((n - 1 : Nat) : Int)) := by omega
          have hall : ls.take (j + 1) = ls := List.take_of_length_le (by have := Hl.out; omega)
          rw [hall] at hor
          have hlen := hor.len
          rw [List.length_append, length_bc, HT.out] at hlen
          obtain rfl : junk = [] := List.eq_nil_of_length_eq_zero (by omega)
          rw [List.append_nil] at hor
          have Hor := Lib.hid hor
          clear hall hlen hor hjn
          go_wp2
          go_ret
          exact ⟨_, T, T, rfl, Hor.out, hbr⟩
end Go.Proofs.Ytpffieogkfndaaa

namespace Go.Proofs.Ytpffieogkfndaaa
set_option maxRecDepth 20000
open Go.RowKit

theorem ajoin_any (w : World) (A : Option Addr) (n c : Nat) (vs : List Value) (ls : List (List UInt8)) (h : Sl w 1 A n c vs) (hp : PartsOf w vs ls) (hn : n ≤ 1000000) (hF : ls.flatten.length ≤ 1099511627776) :
    Calls Try.prog 36 #[.slice A n c] w (NewB w ls.flatten) := by
  have hc := join_any w A n c vs ls h hp hn hF
  have Hc := Lib.hid hc
  clear hc
  go_enter Try.func36, Try.ntmps36
  go_wp2_with fail
  refine Hc.out.mono ?_
  rintro e w1 ⟨A1, n1, c1, rfl, ho1, hb1⟩
  go_wp2
  go_ret
  exact ⟨A1, n1, c1, rfl, ho1, hb1⟩
/-- a row of two texts -/
theorem pair_parts (w : World) (A1 : Option Addr) (n1 c1 : Nat) (l1 : List UInt8) (A2 : Option Addr) (n2 c2 : Nat) (l2 : List UInt8) (h1 : Sl w 1 A1 n1 c1 (bc l1)) (h2 : Sl w 1 A2 n2 c2 (bc l2)) :
    Sl (w.alloc (.cells #[.slice A1 n1 c1, .slice A2 n2 c2] 22)) 1 (some ⟨w.heap.size, 0, none⟩) 2 2 [.slice A1 n1 c1, .slice A2 n2 c2] ∧
      PartsOf (w.alloc (.cells #[.slice A1 n1 c1, .slice A2 n2 c2] 22)) [.slice A1 n1 c1, .slice A2 n2 c2] [l1, l2] ∧ Below w.heap.size w (w.alloc (.cells #[.slice A1 n1 c1, .slice A2 n2 c2] 22)) := by
  have b := (Below.refl w.heap.size w).alloc (Nat.le_refl _) (.cells #[.slice A1 n1 c1, .slice A2 n2 c2] 22)
  refine ⟨Sl.lit w _ _ 2 _ _ rfl (by unfold maxLen; omega) rfl, ⟨rfl, ?_⟩, b⟩
  intro i v l hv hl
  rcases i with _ | _ | i
  · simp at hv hl; subst hv; subst hl; exact ⟨_, _, _, rfl, h1.below (by omega) b⟩
  · simp at hv hl; subst hv; subst hl; exact ⟨_, _, _, rfl, h2.below (by omega) b⟩
  · simp at hv
/-- Join of two -/
theorem ajoin_two (w : World) (A1 : Option Addr) (n1 c1 : Nat) (l1 : List UInt8) (A2 : Option Addr) (n2 c2 : Nat) (l2 : List UInt8) (h1 : Sl w 1 A1 n1 c1 (bc l1)) (h2 : Sl w 1 A2 n2 c2 (bc l2)) (hn : n1 + n2 ≤ 1099511627776) :
    Calls Try.prog 36 #[.slice (some ⟨w.heap.size, 0, none⟩) 2 2] (w.alloc (.cells #[.slice A1 n1 c1, .slice A2 n2 c2] 22)) (NewB w (l1 ++ l2)) := by
  obtain ⟨s, p, b⟩ := pair_parts w A1 n1 c1 l1 A2 n2 c2 l2 h1 h2
  have e1 := h1.lenb
  have e2 := h2.lenb
  have hf : [l1, l2].flatten = l1 ++ l2 := by simp
  refine (ajoin_any _ _ 2 2 _ _ s p (by omega) (by rw [hf, List.length_append]; omega)).mono ?_
  rw [hf]
  rintro e w1 ⟨A3, n3, c3, rfl, ho, hb⟩
  exact ⟨A3, n3, c3, rfl, Own.mono ho (by simp), b.trans (hb.mono (by simp))⟩
def textL (t : List UInt8) : List UInt8 := numL t.length ++ t
theorem take_text (t rest : List UInt8) (ht : t.length < 18446744073709551616) (m : Nat) : takeTextL (textL t ++ rest) m = if t.length ≤ m then (t, rest, 0) else ([], [], 3) := by
  unfold takeTextL textL
  rw [List.append_assoc, take_num t.length ht]
  simp only [ne_eq, not_true_eq_false, if_false]
  by_cases h : t.length ≤ m
  · rw [if_neg (by omega), if_neg (by simp), if_pos h, List.take_left, List.drop_left]
  · rw [if_pos (.inr (by omega)), if_neg h]
/-- texts one behind the other -/
def textsL (ls : List (List UInt8)) : List UInt8 := (ls.map fun t => textL (t.take 300)).flatten
theorem textsL_snoc (ls : List (List UInt8)) (t : List UInt8) : textsL (ls ++ [t]) = textsL ls ++ textL (t.take 300) := by simp [textsL]
theorem textsL_cons (ls : List (List UInt8)) (t : List UInt8) : textsL (t :: ls) = textL (t.take 300) ++ textsL ls := by simp [textsL]
theorem textsL_le (ls : List (List UInt8)) : (textsL ls).length ≤ 309 * ls.length := by
  induction ls with
  | nil => simp [textsL]
  | cons t r ih =>
    rw [textsL_cons, List.length_append, List.length_cons]
    have h1 := num_len (t.take 300).length
    have h2 : (t.take 300).length ≤ 300 := by simp; omega
    unfold textL
    rw [List.length_append]
    omega
end Go.Proofs.Ytpffieogkfndaaa

namespace Go.Proofs.Ytpffieogkfndaaa
set_option maxRecDepth 20000
open Go.RowKit

theorem cmp_append (p l m : List UInt8) : Lib.compareBytes (p ++ l) (p ++ m) = Lib.compareBytes l m := by
  induction p with
  | nil => rfl
  | cons a p ih => simp [Lib.compareBytes, ih]
theorem cmp_self (l : List UInt8) : Lib.compareBytes l l = 0 := by
  induction l with
  | nil => rfl
  | cons a l ih => simp [Lib.compareBytes, ih]
theorem cmp_swap : ∀ (l m : List UInt8), Lib.compareBytes m l = - Lib.compareBytes l m
  | [], [] => rfl
  | [], _ :: _ => rfl
  | _ :: _, [] => rfl
  | a :: l, b :: m => by
    have ih := cmp_swap l m
    simp only [Lib.compareBytes]
    by_cases h1 : a < b
    · have h2 : ¬ b < a := fun h => by
        rw [UInt8.lt_iff_toNat_lt] at h1 h
        omega
      simp [h1, h2]
    · by_cases h2 : b < a
      · simp [h1, h2]
      · simp [h1, h2, ih]
theorem cmp_lex : ∀ (l m x y : List UInt8), l.length = m.length → beval l < beval m → Lib.compareBytes (l ++ x) (m ++ y) = -1
  | [], [], _, _, _, h => by simp [beval] at h
  | a :: l, b :: m, x, y, hl, h => by
    have hl' : l.length = m.length := by simpa using hl
    rw [beval_cons, beval_cons, hl'] at h
    have h1 := beval_lt l
    have h2 := beval_lt m
    rw [hl'] at h1
    simp only [List.cons_append, Lib.compareBytes]
    rcases Nat.lt_trichotomy a.toNat b.toNat with h3 | h3 | h3
    · rw [if_pos (UInt8.lt_iff_toNat_lt.2 h3)]
    · have e : a = b := UInt8.toNat_inj.1 h3
      subst e
      rw [if_neg (by rw [UInt8.lt_iff_toNat_lt]; omega), if_neg (by rw [UInt8.lt_iff_toNat_lt]; omega)]
      exact cmp_lex l m x y hl' (by omega)
    · exfalso
      have h4 : (b.toNat + 1) * 256 ^ m.length ≤ a.toNat * 256 ^ m.length := Nat.mul_le_mul_right _ h3
      rw [Nat.succ_mul] at h4
      omega
  | [], _ :: _, _, _, h, _ => by simp at h
  | _ :: _, [], _, _, h, _ => by simp at h
theorem nb_mono {a b : Nat} (h : a ≤ b) : nb a ≤ nb b := by
  unfold nb
  repeat' split
  all_goals omega
/-- a number's first byte, and those behind it -/
def firstN (n : Nat) : Nat := if n < 241 then n else if n < 2288 then 241 + (n - 240) / 256 else if n < 67824 then 249 else 247 + nb n
def restN (n : Nat) : List UInt8 := if n < 241 then [] else if n < 2288 then [UInt8.ofNat (n - 240)] else if n < 67824 then [UInt8.ofNat ((n - 2288) / 256), UInt8.ofNat (n - 2288)] else beK (nb n) n
theorem numL_eq (n : Nat) : numL n = UInt8.ofNat (firstN n) :: restN n := by
  unfold numL firstN restN
  repeat' split
  all_goals first | rfl | omega
theorem firstN_lt (n : Nat) : firstN n < 256 := by
  have := nb_range n
  unfold firstN
  repeat' split
  all_goals omega
theorem firstN_mono {a b : Nat} (h : a ≤ b) : firstN a ≤ firstN b := by
  have h1 := nb_mono h
  have h2 := nb_range a
  have h3 := nb_range b
  unfold firstN
  repeat' split
  all_goals omega
theorem rest_lt {a b : Nat} (hb : b < 18446744073709551616) (h : a < b) (e : firstN a = firstN b) : (restN a).length = (restN b).length ∧ beval (restN a) < beval (restN b) := by
  have h1 := nb_range a
  have h2 := nb_range b
  unfold firstN at e
  unfold restN
  by_cases a1 : a < 241
  · rw [if_pos a1] at e
    exfalso
    by_cases b1 : b < 241
    · rw [if_pos b1] at e; omega
    · rw [if_neg b1] at e
      repeat' split at e
      all_goals omega
  · rw [if_neg a1] at e ⊢
    rw [if_neg (show ¬ b < 241 by omega)] at e ⊢
    by_cases a2 : a < 2288
    · rw [if_pos a2] at e ⊢
      by_cases b2 : b < 2288
      · rw [if_pos b2] at e ⊢
        refine ⟨by simp only [List.length_cons, List.length_nil], ?_⟩
        simp only [beval, List.foldl_cons, List.foldl_nil, UInt8.toNat_ofNat', Nat.zero_mul, Nat.zero_add, Nat.reducePow]
        omega
      · exfalso
        rw [if_neg b2] at e
        split at e <;> omega
    · rw [if_neg a2] at e ⊢
      rw [if_neg (show ¬ b < 2288 by omega)] at e ⊢
      by_cases a3 : a < 67824
      · rw [if_pos a3] at e ⊢
        by_cases b3 : b < 67824
        · rw [if_pos b3]
          refine ⟨by simp only [List.length_cons, List.length_nil], ?_⟩
          simp only [beval, List.foldl_cons, List.foldl_nil, UInt8.toNat_ofNat', Nat.zero_mul, Nat.zero_add, Nat.reducePow]
          omega
        · exfalso
          rw [if_neg b3] at e
          omega
      · rw [if_neg a3] at e ⊢
        rw [if_neg (show ¬ b < 67824 by omega)] at e ⊢
        have hnb : nb a = nb b := by omega
        rw [hnb, length_beK, length_beK, beval_beK, beval_beK, Nat.mod_eq_of_lt (nb_lt hb)]
        refine ⟨by simp only [List.length_cons, List.length_nil], ?_⟩
        exact Nat.lt_of_le_of_lt (Nat.mod_le _ _) h
/-- OF ANY TWO NUMBERS THE LESSER ONE's BYTES ARE LESS -/
theorem num_lt {a b : Nat} (hb : b < 18446744073709551616) (h : a < b) (x y : List UInt8) : Lib.compareBytes (numL a ++ x) (numL b ++ y) = -1 := by
  rw [numL_eq a, numL_eq b]
  have h1 := firstN_mono (Nat.le_of_lt h)
  have h2 := firstN_lt a
  have h3 := firstN_lt b
  simp only [List.cons_append, Lib.compareBytes]
  by_cases e : firstN a = firstN b
  · obtain ⟨e1, e2⟩ := rest_lt hb h e
    rw [e, if_neg (by rw [UInt8.lt_iff_toNat_lt]; omega), if_neg (by rw [UInt8.lt_iff_toNat_lt]; omega)]
    exact cmp_lex _ _ x y e1 e2
  · rw [if_pos (by rw [UInt8.lt_iff_toNat_lt]; simp; omega)]
def ltL (l m : List UInt8) : Bool := decide (Lib.compareBytes l m < 0)
theorem run_bytesOf (w : World) (A : Option Addr) (n c : Nat) (l : List UInt8) (h : Sl w 1 A n c (bc l)) :
    ∃ s : ByteArray, s.data.toList = l ∧ (Extern.Bytes.bytesOf (.slice A n c)).run Try.prog w = .ok s w := by
  have hl := h.lenb
  cases A with
  | none =>
    obtain rfl := h.none_len
    obtain rfl : l = [] := List.eq_nil_of_length_eq_zero hl
    exact ⟨.empty, rfl, rfl⟩
  | some ad =>
    have hm : Lib.bytesOf (l.map fun x => (x.toNat : Int)) = l := by
      unfold Lib.bytesOf
      rw [List.map_map]
      conv => rhs; rw [← List.map_id l]
      apply List.map_congr_left
      intro x _
      simp
    have hr := Lib.run_loadBytesX (P := Try.prog) w (l.map fun x => (x.toNat : Int)) ad .empty (fun j x hj => by
      have hjl : j < l.length := by
        have := (List.getElem?_eq_some_iff.1 hj).1
        simpa using this
      obtain ⟨b, o, e, hc⟩ := h.at_ (by omega)
      obtain rfl := Option.some.inj e
      have h1 := hc j (.int .u8 x) (by rw [bc_get]; simpa using hj)
      rw [Addr.add_lit]
      exact h1)
    rw [List.length_map, hl, hm] at hr
    refine ⟨_, ?_, hr⟩
    show (ByteArray.empty.data ++ l.toArray).toList = l
    simp
theorem run_cmp (w : World) (A : Option Addr) (n c : Nat) (l : List UInt8) (h : Sl w 1 A n c (bc l)) (A2 : Option Addr) (n2 c2 : Nat) (m : List UInt8) (h2 : Sl w 1 A2 n2 c2 (bc m)) :
    (Extern.BytealgCompare.compare #[.slice A n c, .slice A2 n2 c2]).run Try.prog w = .ok (.int .i64 (Lib.compareBytes l m)) w := by
  obtain ⟨s, e1, r1⟩ := run_bytesOf w A n c l h
  obtain ⟨t, e2, r2⟩ := run_bytesOf w A2 n2 c2 m h2
  change Sem.run Try.prog (do pure (goInt (Extern.BytealgCompare.cmp (← Extern.Bytes.bytesOf (.slice A n c)) (← Extern.Bytes.bytesOf (.slice A2 n2 c2))))) w = _
  simp only [Sem.run_bind, Sem.run_pure, r1, r2, Result.andThen]
  rw [Lib.cmp_eq, e1, e2]
  rfl
end Go.Proofs.Ytpffieogkfndaaa
