/-
  The walks of LeafBack and LeafCuts: they return true at every input. (Printed by genleaf11.py.) No condition.
-/
import Derived.Test.YtfonincdhjkacaaLeafLaws1
import Derived.Test.YtfonincdhjkacaaLeafRead
namespace Go.Proofs.Ytfonincdhjkacaa
open Go.RowKit
set_option maxRecDepth 20000
set_option maxHeartbeats 16000000 in
theorem leafBack.walk (w : World) (A : Option Addr) (n c : Nat) (ls : List EntL) (h : SlR w (fun _ => True) A n c ls) :
    Calls Try.prog 16 #[.slice A n c] w fun e w' => e = .returned (.bool true) ∧ Below w.heap.size w w' := by
  have hq0 := Below.refl w.heap.size w
  go_enter Try.func16, Try.ntmps16
  go_wp2_with fail
  refine (awake12 w).mono ?_
  rintro e w_1 ⟨rfl, hb_1⟩
  have h := h.below hb_1
  have hq0 := hq0.trans (hb_1.mono hq0.size)
  clear hb_1
  go_wp2_with fail
  refine (fewents_any w_1 _ A n c ls 64 h (by omega)).mono ?_
  rintro e w_2 ⟨A2, n2, c2, rfl, ho2, hb_2⟩
  have h := h.below hb_2
  have hq0 := hq0.trans (hb_2.mono hq0.size)
  clear hb_2
  clear h
  have h2 := ho2.sl
  have hfb := (fewe_bounds ls 64).1
  generalize fewEnts ls 64 = fs at *
  clear ho2
  have hl2 := h2.lenR
  have hm : n2 ≤ 64 := by omega
  have hck := sortL_check fs hfb
  have Hck := Lib.hid hck
  clear hl2 hfb hck
  go_wp2_with fail
  refine (rsort_any w_2 _ A2 n2 c2 fs h2 (by omega)).mono ?_
  rintro e w_3 ⟨A3, n3, c3, rfl, ho3, hb_3⟩
  have hq0 := hq0.trans (hb_3.mono hq0.size)
  clear hb_3
  have h3 := ho3.sl
  clear ho3 h2
  generalize sortL fs = ss at *
  have hl3 := h3.lenR
  obtain ⟨hn64, hok, _⟩ := checkLeaf_zero Hck.out
  have hn3 : n3 ≤ 64 := by omega
  have hpl := leaf_len ss Hck.out
  have hrd := (readLeaf_iff (leafBytesL ss) ss).2 ⟨Hck.out, rfl⟩
  have hbe : leafBE ss = (leafBytesL ss, 0) := by unfold leafBE; rw [if_pos Hck.out]
  have Hok := Lib.hid hok
  clear hl3 hn64 hok
  go_wp2_with fail
  refine (twins_any _ _ A3 n3 c3 ss h3 (by omega) (fun e he => by have h1 := Hok.out e he; have := checkKey_bounds h1.1; omega)).mono ?_
  rintro e w_4 ⟨A4, n4, c4, rfl, o4, hb_4⟩
  have hq0 := hq0.trans (hb_4.mono hq0.size)
  have h3 := h3.below hb_4
  clear hb_4
  have h4 := o4.sl
  clear o4
  have cb := build12_any w_4 _ A4 n4 c4 ss h4
  rw [hbe] at cb
  generalize leafBytesL ss = pb at *
  unfold GotBE at cb
  have Cb := Lib.hid cb
  have Hpl := Lib.hid hpl
  have Hrd := Lib.hid hrd
  clear cb hbe hpl hrd h4
  go_wp2_with fail
  refine (Cb.out).mono ?_
  rintro e w_5 ⟨A5, n5, c5, rfl, o5, hb_5⟩
  have hq0 := hq0.trans (hb_5.mono hq0.size)
  have h3 := h3.below hb_5
  clear hb_5
  have s5 := OwnB.sl (l := pb) o5
  clear o5 Cb
  have cr := lread_any w_5 A5 n5 c5 pb s5 (by have := s5.lenb; have := Hpl.out; omega)
  rw [Hrd.out] at cr
  unfold GotEnts at cr
  have Cr := Lib.hid cr
  clear cr s5
  go_wp2_with fail
  refine (Cr.out).mono ?_
  rintro e w_6 ⟨A6, n6, c6, rfl, h6, hb_6⟩
  have hq0 := hq0.trans (hb_6.mono hq0.size)
  have h3 := h3.below hb_6
  clear hb_6
  have h6 : SlR _ _ A6 n6 c6 ss := h6
  clear Cr
  have h6 := h6.mono (q := fun _ => True) fun _ _ _ => trivial
  go_wp2_with fail
  refine (sents_is _ _ A6 n6 c6 ss h6 _ A3 n3 c3 h3).mono ?_
  rintro e w_20 ⟨rfl, hb⟩
  have hq0 := hq0.trans (hb.mono hq0.size)
  go_wp2
  go_ret
  exact ⟨rfl, hq0⟩
set_option maxHeartbeats 16000000 in
theorem leafCuts.walk (w : World) (A : Option Addr) (n c : Nat) (ls : List EntL) (h : SlR w (fun _ => True) A n c ls) (at_ : Nat) (hat : at_ < 65536) :
    Calls Try.prog 17 #[.slice A n c, .int .u16 (at_ : Int)] w fun e w' => e = .returned (.bool true) ∧ Below w.heap.size w w' := by
  have hq0 := Below.refl w.heap.size w
  go_enter Try.func17, Try.ntmps17
  go_wp2_with fail
  refine (awake12 w).mono ?_
  rintro e w_1 ⟨rfl, hb_1⟩
  have h := h.below hb_1
  have hq0 := hq0.trans (hb_1.mono hq0.size)
  clear hb_1
  go_wp2_with fail
  refine (fewents_any w_1 _ A n c ls 64 h (by omega)).mono ?_
  rintro e w_2 ⟨A2, n2, c2, rfl, ho2, hb_2⟩
  have h := h.below hb_2
  have hq0 := hq0.trans (hb_2.mono hq0.size)
  clear hb_2
  clear h
  have h2 := ho2.sl
  have hfb := (fewe_bounds ls 64).1
  generalize fewEnts ls 64 = fs at *
  clear ho2
  have hl2 := h2.lenR
  have hm : n2 ≤ 64 := by omega
  have hck := sortL_check fs hfb
  have Hck := Lib.hid hck
  clear hl2 hfb hck
  go_wp2_with fail
  refine (rsort_any w_2 _ A2 n2 c2 fs h2 (by omega)).mono ?_
  rintro e w_3 ⟨A3, n3, c3, rfl, ho3, hb_3⟩
  have hq0 := hq0.trans (hb_3.mono hq0.size)
  clear hb_3
  have h3 := ho3.sl
  clear ho3 h2
  generalize sortL fs = ss at *
  have hl3 := h3.lenR
  obtain ⟨hn64, hok, _⟩ := checkLeaf_zero Hck.out
  have hn3 : n3 ≤ 64 := by omega
  have hpl := leaf_len ss Hck.out
  have hrd := (readLeaf_iff (leafBytesL ss) ss).2 ⟨Hck.out, rfl⟩
  have hbe : leafBE ss = (leafBytesL ss, 0) := by unfold leafBE; rw [if_pos Hck.out]
  clear hl3 hn64 hok hrd
  have cb := rbuild12_any w_3 _ A3 n3 c3 ss h3
  rw [hbe] at cb
  generalize leafBytesL ss = pb at *
  unfold GotBE at cb
  have Cb := Lib.hid cb
  have Hpl := Lib.hid hpl
  clear cb hbe hpl h3
  go_wp2_with fail
  refine (Cb.out).mono ?_
  rintro e w_4 ⟨A5, n5, c5, rfl, o5, hb_4⟩
  have hq0 := hq0.trans (hb_4.mono hq0.size)
  clear hb_4
  have s5 := OwnB.sl (l := pb) o5
  have hn5 := s5.lenb
  have hp5 : 2 ≤ n5 ∧ n5 ≤ 40000 := by have := Hpl.out; omega
  obtain ⟨k, hk⟩ : ∃ k : Nat, at_ % n5 = k := ⟨_, rfl⟩
  have hkn : k < n5 := by rw [← hk]; exact Nat.mod_lt _ (by omega)
  have e1 : (at_ : Int) % (n5 : Int) = (k : Int) := by rw [← hk]; simp
  have e2 : (at_ : Int).tmod (n5 : Int) = (k : Int) := by rw [Int.tmod_eq_emod_of_nonneg (by omega)]; exact e1
  have e3 : IntKind.i64.wrap (at_ : Int) = (at_ : Int) := by rw [IntKind.wrap_i64]; omega
  have e4 : ((n5 : Int) == 0) = false := by rw [beq_eq_false_iff_ne]; omega
  have e5 : ¬ ((n5 : Int) = 0) := by omega
  obtain ⟨hrun, s6⟩ := cutH s5 .i64 (k : Int) k rfl (by omega)
  have hcp5 := s5.cap
  have hcm5 := s5.capm
  unfold maxLen at hcm5
  generalize pb.take k = pk at *
  have cr := fun w' (hb : Below w_4.heap.size w_4 w') => lread_any w' A5 k c5 pk (s6.below (by omega) hb) (by omega)
  have hri := fun m => readLeaf_iff pk m
  generalize readLeafL pk = R at *
  unfold GotEnts at cr
  have Cr := Lib.hid cr
  have Hri := Lib.hid hri
  have hp52 := hp5.1
  have hp53 := hp5.2
  clear hn5 hk o5 Cb s5 cr hri hp5
  go_wp2_with fail
  refine (Cr.out _ (Below.refl _ _)).mono ?_
  rintro e w_5 ⟨A6, n6, c6, rfl, h6, hb⟩
  have hq0 := hq0.trans (hb.mono hq0.size)
  have s6 := s6.below (by omega) hb
  clear hb Cr hrun e1 e2 e3 e4 e5
  cases R with
  | none =>
    have hn6 := h6.lenR
    simp only [Option.getD_none, List.length_nil] at hn6
    obtain rfl : 0 = n6 := hn6
    simp only [Option.isSome_none]
    go_wp2
    go_ret
    exact ⟨rfl, hq0⟩
  | some m =>
    have h6 : SlR _ _ A6 n6 c6 m := h6
    obtain ⟨m1, m2⟩ := (Hri.out m).1 rfl
    simp only [Option.isSome_some]
    have cb := build12_any w_5 _ A6 n6 c6 m h6
    rw [show leafBE m = (pk, 0) by unfold leafBE; rw [if_pos m1, m2]] at cb
    unfold GotBE at cb
    have Cb := Lib.hid cb
    clear cb m1 m2
    go_wp2_with fail
    refine Cb.out.mono ?_
    rintro e w_6 ⟨A7, n7, c7, rfl, o7, hb⟩
    have hq0 := hq0.trans (hb.mono hq0.size)
    have s6 := s6.below (by omega) hb
    have s7 := OwnB.sl (l := pk) o7
    clear hb o7
    go_wp2_with fail
    refine (same_is _ A7 n7 c7 _ A5 k c5 _ true (by unfold Hid; simp) s7 s6).mono ?_
    rintro e w' ⟨rfl, rfl⟩
    go_wp2
    go_ret
    exact ⟨rfl, hq0⟩
end Go.Proofs.Ytfonincdhjkacaa
