/-
  The walks of LeafBuilds and LeafSmall: they return true at every input. (Printed by genleaf7.py.) No condition.
-/
import Derived.Test.YtfonincdhjkacaaLeafAwake
import Derived.Test.YtfonincdhjkacaaLeafBuildR
import Derived.Test.YtfonincdhjkacaaEntSort
namespace Go.Proofs.Ytfonincdhjkacaa
open Go.RowKit
set_option maxRecDepth 20000
theorem sents_is (w : World) (p : Nat → Prop) (A : Option Addr) (n c : Nat) (ls : List EntL) (h : SlR w p A n c ls) (p' : Nat → Prop) (A' : Option Addr) (n' c' : Nat) (h' : SlR w p' A' n' c' ls) :
    Calls Try.prog 58 #[.slice A n c, .slice A' n' c'] w fun e w' => e = .returned (.bool true) ∧ Below w.heap.size w w' := by
  have := sents_any w p A n c ls h p' A' n' c' ls h'
  simpa using this
theorem sumE_le (l : List EntL) (h : ∀ e ∈ l, checkKey e.key = 0 ∧ e.value.length ≤ 512) : sumE l ≤ 600 * l.length := by
  unfold sumE
  induction l with
  | nil => simp
  | cons e l ih =>
    have h1 := h e (by simp)
    have h2 := checkKey_bounds h1.1
    have := ih fun x hx => h x (by simp [hx])
    simp only [List.map_cons, List.sum_cons, List.length_cons]
    omega
set_option maxHeartbeats 16000000 in
theorem leafBuilds.walk (w : World) (A : Option Addr) (n c : Nat) (ls : List EntL) (h : SlR w (fun _ => True) A n c ls) (b : Bool) :
    Calls Try.prog 14 #[.slice A n c, .bool b] w fun e w' => e = .returned (.bool true) ∧ Below w.heap.size w w' := by
  have hq0 := Below.refl w.heap.size w
  go_enter Try.func14, Try.ntmps14
  go_wp2_with fail
  refine (awake12 w).mono ?_
  rintro e w_1 ⟨rfl, hb_1⟩
  have h := h.below hb_1
  have hq0 := hq0.trans (hb_1.mono hq0.size)
  clear hb_1
  go_wp2_with fail
  refine (fewents_any w_1 _ A n c ls 70 h (by omega)).mono ?_
  rintro e w_2 ⟨A2, n2, c2, rfl, ho2, hb_2⟩
  have h := h.below hb_2
  have hq0 := hq0.trans (hb_2.mono hq0.size)
  clear hb_2
  clear h
  have h2 := ho2.sl
  have hfb := fewe_bounds ls 70
  generalize fewEnts ls 70 = fs at *
  clear ho2
  have hl2 := h2.lenR
  cases b
  case false =>
    have hB : ∀ e ∈ fs, e.key.user.length ≤ 80 ∧ e.value.length ≤ 600 := hfb.2
    have hm : n2 ≤ 70 := by have := hfb.1; omega
    clear hfb hl2
    have hn2 := h2.lenR
    go_wp2_with fail
    refine (twins_any _ _ A2 n2 c2 fs h2 (by omega) (fun e he => by have := hB e he; omega)).mono ?_
    rintro e w_11 ⟨A3, n3, c3, rfl, o3, hb_11⟩
    have h2 := h2.below hb_11
    have hq0 := hq0.trans (hb_11.mono hq0.size)
    clear hb_11
    have h3 := o3.sl
    clear o3 hB hn2
    have cb := fun w' A n c p (h : SlR w' p A n c fs) => build12_any w' p A n c _ h
    have cr := fun w' A n c p (h : SlR w' p A n c fs) => rbuild12_any w' p A n c _ h
    generalize (leafBE fs).1 = pb at *
    generalize (leafBE fs).2 = q at *
    unfold GotBE at cb cr
    have Cb := Lib.hid cb
    have Cr := Lib.hid cr
    clear cb cr
    go_wp2_with fail
    refine (Cb.out _ A3 n3 c3 _ h3).mono ?_
    rintro e w_12 ⟨A4, n4, c4, rfl, o4, hb_12⟩
    have h2 := h2.below hb_12
    have hq0 := hq0.trans (hb_12.mono hq0.size)
    have h3 := h3.below hb_12
    clear hb_12
    have s4 := OwnB.sl (l := pb) o4
    clear o4
    go_wp2_with fail
    refine (Cr.out _ A2 n2 c2 _ h2).mono ?_
    rintro e w_13 ⟨A5, n5, c5, rfl, o5, hb_13⟩
    have h2 := h2.below hb_13
    have hq0 := hq0.trans (hb_13.mono hq0.size)
    have h3 := h3.below hb_13
    have s4 := s4.below (by omega) hb_13
    clear hb_13
    have s5 := OwnB.sl (l := pb) o5
    clear o5 Cb Cr
    have hsame : Hid ((pb == pb) = true) := by unfold Hid; simp
    have hqq : ((q : Int) != (q : Int)) = false := by simp
    have hqq' : ((q : Int) == (q : Int)) = true := by simp
    go_wp2_with fail
    refine (same_is _ A4 n4 c4 _ A5 n5 c5 _ true hsame s4 s5).mono ?_
    rintro e w' ⟨rfl, rfl⟩
    clear s4 s5
    go_wp2_with fail
    refine (sents_is _ _ A3 n3 c3 _ h3 _ A2 n2 c2 h2).mono ?_
    rintro e w_20 ⟨rfl, hb⟩
    have hq0 := hq0.trans (hb.mono hq0.size)
    go_wp2
    go_ret
    exact ⟨rfl, hq0⟩
  case true =>
    have hm : n2 ≤ 70 := by have := hfb.1; omega
    have hfl := hfb.1
    have Hfl := Lib.hid hfl
    clear hfb hl2 hfl
    go_wp2_with fail
    refine (rsort_any w_2 _ A2 n2 c2 fs h2 (by omega)).mono ?_
    rintro e w_3 ⟨A6, n6, c6, rfl, ho6, hb⟩
    have hq0 := hq0.trans (hb.mono hq0.size)
    have h2 := ho6.sl
    obtain ⟨_, hgood, hlen⟩ := sortL_good fs
    have hB : ∀ e ∈ sortL fs, e.key.user.length ≤ 80 ∧ e.value.length ≤ 600 := fun e he => by
      have h1 := checkEnt_zero (hgood e he)
      have h2 := checkKey_bounds h1.1
      omega
    have hl6 := h2.lenR
    have hm6 : n6 ≤ 70 := by have := Hfl.out; omega
    clear hb ho6 hgood hlen hl6
    generalize sortL fs = ss at *
    have hn2 := h2.lenR
    go_wp2_with fail
    refine (twins_any _ _ A6 n6 c6 ss h2 (by omega) (fun e he => by have := hB e he; omega)).mono ?_
    rintro e w_11 ⟨A3, n3, c3, rfl, o3, hb_11⟩
    have h2 := h2.below hb_11
    have hq0 := hq0.trans (hb_11.mono hq0.size)
    clear hb_11
    have h3 := o3.sl
    clear o3 hB hn2
    have cb := fun w' A n c p (h : SlR w' p A n c ss) => build12_any w' p A n c _ h
    have cr := fun w' A n c p (h : SlR w' p A n c ss) => rbuild12_any w' p A n c _ h
    generalize (leafBE ss).1 = pb at *
    generalize (leafBE ss).2 = q at *
    unfold GotBE at cb cr
    have Cb := Lib.hid cb
    have Cr := Lib.hid cr
    clear cb cr
    go_wp2_with fail
    refine (Cb.out _ A3 n3 c3 _ h3).mono ?_
    rintro e w_12 ⟨A4, n4, c4, rfl, o4, hb_12⟩
    have h2 := h2.below hb_12
    have hq0 := hq0.trans (hb_12.mono hq0.size)
    have h3 := h3.below hb_12
    clear hb_12
    have s4 := OwnB.sl (l := pb) o4
    clear o4
    go_wp2_with fail
    refine (Cr.out _ A6 n6 c6 _ h2).mono ?_
    rintro e w_13 ⟨A5, n5, c5, rfl, o5, hb_13⟩
    have h2 := h2.below hb_13
    have hq0 := hq0.trans (hb_13.mono hq0.size)
    have h3 := h3.below hb_13
    have s4 := s4.below (by omega) hb_13
    clear hb_13
    have s5 := OwnB.sl (l := pb) o5
    clear o5 Cb Cr
    have hsame : Hid ((pb == pb) = true) := by unfold Hid; simp
    have hqq : ((q : Int) != (q : Int)) = false := by simp
    have hqq' : ((q : Int) == (q : Int)) = true := by simp
    go_wp2_with fail
    refine (same_is _ A4 n4 c4 _ A5 n5 c5 _ true hsame s4 s5).mono ?_
    rintro e w' ⟨rfl, rfl⟩
    clear s4 s5
    go_wp2_with fail
    refine (sents_is _ _ A3 n3 c3 _ h3 _ A6 n6 c6 h2).mono ?_
    rintro e w_20 ⟨rfl, hb⟩
    have hq0 := hq0.trans (hb.mono hq0.size)
    go_wp2
    go_ret
    exact ⟨rfl, hq0⟩
set_option maxHeartbeats 16000000 in
theorem leafSmall.walk (w : World) (A : Option Addr) (n c : Nat) (ls : List EntL) (h : SlR w (fun _ => True) A n c ls) :
    Calls Try.prog 15 #[.slice A n c] w fun e w' => e = .returned (.bool true) ∧ Below w.heap.size w w' := by
  have hq0 := Below.refl w.heap.size w
  go_enter Try.func15, Try.ntmps15
  go_wp2_with fail
  refine (awake12 w).mono ?_
  rintro e w_1 ⟨rfl, hb_1⟩
  have h := h.below hb_1
  have hq0 := hq0.trans (hb_1.mono hq0.size)
  clear hb_1
  go_wp2_with fail
  refine (fewents_any w_1 _ A n c ls 64 h (by omega)).mono ?_
  rintro e w_2 ⟨A2, n2, c2, rfl, ho2, hb_2⟩
  have h := h.below hb_2
  have hq0 := hq0.trans (hb_2.mono hq0.size)
  clear hb_2
  clear h
  have h2 := ho2.sl
  have hfb := (fewe_bounds ls 64).1
  generalize fewEnts ls 64 = fs at *
  clear ho2
  have hl2 := h2.lenR
  have hm : n2 ≤ 64 := by omega
  have hck := sortL_check fs hfb
  have Hck := Lib.hid hck
  clear hl2 hfb hck
  go_wp2_with fail
  refine (rsort_any w_2 _ A2 n2 c2 fs h2 (by omega)).mono ?_
  rintro e w_3 ⟨A3, n3, c3, rfl, ho3, hb_3⟩
  have hq0 := hq0.trans (hb_3.mono hq0.size)
  clear hb_3
  have h3 := ho3.sl
  clear ho3 h2
  generalize sortL fs = ss at *
  have cb := build12_any w_3 _ A3 n3 c3 ss h3
  rw [show leafBE ss = (leafBytesL ss, 0) by unfold leafBE; rw [if_pos Hck.out]] at cb
  obtain ⟨hn64, hok, _⟩ := checkLeaf_zero Hck.out
  have hsm := leaf_small ss Hck.out
  have hl3 := h3.lenR
  generalize leafBytesL ss = pb at *
  unfold GotBE at cb
  have Hsm := Lib.hid hsm
  have Hok := Lib.hid hok
  have Hl3 := Lib.hid hl3
  have hn3 : n3 ≤ 64 := by omega
  clear hsm hok hl3 hn64
  go_wp2_with fail
  refine cb.mono ?_
  rintro e w_4 ⟨A4, n4, c4, rfl, o4, hb⟩
  have hq0 := hq0.trans (hb.mono hq0.size)
  have h3 := h3.below hb
  have hn4 := OwnB.len' (l := pb) o4
  have hcp4 := (OwnB.sl (l := pb) o4).cap
  have hcm4 := (OwnB.sl (l := pb) o4).capm
  unfold maxLen at hcm4
  have Hn4 := Lib.hid hn4
  clear cb o4 hb hn4
  go_wp2
  go_loopw [5, 20] (fun s q wr => ∃ j : Nat, j ≤ n3 ∧ q = .int .i64 j ∧ s = .int .i64 ((4 + sumE (ss.take j) : Nat) : Int) ∧ Below w.heap.size w wr ∧ Below w_4.heap.size w_4 wr) (fun _ q _ => n3 - (intOf q).toNat)
  case atStart => exact ⟨0, Nat.zero_le _, rfl, rfl, hq0, Below.refl _ _⟩
  case round =>
    obtain ⟨j, hj, rfl, rfl, hbr, hb4r⟩ := hrel
    by_cases hlt : j < n3
    case neg =>
      obtain rfl : n3 = j := by omega
      rw [List.take_of_length_le (by have := Hl3.out; omega)]
      have hle : n4 ≤ 4 + sumE ss := by have := Hsm.out; have := Hn4.out; omega
      have i1 : decide ((n4 : Int) ≤ ((4 + sumE ss : Nat) : Int)) = true := decide_eq_true (by omega)
      have i2 : decide (n4 ≤ 4 + sumE ss) = true := decide_eq_true hle
      generalize 4 + sumE ss = S at *
      clear hle
      go_wp2
      go_ret
      exact ⟨rfl, hbr⟩
    obtain ⟨b, o, A5, n5, c5, A6, n6, c6, hjl, rfl, d0, d1, d2, d3, g5, g6⟩ := h3.entAt hlt
    have d0 := stays hb4r d0
    have d1 := stays hb4r d1
    have d2 := stays hb4r d2
    have d3 := stays hb4r d3
    have hst : sumE (ss.take (j + 1)) = sumE (ss.take j) + (n5 + 8 + n6 + 6) := by
      rw [List.take_succ_eq_append_getElem hjl]
      simp only [sumE, List.map_append, List.map_cons, List.map_nil, List.sum_append, List.sum_cons, List.sum_nil]
      rw [g5.lenb, g6.lenb]
      omega
    have hle := sumE_le (ss.take j) (fun e he => Hok.out e (List.mem_of_mem_take he))
    rw [List.length_take] at hle
    have hck := Hok.out ss[j] (List.getElem_mem hjl)
    have hkb := checkKey_bounds hck.1
    have hn5 := g5.lenb
    have hn6 := g6.lenb
    generalize ss[j].key.seq.toNat = s at *
    generalize ss[j].key.kind.toNat = d at *
    have hS : sumE (ss.take j) ≤ 100000 := by omega
    have h5b : n5 ≤ 64 := by omega
    have h6b : n6 ≤ 512 := by omega
    generalize sumE (ss.take j) = S at *
    have Hst := Lib.hid hst
    have Hjn : Hid (j < n3) := hlt
    clear hst hle hck hkb hn5 hn6 g5 g6 hjl
    have al := (Below.refl wr.heap.size wr).alloc (Nat.le_refl _) (.cells #[.slice A5 n5 c5, .int .u64 (s : Int), .int .u8 (d : Int), .slice A6 n6 c6] 89)
    have kX := Bx4.fresh wr (.slice A5 n5 c5) (.int .u64 (s : Int)) (.int .u8 (d : Int)) (.slice A6 n6 c6) 89
    generalize hW5 : (wr.alloc (.cells #[.slice A5 n5 c5, .int .u64 (s : Int), .int .u8 (d : Int), .slice A6 n6 c6] 89)) = w5 at *
    obtain ⟨y0, y1, y2, y3, y4⟩ := id kX
    have hbr := hbr.trans (al.mono hbr.size)
    have hb4r := hb4r.trans (al.mono hb4r.size)
    clear al
    go_wp2
    go_roundw
    case rel => exact ⟨j + 1, by have := Hjn.out; omega, by go_num, by rw [Hst.out]; first | rfl | (congr 1; go_num) | (congr 1; push_cast; omega), hbr, hb4r⟩
    case measure => have := Hjn.out; simp [intOf]; omega
end Go.Proofs.Ytfonincdhjkacaa
