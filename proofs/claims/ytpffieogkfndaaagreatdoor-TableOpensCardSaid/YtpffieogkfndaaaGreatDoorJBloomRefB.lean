/-
  LeafForm, BloomRefB in one text. No condition but sizes.
-/
import Derived.Test.YtpffieogkfndaaaGreatDoorJTabPlain
import Derived.Test.YtpffieogkfndaaaGreatDoorJAtomWalk
import Derived.Test.YtpffieogkfndaaaGreatDoorJRowsX
import Derived.Deep.CutRange
import Derived.Test.YtpffieogkfndaaaGreatDoorJBloomRef
import Derived.Test.YtpffieogkfndaaaGreatDoorJParts
namespace Go.Proofs.YtpffieogkfndaaaGreatDoor
open Go.RowKit
set_option maxRecDepth 20000
set_option linter.unusedVariables false
set_option linter.unusedSimpArgs false
set_option maxHeartbeats 8000000 in
theorem form12_any (w : World) (A : Option Addr) (n c : Nat) (k : KeyL) (h : Sl w 1 A n c (bc k.user)) (hs : k.seq.toNat < 72057594037927936) (hn : n ≤ 1000000) :
    Calls Tryz.prog 80 #[.agg #[.slice A n c, .int .u64 (k.seq.toNat : Int), .int .u8 (k.kind.toNat : Int)]] w (NewB w (fullL k)) := by
  unfold fullL keyN
  have hd := k.kind.toNat_lt
  have ct := fun (w' : World) (hb : Below w.heap.size w w') => clone_any w' A n c k.user (h.below (by omega) hb) (by omega)
  have htl : k.user.length ≤ 1000000 := by rw [h.lenb]; exact hn
  generalize k.seq.toNat = s at *
  generalize k.kind.toNat = d at *
  obtain ⟨N, hN⟩ : ∃ N, s * 256 + d = N := ⟨_, rfl⟩
  have e1 : bits .or .u64 ((s : Int) * 256) (d : Int) = (N : Int) := by
    have h1 := u64_or_nat (s * 256) d (by omega) (by omega)
    rw [nat_join 8 _ _ (by omega) (by omega), hN] at h1
    rw [← h1]
    simp
  rw [hN]
  have hs1 := hs
  have Ct := Lib.hid ct
  have Htl := Lib.hid htl
  clear ct h hN htl hs hn
  go_enter Tryz.func80, Tryz.ntmps80
  have hbA := (Below.refl w.heap.size w).alloc (Nat.le_refl _) (.cells #[.slice A n c, .int .u64 (s : Int), .int .u8 (d : Int)] 67)
  have fA := box1 w (.cells #[.slice A n c, .int .u64 (s : Int), .int .u8 (d : Int)] 67)
  go_wp2_with fail
  generalize (w.alloc (.cells #[.slice A n c, .int .u64 (s : Int), .int .u8 (d : Int)] 67)) = wA at *
  refine (Ct.out _ hbA).mono ?_
  rintro e w2 ⟨A2, n2, c2, rfl, ho2, hb2⟩
  have f1 := boxed hb2 fA
  have x0 := f1.1 0 _ rfl
  have x1 := f1.1 1 _ rfl
  have x2 := f1.1 2 _ rfl
  have hw2 := hbA.trans (hb2.mono hbA.size)
  have Ho2 := Lib.hid (Own.mono ho2 hbA.size)
  clear f1 ho2 fA
  go_wp2
  go_loopw [3, 16] (fun a i wr => ∃ j : Nat, j ≤ 8 ∧ i = .int .i64 (j : Int) ∧ Below w.heap.size w wr ∧ ∃ (A : Option Addr) (m c : Nat), a = .slice A m c ∧ OwnB wr w.heap.size A m c (k.user ++ (le8 N).take j)) (fun _ i _ => (8 - intOf i).toNat)
  case atStart => exact ⟨0, by omega, rfl, hw2, A2, n2, c2, rfl, by rw [List.take_zero, List.append_nil]; exact Ho2.out⟩
  case round =>
    obtain ⟨j, hj, rfl, hbr, A3, m, c3, rfl, ho3⟩ := hrel
    have hm := OwnB.len' ho3
    rw [List.length_append, List.length_take, le8_len] at hm
    have Hm := Lib.hid hm
    clear hm
    by_cases hj8 : j < 8
    · obtain ⟨q, hq⟩ : ∃ q : Nat, (8 : Int) * (j : Int) = (q : Int) := ⟨8 * j, by omega⟩
      have hp : 2 ^ q = 256 ^ j := by
        rw [show (256 : Nat) = 2 ^ 8 from rfl, ← Nat.pow_mul]
        congr 1
        omega
      have hq64 : q ≤ 56 := by omega
      obtain ⟨b, hb⟩ : ∃ b, N / 2 ^ q % 256 = b := ⟨_, rfl⟩
      have eb : (N : Int) / 2 ^ q % 256 = (b : Int) := by rw [← hb]; simp
      have hmore := le8_take N j hj8
      rw [show UInt8.ofNat (N / 256 ^ j) = UInt8.ofNat b from by rw [← hb, hp]; apply UInt8.toNat_inj.1; simp] at hmore
      have Hmore := Lib.hid hmore
      have hbl : b < 256 := by rw [← hb]; exact Nat.mod_lt _ (by omega)
      have Hbl := Lib.hid hbl
      have Hj := Lib.hid hj8
      have hlit : Sl (wr.alloc (.cells #[.int .u8 (b : Int)] 5)) 1 (some ⟨wr.heap.size, 0, none⟩) 1 1 (bc [UInt8.ofNat b]) :=
        Sl.lit wr _ _ 1 _ _ rfl (by unfold maxLen; omega) (by simp [bc]; omega)
      have hoa : OwnB (wr.alloc (.cells #[.int .u8 (b : Int)] 5)) w.heap.size A3 m c3 (k.user ++ (le8 N).take j) := Own.below ho3 ((Below.refl wr.heap.size wr).alloc (Nat.le_refl _) _)
      have hsz := hbr.size
      clear hmore hb hp hbl hj ho3 hj8
      go_wp2_with (at_builtin; refine wpList_appB _ rfl (.tmp 19) (.tmp 25) rfl w.heap.size A3 m c3 _ rfl hoa _ 1 1 _ rfl hlit ?_ ?_ ?_)
      · have h1 := Hm.out; have h2 := Htl.out; omega
      · simp; omega
      intro A4 c4 w4 ho4 hg4 _
      go_wp2
      go_roundw
      case rel =>
        refine ⟨j + 1, by have := Hj.out; omega, by go_num, (hbr.alloc hsz _).grown hg4 (by simp; omega) (fun q hq => (Own.lt hoa q hq).1), A4, _, c4, rfl, ?_⟩
        rw [Hmore.out]
        exact ho4
      case measure => have := Hj.out; simp [intOf]; omega
    · obtain rfl : j = 8 := by omega
      rw [List.take_of_length_le (by rw [le8_len]; omega)] at ho3
      go_wp2
      go_ret
      exact ⟨A3, m, c3, rfl, ho3, hbr⟩
set_option maxHeartbeats 8000000 in
theorem rform12_any (w : World) (A : Option Addr) (n c : Nat) (k : KeyL) (h : Sl w 1 A n c (bc k.user)) (hs : k.seq.toNat < 72057594037927936) (hn : n ≤ 1000000) :
    Calls Tryz.prog 91 #[.agg #[.slice A n c, .int .u64 (k.seq.toNat : Int), .int .u8 (k.kind.toNat : Int)]] w (NewB w (fullL k)) := by
  unfold fullL
  unfold keyN
  have hd := k.kind.toNat_lt
  have ct := fun (w' : World) (hb : Below w.heap.size w w') => copy_any w' A n c k.user (h.below (by omega) hb) (by omega)
  have htl : k.user.length ≤ 1000000 := by rw [h.lenb]; exact hn
  generalize k.seq.toNat = s at *
  generalize k.kind.toNat = d at *
  have hlit0 : ∀ w' : World, Sl (w'.alloc (.cells #[.int .u8 (d : Int)] 5)) 1 (some ⟨w'.heap.size, 0, none⟩) 1 1 (bc [UInt8.ofNat d]) := fun w' =>
    Sl.lit w' _ _ 1 _ _ rfl (by unfold maxLen; omega) (by simp [bc]; omega)
  have hone : (le8 (s * 256 + d)).take 1 = [UInt8.ofNat d] := by
    rw [le8_take _ 0 (by omega), List.take_zero, List.nil_append]
    congr 1
    apply UInt8.toNat_inj.1
    simp
  have hdiv : ∀ j, (s * 256 + d) / 256 ^ (j + 1) = s / 256 ^ j := by
    intro j
    rw [Nat.pow_succ, Nat.mul_comm (256 ^ j) 256, ← Nat.div_div_eq_div_mul]
    congr 1
    omega
  have htake := fun j (hj : j < 8) => le8_take (s * 256 + d) j hj
  have hl8 := le8_len (s * 256 + d)
  generalize le8 (s * 256 + d) = L at *
  have hs1 := hs
  have Ct := Lib.hid ct
  have Htl := Lib.hid htl
  have Hone := Lib.hid hone
  have Hdiv := Lib.hid hdiv
  have Htake := Lib.hid htake
  have Hl8 := Lib.hid hl8
  have Hlit0 := Lib.hid hlit0
  have Hs1 := Lib.hid hs1
  clear ct h htl hs hone hdiv htake hl8 hlit0 hd hs1 hn
  have hbA := (Below.refl w.heap.size w).alloc (Nat.le_refl _) (.cells #[.slice A n c, .int .u64 (s : Int), .int .u8 (d : Int)] 67)
  have hk := Bx.fresh w (.slice A n c) (.int .u64 (s : Int)) (.int .u8 (d : Int)) 67
  go_enter Tryz.func91, Tryz.ntmps91
  have q1 := below_drew hbA
  have hk : Bx (World.drew _) w.heap.size _ _ _ := hk.drew
  clear hbA
  go_wp2_with fail
  go_cut [3] from 2 (fun s5 wx => ∃ (B : Option Addr) (m p : Nat), s5 = .slice B m p ∧ OwnB wx w.heap.size B m p (k.user ++ [UInt8.ofNat d]) ∧ Below w.heap.size w wx ∧ Bx wx w.heap.size (.slice A n c) (.int .u64 (s : Int)) (.int .u8 (d : Int)))
  case first =>
    generalize hW : World.drew _ = w2 at *
    refine regionF (fun _ wa wb => Bx wa w.heap.size (.slice A n c) (.int .u64 (s : Int)) (.int .u8 (d : Int)) → Bx wb w.heap.size (.slice A n c) (.int .u64 (s : Int)) (.int .u8 (d : Int))) (by kernel_rfl) ?_
    rw [hW]
    clear hW
    refine takeP (i := 0) (v := ?_) rfl hk ?hy ?_
    case hy =>
      intro wS hSw
      clear hSw
      go_simp
      try with_reducible rfl
    refine takeP (i := 1) (v := ?_) rfl hk ?hy ?_
    case hy =>
      intro wS hSw
      obtain ⟨x0, x1, x2, x3⟩ := hSw
      go_simp
      try with_reducible rfl
    refine takeP (i := 3) (v := ?_) rfl hk ?hy ?_
    case hy =>
      intro wS hSw
      clear hSw
      go_simp
      try with_reducible rfl
    refine takeP (i := 4) (v := ?_) rfl hk ?hy ?_
    case hy =>
      intro wS hSw
      obtain ⟨x0, x1, x2, x3⟩ := hSw
      go_simp
      try with_reducible rfl
    refine readyF (rs := [2, 5]) (by kernel_rfl) (by simp) ?_
    refine AllF.cons rfl (fun K hK => ?_) ?_
    · go_simp
      refine (Ct.out _ q1).mono ?_
      rintro e w3 ⟨A3, n3, c3, rfl, ho3, hb3⟩
      refine hK _ _ (fun h => h.below hb3) ?_
      clear hK K
      have hz := hk.lt
      have ho3 := Own.mono (B' := w.heap.size + 1) ho3 hz
      have hk := hk.below hb3
      have q3 := q1.trans (hb3.mono q1.size)
      refine readyF (rs := [5]) (by kernel_rfl) (by simp) ?_
      refine AllF.cons rfl (fun K hK => ?_) AllF.nil
      go_simp
      refine hK _ _ (fun h => h.below ((Below.refl _ _).alloc (Nat.le_refl _) _)) ?_
      clear hK K
      have hlit := Hlit0.out w3
      have bl := (Below.refl w3.heap.size w3).alloc (Nat.le_refl _) (.cells #[.int .u8 (d : Int)] 5)
      have ho3 := Own.below ho3 bl
      have hk := hk.below bl
      have q4 := q3.trans (bl.mono q3.size)
      generalize (w3.alloc (.cells #[.int .u8 (d : Int)] 5)) = w4 at *
      refine readyF (rs := [6]) (by kernel_rfl) (by simp) ?_
      refine AllF.cons rfl (fun K hK => ?_) AllF.nil
      refine step_appB (by rfl) (.tmp 7) (.tmp 10) (by rfl) (w.heap.size + 1) A3 n3 c3 _ (by rfl) ho3 _ 1 1 _ (by rfl) hlit (by have h1 := OwnB.len' (l := k.user) ho3; have h2 := Htl.out; omega) hk.lt ?_
      intro A4 c4 w5 ho5 hg5 hx5
      have hne : blk A3 c3 ≠ some w.heap.size := fun e => by have := (Own.lt ho3 _ e).1; omega
      refine hK _ _ (fun h => Bx.grownO h hg5 hne) ?_
      clear hK K
      have hk := Bx.grownO hk hg5 hne
      have q5 := q4.grown hg5 q4.size (fun k e => by have := (Own.lt ho3 _ e).1; omega)
      refine takeP (i := 7) (v := ?_) rfl hk ?hy ?_
      case hy =>
        intro wS hSw
        clear hSw
        go_simp
        try with_reducible rfl
      refine doneF (by kernel_rfl) ?_ _
      try simp only [List.getElem_toArray, List.getElem_cons_succ, List.getElem_cons_zero, Act.put, List.setIfInBounds_toArray, List.set_cons_zero, List.set_cons_succ]
      go_wp2_with fail
      go_meet
      exact ⟨A4, _, c4, rfl, Own.mono ho5 (by omega), q5, hk⟩
    refine AllF.cons rfl (fun K hK => ?_) AllF.nil
    go_simp
    refine hK _ _ (fun h => h.below ((Below.refl _ _).alloc (Nat.le_refl _) _)) ?_
    clear hK K
    have hlit := Hlit0.out w2
    have hz := hk.lt
    have bl := (Below.refl w2.heap.size w2).alloc (Nat.le_refl _) (.cells #[.int .u8 (d : Int)] 5)
    have hk := hk.below bl
    have q3 := q1.trans (bl.mono q1.size)
    have hz2 := bl.size
    generalize (w2.alloc (.cells #[.int .u8 (d : Int)] 5)) = w4 at *
    refine readyF (rs := [2]) (by kernel_rfl) (by simp) ?_
    refine AllF.cons rfl (fun K hK => ?_) AllF.nil
    go_simp
    refine (Ct.out _ q3).mono ?_
    rintro e w3 ⟨A3, n3, c3, rfl, ho3, hb3⟩
    refine hK _ _ (fun h => h.below hb3) ?_
    clear hK K
    have ho3 := Own.mono (B' := w.heap.size + 1) ho3 (by omega)
    have hk := hk.below hb3
    have hlit := hlit.below (by omega) hb3
    have q4 := q3.trans (hb3.mono q3.size)
    refine readyF (rs := [6]) (by kernel_rfl) (by simp) ?_
    refine AllF.cons rfl (fun K hK => ?_) AllF.nil
    refine step_appB (by rfl) (.tmp 7) (.tmp 10) (by rfl) (w.heap.size + 1) A3 n3 c3 _ (by rfl) ho3 _ 1 1 _ (by rfl) hlit (by have h1 := OwnB.len' (l := k.user) ho3; have h2 := Htl.out; omega) hk.lt ?_
    intro A4 c4 w5 ho5 hg5 hx5
    have hne : blk A3 c3 ≠ some w.heap.size := fun e => by have := (Own.lt ho3 _ e).1; omega
    refine hK _ _ (fun h => Bx.grownO h hg5 hne) ?_
    clear hK K
    have hk := Bx.grownO hk hg5 hne
    have q5 := q4.grown hg5 q4.size (fun k e => by have := (Own.lt ho3 _ e).1; omega)
    refine takeP (i := 7) (v := ?_) rfl hk ?hy ?_
    case hy =>
      intro wS hSw
      clear hSw
      go_simp
      try with_reducible rfl
    refine doneF (by kernel_rfl) ?_ _
    try simp only [List.getElem_toArray, List.getElem_cons_succ, List.getElem_cons_zero, Act.put, List.setIfInBounds_toArray, List.set_cons_zero, List.set_cons_succ]
    go_wp2_with fail
    go_meet
    exact ⟨A4, _, c4, rfl, Own.mono ho5 (by omega), q5, hk⟩
  case rest =>
    obtain ⟨B, m, p, rfl, ho, q2, hk⟩ := hcut
    obtain ⟨x0, x1, x2, x3⟩ := id hk
    clear q1
    go_wp2
    go_loopw [3, 4, 14] (fun a b i wr => ∃ (j v : Nat), Hid (v = s / 256 ^ j) ∧ j ≤ 7 ∧ i = .int .i64 (j : Int) ∧ b = .int .u64 (v : Int) ∧ Below w.heap.size w wr ∧ ∃ (B : Option Addr) (m p : Nat), a = .slice B m p ∧ OwnB wr w.heap.size B m p (k.user ++ L.take (j + 1))) (fun _ _ i _ => (7 - intOf i).toNat)
    case atStart => exact ⟨0, s, by unfold Hid; simp, by omega, rfl, rfl, q2, B, m, p, rfl, by rw [Nat.zero_add, Hone.out]; exact ho⟩
    case round =>
      obtain ⟨j, v, Hv, hj, rfl, rfl, hbr, B2, m2, p2, rfl, ho2⟩ := hrel
      have hm := OwnB.len' ho2
      rw [List.length_append, List.length_take, Hl8.out] at hm
      have Hm := Lib.hid hm
      clear hm
      have hsz := hbr.size
      by_cases hj7 : j < 7
      · have hvl : v < 18446744073709551616 := by rw [Hv.out]; exact Nat.lt_of_le_of_lt (Nat.div_le_self _ _) (by have := Hs1.out; omega)
        have hlit : Sl (wr.alloc (.cells #[.int .u8 ((v : Int) % 256)] 5)) 1 (some ⟨wr.heap.size, 0, none⟩) 1 1 (bc [UInt8.ofNat v]) :=
          Sl.lit wr _ _ 1 _ _ rfl (by unfold maxLen; omega) (by simp [bc])
        have hoa : OwnB (wr.alloc (.cells #[.int .u8 ((v : Int) % 256)] 5)) w.heap.size B2 m2 p2 (k.user ++ L.take (j + 1)) := Own.below ho2 ((Below.refl wr.heap.size wr).alloc (Nat.le_refl _) _)
        have hmore := Htake.out (j + 1) (by omega)
        rw [Hdiv.out, ← Hv.out] at hmore
        have Hmore := Lib.hid hmore
        have Hj := Lib.hid hj7
        clear hmore ho2 hj
        go_wp2_with (at_builtin; refine wpList_appB _ rfl (.tmp 16) (.tmp 20) rfl w.heap.size B2 m2 p2 _ rfl hoa _ 1 1 _ rfl hlit ?_ ?_ ?_)
        · have h1 := Hm.out; have h2 := Htl.out; omega
        · simp; omega
        intro A4 c4 w4 ho4 hg4 _
        go_wp2
        go_roundw
        case rel =>
          refine ⟨j + 1, v / 256, ?_, by have := Hj.out; omega, by go_num, by simp, (hbr.alloc hsz _).grown hg4 (by simp; omega) (fun q hq => (Own.lt hoa q hq).1), A4, _, c4, rfl, ?_⟩
          · unfold Hid; rw [Hv.out, Nat.div_div_eq_div_mul, Nat.pow_succ]
          · rw [Hmore.out]
            exact ho4
        case measure => have := Hj.out; simp [intOf]; omega
      · obtain rfl : j = 7 := by omega
        rw [List.take_of_length_le (by rw [Hl8.out]; omega)] at ho2
        go_wp2
        go_ret
        exact ⟨B2, m2, p2, rfl, ho2, hbr⟩
theorem two_any (m : Nat) (w : World) (h : m < 1000000000) : Calls Tryz.prog 82 #[.int .i64 (m : Int)] w (NewB w (twoL m)) := by
  obtain ⟨q, hq⟩ : ∃ q : Nat, m / 256 = q := ⟨_, rfl⟩
  have e1 : (m : Int) / 256 = (q : Int) := by omega
  have hl : bc (twoL m) = [.int .u8 ((m : Int) % 256), .int .u8 ((q : Int) % 256)] := by simp [bc, twoL, hq]
  have HL := Lib.hid hl
  clear hl hq
  go_enter Tryz.func82, Tryz.ntmps82
  go_wp2
  go_ret
  exact new_lit w _ _ 2 rfl (by unfold maxLen; omega) (by rw [HL.out])
end Go.Proofs.YtpffieogkfndaaaGreatDoor

namespace Go.Proofs.YtpffieogkfndaaaGreatDoor
set_option maxRecDepth 20000
set_option linter.unusedVariables false
set_option linter.unusedSimpArgs false
open Go.RowKit

/-- the bits from t on of the byte j -/
def partN (s : List Bool) (j t : Nat) : Nat := (List.range' t (8 - t)).foldr (fun k acc => (s[8 * j + k]?.getD false).toNat + 2 * acc) 0
theorem partN_all (s : List Bool) (j : Nat) : partN s j 0 = byteN s j := by unfold partN byteN; rw [List.range_eq_range']
theorem partN_step (s : List Bool) (j t : Nat) (h : t < 8) : partN s j t = (s[8 * j + t]?.getD false).toNat + 2 * partN s j (t + 1) := by
  unfold partN
  rw [show 8 - t = (8 - (t + 1)) + 1 by omega, List.range'_succ, List.foldr_cons]
theorem partN_lt (s : List Bool) (j t : Nat) (ht : 1 ≤ t) : partN s j t < 128 := by
  by_cases h : t < 8
  · refine Nat.lt_pow_two_of_testBit (n := 7) _ fun i hi => ?_
    unfold partN
    rw [foldr_bits (fun k => s[8 * j + k]?.getD false)]
    have h1 : ¬ i < 8 - t := by omega
    simp [h1]
  · unfold partN
    rw [show 8 - t = 0 by omega]
    simp
def bv (s : List Bool) : List Value := s.map Value.bool
theorem bv_get (s : List Bool) (k : Nat) (h : k < s.length) : (bv s)[k]? = some (.bool (s[k]?.getD false)) := by simp [bv, h]
theorem bv_set (s : List Bool) (k : Nat) : (bv s).set k (.bool true) = bv (s.set k true) := by simp [bv, List.map_set]
theorem bytesN_succ (s : List Bool) (j : Nat) : bytesN s (j + 1) = bytesN s j ++ [UInt8.ofNat (byteN s j)] := by simp [bytesN, List.range_succ]
theorem probesL_succ (key : List UInt8) (m i : Nat) : probesL key m (i + 1) = probesL key m i ++ [probeL key m i] := by simp [probesL, List.range_succ]

set_option maxHeartbeats 2000000 in
theorem rbuild_any (w : World) (bt : Int) (A : Option Addr) (n c : Nat) (vs : List Value) (keys : List (List UInt8)) (h : Sl w 1 A n c vs) (hp : PartsOf w vs keys) (hlong : ∀ key ∈ keys, key.length ≤ 4398046511104) (hn : n ≤ 1000) :
    Calls Tryz.prog 54 #[.int .i64 bt, .slice A n c] w (NewB w (buildL bt keys)) := by
  have Hl : Hid (keys.length = n) := by have h1 := h.len; have h2 := hp.1; unfold Hid; omega
  have hcm := h.capm
  have hcc := h.cap
  unfold maxLen at hcm
  have ht := takeN_le bt
  have ht1 := takeN_pos bt
  have hpr := probesN_le bt
  have hpr1 := probesN_pos bt
  obtain ⟨sz, hsz⟩ : ∃ sz, sizeN bt keys.length = sz := ⟨_, rfl⟩
  have hsz2 : max ((takeN bt * n + 7) / 8) 8 = sz := by rw [← hsz, Hl.out]; rfl
  have ht2 : takeN bt * n ≤ 100 * n := Nat.mul_le_mul_right _ ht
  have hsz3 : sz ≤ 100000 := by omega
  have hsz4 : 8 ≤ sz := by omega
  have htk := fun w' => rbltake_any w' bt
  have hpb := fun w' => rprobes_any w' bt
  have hfin : buildL bt keys = bytesN (setAll (List.replicate (8 * sz) false) (keys.flatMap fun key => probesL key (8 * sz) (probesN bt))) sz ++ [UInt8.ofNat (probesN bt)] := by unfold buildL bitsL; rw [hsz]
  rw [hfin]
  clear hfin
  generalize takeN bt = t at *
  generalize probesN bt = p at *
  have Hmul : Hid ((t : Int) * n = ((t * n : Nat) : Int)) := by unfold Hid; simp
  have Htk := Lib.hid htk
  have Hpb := Lib.hid hpb
  obtain ⟨i0, hi0, hz0, hs1, hb1⟩ := info_parts infoF
  obtain ⟨E, hE⟩ : ∃ E : Int, ((t : Int) * n + 7) / 8 = E := ⟨_, rfl⟩
  have hE2 : (E < 8 → (sz : Int) = 8) ∧ (8 ≤ E → (sz : Int) = E) := by
    have := Hmul.out
    constructor <;> omega
  have HE2 := Lib.hid hE2
  have Hone : Hid True := trivial
  clear hsz hsz2 htk hpb hE2
  go_enter Tryz.func54, Tryz.ntmps54
  go_wp2_with fail
  refine (Htk.out _).mono ?_
  rintro e w' ⟨rfl, rfl⟩
  have hpc : ∀ (wr : World) (A' : Option Addr) (n' c' : Nat) (key : List UInt8) (i : Nat) (M : Int), Sl wr 1 A' n' c' (bc key) → n' ≤ 4398046511104 → i ≤ 30 → M = ((8 * sz : Nat) : Int) →
      Calls Tryz.prog 96 #[.slice A' n' c', .int .i64 (i : Int), .int .i64 M] wr fun e w' => e = .returned (.int .i64 (probeL key (8 * sz) i : Nat)) ∧ Below wr.heap.size wr w' := by
    rintro wr A' n' c' key i M hk hn' hi rfl
    exact rprobe_any wr A' n' c' key hk hn' i (8 * sz) hi (by omega) (by omega)
  have Hpc := Lib.hid hpc
  clear hpc
  go_wp2_with (at_make; refine wpList_mk _ rfl (.tmp 24) (.tmp 24) _ rfl w.heap.size 4 i0 (.bool false) 1 Tryz.underlying137 hi0 hz0 hs1 hb1 rfl _ _ _ _ (8 * sz) rfl rfl ?_ ?_ ?_ ?_ ?_ ?_)
  all_goals try (have := HE2.out; omega)
  all_goals try (unfold maxLen; omega)
  all_goals
    intro w1 ho1 hb1 _
    have ho1 : Own w1 w.heap.size 4 1 (some ⟨w.heap.size, 0, none⟩) (8 * sz) (8 * sz) (bv (List.replicate (8 * sz) false)) := by
      unfold bv
      rw [List.map_replicate]
      exact ho1
    go_wp2
    go_loopw [28] (fun q wr => ∃ j : Nat, j ≤ n ∧ q = .int .i64 j ∧ Below w.heap.size w wr ∧
      Own wr w.heap.size 4 1 (some ⟨w.heap.size, 0, none⟩) (8 * sz) (8 * sz) (bv (setAll (List.replicate (8 * sz) false) ((keys.take j).flatMap fun key => probesL key (8 * sz) p)))) (fun q _ => n - (intOf q).toNat)
    case atStart => exact ⟨0, Nat.zero_le _, rfl, hb1, ho1⟩
    case round =>
      clear ho1 hb1
      obtain ⟨j, hj, rfl, hbr, hor⟩ := hrel
      by_cases hlt : j < n
      · obtain ⟨b, o, A', n', c', hkl, rfl, hcell, hsl⟩ := hp.get h hlt
        have hcell := (hbr.cell (p := ⟨b, o + j, none⟩) (World.block_lt_of_cell? _ _ hcell)).trans hcell
        have hlk := hlong keys[j] (List.getElem_mem hkl)
        rw [hsl.lenb] at hlk
        have Hor := Lib.hid hor
        clear hor
        go_wp2_with fail
        refine (Hpb.out _).mono ?_
        rintro e w' ⟨rfl, rfl⟩
        go_wp2
        go_loopw [34] (fun q wx => ∃ i : Nat, i ≤ p ∧ q = .int .i64 i ∧ Below w.heap.size w wx ∧
          Own wx w.heap.size 4 1 (some ⟨w.heap.size, 0, none⟩) (8 * sz) (8 * sz) (bv (setAll (setAll (List.replicate (8 * sz) false) ((keys.take j).flatMap fun key => probesL key (8 * sz) p)) (probesL keys[j] (8 * sz) i)))) (fun q _ => p - (intOf q).toNat)
        case atStart => exact ⟨0, Nat.zero_le _, rfl, hbr, Hor.out⟩
        case round =>
          clear hbr hcell
          obtain ⟨i, hi, rfl, hbx, hox⟩ := hrel
          by_cases hlti : i < p
          · obtain ⟨v, hv⟩ : ∃ v, probeL keys[j] (8 * sz) i = v := ⟨_, rfl⟩
            have hvl : v < 8 * sz := by rw [← hv]; exact probeL_lt _ (by omega) i
            have Hv := Lib.hid hv
            have Hox := Lib.hid hox
            clear hv hox
            go_wp2_with fail
            refine (Hpc.out _ A' n' c' keys[j] i _ (hsl.below (by omega) hbx) hlk (by omega) (by have := HE2.out; omega)).mono ?_
            rw [Hv.out]
            rintro e w2 ⟨rfl, hb2⟩
            have ho2 := Own.below Hox.out hb2
            have hb3 := hbx.trans (hb2.mono hbx.size)
            obtain ⟨gg, oo, uu, eA, _, _, _, hcl, hfr⟩ := Own.place ho2 hvl
            obtain ⟨rfl, rfl⟩ : w.heap.size = gg ∧ 0 = oo := by simpa using eA
            have hst := Own.stored ho2 hvl (.bool true)
            rw [bv_set, ← setAll_snoc, Nat.zero_add] at hst
            rw [Nat.zero_add] at hcl hfr
            have Hst := Lib.hid hst
            clear hst ho2 eA hb2
            go_wp2
            go_roundw
            case rel => exact ⟨i + 1, by omega, by go_num, hb3.setCell (p := ⟨w.heap.size, v, none⟩) (Nat.le_refl _) _, by rw [probesL_succ, Hv.out]; exact Hst.out⟩
            case measure => simp [intOf]; omega
          · obtain rfl : i = p := by omega
            go_wp2
            go_roundw
            case rel =>
              refine ⟨j + 1, by omega, by go_num, hbx, ?_⟩
              rw [take_snoc _ _ hkl, List.flatMap_append, setAll_append]
              simpa using hox
            case measure => simp [intOf]; omega
      · obtain rfl : j = n := by omega
        rw [List.take_of_length_le (show keys.length ≤ j by have := Hl.out; omega)] at hor
        obtain ⟨s, hs⟩ : ∃ s, setAll (List.replicate (8 * sz) false) (keys.flatMap fun key => probesL key (8 * sz) p) = s := ⟨_, rfl⟩
        have hsl : s.length = 8 * sz := by rw [← hs]; simp
        rw [hs] at hor
        have Hs := Lib.hid hs
        clear hs
        go_wp2
        go_loopw [10, 47] (fun ov q wx => ∃ k : Nat, k ≤ sz ∧ q = .int .i64 k ∧ Below w.heap.size w wx ∧ Own wx w.heap.size 4 1 (some ⟨w.heap.size, 0, none⟩) (8 * sz) (8 * sz) (bv s) ∧
          ∃ A2 c2, ov = .slice A2 k c2 ∧ OwnB wx w.heap.size A2 k c2 (bytesN s k)) (fun _ q _ => sz - (intOf q).toNat)
        case atStart => exact ⟨0, Nat.zero_le _, rfl, hbr, hor, none, 0, rfl, Own.nil _ _ _ _ _⟩
        case round =>
          clear hor hbr
          obtain ⟨k, hk, rfl, hbx, hox, A2, c2, rfl, ho2⟩ := hrel
          by_cases hkl : k < sz
          · have hkE := HE2.out
            have Ho2 := Lib.hid ho2
            have Hox := Lib.hid hox
            clear ho2 hox
            go_wp2
            go_loop [12, 13] (fun bv q => ∃ t : Nat, t ≤ 8 ∧ q = .int .i64 ((t : Int) - 1) ∧ bv = .int .u8 (partN s k t : Nat)) (fun _ q => (intOf q + 1).toNat)
            case atStart => exact ⟨8, Nat.le_refl _, rfl, rfl⟩
            case round =>
              obtain ⟨tt, htt, rfl, rfl⟩ := hrel
              cases tt with
              | zero =>
                rw [partN_all]
                have hbl := byteN_lt s k
                have hbs := bytesN_succ s k
                obtain ⟨y, hy⟩ : ∃ y, byteN s k = y := ⟨_, rfl⟩
                rw [hy] at hbl hbs
                rw [hy]
                have Hbs := Lib.hid hbs
                have hsz : w.heap.size ≤ wr.heap.size := hbx.size
                have hlit : OwnB (wr.alloc (.cells #[.int .u8 (y : Int)] 5)) w.heap.size (some ⟨wr.heap.size, 0, none⟩) 1 1 [UInt8.ofNat y] :=
                  Own.lit wr _ _ 1 _ _ hsz rfl (by unfold maxLen; omega) (by simp [bc]; omega)
                have hba := (Below.refl wr.heap.size wr).alloc (Nat.le_refl _) (.cells #[.int .u8 (y : Int)] 5)
                have hoa : OwnB (wr.alloc (.cells #[.int .u8 (y : Int)] 5)) w.heap.size A2 k c2 (bytesN s k) := Own.below Ho2.out hba
                have hxa := Own.below Hox.out hba
                clear hbs hy
                go_wp2_with (at_builtin; refine wpList_appB _ rfl (.tmp 65) (.tmp 67) rfl w.heap.size A2 k c2 _ rfl hoa _ 1 1 [UInt8.ofNat y] rfl hlit.sl ?_ ?_ ?_)
                · omega
                · first | (have := hsz; omega) | (rw [World.size_alloc]; omega) | trace_state
                intro A3 c3 w3 ho3 hg3 _
                go_wp2
                go_roundw
                case rel =>
                  refine ⟨k + 1, by omega, by go_num, (hbx.alloc hsz _).grown hg3 (by simp; omega) (fun q hq => (Own.lt hoa q hq).1), Own.grown hxa hg3 (own_apart hxa hoa (by decide)), A3, c3, rfl, ?_⟩
                  rw [Hbs.out]
                  exact ho3
                case measure => simp [intOf]; omega
              | succ tt =>
                have hpt := partN_lt s k (tt + 1) (by omega)
                have hst := partN_step s k tt (by omega)
                obtain ⟨y, hy⟩ : ∃ y, partN s k (tt + 1) = y := ⟨_, rfl⟩
                rw [hy] at hpt hst
                rw [hy]
                have hkt : 8 * k + tt < 8 * sz := by omega
                obtain ⟨gg, oo, uu, eA, _, _, hu, hcl, _⟩ := Own.place Hox.out hkt
                obtain ⟨rfl, rfl⟩ : w.heap.size = gg ∧ 0 = oo := by simpa using eA
                rw [bv_get s _ (by omega)] at hu
                obtain rfl := Option.some.inj hu
                rw [Nat.zero_add] at hcl
                have Hst := Lib.hid hst
                clear hst hy hu eA
                cases hbit : s[8 * k + tt]?.getD false with
                | true =>
                  rw [hbit] at hcl
                  have Hbit := Lib.hid hbit
                  clear hbit
                  go_wp2
                  go_round
                  case rel => exact ⟨tt, by omega, rfl, by rw [Hst.out, Hbit.out]; congr 1; simp <;> omega⟩
                  case measure => simp [intOf] <;> omega
                | false =>
                  rw [hbit] at hcl
                  have Hbit := Lib.hid hbit
                  clear hbit
                  go_wp2
                  go_round
                  case rel => exact ⟨tt, by omega, rfl, by rw [Hst.out, Hbit.out]; congr 1; simp <;> omega⟩
                  case measure => simp [intOf] <;> omega
          · obtain rfl : k = sz := by omega
            have hkE := HE2.out
            have hsz : w.heap.size ≤ wr.heap.size := hbx.size
            have hlit : OwnB (wr.alloc (.cells #[.int .u8 (p : Int)] 5)) w.heap.size (some ⟨wr.heap.size, 0, none⟩) 1 1 [UInt8.ofNat p] :=
              Own.lit wr _ _ 1 _ _ hsz rfl (by unfold maxLen; omega) (by simp [bc]; omega)
            have hba := (Below.refl wr.heap.size wr).alloc (Nat.le_refl _) (.cells #[.int .u8 (p : Int)] 5)
            have hoa : OwnB (wr.alloc (.cells #[.int .u8 (p : Int)] 5)) w.heap.size A2 k c2 (bytesN s k) := Own.below ho2 hba
            clear ho2 hox
            go_wp2_with fail
            refine (Hpb.out _).mono ?_
            rintro e w' ⟨rfl, rfl⟩
            go_wp2_with (at_builtin; refine wpList_appB _ rfl (.tmp 70) (.tmp 74) rfl w.heap.size A2 k c2 _ rfl hoa _ 1 1 [UInt8.ofNat p] rfl hlit.sl ?_ ?_ ?_)
            · omega
            · simp; omega
            intro A3 c3 w3 ho3 hg3 _
            go_wp2
            go_ret
            rw [Hs.out]
            exact ⟨A3, _, c3, rfl, ho3, (hbx.alloc hsz _).grown hg3 (by simp; omega) (fun q hq => (Own.lt hoa q hq).1)⟩
end Go.Proofs.YtpffieogkfndaaaGreatDoor
