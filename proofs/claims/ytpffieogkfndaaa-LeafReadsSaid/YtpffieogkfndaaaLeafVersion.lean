/-
  leaf.version: the version of a form. (Printed by genleaf8.py.) No condition but a size.
-/
import Derived.Test.YtpffieogkfndaaaLeafNums
import Derived.Test.YtpffieogkfndaaaGKey
import Derived.Test.YtpffieogkfndaaaGLib
namespace Go.Proofs.Ytpffieogkfndaaa
open Go.RowKit
set_option maxRecDepth 20000
theorem leval_drop' (l : List UInt8) (j : Nat) (hj : j < l.length) : leval (l.drop j) = leval (l.drop (j + 1)) * 256 + (l[j]).toNat := by
  rw [List.drop_eq_getElem_cons hj]
  rfl
set_option maxHeartbeats 8000000 in
theorem version_any (w : World) (A : Option Addr) (n c : Nat) (f : List UInt8) (h : Sl w 1 A n c (bc f)) (h8 : 8 ≤ n) (hn : n ≤ 1000000) :
    Calls Try.prog 40 #[.slice A n c] w fun e w' => ∃ A' n' c', e = .returned (.agg #[.slice A' n' c', .int .u64 ((verL f).seq.toNat : Int), .int .u8 ((verL f).kind.toNat : Int)]) ∧ OwnB w' w.heap.size A' n' c' (verL f).user ∧ Below w.heap.size w w' := by
  have hl := h.lenb
  obtain ⟨u, hu⟩ : ∃ u, u = f.length - 8 := ⟨_, rfl⟩
  have hv : verL f = keyOfN (f.take u) (leval (f.drop u)) := by unfold verL; rw [hu]
  have hr8 : (f.drop u).length = 8 := by rw [List.length_drop]; omega
  have hun : n = u + 8 := by omega
  have hw1 : IntKind.i64.wrap ((n : Int) - 8) = (u : Int) := by rw [IntKind.wrap_i64]; omega
  have hw2 : (n : Int) - 8 = (u : Int) := by omega
  obtain ⟨hrc, hsc⟩ := cutH h .i64 (u : Int) u rfl (by omega)
  have hcap := h.cap
  have hcm := h.capm
  unfold maxLen at hcm
  rw [hv]
  have k3 : (keyOfN (f.take u) (leval (f.drop u))).user = f.take u := rfl
  rw [k3]
  obtain ⟨ks, hks⟩ : ∃ ks, (keyOfN (f.take u) (leval (f.drop u))).seq.toNat = ks := ⟨_, rfl⟩
  obtain ⟨kd, hkd⟩ : ∃ kd, (keyOfN (f.take u) (leval (f.drop u))).kind.toNat = kd := ⟨_, rfl⟩
  rw [hks, hkd]
  have Hks := Lib.hid hks
  have Hkd := Lib.hid hkd
  have cc := fun w' (hb : Below w.heap.size w w') => clone_any w' A u c (f.take u) (hsc.below (by omega) hb) (by omega)
  have al := (Below.refl w.heap.size w).alloc (Nat.le_refl _) (.cells #[.slice none 0 0, .int .u64 0, .int .u8 0] 25)
  have kR := Bx.fresh w (.slice none 0 0) (.int .u64 0) (.int .u8 0) 25
  generalize hW : (w.alloc (.cells #[.slice none 0 0, .int .u64 0, .int .u8 0] 25)) = w0 at *
  have h0 := h.below (by omega) al
  have zR := kR.lt
  have Cc := Lib.hid cc
  have Hu := Lib.hid hu
  have Hl := Lib.hid hl
  have Hr8 := Lib.hid hr8
  have hub : u ≤ 1000000 := by omega
  have Hun := Lib.hid hun
  clear cc hu hl hr8 hv hsc h hun k3 hks hkd
  go_enter Try.func40, Try.ntmps40
  go_wp2
  try rw [hW]
  clear hW
  go_loopw [3, 5] (fun a i wr => ∃ (j v : Nat) (z : Int), z = 7 - (j : Int) ∧ j ≤ 8 ∧ i = .int .i64 z ∧ a = .int .u64 (v : Int) ∧ Hid (v = leval ((f.drop u).drop (8 - j))) ∧ w0 = wr) (fun _ i _ => (intOf i + 1).toNat)
  case atStart => exact ⟨0, 0, 7, by omega, by omega, rfl, rfl, by unfold Hid; rw [List.drop_of_length_le (by rw [Hr8.out]; omega)]; rfl, rfl⟩
  case round =>
    obtain ⟨j, v, z, hz, hj, rfl, rfl, Hv, rfl⟩ := hrel
    by_cases hj8 : j < 8
    · obtain ⟨t, ht⟩ : ∃ t : Nat, t = 7 - j := ⟨_, rfl⟩
      obtain rfl : z = (t : Int) := by omega
      have htl : t < (f.drop u).length := by rw [Hr8.out]; omega
      have hutl : u + t < f.length := by rw [Hl.out, Hun.out]; omega
      obtain ⟨bb, o, x, rfl, hx, hxl, hcell⟩ := h0.byte hutl
      have hstep := leval_drop' (f.drop u) t htl
      rw [List.getElem_drop, hx, show t + 1 = 8 - j by omega, ← Hv.out] at hstep
      have hvb : v < 72057594037927936 := by
        rw [Hv.out]
        have h1 := leval_lt ((f.drop u).drop (8 - j))
        have h2 : (256 : Nat) ^ ((f.drop u).drop (8 - j)).length ≤ 256 ^ 7 := Nat.pow_le_pow_right (by omega) (by rw [List.length_drop, Hr8.out]; omega)
        have : (256 : Nat) ^ 7 = 72057594037927936 := rfl
        omega
      have eo : bits .or .u64 ((v : Int) * 256) (x : Int) = ((v * 256 + x : Nat) : Int) := by
        have h1 := u64_or_nat (v * 256) x (by omega) (by omega)
        rw [nat_join 8 _ _ (by omega) (by omega)] at h1
        rw [← h1]
        simp
      obtain ⟨ut, hut⟩ : ∃ ut, ut = u + t := ⟨_, rfl⟩
      rw [← hut] at hcell
      have hs1 : (u : Int) + (t : Int) = (ut : Int) := by omega
      have hutn : ut < n := by have := Hun.out; omega
      have Hstep := Lib.hid hstep
      have Ht := Lib.hid ht
      have Hj8 := Lib.hid hj8
      clear hz hj hj8 ht hstep hx htl hutl hut
      go_wp2
      go_roundw
      case rel => exact ⟨j + 1, v * 256 + x, (t : Int) - 1, by have := Ht.out; have := Hj8.out; omega, by have := Hj8.out; omega, by simp, by go_num, by unfold Hid; rw [← Hstep.out]; congr 2; have := Ht.out; omega, (by first | rfl | trivial)⟩
      case measure => simp [intOf]
    · obtain rfl : j = 8 := by omega
      obtain rfl : z = -1 := by omega
      have hN := Hv.out
      rw [Nat.sub_self, List.drop_zero] at hN
      have hvl : v < 18446744073709551616 := by
        rw [hN]
        have h1 := leval_lt (f.drop u)
        rw [Hr8.out] at h1
        exact h1
      have k1 := Hks.out
      have k2 := Hkd.out
      rw [← hN] at k1 k2
      have f1 : (v : Int) / 256 = (ks : Int) := by
        unfold keyOfN at k1
        rw [UInt64.toNat_ofNat', Nat.mod_eq_of_lt (by omega)] at k1
        omega
      have f2 : (v : Int) % 256 = (kd : Int) := by
        unfold keyOfN at k2
        simp at k2
        omega
      clear hj8 hz hj hN k1 k2 Hv hw1 hw2
      go_wp2_with fail
      refine (Cc.out _ al).mono ?_
      rintro e w2 ⟨A2, n2, c2, rfl, o2, hb2⟩
      have kR := kR.below hb2
      obtain ⟨x0, x1, x2, x3⟩ := id kR
      have hq := al.trans (hb2.mono al.size)
      clear hrc
      go_wp2
      refine bodyPost_ret (v := .agg #[.slice A2 n2 c2, .int .u64 (ks : Int), .int .u8 (kd : Int)]) (by simp [results, Try.results40, go_sem, x0, x1, x2]) rfl ⟨A2, n2, c2, rfl, ?_, ?_⟩
      · refine Own.mono (B := w0.heap.size) ?_ al.size
        iterate 3 refine own_set ?_ (by omega) _
        exact o2
      · iterate 3 refine Below.setCell ?_ (by simp) _
        exact hq
end Go.Proofs.Ytpffieogkfndaaa
