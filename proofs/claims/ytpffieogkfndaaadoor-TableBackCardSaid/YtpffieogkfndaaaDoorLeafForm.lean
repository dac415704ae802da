/-
  A version's form, the program's and the reference's; a number as two bytes. (Printed by genleaf1.py.) No condition but a size.
-/
import Derived.Test.YtpffieogkfndaaaDoorJKeyReadW
import Derived.Test.YtpffieogkfndaaaDoorJHeldF
import Derived.Test.YtpffieogkfndaaaDoorJBridge
import Derived.Deep.CutRange
namespace Go.Proofs.YtpffieogkfndaaaDoor
open Go.RowKit
set_option maxRecDepth 20000
set_option linter.unusedVariables false
set_option linter.unusedSimpArgs false
set_option maxHeartbeats 8000000 in
theorem form12_any (w : World) (A : Option Addr) (n c : Nat) (k : KeyL) (h : Sl w 1 A n c (bc k.user)) (hs : k.seq.toNat < 72057594037927936) (hn : n ≤ 1000000) :
    Calls Tryd.prog 53 #[.agg #[.slice A n c, .int .u64 (k.seq.toNat : Int), .int .u8 (k.kind.toNat : Int)]] w (NewB w (fullL k)) := by
  unfold fullL keyN
  have hd := k.kind.toNat_lt
  have ct := fun (w' : World) (hb : Below w.heap.size w w') => clone_any w' A n c k.user (h.below (by omega) hb) (by omega)
  have htl : k.user.length ≤ 1000000 := by rw [h.lenb]; exact hn
  generalize k.seq.toNat = s at *
  generalize k.kind.toNat = d at *
  obtain ⟨N, hN⟩ : ∃ N, s * 256 + d = N := ⟨_, rfl⟩
  have e1 : bits .or .u64 ((s : Int) * 256) (d : Int) = (N : Int) := by
    have h1 := u64_or_nat (s * 256) d (by omega) (by omega)
    rw [nat_join 8 _ _ (by omega) (by omega), hN] at h1
    rw [← h1]
    simp
  rw [hN]
  have hs1 := hs
  have Ct := Lib.hid ct
  have Htl := Lib.hid htl
  clear ct h hN htl hs hn
  go_enter Tryd.func53, Tryd.ntmps53
  have hbA := (Below.refl w.heap.size w).alloc (Nat.le_refl _) (.cells #[.slice A n c, .int .u64 (s : Int), .int .u8 (d : Int)] 43)
  have fA := box1 w (.cells #[.slice A n c, .int .u64 (s : Int), .int .u8 (d : Int)] 43)
  go_wp2_with fail
  generalize (w.alloc (.cells #[.slice A n c, .int .u64 (s : Int), .int .u8 (d : Int)] 43)) = wA at *
  refine (Ct.out _ hbA).mono ?_
  rintro e w2 ⟨A2, n2, c2, rfl, ho2, hb2⟩
  have f1 := boxed hb2 fA
  have x0 := f1.1 0 _ rfl
  have x1 := f1.1 1 _ rfl
  have x2 := f1.1 2 _ rfl
  have hw2 := hbA.trans (hb2.mono hbA.size)
  have Ho2 := Lib.hid (Own.mono ho2 hbA.size)
  clear f1 ho2 fA
  go_wp2
  go_loopw [3, 16] (fun a i wr => ∃ j : Nat, j ≤ 8 ∧ i = .int .i64 (j : Int) ∧ Below w.heap.size w wr ∧ ∃ (A : Option Addr) (m c : Nat), a = .slice A m c ∧ OwnB wr w.heap.size A m c (k.user ++ (le8 N).take j)) (fun _ i _ => (8 - intOf i).toNat)
  case atStart => exact ⟨0, by omega, rfl, hw2, A2, n2, c2, rfl, by rw [List.take_zero, List.append_nil]; exact Ho2.out⟩
  case round =>
    obtain ⟨j, hj, rfl, hbr, A3, m, c3, rfl, ho3⟩ := hrel
    have hm := OwnB.len' ho3
    rw [List.length_append, List.length_take, le8_len] at hm
    have Hm := Lib.hid hm
    clear hm
    by_cases hj8 : j < 8
    · obtain ⟨q, hq⟩ : ∃ q : Nat, (8 : Int) * (j : Int) = (q : Int) := ⟨8 * j, by omega⟩
      have hp : 2 ^ q = 256 ^ j := by
        rw [show (256 : Nat) = 2 ^ 8 from rfl, ← Nat.pow_mul]
        congr 1
        omega
      have hq64 : q ≤ 56 := by omega
      obtain ⟨b, hb⟩ : ∃ b, N / 2 ^ q % 256 = b := ⟨_, rfl⟩
      have eb : (N : Int) / 2 ^ q % 256 = (b : Int) := by rw [← hb]; simp
      have hmore := le8_take N j hj8
      rw [show UInt8.ofNat (N / 256 ^ j) = UInt8.ofNat b from by rw [← hb, hp]; apply UInt8.toNat_inj.1; simp] at hmore
      have Hmore := Lib.hid hmore
      have hbl : b < 256 := by rw [← hb]; exact Nat.mod_lt _ (by omega)
      have Hbl := Lib.hid hbl
      have Hj := Lib.hid hj8
      have hlit : Sl (wr.alloc (.cells #[.int .u8 (b : Int)] 5)) 1 (some ⟨wr.heap.size, 0, none⟩) 1 1 (bc [UInt8.ofNat b]) :=
        Sl.lit wr _ _ 1 _ _ rfl (by unfold maxLen; omega) (by simp [bc]; omega)
      have hoa : OwnB (wr.alloc (.cells #[.int .u8 (b : Int)] 5)) w.heap.size A3 m c3 (k.user ++ (le8 N).take j) := Own.below ho3 ((Below.refl wr.heap.size wr).alloc (Nat.le_refl _) _)
      have hsz := hbr.size
      clear hmore hb hp hbl hj ho3 hj8
      go_wp2_with (at_builtin; refine wpList_appB _ rfl (.tmp 19) (.tmp 25) rfl w.heap.size A3 m c3 _ rfl hoa _ 1 1 _ rfl hlit ?_ ?_ ?_)
      · have h1 := Hm.out; have h2 := Htl.out; omega
      · simp; omega
      intro A4 c4 w4 ho4 hg4 _
      go_wp2
      go_roundw
      case rel =>
        refine ⟨j + 1, by have := Hj.out; omega, by go_num, (hbr.alloc hsz _).grown hg4 (by simp; omega) (fun q hq => (Own.lt hoa q hq).1), A4, _, c4, rfl, ?_⟩
        rw [Hmore.out]
        exact ho4
      case measure => have := Hj.out; simp [intOf]; omega
    · obtain rfl : j = 8 := by omega
      rw [List.take_of_length_le (by rw [le8_len]; omega)] at ho3
      go_wp2
      go_ret
      exact ⟨A3, m, c3, rfl, ho3, hbr⟩
theorem two_any (m : Nat) (w : World) (h : m < 1000000000) : Calls Tryd.prog 55 #[.int .i64 (m : Int)] w (NewB w (twoL m)) := by
  obtain ⟨q, hq⟩ : ∃ q : Nat, m / 256 = q := ⟨_, rfl⟩
  have e1 : (m : Int) / 256 = (q : Int) := by omega
  have hl : bc (twoL m) = [.int .u8 ((m : Int) % 256), .int .u8 ((q : Int) % 256)] := by simp [bc, twoL, hq]
  have HL := Lib.hid hl
  clear hl hq
  go_enter Tryd.func55, Tryd.ntmps55
  go_wp2
  go_ret
  exact new_lit w _ _ 2 rfl (by unfold maxLen; omega) (by rw [HL.out])
end Go.Proofs.YtpffieogkfndaaaDoor
