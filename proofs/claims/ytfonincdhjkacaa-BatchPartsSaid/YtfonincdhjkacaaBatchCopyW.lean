/-
  batch.Copy: the same, apart. No condition but sizes.
-/
import Derived.Test.YtfonincdhjkacaaGLib
import Derived.Test.YtfonincdhjkacaaGBat
import Derived.Test.YtfonincdhjkacaaGByt
namespace Go.Proofs.Ytfonincdhjkacaa
open Go.RowKit
set_option maxRecDepth 20000
/-- a row of one op, laid new, whose bytes are the call's own and lie apart from block X -/
theorem opRowY (w : World) (B : Nat) (X : Option Nat) (x : OpL) (A3 : Option Addr) (n3 c3 : Nat) (A4 : Option Addr) (n4 c4 : Nat) (s3 : OwnB w B A3 n3 c3 x.key) (s4 : OwnB w B A4 n4 c4 x.value)
    (h3 : ∀ b, 0 < n3 → A3.map (·.block) = some b → X ≠ some b) (h4 : ∀ b, 0 < n4 → A4.map (·.block) = some b → X ≠ some b) :
    ∃ xs, Sl (w.alloc (.cells #[.int .u8 (x.kind.toNat : Int), .slice A3 n3 c3, .slice A4 n4 c4] 47)) 3 (some ⟨w.heap.size, 0, none⟩) 1 1 xs ∧ RowC (w.alloc (.cells #[.int .u8 (x.kind.toNat : Int), .slice A3 n3 c3, .slice A4 n4 c4] 47)) (fun b => X ≠ some b ∧ OwnU (w.alloc (.cells #[.int .u8 (x.kind.toNat : Int), .slice A3 n3 c3, .slice A4 n4 c4] 47)) B 5 b) xs [x] := by
  have al := (Below.refl w.heap.size w).alloc (Nat.le_refl _) (.cells #[.int .u8 (x.kind.toNat : Int), .slice A3 n3 c3, .slice A4 n4 c4] 47)
  have o3 := Own.below s3 al
  have o4 := Own.below s4 al
  exact ⟨_, ⟨rfl, Nat.le_refl _, by unfold maxLen; omega, fun _ => ⟨w.heap.size, 0, rfl, fun j u hu => by rw [cell_of_row _ _ _ _ _ _ (heap_alloc_new w _)]; simpa [u8v] using hu⟩⟩, RowC.single ⟨_, _, rfl, ⟨A3, n3, c3, rfl, OwnB.sl o3, fun b hn e => ⟨h3 b hn e, Own.ownU o3 b hn e⟩⟩, ⟨A4, n4, c4, rfl, OwnB.sl o4, fun b hn e => ⟨h4 b hn e, Own.ownU o4 b hn e⟩⟩⟩⟩
set_option maxHeartbeats 8000000 in
theorem bcopy_any (w : World) (p : Nat → Prop) (A : Option Addr) (n c : Nat) (ls : List OpL) (h : SlR w p A n c ls) (hn : ls.length ≤ 1000) (hz : ∀ o ∈ ls, o.key.length ≤ 10000 ∧ o.value.length ≤ 10000) :
    Calls Try.prog 41 #[.slice A n c] w fun e w' => ∃ A' n' c', e = .returned (.slice A' n' c') ∧ OwnY w' w.heap.size 47 5 A' n' c' ls ∧ Below w.heap.size w w' := by
  have hcp := h.cap
  unfold maxLen at hcp
  have hl := h.lenR
  have Hl := Lib.hid hl
  have Hz := Lib.hid hz
  clear hl hz
  go_enter Try.func41, Try.ntmps41
  go_wp2
  go_loopw [3, 8] (fun s q wr => ∃ j : Nat, j ≤ n ∧ q = .int .i64 j ∧ Below w.heap.size w wr ∧ ∃ A2 n2 c2, s = .slice A2 n2 c2 ∧ OwnY wr w.heap.size 47 5 A2 n2 c2 (ls.take j)) (fun _ q _ => n - (intOf q).toNat)
  case atStart => exact ⟨0, Nat.zero_le _, rfl, Below.refl _ _, none, 0, 0, rfl, OwnY.nil _ _ _ _ _⟩
  case round =>
    obtain ⟨j, hj, rfl, hbr, A2, n2, c2, rfl, ho2⟩ := hrel
    by_cases hlt : j < n
    · obtain ⟨b, o, A3, n3, c3, A4, n4, c4, hjl, rfl, d0, d1, d2, hs3, hs4⟩ := h.opAt hlt
      have d0 := stays hbr d0
      have d1 := stays hbr d1
      have d2 := stays hbr d2
      have hst := List.take_succ_eq_append_getElem hjl
      have hzj := Hz.out _ (List.getElem_mem hjl)
      rw [hs3.lenb, hs4.lenb] at hzj
      have hn2 : n2 ≤ 1000 := by
        have h1 := ho2.lenR
        rw [List.length_take] at h1
        omega
      have co := fun (w' : World) (hb : Below w.heap.size w w') => one_any w' A3 n3 c3 A4 n4 c4 ls[j] (hs3.below (by omega) hb) (hs4.below (by omega) hb) hzj.1 hzj.2
      unfold GotOp at co
      have cw := fun w B X A3 n3 c3 A4 n4 c4 => opRowY w B X ls[j] A3 n3 c3 A4 n4 c4
      generalize hd : ls[j].kind.toNat = d at *
      have Hst := Lib.hid hst
      have Co := Lib.hid co
      have Cw := Lib.hid cw
      clear hst co cw hs3 hs4 hzj hd
      have al := (Below.refl wr.heap.size wr).alloc (Nat.le_refl _) (.cells #[.int .u8 (d : Int), .slice A3 n3 c3, .slice A4 n4 c4] 47)
      have hlt2 := ho2.lt
      have ho2 := ho2.below al
      have hbr2 := hbr.trans (al.mono hbr.size)
      go_wp2_with fail
      generalize (wr.alloc (.cells #[.int .u8 (d : Int), .slice A3 n3 c3, .slice A4 n4 c4] 47)) = wa at *
      have hza := al.size
      refine (Co.out _ hbr2).mono ?_
      rintro e w4 ⟨A5, n5, c5, A6, n6, c6, rfl, ho5, ho6, hb4⟩
      have ho2 := ho2.below hb4
      have q4 := hbr2.trans (hb4.mono hbr2.size)
      have hz2 := hbr2.size
      have hrow := Cw.out w4 w.heap.size (blk A2 c2) A5 n5 c5 A6 n6 c6 (Own.mono ho5 hz2) (Own.mono ho6 hz2) (fun b hn e q => by have := (Own.ownU ho5 b hn e).1; have := hlt2 b q; omega) (fun b hn e q => by have := (Own.ownU ho6 b hn e).1; have := hlt2 b q; omega)
      have al2 := (Below.refl w4.heap.size w4).alloc (Nat.le_refl _) (.cells #[.int .u8 (d : Int), .slice A5 n5 c5, .slice A6 n6 c6] 47)
      have ho2 := ho2.below al2
      have q5 := q4.trans (al2.mono q4.size)
      clear al al2 hb4 ho5 ho6 d0 d1 d2 hbr hbr2
      go_wp2_with (at_builtin; refine wpList_appY _ rfl (.tmp 12) (.tmp 15) 24 rfl w.heap.size 47 5 _ 56 Try.underlying24 infoOp rfl A2 n2 c2 (ls.take j) rfl ho2 _ 1 1 [ls[j]] rfl hrow ?_ ?_ ?_ ?_)
      · unfold maxLen; omega
      · omega
      · exact q5.size
      intro A7 c7 w7 ho7 hg7 _
      have q7 := q5.grown hg7 q5.size (fun b hb => (hlt2 b hb).1)
      go_wp2
      go_roundw
      case rel => exact ⟨j + 1, by omega, by go_num, q7, A7, _, c7, rfl, by first | exact ho7 | (rw [Hst.out]; exact ho7)⟩
      case measure => simp [intOf]; omega
    · obtain rfl : n = j := by omega
      rw [List.take_of_length_le (by have := Hl.out; omega)] at ho2
      go_wp2
      go_ret
      exact ⟨A2, n2, c2, rfl, ho2, hbr⟩
end Go.Proofs.Ytfonincdhjkacaa
