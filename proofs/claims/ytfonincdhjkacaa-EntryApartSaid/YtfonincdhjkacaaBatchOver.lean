/-
  batch.Over: the last op that is of a key. No condition but sizes.
-/
import Derived.Test.YtfonincdhjkacaaBatchCovers
import Derived.Test.YtfonincdhjkacaaBatchOne
import Derived.Test.YtfonincdhjkacaaOps
namespace Go.Proofs.Ytfonincdhjkacaa
open Go.RowKit
set_option maxRecDepth 20000
def noOp : OpL := ⟨0, [], []⟩
/-- an op that a call gives back, and whether there is one -/
def GotOver (w : World) (r : Option OpL) (e : Ending) (w' : World) : Prop :=
  ∃ A3 n3 c3 A4 n4 c4, e = .returned (.tuple #[.agg #[.int .u8 ((r.getD noOp).kind.toNat : Int), .slice A3 n3 c3, .slice A4 n4 c4], .bool r.isSome]) ∧ Sl w' 1 A3 n3 c3 (bc (r.getD noOp).key) ∧ Sl w' 1 A4 n4 c4 (bc (r.getD noOp).value) ∧ Below w.heap.size w w'
set_option maxHeartbeats 8000000 in
theorem over_any (w : World) (p : Nat → Prop) (A : Option Addr) (n c : Nat) (ls : List OpL) (h : SlR w p A n c ls) (hz : ∀ o ∈ ls, o.key.length ≤ 10000 ∧ o.value.length ≤ 10000) (B : Option Addr) (m d : Nat) (key : List UInt8) (hk : Sl w 1 B m d (bc key)) :
    Calls Try.prog 35 #[.slice A n c, .slice B m d] w (GotOver w (overL ls key)) := by
  have hcp := h.cap
  unfold maxLen at hcp
  have hl := h.lenR
  have Hl := Lib.hid hl
  have Hcp := Lib.hid hcp
  have Hz := Lib.hid hz
  clear hl hcp hz
  have al := (Below.refl w.heap.size w).alloc (Nat.le_refl _) (.cells #[.int .u8 0, .slice none 0 0, .slice none 0 0] 47)
  have kC := Bx.fresh w (.int .u8 0) (.slice none 0 0) (.slice none 0 0) 47
  have h1 := h.below al
  have hk1 := hk.below (by omega) al
  have ew : wrap64 ((n : Int) - 1) = (n : Int) - 1 := by have := Hcp.out; unfold wrap64; omega
  go_enter Try.func35, Try.ntmps35
  go_wp2
  try rw [ew]
  try simp only [ew]
  clear ew
  generalize (w.alloc (.cells #[.int .u8 0, .slice none 0 0, .slice none 0 0] 47)) = w1 at *
  go_loopw [5, 6] (fun s q wr => s = .bool false ∧ ∃ j : Nat, j ≤ n ∧ q = .int .i64 ((j : Int) - 1) ∧ Below w1.heap.size w1 wr ∧ Hid (overL ls key = overL (ls.take j) key)) (fun _ q _ => (intOf q + 1).toNat)
  case atStart => exact ⟨rfl, n, Nat.le_refl _, rfl, Below.refl _ _, Lib.hid (by rw [List.take_of_length_le (by have := Hl.out; omega)])⟩
  case round =>
    obtain ⟨rfl, j, hj, rfl, hbr, Hov⟩ := hrel
    have kC := kC.below hbr
    have q1 := al.trans (hbr.mono al.size)
    have h1z := kC.lt
    rcases j with _ | k
    · have hov : overL ls key = none := by rw [Hov.out]; rfl
      have Hov2 := Lib.hid hov
      rw [show ((0 : Nat) : Int) - 1 = -1 from rfl]
      obtain ⟨y0, y1, y2, y3⟩ := id kC
      obtain ⟨kD, hg⟩ := Bx.set (v0 := .int .u8 0) (v1 := .slice none 0 0) (v2 := .slice none 0 0) kC rfl
      clear hov hk1 h1 h hk
      go_wp2
      obtain ⟨z0, z1, z2, _⟩ := kD
      refine bodyPost_ret (v := .tuple #[.agg #[.int .u8 0, .slice none 0 0, .slice none 0 0], .bool false]) (by simp [results, Try.results35, go_sem, z0, z1, z2]) rfl ?_
      rw [Hov2.out]
      exact ⟨none, 0, 0, none, 0, 0, rfl, sl_none _, sl_none _, q1.grown hg q1.size (fun b hb => by simp at hb; omega)⟩
    · have hlt : k < n := by omega
      rw [show ((k + 1 : Nat) : Int) - 1 = (k : Int) by omega]
      have hk2 := hk1.below (by omega) hbr
      obtain ⟨b, o, A3, n3, c3, A4, n4, c4, hjl, rfl, d0, d1, d2, hs3, hs4⟩ := (h1.below hbr).opAt hlt
      have hov := over_snoc (ls.take k) ls[k] key
      rw [← List.take_succ_eq_append_getElem hjl, ← Hov.out] at hov
      have hzk := Hz.out _ (List.getElem_mem hjl)
      rw [hs3.lenb, hs4.lenb] at hzk
      have cv := covers_any wr A3 n3 c3 A4 n4 c4 ls[k] hs3 hs4 B m d key hk2
      have co := fun (w' : World) (hb : Below wr.heap.size wr w') => one_any w' A3 n3 c3 A4 n4 c4 ls[k] (hs3.below (by omega) hb) (hs4.below (by omega) hb) hzk.1 hzk.2
      unfold GotOp at co
      generalize hcv : coversL ls[k] key = v at *
      generalize hd : ls[k].kind.toNat = dd at *
      have Hov2 := Lib.hid hov
      have Hd := Lib.hid hd
      have Co := Lib.hid co
      have Cv := Lib.hid cv
      have Hjl := Lib.hid hjl
      clear hov hd co cv hs3 hs4 hk2 hzk hk1 hcv
      go_wp2_with fail
      refine Cv.out.mono ?_
      rintro e w3 ⟨rfl, hb3⟩
      have q3 := hbr.trans (hb3.mono hbr.size)
      cases v
      · have hov := Hov2.out
        simp only [Bool.false_eq_true, if_false] at hov
        have Hov3 := Lib.hid hov
        clear hov
        have ek : wrap64 ((k : Int) - 1) = (k : Int) - 1 := by have := Hcp.out; unfold wrap64; omega
        go_wp2
        go_roundw
        case rel => exact ⟨rfl, k, by omega, by first | rfl | (rw [ek]), q3, Hov3⟩
        case measure => simp [intOf]; omega
      · have hov := Hov2.out
        simp only [if_true] at hov
        have Hov3 := Lib.hid hov
        have d0 := stays hb3 d0
        have d1 := stays hb3 d1
        have d2 := stays hb3 d2
        have kC := kC.below hb3
        clear hov
        go_wp2_with fail
        refine (Co.out _ hb3).mono ?_
        rintro e w5 ⟨A5, n5, c5, A6, n6, c6, rfl, ho5, ho6, hb5⟩
        have q5 := q3.trans (hb5.mono q3.size)
        have q6 := al.trans (q5.mono al.size)
        have kC := kC.below hb5
        obtain ⟨y0, y1, y2, y3⟩ := id kC
        obtain ⟨kD, hg⟩ := Bx.set (v0 := .int .u8 (dd : Int)) (v1 := .slice A5 n5 c5) (v2 := .slice A6 n6 c6) kC rfl
        have hz3 := q3.size
        have hz1 := al.size
        have hgw : w.heap.size < w3.heap.size := by have := h1z; have := hb3.size; omega
        clear d0 d1 d2
        go_wp2
        obtain ⟨z0, z1, z2, _⟩ := kD
        refine bodyPost_ret (v := .tuple #[.agg #[.int .u8 (dd : Int), .slice A5 n5 c5, .slice A6 n6 c6], .bool true]) (by simp [results, Try.results35, go_sem, z0, z1, z2]) rfl ?_
        rw [Hov3.out]
        refine ⟨A5, n5, c5, A6, n6, c6, by rw [← Hd.out]; rfl, ?_, ?_, q6.grown hg q6.size (fun b hb => by simp at hb; omega)⟩
        · exact (Own.grown ho5 hg (fun b hb e => by have := (Own.lt ho5 b hb).1; simp at e; omega)).sl
        · exact (Own.grown ho6 hg (fun b hb e => by have := (Own.lt ho6 b hb).1; simp at e; omega)).sl
end Go.Proofs.Ytfonincdhjkacaa
