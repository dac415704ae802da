/-
  What batch.Check and the reference's answer of several ops. No condition.
-/
import Derived.Test.YtfonincdhjkacaaBatchWalk
namespace Go.Proofs.Ytfonincdhjkacaa
open Go.RowKit
set_option maxRecDepth 20000
set_option maxHeartbeats 4000000 in
theorem checkops_any (w : World) (p : Nat → Prop) (A : Option Addr) (n c : Nat) (ls : List OpL) (h : SlR w p A n c ls) :
    Calls Try.prog 33 #[.slice A n c] w fun e w' => e = .returned (.int .i64 (checkOpsL ls : Nat)) ∧ Below w.heap.size w w' := by
  have hl := h.lenR
  unfold checkOpsL
  rw [hl]
  rcases Nat.lt_or_ge 64 n with hn | hn
  · rw [if_pos hn]
    go_enter Try.func33, Try.ntmps33
    go_wp2
    go_ret
    exact ⟨rfl, Below.refl _ _⟩
  rw [if_neg (by omega)]
  obtain ⟨r, hr⟩ : ∃ r, firstErr checkOpL ls = r := ⟨_, rfl⟩
  rw [hr]
  have Hl := Lib.hid hl
  have Hr := Lib.hid hr
  clear hl hr
  go_enter Try.func33, Try.ntmps33
  go_wp2
  go_loopw [11] (fun q wr => ∃ j : Nat, j ≤ n ∧ q = .int .i64 j ∧ Below w.heap.size w wr ∧ Hid (firstErr checkOpL (ls.drop j) = r)) (fun q _ => n - (intOf q).toNat)
  case atStart => exact ⟨0, Nat.zero_le _, rfl, Below.refl _ _, Lib.hid Hr.out⟩
  case round =>
    obtain ⟨j, hj, rfl, hbr, He⟩ := hrel
    by_cases hlt : j < n
    · obtain ⟨b, o, x, cs, rfl, hx, ⟨v, v', rfl, hk, hv⟩, hcell⟩ := (h.below hbr).get hlt
      obtain ⟨A3, n3, c3, rfl, hs3, _⟩ := hk
      obtain ⟨A4, n4, c4, rfl, hs4, _⟩ := hv
      have d0 : wr.cell? ⟨b, o + j * 3, none⟩ = some (.int .u8 (x.kind.toNat : Int)) := hcell 0 _ rfl
      have d1 : wr.cell? ⟨b, o + j * 3 + 1, none⟩ = some (.slice A3 n3 c3) := hcell 1 _ rfl
      have d2 : wr.cell? ⟨b, o + j * 3 + 2, none⟩ = some (.slice A4 n4 c4) := hcell 2 _ rfl
      clear hcell
      have hxl := (List.getElem?_eq_some_iff.1 hx)
      obtain ⟨hjl, rfl⟩ := hxl
      have hst : firstErr checkOpL (ls.drop j) = if checkOpL ls[j] ≠ 0 then checkOpL ls[j] else firstErr checkOpL (ls.drop (j + 1)) := by
        rw [List.drop_eq_getElem_cons hjl]
        rfl
      rw [He.out] at hst
      have hck := fun (w' : World) (hb : Below wr.heap.size wr w') => checkop_any w' A3 n3 c3 A4 n4 c4 ls[j] (hs3.below (by omega) hb) (hs4.below (by omega) hb)
      generalize checkOpL ls[j] = e at *
      generalize ls[j].kind.toNat = d at *
      have Hst := Lib.hid hst
      have Hck := Lib.hid hck
      clear hst hck hs3 hs4 hx
      go_wp2_with fail
      have hal := (Below.refl wr.heap.size wr).alloc (Nat.le_refl _) (.cells #[.int .u8 (d : Int), .slice A3 n3 c3, .slice A4 n4 c4] 47)
      refine (Hck.out _ hal).mono ?_
      rintro e' w3 ⟨rfl, hb3⟩
      have hb4 := hbr.trans ((hal.trans (hb3.mono hal.size)).mono hbr.size)
      clear hal hb3 Hck d0 d1 d2 h
      rcases Nat.eq_zero_or_pos e with rfl | he
      · go_wp2
        go_roundw
        case rel => exact ⟨j + 1, by omega, by go_num, hb4, Lib.hid (by rw [Hst.out]; simp)⟩
        case measure => simp [intOf]; omega
      · have er : r = e := by rw [Hst.out, if_pos (by omega)]
        subst er
        have t1 : ((r : Int) == 0) = false := by simp; omega
        go_wp2
        go_ret
        exact ⟨rfl, hb4⟩
    · obtain rfl : n = j := by omega
      have e := He.out
      rw [List.drop_of_length_le (by have := Hl.out; omega)] at e
      obtain rfl : 0 = r := e
      go_wp2
      go_ret
      exact ⟨rfl, hbr⟩
set_option maxHeartbeats 4000000 in
theorem rcheckops_any (w : World) (p : Nat → Prop) (A : Option Addr) (n c : Nat) (ls : List OpL) (h : SlR w p A n c ls) :
    Calls Try.prog 34 #[.slice A n c] w fun e w' => e = .returned (.int .i64 (checkOpsL ls : Nat)) ∧ Below w.heap.size w w' := by
  have hl := h.lenR
  unfold checkOpsL
  rw [hl]
  rcases Nat.lt_or_ge 64 n with hn | hn
  · rw [if_pos hn]
    go_enter Try.func34, Try.ntmps34
    go_wp2
    go_ret
    exact ⟨rfl, Below.refl _ _⟩
  rw [if_neg (by omega)]
  obtain ⟨r, hr⟩ : ∃ r, firstErr checkOpL ls = r := ⟨_, rfl⟩
  rw [hr]
  have Hl := Lib.hid hl
  have Hr := Lib.hid hr
  clear hl hr
  go_enter Try.func34, Try.ntmps34
  go_wp2
  go_loopw [11] (fun q wr => ∃ j : Nat, j ≤ n ∧ q = .int .i64 j ∧ Below w.heap.size w wr ∧ Hid (firstErr checkOpL (ls.drop j) = r)) (fun q _ => n - (intOf q).toNat)
  case atStart => exact ⟨0, Nat.zero_le _, rfl, Below.refl _ _, Lib.hid Hr.out⟩
  case round =>
    obtain ⟨j, hj, rfl, hbr, He⟩ := hrel
    by_cases hlt : j < n
    · obtain ⟨b, o, x, cs, rfl, hx, ⟨v, v', rfl, hk, hv⟩, hcell⟩ := (h.below hbr).get hlt
      obtain ⟨A3, n3, c3, rfl, hs3, _⟩ := hk
      obtain ⟨A4, n4, c4, rfl, hs4, _⟩ := hv
      have d0 : wr.cell? ⟨b, o + j * 3, none⟩ = some (.int .u8 (x.kind.toNat : Int)) := hcell 0 _ rfl
      have d1 : wr.cell? ⟨b, o + j * 3 + 1, none⟩ = some (.slice A3 n3 c3) := hcell 1 _ rfl
      have d2 : wr.cell? ⟨b, o + j * 3 + 2, none⟩ = some (.slice A4 n4 c4) := hcell 2 _ rfl
      clear hcell
      have hxl := (List.getElem?_eq_some_iff.1 hx)
      obtain ⟨hjl, rfl⟩ := hxl
      have hst : firstErr checkOpL (ls.drop j) = if checkOpL ls[j] ≠ 0 then checkOpL ls[j] else firstErr checkOpL (ls.drop (j + 1)) := by
        rw [List.drop_eq_getElem_cons hjl]
        rfl
      rw [He.out] at hst
      have hck := fun (w' : World) (hb : Below wr.heap.size wr w') => rcheckop_any w' A3 n3 c3 A4 n4 c4 ls[j] (hs3.below (by omega) hb) (hs4.below (by omega) hb)
      generalize checkOpL ls[j] = e at *
      generalize ls[j].kind.toNat = d at *
      have Hst := Lib.hid hst
      have Hck := Lib.hid hck
      clear hst hck hs3 hs4 hx
      go_wp2_with fail
      have hal := (Below.refl wr.heap.size wr).alloc (Nat.le_refl _) (.cells #[.int .u8 (d : Int), .slice A3 n3 c3, .slice A4 n4 c4] 47)
      refine (Hck.out _ hal).mono ?_
      rintro e' w3 ⟨rfl, hb3⟩
      have hb4 := hbr.trans ((hal.trans (hb3.mono hal.size)).mono hbr.size)
      clear hal hb3 Hck d0 d1 d2 h
      rcases Nat.eq_zero_or_pos e with rfl | he
      · go_wp2
        go_roundw
        case rel => exact ⟨j + 1, by omega, by go_num, hb4, Lib.hid (by rw [Hst.out]; simp)⟩
        case measure => simp [intOf]; omega
      · have er : r = e := by rw [Hst.out, if_pos (by omega)]
        subst er
        have t1 : ((r : Int) == 0) = false := by simp; omega
        go_wp2
        go_ret
        exact ⟨rfl, hb4⟩
    · obtain rfl : n = j := by omega
      have e := He.out
      rw [List.drop_of_length_le (by have := Hl.out; omega)] at e
      obtain rfl : 0 = r := e
      go_wp2
      go_ret
      exact ⟨rfl, hbr⟩
end Go.Proofs.Ytfonincdhjkacaa
