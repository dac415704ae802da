/-
  BatchCheck, BatchOne, BatchReadP, SealLaws2, ReelSpoil in one text. No condition but sizes.
-/
import Derived.Test.YtpjinmiedanebaaDoorBatchWalk
import Derived.Test.YtpjinmiedanebaaDoorBatchFew
import Derived.Test.YtpjinmiedanebaaDoorBatchReadW
import Derived.Test.YtpjinmiedanebaaDoorJFrame
import Derived.Test.YtpjinmiedanebaaDoorJFrameN
import Derived.Test.YtpjinmiedanebaaDoorJFrameR
namespace Go.Proofs.YtpjinmiedanebaaDoor
open Go.RowKit
set_option maxRecDepth 20000
set_option maxHeartbeats 4000000 in
theorem checkops_any (w : World) (p : Nat → Prop) (A : Option Addr) (n c : Nat) (ls : List OpL) (h : SlR w p A n c ls) :
    Calls Tryd.prog 54 #[.slice A n c] w fun e w' => e = .returned (.int .i64 (checkOpsL ls : Nat)) ∧ Below w.heap.size w w' := by
  have hl := h.lenR
  unfold checkOpsL
  rw [hl]
  rcases Nat.lt_or_ge 64 n with hn | hn
  · rw [if_pos hn]
    go_enter Tryd.func54, Tryd.ntmps54
    go_wp2
    go_ret
    exact ⟨rfl, Below.refl _ _⟩
  rw [if_neg (by omega)]
  obtain ⟨r, hr⟩ : ∃ r, firstErr checkOpL ls = r := ⟨_, rfl⟩
  rw [hr]
  have Hl := Lib.hid hl
  have Hr := Lib.hid hr
  clear hl hr
  go_enter Tryd.func54, Tryd.ntmps54
  go_wp2
  go_loopw [11] (fun q wr => ∃ j : Nat, j ≤ n ∧ q = .int .i64 j ∧ Below w.heap.size w wr ∧ Hid (firstErr checkOpL (ls.drop j) = r)) (fun q _ => n - (intOf q).toNat)
  case atStart => exact ⟨0, Nat.zero_le _, rfl, Below.refl _ _, Lib.hid Hr.out⟩
  case round =>
    obtain ⟨j, hj, rfl, hbr, He⟩ := hrel
    by_cases hlt : j < n
    · obtain ⟨b, o, x, cs, rfl, hx, ⟨v, v', rfl, hk, hv⟩, hcell⟩ := (h.below hbr).get hlt
      obtain ⟨A3, n3, c3, rfl, hs3, _⟩ := hk
      obtain ⟨A4, n4, c4, rfl, hs4, _⟩ := hv
      have d0 : wr.cell? ⟨b, o + j * 3, none⟩ = some (.int .u8 (x.kind.toNat : Int)) := hcell 0 _ rfl
      have d1 : wr.cell? ⟨b, o + j * 3 + 1, none⟩ = some (.slice A3 n3 c3) := hcell 1 _ rfl
      have d2 : wr.cell? ⟨b, o + j * 3 + 2, none⟩ = some (.slice A4 n4 c4) := hcell 2 _ rfl
      clear hcell
      have hxl := (List.getElem?_eq_some_iff.1 hx)
      obtain ⟨hjl, rfl⟩ := hxl
      have hst : firstErr checkOpL (ls.drop j) = if checkOpL ls[j] ≠ 0 then checkOpL ls[j] else firstErr checkOpL (ls.drop (j + 1)) := by
        rw [List.drop_eq_getElem_cons hjl]
        rfl
      rw [He.out] at hst
      have hck := fun (w' : World) (hb : Below wr.heap.size wr w') => checkop_any w' A3 n3 c3 A4 n4 c4 ls[j] (hs3.below (by omega) hb) (hs4.below (by omega) hb)
      generalize checkOpL ls[j] = e at *
      generalize ls[j].kind.toNat = d at *
      have Hst := Lib.hid hst
      have Hck := Lib.hid hck
      clear hst hck hs3 hs4 hx
      go_wp2_with fail
      have hal := (Below.refl wr.heap.size wr).alloc (Nat.le_refl _) (.cells #[.int .u8 (d : Int), .slice A3 n3 c3, .slice A4 n4 c4] 88)
      refine (Hck.out _ hal).mono ?_
      rintro e' w3 ⟨rfl, hb3⟩
      have hb4 := hbr.trans ((hal.trans (hb3.mono hal.size)).mono hbr.size)
      clear hal hb3 Hck d0 d1 d2 h
      rcases Nat.eq_zero_or_pos e with rfl | he
      · go_wp2
        go_roundw
        case rel => exact ⟨j + 1, by omega, by go_num, hb4, Lib.hid (by rw [Hst.out]; simp)⟩
        case measure => simp [intOf]; omega
      · have er : r = e := by rw [Hst.out, if_pos (by omega)]
        subst er
        have t1 : ((r : Int) == 0) = false := by simp; omega
        go_wp2
        go_ret
        exact ⟨rfl, hb4⟩
    · obtain rfl : n = j := by omega
      have e := He.out
      rw [List.drop_of_length_le (by have := Hl.out; omega)] at e
      obtain rfl : 0 = r := e
      go_wp2
      go_ret
      exact ⟨rfl, hbr⟩
set_option maxHeartbeats 4000000 in
theorem rcheckops_any (w : World) (p : Nat → Prop) (A : Option Addr) (n c : Nat) (ls : List OpL) (h : SlR w p A n c ls) :
    Calls Tryd.prog 48 #[.slice A n c] w fun e w' => e = .returned (.int .i64 (checkOpsL ls : Nat)) ∧ Below w.heap.size w w' := by
  have hl := h.lenR
  unfold checkOpsL
  rw [hl]
  rcases Nat.lt_or_ge 64 n with hn | hn
  · rw [if_pos hn]
    go_enter Tryd.func48, Tryd.ntmps48
    go_wp2
    go_ret
    exact ⟨rfl, Below.refl _ _⟩
  rw [if_neg (by omega)]
  obtain ⟨r, hr⟩ : ∃ r, firstErr checkOpL ls = r := ⟨_, rfl⟩
  rw [hr]
  have Hl := Lib.hid hl
  have Hr := Lib.hid hr
  clear hl hr
  go_enter Tryd.func48, Tryd.ntmps48
  go_wp2
  go_loopw [11] (fun q wr => ∃ j : Nat, j ≤ n ∧ q = .int .i64 j ∧ Below w.heap.size w wr ∧ Hid (firstErr checkOpL (ls.drop j) = r)) (fun q _ => n - (intOf q).toNat)
  case atStart => exact ⟨0, Nat.zero_le _, rfl, Below.refl _ _, Lib.hid Hr.out⟩
  case round =>
    obtain ⟨j, hj, rfl, hbr, He⟩ := hrel
    by_cases hlt : j < n
    · obtain ⟨b, o, x, cs, rfl, hx, ⟨v, v', rfl, hk, hv⟩, hcell⟩ := (h.below hbr).get hlt
      obtain ⟨A3, n3, c3, rfl, hs3, _⟩ := hk
      obtain ⟨A4, n4, c4, rfl, hs4, _⟩ := hv
      have d0 : wr.cell? ⟨b, o + j * 3, none⟩ = some (.int .u8 (x.kind.toNat : Int)) := hcell 0 _ rfl
      have d1 : wr.cell? ⟨b, o + j * 3 + 1, none⟩ = some (.slice A3 n3 c3) := hcell 1 _ rfl
      have d2 : wr.cell? ⟨b, o + j * 3 + 2, none⟩ = some (.slice A4 n4 c4) := hcell 2 _ rfl
      clear hcell
      have hxl := (List.getElem?_eq_some_iff.1 hx)
      obtain ⟨hjl, rfl⟩ := hxl
      have hst : firstErr checkOpL (ls.drop j) = if checkOpL ls[j] ≠ 0 then checkOpL ls[j] else firstErr checkOpL (ls.drop (j + 1)) := by
        rw [List.drop_eq_getElem_cons hjl]
        rfl
      rw [He.out] at hst
      have hck := fun (w' : World) (hb : Below wr.heap.size wr w') => rcheckop_any w' A3 n3 c3 A4 n4 c4 ls[j] (hs3.below (by omega) hb) (hs4.below (by omega) hb)
      generalize checkOpL ls[j] = e at *
      generalize ls[j].kind.toNat = d at *
      have Hst := Lib.hid hst
      have Hck := Lib.hid hck
      clear hst hck hs3 hs4 hx
      go_wp2_with fail
      have hal := (Below.refl wr.heap.size wr).alloc (Nat.le_refl _) (.cells #[.int .u8 (d : Int), .slice A3 n3 c3, .slice A4 n4 c4] 88)
      refine (Hck.out _ hal).mono ?_
      rintro e' w3 ⟨rfl, hb3⟩
      have hb4 := hbr.trans ((hal.trans (hb3.mono hal.size)).mono hbr.size)
      clear hal hb3 Hck d0 d1 d2 h
      rcases Nat.eq_zero_or_pos e with rfl | he
      · go_wp2
        go_roundw
        case rel => exact ⟨j + 1, by omega, by go_num, hb4, Lib.hid (by rw [Hst.out]; simp)⟩
        case measure => simp [intOf]; omega
      · have er : r = e := by rw [Hst.out, if_pos (by omega)]
        subst er
        have t1 : ((r : Int) == 0) = false := by simp; omega
        go_wp2
        go_ret
        exact ⟨rfl, hb4⟩
    · obtain rfl : n = j := by omega
      have e := He.out
      rw [List.drop_of_length_le (by have := Hl.out; omega)] at e
      obtain rfl : 0 = r := e
      go_wp2
      go_ret
      exact ⟨rfl, hbr⟩
end Go.Proofs.YtpjinmiedanebaaDoor

namespace Go.Proofs.YtpjinmiedanebaaDoor
open Go.RowKit
set_option maxRecDepth 20000
/-- an op whose bytes are the call's own -/
def GotOp (w : World) (x : OpL) (e : Ending) (w' : World) : Prop :=
  ∃ A3 n3 c3 A4 n4 c4, e = .returned (.agg #[.int .u8 (x.kind.toNat : Int), .slice A3 n3 c3, .slice A4 n4 c4]) ∧ OwnB w' w.heap.size A3 n3 c3 x.key ∧ OwnB w' w.heap.size A4 n4 c4 x.value ∧ Below w.heap.size w w'
end Go.Proofs.YtpjinmiedanebaaDoor

namespace Go.Proofs.YtpjinmiedanebaaDoor
open Go.RowKit
set_option maxRecDepth 20000
def contN (outs : List OpL) (o : Option (List OpL × List UInt8)) : Option (List OpL × List UInt8) := o.map fun x => (outs ++ x.1, x.2)
theorem readN_step (kk km n : Nat) (p : List UInt8) : readNL kk km (n + 1) p = if okOpL kk km p = true then contN [(rawOpL km p).1] (readNL kk km n (rawOpL km p).2) else none := by
  simp only [readNL, readOp_raw]
  split
  · rename_i h
    split at h
    · cases h
    · rename_i h1
      rw [if_neg h1]
  · rename_i o q h
    split at h
    · rename_i h1
      rw [if_pos h1]
      obtain ⟨rfl, rfl⟩ : (rawOpL km p).1 = o ∧ (rawOpL km p).2 = q := by
        have := Option.some.inj h
        rw [this]
        exact ⟨rfl, rfl⟩
      unfold contN
      split
      · rename_i h2
        rw [h2]
        rfl
      · rename_i h2
        rw [h2]
        rfl
    · cases h
theorem contN_cont (a b : List OpL) (o : Option (List OpL × List UInt8)) : contN a (contN b o) = contN (a ++ b) o := by
  cases o with
  | none => rfl
  | some x => simp [contN]
theorem contN_nil (o : Option (List OpL × List UInt8)) : contN [] o = o := by
  cases o with
  | none => rfl
  | some x => rfl
/-- ops and an error's number that a call gives back -/
def GotOps (w : World) (r : Option (List OpL)) (e : Ending) (w' : World) : Prop :=
  ∃ A n c, e = .returned (.tuple #[.slice A n c, .int .i64 ((if r.isSome then 0 else 4 : Nat) : Int)]) ∧ SlR w' (fun _ => True) A n c (r.getD []) ∧ Below w.heap.size w w'
/-- .. they lie in new memory -/
def GotOpsN (w : World) (r : Option (List OpL)) (e : Ending) (w' : World) : Prop :=
  ∃ A n c, e = .returned (.tuple #[.slice A n c, .int .i64 ((if r.isSome then 0 else 4 : Nat) : Int)]) ∧ SlR w' (fun b => w.heap.size ≤ b) A n c (r.getD []) ∧ Below w.heap.size w w'
theorem GotOpsN.got {w w' : World} {r : Option (List OpL)} {e : Ending} (h : GotOpsN w r e w') : GotOps w r e w' := by
  obtain ⟨A, n, c, h1, h2, h3⟩ := h
  exact ⟨A, n, c, h1, h2.mono fun _ _ _ => trivial, h3⟩
theorem raw_len (km : Nat) (p : List UInt8) : (rawOpL km p).2.length ≤ p.length := by
  unfold rawOpL
  have h1 := takeL_len p
  have h2 := takeText_len (takeL p).2.1 km
  have h3 := takeText_len (takeTextL (takeL p).2.1 km).2.1 512
  simp only
  omega
/-- a row of one op, laid new, whose bytes lie apart from block X -/
theorem opRow (w : World) (q : Nat → Prop) (x : OpL) (A3 : Option Addr) (n3 c3 : Nat) (A4 : Option Addr) (n4 c4 : Nat) (s3 : Sl w 1 A3 n3 c3 (bc x.key)) (s4 : Sl w 1 A4 n4 c4 (bc x.value))
    (h3 : ∀ b, 0 < n3 → A3.map (·.block) = some b → q b) (h4 : ∀ b, 0 < n4 → A4.map (·.block) = some b → q b) :
    ∃ xs, Sl (w.alloc (.cells #[.int .u8 (x.kind.toNat : Int), .slice A3 n3 c3, .slice A4 n4 c4] 88)) 3 (some ⟨w.heap.size, 0, none⟩) 1 1 xs ∧ RowC (w.alloc (.cells #[.int .u8 (x.kind.toNat : Int), .slice A3 n3 c3, .slice A4 n4 c4] 88)) q xs [x] := by
  have al := (Below.refl w.heap.size w).alloc (Nat.le_refl _) (.cells #[.int .u8 (x.kind.toNat : Int), .slice A3 n3 c3, .slice A4 n4 c4] 88)
  exact ⟨_, ⟨rfl, Nat.le_refl _, by unfold maxLen; omega, fun _ => ⟨w.heap.size, 0, rfl, fun j u hu => by rw [cell_of_row _ _ _ _ _ _ (heap_alloc_new w _)]; simpa [u8v] using hu⟩⟩, RowC.single ⟨_, _, rfl, ⟨A3, n3, c3, rfl, s3.below (by omega) al, h3⟩, ⟨A4, n4, c4, rfl, s4.below (by omega) al, h4⟩⟩⟩
def GoX (w : World) (x : OpL) : Prop := ∀ (A3 : Option Addr) (n3 c3 : Nat) (A4 : Option Addr) (n4 c4 : Nat) (q : Nat → Prop), Sl w 1 A3 n3 c3 (bc x.key) → Sl w 1 A4 n4 c4 (bc x.value) →
    (∀ b, 0 < n3 → A3.map (·.block) = some b → q b) → (∀ b, 0 < n4 → A4.map (·.block) = some b → q b) →
    ∃ xs, Sl (w.alloc (.cells #[.int .u8 (x.kind.toNat : Int), .slice A3 n3 c3, .slice A4 n4 c4] 88)) 3 (some ⟨w.heap.size, 0, none⟩) 1 1 xs ∧ RowC (w.alloc (.cells #[.int .u8 (x.kind.toNat : Int), .slice A3 n3 c3, .slice A4 n4 c4] 88)) q xs [x]
end Go.Proofs.YtpjinmiedanebaaDoor

namespace Go.Proofs.YtpjinmiedanebaaDoor
set_option maxRecDepth 20000
open Go.RowKit

theorem unmask_mask2 (x : Nat) (h : x < 4294967296) : unmaskL (maskL x) = x := by
  have h1 : (maskL x + 1568478504) % 4294967296 = x / 32768 + x % 32768 * 131072 := by unfold maskL; omega
  unfold unmaskL
  rw [h1]
  omega
theorem mask_inj {x y : Nat} (hx : x < 4294967296) (hy : y < 4294967296) (h : maskL x = maskL y) : x = y := by
  rw [← unmask_mask2 x hx, h, unmask_mask2 y hy]
theorem le4_inj {x y : Nat} (hx : x < 4294967296) (hy : y < 4294967296) (h : le4 x = le4 y) : x = y := by
  simp only [le4, List.cons.injEq, and_true] at h
  obtain ⟨h1, h2, h3, h4⟩ := h
  have e : ∀ a b : Nat, UInt8.ofNat a = UInt8.ofNat b → a % 256 = b % 256 := fun a b h => by
    have := congrArg UInt8.toNat h
    simpa using this
  have := e _ _ h1
  have := e _ _ h2
  have := e _ _ h3
  have := e _ _ h4
  omega
/-- A SEAL OF WHICH ONE BYTE IS ANOTHER ONE IS NONE -/
theorem open_spoilt (t : List UInt8) (k : Nat) (y : UInt8) (hk : k < (closeL t).length) (hy : y ≠ (closeL t)[k]) : openL ((closeL t).set k y) = ([], 5) := by
  have hN := length_closeL t
  have hne : ¬ closeL (((closeL t).set k y).take (((closeL t).set k y).length - 4)) = (closeL t).set k y := by
    rw [List.length_set, hN, Nat.add_sub_cancel]
    rcases Nat.lt_or_ge k t.length with h | h
    · have e1 : (closeL t).set k y = t.set k y ++ le4 (maskL (sumL t)) := by
        unfold closeL
        rw [List.set_append_left _ _ h]
      rw [e1, List.take_left' (by simp)]
      unfold closeL
      intro e
      have e2 := le4_inj (maskL_lt _) (maskL_lt _) (List.append_cancel_left e)
      have e3 := mask_inj (sumL_lt _) (sumL_lt _) e2
      refine sum_byte t k y h ?_ e3
      have : (closeL t)[k] = t[k] := by
        have h2 : (closeL t)[k]? = t[k]? := by
          unfold closeL
          exact List.getElem?_append_left h
        rw [List.getElem?_eq_getElem hk, List.getElem?_eq_getElem h] at h2
        exact Option.some.inj h2
      rw [← this]
      exact hy
    · have e1 : ((closeL t).set k y).take t.length = t := by
        rw [List.take_set_of_le h]
        unfold closeL
        exact List.take_left
      rw [e1]
      intro e
      have e2 : ((closeL t).set k y)[k]? = some (closeL t)[k] := by rw [← e]; exact List.getElem?_eq_getElem hk
      rw [List.getElem?_set] at e2
      simp [hk] at e2
      exact hy e2
  unfold openL
  rw [if_neg (by rw [List.length_set]; omega), if_neg (by simpa using hne)]

end Go.Proofs.YtpjinmiedanebaaDoor

namespace Go.Proofs.YtpjinmiedanebaaDoor
set_option maxRecDepth 20000

/-- from a on no piece's length stands at k -/
inductive Free (P : List UInt8) (k : Nat) : Nat → Prop
  | done (a : Nat) : P.length ≤ a → Free P k a
  | go (a kd : Nat) (x : List UInt8) (e : Nat) : PieceAt P (a + padN a) kd x e → k ≠ a + padN a + 4 → k ≠ a + padN a + 5 → Free P k e → Free P k a
theorem drop_set_at (P : List UInt8) (k a : Nat) (x : UInt8) (h : a ≤ k) : (P.set k x).drop a = (P.drop a).set (k - a) x := by
  rw [List.drop_set, if_neg (by omega)]
/-- no piece stands where one stood of which a byte is another one, but for the two that tell its length -/
theorem piece_spoilt {P : List UInt8} {k a kd kd' e e' : Nat} {x : UInt8} {b b' : List UInt8} (hk : k < P.length) (hx : x ≠ P[k]) (h : PieceAt P a kd b e) (h' : PieceAt (P.set k x) a kd' b' e') (h1 : a ≤ k) (h2 : k < e) (h4 : k ≠ a + 4) (h5 : k ≠ a + 5) : False := by
  obtain ⟨p1, p2, p3, p4, t, ht⟩ := h
  obtain ⟨q1, q2, q3, q4, u, hu⟩ := h'
  rw [drop_set_at P k a x h1, ← ht] at hu
  have hj : k - a < (pieceL kd b).length := by simp; omega
  rw [List.set_append_left _ _ hj] at hu
  have hC : (pieceL kd b)[k - a] ≠ x := by
    intro e
    apply hx
    have g : (P.drop a)[k - a]? = some x := by rw [← ht, List.getElem?_append_left hj, List.getElem?_eq_getElem hj, e]
    rw [List.getElem?_drop, show a + (k - a) = k by omega, List.getElem?_eq_getElem hk] at g
    exact (Option.some.inj g).symm
  obtain ⟨j, hjk⟩ : ∃ j, k - a = j := ⟨_, rfl⟩
  have j4 : j ≠ 4 := by omega
  have j5 : j ≠ 5 := by omega
  simp only [hjk] at hu hj hC
  have g4 := congrArg (fun l : List UInt8 => l[4]?) hu
  have g5 := congrArg (fun l : List UInt8 => l[5]?) hu
  simp only [List.getElem?_append_left (show 4 < (pieceL kd' b').length by simp; omega), List.getElem?_append_left (show 5 < (pieceL kd' b').length by simp; omega), List.getElem?_append_left (show 4 < ((pieceL kd b).set j x).length by simp; omega), List.getElem?_append_left (show 5 < ((pieceL kd b).set j x).length by simp; omega), List.getElem?_set_ne j4, List.getElem?_set_ne j5, pieceL_get _ _ 4 (by omega), pieceL_get _ _ 5 (by omega), headL_get4, headL_get5, Option.some.injEq] at g4 g5
  have m4 := ofNat_mod g4
  have m5 := ofNat_mod g5
  have hl : b'.length = b.length := by omega
  obtain ⟨hc, -⟩ := List.append_inj hu (by simp [hl])
  have d6 : ∀ (z : Nat) (l : List UInt8), (pieceL z l).drop 6 = UInt8.ofNat z :: l := fun _ _ => rfl
  have t4 : ∀ (z : Nat) (l : List UInt8), (pieceL z l).take 4 = le4 (maskL (sumL (UInt8.ofNat z :: l))) := fun _ _ => rfl
  have e6 := congrArg (List.drop 6) hc
  have e4 := congrArg (List.take 4) hc
  by_cases hj6 : j < 6
  · rw [d6, List.drop_set, if_pos hj6, d6] at e6
    injection e6 with ek eb
    have ekm := ofNat_mod ek
    obtain rfl : kd' = kd := by omega
    subst eb
    have := congrArg (fun l : List UInt8 => l[j]?) hc
    rw [List.getElem?_set_self hj, List.getElem?_eq_getElem hj] at this
    exact hC (Option.some.inj this)
  · rw [d6, List.drop_set, if_neg hj6, d6] at e6
    rw [t4, List.take_set, List.set_eq_of_length_le (by simp; omega), t4] at e4
    have e7 := mask_inj (sumL_lt _) (sumL_lt _) (le4_inj (maskL_lt _) (maskL_lt _) e4)
    rw [e6] at e7
    have hj2 : j < 7 + b.length := by simpa using hj
    refine sum_byte (UInt8.ofNat kd :: b) (j - 6) x (by simp; omega) (fun e => hC ?_) e7
    have g : ((pieceL kd b).drop 6)[j - 6]? = some x := by rw [d6, List.getElem?_eq_getElem (by simp; omega), e]
    rw [List.getElem?_drop, show 6 + (j - 6) = j by omega, List.getElem?_eq_getElem hj] at g
    exact Option.some.inj g
/-- no frame stands where one stood -/
theorem frame_spoilt {P : List UInt8} {k : Nat} {x : UInt8} (hk : k < P.length) (hx : x ≠ P[k]) (a : Nat) (b : Bool) (p q : List UInt8) (ha : a ≤ k) (hp : frameL a b p <+: P.drop a) (hq : frameL a b q <+: (P.set k x).drop a) (hf : Free P k a) (h2 : k < a + (frameL a b p).length) : False := by
  obtain ⟨f1, f2⟩ := frame_piece hp
  obtain ⟨g1, g2⟩ := frame_piece hq
  by_cases hpad : k < a + padN a
  · obtain ⟨t, ht⟩ := hp
    obtain ⟨u, hu⟩ := hq
    rw [frameL_eq, List.append_assoc] at ht hu
    rw [drop_set_at P k a x ha] at hu
    have hlen : k - a < (P.drop a).length := by simp; omega
    have c1 := congrArg (fun l : List UInt8 => l[k - a]?) ht
    have c2 := congrArg (fun l : List UInt8 => l[k - a]?) hu
    simp only [List.getElem?_append_left (show k - a < (List.replicate (padN a) (0 : UInt8)).length by simp; omega), List.getElem?_set_self hlen, List.getElem?_replicate, if_pos (show k - a < padN a by omega), List.getElem?_drop, show a + (k - a) = k by omega, List.getElem?_eq_getElem hk, Option.some.injEq] at c1 c2
    exact hx (by rw [← c1, ← c2])
  · cases hf with
    | done _ h =>
      have := f1.le
      omega
    | go _ kd y e hpc n4 n5 hfe =>
      obtain ⟨rfl, rfl, rfl⟩ := hpc.one f1
      by_cases hin : k < a + padN a + 7 + (p.take (roomN a)).length
      · exact piece_spoilt hk hx f1 g1 (by omega) hin n4 n5
      · -- the piece is as it was
        obtain ⟨r1, r2, r3, r4, t, ht⟩ := f1
        obtain ⟨s1, s2, s3, s4, u, hu⟩ := g1
        rw [drop_set_at P k _ x (by omega), ← ht, List.set_append_right _ _ (by rw [pieceL_length]; omega)] at hu
        obtain ⟨e1, e2, e3⟩ := pieceL_inj (kindN_lt _ _) (kindN_lt _ _) (by have := take_room_lt a q; omega) (by have := take_room_lt a p; omega) hu
        have e4 := kindN_inj e1
        cases he : endsAt a p with
        | true =>
          have hr : p.length ≤ roomN a := by simpa [endsAt] using he
          rw [frameL_end a b p hr] at h2
          rw [List.take_of_length_le hr] at hin
          simp at h2
          omega
        | false =>
          have hr : ¬ p.length ≤ roomN a := by simpa [endsAt] using he
          have hl : (p.take (roomN a)).length = roomN a := by simp; omega
          rw [hl] at hin hfe
          rw [frameL_go a b p hr] at h2
          have h2' : k < a + padN a + 7 + roomN a + (frameL (a + padN a + 7 + roomN a) false (p.drop (roomN a))).length := by simp [hl] at h2; omega
          exact frame_spoilt hk hx (a + padN a + 7 + roomN a) false (p.drop (roomN a)) (q.drop (roomN a)) (by omega) (f2 he) (g2 (e4.trans he)) hfe h2'
termination_by 2 * p.length + (if roomN a = 0 then 1 else 0)
decreasing_by
  rw [List.length_drop]
  by_cases h0 : roomN a = 0
  · have := room_next a h0
    rw [h0, this]
    simp
  · rw [if_neg h0]
    split <;> omega
/-- behind a whole frame they are free as they were ahead of it -/
theorem free_frame {P : List UInt8} {k : Nat} (a : Nat) (b : Bool) (p : List UInt8) (hp : frameL a b p <+: P.drop a) (hf : Free P k a) : Free P k (a + (frameL a b p).length) := by
  obtain ⟨f1, f2⟩ := frame_piece hp
  cases hf with
  | done _ h =>
    have := f1.le
    exact .done _ (by omega)
  | go _ kd y e hpc n4 n5 hfe =>
    obtain ⟨rfl, rfl, rfl⟩ := hpc.one f1
    cases he : endsAt a p with
    | true =>
      have hr : p.length ≤ roomN a := by simpa [endsAt] using he
      rw [List.take_of_length_le hr] at hfe
      rw [frameL_end a b p hr]
      have e : a + (List.replicate (padN a) 0 ++ pieceL (kindN b true) p).length = a + padN a + 7 + p.length := by simp; omega
      rwa [e]
    | false =>
      have hr : ¬ p.length ≤ roomN a := by simpa [endsAt] using he
      have hl : (p.take (roomN a)).length = roomN a := by simp; omega
      rw [hl] at hfe
      have ih := free_frame (a + padN a + 7 + roomN a) false (p.drop (roomN a)) (f2 he) hfe
      rw [frameL_go a b p hr]
      have e : a + (List.replicate (padN a) 0 ++ pieceL (kindN b false) (p.take (roomN a)) ++ frameL (a + padN a + 7 + roomN a) false (p.drop (roomN a))).length = a + padN a + 7 + roomN a + (frameL (a + padN a + 7 + roomN a) false (p.drop (roomN a))).length := by simp [hl]; omega
      rwa [e]
termination_by 2 * p.length + (if roomN a = 0 then 1 else 0)
decreasing_by
  rw [List.length_drop]
  by_cases h0 : roomN a = 0
  · have := room_next a h0
    rw [h0, this]
    simp
  · rw [if_neg h0]
    split <;> omega
/-- A REEL OF WHICH ONE BYTE IS ANOTHER ONE HAS THE RECORDS AHEAD OF THAT BYTE, AND NO OTHERS -/
theorem spoilt_all (ls : List (List UInt8)) (hl : ∀ l ∈ ls, l.length ≤ 65536) (k m : Nat) (x : UInt8) (hk : k < (allL ls).length) (hx : x ≠ (allL ls)[k]) (hf : Free (allL ls) k 0)
    (hm : m < ls.length) (h1 : (allL (ls.take m)).length ≤ k) (h2 : k < (allL (ls.take (m + 1))).length) {rs : List (List UInt8)} {n : Nat} (h : ReadsTo ((allL ls).set k x) rs n) : rs = ls.take m ∧ n ≤ k := by
  obtain ⟨e, g1, g2, g3, g4⟩ := h
  have free : ∀ j, j ≤ ls.length → Free (allL ls) k (allL (ls.take j)).length := by
    intro j
    induction j with
    | zero => intro _; simpa [allL] using hf
    | succ j ih =>
      intro hj
      have f := ih (by omega)
      have e1 := allL_step ls j (by omega)
      have hp : frameL (allL (ls.take j)).length true ls[j] <+: (allL ls).drop (allL (ls.take j)).length := by
        obtain ⟨t, ht⟩ := allL_take_le ls (j + 1)
        rw [e1, List.append_assoc] at ht
        rw [← ht, List.drop_left]
        exact List.prefix_append _ _
      have := free_frame _ _ _ hp f
      rw [e1, List.length_append]
      exact this
  have hp : allL (ls.take m) <+: (allL ls).set k x := by
    obtain ⟨t, ht⟩ := allL_take_le ls m
    rw [← ht, List.set_append_right _ _ h1]
    exact List.prefix_append _ _
  have h5 := reads_all ls hl _ m (by omega) hp
  have e1 := allL_step ls m hm
  have hr3 : frameL (allL (ls.take m)).length true ls[m] <+: (allL ls).drop (allL (ls.take m)).length := by
    obtain ⟨t, ht⟩ := allL_take_le ls (m + 1)
    rw [e1, List.append_assoc] at ht
    rw [← ht, List.drop_left]
    exact List.prefix_append _ _
  have hst : Stuck ((allL ls).set k x) (allL (ls.take m)).length := by
    intro r hr
    exact frame_spoilt hk hx _ true ls[m] r h1 hr3 hr.2 (free m (by omega)) (by rw [e1, List.length_append] at h2; exact h2)
  obtain ⟨e2, e3⟩ := reads_one g1 g2 h5 hst
  refine ⟨e2, ?_⟩
  rw [g4, e3]
  unfold endN
  rw [if_neg]
  · exact h1
  · rintro ⟨_, h7, _⟩
    have h8 := frameL_pos (allL (ls.take m)).length true ls[m]
    have h9 := hr3.length_le
    have h10 := padN_le (allL (ls.take m)).length
    simp at h7 h9
    omega
end Go.Proofs.YtpjinmiedanebaaDoor
