/-
  The walks of SealOpens and SealByte: each returns true at every input. The table lies in its variable.
-/
import Derived.Test.YthbmlkdijppkbaaDoorSealLaws1
import Derived.Test.YthbmlkdijppkbaaDoorSealApartPlain
namespace Go.Proofs.YthbmlkdijppkbaaDoor
open Go.RowKit

set_option maxHeartbeats 2000000 in
theorem sealOpens.walk (w : World) (A : Option Addr) (n c : Nat) (l : List UInt8) (h : Sl w 1 A n c (bc l)) (hq : Quarter w) :
    Calls Tryd.prog 7 #[.slice A n c] w fun e w' => e = .returned (.bool true) ∧ Below w.heap.size w w' := by
  go_enter Tryd.func7, Tryd.ntmps7
  go_wp2_with fail
  refine (awake02 w hq).mono ?_
  rintro e w0 ⟨rfl, hb0⟩
  have h0 := h.below (by omega) hb0
  go_wp2_with fail
  refine (cut_any w0 A n c l 600 h0 (by omega)).mono ?_
  rintro e w1 ⟨A1, n1, c1, rfl, ho1, hb1⟩
  have ht : (l.take 600).length ≤ 600 := by simp; omega
  generalize l.take 600 = t at *
  obtain rfl := ho1.len'
  have hbw1 := hb0.trans (hb1.mono hb0.size)
  clear h h0
  go_wp2_with fail
  refine (copy_any w1 A1 _ c1 t ho1.sl (by omega)).mono ?_
  rintro e w2 ⟨A2, n2, c2, rfl, ho2, hb2⟩
  have hn2 := ho2.len'
  subst hn2
  have hlit : Sl (w2.alloc (.cells #[.int .u8 165] 5)) 1 (some ⟨w2.heap.size, 0, none⟩) 1 1 (bc [165]) := Sl.lit w2 _ _ 1 _ _ rfl (by unfold maxLen; omega) rfl
  have hba := (Below.refl w2.heap.size w2).alloc (Nat.le_refl _) (.cells #[.int .u8 165] 5)
  have ho2' := Own.below ho2 hba
  go_wp2_with (at_builtin; refine wpList_appB _ rfl (.tmp 13) (.tmp 14) rfl w1.heap.size A2 _ c2 t rfl ho2' _ 1 1 [165] rfl hlit ?_ ?_ ?_)
  · omega
  · have := hb2.size; simp; omega
  intro A3 c3 w3 ho3 hg3 _
  have hbw3 : Below w.heap.size w w3 := by
    refine ((hbw1.trans (hb2.mono hbw1.size)).trans (hba.mono (Nat.le_trans hbw1.size hb2.size))).grown hg3 ?_ ?_
    · have := hbw1.size; have := hb2.size; simp; omega
    · intro k hk
      have := hbw1.size
      have := (Own.lt ho2 k hk).1
      omega
  have hb13 : Below w1.heap.size w1 w3 := by
    refine (hb2.trans (hba.mono hb2.size)).grown hg3 ?_ ?_
    · have := hb2.size; simp; omega
    · intro k hk
      exact (Own.lt ho2 k hk).1
  have ho1' := Own.below ho1 hb13
  have hc3 := ho3.sl.cap
  have r1 := fun w => cutC (A := A3) (n := t.length + 1) (c := c3) .i64 (t.length : Int) t.length rfl (by omega) w
  have hs3 := (cutH ho3.sl .i64 t.length t.length rfl (by omega)).2
  rw [List.take_left] at hs3
  have hq3 := hq.below hbw3
  clear hg3 hlit hba ho2' ho2 hb13 ho1
  go_wp2_with fail
  refine (open_any w3 A3 _ c3 t hs3 hq3 (by omega)).mono ?_
  rintro e w4 ⟨A4, n4, c4, rfl, ho4, hb4⟩
  go_wp2_with fail
  refine (ropen_any w4 A1 _ c1 t (Own.below ho1' hb4).sl (by omega)).mono ?_
  rintro e w5 ⟨A5, n5, c5, rfl, ho5, hb5⟩
  have hb35 := hb4.trans (hb5.mono hb4.size)
  have s4 := (Own.below ho4 hb5).sl
  have s1 := (Own.below ho1' hb35).sl
  have s3 := (Own.below ho3 hb35).sl
  have s3' := hs3.below (by omega) hb35
  have hbw5 := hbw3.trans (hb35.mono hbw3.size)
  have s5 := ho5.sl
  generalize (openL t).1 = o1 at *
  generalize (openL t).2 = o2 at *
  clear ho4 ho5 ho1' ho3 hs3 hb4 hb5 hb35 hbw3 hbw1 hb0
  go_wp2_with fail
  refine (same_is w5 A4 n4 c4 _ A5 n5 c5 _ true (by unfold Hid; simp) s4 s5).mono ?_
  rintro e w' ⟨rfl, rfl⟩
  go_wp2_with fail
  refine (same_is w5 A3 _ c3 _ A1 _ c1 _ true (by unfold Hid; simp) s3' s1).mono ?_
  rintro e w' ⟨rfl, rfl⟩
  have r2 := fun w => cutC (A := A3) (n := t.length) (c := c3) .i64 ((t.length : Int) + 1) (t.length + 1) (by omega) (by omega) w
  obtain ⟨b3, o3, x3, hA3, hx3, _, hcell⟩ := s3.byte (k := t.length) (by simp)
  have hx : x3 = 165 := by rw [← hx3]; simp
  subst hx
  clear hx3 s3
  subst hA3
  go_wp2
  go_ret
  exact ⟨rfl, hbw5⟩
theorem unmask_mask2 (x : Nat) (h : x < 4294967296) : unmaskL (maskL x) = x := by
  have h1 : (maskL x + 1568478504) % 4294967296 = x / 32768 + x % 32768 * 131072 := by unfold maskL; omega
  unfold unmaskL
  rw [h1]
  omega
theorem mask_inj {x y : Nat} (hx : x < 4294967296) (hy : y < 4294967296) (h : maskL x = maskL y) : x = y := by
  rw [← unmask_mask2 x hx, h, unmask_mask2 y hy]
theorem le4_inj {x y : Nat} (hx : x < 4294967296) (hy : y < 4294967296) (h : le4 x = le4 y) : x = y := by
  simp only [le4, List.cons.injEq, and_true] at h
  obtain ⟨h1, h2, h3, h4⟩ := h
  have e : ∀ a b : Nat, UInt8.ofNat a = UInt8.ofNat b → a % 256 = b % 256 := fun a b h => by
    have := congrArg UInt8.toNat h
    simpa using this
  have := e _ _ h1
  have := e _ _ h2
  have := e _ _ h3
  have := e _ _ h4
  omega
/-- A SEAL OF WHICH ONE BYTE IS ANOTHER ONE IS NONE -/
theorem open_spoilt (t : List UInt8) (k : Nat) (y : UInt8) (hk : k < (closeL t).length) (hy : y ≠ (closeL t)[k]) : openL ((closeL t).set k y) = ([], 5) := by
  have hN := length_closeL t
  have hne : ¬ closeL (((closeL t).set k y).take (((closeL t).set k y).length - 4)) = (closeL t).set k y := by
    rw [List.length_set, hN, Nat.add_sub_cancel]
    rcases Nat.lt_or_ge k t.length with h | h
    · have e1 : (closeL t).set k y = t.set k y ++ le4 (maskL (sumL t)) := by
        unfold closeL
        rw [List.set_append_left _ _ h]
      rw [e1, List.take_left' (by simp)]
      unfold closeL
      intro e
      have e2 := le4_inj (maskL_lt _) (maskL_lt _) (List.append_cancel_left e)
      have e3 := mask_inj (sumL_lt _) (sumL_lt _) e2
      refine sum_byte t k y h ?_ e3
      have : (closeL t)[k] = t[k] := by
        have h2 : (closeL t)[k]? = t[k]? := by
          unfold closeL
          exact List.getElem?_append_left h
        rw [List.getElem?_eq_getElem hk, List.getElem?_eq_getElem h] at h2
        exact Option.some.inj h2
      rw [← this]
      exact hy
    · have e1 : ((closeL t).set k y).take t.length = t := by
        rw [List.take_set_of_le h]
        unfold closeL
        exact List.take_left
      rw [e1]
      intro e
      have e2 : ((closeL t).set k y)[k]? = some (closeL t)[k] := by rw [← e]; exact List.getElem?_eq_getElem hk
      rw [List.getElem?_set] at e2
      simp [hk] at e2
      exact hy e2
  unfold openL
  rw [if_neg (by rw [List.length_set]; omega), if_neg (by simpa using hne)]

set_option maxHeartbeats 2000000 in
theorem sealByte.walk (w : World) (A : Option Addr) (n c : Nat) (l : List UInt8) (h : Sl w 1 A n c (bc l)) (at_ : Nat) (hat : at_ < 65536) (by_ : Nat) (hby : by_ < 256) (hq : Quarter w) :
    Calls Tryd.prog 8 #[.slice A n c, .int .u16 (at_ : Int), .int .u8 (by_ : Int)] w fun e w' => e = .returned (.bool true) ∧ Below w.heap.size w w' := by
  by_cases hz : by_ = 0
  · subst hz
    go_enter Tryd.func8, Tryd.ntmps8
    go_wp2_with fail
    refine (awake02 w hq).mono ?_
    rintro e w0 ⟨rfl, hb0⟩
    go_wp2_with fail
    refine (awake02 w0 (hq.below hb0)).mono ?_
    rintro e w1 ⟨rfl, hb1⟩
    go_wp2
    go_ret
    exact ⟨rfl, hb0.trans (hb1.mono hb0.size)⟩
  · have hzb : ((by_ : Int) == 0) = false := by simpa using hz
    go_enter Tryd.func8, Tryd.ntmps8
    go_wp2_with fail
    refine (awake02 w hq).mono ?_
    rintro e w0 ⟨rfl, hb0⟩
    have h0 := h.below (by omega) hb0
    go_wp2_with fail
    refine (cut_any w0 A n c l 600 h0 (by omega)).mono ?_
    rintro e w1 ⟨A1, n1, c1, rfl, ho1, hb1⟩
    have ht : (l.take 600).length ≤ 600 := by simp; omega
    generalize l.take 600 = t at *
    have hl1 := ho1.len'
    subst hl1
    have hbw1 := hb0.trans (hb1.mono hb0.size)
    clear h h0
    go_wp2_with fail
    refine (close_any w1 A1 _ c1 t ho1.sl (hq.below hbw1) (by omega)).mono ?_
    rintro e w2 ⟨A2, n2, c2, rfl, ho2, hb2⟩
    have hbw2 := hbw1.trans (hb2.mono hbw1.size)
    have hn2 := ho2.len'
    rw [length_closeL] at hn2
    have hn0 : 0 < n2 := by omega
    have hn6 : n2 ≤ 604 := by omega
    have Hn2 := Lib.hid hn2
    clear hn2
    have hidx : at_ % n2 < n2 := Nat.mod_lt _ hn0
    obtain ⟨g, o, x, hA2, hg, hgl, hx, hcell, hfr⟩ := ho2.place hidx
    subst hA2
    have hxl := x.toNat_lt
    have hxor := u8_xor_nat x.toNat by_ (by omega) (by omega)
    have hv : x.toNat ^^^ by_ < 256 := Nat.xor_lt_two_pow (n := 8) (by omega) (by omega)
    have hst := ho2.stored hidx (UInt8.ofNat (x.toNat ^^^ by_))
    have Hst := Lib.hid hst
    have Hx := Lib.hid hx
    clear hst hx ho2 ho1
    generalize hxe : x.toNat = xn at *
    have Hxe := Lib.hid hxe
    clear hxe
    have hsp : openL ((closeL t).set (at_ % n2) (UInt8.ofNat (xn ^^^ by_))) = ([], 5) := by
      refine open_spoilt t _ _ (by have := Hn2.out; have := length_closeL t; omega) ?_
      intro e
      have h1 := Hx.out
      rw [List.getElem?_eq_getElem (by have := Hn2.out; have := length_closeL t; omega), ← e] at h1
      have h2 := congrArg UInt8.toNat (Option.some.inj h1)
      rw [Hxe.out, UInt8.toNat_ofNat_of_lt' (by simpa using hv)] at h2
      have h3 : xn ^^^ (xn ^^^ by_) = xn ^^^ xn := by rw [h2]
      rw [← Nat.xor_assoc, Nat.xor_self, Nat.zero_xor] at h3
      exact hz h3
    have Hsp := Lib.hid hsp
    clear hsp
    have hst : OwnB (w2.setCell ⟨g, o + at_ % n2, none⟩ (.int .u8 ((xn ^^^ by_ : Nat) : Int))) w1.heap.size (some ⟨g, o, none⟩) n2 c2 ((closeL t).set (at_ % n2) (UInt8.ofNat (xn ^^^ by_))) := by
      have h1 := Hst.out
      rw [UInt8.toNat_ofNat_of_lt' (by simpa using hv)] at h1
      exact h1
    have hbw3 : Below w.heap.size w (w2.setCell ⟨g, o + at_ % n2, none⟩ (.int .u8 ((xn ^^^ by_ : Nat) : Int))) := hbw2.setCell (by have := hbw1.size; simp; omega) _
    go_wp2_with fail
    generalize (w2.setCell ⟨g, o + at_ % n2, none⟩ (.int .u8 ((xn ^^^ by_ : Nat) : Int))) = w3 at *
    refine (open_any w3 _ n2 c2 _ hst.sl (hq.below hbw3) (by omega)).mono ?_
    rw [Hsp.out]
    rintro e w4 ⟨A4, n4, c4, rfl, ho4, hb4⟩
    have hn4 := ho4.len'
    subst hn4
    go_wp2
    go_ret
    exact ⟨rfl, hbw3.trans (hb4.mono hbw3.size)⟩
end Go.Proofs.YthbmlkdijppkbaaDoor
