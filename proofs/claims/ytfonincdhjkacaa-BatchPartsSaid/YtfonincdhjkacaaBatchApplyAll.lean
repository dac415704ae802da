/-
  What the reference's ApplyAll and Get make of a map. No condition but sizes.
-/
import Derived.Test.YtfonincdhjkacaaBatchApply
import Derived.Test.YtfonincdhjkacaaBatchCopy
namespace Go.Proofs.Ytfonincdhjkacaa
open Go.RowKit
set_option maxRecDepth 20000
theorem mem_applyGo (o : OpL) (x : PairL) : ∀ (done : Bool) (m : List PairL), x ∈ applyGo o done m → x ∈ m ∨ x = ⟨o.key, o.value⟩
  | done, [] => by cases done <;> simp [applyGo]
  | done, y :: m => by
    have ih := mem_applyGo o x (done || ltL o.key y.key) m
    simp only [applyGo, List.mem_append, List.mem_cons]
    rintro ((h | h) | h)
    · split at h
      · exact .inr (by simpa using h)
      · simp at h
    · split at h
      · simp at h
      · exact .inl (.inl (by simpa using h))
    · rcases ih h with h1 | h1
      · exact .inl (.inr h1)
      · exact .inr h1
theorem mem_applyAll (x : PairL) : ∀ (ls : List OpL) (m : List PairL), x ∈ applyAllL m ls → x ∈ m ∨ ∃ o ∈ ls, x = ⟨o.key, o.value⟩
  | [], m, h => .inl h
  | o :: ls, m, h => by
    rcases mem_applyAll x ls (applyL m o) h with h1 | ⟨q, hq, e⟩
    · rcases mem_applyGo o x _ m h1 with h2 | h2
      · exact .inl h2
      · exact .inr ⟨o, by simp, h2⟩
    · exact .inr ⟨q, by simp [hq], e⟩
set_option maxHeartbeats 8000000 in
theorem rapplyall_any (w : World) (p : Nat → Prop) (A : Option Addr) (n c : Nat) (ms : List PairL) (h : SlR w p A n c ms) (p' : Nat → Prop) (B : Option Addr) (m d : Nat) (ls : List OpL) (hl : SlR w p' B m d ls) (hn : ms.length + ls.length ≤ 1000) (hz : ∀ o ∈ ls, o.key.length ≤ 10000 ∧ o.value.length ≤ 10000) :
    Calls Try.prog 38 #[.slice A n c, .slice B m d] w fun e w' => ∃ A' n' c', e = .returned (.slice A' n' c') ∧ SlR w' (fun _ => True) A' n' c' (applyAllL ms ls) ∧ Below w.heap.size w w' := by
  have c1 := rcopyops_any w p' B m d ls hl (by omega) hz
  have C1 := Lib.hid c1
  have h0 : SlR w (fun _ => True) A n c ms := h.mono fun _ _ _ => trivial
  have H0 := Lib.hid h0
  have Hn := Lib.hid hn
  clear c1 hz hl h h0 hn
  go_enter Try.func38, Try.ntmps38
  go_wp2_with fail
  refine C1.out.mono ?_
  rintro e w1 ⟨A2, n2, c2, rfl, ho2, hb1⟩
  have s2 := ho2.sl
  have hl2 := s2.lenR
  have Hl2 := Lib.hid hl2
  have hn2 : n2 ≤ 1000 := by have := Hn.out; omega
  have h1 := H0.out.below hb1
  clear ho2 hl2
  go_wp2
  go_loopw [0, 10] (fun s q wr => ∃ j : Nat, j ≤ n2 ∧ q = .int .i64 j ∧ Below w1.heap.size w1 wr ∧ ∃ A3 n3 c3 cur, s = .slice A3 n3 c3 ∧ SlR wr (fun _ => True) A3 n3 c3 cur ∧ Hid (cur.length + (ls.length - j) ≤ 1000 ∧ applyAllL ms ls = applyAllL cur (ls.drop j))) (fun _ q _ => n2 - (intOf q).toNat)
  case atStart => exact ⟨0, Nat.zero_le _, rfl, Below.refl _ _, A, n, c, ms, rfl, h1, Lib.hid ⟨by have := Hn.out; omega, rfl⟩⟩
  case round =>
    clear h1
    obtain ⟨j, hj, rfl, hbr, A3, n3, c3, cur, rfl, h3, Heq⟩ := hrel
    by_cases hlt : j < n2
    · obtain ⟨b, o, A5, n5, c5, A6, n6, c6, hjl, rfl, d0, d1, d2, hs5, hs6⟩ := s2.opAt hlt
      have d0 := stays hbr d0
      have d1 := stays hbr d1
      have d2 := stays hbr d2
      have hst : applyAllL ms ls = applyAllL (applyL cur ls[j]) (ls.drop (j + 1)) := by
        rw [Heq.out.2, List.drop_eq_getElem_cons hjl]
        rfl
      have hlen := apply_len cur ls[j]
      have hcl := Heq.out.1
      have ca := fun (w' : World) (hb : Below w1.heap.size w1 w') (hb2 : Below wr.heap.size wr w') => rapply_any w' _ A3 n3 c3 cur (h3.below hb2) (by omega) A5 n5 c5 A6 n6 c6 ls[j] (hs5.below (by omega) hb) (hs6.below (by omega) hb)
      generalize hX : applyL cur ls[j] = nxt at *
      generalize ls[j].kind.toNat = k at *
      have Hst : Hid (nxt.length + (ls.length - (j + 1)) ≤ 1000 ∧ applyAllL ms ls = applyAllL nxt (ls.drop (j + 1))) := ⟨by omega, hst⟩
      have Ca := Lib.hid ca
      clear hst hlen hcl ca hX hs5 hs6 h3 hjl
      have al := (Below.refl wr.heap.size wr).alloc (Nat.le_refl _) (.cells #[.int .u8 (k : Int), .slice A5 n5 c5, .slice A6 n6 c6] 47)
      have hbr2 := hbr.trans (al.mono hbr.size)
      go_wp2_with fail
      refine (Ca.out _ hbr2 al).mono ?_
      rintro e w4 ⟨A7, n7, c7, rfl, h7, hb4⟩
      have hbr := hbr2.trans (hb4.mono hbr2.size)
      go_wp2
      go_roundw
      case rel => exact ⟨j + 1, by omega, by go_num, hbr, A7, n7, c7, nxt, rfl, h7, Hst⟩
      case measure => simp [intOf]; omega
    · obtain rfl : n2 = j := by omega
      have heq := Heq.out.2
      rw [List.drop_of_length_le (by have := Hl2.out; omega)] at heq
      rw [show applyAllL cur [] = cur from rfl] at heq
      go_wp2
      go_ret
      exact ⟨A3, n3, c3, rfl, by rw [heq]; exact h3, hb1.trans (hbr.mono hb1.size)⟩
/-- bytes, and whether there are any, that a call gives back -/
def GotGet (w : World) (r : Option (List UInt8)) (e : Ending) (w' : World) : Prop :=
  ∃ A n c, e = .returned (.tuple #[.slice A n c, .bool r.isSome]) ∧ Sl w' 1 A n c (bc (r.getD [])) ∧ Below w.heap.size w w'
set_option maxHeartbeats 8000000 in
theorem rget_any (w : World) (p : Nat → Prop) (A : Option Addr) (n c : Nat) (ms : List PairL) (h : SlR w p A n c ms) (hz : ∀ x ∈ ms, x.value.length ≤ 10000) (B : Option Addr) (m d : Nat) (key : List UInt8) (hk : Sl w 1 B m d (bc key)) :
    Calls Try.prog 37 #[.slice A n c, .slice B m d] w (GotGet w (getL ms key)) := by
  have hcp := h.cap
  unfold maxLen at hcp
  have hl := h.lenR
  have Hl := Lib.hid hl
  have Hz := Lib.hid hz
  have Hk := Lib.hid hk
  obtain ⟨r, hr⟩ : ∃ r, getL ms key = r := ⟨_, rfl⟩
  rw [hr]
  have Hr := Lib.hid hr
  clear hl hz hk hr
  go_enter Try.func37, Try.ntmps37
  go_wp2
  go_loopw [10] (fun q wr => ∃ j : Nat, j ≤ n ∧ q = .int .i64 j ∧ Below w.heap.size w wr ∧ Hid (getL (ms.drop j) key = r)) (fun q _ => n - (intOf q).toNat)
  case atStart => exact ⟨0, Nat.zero_le _, rfl, Below.refl _ _, Lib.hid Hr.out⟩
  case round =>
    obtain ⟨j, hj, rfl, hbr, Heq⟩ := hrel
    by_cases hlt : j < n
    · obtain ⟨b, o, A5, n5, c5, A6, n6, c6, hjl, rfl, d1, d2, hs5, hs6⟩ := h.pairAt hlt
      have d1 := stays hbr d1
      have d2 := stays hbr d2
      have hst := getL_cons ms[j] (ms.drop (j + 1)) key
      rw [← List.drop_eq_getElem_cons hjl, Heq.out] at hst
      have hzj := Hz.out _ (List.getElem_mem hjl)
      rw [hs6.lenb] at hzj
      obtain ⟨z, hzz⟩ : ∃ z, (ms[j].key == key) = z := ⟨_, rfl⟩
      rw [hzz] at hst
      have cs := fun (w' : World) (hb : Below w.heap.size w w') => same_is w' A5 n5 c5 ms[j].key B m d key z (Lib.hid hzz) (hs5.below (by omega) hb) (Hk.out.below (by omega) hb)
      have cp := fun (w' : World) (hb : Below w.heap.size w w') => copy_any w' A6 n6 c6 ms[j].value (hs6.below (by omega) hb) (by omega)
      generalize ms[j].value = v at *
      have Hst := Lib.hid hst
      have Cs := Lib.hid cs
      have Cp := Lib.hid cp
      clear hst cs cp hs5 hs6 hzz hzj hjl
      have al := (Below.refl wr.heap.size wr).alloc (Nat.le_refl _) (.cells #[.slice A5 n5 c5, .slice A6 n6 c6] 114)
      have kP := Bx2.fresh wr (.slice A5 n5 c5) (.slice A6 n6 c6) 114
      have hbr := hbr.trans (al.mono hbr.size)
      go_wp2_with fail
      generalize (wr.alloc (.cells #[.slice A5 n5 c5, .slice A6 n6 c6] 114)) = wa at *
      refine (Cs.out _ hbr).mono ?_
      rintro e w' ⟨rfl, rfl⟩
      clear al d1 d2
      cases z
      · have hst := Hst.out
        simp only [Bool.false_eq_true, if_false] at hst
        have Hst2 := Lib.hid hst.symm
        clear hst
        go_wp2
        go_roundw
        case rel => exact ⟨j + 1, by omega, by go_num, hbr, Hst2⟩
        case measure => simp [intOf]; omega
      · have hst := Hst.out
        simp only [if_true] at hst
        subst hst
        obtain ⟨p0, p1⟩ := kP
        go_wp2_with fail
        refine (Cp.out _ hbr).mono ?_
        rintro e w5 ⟨A7, n7, c7, rfl, ho7, hb7⟩
        go_wp2
        go_ret2
        exact ⟨A7, n7, c7, rfl, ho7.sl, hbr.trans (hb7.mono hbr.size)⟩
    · obtain rfl : n = j := by omega
      have heq := Heq.out
      rw [List.drop_of_length_le (by have := Hl.out; omega)] at heq
      obtain rfl : none = r := heq
      go_wp2
      go_ret2
      exact ⟨none, 0, 0, rfl, sl_none _, hbr⟩
end Go.Proofs.Ytfonincdhjkacaa
