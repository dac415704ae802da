/-
  AtomRef, Trim in one text. No condition but sizes.
-/
import Derived.Test.YtpjinmiedanebaaDoorAtomWalk
import Derived.Test.YtpjinmiedanebaaDoorJRecs
import Derived.Deep.RegionLaw
namespace Go.Proofs.YtpjinmiedanebaaDoor
set_option maxRecDepth 20000
open Go.RowKit

/-- how long a slice is -/
def lenOfV : Value → Nat
  | .slice _ n _ => n
  | _ => 0
theorem rnum_small (n : Nat) (w : World) (h : n < 241) : Calls Tryd.prog 28 #[.int .u64 (n : Int)] w (NewB w (numL n)) := by
  have e : numL n = [UInt8.ofNat n] := by unfold numL; rw [if_pos h]
  rw [e]
  clear e
  have hi : (n : Int) < 241 := by omega
  clear h
  go_enter Tryd.func28, Tryd.ntmps28
  go_wp2
  go_ret
  refine new_lit w _ _ 1 rfl (by unfold maxLen; omega) ?_
  simp [bc]
  omega
theorem rnum_two (n : Nat) (w : World) (h1 : 241 ≤ n) (h2 : n < 2288) : Calls Tryd.prog 28 #[.int .u64 (n : Int)] w (NewB w (numL n)) := by
  have e : numL n = [UInt8.ofNat (241 + (n - 240) / 256), UInt8.ofNat (n - 240)] := by unfold numL; rw [if_neg (by omega), if_pos h2]
  rw [e]
  clear e
  have d1 : decide ((n : Int) < 241) = false := by simp; omega
  have d2 : decide ((n : Int) < 2288) = true := by simp; omega
  go_enter Tryd.func28, Tryd.ntmps28
  go_wp2
  go_ret
  refine new_lit w _ _ 2 rfl (by unfold maxLen; omega) ?_
  simp [bc]
  omega
theorem rnum_three (n : Nat) (w : World) (h1 : 2288 ≤ n) (h2 : n < 67824) : Calls Tryd.prog 28 #[.int .u64 (n : Int)] w (NewB w (numL n)) := by
  have e : numL n = [249, UInt8.ofNat ((n - 2288) / 256), UInt8.ofNat (n - 2288)] := by unfold numL; rw [if_neg (by omega), if_neg (by omega), if_pos h2]
  rw [e]
  clear e
  have d1 : decide ((n : Int) < 241) = false := by simp; omega
  have d2 : decide ((n : Int) < 2288) = false := by simp; omega
  have d3 : decide ((n : Int) < 67824) = true := by simp; omega
  go_enter Tryd.func28, Tryd.ntmps28
  go_wp2
  go_ret
  refine new_lit w _ _ 3 rfl (by unfold maxLen; omega) ?_
  simp [bc]
  omega
set_option maxHeartbeats 1000000 in
theorem rnum_long (n : Nat) (w : World) (h1 : 67824 ≤ n) (h2 : n < 18446744073709551616) : Calls Tryd.prog 28 #[.int .u64 (n : Int)] w (NewB w (numL n)) := by
  obtain ⟨k, hk⟩ : ∃ k, nb n = k := ⟨_, rfl⟩
  have hr := nb_range n
  have e : numL n = UInt8.ofNat (247 + k) :: beK k n := by unfold numL; rw [if_neg (by omega), if_neg (by omega), if_neg (by omega), hk]
  rw [e]
  clear e
  have hlt := nb_lt h2
  have hle : 3 < k → 256 ^ (k - 1) ≤ n := fun h => by have := nb_le (n := n) (by omega); rw [hk] at this; exact this
  rw [hk] at hr hlt
  have Hk := Lib.hid hk
  have Hlt := Lib.hid hlt
  have Hle := Lib.hid hle
  clear hk hlt hle
  have d1 : decide ((n : Int) < 241) = false := by simp; omega
  have d2 : decide ((n : Int) < 2288) = false := by simp; omega
  have d3 : decide ((n : Int) < 67824) = false := by simp; omega
  have Hh2 := Lib.hid h2
  clear h1 h2
  go_enter Tryd.func28, Tryd.ntmps28
  go_wp2
  go_loopw [0, 3] (fun a b wr => ∃ (j v : Nat), Hid (v = n / 256 ^ j) ∧ j ≤ k ∧ a = .int .u64 (v : Int) ∧ Below w.heap.size w wr ∧ ∃ (A : Option Addr) (c : Nat), b = .slice A j c ∧ OwnB wr w.heap.size A j c (beK j n)) (fun _ b _ => 9 - lenOfV b)
  case atStart => exact ⟨0, n, by unfold Hid; simp, by omega, rfl, Below.refl _ _, none, 0, rfl, Own.nil _ _ _ _ _⟩
  case round =>
    obtain ⟨j, v, Hv, hj, rfl, hbr, A, c, rfl, ho⟩ := hrel
    have hvl : v < 18446744073709551616 := by rw [Hv.out]; exact Nat.lt_of_le_of_lt (Nat.div_le_self _ _) Hh2.out
    have hsz := hbr.size
    have hlit : Own (wr.alloc (.cells #[.int .u8 ((v : Int) % 256)] 5)) w.heap.size 5 1 (some ⟨wr.heap.size, 0, none⟩) 1 1 (bc [UInt8.ofNat v]) :=
      Own.lit wr _ _ 1 _ _ hsz rfl (by unfold maxLen; omega) (by simp [bc])
    have hoa : OwnB (wr.alloc (.cells #[.int .u8 ((v : Int) % 256)] 5)) w.heap.size A j c (beK j n) := Own.below ho ((Below.refl wr.heap.size wr).alloc (Nat.le_refl _) _)
    have go_on : 0 < v ∨ (v ≤ 0 ∧ j < 3) → j < k := by
      rintro (h | ⟨_, h⟩)
      · rcases Nat.lt_or_ge j k with q | q
        · exact q
        · have : n / 256 ^ j = 0 := Nat.div_eq_of_lt (Nat.lt_of_lt_of_le Hlt.out (Nat.pow_le_pow_right (by omega) q))
          have := Hv.out
          omega
      · omega
    have Hgo := Lib.hid go_on
    have Ho := Lib.hid ho
    clear go_on ho
    by_cases hc : 0 < v ∨ (v ≤ 0 ∧ j < 3)
    · have hjk := Hgo.out hc
      have hc' : 0 < v ∨ (v ≤ 0 ∧ decide ((j : Int) < 3) = true) := by
        rcases hc with hc | ⟨hc, hc3⟩
        · exact Or.inl hc
        · exact Or.inr ⟨hc, by simp; omega⟩
      clear hc
      rcases hc' with hc | ⟨hc, hc3⟩
      all_goals
        go_wp2_with (at_builtin; refine wpList_appB _ rfl (.tmp 42) (.tmp 43) rfl w.heap.size _ 1 1 [UInt8.ofNat v] rfl hlit A j c _ rfl hoa.sl ?_ ?_ ?_)
        · omega
        · simp; omega
        intro A2 c2 w2 ho2 hg2 _
        go_wp2
        go_roundw
        case rel =>
          refine ⟨j + 1, v / 256, ?_, by omega, by simp, (hbr.alloc hsz _).grown hg2 (by simp; omega) (fun q hq => (Own.lt hlit q hq).1), A2, c2, by rw [Nat.add_comm], ?_⟩
          · unfold Hid; rw [Hv.out, Nat.div_div_eq_div_mul, Nat.pow_succ]
          · have e : beK (j + 1) n = [UInt8.ofNat v] ++ beK j n := by rw [Hv.out]; rfl
            rw [e, Nat.add_comm]
            exact ho2
        case measure => simp [lenOfV]; omega
    · have hv0 : v = 0 := by omega
      subst hv0
      have hj3 : ¬ j < 3 := by omega
      have hjk : j = k := by
        rcases Nat.lt_or_ge j k with q | q
        · exfalso
          have h8 := Hle.out (by omega)
          have h9 := Hv.out
          have : 256 ^ j ≤ n := Nat.le_trans (Nat.pow_le_pow_right (by omega) (by omega)) h8
          have h10 : 1 ≤ n / 256 ^ j := (Nat.le_div_iff_mul_le (Nat.pow_pos (by omega))).2 (by omega)
          omega
        · omega
      subst hjk
      have ho := Ho.out
      have d4 : decide ((j : Int) < 3) = false := by simp; omega
      have hlit2 : Own (wr.alloc (.cells #[.int .u8 (247 + (j : Int))] 5)) w.heap.size 5 1 (some ⟨wr.heap.size, 0, none⟩) 1 1 (bc [UInt8.ofNat (247 + j)]) :=
        Own.lit wr _ _ 1 _ _ hsz rfl (by unfold maxLen; omega) (by simp [bc]; omega)
      have hoa2 : OwnB (wr.alloc (.cells #[.int .u8 (247 + (j : Int))] 5)) w.heap.size A j c (beK j n) := Own.below ho ((Below.refl wr.heap.size wr).alloc (Nat.le_refl _) _)
      clear hc hj3 hlit hoa ho
      go_wp2_with (at_builtin; refine wpList_appB _ rfl (.tmp 51) (.tmp 52) rfl w.heap.size _ 1 1 [UInt8.ofNat (247 + j)] rfl hlit2 A j c _ rfl hoa2.sl ?_ ?_ ?_)
      · omega
      · simp; omega
      intro A2 c2 w2 ho2 hg2 _
      go_wp2
      go_ret
      refine ⟨A2, _, c2, rfl, by simpa using ho2, (hbr.alloc hsz _).grown hg2 (by simp; omega) (fun q hq => (Own.lt hlit2 q hq).1)⟩
theorem rnum_any (n : Nat) (w : World) (h : n < 18446744073709551616) : Calls Tryd.prog 28 #[.int .u64 (n : Int)] w (NewB w (numL n)) := by
  rcases Nat.lt_or_ge n 241 with h1 | h1
  · exact rnum_small n w h1
  · rcases Nat.lt_or_ge n 2288 with h2 | h2
    · exact rnum_two n w h1 h2
    · rcases Nat.lt_or_ge n 67824 with h3 | h3
      · exact rnum_three n w h2 h3
      · exact rnum_long n w h3 h
end Go.Proofs.YtpjinmiedanebaaDoor

namespace Go.Proofs.YtpjinmiedanebaaDoor
set_option maxRecDepth 20000
open Go.RowKit

set_option maxHeartbeats 1000000 in
theorem trimR_any (w : World) (A : Option Addr) (n c : Nat) (l : List UInt8) (h : Sl w 1 A n c (bc l)) (hn : n ≤ 1000000) :
    Calls Tryd.prog 58 #[.slice A n c, .int .u8 0] w fun e w' => (∃ k, k ≤ n ∧ e = .returned (.slice A k c) ∧ (∀ i, k ≤ i → i < n → l[i]? = some 0) ∧ (0 < k → ∃ x, l[k - 1]? = some x ∧ x ≠ 0)) ∧ w = w' := by
  have Hl : Hid (l.length = n) := h.lenb
  have hcap := h.cap
  have hcm := h.capm
  unfold maxLen at hcm
  go_enter Tryd.func58, Tryd.ntmps58
  go_wp2_with fail
  go_loop [0] (fun p => ∃ k : Nat, k ≤ n ∧ p = .slice A k c ∧ Hid (∀ i, k ≤ i → i < n → l[i]? = some 0)) (fun p => match p with | .slice _ k _ => k | _ => 0)
  case atStart => exact ⟨n, Nat.le_refl _, rfl, fun i h1 h2 => absurd h2 (by omega)⟩
  case round =>
    obtain ⟨k, hk, rfl, HZ⟩ := hrel
    cases k with
    | zero =>
      go_wp2
      go_ret
      exact ⟨⟨0, hk, rfl, HZ.out, fun q => absurd q (by omega)⟩, rfl⟩
    | succ k =>
      have hkl : k < l.length := by have := Hl.out; omega
      obtain ⟨g, o, x, rfl, hx, hxl, hcell⟩ := h.byte hkl
      have hr := cutC (A := some ⟨g, o, none⟩) (n := k + 1) (c := c) .i64 (k : Int) k rfl (by omega)
      have Hx := Lib.hid hx
      clear hx
      by_cases h0 : x = 0
      · have d1 : ((x : Int) == 0) = true := by simp; omega
        have hz : l[k]? = some 0 := by
          rw [List.getElem?_eq_getElem hkl]
          congr 1
          rw [← UInt8.toNat_inj, Hx.out, h0]
          rfl
        have HZ2 := Lib.hid hz
        clear h0 hz
        go_wp2
        go_round
        case rel =>
          refine ⟨k, by omega, rfl, fun i h1 h2 => ?_⟩
          rcases Nat.eq_or_lt_of_le h1 with e | e
          · rw [← e]; exact HZ2.out
          · exact HZ.out i (by omega) h2
        case measure => show k < k + 1; omega
      · have d1 : ((x : Int) == 0) = false := by simp; omega
        have hz : ∃ y, l[k]? = some y ∧ y ≠ 0 := ⟨l[k], List.getElem?_eq_getElem hkl, fun e => h0 (by rw [← Hx.out, e]; rfl)⟩
        have HZ2 := Lib.hid hz
        clear h0 hz
        go_wp2
        go_ret
        exact ⟨⟨k + 1, hk, rfl, HZ.out, fun _ => HZ2.out⟩, rfl⟩
def TrimL (n : Nat) (e : Ending) : Prop := ∃ (A' : Option Addr) (n' c' : Nat), e = .returned (.slice A' n' c') ∧ (n' = 0 ↔ n = 0)
set_option maxHeartbeats 1000000 in
theorem trimL_any (w : World) (A : Option Addr) (n c : Nat) (l : List UInt8) (h : Sl w 1 A n c (bc l)) (hn : n ≤ 1000000) (hlast : 0 < n → ∃ x, l[n - 1]? = some x ∧ x ≠ 0) :
    Calls Tryd.prog 57 #[.slice A n c, .int .u8 0] w fun e w' => TrimL n e ∧ w = w' := by
  have Hl : Hid (l.length = n) := h.lenb
  have hcap := h.cap
  have hcm := h.capm
  have HL := Lib.hid hlast
  unfold maxLen at hcm
  clear hlast
  go_enter Tryd.func57, Tryd.ntmps57
  go_wp2_with fail
  go_loop [0] (fun p => ∃ (j : Nat) (A' : Option Addr) (c' : Nat), j ≤ n ∧ (j = n → n = 0) ∧ p = .slice A' (n - j) c' ∧ Sl w 1 A' (n - j) c' (bc (l.drop j))) (fun p => match p with | .slice _ k _ => k | _ => 0)
  case atStart => exact ⟨0, A, c, Nat.zero_le _, fun e => e.symm, rfl, h⟩
  case round =>
    obtain ⟨j, A', c', hj, hjn, rfl, hs⟩ := hrel
    by_cases h0 : n = 0
    · subst h0
      obtain rfl : j = 0 := by omega
      go_wp2
      go_ret
      exact ⟨⟨none, 0, 0, rfl, by simp⟩, rfl⟩
    · have hjlt : j < n := by
        rcases Nat.eq_or_lt_of_le hj with e | e
        · exact absurd (hjn e) h0
        · exact e
      obtain ⟨m, hm⟩ : ∃ m, n - j = m + 1 := ⟨n - j - 1, by omega⟩
      rw [hm] at hs
      rw [hm]
      obtain ⟨g, o, x, rfl, hx, hxl, hcell⟩ := hs.byte (k := 0) (by have := hs.lenb; omega)
      rw [Nat.add_zero] at hcell
      have hc2 := hs.cap
      have hc3 := hs.capm
      unfold maxLen at hc3
      obtain ⟨A2, r2, s2, _⟩ := cutL hs .i64 1 1 rfl (by omega)
      rw [List.drop_drop] at s2
      have Hx := Lib.hid hx
      have Hm := Lib.hid hm
      have hsub : m + 1 - 1 = m := by omega
      rw [hsub] at s2
      simp only [hsub] at r2
      clear hx hm hsub hjn
      by_cases hx0 : x = 0
      · have d1 : ((x : Int) == 0) = true := by simp; omega
        have hmj : j + 1 = n → n = 0 := fun e => by
          exfalso
          obtain ⟨y, hy, hy0⟩ := HL.out (by omega)
          have h5 := Hx.out
          rw [List.getElem_drop] at h5
          rw [List.getElem?_eq_getElem (by have := Hl.out; omega)] at hy
          refine hy0 ?_
          rw [← Option.some.inj hy, ← UInt8.toNat_inj]
          have e2 : n - 1 = j + 0 := by omega
          simp only [e2]
          rw [h5, hx0]
          rfl
        have HMJ := Lib.hid hmj
        clear hx0 hmj
        go_wp2
        go_round
        case rel => exact ⟨j + 1, A2, c' - 1, by omega, HMJ.out, by have h6 := Hm.out; rw [show n - (j + 1) = m by omega], by have h6 := Hm.out; rw [show n - (j + 1) = m by omega]; exact s2⟩
        case measure => show m < m + 1; omega
      · have d1 : ((x : Int) == 0) = false := by simp; omega
        have d2 : ((m : Int) + 1 == 0) = false := by simp; omega
        clear hx0
        go_wp2
        go_ret
        exact ⟨⟨_, m + 1, c', rfl, by omega⟩, rfl⟩
/-- what Trim leaves: nothing, just where all are noughts -/
def TrimB (l : List UInt8) (w : World) (e : Ending) (w' : World) : Prop :=
  ∃ (A' : Option Addr) (n' c' : Nat), e = .returned (.slice A' n' c') ∧ (n' = 0 ↔ l.all (· == 0) = true) ∧ ∃ q, w' = w.drewN q
theorem all_zero {l : List UInt8} {k : Nat} (hk : k ≤ l.length) (h1 : ∀ i, k ≤ i → i < l.length → l[i]? = some 0) (h2 : 0 < k → ∃ x, l[k - 1]? = some x ∧ x ≠ 0) : k = 0 ↔ l.all (· == 0) = true := by
  constructor
  · rintro rfl
    rw [List.all_eq_true]
    intro x hx
    obtain ⟨i, hi, rfl⟩ := List.getElem_of_mem hx
    have := h1 i (Nat.zero_le _) hi
    rw [List.getElem?_eq_getElem hi] at this
    simp [Option.some.inj this]
  · intro h
    rcases Nat.eq_zero_or_pos k with e | e
    · exact e
    · exfalso
      obtain ⟨x, hx, h0⟩ := h2 e
      rw [List.all_eq_true] at h
      have := h x (List.mem_of_getElem? hx)
      exact h0 (by simpa using this)
set_option maxRecDepth 20000 in
set_option maxHeartbeats 2000000 in
theorem trim_any (w : World) (A : Option Addr) (n c : Nat) (l : List UInt8) (h : Sl w 1 A n c (bc l)) (hn : n ≤ 1000000) :
    Calls Tryd.prog 40 #[.slice A n c, .string { data := #[0] }] w (TrimB l w) := by
  have Hl : Hid (l.length = n) := h.lenb
  have hcap := h.cap
  have hcm := h.capm
  unfold maxLen at hcm
  by_cases h0 : n = 0
  · subst h0
    obtain rfl : l = [] := List.eq_nil_of_length_eq_zero Hl.out
    go_enter Tryd.func40, Tryd.ntmps40
    go_wp2
    go_ret
    exact ⟨none, 0, 0, rfl, by simp, 0, rfl⟩
  · have d0 : ((n : Int) == 0) = false := by simp; omega
    go_enter Tryd.func40, Tryd.ntmps40
    go_wp2_with fail
    refine wp_region_any (by kernel_rfl) ?_
    try (change wpAny _ _ _ _ _ _ _ (World.drew _))
    refine wpAny_take (i := 0) (v := ?_) rfl (by kernel_rfl) (by kernel_rfl) (by kernel_rfl) (fun _ _ _ h => h) (Or.inl ⟨by kernel_rfl, ?_⟩) ?_
    case refine_2 => ((intro w; go_simp); try with_reducible rfl)
    refine wpAny_take (i := 1) (v := ?_) rfl (by kernel_rfl) (by kernel_rfl) (by kernel_rfl) (fun _ _ _ h => h) (Or.inl ⟨by kernel_rfl, ?_⟩) ?_
    case refine_2 => ((intro w; go_simp); try with_reducible rfl)
    refine wpAny_take (i := 2) (v := ?_) rfl (by kernel_rfl) (by kernel_rfl) (by kernel_rfl) (fun _ _ _ h => h) (Or.inl ⟨by kernel_rfl, ?_⟩) ?_
    case refine_2 => ((intro w; go_simp); try with_reducible rfl)
    refine wpAny_take (i := 4) (v := ?_) rfl (by kernel_rfl) (by kernel_rfl) (by kernel_rfl) (fun _ _ _ h => h) (Or.inl ⟨by kernel_rfl, ?_⟩) ?_
    case refine_2 => ((intro w; go_simp); try with_reducible rfl)
    refine wpAny_take (i := 5) (v := ?_) rfl (by kernel_rfl) (by kernel_rfl) (by kernel_rfl) (fun _ _ _ h => h) (Or.inl ⟨by kernel_rfl, ?_⟩) ?_
    case refine_2 => ((intro w; go_simp); try with_reducible rfl)
    refine wpAny_ready (rs := [3]) (by kernel_rfl) (by simp) ?_
    refine AllReady.cons rfl (fun K hK => ?_) AllReady.nil
    go_simp
    refine (trimR_any _ A n c l (Sl.drew h) hn).mono ?_
    rintro e w' ⟨⟨k, hk, rfl, hz, hx⟩, rfl⟩
    have HZ := Lib.hid hz
    have HX := Lib.hid hx
    clear hz hx
    go_simp
    refine hK _ _ ?_
    clear hK K
    refine wpAny_ready (rs := [6]) (by kernel_rfl) (by simp) ?_
    refine AllReady.cons rfl (fun K hK => ?_) AllReady.nil
    go_simp
    refine (trimL_any _ A k c (l.take k) (Sl.drew (cutH h .i64 k k rfl hk).2) (by omega) (fun q => by
      obtain ⟨x, h1, h2⟩ := HX.out q
      exact ⟨x, by rw [List.getElem?_take, if_pos (by omega)]; exact h1, h2⟩)).mono ?_
    rintro e w' ⟨⟨A3, n3, c3, rfl, h3⟩, rfl⟩
    have H3 := Lib.hid h3
    clear h3
    go_simp
    refine hK _ _ ?_
    clear hK K
    refine wpAny_take (i := 7) (v := ?_) rfl (by kernel_rfl) (by kernel_rfl) (by kernel_rfl) (fun _ _ _ h => h) (Or.inl ⟨by kernel_rfl, ?_⟩) ?_
    case refine_2 => ((intro w; go_simp); try with_reducible rfl)
    refine wpAny_done (by kernel_rfl) ?_ _
    go_wp2
    go_ret
    refine ⟨A3, n3, c3, rfl, H3.out.trans (all_zero (by have := Hl.out; omega) (by rw [Hl.out]; exact HZ.out) HX.out), 1, rfl⟩
end Go.Proofs.YtpjinmiedanebaaDoor
