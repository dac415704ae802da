/-
  What bytes.Trim answers of noughts: nothing is left just where all are noughts. No condition but sizes.
-/
import Derived.Test.YthbmlkdijppkbaaDoorBytes
import Derived.Deep.RegionLaw
namespace Go.Proofs.YthbmlkdijppkbaaDoor
open Go.RowKit

set_option maxHeartbeats 1000000 in
theorem trimR_any (w : World) (A : Option Addr) (n c : Nat) (l : List UInt8) (h : Sl w 1 A n c (bc l)) (hn : n ≤ 1000000) :
    Calls Tryd.prog 64 #[.slice A n c, .int .u8 0] w fun e w' => (∃ k, k ≤ n ∧ e = .returned (.slice A k c) ∧ (∀ i, k ≤ i → i < n → l[i]? = some 0) ∧ (0 < k → ∃ x, l[k - 1]? = some x ∧ x ≠ 0)) ∧ w = w' := by
  have Hl : Hid (l.length = n) := h.lenb
  have hcap := h.cap
  have hcm := h.capm
  unfold maxLen at hcm
  go_enter Tryd.func64, Tryd.ntmps64
  go_wp2_with fail
  go_loop [0] (fun p => ∃ k : Nat, k ≤ n ∧ p = .slice A k c ∧ Hid (∀ i, k ≤ i → i < n → l[i]? = some 0)) (fun p => match p with | .slice _ k _ => k | _ => 0)
  case atStart => exact ⟨n, Nat.le_refl _, rfl, fun i h1 h2 => absurd h2 (by omega)⟩
  case round =>
    obtain ⟨k, hk, rfl, HZ⟩ := hrel
    cases k with
    | zero =>
      go_wp2
      go_ret
      exact ⟨⟨0, hk, rfl, HZ.out, fun q => absurd q (by omega)⟩, rfl⟩
    | succ k =>
      have hkl : k < l.length := by have := Hl.out; omega
      obtain ⟨g, o, x, rfl, hx, hxl, hcell⟩ := h.byte hkl
      have hr := cutC (A := some ⟨g, o, none⟩) (n := k + 1) (c := c) .i64 (k : Int) k rfl (by omega)
      have Hx := Lib.hid hx
      clear hx
      by_cases h0 : x = 0
      · have d1 : ((x : Int) == 0) = true := by simp; omega
        have hz : l[k]? = some 0 := by
          rw [List.getElem?_eq_getElem hkl]
          congr 1
          rw [← UInt8.toNat_inj, Hx.out, h0]
          rfl
        have HZ2 := Lib.hid hz
        clear h0 hz
        go_wp2
        go_round
        case rel =>
          refine ⟨k, by omega, rfl, fun i h1 h2 => ?_⟩
          rcases Nat.eq_or_lt_of_le h1 with e | e
          · rw [← e]; exact HZ2.out
          · exact HZ.out i (by omega) h2
        case measure => show k < k + 1; omega
      · have d1 : ((x : Int) == 0) = false := by simp; omega
        have hz : ∃ y, l[k]? = some y ∧ y ≠ 0 := ⟨l[k], List.getElem?_eq_getElem hkl, fun e => h0 (by rw [← Hx.out, e]; rfl)⟩
        have HZ2 := Lib.hid hz
        clear h0 hz
        go_wp2
        go_ret
        exact ⟨⟨k + 1, hk, rfl, HZ.out, fun _ => HZ2.out⟩, rfl⟩
def TrimL (n : Nat) (e : Ending) : Prop := ∃ (A' : Option Addr) (n' c' : Nat), e = .returned (.slice A' n' c') ∧ (n' = 0 ↔ n = 0)
set_option maxHeartbeats 1000000 in
theorem trimL_any (w : World) (A : Option Addr) (n c : Nat) (l : List UInt8) (h : Sl w 1 A n c (bc l)) (hn : n ≤ 1000000) (hlast : 0 < n → ∃ x, l[n - 1]? = some x ∧ x ≠ 0) :
    Calls Tryd.prog 63 #[.slice A n c, .int .u8 0] w fun e w' => TrimL n e ∧ w = w' := by
  have Hl : Hid (l.length = n) := h.lenb
  have hcap := h.cap
  have hcm := h.capm
  have HL := Lib.hid hlast
  unfold maxLen at hcm
  clear hlast
  go_enter Tryd.func63, Tryd.ntmps63
  go_wp2_with fail
  go_loop [0] (fun p => ∃ (j : Nat) (A' : Option Addr) (c' : Nat), j ≤ n ∧ (j = n → n = 0) ∧ p = .slice A' (n - j) c' ∧ Sl w 1 A' (n - j) c' (bc (l.drop j))) (fun p => match p with | .slice _ k _ => k | _ => 0)
  case atStart => exact ⟨0, A, c, Nat.zero_le _, fun e => e.symm, rfl, h⟩
  case round =>
    obtain ⟨j, A', c', hj, hjn, rfl, hs⟩ := hrel
    by_cases h0 : n = 0
    · subst h0
      obtain rfl : j = 0 := by omega
      go_wp2
      go_ret
      exact ⟨⟨none, 0, 0, rfl, by simp⟩, rfl⟩
    · have hjlt : j < n := by
        rcases Nat.eq_or_lt_of_le hj with e | e
        · exact absurd (hjn e) h0
        · exact e
      obtain ⟨m, hm⟩ : ∃ m, n - j = m + 1 := ⟨n - j - 1, by omega⟩
      rw [hm] at hs
      rw [hm]
      obtain ⟨g, o, x, rfl, hx, hxl, hcell⟩ := hs.byte (k := 0) (by have := hs.lenb; omega)
      rw [Nat.add_zero] at hcell
      have hc2 := hs.cap
      have hc3 := hs.capm
      unfold maxLen at hc3
      obtain ⟨A2, r2, s2, _⟩ := cutL hs .i64 1 1 rfl (by omega)
      rw [List.drop_drop] at s2
      have Hx := Lib.hid hx
      have Hm := Lib.hid hm
      have hsub : m + 1 - 1 = m := by omega
      rw [hsub] at s2
      simp only [hsub] at r2
      clear hx hm hsub hjn
      by_cases hx0 : x = 0
      · have d1 : ((x : Int) == 0) = true := by simp; omega
        have hmj : j + 1 = n → n = 0 := fun e => by
          exfalso
          obtain ⟨y, hy, hy0⟩ := HL.out (by omega)
          have h5 := Hx.out
          rw [List.getElem_drop] at h5
          rw [List.getElem?_eq_getElem (by have := Hl.out; omega)] at hy
          refine hy0 ?_
          rw [← Option.some.inj hy, ← UInt8.toNat_inj]
          have e2 : n - 1 = j + 0 := by omega
          simp only [e2]
          rw [h5, hx0]
          rfl
        have HMJ := Lib.hid hmj
        clear hx0 hmj
        go_wp2
        go_round
        case rel => exact ⟨j + 1, A2, c' - 1, by omega, HMJ.out, by have h6 := Hm.out; rw [show n - (j + 1) = m by omega], by have h6 := Hm.out; rw [show n - (j + 1) = m by omega]; exact s2⟩
        case measure => show m < m + 1; omega
      · have d1 : ((x : Int) == 0) = false := by simp; omega
        have d2 : ((m : Int) + 1 == 0) = false := by simp; omega
        clear hx0
        go_wp2
        go_ret
        exact ⟨⟨_, m + 1, c', rfl, by omega⟩, rfl⟩
/-- what Trim leaves: nothing, just where all are noughts -/
def TrimB (l : List UInt8) (w : World) (e : Ending) (w' : World) : Prop :=
  ∃ (A' : Option Addr) (n' c' : Nat), e = .returned (.slice A' n' c') ∧ (n' = 0 ↔ l.all (· == 0) = true) ∧ ∃ q, w' = w.drewN q
theorem all_zero {l : List UInt8} {k : Nat} (hk : k ≤ l.length) (h1 : ∀ i, k ≤ i → i < l.length → l[i]? = some 0) (h2 : 0 < k → ∃ x, l[k - 1]? = some x ∧ x ≠ 0) : k = 0 ↔ l.all (· == 0) = true := by
  constructor
  · rintro rfl
    rw [List.all_eq_true]
    intro x hx
    obtain ⟨i, hi, rfl⟩ := List.getElem_of_mem hx
    have := h1 i (Nat.zero_le _) hi
    rw [List.getElem?_eq_getElem hi] at this
    simp [Option.some.inj this]
  · intro h
    rcases Nat.eq_zero_or_pos k with e | e
    · exact e
    · exfalso
      obtain ⟨x, hx, h0⟩ := h2 e
      rw [List.all_eq_true] at h
      have := h x (List.mem_of_getElem? hx)
      exact h0 (by simpa using this)
set_option maxRecDepth 20000 in
set_option maxHeartbeats 2000000 in
theorem trim_any (w : World) (A : Option Addr) (n c : Nat) (l : List UInt8) (h : Sl w 1 A n c (bc l)) (hn : n ≤ 1000000) :
    Calls Tryd.prog 61 #[.slice A n c, .string { data := #[0] }] w (TrimB l w) := by
  have Hl : Hid (l.length = n) := h.lenb
  have hcap := h.cap
  have hcm := h.capm
  unfold maxLen at hcm
  by_cases h0 : n = 0
  · subst h0
    obtain rfl : l = [] := List.eq_nil_of_length_eq_zero Hl.out
    go_enter Tryd.func61, Tryd.ntmps61
    go_wp2
    go_ret
    exact ⟨none, 0, 0, rfl, by simp, 0, rfl⟩
  · have d0 : ((n : Int) == 0) = false := by simp; omega
    go_enter Tryd.func61, Tryd.ntmps61
    go_wp2_with fail
    refine wp_region_any (by kernel_rfl) ?_
    try (change wpAny _ _ _ _ _ _ _ (World.drew _))
    refine wpAny_take (i := 0) (v := ?_) rfl (by kernel_rfl) (by kernel_rfl) (by kernel_rfl) (fun _ _ _ h => h) (Or.inl ⟨by kernel_rfl, ?_⟩) ?_
    case refine_2 => ((intro w; go_simp); try with_reducible rfl)
    refine wpAny_take (i := 1) (v := ?_) rfl (by kernel_rfl) (by kernel_rfl) (by kernel_rfl) (fun _ _ _ h => h) (Or.inl ⟨by kernel_rfl, ?_⟩) ?_
    case refine_2 => ((intro w; go_simp); try with_reducible rfl)
    refine wpAny_take (i := 2) (v := ?_) rfl (by kernel_rfl) (by kernel_rfl) (by kernel_rfl) (fun _ _ _ h => h) (Or.inl ⟨by kernel_rfl, ?_⟩) ?_
    case refine_2 => ((intro w; go_simp); try with_reducible rfl)
    refine wpAny_take (i := 4) (v := ?_) rfl (by kernel_rfl) (by kernel_rfl) (by kernel_rfl) (fun _ _ _ h => h) (Or.inl ⟨by kernel_rfl, ?_⟩) ?_
    case refine_2 => ((intro w; go_simp); try with_reducible rfl)
    refine wpAny_take (i := 5) (v := ?_) rfl (by kernel_rfl) (by kernel_rfl) (by kernel_rfl) (fun _ _ _ h => h) (Or.inl ⟨by kernel_rfl, ?_⟩) ?_
    case refine_2 => ((intro w; go_simp); try with_reducible rfl)
    refine wpAny_ready (rs := [3]) (by kernel_rfl) (by simp) ?_
    refine AllReady.cons rfl (fun K hK => ?_) AllReady.nil
    go_simp
    refine (trimR_any _ A n c l (Sl.drew h) hn).mono ?_
    rintro e w' ⟨⟨k, hk, rfl, hz, hx⟩, rfl⟩
    have HZ := Lib.hid hz
    have HX := Lib.hid hx
    clear hz hx
    go_simp
    refine hK _ _ ?_
    clear hK K
    refine wpAny_ready (rs := [6]) (by kernel_rfl) (by simp) ?_
    refine AllReady.cons rfl (fun K hK => ?_) AllReady.nil
    go_simp
    refine (trimL_any _ A k c (l.take k) (Sl.drew (cutH h .i64 k k rfl hk).2) (by omega) (fun q => by
      obtain ⟨x, h1, h2⟩ := HX.out q
      exact ⟨x, by rw [List.getElem?_take, if_pos (by omega)]; exact h1, h2⟩)).mono ?_
    rintro e w' ⟨⟨A3, n3, c3, rfl, h3⟩, rfl⟩
    have H3 := Lib.hid h3
    clear h3
    go_simp
    refine hK _ _ ?_
    clear hK K
    refine wpAny_take (i := 7) (v := ?_) rfl (by kernel_rfl) (by kernel_rfl) (by kernel_rfl) (fun _ _ _ h => h) (Or.inl ⟨by kernel_rfl, ?_⟩) ?_
    case refine_2 => ((intro w; go_simp); try with_reducible rfl)
    refine wpAny_done (by kernel_rfl) ?_ _
    go_wp2
    go_ret
    refine ⟨A3, n3, c3, rfl, H3.out.trans (all_zero (by have := Hl.out; omega) (by rw [Hl.out]; exact HZ.out) HX.out), 1, rfl⟩
end Go.Proofs.YthbmlkdijppkbaaDoor
