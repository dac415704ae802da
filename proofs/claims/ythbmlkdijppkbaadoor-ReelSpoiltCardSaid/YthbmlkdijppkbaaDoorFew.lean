/-
  What ref06.Few and ref06.Same answer. No condition.
-/
import Derived.Test.YthbmlkdijppkbaaDoorParts
import Derived.Test.YthbmlkdijppkbaaDoorSealPlain
namespace Go.Proofs.YthbmlkdijppkbaaDoor
open Go.RowKit

/-- not too many, nor too long -/
def fewL (ls : List (List UInt8)) (k long : Nat) : List (List UInt8) := (ls.take k).map fun l => l.take long
theorem fewL_length (ls : List (List UInt8)) (k long : Nat) : (fewL ls k long).length = min k ls.length := by simp [fewL]
theorem fewL_mem {ls : List (List UInt8)} {k long : Nat} {l : List UInt8} (h : l ∈ fewL ls k long) : l.length ≤ long := by
  unfold fewL at h
  obtain ⟨x, _, rfl⟩ := List.mem_map.1 h
  simp
  omega
/-- a list of texts in memory of the call's own -/
def NewP (w : World) (ls : List (List UInt8)) (e : Ending) (w' : World) : Prop :=
  ∃ (A : Option Addr) (n c : Nat) (vs : List Value), e = .returned (.slice A n c) ∧ OwnP w' w.heap.size A n c vs ∧ OwnParts w' w.heap.size none vs ls ∧ Below w.heap.size w w'
set_option maxHeartbeats 1000000 in
theorem few_any (w : World) (A : Option Addr) (n c : Nat) (vs : List Value) (ls : List (List UInt8)) (k long : Nat) (h : Sl w 1 A n c vs) (hp : PartsOf w vs ls) (hk : k ≤ 1000) (hl : long ≤ 100000) :
    Calls Tryd.prog 34 #[.slice A n c, .int .i64 (k : Int), .int .i64 (long : Int)] w (NewP w (fewL ls k long)) := by
  have hcm := h.capm
  have hcc := h.cap
  unfold maxLen at hcm
  have Hl : Hid (ls.length = n) := by have h1 := h.len; have h2 := hp.1; unfold Hid; omega
  go_enter Tryd.func34, Tryd.ntmps34
  go_wp2
  go_loopw [7, 12] (fun ov q wr => ∃ j : Nat, j ≤ n ∧ q = .int .i64 j ∧ Below w.heap.size w wr ∧ ∃ A2 c2 vs2, ov = .slice A2 (min k j) c2 ∧ OwnP wr w.heap.size A2 (min k j) c2 vs2 ∧ OwnParts wr w.heap.size none vs2 (fewL (ls.take j) k long)) (fun _ q _ => n - (intOf q).toNat)
  case atStart =>
    have e : fewL (List.take 0 ls) k long = [] := by simp [fewL]
    exact ⟨0, Nat.zero_le _, rfl, Below.refl _ _, none, 0, [], by simp, by rw [Nat.min_zero]; exact Own.nil _ _ _ _ _, by rw [e]; exact OwnParts.nil _ _ _⟩
  case round =>
    obtain ⟨j, hj, rfl, hbr, A2, c2, vs2, rfl, ho2, hp2⟩ := hrel
    by_cases hlt : j < n
    · obtain ⟨b, o, A', n', c', hkl, rfl, hcell, hsl⟩ := (hp.below hbr).get (h.below (by omega) hbr) hlt
      have hsz := hbr.size
      by_cases hjk : j < k
      · have e1 : min k j = j := by omega
        have e2 : min k (j + 1) = j + 1 := by omega
        have e3 : fewL (ls.take (j + 1)) k long = fewL (ls.take j) k long ++ [ls[j].take long] := by
          unfold fewL
          rw [take_snoc _ _ hkl, List.take_append, List.length_take, List.map_append]
          rw [show k - min j ls.length = (k - j - 1) + 1 by omega]
          simp
        rw [e1] at ho2
        rw [e1]
        have H2 := Lib.hid ho2
        have P2 := Lib.hid hp2
        clear ho2 hp2
        go_wp2_with fail
        refine (cut_any wr A' n' c' ls[j] long hsl (by omega)).mono ?_
        rintro e w1 ⟨A3, n3, c3, rfl, ho3, hb3⟩
        have hba := (Below.refl w1.heap.size w1).alloc (Nat.le_refl _) (.cells #[.slice A3 n3 c3] 24)
        have hs1 := hb3.size
        have hlit := Own.lit w1 w.heap.size 24 1 #[.slice A3 n3 c3] [.slice A3 n3 c3] (by omega) rfl (by unfold maxLen; omega) rfl
        have hoP : OwnP (w1.alloc (.cells #[.slice A3 n3 c3] 24)) w.heap.size A2 j c2 vs2 := Own.below (Own.below H2.out hb3) hba
        have hpP := (P2.out.below hb3).below hba
        have hoN := Own.below ho3 hba
        clear ho3
        go_wp2_with (at_builtin; refine wpList_appP _ rfl (.tmp 20) (.tmp 24) rfl w.heap.size A2 j c2 _ rfl hoP _ 1 1 [.slice A3 n3 c3] rfl hlit.sl (one_cell _ _ _) ?_ ?_ ?_)
        · omega
        · rw [World.size_alloc]; omega
        intro A4 c4 w4 ho4 hg4 _
        go_wp2
        go_roundw
        case rel =>
          refine ⟨j + 1, by omega, by go_num, ((hbr.trans (hb3.mono hsz)).alloc (by omega) _).grown hg4 (by simp; omega) (fun q hq => (Own.lt hoP q hq).1), A4, c4, _, by rw [e2], by rw [e2]; exact ho4, ?_⟩
          rw [e3]
          refine (hpP.wroteRow hoP (by decide) hg4).snoc (Own.mono (Own.grown hoN hg4 (own_apart hoN hoP (by decide))) hsz) (fun b hb => by simp)
        case measure => simp [intOf]; omega
      · have e1 : min k (j + 1) = min k j := by omega
        have e2 : fewL (ls.take (j + 1)) k long = fewL (ls.take j) k long := by
          unfold fewL
          rw [List.take_take, List.take_take, e1]
        have H2 := Lib.hid ho2
        have P2 := Lib.hid hp2
        clear ho2 hp2
        go_wp2
        go_roundw
        case rel => exact ⟨j + 1, by omega, by go_num, hbr, A2, c2, vs2, by rw [e1], by rw [e1]; exact H2.out, by rw [e2]; exact P2.out⟩
        case measure => simp [intOf]; omega
    · obtain rfl : j = n := by omega
      rw [List.take_of_length_le (show ls.length ≤ j by have := Hl.out; omega)] at hp2
      have H2 := Lib.hid ho2
      have P2 := Lib.hid hp2
      clear ho2 hp2
      go_wp2
      go_ret
      exact ⟨A2, _, c2, vs2, rfl, H2.out, P2.out, hbr⟩
end Go.Proofs.YthbmlkdijppkbaaDoor
