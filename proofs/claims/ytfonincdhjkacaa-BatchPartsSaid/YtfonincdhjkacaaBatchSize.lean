/-
  batch.Size: how many bytes ops have. No condition but sizes.
-/
import Derived.Test.YtfonincdhjkacaaGByt
import Derived.Test.YtfonincdhjkacaaGBat
namespace Go.Proofs.Ytfonincdhjkacaa
open Go.RowKit
set_option maxRecDepth 20000
theorem size_step (ls : List OpL) (j : Nat) (hj : j < ls.length) : sizeOpsL (ls.take (j + 1)) = sizeOpsL (ls.take j) + (ls[j].key.length + ls[j].value.length) := by
  unfold sizeOpsL
  rw [List.take_succ_eq_append_getElem hj, List.map_append, List.sum_append]
  simp
theorem size_le (ls : List OpL) (hz : ∀ o ∈ ls, o.key.length ≤ 10000 ∧ o.value.length ≤ 10000) : ∀ j, sizeOpsL (ls.take j) ≤ 20000 * j
  | 0 => by simp [sizeOpsL]
  | j + 1 => by
    have ih := size_le ls hz j
    rcases Nat.lt_or_ge j ls.length with h | h
    · rw [size_step ls j h]
      have := hz _ (List.getElem_mem h)
      omega
    · rw [List.take_of_length_le (by omega)] at ih ⊢
      omega
set_option maxHeartbeats 4000000 in
theorem size_any (w : World) (p : Nat → Prop) (A : Option Addr) (n c : Nat) (ls : List OpL) (h : SlR w p A n c ls) (hn : ls.length ≤ 1000) (hz : ∀ o ∈ ls, o.key.length ≤ 10000 ∧ o.value.length ≤ 10000) :
    Calls Try.prog 42 #[.slice A n c] w fun e w' => e = .returned (.int .i64 (sizeOpsL ls : Nat)) ∧ Below w.heap.size w w' := by
  have hl := h.lenR
  have Hl := Lib.hid hl
  have hn' : n ≤ 1000 := by omega
  have Hn := Lib.hid hn'
  have Hz := Lib.hid (size_le ls hz)
  clear hl hn hz
  go_enter Try.func42, Try.ntmps42
  go_wp2
  go_loopw [3, 8] (fun s q wr => ∃ j : Nat, j ≤ n ∧ q = .int .i64 j ∧ s = .int .i64 (sizeOpsL (ls.take j) : Nat) ∧ Below w.heap.size w wr) (fun _ q _ => n - (intOf q).toNat)
  case atStart => exact ⟨0, Nat.zero_le _, rfl, rfl, Below.refl _ _⟩
  case round =>
    obtain ⟨j, hj, rfl, rfl, hbr⟩ := hrel
    by_cases hlt : j < n
    · obtain ⟨b, o, A3, n3, c3, A4, n4, c4, hjl, rfl, d0, d1, d2, hs3, hs4⟩ := (h.below hbr).opAt hlt
      have hst := size_step ls j hjl
      rw [hs3.lenb, hs4.lenb] at hst
      have hle := Hz.out (j + 1)
      generalize ls[j].kind.toNat = d at *
      generalize sizeOpsL (ls.take j) = s at *
      generalize hS : sizeOpsL (ls.take (j + 1)) = s' at *
      have Hst := Lib.hid hst
      have Hle := Lib.hid hle
      have HS := Lib.hid hS
      clear hs3 hs4 hst hle hS
      have e1 : wrap64 ((s : Int) + wrap64 ((n3 : Int) + (n4 : Int))) = (s' : Int) := by have := Hst.out; have := Hle.out; have := Hn.out; unfold wrap64; omega
      go_wp2
      go_roundw
      case rel => exact ⟨j + 1, by omega, by go_num, by rw [HS.out]; first | rfl | (rw [e1]) | (congr 1; go_num; have := Hst.out; have := Hle.out; have := Hn.out; omega), hbr.alloc hbr.size _⟩
      case measure => simp [intOf]; omega
    · obtain rfl : n = j := by omega
      rw [List.take_of_length_le (by have := Hl.out; omega)]
      go_wp2
      go_ret
      exact ⟨rfl, hbr⟩
end Go.Proofs.Ytfonincdhjkacaa
