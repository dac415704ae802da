/-
  The walk of SealSums: the sum of all bytes in however many parts is what is left of the division; true at every input. The table lies in its variable.
-/
import Derived.Test.YthbmlkdijppkbaaDoorSealAwake
import Derived.Test.YthbmlkdijppkbaaDoorParts
namespace Go.Proofs.YthbmlkdijppkbaaDoor
open Go.RowKit

/-- the parts that are taken -/
def few8 (ls : List (List UInt8)) : List (List UInt8) := (ls.take 8).map fun l => l.take 100
theorem few8_short (ls : List (List UInt8)) : (few8 ls).length ≤ 8 := by simp [few8]; omega
theorem flat_len (k : Nat) : ∀ (ls : List (List UInt8)), (∀ l ∈ ls, l.length ≤ k) → ls.flatten.length ≤ k * ls.length
  | [], _ => by simp
  | l :: r, h => by
    have h1 := h l (by simp)
    have h2 := flat_len k r fun x hx => h x (by simp [hx])
    simp only [List.flatten_cons, List.length_append, List.length_cons, Nat.mul_succ]
    omega
theorem few8_flat (ls : List (List UInt8)) : (few8 ls).flatten.length ≤ 800 := by
  have h1 := few8_short ls
  have h2 := flat_len 100 (few8 ls) (fun l hl => by
    simp only [few8, List.mem_map] at hl
    obtain ⟨x, _, rfl⟩ := hl
    simp
    omega)
  omega
theorem few8_more (ls : List (List UInt8)) (k : Nat) (hk : k < ls.length) (h8 : k < 8) : few8 (ls.take (k + 1)) = few8 (ls.take k) ++ [ls[k].take 100] := by
  unfold few8
  rw [take_snoc ls k hk, List.take_of_length_le (l := ls.take k ++ [ls[k]]) (by simp; omega), List.take_of_length_le (l := ls.take k) (by simp; omega), List.map_append]
  rfl
theorem few8_same (ls : List (List UInt8)) (k : Nat) (h8 : 8 ≤ k) : few8 (ls.take (k + 1)) = few8 (ls.take k) := by
  unfold few8
  rw [List.take_take, List.take_take, Nat.min_eq_left (by omega), Nat.min_eq_left h8]

set_option maxHeartbeats 2000000 in
theorem sealSums.walk (w : World) (A : Option Addr) (n c : Nat) (vs : List Value) (ls : List (List UInt8)) (h : Sl w 1 A n c vs) (hp : PartsOf w vs ls) (hq : Quarter w) :
    Calls Tryd.prog 3 #[.slice A n c] w fun e w' => e = .returned (.bool true) ∧ Below w.heap.size w w' := by
  have hm := h.capm
  have hcap := h.cap
  unfold maxLen at hm
  have Hlen : Hid (ls.length = n) := by have := h.len; have := hp.1; unfold Hid; omega
  go_enter Tryd.func3, Tryd.ntmps3
  go_wp2_with fail
  refine (awake02 w hq).mono ?_
  rintro e w0 ⟨rfl, hb0⟩
  have h0 := h.below (by omega) hb0
  have hp0 := hp.below hb0
  clear h hp
  go_wp2_with fail
  go_loopw [3, 4, 11] (fun a b i wr => ∃ k : Nat, k ≤ n ∧ i = .int .i64 k ∧ Below w.heap.size w wr ∧ Below w0.heap.size w0 wr ∧
    ∃ (A3 : Option Addr) (m c3 : Nat) (ws : List Value) (A4 : Option Addr) (n4 c4 : Nat), a = .slice A3 m c3 ∧ b = .slice A4 n4 c4 ∧ OwnP wr w0.heap.size A3 m c3 ws ∧ OwnParts wr w0.heap.size (blk A4 c4) ws (few8 (ls.take k)) ∧ OwnB wr w0.heap.size A4 n4 c4 (few8 (ls.take k)).flatten) (fun _ _ i _ => n - (intOf i).toNat)
  case atStart => exact ⟨0, Nat.zero_le _, rfl, hb0, Below.refl _ _, none, 0, 0, [], none, 0, 0, rfl, rfl, Own.nil _ _ _ _ _, by simpa [few8] using OwnParts.nil _ _ _, by have := Own.nil w0 w0.heap.size 5 1 none; unfold OwnB; simpa [few8] using this⟩
  case round =>
    obtain ⟨k, hk, rfl, hbw, hbr, A3, m, c3, ws, A4, n4, c4, rfl, rfl, hoP, hoQ, hoB⟩ := hrel
    by_cases hlt : k < n
    · obtain ⟨b, o, A', n', c', hkl, rfl, hcell, hsl⟩ := (hp0.below hbr).get (h0.below (by omega) hbr) hlt
      by_cases h8 : k < 8
      · have hfm := few8_more ls k hkl h8
        have Hfm := Lib.hid hfm
        clear hfm
        have hm3 : m ≤ 8 := by have := hoP.len; have := hoQ.1; have := few8_short (ls.take k); omega
        have hn4 : n4 ≤ 800 := by have := OwnB.len' hoB; have := few8_flat (ls.take k); omega
        go_wp2_with fail
        refine (cut_any wr A' n' c' _ 100 hsl (by omega)).mono ?_
        rintro e w1 ⟨A5, n5, c5, rfl, ho5, hb5⟩
        have hl5 := OwnB.len' ho5
        have hn5 : n5 ≤ 100 := by rw [← hl5]; simp; omega
        clear hl5
        have hlit : Sl (w1.alloc (.cells #[.slice A5 n5 c5] 24)) 1 (some ⟨w1.heap.size, 0, none⟩) 1 1 [.slice A5 n5 c5] := Sl.lit w1 _ _ 1 _ _ rfl (by unfold maxLen; omega) rfl
        have hba := (Below.refl w1.heap.size w1).alloc (Nat.le_refl _) (.cells #[.slice A5 n5 c5] 24)
        have hb5a := hb5.trans (hba.mono hb5.size)
        have oP := Own.below hoP hb5a
        have oQ := hoQ.below hb5a
        have oB := Own.below hoB hb5a
        have o5 := Own.below ho5 hba
        have hsz := hbr.size
        have hs5 := hb5.size
        go_wp2_with (at_builtin; refine wpList_appP _ rfl (.tmp 20) (.tmp 22) rfl w0.heap.size A3 m c3 ws rfl oP _ 1 1 _ rfl hlit (one_cell _ _ _) ?_ ?_ ?_)
        · omega
        · simp; omega
        intro A6 c6 w2 ho6 hg6 hk6
        have oQ2 := oQ.wroteRow oP (by decide) hg6
        have oB2 := Own.grown oB hg6 (fun b hb => own_apart oB oP (by decide) b hb)
        have o52 := Own.grown o5 hg6 (fun b hb => own_apart o5 oP (by decide) b hb)
        have hsz2 := hg6.size
        simp at hsz2
        have hX : ∀ b, blk A5 c5 = some b → blk A4 c4 ≠ some b := fun b hb hb' => by
          have h1 := (Own.lt ho5 b hb).1
          have h2 := (Own.lt hoB b hb').2
          omega
        have oQ3 := oQ2.snoc (Own.mono o52 (by omega)) hX
        have hbr2 : Below w0.heap.size w0 w2 := (hbr.trans (hb5a.mono hsz)).grown hg6 (by simp; omega) (fun b hb => by have := (Own.lt oP b hb).1; omega)
        clear hlit hba hg6 hk6 oQ2 o5
        go_wp2_with (at_builtin; refine wpList_appB _ rfl (.tmp 24) (.tmp 25) rfl w0.heap.size A4 n4 c4 _ rfl oB2 _ n5 c5 _ rfl o52.sl ?_ ?_ ?_)
        · omega
        · omega
        intro A7 c7 w3 ho7 hg7 hk7
        have oP3 := Own.grown ho6 hg7 (fun b hb => own_apart ho6 oB2 (by decide) b hb)
        have oQ4 := oQ3.moved hg7 hk7
        have hbr3 : Below w0.heap.size w0 w3 := hbr2.grown hg7 hbr2.size (fun b hb => (Own.lt oB b hb).1)
        go_wp2
        go_roundw
        case rel => exact ⟨k + 1, by omega, by go_num, hb0.trans (hbr3.mono hb0.size), hbr3, A6, _, c6, _, A7, _, c7, rfl, rfl, oP3, by rw [Hfm.out]; exact oQ4, by rw [Hfm.out, List.flatten_append]; simpa using ho7⟩
        case measure => simp [intOf]; omega
      · have hfs := few8_same ls k (by omega)
        have Hfs := Lib.hid hfs
        clear hfs
        go_wp2
        go_roundw
        case rel => exact ⟨k + 1, by omega, by go_num, hbw, hbr, A3, m, c3, ws, A4, n4, c4, rfl, rfl, hoP, by rw [Hfs.out]; exact hoQ, by rw [Hfs.out]; exact hoB⟩
        case measure => simp [intOf]; omega
    · obtain rfl : k = n := by omega
      have e : ls.take k = ls := List.take_of_length_le (by have := Hlen.out; omega)
      rw [e] at hoQ hoB
      clear e
      have hqr := hq.below hbw
      have hfl := few8_flat ls
      have hn4 := OwnB.len' hoB
      have hn48 : n4 ≤ 800 := by omega
      clear hn4
      obtain ⟨p1, p2⟩ := one_part wr A4 n4 c4 _ hoB.sl 24
      go_wp2_with fail
      refine (sum_any wr A3 m c3 ws _ (Own.sl hoP) hoQ.parts hqr).mono ?_
      rintro e w1 ⟨rfl, rfl⟩
      go_wp2_with fail
      refine (rsum_any _ A4 n4 c4 _ hoB.sl (by omega)).mono ?_
      rintro e w2 ⟨rfl, hb2⟩
      have hoB2 := Own.below hoB hb2
      obtain ⟨p1, p2⟩ := one_part w2 A4 n4 c4 _ (OwnB.sl hoB2) 24
      have hb2a := hb2.trans (((Below.refl w2.heap.size w2).alloc (Nat.le_refl _) (.cells #[.slice A4 n4 c4] 24)).mono hb2.size)
      have hq2 := hqr.below hb2a
      have c2 := sum_any _ _ 1 1 _ _ p1 p2 hq2
      simp only [List.flatten_cons, List.flatten_nil, List.append_nil] at c2
      have C2 := Lib.hid c2
      clear c2 p1 p2 hq2 hb2
      go_wp2_with fail
      refine (C2.out).mono ?_
      rintro e w3 ⟨rfl, rfl⟩
      go_wp2_with fail
      refine (rsum_any _ A4 n4 c4 _ (Own.below hoB hb2a).sl (by omega)).mono ?_
      rintro e w4 ⟨rfl, hb4⟩
      go_wp2
      go_ret
      exact ⟨rfl, (hbw.trans (hb2a.mono hbw.size)).trans (hb4.mono (Nat.le_trans hbw.size hb2a.size))⟩
end Go.Proofs.YthbmlkdijppkbaaDoor
