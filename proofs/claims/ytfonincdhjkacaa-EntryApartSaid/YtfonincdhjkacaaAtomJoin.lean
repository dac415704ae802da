/-
  What atom's Join and Text compute, and what TakeText makes of a text's bytes. No condition but sizes.
-/
import Derived.Test.YtfonincdhjkacaaJoin
import Derived.Test.YtfonincdhjkacaaAtomText
namespace Go.Proofs.Ytfonincdhjkacaa
set_option maxRecDepth 20000
open Go.RowKit

theorem ajoin_any (w : World) (A : Option Addr) (n c : Nat) (vs : List Value) (ls : List (List UInt8)) (h : Sl w 1 A n c vs) (hp : PartsOf w vs ls) (hn : n ≤ 1000000) (hF : ls.flatten.length ≤ 1099511627776) :
    Calls Try.prog 67 #[.slice A n c] w (NewB w ls.flatten) := by
  have hc := join_any w A n c vs ls h hp hn hF
  have Hc := Lib.hid hc
  clear hc
  go_enter Try.func67, Try.ntmps67
  go_wp2_with fail
  refine Hc.out.mono ?_
  rintro e w1 ⟨A1, n1, c1, rfl, ho1, hb1⟩
  go_wp2
  go_ret
  exact ⟨A1, n1, c1, rfl, ho1, hb1⟩
/-- a row of two texts -/
theorem pair_parts (w : World) (A1 : Option Addr) (n1 c1 : Nat) (l1 : List UInt8) (A2 : Option Addr) (n2 c2 : Nat) (l2 : List UInt8) (h1 : Sl w 1 A1 n1 c1 (bc l1)) (h2 : Sl w 1 A2 n2 c2 (bc l2)) :
    Sl (w.alloc (.cells #[.slice A1 n1 c1, .slice A2 n2 c2] 23)) 1 (some ⟨w.heap.size, 0, none⟩) 2 2 [.slice A1 n1 c1, .slice A2 n2 c2] ∧
      PartsOf (w.alloc (.cells #[.slice A1 n1 c1, .slice A2 n2 c2] 23)) [.slice A1 n1 c1, .slice A2 n2 c2] [l1, l2] ∧ Below w.heap.size w (w.alloc (.cells #[.slice A1 n1 c1, .slice A2 n2 c2] 23)) := by
  have b := (Below.refl w.heap.size w).alloc (Nat.le_refl _) (.cells #[.slice A1 n1 c1, .slice A2 n2 c2] 23)
  refine ⟨Sl.lit w _ _ 2 _ _ rfl (by unfold maxLen; omega) rfl, ⟨rfl, ?_⟩, b⟩
  intro i v l hv hl
  rcases i with _ | _ | i
  · simp at hv hl; subst hv; subst hl; exact ⟨_, _, _, rfl, h1.below (by omega) b⟩
  · simp at hv hl; subst hv; subst hl; exact ⟨_, _, _, rfl, h2.below (by omega) b⟩
  · simp at hv
/-- Join of two -/
theorem ajoin_two (w : World) (A1 : Option Addr) (n1 c1 : Nat) (l1 : List UInt8) (A2 : Option Addr) (n2 c2 : Nat) (l2 : List UInt8) (h1 : Sl w 1 A1 n1 c1 (bc l1)) (h2 : Sl w 1 A2 n2 c2 (bc l2)) (hn : n1 + n2 ≤ 1099511627776) :
    Calls Try.prog 67 #[.slice (some ⟨w.heap.size, 0, none⟩) 2 2] (w.alloc (.cells #[.slice A1 n1 c1, .slice A2 n2 c2] 23)) (NewB w (l1 ++ l2)) := by
  obtain ⟨s, p, b⟩ := pair_parts w A1 n1 c1 l1 A2 n2 c2 l2 h1 h2
  have e1 := h1.lenb
  have e2 := h2.lenb
  have hf : [l1, l2].flatten = l1 ++ l2 := by simp
  refine (ajoin_any _ _ 2 2 _ _ s p (by omega) (by rw [hf, List.length_append]; omega)).mono ?_
  rw [hf]
  rintro e w1 ⟨A3, n3, c3, rfl, ho, hb⟩
  exact ⟨A3, n3, c3, rfl, Own.mono ho (by simp), b.trans (hb.mono (by simp))⟩
def textL (t : List UInt8) : List UInt8 := numL t.length ++ t
set_option maxHeartbeats 1000000 in
theorem text_any (w : World) (A : Option Addr) (n c : Nat) (t : List UInt8) (h : Sl w 1 A n c (bc t)) (hn : n ≤ 1000000) :
    Calls Try.prog 69 #[.slice A n c] w (NewB w (textL t)) := by
  have hl := h.lenb
  have hnl := num_len t.length
  have hc := fun w' => num_any t.length w' (by omega)
  have e : textL t = numL t.length ++ t := rfl
  rw [e]
  generalize hN : numL t.length = N at *
  rw [hl] at hc
  have Hc := Lib.hid hc
  clear hc hl e hN
  go_enter Try.func69, Try.ntmps69
  go_wp2_with fail
  refine (Hc.out _).mono ?_
  rintro e w1 ⟨A1, n1, c1, rfl, ho1, hb1⟩
  have hn1 := ho1.len'
  subst hn1
  go_wp2_with fail
  refine (ajoin_two w1 A1 _ c1 N A n c t (OwnB.sl ho1) (h.below (by omega) hb1) (by omega)).mono ?_
  rintro e w2 ⟨A2, n2, c2, rfl, ho2, hb2⟩
  go_wp2
  go_ret
  exact ⟨A2, n2, c2, rfl, Own.mono ho2 hb1.size, hb1.trans (hb2.mono hb1.size)⟩
theorem take_text (t rest : List UInt8) (ht : t.length < 18446744073709551616) (m : Nat) : takeTextL (textL t ++ rest) m = if t.length ≤ m then (t, rest, 0) else ([], [], 3) := by
  unfold takeTextL textL
  rw [List.append_assoc, take_num t.length ht]
  simp only [ne_eq, not_true_eq_false, if_false]
  by_cases h : t.length ≤ m
  · rw [if_neg (by omega), if_neg (by simp), if_pos h, List.take_left, List.drop_left]
  · rw [if_pos (.inr (by omega)), if_neg h]
/-- texts one behind the other -/
def textsL (ls : List (List UInt8)) : List UInt8 := (ls.map fun t => textL (t.take 300)).flatten
theorem textsL_snoc (ls : List (List UInt8)) (t : List UInt8) : textsL (ls ++ [t]) = textsL ls ++ textL (t.take 300) := by simp [textsL]
theorem textsL_cons (ls : List (List UInt8)) (t : List UInt8) : textsL (t :: ls) = textL (t.take 300) ++ textsL ls := by simp [textsL]
theorem textsL_le (ls : List (List UInt8)) : (textsL ls).length ≤ 309 * ls.length := by
  induction ls with
  | nil => simp [textsL]
  | cons t r ih =>
    rw [textsL_cons, List.length_append, List.length_cons]
    have h1 := num_len (t.take 300).length
    have h2 : (t.take 300).length ≤ 300 := by simp; omega
    unfold textL
    rw [List.length_append]
    omega
end Go.Proofs.Ytfonincdhjkacaa
