/-
  The walk of KeyAfter: it returns true at every input. No condition.
-/
import Derived.Test.YtiepdafjbblllaaKeyAwake
namespace Go.Proofs.Ytiepdafjbblllaa
open Go.RowKit
set_option maxRecDepth 20000
set_option maxHeartbeats 4000000 in
theorem keyAfter.walk (w : World) (A : Option Addr) (n c : Nat) (l : List UInt8) (h : Sl w 1 A n c (bc l)) (B : Option Addr) (m d : Nat) (q : List UInt8) (hq : Sl w 1 B m d (bc q)) :
    Calls Try.prog 5 #[.slice A n c, .slice B m d] w fun e w' => e = .returned (.bool true) ∧ Below w.heap.size w w' := by
  have ha := after_lt (l.take 80)
  have hb := after_next (l.take 80) (q.take 80)
  have l1 : ltL (l.take 80) (l.take 80 ++ [0]) = true := by unfold ltL; rw [ha]; rfl
  obtain ⟨x, hx⟩ : ∃ x, ltL (l.take 80) (q.take 80) = x := ⟨_, rfl⟩
  have l2 : x = true → ltL (q.take 80) (l.take 80 ++ [0]) = false := by
    intro e
    subst e
    exact decide_eq_false (hb (of_decide_eq_true hx))
  have ll : (l.take 80).length ≤ 80 := by rw [List.length_take]; omega
  have c1 := fun (w' : World) (hb : Below w.heap.size w w') => cut_any w' A n c l 80 (h.below (by omega) hb) (by omega)
  have c2 := fun (w' : World) (hb : Below w.heap.size w w') => cut_any w' B m d q 80 (hq.below (by omega) hb) (by omega)
  generalize l.take 80 = a at *
  generalize q.take 80 = b at *
  have C1 := Lib.hid c1
  have C2 := Lib.hid c2
  have L1 := Lib.hid l1
  have L2 := Lib.hid l2
  have Ll := Lib.hid ll
  have Hx := Lib.hid hx
  clear c1 c2 l1 l2 ll hx ha hb h hq
  go_enter Try.func5, Try.ntmps5
  go_wp2_with fail
  refine (awake03 w).mono ?_
  rintro e w1 ⟨rfl, hb1⟩
  go_wp2_with fail
  refine (C1.out _ hb1).mono ?_
  rintro e w2 ⟨A2, n2, c2, rfl, ho2, hb2⟩
  have q2 := hb1.trans (hb2.mono hb1.size)
  go_wp2_with fail
  refine (C2.out _ q2).mono ?_
  rintro e w3 ⟨A3, n3, c3, rfl, ho3, hb3⟩
  have q3 := q2.trans (hb3.mono q2.size)
  have h2 := ho2.sl.below (by omega) hb3
  have hn2 : n2 ≤ 80 := by have := ho2.len'; have := Ll.out; omega
  clear hb1 hb2 hb3 q2 ho2
  go_wp2_with fail
  refine (after_any _ A2 n2 c2 a h2 (by omega)).mono ?_
  rintro e w4 ⟨A4, n4, c4, rfl, ho4, hb4⟩
  have hn4 := ho4.len'
  have hl2 := h2.lenb
  have h2 := h2.below (by omega) hb4
  have h3 := ho3.sl.below (by omega) hb4
  have h4 := ho4.sl
  have q4 := q3.trans (hb4.mono q3.size)
  rw [List.length_append, List.length_cons, List.length_nil, hl2] at hn4
  obtain rfl : n4 = n2 + 1 := hn4.symm
  clear hb4 ho4 ho3 q3 hn4 hl2
  go_wp2_with fail
  refine (rless_is _ A2 n2 c2 a h2 A4 (n2 + 1) c4 _ h4 true L1).mono ?_
  rintro e w5 ⟨rfl, rfl⟩
  go_wp2_with fail
  refine (rless_is _ A2 n2 c2 a h2 A3 n3 c3 b h3 x Hx).mono ?_
  rintro e w5 ⟨rfl, rfl⟩
  cases x
  · go_wp2
    go_ret
    exact ⟨rfl, q4⟩
  · have e := L2.out rfl
    have E := Lib.hid e
    clear e
    go_wp2_with fail
    refine (rless_is _ A3 n3 c3 b h3 A4 (n2 + 1) c4 _ h4 false E).mono ?_
    rintro e w5 ⟨rfl, rfl⟩
    go_wp2
    go_ret
    exact ⟨rfl, q4⟩
end Go.Proofs.Ytiepdafjbblllaa
