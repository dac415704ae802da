/-
  How many first bytes two have in common. (Printed by genleaf2.py.) No condition.
-/
import Derived.Test.YtpffieogkfndaaaDoorLeafForm
namespace Go.Proofs.YtpffieogkfndaaaDoor
open Go.RowKit
set_option maxRecDepth 20000
set_option linter.unusedVariables false
set_option linter.unusedSimpArgs false
set_option maxHeartbeats 8000000 in
theorem common_any (w : World) (A1 : Option Addr) (n1 c1 : Nat) (l1 : List UInt8) (h1 : Sl w 1 A1 n1 c1 (bc l1)) (A2 : Option Addr) (n2 c2 : Nat) (l2 : List UInt8) (h2 : Sl w 1 A2 n2 c2 (bc l2)) :
    Calls Tryd.prog 54 #[.slice A1 n1 c1, .slice A2 n2 c2] w fun e w' => e = .returned (.int .i64 (commonL l1 l2 : Nat)) ∧ Below w.heap.size w w' := by
  have hl1 := h1.lenb
  have hl2 := h2.lenb
  have hm1 := h1.capm
  have hc1 := h1.cap
  have hm2 := h2.capm
  have hc2 := h2.cap
  unfold maxLen at hm1 hm2
  have Hl1 := Lib.hid hl1
  have Hl2 := Lib.hid hl2
  clear hl1 hl2
  go_enter Tryd.func54, Tryd.ntmps54
  go_wp2
  go_loopw [5] (fun i wr => ∃ j : Nat, j ≤ n1 ∧ i = .int .i64 (j : Int) ∧ Hid (commonL l1 l2 = j + commonL (l1.drop j) (l2.drop j)) ∧ Below w.heap.size w wr) (fun i _ => (n1 - intOf i).toNat)
  case atStart => exact ⟨0, Nat.zero_le _, rfl, Lib.hid (by simp), Below.refl _ _⟩
  case round =>
    obtain ⟨j, hj, rfl, Hc, hbr⟩ := hrel
    have h1 := h1.below (by omega) hbr
    have h2 := h2.below (by omega) hbr
    have hb0 := below_drew hbr
    by_cases ha : j < n1
    case neg =>
      have e0 := commonL_nil l1 l2 j (.inl (by rw [Hl1.out]; omega))
      have i1 : decide (j < n1) = false := decide_eq_false ha
      have E0 := Lib.hid e0
      clear e0 h1 h2 hbr
      go_wp2_with fail
      generalize hW : World.drew _ = w0 at *
      refine regionF (fun _ wa wb => Below w0.heap.size w0 wa → Below w0.heap.size w0 wb) (by kernel_rfl) ?_
      rw [hW]
      clear hW
      have hX := Below.refl w0.heap.size w0
      refine takeP (i := 0) (v := ?_) rfl hX ?hy ?_
      case hy =>
        intro wS hSw
        clear hSw
        go_simp
        try with_reducible rfl
      refine takeP (i := 1) (v := ?_) rfl hX ?hy ?_
      case hy =>
        intro wS hSw
        clear hSw
        go_simp
        try with_reducible rfl
      refine takeP (i := 2) (v := ?_) rfl hX ?hy ?_
      case hy =>
        intro wS hSw
        clear hSw
        go_simp
        try with_reducible rfl
      refine takeP (i := 3) (v := ?_) rfl hX ?hy ?_
      case hy =>
        intro wS hSw
        clear hSw
        go_simp
        try with_reducible rfl
      refine takeP (i := 4) (v := ?_) rfl hX ?hy ?_
      case hy =>
        intro wS hSw
        clear hSw
        go_simp
        try with_reducible rfl
      try simp only [List.getElem_toArray, List.getElem_cons_succ, List.getElem_cons_zero, Act.put, List.setIfInBounds_toArray, List.set_cons_zero, List.set_cons_succ]
      refine takeF (i := 5) (v := undef) (fun wa => Below w0.heap.size w0 wa) rfl (by kernel_rfl) (by kernel_rfl) (by kernel_rfl) (fun j hj => .inr (.inr fun wa wb h g => g h)) (fun wa => id) (fun _ _ _ h => h) (Or.inr ⟨by kernel_rfl, rfl⟩) hX ?_
      try simp only [List.getElem_toArray, List.getElem_cons_succ, List.getElem_cons_zero, Act.put, List.setIfInBounds_toArray, List.set_cons_zero, List.set_cons_succ]
      refine takeF (i := 6) (v := undef) (fun wa => Below w0.heap.size w0 wa) rfl (by kernel_rfl) (by kernel_rfl) (by kernel_rfl) (fun j hj => .inr (.inr fun wa wb h g => g h)) (fun wa => id) (fun _ _ _ h => h) (Or.inr ⟨by kernel_rfl, rfl⟩) hX ?_
      try simp only [List.getElem_toArray, List.getElem_cons_succ, List.getElem_cons_zero, Act.put, List.setIfInBounds_toArray, List.set_cons_zero, List.set_cons_succ]
      refine takeF (i := 7) (v := undef) (fun wa => Below w0.heap.size w0 wa) rfl (by kernel_rfl) (by kernel_rfl) (by kernel_rfl) (fun j hj => .inr (.inr fun wa wb h g => g h)) (fun wa => id) (fun _ _ _ h => h) (Or.inr ⟨by kernel_rfl, rfl⟩) hX ?_
      try simp only [List.getElem_toArray, List.getElem_cons_succ, List.getElem_cons_zero, Act.put, List.setIfInBounds_toArray, List.set_cons_zero, List.set_cons_succ]
      refine takeF (i := 8) (v := undef) (fun wa => Below w0.heap.size w0 wa) rfl (by kernel_rfl) (by kernel_rfl) (by kernel_rfl) (fun j hj => .inr (.inr fun wa wb h g => g h)) (fun wa => id) (fun _ _ _ h => h) (Or.inr ⟨by kernel_rfl, rfl⟩) hX ?_
      refine takeP (i := 9) (v := ?_) rfl hX ?hy ?_
      case hy =>
        intro wS hSw
        clear hSw
        go_simp
        try with_reducible rfl
      refine takeP (i := 10) (v := ?_) rfl hX ?hy ?_
      case hy =>
        intro wS hSw
        clear hSw
        go_simp
        try with_reducible rfl
      try simp only [List.getElem_toArray, List.getElem_cons_succ, List.getElem_cons_zero, Act.put, List.setIfInBounds_toArray, List.set_cons_zero, List.set_cons_succ]
      refine takeF (i := 11) (v := undef) (fun wa => Below w0.heap.size w0 wa) rfl (by kernel_rfl) (by kernel_rfl) (by kernel_rfl) (fun j hj => .inr (.inr fun wa wb h g => g h)) (fun wa => id) (fun _ _ _ h => h) (Or.inr ⟨by kernel_rfl, rfl⟩) hX ?_
      try simp only [List.getElem_toArray, List.getElem_cons_succ, List.getElem_cons_zero, Act.put, List.setIfInBounds_toArray, List.set_cons_zero, List.set_cons_succ]
      refine takeF (i := 12) (v := undef) (fun wa => Below w0.heap.size w0 wa) rfl (by kernel_rfl) (by kernel_rfl) (by kernel_rfl) (fun j hj => .inr (.inr fun wa wb h g => g h)) (fun wa => id) (fun _ _ _ h => h) (Or.inr ⟨by kernel_rfl, rfl⟩) hX ?_
      try simp only [List.getElem_toArray, List.getElem_cons_succ, List.getElem_cons_zero, Act.put, List.setIfInBounds_toArray, List.set_cons_zero, List.set_cons_succ]
      refine takeF (i := 13) (v := undef) (fun wa => Below w0.heap.size w0 wa) rfl (by kernel_rfl) (by kernel_rfl) (by kernel_rfl) (fun j hj => .inr (.inr fun wa wb h g => g h)) (fun wa => id) (fun _ _ _ h => h) (Or.inr ⟨by kernel_rfl, rfl⟩) hX ?_
      try simp only [List.getElem_toArray, List.getElem_cons_succ, List.getElem_cons_zero, Act.put, List.setIfInBounds_toArray, List.set_cons_zero, List.set_cons_succ]
      refine takeF (i := 14) (v := undef) (fun wa => Below w0.heap.size w0 wa) rfl (by kernel_rfl) (by kernel_rfl) (by kernel_rfl) (fun j hj => .inr (.inr fun wa wb h g => g h)) (fun wa => id) (fun _ _ _ h => h) (Or.inr ⟨by kernel_rfl, rfl⟩) hX ?_
      try simp only [List.getElem_toArray, List.getElem_cons_succ, List.getElem_cons_zero, Act.put, List.setIfInBounds_toArray, List.set_cons_zero, List.set_cons_succ]
      refine takeF (i := 15) (v := undef) (fun wa => Below w0.heap.size w0 wa) rfl (by kernel_rfl) (by kernel_rfl) (by kernel_rfl) (fun j hj => .inr (.inr fun wa wb h g => g h)) (fun wa => id) (fun _ _ _ h => h) (Or.inr ⟨by kernel_rfl, rfl⟩) hX ?_
      try simp only [List.getElem_toArray, List.getElem_cons_succ, List.getElem_cons_zero, Act.put, List.setIfInBounds_toArray, List.set_cons_zero, List.set_cons_succ]
      refine takeF (i := 16) (v := undef) (fun wa => Below w0.heap.size w0 wa) rfl (by kernel_rfl) (by kernel_rfl) (by kernel_rfl) (fun j hj => .inr (.inr fun wa wb h g => g h)) (fun wa => id) (fun _ _ _ h => h) (Or.inr ⟨by kernel_rfl, rfl⟩) hX ?_
      try simp only [List.getElem_toArray, List.getElem_cons_succ, List.getElem_cons_zero, Act.put, List.setIfInBounds_toArray, List.set_cons_zero, List.set_cons_succ]
      refine takeF (i := 17) (v := undef) (fun wa => Below w0.heap.size w0 wa) rfl (by kernel_rfl) (by kernel_rfl) (by kernel_rfl) (fun j hj => .inr (.inr fun wa wb h g => g h)) (fun wa => id) (fun _ _ _ h => h) (Or.inr ⟨by kernel_rfl, rfl⟩) hX ?_
      try simp only [List.getElem_toArray, List.getElem_cons_succ, List.getElem_cons_zero, Act.put, List.setIfInBounds_toArray, List.set_cons_zero, List.set_cons_succ]
      refine takeF (i := 18) (v := undef) (fun wa => Below w0.heap.size w0 wa) rfl (by kernel_rfl) (by kernel_rfl) (by kernel_rfl) (fun j hj => .inr (.inr fun wa wb h g => g h)) (fun wa => id) (fun _ _ _ h => h) (Or.inr ⟨by kernel_rfl, rfl⟩) hX ?_
      try simp only [List.getElem_toArray, List.getElem_cons_succ, List.getElem_cons_zero, Act.put, List.setIfInBounds_toArray, List.set_cons_zero, List.set_cons_succ]
      refine takeF (i := 19) (v := undef) (fun wa => Below w0.heap.size w0 wa) rfl (by kernel_rfl) (by kernel_rfl) (by kernel_rfl) (fun j hj => .inr (.inr fun wa wb h g => g h)) (fun wa => id) (fun _ _ _ h => h) (Or.inr ⟨by kernel_rfl, rfl⟩) hX ?_
      refine takeP (i := 20) (v := ?_) rfl hX ?hy ?_
      case hy =>
        intro wS hSw
        clear hSw
        go_simp
        try with_reducible rfl
      try simp only [List.getElem_toArray, List.getElem_cons_succ, List.getElem_cons_zero, Act.put, List.setIfInBounds_toArray, List.set_cons_zero, List.set_cons_succ]
      refine doneF (by kernel_rfl) ?_ _
      try simp only [List.getElem_toArray, List.getElem_cons_succ, List.getElem_cons_zero, Act.put, List.setIfInBounds_toArray, List.set_cons_zero, List.set_cons_succ]
      go_wp2
      go_ret
      exact ⟨ret_int (by have := Hc.out; rw [E0.out] at this; omega), hb0⟩
    by_cases hb : j < n2
    case neg =>
      have e0 := commonL_nil l1 l2 j (.inr (by rw [Hl2.out]; omega))
      have i1 : decide (j < n1) = true := decide_eq_true ha
      have i2 : decide (j < n2) = false := decide_eq_false hb
      have E0 := Lib.hid e0
      clear e0 h1 h2 hbr
      go_wp2_with fail
      generalize hW : World.drew _ = w0 at *
      refine regionF (fun _ wa wb => Below w0.heap.size w0 wa → Below w0.heap.size w0 wb) (by kernel_rfl) ?_
      rw [hW]
      clear hW
      have hX := Below.refl w0.heap.size w0
      refine takeP (i := 0) (v := ?_) rfl hX ?hy ?_
      case hy =>
        intro wS hSw
        clear hSw
        go_simp
        try with_reducible rfl
      refine takeP (i := 1) (v := ?_) rfl hX ?hy ?_
      case hy =>
        intro wS hSw
        clear hSw
        go_simp
        try with_reducible rfl
      refine takeP (i := 2) (v := ?_) rfl hX ?hy ?_
      case hy =>
        intro wS hSw
        clear hSw
        go_simp
        try with_reducible rfl
      refine takeP (i := 3) (v := ?_) rfl hX ?hy ?_
      case hy =>
        intro wS hSw
        clear hSw
        go_simp
        try with_reducible rfl
      refine takeP (i := 4) (v := ?_) rfl hX ?hy ?_
      case hy =>
        intro wS hSw
        clear hSw
        go_simp
        try with_reducible rfl
      refine takeP (i := 5) (v := ?_) rfl hX ?hy ?_
      case hy =>
        intro wS hSw
        clear hSw
        go_simp
        try with_reducible rfl
      refine takeP (i := 6) (v := ?_) rfl hX ?hy ?_
      case hy =>
        intro wS hSw
        clear hSw
        go_simp
        try with_reducible rfl
      refine takeP (i := 7) (v := ?_) rfl hX ?hy ?_
      case hy =>
        intro wS hSw
        clear hSw
        go_simp
        try with_reducible rfl
      refine takeP (i := 8) (v := ?_) rfl hX ?hy ?_
      case hy =>
        intro wS hSw
        clear hSw
        go_simp
        try with_reducible rfl
      refine takeP (i := 9) (v := ?_) rfl hX ?hy ?_
      case hy =>
        intro wS hSw
        clear hSw
        go_simp
        try with_reducible rfl
      refine takeP (i := 10) (v := ?_) rfl hX ?hy ?_
      case hy =>
        intro wS hSw
        clear hSw
        go_simp
        try with_reducible rfl
      try simp only [List.getElem_toArray, List.getElem_cons_succ, List.getElem_cons_zero, Act.put, List.setIfInBounds_toArray, List.set_cons_zero, List.set_cons_succ]
      refine takeF (i := 11) (v := undef) (fun wa => Below w0.heap.size w0 wa) rfl (by kernel_rfl) (by kernel_rfl) (by kernel_rfl) (fun j hj => .inr (.inr fun wa wb h g => g h)) (fun wa => id) (fun _ _ _ h => h) (Or.inr ⟨by kernel_rfl, rfl⟩) hX ?_
      try simp only [List.getElem_toArray, List.getElem_cons_succ, List.getElem_cons_zero, Act.put, List.setIfInBounds_toArray, List.set_cons_zero, List.set_cons_succ]
      refine takeF (i := 12) (v := undef) (fun wa => Below w0.heap.size w0 wa) rfl (by kernel_rfl) (by kernel_rfl) (by kernel_rfl) (fun j hj => .inr (.inr fun wa wb h g => g h)) (fun wa => id) (fun _ _ _ h => h) (Or.inr ⟨by kernel_rfl, rfl⟩) hX ?_
      try simp only [List.getElem_toArray, List.getElem_cons_succ, List.getElem_cons_zero, Act.put, List.setIfInBounds_toArray, List.set_cons_zero, List.set_cons_succ]
      refine takeF (i := 13) (v := undef) (fun wa => Below w0.heap.size w0 wa) rfl (by kernel_rfl) (by kernel_rfl) (by kernel_rfl) (fun j hj => .inr (.inr fun wa wb h g => g h)) (fun wa => id) (fun _ _ _ h => h) (Or.inr ⟨by kernel_rfl, rfl⟩) hX ?_
      try simp only [List.getElem_toArray, List.getElem_cons_succ, List.getElem_cons_zero, Act.put, List.setIfInBounds_toArray, List.set_cons_zero, List.set_cons_succ]
      refine takeF (i := 14) (v := undef) (fun wa => Below w0.heap.size w0 wa) rfl (by kernel_rfl) (by kernel_rfl) (by kernel_rfl) (fun j hj => .inr (.inr fun wa wb h g => g h)) (fun wa => id) (fun _ _ _ h => h) (Or.inr ⟨by kernel_rfl, rfl⟩) hX ?_
      try simp only [List.getElem_toArray, List.getElem_cons_succ, List.getElem_cons_zero, Act.put, List.setIfInBounds_toArray, List.set_cons_zero, List.set_cons_succ]
      refine takeF (i := 15) (v := undef) (fun wa => Below w0.heap.size w0 wa) rfl (by kernel_rfl) (by kernel_rfl) (by kernel_rfl) (fun j hj => .inr (.inr fun wa wb h g => g h)) (fun wa => id) (fun _ _ _ h => h) (Or.inr ⟨by kernel_rfl, rfl⟩) hX ?_
      try simp only [List.getElem_toArray, List.getElem_cons_succ, List.getElem_cons_zero, Act.put, List.setIfInBounds_toArray, List.set_cons_zero, List.set_cons_succ]
      refine takeF (i := 16) (v := undef) (fun wa => Below w0.heap.size w0 wa) rfl (by kernel_rfl) (by kernel_rfl) (by kernel_rfl) (fun j hj => .inr (.inr fun wa wb h g => g h)) (fun wa => id) (fun _ _ _ h => h) (Or.inr ⟨by kernel_rfl, rfl⟩) hX ?_
      try simp only [List.getElem_toArray, List.getElem_cons_succ, List.getElem_cons_zero, Act.put, List.setIfInBounds_toArray, List.set_cons_zero, List.set_cons_succ]
      refine takeF (i := 17) (v := undef) (fun wa => Below w0.heap.size w0 wa) rfl (by kernel_rfl) (by kernel_rfl) (by kernel_rfl) (fun j hj => .inr (.inr fun wa wb h g => g h)) (fun wa => id) (fun _ _ _ h => h) (Or.inr ⟨by kernel_rfl, rfl⟩) hX ?_
      try simp only [List.getElem_toArray, List.getElem_cons_succ, List.getElem_cons_zero, Act.put, List.setIfInBounds_toArray, List.set_cons_zero, List.set_cons_succ]
      refine takeF (i := 18) (v := undef) (fun wa => Below w0.heap.size w0 wa) rfl (by kernel_rfl) (by kernel_rfl) (by kernel_rfl) (fun j hj => .inr (.inr fun wa wb h g => g h)) (fun wa => id) (fun _ _ _ h => h) (Or.inr ⟨by kernel_rfl, rfl⟩) hX ?_
      try simp only [List.getElem_toArray, List.getElem_cons_succ, List.getElem_cons_zero, Act.put, List.setIfInBounds_toArray, List.set_cons_zero, List.set_cons_succ]
      refine takeF (i := 19) (v := undef) (fun wa => Below w0.heap.size w0 wa) rfl (by kernel_rfl) (by kernel_rfl) (by kernel_rfl) (fun j hj => .inr (.inr fun wa wb h g => g h)) (fun wa => id) (fun _ _ _ h => h) (Or.inr ⟨by kernel_rfl, rfl⟩) hX ?_
      refine takeP (i := 20) (v := ?_) rfl hX ?hy ?_
      case hy =>
        intro wS hSw
        clear hSw
        go_simp
        try with_reducible rfl
      try simp only [List.getElem_toArray, List.getElem_cons_succ, List.getElem_cons_zero, Act.put, List.setIfInBounds_toArray, List.set_cons_zero, List.set_cons_succ]
      refine doneF (by kernel_rfl) ?_ _
      try simp only [List.getElem_toArray, List.getElem_cons_succ, List.getElem_cons_zero, Act.put, List.setIfInBounds_toArray, List.set_cons_zero, List.set_cons_succ]
      go_wp2
      go_ret
      exact ⟨ret_int (by have := Hc.out; rw [E0.out] at this; omega), hb0⟩
    have e0 := commonL_step l1 l2 j (by rw [Hl1.out]; omega) (by rw [Hl2.out]; omega)
    obtain ⟨ba, oa, xa, rfl, hxa, hxal, ca⟩ := h1.byte (k := j) (by rw [Hl1.out]; omega)
    obtain ⟨bb, ob, xb, rfl, hxb, hxbl, cb⟩ := h2.byte (k := j) (by rw [Hl2.out]; omega)
    have ca : (World.drew _).cell? _ = _ := ca
    have cb : (World.drew _).cell? _ = _ := cb
    have i1 : decide (j < n1) = true := decide_eq_true ha
    have i2 : decide (j < n2) = true := decide_eq_true hb
    by_cases hx : xa = xb
    case neg =>
      rw [if_neg (fun e => hx (by rw [← hxa, ← hxb, e]))] at e0
      have i3 : ((xa : Int) == (xb : Int)) = false := by rw [beq_eq_false_iff_ne]; omega
      have E0 := Lib.hid e0
      clear e0 h1 h2 hbr hxa hxb hx hxal hxbl
      go_wp2_with fail
      generalize hW : World.drew _ = w0 at *
      refine regionF (fun _ wa wb => Below w0.heap.size w0 wa → Below w0.heap.size w0 wb) (by kernel_rfl) ?_
      rw [hW]
      clear hW
      have hX := Below.refl w0.heap.size w0
      refine takeP (i := 0) (v := ?_) rfl hX ?hy ?_
      case hy =>
        intro wS hSw
        clear hSw
        go_simp
        try with_reducible rfl
      refine takeP (i := 1) (v := ?_) rfl hX ?hy ?_
      case hy =>
        intro wS hSw
        clear hSw
        go_simp
        try with_reducible rfl
      refine takeP (i := 2) (v := ?_) rfl hX ?hy ?_
      case hy =>
        intro wS hSw
        clear hSw
        go_simp
        try with_reducible rfl
      refine takeP (i := 3) (v := ?_) rfl hX ?hy ?_
      case hy =>
        intro wS hSw
        clear hSw
        go_simp
        try with_reducible rfl
      refine takeP (i := 4) (v := ?_) rfl hX ?hy ?_
      case hy =>
        intro wS hSw
        clear hSw
        go_simp
        try with_reducible rfl
      refine takeP (i := 5) (v := ?_) rfl hX ?hy ?_
      case hy =>
        intro wS hSw
        clear hSw
        go_simp
        try with_reducible rfl
      refine takeP (i := 6) (v := ?_) rfl hX ?hy ?_
      case hy =>
        intro wS hSw
        clear hSw
        go_simp
        try with_reducible rfl
      refine takeP (i := 7) (v := ?_) rfl hX ?hy ?_
      case hy =>
        intro wS hSw
        clear hSw
        go_simp
        try with_reducible rfl
      refine takeP (i := 8) (v := ?_) rfl hX ?hy ?_
      case hy =>
        intro wS hSw
        clear hSw
        go_simp
        try with_reducible rfl
      refine takeP (i := 9) (v := ?_) rfl hX ?hy ?_
      case hy =>
        intro wS hSw
        clear hSw
        go_simp
        try with_reducible rfl
      refine takeP (i := 10) (v := ?_) rfl hX ?hy ?_
      case hy =>
        intro wS hSw
        clear hSw
        go_simp
        try with_reducible rfl
      refine takeP (i := 11) (v := ?_) rfl hX ?hy ?_
      case hy =>
        intro wS hSw
        clear hSw
        go_simp
        try with_reducible rfl
      refine takeP (i := 12) (v := ?_) rfl hX ?hy ?_
      case hy =>
        intro wS hSw
        clear hSw
        go_simp
        try with_reducible rfl
      refine takeP (i := 13) (v := ?_) rfl hX ?hy ?_
      case hy =>
        intro wS hSw
        clear hSw
        go_simp
        try with_reducible rfl
      refine takeP (i := 14) (v := ?_) rfl hX ?hy ?_
      case hy =>
        intro wS hSw
        have ca := stays hSw ca
        clear hSw
        go_simp
        try with_reducible rfl
      refine takeP (i := 15) (v := ?_) rfl hX ?hy ?_
      case hy =>
        intro wS hSw
        clear hSw
        go_simp
        try with_reducible rfl
      refine takeP (i := 16) (v := ?_) rfl hX ?hy ?_
      case hy =>
        intro wS hSw
        clear hSw
        go_simp
        try with_reducible rfl
      refine takeP (i := 17) (v := ?_) rfl hX ?hy ?_
      case hy =>
        intro wS hSw
        clear hSw
        go_simp
        try with_reducible rfl
      refine takeP (i := 18) (v := ?_) rfl hX ?hy ?_
      case hy =>
        intro wS hSw
        have cb := stays hSw cb
        clear hSw
        go_simp
        try with_reducible rfl
      refine takeP (i := 19) (v := ?_) rfl hX ?hy ?_
      case hy =>
        intro wS hSw
        clear hSw
        go_simp
        try with_reducible rfl
      refine takeP (i := 20) (v := ?_) rfl hX ?hy ?_
      case hy =>
        intro wS hSw
        clear hSw
        go_simp
        try with_reducible rfl
      try simp only [List.getElem_toArray, List.getElem_cons_succ, List.getElem_cons_zero, Act.put, List.setIfInBounds_toArray, List.set_cons_zero, List.set_cons_succ]
      refine doneF (by kernel_rfl) ?_ _
      try simp only [List.getElem_toArray, List.getElem_cons_succ, List.getElem_cons_zero, Act.put, List.setIfInBounds_toArray, List.set_cons_zero, List.set_cons_succ]
      go_wp2
      go_ret
      exact ⟨ret_int (by have := Hc.out; rw [E0.out] at this; omega), hb0⟩
    rw [if_pos (UInt8.toNat_inj.1 (by rw [hxa, hxb, hx]))] at e0
    subst hx
    have i3 : ((xa : Int) == (xa : Int)) = true := by simp
    have E0 := Lib.hid e0
    clear e0 h1 h2 hbr hxa hxb hxal hxbl
    go_wp2_with fail
    generalize hW : World.drew _ = w0 at *
    refine regionF (fun _ wa wb => Below w0.heap.size w0 wa → Below w0.heap.size w0 wb) (by kernel_rfl) ?_
    rw [hW]
    clear hW
    have hX := Below.refl w0.heap.size w0
    refine takeP (i := 0) (v := ?_) rfl hX ?hy ?_
    case hy =>
      intro wS hSw
      clear hSw
      go_simp
      try with_reducible rfl
    refine takeP (i := 1) (v := ?_) rfl hX ?hy ?_
    case hy =>
      intro wS hSw
      clear hSw
      go_simp
      try with_reducible rfl
    refine takeP (i := 2) (v := ?_) rfl hX ?hy ?_
    case hy =>
      intro wS hSw
      clear hSw
      go_simp
      try with_reducible rfl
    refine takeP (i := 3) (v := ?_) rfl hX ?hy ?_
    case hy =>
      intro wS hSw
      clear hSw
      go_simp
      try with_reducible rfl
    refine takeP (i := 4) (v := ?_) rfl hX ?hy ?_
    case hy =>
      intro wS hSw
      clear hSw
      go_simp
      try with_reducible rfl
    refine takeP (i := 5) (v := ?_) rfl hX ?hy ?_
    case hy =>
      intro wS hSw
      clear hSw
      go_simp
      try with_reducible rfl
    refine takeP (i := 6) (v := ?_) rfl hX ?hy ?_
    case hy =>
      intro wS hSw
      clear hSw
      go_simp
      try with_reducible rfl
    refine takeP (i := 7) (v := ?_) rfl hX ?hy ?_
    case hy =>
      intro wS hSw
      clear hSw
      go_simp
      try with_reducible rfl
    refine takeP (i := 8) (v := ?_) rfl hX ?hy ?_
    case hy =>
      intro wS hSw
      clear hSw
      go_simp
      try with_reducible rfl
    refine takeP (i := 9) (v := ?_) rfl hX ?hy ?_
    case hy =>
      intro wS hSw
      clear hSw
      go_simp
      try with_reducible rfl
    refine takeP (i := 10) (v := ?_) rfl hX ?hy ?_
    case hy =>
      intro wS hSw
      clear hSw
      go_simp
      try with_reducible rfl
    refine takeP (i := 11) (v := ?_) rfl hX ?hy ?_
    case hy =>
      intro wS hSw
      clear hSw
      go_simp
      try with_reducible rfl
    refine takeP (i := 12) (v := ?_) rfl hX ?hy ?_
    case hy =>
      intro wS hSw
      clear hSw
      go_simp
      try with_reducible rfl
    refine takeP (i := 13) (v := ?_) rfl hX ?hy ?_
    case hy =>
      intro wS hSw
      clear hSw
      go_simp
      try with_reducible rfl
    refine takeP (i := 14) (v := ?_) rfl hX ?hy ?_
    case hy =>
      intro wS hSw
      have ca := stays hSw ca
      clear hSw
      go_simp
      try with_reducible rfl
    refine takeP (i := 15) (v := ?_) rfl hX ?hy ?_
    case hy =>
      intro wS hSw
      clear hSw
      go_simp
      try with_reducible rfl
    refine takeP (i := 16) (v := ?_) rfl hX ?hy ?_
    case hy =>
      intro wS hSw
      clear hSw
      go_simp
      try with_reducible rfl
    refine takeP (i := 17) (v := ?_) rfl hX ?hy ?_
    case hy =>
      intro wS hSw
      clear hSw
      go_simp
      try with_reducible rfl
    refine takeP (i := 18) (v := ?_) rfl hX ?hy ?_
    case hy =>
      intro wS hSw
      have cb := stays hSw cb
      clear hSw
      go_simp
      try with_reducible rfl
    refine takeP (i := 19) (v := ?_) rfl hX ?hy ?_
    case hy =>
      intro wS hSw
      clear hSw
      go_simp
      try with_reducible rfl
    refine takeP (i := 20) (v := ?_) rfl hX ?hy ?_
    case hy =>
      intro wS hSw
      clear hSw
      go_simp
      try with_reducible rfl
    try simp only [List.getElem_toArray, List.getElem_cons_succ, List.getElem_cons_zero, Act.put, List.setIfInBounds_toArray, List.set_cons_zero, List.set_cons_succ]
    refine doneF (by kernel_rfl) ?_ _
    try simp only [List.getElem_toArray, List.getElem_cons_succ, List.getElem_cons_zero, Act.put, List.setIfInBounds_toArray, List.set_cons_zero, List.set_cons_succ]
    go_wp2
    go_roundw
    case rel => exact ⟨j + 1, by omega, by go_num, Lib.hid (by have := Hc.out; rw [E0.out] at this; omega), hb0⟩
    case measure => simp [intOf]; omega
end Go.Proofs.YtpffieogkfndaaaDoor
