/-
  batch.covers, and the reference's: is an op of a key? No condition.
-/
import Derived.Test.YtfonincdhjkacaaBatchMap
import Derived.Test.YtfonincdhjkacaaKeyRef
import Derived.Test.YtfonincdhjkacaaBytesEq
namespace Go.Proofs.Ytfonincdhjkacaa
open Go.RowKit
set_option maxRecDepth 20000
set_option maxHeartbeats 4000000 in
theorem covers_any (w : World) (A : Option Addr) (n c : Nat) (A2 : Option Addr) (n2 c2 : Nat) (o : OpL) (h : Sl w 1 A n c (bc o.key)) (h2 : Sl w 1 A2 n2 c2 (bc o.value)) (B : Option Addr) (m d : Nat) (key : List UInt8) (hk : Sl w 1 B m d (bc key)) :
    Calls Try.prog 79 #[.agg #[.int .u8 (o.kind.toNat : Int), .slice A n c, .slice A2 n2 c2], .slice B m d] w fun e w' => e = .returned (.bool (coversL o key)) ∧ Below w.heap.size w w' := by
  obtain ⟨x, hx⟩ : ∃ x, ltL key o.key = x := ⟨_, rfl⟩
  obtain ⟨y, hy⟩ : ∃ y, ltL key o.value = y := ⟨_, rfl⟩
  obtain ⟨z, hz⟩ : ∃ z, (o.key == key) = z := ⟨_, rfl⟩
  have c1 := fun (w' : World) (hb : Below w.heap.size w w') => less_is w' B m d key (hk.below (by omega) hb) A n c o.key (h.below (by omega) hb) x (Lib.hid hx)
  have c2 := fun (w' : World) (hb : Below w.heap.size w w') => less_is w' B m d key (hk.below (by omega) hb) A2 n2 c2 o.value (h2.below (by omega) hb) y (Lib.hid hy)
  have c3 := fun (w' : World) (hb : Below w.heap.size w w') => equal_is w' A n c o.key B m d key z (Lib.hid hz) (h.below (by omega) hb) (hk.below (by omega) hb)
  obtain ⟨r, hr⟩ : ∃ r, coversL o key = r := ⟨_, rfl⟩
  rw [hr]
  unfold coversL at hr
  rw [hx, hy, hz] at hr
  generalize o.kind.toNat = d at *
  have C1 := Lib.hid c1
  have C2 := Lib.hid c2
  have C3 := Lib.hid c3
  clear c1 c2 c3 hx hy hz h h2 hk
  have hbb := (Below.refl w.heap.size w).alloc (Nat.le_refl _) (.cells #[.int .u8 (d : Int), .slice A n c, .slice A2 n2 c2] 47)
  rcases (show d = 3 ∨ d ≠ 3 by omega) with rfl | hd
  · rw [if_pos rfl] at hr
    have Hr := Lib.hid hr
    clear hr C3
    rw [show ((3 : Nat) : Int) = 3 from rfl] at hbb ⊢
    go_enter Try.func79, Try.ntmps79
    go_wp2_with fail
    refine (C1.out _ hbb).mono ?_
    rintro e w' ⟨rfl, rfl⟩
    cases x
    · go_wp2_with fail
      refine (C2.out _ hbb).mono ?_
      rintro e w' ⟨rfl, rfl⟩
      go_wp2
      go_ret
      refine ⟨ret_bool ?_, hbb⟩
      rw [← Hr.out]
      cases y <;> rfl
    · go_wp2
      go_ret
      exact ⟨ret_bool Hr.out, hbb⟩
  · rw [if_neg hd] at hr
    subst hr
    have hd' : ((d : Int) == 3) = false := by simp; omega
    clear C1 C2 hd
    go_enter Try.func79, Try.ntmps79
    go_wp2_with fail
    refine (C3.out _ hbb).mono ?_
    rintro e w' ⟨rfl, rfl⟩
    go_wp2
    go_ret
    exact ⟨rfl, hbb⟩
set_option maxHeartbeats 4000000 in
theorem rcovers_any (w : World) (A : Option Addr) (n c : Nat) (A2 : Option Addr) (n2 c2 : Nat) (o : OpL) (h : Sl w 1 A n c (bc o.key)) (h2 : Sl w 1 A2 n2 c2 (bc o.value)) (B : Option Addr) (m d : Nat) (key : List UInt8) (hk : Sl w 1 B m d (bc key)) :
    Calls Try.prog 39 #[.agg #[.int .u8 (o.kind.toNat : Int), .slice A n c, .slice A2 n2 c2], .slice B m d] w fun e w' => e = .returned (.bool (coversL o key)) ∧ Below w.heap.size w w' := by
  obtain ⟨x, hx⟩ : ∃ x, ltL key o.key = x := ⟨_, rfl⟩
  obtain ⟨y, hy⟩ : ∃ y, ltL key o.value = y := ⟨_, rfl⟩
  obtain ⟨z, hz⟩ : ∃ z, (o.key == key) = z := ⟨_, rfl⟩
  have c1 := fun (w' : World) (hb : Below w.heap.size w w') => rless_is w' B m d key (hk.below (by omega) hb) A n c o.key (h.below (by omega) hb) x (Lib.hid hx)
  have c2 := fun (w' : World) (hb : Below w.heap.size w w') => rless_is w' B m d key (hk.below (by omega) hb) A2 n2 c2 o.value (h2.below (by omega) hb) y (Lib.hid hy)
  have c3 := fun (w' : World) (hb : Below w.heap.size w w') => same_is w' A n c o.key B m d key z (Lib.hid hz) (h.below (by omega) hb) (hk.below (by omega) hb)
  obtain ⟨r, hr⟩ : ∃ r, coversL o key = r := ⟨_, rfl⟩
  rw [hr]
  unfold coversL at hr
  rw [hx, hy, hz] at hr
  generalize o.kind.toNat = d at *
  have C1 := Lib.hid c1
  have C2 := Lib.hid c2
  have C3 := Lib.hid c3
  clear c1 c2 c3 hx hy hz h h2 hk
  have hbb := (Below.refl w.heap.size w).alloc (Nat.le_refl _) (.cells #[.int .u8 (d : Int), .slice A n c, .slice A2 n2 c2] 47)
  rcases (show d = 3 ∨ d ≠ 3 by omega) with rfl | hd
  · rw [if_pos rfl] at hr
    have Hr := Lib.hid hr
    clear hr C3
    rw [show ((3 : Nat) : Int) = 3 from rfl] at hbb ⊢
    go_enter Try.func39, Try.ntmps39
    go_wp2_with fail
    refine (C1.out _ hbb).mono ?_
    rintro e w' ⟨rfl, rfl⟩
    cases x
    · go_wp2_with fail
      refine (C2.out _ hbb).mono ?_
      rintro e w' ⟨rfl, rfl⟩
      go_wp2
      go_ret
      refine ⟨ret_bool ?_, hbb⟩
      rw [← Hr.out]
      cases y <;> rfl
    · go_wp2
      go_ret
      exact ⟨ret_bool Hr.out, hbb⟩
  · rw [if_neg hd] at hr
    subst hr
    have hd' : ((d : Int) == 3) = false := by simp; omega
    clear C1 C2 hd
    go_enter Try.func39, Try.ntmps39
    go_wp2_with fail
    refine (C3.out _ hbb).mono ?_
    rintro e w' ⟨rfl, rfl⟩
    go_wp2
    go_ret
    exact ⟨rfl, hbb⟩
end Go.Proofs.Ytfonincdhjkacaa
