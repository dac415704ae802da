/-
  The walk of KeyNewest: it returns true at every input. No condition.
-/
import Derived.Test.YtfonincdhjkacaaKeyAwake
namespace Go.Proofs.Ytfonincdhjkacaa
open Go.RowKit
set_option maxRecDepth 20000
theorem cmpKey_same (u : List UInt8) (p q : UInt64) (k : UInt8) : cmpKey ⟨u, p, k⟩ ⟨u, q, k⟩ = cmpN q.toNat p.toNat := by
  unfold cmpKey
  simp only [cmp_self, ne_eq, not_true_eq_false, if_false]
  have h : cmpN k.toNat k.toNat = 0 := by unfold cmpN; simp
  rw [h]
  split
  · rfl
  · rename_i q
    simp at q
    exact q.symm
theorem cmp_two (w : World) (A : Option Addr) (n c : Nat) (u : List UInt8) (h : Sl w 1 A n c (bc u)) (A' : Option Addr) (n' c' : Nat) (h' : Sl w 1 A' n' c' (bc u)) (p q : Nat) (hp : p < 18446744073709551616) (hq : q < 18446744073709551616) :
    Calls Try.prog 28 #[.agg #[.slice A n c, .int .u64 (p : Int), .int .u8 2], .agg #[.slice A' n' c', .int .u64 (q : Int), .int .u8 2]] w fun e w' => e = .returned (.int .i64 (cmpN q p)) ∧ Below w.heap.size w w' := by
  have hp' : (UInt64.ofNat p).toNat = p := by rw [UInt64.toNat_ofNat']; exact Nat.mod_eq_of_lt hp
  have hq' : (UInt64.ofNat q).toNat = q := by rw [UInt64.toNat_ofNat']; exact Nat.mod_eq_of_lt hq
  have := compare_any w A n c ⟨u, UInt64.ofNat p, 2⟩ h A' n' c' ⟨u, UInt64.ofNat q, 2⟩ h'
  rw [cmpKey_same] at this
  simp only [hp', hq'] at this
  exact this
/-- what has been found so far: the pointer to the best version, its number, whether there is any -/
def NewR (wr : World) (A : Option Addr) (n c : Nat) (best nw so : Value) : Prop :=
  (best = .pointer none ∧ so = .bool false ∧ ∃ x : Nat, nw = .int .u64 (x : Int)) ∨
  ∃ (g y : Nat), best = .pointer (some ⟨g, 0, none⟩) ∧ so = .bool true ∧ nw = .int .u64 (y : Int) ∧ y < 72057594037927936 ∧ Bx wr g (.slice A n c) (.int .u64 (y : Int)) (.int .u8 2)
theorem NewR.below {wr w' : World} {A : Option Addr} {n c : Nat} {best nw so : Value} (h : NewR wr A n c best nw so) (hb : Below wr.heap.size wr w') : NewR w' A n c best nw so := by
  rcases h with h | ⟨g, y, e1, e2, e3, hy, hB⟩
  · exact .inl h
  · exact .inr ⟨g, y, e1, e2, e3, hy, hB.below hb⟩
theorem cmpN_ge (a b : Nat) : decide (0 ≤ cmpN a b) = decide (b ≤ a) := by
  have := cmpN_sgn a b
  rw [decide_eq_decide]
  omega
theorem cmpN_lt (a b : Nat) : decide (cmpN a b < 0) = decide (a < b) := by
  have := cmpN_sgn a b
  rw [decide_eq_decide]
  omega
theorem wrap_succ (j : Nat) (h : j < 1000) : wrap64 ((j : Int) + 1) = ((j + 1 : Nat) : Int) := by unfold wrap64; omega
set_option maxHeartbeats 8000000 in
theorem keyNewest.walk (w : World) (A : Option Addr) (n c : Nat) (l : List UInt8) (h : Sl w 1 A n c (bc l)) (B : Option Addr) (m d : Nat) (ls : List UInt64) (hb : SlR w (fun _ => True) B m d ls) (q : Nat) (hq : q ≤ 18446744073709551615) :
    Calls Try.prog 4 #[.slice A n c, .slice B m d, .int .u64 (q : Int)] w fun e w' => e = .returned (.bool true) ∧ Below w.heap.size w w' := by
  obtain ⟨q, rfl⟩ : ∃ q' : UInt64, q = q'.toNat := ⟨UInt64.ofNat q, by rw [UInt64.toNat_ofNat']; exact (Nat.mod_eq_of_lt (by omega)).symm⟩
  have cu := fun (w' : World) (hb : Below w.heap.size w w') => cut_any w' A n c l 64 (h.below (by omega) hb) (by omega)
  have ct := fun (w' : World) (A : Option Addr) (n c : Nat) (h : Sl w' 1 A n c (bc (l.take 64))) (hn : n ≤ 1000000) => upto_any w' A n c (l.take 64) h hn q
  have cc := fun (w' : World) (A : Option Addr) (n c : Nat) (h : Sl w' 1 A n c (bc (l.take 64))) (A' : Option Addr) (n' c' : Nat) (h' : Sl w' 1 A' n' c' (bc (l.take 64))) => cmp_two w' A n c (l.take 64) h A' n' c' h'
  have hul : (l.take 64).length ≤ 64 := by rw [List.length_take]; omega
  unfold GotKey at ct
  rw [show (uptoKey (l.take 64) q).user = l.take 64 from rfl, show ((uptoKey (l.take 64) q).kind.toNat : Int) = 2 from rfl] at ct
  have hm : (uptoKey (l.take 64) q).seq.toNat = min q.toNat 72057594037927935 := by
    unfold uptoKey
    simp only [UInt64.toNat_ofNat']
    exact Nat.mod_eq_of_lt (by omega)
  rw [hm] at ct
  generalize l.take 64 = u at *
  have hqlt := q.toNat_lt
  generalize q.toNat = t at *
  obtain ⟨Q, hQ⟩ : ∃ Q, min t 72057594037927935 = Q := ⟨_, rfl⟩
  rw [hQ] at ct
  have Cu := Lib.hid cu
  have Ct := Lib.hid ct
  have Cc := Lib.hid cc
  have Hul := Lib.hid hul
  have HQ := Lib.hid hQ
  have Hqlt := Lib.hid hqlt
  have Hb := Lib.hid hb
  clear cu ct cc hul hQ h hq hqlt hm hb
  go_enter Try.func4, Try.ntmps4
  go_wp2_with fail
  refine (awake03 _).mono ?_
  rintro e w1 ⟨rfl, hb1⟩
  go_wp2_with fail
  refine (Cu.out _ hb1).mono ?_
  rintro e w2 ⟨A2, n2, c2, rfl, ho2, hb2⟩
  have q2 := hb1.trans (hb2.mono hb1.size)
  have hn2 : n2 ≤ 64 := by have := ho2.len'; have := Hul.out; omega
  have h2 := ho2.sl
  clear hb1 hb2 ho2
  go_wp2_with fail
  refine (Ct.out _ A2 n2 c2 h2 (by omega)).mono ?_
  rintro e w3 ⟨A3, n3, c3, rfl, ho3, hb3⟩
  have q3 := q2.trans (hb3.mono q2.size)
  have h2 := h2.below (by omega) hb3
  have h3 := ho3.sl
  have hkL := Bx.fresh w3 (.slice A3 n3 c3) (.int .u64 (Q : Int)) (.int .u8 2) 40
  have hbL := (Below.refl w3.heap.size w3).alloc (Nat.le_refl _) (.cells #[.slice A3 n3 c3, .int .u64 (Q : Int), .int .u8 2] 40)
  clear q2 hb3 ho3 hn2
  go_wp2
  have hall : Below w.heap.size w (w3.alloc (.cells #[.slice A3 n3 c3, .int .u64 (Q : Int), .int .u8 2] 40)) := q3.trans (hbL.mono q3.size)
  have g2 := h2.below (by omega) hbL
  have g3 := h3.below (by omega) hbL
  generalize (w3.alloc (.cells #[.slice A3 n3 c3, .int .u64 (Q : Int), .int .u8 2] 40)) = w4 at *
  generalize w3.heap.size = gL at *
  clear h2 h3 q3 hbL
  go_loopw [8, 9, 10, 23] (fun best nw so i wr => ∃ j : Nat, j ≤ m ∧ i = .int .i64 (j : Int) ∧ Below w.heap.size w wr ∧ Bx wr gL (.slice A3 n3 c3) (.int .u64 (Q : Int)) (.int .u8 2) ∧ Sl wr 1 A2 n2 c2 (bc u) ∧ Sl wr 1 A3 n3 c3 (bc u) ∧ NewR wr A2 n2 c2 best nw so) (fun _ _ _ i _ => (m - (intOf i).toNat))
  case atStart => exact ⟨0, Nat.zero_le _, rfl, hall, hkL, g2, g3, .inl ⟨rfl, rfl, 0, rfl⟩⟩
  case round =>
    clear hall hkL g2 g3
    obtain ⟨j, hj, rfl, hbr, hkL, g2, g3, hst⟩ := hrel
    by_cases hjm : j < m
    · have hjl : j < m := hjm
      obtain ⟨b0, o0, x, cs, rfl, hx, hcs, hcell⟩ := (Hb.out.below hbr).get hjm
      obtain rfl : cs = [u64v x] := hcs
      have hc := hcell 0 _ rfl
      rw [show Rep.size UInt64 = 1 from rfl, Nat.mul_one, Nat.add_zero] at hc
      unfold u64v at hc hcell
      have hxl := x.toNat_lt
      generalize x.toNat = X at *
      obtain ⟨y', hy'⟩ : ∃ y', X % 72057594037927936 = y' := ⟨_, rfl⟩
      have hyl : y' < 72057594037927936 := by omega
      have ey : (X : Int) % 72057594037927936 = (y' : Int) := by omega
      have Hy := Lib.hid hyl
      have Hj := Lib.hid hjl
      clear hx hcell hy' hyl hjl hxl
      obtain ⟨b20, t20⟩ : ∃ b, decide ((20 : Int) ≤ (j : Int)) = b := ⟨_, rfl⟩
      cases b20
      · have hz1 := cmpN_ge Q y'
        have hle : (y' ≤ Q) ↔ (y' ≤ t) := by have := HQ.out; have := Hy.out; omega
        rw [show decide (y' ≤ Q) = decide (y' ≤ t) by rw [decide_eq_decide]; exact hle] at hz1
        have hz2 : decide ((y' : Int) ≤ (t : Int)) = decide (y' ≤ t) := by rw [decide_eq_decide]; omega
        obtain ⟨b1, t1⟩ : ∃ b, decide (y' ≤ t) = b := ⟨_, rfl⟩
        have hz5 : decide ((t : Int) < (y' : Int)) = !decide (y' ≤ t) := by rw [← decide_not, decide_eq_decide]; omega
        have hz7 : decide (t < y') = !decide (y' ≤ t) := by rw [← decide_not, decide_eq_decide]; omega
        rw [t1] at hz1 hz2 hz5 hz7
        clear hle
        have hj20 : j < 20 := by have := of_decide_eq_false t20; omega
        have Hj20 := Lib.hid hj20
        clear hj20
        cases b1 <;> simp only [Bool.not_true, Bool.not_false] at hz5 hz7
        · go_wp2_with fail
          refine nameW ?_
          intro w5 e5
          have hb5 : Below w.heap.size w w5 := by rw [e5]; exact hbr.alloc hbr.size _
          have hkB : Bx w5 wr.heap.size (.slice A2 n2 c2) (.int .u64 (y' : Int)) (.int .u8 2) := by rw [e5]; exact Bx.fresh wr _ _ _ _
          have hlift : Below wr.heap.size wr w5 := by rw [e5]; exact (Below.refl _ _).alloc (Nat.le_refl _) _
          have hkL := hkL.below hlift
          have g2 := g2.below (by omega) hlift
          have g3 := g3.below (by omega) hlift
          have hst := hst.below hlift
          have hst := hst.below (Below.refl _ _).drew
          have Hst := Lib.hid hst
          clear hst
          clear e5 hlift hbr
          have hb5 := hb5.drew
          have hkB := hkB.drew
          have hkL := hkL.drew
          have g2 := g2.drew
          have g3 := g3.drew
          obtain ⟨gk, egk⟩ : ∃ gk, gk = wr.heap.size := ⟨_, rfl⟩
          rw [← egk] at hkB ⊢
          clear egk
          refine regionS 16 (fun w' => Below w5.drew.heap.size w5.drew w') (by kernel_rfl) ?_
          try (change AnyS _ _ _ _ _ _ _ _ _ (World.drew _))
          generalize w5.drew = w6 at *
          refine takeS (i := 0) (v := ?_) rfl (by kernel_rfl) (by kernel_rfl) (by kernel_rfl) (by kernel_rfl) (by kernel_rfl) (fun _ _ _ h => h) (Or.inl ⟨by kernel_rfl, ?_⟩) (Below.refl _ _) ?_
          case refine_2 =>
            intro wS hSw
            obtain ⟨x0, x1, x2, x3⟩ := hkB.below hSw
            go_simp
            try with_reducible rfl
          try simp only [List.getElem_toArray, List.getElem_cons_succ, List.getElem_cons_zero, Act.put, List.setIfInBounds_toArray, List.set_cons_zero, List.set_cons_succ]
          refine takeS (i := 1) (v := ?_) rfl (by kernel_rfl) (by kernel_rfl) (by kernel_rfl) (by kernel_rfl) (by kernel_rfl) (fun _ _ _ h => h) (Or.inl ⟨by kernel_rfl, ?_⟩) (Below.refl _ _) ?_
          case refine_2 =>
            intro wS hSw
            obtain ⟨x0, x1, x2, x3⟩ := hkL.below hSw
            go_simp
            try with_reducible rfl
          try simp only [List.getElem_toArray, List.getElem_cons_succ, List.getElem_cons_zero, Act.put, List.setIfInBounds_toArray, List.set_cons_zero, List.set_cons_succ]
          refine readyS (i := 2) (by kernel_rfl) rfl (fun K hK => ?_)
          go_simp
          refine (Cc.out w6 A2 n2 c2 g2 A3 n3 c3 g3 y' Q (by have := Hy.out; omega) (by have := HQ.out; omega)).mono ?_
          rintro e w7 ⟨rfl, hb7⟩
          refine hK _ _ hb7 ?_
          clear hK K
          refine takeS (i := 3) (v := ?_) rfl (by kernel_rfl) (by kernel_rfl) (by kernel_rfl) (by kernel_rfl) (by kernel_rfl) (fun _ _ _ h => h) (Or.inl ⟨by kernel_rfl, ?_⟩) hb7 ?_
          case refine_2 =>
            intro wS hSw
            go_simp
            try with_reducible rfl
          try simp only [List.getElem_toArray, List.getElem_cons_succ, List.getElem_cons_zero, Act.put, List.setIfInBounds_toArray, List.set_cons_zero, List.set_cons_succ]
          refine takeS (i := 4) (v := ?_) rfl (by kernel_rfl) (by kernel_rfl) (by kernel_rfl) (by kernel_rfl) (by kernel_rfl) (fun _ _ _ h => h) (Or.inl ⟨by kernel_rfl, ?_⟩) hb7 ?_
          case refine_2 =>
            intro wS hSw
            go_simp
            try with_reducible rfl
          try simp only [List.getElem_toArray, List.getElem_cons_succ, List.getElem_cons_zero, Act.put, List.setIfInBounds_toArray, List.set_cons_zero, List.set_cons_succ]
          refine takeS (i := 5) (v := undef) rfl (by kernel_rfl) (by kernel_rfl) (by kernel_rfl) (by kernel_rfl) (by kernel_rfl) (fun _ _ _ h => h) (Or.inr ⟨by kernel_rfl, rfl⟩) hb7 ?_
          try simp only [List.getElem_toArray, List.getElem_cons_succ, List.getElem_cons_zero, Act.put, List.setIfInBounds_toArray, List.set_cons_zero, List.set_cons_succ]
          refine takeS (i := 6) (v := undef) rfl (by kernel_rfl) (by kernel_rfl) (by kernel_rfl) (by kernel_rfl) (by kernel_rfl) (fun _ _ _ h => h) (Or.inr ⟨by kernel_rfl, rfl⟩) hb7 ?_
          try simp only [List.getElem_toArray, List.getElem_cons_succ, List.getElem_cons_zero, Act.put, List.setIfInBounds_toArray, List.set_cons_zero, List.set_cons_succ]
          refine takeS (i := 7) (v := undef) rfl (by kernel_rfl) (by kernel_rfl) (by kernel_rfl) (by kernel_rfl) (by kernel_rfl) (fun _ _ _ h => h) (Or.inr ⟨by kernel_rfl, rfl⟩) hb7 ?_
          try simp only [List.getElem_toArray, List.getElem_cons_succ, List.getElem_cons_zero, Act.put, List.setIfInBounds_toArray, List.set_cons_zero, List.set_cons_succ]
          refine takeS (i := 8) (v := undef) rfl (by kernel_rfl) (by kernel_rfl) (by kernel_rfl) (by kernel_rfl) (by kernel_rfl) (fun _ _ _ h => h) (Or.inr ⟨by kernel_rfl, rfl⟩) hb7 ?_
          try simp only [List.getElem_toArray, List.getElem_cons_succ, List.getElem_cons_zero, Act.put, List.setIfInBounds_toArray, List.set_cons_zero, List.set_cons_succ]
          refine takeS (i := 9) (v := undef) rfl (by kernel_rfl) (by kernel_rfl) (by kernel_rfl) (by kernel_rfl) (by kernel_rfl) (fun _ _ _ h => h) (Or.inr ⟨by kernel_rfl, rfl⟩) hb7 ?_
          try simp only [List.getElem_toArray, List.getElem_cons_succ, List.getElem_cons_zero, Act.put, List.setIfInBounds_toArray, List.set_cons_zero, List.set_cons_succ]
          refine takeS (i := 10) (v := undef) rfl (by kernel_rfl) (by kernel_rfl) (by kernel_rfl) (by kernel_rfl) (by kernel_rfl) (fun _ _ _ h => h) (Or.inr ⟨by kernel_rfl, rfl⟩) hb7 ?_
          try simp only [List.getElem_toArray, List.getElem_cons_succ, List.getElem_cons_zero, Act.put, List.setIfInBounds_toArray, List.set_cons_zero, List.set_cons_succ]
          refine takeS (i := 11) (v := undef) rfl (by kernel_rfl) (by kernel_rfl) (by kernel_rfl) (by kernel_rfl) (by kernel_rfl) (fun _ _ _ h => h) (Or.inr ⟨by kernel_rfl, rfl⟩) hb7 ?_
          try simp only [List.getElem_toArray, List.getElem_cons_succ, List.getElem_cons_zero, Act.put, List.setIfInBounds_toArray, List.set_cons_zero, List.set_cons_succ]
          refine takeS (i := 12) (v := undef) rfl (by kernel_rfl) (by kernel_rfl) (by kernel_rfl) (by kernel_rfl) (by kernel_rfl) (fun _ _ _ h => h) (Or.inr ⟨by kernel_rfl, rfl⟩) hb7 ?_
          try simp only [List.getElem_toArray, List.getElem_cons_succ, List.getElem_cons_zero, Act.put, List.setIfInBounds_toArray, List.set_cons_zero, List.set_cons_succ]
          refine takeS (i := 13) (v := undef) rfl (by kernel_rfl) (by kernel_rfl) (by kernel_rfl) (by kernel_rfl) (by kernel_rfl) (fun _ _ _ h => h) (Or.inr ⟨by kernel_rfl, rfl⟩) hb7 ?_
          try simp only [List.getElem_toArray, List.getElem_cons_succ, List.getElem_cons_zero, Act.put, List.setIfInBounds_toArray, List.set_cons_zero, List.set_cons_succ]
          refine takeS (i := 14) (v := undef) rfl (by kernel_rfl) (by kernel_rfl) (by kernel_rfl) (by kernel_rfl) (by kernel_rfl) (fun _ _ _ h => h) (Or.inr ⟨by kernel_rfl, rfl⟩) hb7 ?_
          try simp only [List.getElem_toArray, List.getElem_cons_succ, List.getElem_cons_zero, Act.put, List.setIfInBounds_toArray, List.set_cons_zero, List.set_cons_succ]
          refine takeS (i := 15) (v := ?_) rfl (by kernel_rfl) (by kernel_rfl) (by kernel_rfl) (by kernel_rfl) (by kernel_rfl) (fun _ _ _ h => h) (Or.inl ⟨by kernel_rfl, ?_⟩) hb7 ?_
          case refine_2 =>
            intro wS hSw
            go_simp
            try with_reducible rfl
          try simp only [List.getElem_toArray, List.getElem_cons_succ, List.getElem_cons_zero, Act.put, List.setIfInBounds_toArray, List.set_cons_zero, List.set_cons_succ]
          refine doneS (by kernel_rfl) ?_ _
          try simp only [List.getElem_toArray, List.getElem_cons_succ, List.getElem_cons_zero, Act.put, List.setIfInBounds_toArray, List.set_cons_zero, List.set_cons_succ]
          have hwl := hb7
          have hkB := hkB.below hwl
          have hkL := hkL.below hwl
          have g2 := g2.below (by omega) hwl
          have g3 := g3.below (by omega) hwl
          have hb5 := hb5.trans (hwl.mono hb5.size)
          have hst := Hst.out.below hwl
          clear hwl
          obtain ⟨x0, x1, x2, x3⟩ := id hkB
          rcases hst with ⟨rfl, rfl, x, rfl⟩ | ⟨g, y, rfl, rfl, rfl, hy, hB⟩
          · go_wp2
            go_roundw
            case rel => exact ⟨j + 1, by have := Hj.out; omega, by have := Hj20.out; rw [wrap_succ j (by omega)], hb5, hkL, g2, g3, .inl ⟨rfl, rfl, x, rfl⟩⟩
            case measure => have := Hj.out; have := Hj20.out; rw [wrap_succ j (by omega)]; simp only [intOf, Int.toNat_natCast]; omega
          · go_wp2
            go_roundw
            case rel => exact ⟨j + 1, by have := Hj.out; omega, by have := Hj20.out; rw [wrap_succ j (by omega)], hb5, hkL, g2, g3, .inr ⟨g, y, rfl, rfl, rfl, hy, hB⟩⟩
            case measure => have := Hj.out; have := Hj20.out; rw [wrap_succ j (by omega)]; simp only [intOf, Int.toNat_natCast]; omega
        · rcases hst with ⟨rfl, rfl, x, rfl⟩ | ⟨g, y, rfl, rfl, rfl, hy, hB⟩
          · go_wp2_with fail
            refine nameW ?_
            intro w5 e5
            have hb5 : Below w.heap.size w w5 := by rw [e5]; exact hbr.alloc hbr.size _
            have hkB : Bx w5 wr.heap.size (.slice A2 n2 c2) (.int .u64 (y' : Int)) (.int .u8 2) := by rw [e5]; exact Bx.fresh wr _ _ _ _
            have hlift : Below wr.heap.size wr w5 := by rw [e5]; exact (Below.refl _ _).alloc (Nat.le_refl _) _
            have hkL := hkL.below hlift
            have g2 := g2.below (by omega) hlift
            have g3 := g3.below (by omega) hlift
            clear e5 hlift hbr
            have hb5 := hb5.drew
            have hkB := hkB.drew
            have hkL := hkL.drew
            have g2 := g2.drew
            have g3 := g3.drew
            obtain ⟨gk, egk⟩ : ∃ gk, gk = wr.heap.size := ⟨_, rfl⟩
            rw [← egk] at hkB ⊢
            clear egk
            refine regionS 16 (fun w' => Below w5.drew.heap.size w5.drew w') (by kernel_rfl) ?_
            try (change AnyS _ _ _ _ _ _ _ _ _ (World.drew _))
            generalize w5.drew = w6 at *
            refine takeS (i := 0) (v := ?_) rfl (by kernel_rfl) (by kernel_rfl) (by kernel_rfl) (by kernel_rfl) (by kernel_rfl) (fun _ _ _ h => h) (Or.inl ⟨by kernel_rfl, ?_⟩) (Below.refl _ _) ?_
            case refine_2 =>
              intro wS hSw
              obtain ⟨x0, x1, x2, x3⟩ := hkB.below hSw
              go_simp
              try with_reducible rfl
            try simp only [List.getElem_toArray, List.getElem_cons_succ, List.getElem_cons_zero, Act.put, List.setIfInBounds_toArray, List.set_cons_zero, List.set_cons_succ]
            refine takeS (i := 1) (v := ?_) rfl (by kernel_rfl) (by kernel_rfl) (by kernel_rfl) (by kernel_rfl) (by kernel_rfl) (fun _ _ _ h => h) (Or.inl ⟨by kernel_rfl, ?_⟩) (Below.refl _ _) ?_
            case refine_2 =>
              intro wS hSw
              obtain ⟨x0, x1, x2, x3⟩ := hkL.below hSw
              go_simp
              try with_reducible rfl
            try simp only [List.getElem_toArray, List.getElem_cons_succ, List.getElem_cons_zero, Act.put, List.setIfInBounds_toArray, List.set_cons_zero, List.set_cons_succ]
            refine readyS (i := 2) (by kernel_rfl) rfl (fun K hK => ?_)
            go_simp
            refine (Cc.out w6 A2 n2 c2 g2 A3 n3 c3 g3 y' Q (by have := Hy.out; omega) (by have := HQ.out; omega)).mono ?_
            rintro e w7 ⟨rfl, hb7⟩
            refine hK _ _ hb7 ?_
            clear hK K
            refine takeS (i := 3) (v := ?_) rfl (by kernel_rfl) (by kernel_rfl) (by kernel_rfl) (by kernel_rfl) (by kernel_rfl) (fun _ _ _ h => h) (Or.inl ⟨by kernel_rfl, ?_⟩) hb7 ?_
            case refine_2 =>
              intro wS hSw
              go_simp
              try with_reducible rfl
            try simp only [List.getElem_toArray, List.getElem_cons_succ, List.getElem_cons_zero, Act.put, List.setIfInBounds_toArray, List.set_cons_zero, List.set_cons_succ]
            refine takeS (i := 4) (v := ?_) rfl (by kernel_rfl) (by kernel_rfl) (by kernel_rfl) (by kernel_rfl) (by kernel_rfl) (fun _ _ _ h => h) (Or.inl ⟨by kernel_rfl, ?_⟩) hb7 ?_
            case refine_2 =>
              intro wS hSw
              go_simp
              try with_reducible rfl
            try simp only [List.getElem_toArray, List.getElem_cons_succ, List.getElem_cons_zero, Act.put, List.setIfInBounds_toArray, List.set_cons_zero, List.set_cons_succ]
            refine takeS (i := 5) (v := ?_) rfl (by kernel_rfl) (by kernel_rfl) (by kernel_rfl) (by kernel_rfl) (by kernel_rfl) (fun _ _ _ h => h) (Or.inl ⟨by kernel_rfl, ?_⟩) hb7 ?_
            case refine_2 =>
              intro wS hSw
              go_simp
              try with_reducible rfl
            try simp only [List.getElem_toArray, List.getElem_cons_succ, List.getElem_cons_zero, Act.put, List.setIfInBounds_toArray, List.set_cons_zero, List.set_cons_succ]
            refine takeS (i := 6) (v := ?_) rfl (by kernel_rfl) (by kernel_rfl) (by kernel_rfl) (by kernel_rfl) (by kernel_rfl) (fun _ _ _ h => h) (Or.inl ⟨by kernel_rfl, ?_⟩) hb7 ?_
            case refine_2 =>
              intro wS hSw
              go_simp
              try with_reducible rfl
            try simp only [List.getElem_toArray, List.getElem_cons_succ, List.getElem_cons_zero, Act.put, List.setIfInBounds_toArray, List.set_cons_zero, List.set_cons_succ]
            refine takeS (i := 7) (v := ?_) rfl (by kernel_rfl) (by kernel_rfl) (by kernel_rfl) (by kernel_rfl) (by kernel_rfl) (fun _ _ _ h => h) (Or.inl ⟨by kernel_rfl, ?_⟩) hb7 ?_
            case refine_2 =>
              intro wS hSw
              go_simp
              try with_reducible rfl
            try simp only [List.getElem_toArray, List.getElem_cons_succ, List.getElem_cons_zero, Act.put, List.setIfInBounds_toArray, List.set_cons_zero, List.set_cons_succ]
            refine takeS (i := 8) (v := undef) rfl (by kernel_rfl) (by kernel_rfl) (by kernel_rfl) (by kernel_rfl) (by kernel_rfl) (fun _ _ _ h => h) (Or.inr ⟨by kernel_rfl, rfl⟩) hb7 ?_
            try simp only [List.getElem_toArray, List.getElem_cons_succ, List.getElem_cons_zero, Act.put, List.setIfInBounds_toArray, List.set_cons_zero, List.set_cons_succ]
            refine takeS (i := 9) (v := undef) rfl (by kernel_rfl) (by kernel_rfl) (by kernel_rfl) (by kernel_rfl) (by kernel_rfl) (fun _ _ _ h => h) (Or.inr ⟨by kernel_rfl, rfl⟩) hb7 ?_
            try simp only [List.getElem_toArray, List.getElem_cons_succ, List.getElem_cons_zero, Act.put, List.setIfInBounds_toArray, List.set_cons_zero, List.set_cons_succ]
            refine takeS (i := 10) (v := undef) rfl (by kernel_rfl) (by kernel_rfl) (by kernel_rfl) (by kernel_rfl) (by kernel_rfl) (fun _ _ _ h => h) (Or.inr ⟨by kernel_rfl, rfl⟩) hb7 ?_
            try simp only [List.getElem_toArray, List.getElem_cons_succ, List.getElem_cons_zero, Act.put, List.setIfInBounds_toArray, List.set_cons_zero, List.set_cons_succ]
            refine takeS (i := 11) (v := undef) rfl (by kernel_rfl) (by kernel_rfl) (by kernel_rfl) (by kernel_rfl) (by kernel_rfl) (fun _ _ _ h => h) (Or.inr ⟨by kernel_rfl, rfl⟩) hb7 ?_
            try simp only [List.getElem_toArray, List.getElem_cons_succ, List.getElem_cons_zero, Act.put, List.setIfInBounds_toArray, List.set_cons_zero, List.set_cons_succ]
            refine takeS (i := 12) (v := undef) rfl (by kernel_rfl) (by kernel_rfl) (by kernel_rfl) (by kernel_rfl) (by kernel_rfl) (fun _ _ _ h => h) (Or.inr ⟨by kernel_rfl, rfl⟩) hb7 ?_
            try simp only [List.getElem_toArray, List.getElem_cons_succ, List.getElem_cons_zero, Act.put, List.setIfInBounds_toArray, List.set_cons_zero, List.set_cons_succ]
            refine takeS (i := 13) (v := undef) rfl (by kernel_rfl) (by kernel_rfl) (by kernel_rfl) (by kernel_rfl) (by kernel_rfl) (fun _ _ _ h => h) (Or.inr ⟨by kernel_rfl, rfl⟩) hb7 ?_
            try simp only [List.getElem_toArray, List.getElem_cons_succ, List.getElem_cons_zero, Act.put, List.setIfInBounds_toArray, List.set_cons_zero, List.set_cons_succ]
            refine takeS (i := 14) (v := ?_) rfl (by kernel_rfl) (by kernel_rfl) (by kernel_rfl) (by kernel_rfl) (by kernel_rfl) (fun _ _ _ h => h) (Or.inl ⟨by kernel_rfl, ?_⟩) hb7 ?_
            case refine_2 =>
              intro wS hSw
              go_simp
              try with_reducible rfl
            try simp only [List.getElem_toArray, List.getElem_cons_succ, List.getElem_cons_zero, Act.put, List.setIfInBounds_toArray, List.set_cons_zero, List.set_cons_succ]
            refine takeS (i := 15) (v := ?_) rfl (by kernel_rfl) (by kernel_rfl) (by kernel_rfl) (by kernel_rfl) (by kernel_rfl) (fun _ _ _ h => h) (Or.inl ⟨by kernel_rfl, ?_⟩) hb7 ?_
            case refine_2 =>
              intro wS hSw
              go_simp
              try with_reducible rfl
            try simp only [List.getElem_toArray, List.getElem_cons_succ, List.getElem_cons_zero, Act.put, List.setIfInBounds_toArray, List.set_cons_zero, List.set_cons_succ]
            refine doneS (by kernel_rfl) ?_ _
            try simp only [List.getElem_toArray, List.getElem_cons_succ, List.getElem_cons_zero, Act.put, List.setIfInBounds_toArray, List.set_cons_zero, List.set_cons_succ]
            have hwl := hb7
            have hkB := hkB.below hwl
            have hkL := hkL.below hwl
            have g2 := g2.below (by omega) hwl
            have g3 := g3.below (by omega) hwl
            have hb5 := hb5.trans (hwl.mono hb5.size)
            clear hwl
            obtain ⟨x0, x1, x2, x3⟩ := id hkB
            go_wp2
            go_roundw
            case rel => exact ⟨j + 1, by have := Hj.out; omega, by have := Hj20.out; rw [wrap_succ j (by omega)], hb5, hkL, g2, g3, .inr ⟨gk, y', rfl, rfl, rfl, Hy.out, hkB⟩⟩
            case measure => have := Hj.out; have := Hj20.out; rw [wrap_succ j (by omega)]; simp only [intOf, Int.toNat_natCast]; omega
          · have hz3 := cmpN_lt y y'
            have hz4 : decide ((y : Int) < (y' : Int)) = decide (y < y') := by rw [decide_eq_decide]; omega
            have hz6 : decide ((y' : Int) ≤ (y : Int)) = !decide (y < y') := by rw [← decide_not, decide_eq_decide]; omega
            have hz8 : decide (y' ≤ y) = !decide (y < y') := by rw [← decide_not, decide_eq_decide]; omega
            obtain ⟨b2, t2⟩ : ∃ b, decide (y < y') = b := ⟨_, rfl⟩
            rw [t2] at hz3 hz4 hz6 hz8
            have T2 := Lib.hid t2
            have Hz4 := Lib.hid hz4
            have Hz6 := Lib.hid hz6
            have Hz8 := Lib.hid hz8
            clear hz4 hz6 hz8 t2
            go_wp2_with fail
            refine nameW ?_
            intro w5 e5
            have hb5 : Below w.heap.size w w5 := by rw [e5]; exact hbr.alloc hbr.size _
            have hkB : Bx w5 wr.heap.size (.slice A2 n2 c2) (.int .u64 (y' : Int)) (.int .u8 2) := by rw [e5]; exact Bx.fresh wr _ _ _ _
            have hlift : Below wr.heap.size wr w5 := by rw [e5]; exact (Below.refl _ _).alloc (Nat.le_refl _) _
            have hkL := hkL.below hlift
            have g2 := g2.below (by omega) hlift
            have g3 := g3.below (by omega) hlift
            have hB := hB.below hlift
            clear e5 hlift hbr
            have hb5 := hb5.drew
            have hkB := hkB.drew
            have hkL := hkL.drew
            have g2 := g2.drew
            have g3 := g3.drew
            have hB := hB.drew
            obtain ⟨gk, egk⟩ : ∃ gk, gk = wr.heap.size := ⟨_, rfl⟩
            rw [← egk] at hkB ⊢
            clear egk
            refine regionS 16 (fun w' => Below w5.drew.heap.size w5.drew w') (by kernel_rfl) ?_
            try (change AnyS _ _ _ _ _ _ _ _ _ (World.drew _))
            generalize w5.drew = w6 at *
            refine takeS (i := 0) (v := ?_) rfl (by kernel_rfl) (by kernel_rfl) (by kernel_rfl) (by kernel_rfl) (by kernel_rfl) (fun _ _ _ h => h) (Or.inl ⟨by kernel_rfl, ?_⟩) (Below.refl _ _) ?_
            case refine_2 =>
              intro wS hSw
              obtain ⟨x0, x1, x2, x3⟩ := hkB.below hSw
              go_simp
              try with_reducible rfl
            try simp only [List.getElem_toArray, List.getElem_cons_succ, List.getElem_cons_zero, Act.put, List.setIfInBounds_toArray, List.set_cons_zero, List.set_cons_succ]
            refine takeS (i := 1) (v := ?_) rfl (by kernel_rfl) (by kernel_rfl) (by kernel_rfl) (by kernel_rfl) (by kernel_rfl) (fun _ _ _ h => h) (Or.inl ⟨by kernel_rfl, ?_⟩) (Below.refl _ _) ?_
            case refine_2 =>
              intro wS hSw
              obtain ⟨x0, x1, x2, x3⟩ := hkL.below hSw
              go_simp
              try with_reducible rfl
            try simp only [List.getElem_toArray, List.getElem_cons_succ, List.getElem_cons_zero, Act.put, List.setIfInBounds_toArray, List.set_cons_zero, List.set_cons_succ]
            refine readyS (i := 2) (by kernel_rfl) rfl (fun K hK => ?_)
            go_simp
            refine (Cc.out w6 A2 n2 c2 g2 A3 n3 c3 g3 y' Q (by have := Hy.out; omega) (by have := HQ.out; omega)).mono ?_
            rintro e w7 ⟨rfl, hb7⟩
            refine hK _ _ hb7 ?_
            clear hK K
            refine takeS (i := 3) (v := ?_) rfl (by kernel_rfl) (by kernel_rfl) (by kernel_rfl) (by kernel_rfl) (by kernel_rfl) (fun _ _ _ h => h) (Or.inl ⟨by kernel_rfl, ?_⟩) hb7 ?_
            case refine_2 =>
              intro wS hSw
              go_simp
              try with_reducible rfl
            try simp only [List.getElem_toArray, List.getElem_cons_succ, List.getElem_cons_zero, Act.put, List.setIfInBounds_toArray, List.set_cons_zero, List.set_cons_succ]
            refine takeS (i := 4) (v := ?_) rfl (by kernel_rfl) (by kernel_rfl) (by kernel_rfl) (by kernel_rfl) (by kernel_rfl) (fun _ _ _ h => h) (Or.inl ⟨by kernel_rfl, ?_⟩) hb7 ?_
            case refine_2 =>
              intro wS hSw
              go_simp
              try with_reducible rfl
            try simp only [List.getElem_toArray, List.getElem_cons_succ, List.getElem_cons_zero, Act.put, List.setIfInBounds_toArray, List.set_cons_zero, List.set_cons_succ]
            refine takeS (i := 5) (v := ?_) rfl (by kernel_rfl) (by kernel_rfl) (by kernel_rfl) (by kernel_rfl) (by kernel_rfl) (fun _ _ _ h => h) (Or.inl ⟨by kernel_rfl, ?_⟩) hb7 ?_
            case refine_2 =>
              intro wS hSw
              go_simp
              try with_reducible rfl
            try simp only [List.getElem_toArray, List.getElem_cons_succ, List.getElem_cons_zero, Act.put, List.setIfInBounds_toArray, List.set_cons_zero, List.set_cons_succ]
            refine takeS (i := 6) (v := ?_) rfl (by kernel_rfl) (by kernel_rfl) (by kernel_rfl) (by kernel_rfl) (by kernel_rfl) (fun _ _ _ h => h) (Or.inl ⟨by kernel_rfl, ?_⟩) hb7 ?_
            case refine_2 =>
              intro wS hSw
              go_simp
              try with_reducible rfl
            try simp only [List.getElem_toArray, List.getElem_cons_succ, List.getElem_cons_zero, Act.put, List.setIfInBounds_toArray, List.set_cons_zero, List.set_cons_succ]
            refine takeS (i := 7) (v := ?_) rfl (by kernel_rfl) (by kernel_rfl) (by kernel_rfl) (by kernel_rfl) (by kernel_rfl) (fun _ _ _ h => h) (Or.inl ⟨by kernel_rfl, ?_⟩) hb7 ?_
            case refine_2 =>
              intro wS hSw
              go_simp
              try with_reducible rfl
            try simp only [List.getElem_toArray, List.getElem_cons_succ, List.getElem_cons_zero, Act.put, List.setIfInBounds_toArray, List.set_cons_zero, List.set_cons_succ]
            refine takeS (i := 8) (v := ?_) rfl (by kernel_rfl) (by kernel_rfl) (by kernel_rfl) (by kernel_rfl) (by kernel_rfl) (fun _ _ _ h => h) (Or.inl ⟨by kernel_rfl, ?_⟩) hb7 ?_
            case refine_2 =>
              intro wS hSw
              obtain ⟨x0, x1, x2, x3⟩ := hkB.below hSw
              go_simp
              try with_reducible rfl
            try simp only [List.getElem_toArray, List.getElem_cons_succ, List.getElem_cons_zero, Act.put, List.setIfInBounds_toArray, List.set_cons_zero, List.set_cons_succ]
            refine takeS (i := 9) (v := ?_) rfl (by kernel_rfl) (by kernel_rfl) (by kernel_rfl) (by kernel_rfl) (by kernel_rfl) (fun _ _ _ h => h) (Or.inl ⟨by kernel_rfl, ?_⟩) hb7 ?_
            case refine_2 =>
              intro wS hSw
              go_simp
              try with_reducible rfl
            try simp only [List.getElem_toArray, List.getElem_cons_succ, List.getElem_cons_zero, Act.put, List.setIfInBounds_toArray, List.set_cons_zero, List.set_cons_succ]
            refine takeS (i := 10) (v := ?_) rfl (by kernel_rfl) (by kernel_rfl) (by kernel_rfl) (by kernel_rfl) (by kernel_rfl) (fun _ _ _ h => h) (Or.inl ⟨by kernel_rfl, ?_⟩) hb7 ?_
            case refine_2 =>
              intro wS hSw
              go_simp
              try with_reducible rfl
            try simp only [List.getElem_toArray, List.getElem_cons_succ, List.getElem_cons_zero, Act.put, List.setIfInBounds_toArray, List.set_cons_zero, List.set_cons_succ]
            refine takeS (i := 11) (v := ?_) rfl (by kernel_rfl) (by kernel_rfl) (by kernel_rfl) (by kernel_rfl) (by kernel_rfl) (fun _ _ _ h => h) (Or.inl ⟨by kernel_rfl, ?_⟩) hb7 ?_
            case refine_2 =>
              intro wS hSw
              obtain ⟨x0, x1, x2, x3⟩ := hB.below hSw
              go_simp
              try with_reducible rfl
            try simp only [List.getElem_toArray, List.getElem_cons_succ, List.getElem_cons_zero, Act.put, List.setIfInBounds_toArray, List.set_cons_zero, List.set_cons_succ]
            refine readyS (i := 12) (by kernel_rfl) rfl (fun K hK => ?_)
            go_simp
            refine (Cc.out w7 A2 n2 c2 (g2.below (by omega) hb7) A2 n2 c2 (g2.below (by omega) hb7) y' y (by have := Hy.out; omega) (by omega)).mono ?_
            rintro e w8 ⟨rfl, hb8⟩
            have q8 := hb7.trans (hb8.mono hb7.size)
            refine hK _ _ q8 ?_
            clear hK K
            refine takeS (i := 13) (v := ?_) rfl (by kernel_rfl) (by kernel_rfl) (by kernel_rfl) (by kernel_rfl) (by kernel_rfl) (fun _ _ _ h => h) (Or.inl ⟨by kernel_rfl, ?_⟩) q8 ?_
            case refine_2 =>
              intro wS hSw
              go_simp
              try with_reducible rfl
            try simp only [List.getElem_toArray, List.getElem_cons_succ, List.getElem_cons_zero, Act.put, List.setIfInBounds_toArray, List.set_cons_zero, List.set_cons_succ]
            refine takeS (i := 14) (v := ?_) rfl (by kernel_rfl) (by kernel_rfl) (by kernel_rfl) (by kernel_rfl) (by kernel_rfl) (fun _ _ _ h => h) (Or.inl ⟨by kernel_rfl, ?_⟩) q8 ?_
            case refine_2 =>
              intro wS hSw
              go_simp
              try with_reducible rfl
            try simp only [List.getElem_toArray, List.getElem_cons_succ, List.getElem_cons_zero, Act.put, List.setIfInBounds_toArray, List.set_cons_zero, List.set_cons_succ]
            refine takeS (i := 15) (v := ?_) rfl (by kernel_rfl) (by kernel_rfl) (by kernel_rfl) (by kernel_rfl) (by kernel_rfl) (fun _ _ _ h => h) (Or.inl ⟨by kernel_rfl, ?_⟩) q8 ?_
            case refine_2 =>
              intro wS hSw
              go_simp
              try with_reducible rfl
            try simp only [List.getElem_toArray, List.getElem_cons_succ, List.getElem_cons_zero, Act.put, List.setIfInBounds_toArray, List.set_cons_zero, List.set_cons_succ]
            refine doneS (by kernel_rfl) ?_ _
            try simp only [List.getElem_toArray, List.getElem_cons_succ, List.getElem_cons_zero, Act.put, List.setIfInBounds_toArray, List.set_cons_zero, List.set_cons_succ]
            have hwl := q8
            have hkB := hkB.below hwl
            have hkL := hkL.below hwl
            have g2 := g2.below (by omega) hwl
            have g3 := g3.below (by omega) hwl
            have hb5 := hb5.trans (hwl.mono hb5.size)
            have hB := hB.below hwl
            clear hwl
            obtain ⟨x0, x1, x2, x3⟩ := id hkB
            have hz4 := Hz4.out
            have hz6 := Hz6.out
            have hz8 := Hz8.out
            have t2 := T2.out
            cases b2 <;> simp only [Bool.not_true, Bool.not_false] at hz6 hz8
            · go_wp2
              go_roundw
              case rel => exact ⟨j + 1, by have := Hj.out; omega, by have := Hj20.out; rw [wrap_succ j (by omega)], hb5, hkL, g2, g3, .inr ⟨g, y, rfl, rfl, rfl, hy, hB⟩⟩
              case measure => have := Hj.out; have := Hj20.out; rw [wrap_succ j (by omega)]; simp only [intOf, Int.toNat_natCast]; omega
            · go_wp2
              go_roundw
              case rel => exact ⟨j + 1, by have := Hj.out; omega, by have := Hj20.out; rw [wrap_succ j (by omega)], hb5, hkL, g2, g3, .inr ⟨gk, y', rfl, rfl, rfl, Hy.out, hkB⟩⟩
              case measure => have := Hj.out; have := Hj20.out; rw [wrap_succ j (by omega)]; simp only [intOf, Int.toNat_natCast]; omega
      · rcases hst with ⟨rfl, rfl, x, rfl⟩ | ⟨g, y, rfl, rfl, rfl, hy, hB⟩
        · go_wp2
          go_ret
          exact ⟨rfl, hbr⟩
        · obtain ⟨x0, x1, x2, x3⟩ := hB
          go_wp2
          go_ret
          exact ⟨rfl, hbr⟩
    · obtain rfl : j = m := by omega
      rcases hst with ⟨rfl, rfl, x, rfl⟩ | ⟨g, y, rfl, rfl, rfl, hy, hB⟩
      · go_wp2
        go_ret
        exact ⟨rfl, hbr⟩
      · obtain ⟨x0, x1, x2, x3⟩ := hB
        go_wp2
        go_ret
        exact ⟨rfl, hbr⟩
end Go.Proofs.Ytfonincdhjkacaa
