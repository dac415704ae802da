/-
  The walks of AtomRises and AtomPairs: each returns true at every input. No condition.
-/
import Derived.Test.YthbmlkdijppkbaaCompare
import Derived.Test.YthbmlkdijppkbaaAtomAwake
namespace Go.Proofs.Ythbmlkdijppkbaa
open Go.RowKit

theorem lt_of {l m : List UInt8} (h : Lib.compareBytes l m = -1) : ltL l m = true ∧ ltL m l = false := by
  have h2 := cmp_swap l m
  unfold ltL
  rw [h2, h]
  exact ⟨rfl, rfl⟩
set_option maxHeartbeats 4000000 in
theorem atomRises.walk (w : World) (a : Nat) (ha : a ≤ 18446744073709551615) (b : Nat) (hb : b ≤ 18446744073709551615) (Ax : Option Addr) (nx cx : Nat) (x : List UInt8) (hx : Sl w 1 Ax nx cx (bc x)) (Ay : Option Addr) (ny cy : Nat) (y : List UInt8) (hy : Sl w 1 Ay ny cy (bc y)) :
    Calls Try.prog 7 #[.int .u64 (a : Int), .int .u64 (b : Int), .slice Ax nx cx, .slice Ay ny cy] w fun e w' => e = .returned (.bool true) ∧ Below w.heap.size w w' := by
  have c1 := fun w' => num_any a w' (by omega)
  have c2 := fun w' => num_any b w' (by omega)
  have hla := (num_len a).2
  have hlb := (num_len b).2
  have hlt : ∀ u v : List UInt8, a ≠ b → ltL (numL a ++ u) (numL b ++ v) = decide (a < b) ∧ ltL (numL b ++ v) (numL a ++ u) = decide (b < a) := by
    intro u v hne
    rcases Nat.lt_or_ge a b with h | h
    · obtain ⟨h1, h2⟩ := lt_of (num_lt (by omega) h u v)
      rw [h1, h2, decide_eq_true h, decide_eq_false (by omega)]
      exact ⟨rfl, rfl⟩
    · obtain ⟨h1, h2⟩ := lt_of (num_lt (by omega) (show b < a by omega) v u)
      rw [h1, h2, decide_eq_true (show b < a by omega), decide_eq_false (by omega)]
      exact ⟨rfl, rfl⟩
  have C1 := Lib.hid c1
  have C2 := Lib.hid c2
  have HLT := Lib.hid hlt
  have Ha := Lib.hid ha
  have Hb := Lib.hid hb
  clear c1 c2 hlt ha hb
  by_cases heq : a = b
  · have d1 : ((a : Int) == (b : Int)) = true := by simp; omega
    have hnn : numL a = numL b := by rw [heq]
    have Hnn : Hid ((numL a == numL b) = true) := by unfold Hid; rw [hnn]; simp
    clear heq hnn
    go_enter Try.func7, Try.ntmps7
    go_wp2_with fail
    refine (awake01 w).mono ?_
    rintro e w0 ⟨rfl, hb0⟩
    go_wp2_with fail
    refine (C1.out _).mono ?_
    rintro e w1 ⟨A1, n1, c1, rfl, ho1, hb1⟩
    go_wp2_with fail
    refine (C2.out _).mono ?_
    rintro e w2 ⟨A2, n2, c2, rfl, ho2, hb2⟩
    go_wp2_with fail
    refine (same_is w2 A1 n1 c1 _ A2 n2 c2 _ true Hnn ((OwnB.sl ho1).below (by omega) hb2) (OwnB.sl ho2)).mono ?_
    rintro e w' ⟨rfl, rfl⟩
    go_wp2
    go_ret
    exact ⟨rfl, (hb0.trans (hb1.mono hb0.size)).trans (hb2.mono (Nat.le_trans hb0.size hb1.size))⟩
  · have d1 : ((a : Int) == (b : Int)) = false := by simp; omega
    have Heq := Lib.hid heq
    clear heq
    go_enter Try.func7, Try.ntmps7
    go_wp2_with fail
    refine (awake01 w).mono ?_
    rintro e w0 ⟨rfl, hb0⟩
    go_wp2_with fail
    refine (C1.out _).mono ?_
    rintro e w1 ⟨A1, n1, c1, rfl, ho1, hb1⟩
    have hbw1 := hb0.trans (hb1.mono hb0.size)
    have hn1 := ho1.len'
    go_wp2_with fail
    refine (cut_any w1 Ax nx cx x 20 (hx.below (by omega) hbw1) (by omega)).mono ?_
    have ht : (x.take 20).length ≤ 20 := by simp; omega
    generalize x.take 20 = t at *
    rintro e w2 ⟨A2, n2, c2, rfl, ho2, hb2⟩
    have hn2 := ho2.len'
    have hbw2 := hbw1.trans (hb2.mono hbw1.size)
    have hnn : n1 + n2 ≤ 29 := by omega
    clear hn1 hn2
    go_wp2_with fail
    refine (ajoin_two w2 A1 n1 c1 _ A2 n2 c2 t ((OwnB.sl ho1).below (by omega) hb2) (OwnB.sl ho2) (by omega)).mono ?_
    rintro e w3 ⟨A3, n3, c3, rfl, ho3, hb3⟩
    have hbw3 := hbw2.trans (hb3.mono hbw2.size)
    clear ho1 ho2
    go_wp2_with fail
    refine (C2.out _).mono ?_
    rintro e w4 ⟨A4, n4, c4, rfl, ho4, hb4⟩
    have hbw4 := hbw3.trans (hb4.mono hbw3.size)
    have hn4 := ho4.len'
    go_wp2_with fail
    refine (cut_any w4 Ay ny cy y 20 (hy.below (by omega) hbw4) (by omega)).mono ?_
    have ht5 : (y.take 20).length ≤ 20 := by simp; omega
    generalize y.take 20 = t5 at *
    rintro e w5 ⟨A5, n5, c5, rfl, ho5, hb5⟩
    have hn5 := ho5.len'
    have hbw5 := hbw4.trans (hb5.mono hbw4.size)
    have hnn2 : n4 + n5 ≤ 29 := by omega
    clear hn4 hn5
    go_wp2_with fail
    refine (ajoin_two w5 A4 n4 c4 _ A5 n5 c5 t5 ((OwnB.sl ho4).below (by omega) hb5) (OwnB.sl ho5) (by omega)).mono ?_
    rintro e w6 ⟨A6, n6, c6, rfl, ho6, hb6⟩
    have hbw6 := hbw5.trans (hb6.mono hbw5.size)
    have s3 := (OwnB.sl ho3).below (by omega) (hb4.trans ((hb5.trans (hb6.mono hb5.size)).mono hb4.size))
    have s6 := OwnB.sl ho6
    obtain ⟨h1, h2⟩ := HLT.out t t5 Heq.out
    have H1 := Lib.hid h1
    have H2 := Lib.hid h2
    clear h1 h2 ho3 ho4 ho5 ho6
    generalize numL a ++ t = p at *
    generalize numL b ++ t5 = q at *
    by_cases hab : a < b
    · have hba : ¬ b < a := by omega
      rw [decide_eq_true hab] at H1
      rw [decide_eq_false hba] at H2
      go_wp2_with fail
      refine (less_is w6 A3 n3 c3 p s3 A6 n6 c6 q s6 true H1).mono ?_
      rintro e w' ⟨rfl, rfl⟩
      go_wp2_with fail
      refine (less_is w6 A6 n6 c6 q s6 A3 n3 c3 p s3 false H2).mono ?_
      rintro e w' ⟨rfl, rfl⟩
      have p1 : ¬ ((b : Int) < (a : Int)) := by omega
      have p2 : decide ((b : Int) < (a : Int)) = false := by simp; omega
      go_wp2
      go_ret
      exact ⟨rfl, hbw6⟩
    · have hba : b < a := by have := Heq.out; omega
      rw [decide_eq_false hab] at H1
      rw [decide_eq_true hba] at H2
      have p1 : ¬ ((a : Int) < (b : Int)) := by omega
      have p2 : decide ((a : Int) < (b : Int)) = false := by simp; omega
      have p3 : decide ((b : Int) < (a : Int)) = true := by simp; omega
      go_wp2_with fail
      refine (less_is w6 A3 n3 c3 p s3 A6 n6 c6 q s6 false H1).mono ?_
      rintro e w' ⟨rfl, rfl⟩
      go_wp2_with fail
      refine (less_is w6 A6 n6 c6 q s6 A3 n3 c3 p s3 true H2).mono ?_
      rintro e w' ⟨rfl, rfl⟩
      go_wp2
      go_ret
      exact ⟨rfl, hbw6⟩
theorem ne_of {l m : List UInt8} (h : Lib.compareBytes l m ≠ 0) : (l == m) = false := by
  rw [beq_eq_false_iff_ne]
  intro e
  subst e
  exact h (cmp_self _)
/-- two pairs of numbers: which stands ahead, are they the same -/
theorem pairs_cmp (a b c d : Nat) (ha : a < 18446744073709551616) (hb : b < 18446744073709551616) (hc : c < 18446744073709551616) (hd : d < 18446744073709551616) :
    Lib.compareBytes (numL a ++ numL b) (numL c ++ numL d) = if a < c then -1 else if c < a then 1 else if b < d then -1 else if d < b then 1 else 0 := by
  by_cases h1 : a < c
  · rw [if_pos h1]
    exact num_lt hc h1 _ _
  · rw [if_neg h1]
    by_cases h2 : c < a
    · rw [if_pos h2, cmp_swap, num_lt ha h2]
      rfl
    · rw [if_neg h2]
      obtain rfl : a = c := by omega
      rw [cmp_append]
      by_cases h3 : b < d
      · rw [if_pos h3]
        have := num_lt hd h3 [] []
        simpa using this
      · rw [if_neg h3]
        by_cases h4 : d < b
        · rw [if_pos h4, cmp_swap]
          have := num_lt hb h4 [] []
          rw [List.append_nil, List.append_nil] at this
          rw [this]
          rfl
        · rw [if_neg h4]
          obtain rfl : b = d := by omega
          exact cmp_self _
set_option maxHeartbeats 8000000 in
theorem atomPairs.walk (w : World) (a : Nat) (ha : a ≤ 18446744073709551615) (b : Nat) (hb : b ≤ 18446744073709551615) (c : Nat) (hc : c ≤ 18446744073709551615) (d : Nat) (hd : d ≤ 18446744073709551615) :
    Calls Try.prog 8 #[.int .u64 (a : Int), .int .u64 (b : Int), .int .u64 (c : Int), .int .u64 (d : Int)] w fun e w' => e = .returned (.bool true) ∧ Below w.heap.size w w' := by
  have c1 := fun w' => num_any a w' (by omega)
  have c2 := fun w' => num_any b w' (by omega)
  have c3 := fun w' => num_any c w' (by omega)
  have c4 := fun w' => num_any d w' (by omega)
  have hla := (num_len a).2
  have hlb := (num_len b).2
  have hlc := (num_len c).2
  have hld := (num_len d).2
  have hcmp := pairs_cmp a b c d (by omega) (by omega) (by omega) (by omega)
  have C1 := Lib.hid c1
  have C2 := Lib.hid c2
  have C3 := Lib.hid c3
  have C4 := Lib.hid c4
  have HC := Lib.hid hcmp
  have hsame : Hid (a = c → b = d → (numL a ++ numL b == numL c ++ numL d) = true) := by rintro rfl rfl; simp
  clear c1 c2 c3 c4 hcmp ha hb hc hd
  go_enter Try.func8, Try.ntmps8
  go_wp2_with fail
  refine (awake01 w).mono ?_
  rintro e w0 ⟨rfl, hb0⟩
  go_wp2_with fail
  refine (C1.out _).mono ?_
  rintro e w1 ⟨A1, n1, c1, rfl, ho1, hb1⟩
  have hbw1 := hb0.trans (hb1.mono hb0.size)
  have hn1 := ho1.len'
  go_wp2_with fail
  refine (C2.out _).mono ?_
  rintro e w2 ⟨A2, n2, c2, rfl, ho2, hb2⟩
  have hn2 := ho2.len'
  have hbw2 := hbw1.trans (hb2.mono hbw1.size)
  have hnn : n1 + n2 ≤ 18 := by omega
  clear hn1 hn2
  go_wp2_with fail
  refine (ajoin_two w2 A1 n1 c1 _ A2 n2 c2 _ ((OwnB.sl ho1).below (by omega) hb2) (OwnB.sl ho2) (by omega)).mono ?_
  rintro e w3 ⟨A3, n3, c3, rfl, ho3, hb3⟩
  have hbw3 := hbw2.trans (hb3.mono hbw2.size)
  clear ho1 ho2
  go_wp2_with fail
  refine (C3.out _).mono ?_
  rintro e w4 ⟨A4, n4, c4, rfl, ho4, hb4⟩
  have hbw4 := hbw3.trans (hb4.mono hbw3.size)
  have hn4 := ho4.len'
  go_wp2_with fail
  refine (C4.out _).mono ?_
  rintro e w5 ⟨A5, n5, c5, rfl, ho5, hb5⟩
  have hn5 := ho5.len'
  have hbw5 := hbw4.trans (hb5.mono hbw4.size)
  have hnn2 : n4 + n5 ≤ 18 := by omega
  clear hn4 hn5
  go_wp2_with fail
  refine (ajoin_two w5 A4 n4 c4 _ A5 n5 c5 _ ((OwnB.sl ho4).below (by omega) hb5) (OwnB.sl ho5) (by omega)).mono ?_
  rintro e w6 ⟨A6, n6, c6, rfl, ho6, hb6⟩
  have hbw6 := hbw5.trans (hb6.mono hbw5.size)
  have s3 := (OwnB.sl ho3).below (by omega) (hb4.trans ((hb5.trans (hb6.mono hb5.size)).mono hb4.size))
  have s6 := OwnB.sl ho6
  clear ho3 ho4 ho5 ho6 hla hlb hlc hld
  generalize numL a ++ numL b = p at *
  generalize numL c ++ numL d = q at *
  by_cases h1 : a < c
  · have p1 : decide ((a : Int) < (c : Int)) = true := by simp; omega
    have p2 : ((a : Int) == (c : Int)) = false := by simp; omega
    have hcm : Lib.compareBytes p q = -1 := by have h0 := HC.out; rw [h0]; rw [if_pos h1]
    have HL : Hid (ltL p q = true) := by unfold Hid ltL; rw [hcm]; rfl
    have HS : Hid ((p == q) = false) := ne_of (by rw [hcm]; decide)
    clear hcm
    go_wp2_with fail
    refine (less_is w6 A3 n3 c3 p s3 A6 n6 c6 q s6 true HL).mono ?_
    rintro e w' ⟨rfl, rfl⟩
    go_wp2_with fail
    refine (same_is w6 A3 n3 c3 p A6 n6 c6 q false HS s3 s6).mono ?_
    rintro e w' ⟨rfl, rfl⟩
    go_wp2
    go_ret
    exact ⟨rfl, hbw6⟩
  · by_cases h2 : c < a
    · have p1 : decide ((a : Int) < (c : Int)) = false := by simp; omega
      have p2 : ((a : Int) == (c : Int)) = false := by simp; omega
      have hcm : Lib.compareBytes p q = 1 := by have h0 := HC.out; rw [h0]; rw [if_neg h1, if_pos h2]
      have HL : Hid (ltL p q = false) := by unfold Hid ltL; rw [hcm]; rfl
      have HS : Hid ((p == q) = false) := ne_of (by rw [hcm]; decide)
      clear hcm
      go_wp2_with fail
      refine (less_is w6 A3 n3 c3 p s3 A6 n6 c6 q s6 false HL).mono ?_
      rintro e w' ⟨rfl, rfl⟩
      go_wp2_with fail
      refine (same_is w6 A3 n3 c3 p A6 n6 c6 q false HS s3 s6).mono ?_
      rintro e w' ⟨rfl, rfl⟩
      go_wp2
      go_ret
      exact ⟨rfl, hbw6⟩
    · by_cases h3 : b < d
      · have p1 : decide ((a : Int) < (c : Int)) = false := by simp; omega
        have p2 : ((a : Int) == (c : Int)) = true := by simp; omega
        have p3 : decide ((b : Int) < (d : Int)) = true := by simp; omega
        have p4 : ((b : Int) == (d : Int)) = false := by simp; omega
        have hcm : Lib.compareBytes p q = -1 := by have h0 := HC.out; rw [h0]; rw [if_neg h1, if_neg h2, if_pos h3]
        have HL : Hid (ltL p q = true) := by unfold Hid ltL; rw [hcm]; rfl
        have HS : Hid ((p == q) = false) := ne_of (by rw [hcm]; decide)
        clear hcm
        go_wp2_with fail
        refine (less_is w6 A3 n3 c3 p s3 A6 n6 c6 q s6 true HL).mono ?_
        rintro e w' ⟨rfl, rfl⟩
        go_wp2_with fail
        refine (same_is w6 A3 n3 c3 p A6 n6 c6 q false HS s3 s6).mono ?_
        rintro e w' ⟨rfl, rfl⟩
        go_wp2
        go_ret
        exact ⟨rfl, hbw6⟩
      · by_cases h4 : d < b
        · have p1 : decide ((a : Int) < (c : Int)) = false := by simp; omega
          have p2 : ((a : Int) == (c : Int)) = true := by simp; omega
          have p3 : decide ((b : Int) < (d : Int)) = false := by simp; omega
          have p4 : ((b : Int) == (d : Int)) = false := by simp; omega
          have hcm : Lib.compareBytes p q = 1 := by have h0 := HC.out; rw [h0]; rw [if_neg h1, if_neg h2, if_neg h3, if_pos h4]
          have HL : Hid (ltL p q = false) := by unfold Hid ltL; rw [hcm]; rfl
          have HS : Hid ((p == q) = false) := ne_of (by rw [hcm]; decide)
          clear hcm
          go_wp2_with fail
          refine (less_is w6 A3 n3 c3 p s3 A6 n6 c6 q s6 false HL).mono ?_
          rintro e w' ⟨rfl, rfl⟩
          go_wp2_with fail
          refine (same_is w6 A3 n3 c3 p A6 n6 c6 q false HS s3 s6).mono ?_
          rintro e w' ⟨rfl, rfl⟩
          go_wp2
          go_ret
          exact ⟨rfl, hbw6⟩
        · have p1 : decide ((a : Int) < (c : Int)) = false := by simp; omega
          have p2 : ((a : Int) == (c : Int)) = true := by simp; omega
          have p3 : decide ((b : Int) < (d : Int)) = false := by simp; omega
          have p4 : ((b : Int) == (d : Int)) = true := by simp; omega
          have hcm : Lib.compareBytes p q = 0 := by have h0 := HC.out; rw [h0]; rw [if_neg h1, if_neg h2, if_neg h3, if_neg h4]
          have HL : Hid (ltL p q = false) := by unfold Hid ltL; rw [hcm]; rfl
          have HS : Hid ((p == q) = true) := hsame.out (by omega) (by omega)
          clear hcm
          go_wp2_with fail
          refine (less_is w6 A3 n3 c3 p s3 A6 n6 c6 q s6 false HL).mono ?_
          rintro e w' ⟨rfl, rfl⟩
          go_wp2_with fail
          refine (same_is w6 A3 n3 c3 p A6 n6 c6 q true HS s3 s6).mono ?_
          rintro e w' ⟨rfl, rfl⟩
          go_wp2
          go_ret
          exact ⟨rfl, hbw6⟩
end Go.Proofs.Ythbmlkdijppkbaa
