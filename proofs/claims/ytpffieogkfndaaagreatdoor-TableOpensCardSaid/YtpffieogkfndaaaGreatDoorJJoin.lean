/-
  AtomText, Join in one text. No condition but sizes.
-/
import Derived.Test.YtpffieogkfndaaaGreatDoorAtomRTake
import Derived.Test.YtpffieogkfndaaaGreatDoorJRowsX
import Derived.Lib.MakeNoZero
namespace Go.Proofs.YtpffieogkfndaaaGreatDoor
set_option maxRecDepth 20000
set_option linter.unusedVariables false
set_option linter.unusedSimpArgs false
open Go.RowKit

def takeTextL (p : List UInt8) (most : Int) : List UInt8 × List UInt8 × Nat :=
  if (takeL p).2.2 ≠ 0 then ([], [], (takeL p).2.2) else if most < 0 ∨ most < (takeL p).1 then ([], [], 3) else if (takeL p).2.1.length < (takeL p).1 then ([], [], 2)
  else ((takeL p).2.1.take (takeL p).1, (takeL p).2.1.drop (takeL p).1, 0)
theorem takeL_lt (p : List UInt8) : (takeL p).1 < 18446744073709551616 := by
  cases p with
  | nil => decide
  | cons b r =>
    simp only [takeL]
    split
    · decide
    · rename_i h
      split
      · refine value_lt b _ ?_
        simp at h ⊢
        omega
      · decide
theorem takeL_len (p : List UInt8) : (takeL p).2.1.length ≤ p.length := by
  cases p with
  | nil => decide
  | cons b r =>
    simp only [takeL]
    split
    · simp
    · split
      · simp; omega
      · simp
/-- .. its two texts lie in new memory -/
def NewAt (w : World) (A : Option Addr) (n : Nat) : Prop := ∀ b, 0 < n → A.map (·.block) = some b → w.heap.size ≤ b
def TookN (w : World) (r : List UInt8 × List UInt8 × Nat) (e : Ending) (w' : World) : Prop :=
  ∃ (A : Option Addr) (n c : Nat) (A' : Option Addr) (n' c' : Nat), e = .returned (.tuple #[.slice A n c, .slice A' n' c', .int .i64 (r.2.2 : Nat)]) ∧ Sl w' 1 A n c (bc r.1) ∧ Sl w' 1 A' n' c' (bc r.2.1) ∧ Below w.heap.size w w' ∧ NewAt w A n ∧ NewAt w A' n'
theorem own_new {w w' : World} {B : Nat} {e : TypeId} {A : Option Addr} {n c : Nat} {xs : List Value} (ho : Own w' B e 1 A n c xs) (hB : w.heap.size ≤ B) : NewAt w A n := fun b hn q => by
  have := (ho.lt b (by have := ho.cap; unfold blk; rw [if_neg (by omega)]; exact q)).1
  omega
theorem none_new (w : World) : NewAt w none 0 := fun b h => absurd h (by omega)
theorem sl_none (w : World) : Sl w 1 none 0 0 (bc []) := Sl.nil _ _ _ _ (Nat.zero_le _)
set_option maxHeartbeats 4000000 in
theorem taketext_new (w : World) (A : Option Addr) (n c : Nat) (p : List UInt8) (h : Sl w 1 A n c (bc p)) (hn : n ≤ 70368744177664) (most : Int) (hm : most ≤ 9223372036854775807) :
    Calls Tryz.prog 105 #[.slice A n c, .int .i64 most] w (TookN w (takeTextL p most)) := by
  have hl := h.lenb
  have hlt := takeL_lt p
  have hll := takeL_len p
  have hc := take_any w A n c p h hn
  obtain ⟨T, hT⟩ : ∃ T, takeTextL p most = T := ⟨_, rfl⟩
  rw [hT]
  unfold takeTextL at hT
  generalize takeL p = r at *
  obtain ⟨x, rest, er⟩ := r
  simp only at hlt hll hT
  have hrn : rest.length ≤ n := by omega
  have Hc := Lib.hid hc
  clear hc hl hll
  go_enter Tryz.func105, Tryz.ntmps105
  go_wp2_with fail
  refine Hc.out.mono ?_
  rintro e w1 ⟨A1, n1, c1, rfl, ho1, hb1⟩
  have hA1 := own_new (w := w) ho1 (Nat.le_refl _)
  have HA1 := Lib.hid hA1
  clear hA1
  have hs1 := OwnB.sl ho1
  have hn1 := hs1.lenb
  simp only at hn1
  subst hn1
  clear ho1 Hc h
  by_cases he : er ≠ 0
  · rw [if_pos he] at hT
    have HT := Lib.hid hT.symm
    have d1 : ((er : Int) != 0) = true := by simp; omega
    clear hT he
    go_wp2
    go_ret3
    rw [HT.out]
    exact ⟨none, 0, 0, none, 0, 0, rfl, sl_none _, sl_none _, hb1, none_new _, none_new _⟩
  · rw [if_neg he] at hT
    obtain rfl : er = 0 := by omega
    clear he
    by_cases hmost : most < 0
    · rw [if_pos (.inl hmost)] at hT
      have HT := Lib.hid hT.symm
      clear hT
      go_wp2
      go_ret3
      rw [HT.out]
      exact ⟨none, 0, 0, none, 0, 0, rfl, sl_none _, sl_none _, hb1, none_new _, none_new _⟩
    · obtain ⟨m, rfl⟩ := Int.eq_ofNat_of_zero_le (show 0 ≤ most by omega)
      by_cases hmx : m < x
      · rw [if_pos (.inr (by omega))] at hT
        have HT := Lib.hid hT.symm
        clear hT
        go_wp2
        go_ret3
        rw [HT.out]
        exact ⟨none, 0, 0, none, 0, 0, rfl, sl_none _, sl_none _, hb1, none_new _, none_new _⟩
      · rw [if_neg (by omega)] at hT
        by_cases hrx : rest.length < x
        · rw [if_pos hrx] at hT
          have HT := Lib.hid hT.symm
          clear hT
          go_wp2
          go_ret3
          rw [HT.out]
          exact ⟨none, 0, 0, none, 0, 0, rfl, sl_none _, sl_none _, hb1, none_new _, none_new _⟩
        · rw [if_neg hrx] at hT
          have HT := Lib.hid hT.symm
          clear hT
          obtain ⟨r1, hs2⟩ := cutH hs1 .u64 (x : Int) x rfl (by omega)
          obtain ⟨A3, r2, hs3, _⟩ := cutL hs1 .u64 (x : Int) x rfl (by omega)
          go_wp2
          refine wp_region_any (by kernel_rfl) ?_
          try (change wpAny _ _ _ _ _ _ _ (World.drew _))
          refine wpAny_take (i := 0) (v := ?_) rfl (by kernel_rfl) (by kernel_rfl) (by kernel_rfl) (fun _ _ _ h => h) (Or.inl ⟨by kernel_rfl, ?_⟩) ?_
          case refine_2 => ((intro w; go_simp); try with_reducible rfl)
          refine wpAny_take (i := 1) (v := ?_) rfl (by kernel_rfl) (by kernel_rfl) (by kernel_rfl) (fun _ _ _ h => h) (Or.inl ⟨by kernel_rfl, ?_⟩) ?_
          case refine_2 => ((intro w; go_simp); try with_reducible rfl)
          refine wpAny_take (i := 2) (v := ?_) rfl (by kernel_rfl) (by kernel_rfl) (by kernel_rfl) (fun _ _ _ h => h) (Or.inl ⟨by kernel_rfl, ?_⟩) ?_
          case refine_2 => ((intro w; go_simp); try with_reducible rfl)
          refine wpAny_take (i := 4) (v := ?_) rfl (by kernel_rfl) (by kernel_rfl) (by kernel_rfl) (fun _ _ _ h => h) (Or.inl ⟨by kernel_rfl, ?_⟩) ?_
          case refine_2 => ((intro w; go_simp); try with_reducible rfl)
          refine wpAny_take (i := 5) (v := ?_) rfl (by kernel_rfl) (by kernel_rfl) (by kernel_rfl) (fun _ _ _ h => h) (Or.inl ⟨by kernel_rfl, ?_⟩) ?_
          case refine_2 => ((intro w; go_simp); try with_reducible rfl)
          refine wpAny_take (i := 6) (v := ?_) rfl (by kernel_rfl) (by kernel_rfl) (by kernel_rfl) (fun _ _ _ h => h) (Or.inl ⟨by kernel_rfl, ?_⟩) ?_
          case refine_2 => ((intro w; go_simp); try with_reducible rfl)
          refine wpAny_ready (rs := [3]) (by kernel_rfl) (by simp) ?_
          refine AllReady.cons rfl (fun K hK => ?_) AllReady.nil
          go_simp
          refine (clone_any _ A1 x c1 _ (Sl.drew hs2) (by omega)).mono ?_
          rintro e w4 ⟨A4, n4, c4, rfl, ho4, hb4⟩
          go_simp
          refine hK _ _ ?_
          clear hK K
          refine wpAny_ready (rs := [7]) (by kernel_rfl) (by simp) ?_
          refine AllReady.cons rfl (fun K hK => ?_) AllReady.nil
          go_simp
          refine (clone_any _ A3 _ _ _ ((Sl.drew hs3).below (by omega) hb4) (by omega)).mono ?_
          rintro e w5 ⟨A5, n5, c5, rfl, ho5, hb5⟩
          go_simp
          refine hK _ _ ?_
          clear hK K
          refine wpAny_take (i := 8) (v := ?_) rfl (by kernel_rfl) (by kernel_rfl) (by kernel_rfl) (fun _ _ _ h => h) (Or.inl ⟨by kernel_rfl, ?_⟩) ?_
          case refine_2 => ((intro w; go_simp); try with_reducible rfl)
          refine wpAny_take (i := 9) (v := ?_) rfl (by kernel_rfl) (by kernel_rfl) (by kernel_rfl) (fun _ _ _ h => h) (Or.inl ⟨by kernel_rfl, ?_⟩) ?_
          case refine_2 => ((intro w; go_simp); try with_reducible rfl)
          refine wpAny_take (i := 10) (v := ?_) rfl (by kernel_rfl) (by kernel_rfl) (by kernel_rfl) (fun _ _ _ h => h) (Or.inl ⟨by kernel_rfl, ?_⟩) ?_
          case refine_2 => ((intro w; go_simp); try with_reducible rfl)
          refine wpAny_done (by kernel_rfl) ?_ _
          go_wp2
          go_ret3
          rw [HT.out]
          exact ⟨A4, n4, c4, A5, n5, c5, rfl, (OwnB.sl ho4).below (by omega) hb5, OwnB.sl ho5, ((hb1.drew).trans (hb4.mono hb1.size)).trans (hb5.mono (Nat.le_trans hb1.size hb4.size)), own_new ho4 hb1.size, own_new ho5 (Nat.le_trans hb1.size hb4.size)⟩
set_option maxHeartbeats 4000000 in
theorem rtaketext_new (w : World) (A : Option Addr) (n c : Nat) (p : List UInt8) (h : Sl w 1 A n c (bc p)) (hn : n ≤ 70368744177664) (most : Int) (hm : most ≤ 9223372036854775807) :
    Calls Tryz.prog 73 #[.slice A n c, .int .i64 most] w (TookN w (takeTextL p most)) := by
  have hl := h.lenb
  have hlt := takeL_lt p
  have hll := takeL_len p
  have hc := rtake_any w A n c p h hn
  obtain ⟨T, hT⟩ : ∃ T, takeTextL p most = T := ⟨_, rfl⟩
  rw [hT]
  unfold takeTextL at hT
  generalize takeL p = r at *
  obtain ⟨x, rest, er⟩ := r
  simp only at hlt hll hT
  have hrn : rest.length ≤ n := by omega
  have Hc := Lib.hid hc
  clear hc hl hll
  go_enter Tryz.func73, Tryz.ntmps73
  go_wp2_with fail
  refine Hc.out.mono ?_
  rintro e w1 ⟨A1, n1, c1, rfl, ho1, hb1⟩
  have hA1 := own_new (w := w) ho1 (Nat.le_refl _)
  have HA1 := Lib.hid hA1
  clear hA1
  have hs1 := OwnB.sl ho1
  have hn1 := hs1.lenb
  simp only at hn1
  subst hn1
  clear ho1 Hc h
  by_cases he : er ≠ 0
  · rw [if_pos he] at hT
    have HT := Lib.hid hT.symm
    have d1 : ((er : Int) != 0) = true := by simp; omega
    clear hT he
    go_wp2
    go_ret3
    rw [HT.out]
    exact ⟨none, 0, 0, none, 0, 0, rfl, sl_none _, sl_none _, hb1, none_new _, none_new _⟩
  · rw [if_neg he] at hT
    obtain rfl : er = 0 := by omega
    clear he
    by_cases hmost : most < 0
    · rw [if_pos (.inl hmost)] at hT
      have HT := Lib.hid hT.symm
      clear hT
      go_wp2
      go_ret3
      rw [HT.out]
      exact ⟨none, 0, 0, none, 0, 0, rfl, sl_none _, sl_none _, hb1, none_new _, none_new _⟩
    · obtain ⟨m, rfl⟩ := Int.eq_ofNat_of_zero_le (show 0 ≤ most by omega)
      by_cases hmx : m < x
      · rw [if_pos (.inr (by omega))] at hT
        have HT := Lib.hid hT.symm
        clear hT
        go_wp2
        go_ret3
        rw [HT.out]
        exact ⟨none, 0, 0, none, 0, 0, rfl, sl_none _, sl_none _, hb1, none_new _, none_new _⟩
      · rw [if_neg (by omega)] at hT
        by_cases hrx : rest.length < x
        · rw [if_pos hrx] at hT
          have HT := Lib.hid hT.symm
          clear hT
          go_wp2
          go_ret3
          rw [HT.out]
          exact ⟨none, 0, 0, none, 0, 0, rfl, sl_none _, sl_none _, hb1, none_new _, none_new _⟩
        · rw [if_neg hrx] at hT
          have HT := Lib.hid hT.symm
          clear hT
          obtain ⟨r1, hs2⟩ := cutH hs1 .u64 (x : Int) x rfl (by omega)
          obtain ⟨A3, r2, hs3, _⟩ := cutL hs1 .u64 (x : Int) x rfl (by omega)
          go_wp2
          refine wp_region_any (by kernel_rfl) ?_
          try (change wpAny _ _ _ _ _ _ _ (World.drew _))
          refine wpAny_take (i := 0) (v := ?_) rfl (by kernel_rfl) (by kernel_rfl) (by kernel_rfl) (fun _ _ _ h => h) (Or.inl ⟨by kernel_rfl, ?_⟩) ?_
          case refine_2 => ((intro w; go_simp); try with_reducible rfl)
          refine wpAny_take (i := 1) (v := ?_) rfl (by kernel_rfl) (by kernel_rfl) (by kernel_rfl) (fun _ _ _ h => h) (Or.inl ⟨by kernel_rfl, ?_⟩) ?_
          case refine_2 => ((intro w; go_simp); try with_reducible rfl)
          refine wpAny_take (i := 2) (v := ?_) rfl (by kernel_rfl) (by kernel_rfl) (by kernel_rfl) (fun _ _ _ h => h) (Or.inl ⟨by kernel_rfl, ?_⟩) ?_
          case refine_2 => ((intro w; go_simp); try with_reducible rfl)
          refine wpAny_take (i := 4) (v := ?_) rfl (by kernel_rfl) (by kernel_rfl) (by kernel_rfl) (fun _ _ _ h => h) (Or.inl ⟨by kernel_rfl, ?_⟩) ?_
          case refine_2 => ((intro w; go_simp); try with_reducible rfl)
          refine wpAny_take (i := 5) (v := ?_) rfl (by kernel_rfl) (by kernel_rfl) (by kernel_rfl) (fun _ _ _ h => h) (Or.inl ⟨by kernel_rfl, ?_⟩) ?_
          case refine_2 => ((intro w; go_simp); try with_reducible rfl)
          refine wpAny_take (i := 6) (v := ?_) rfl (by kernel_rfl) (by kernel_rfl) (by kernel_rfl) (fun _ _ _ h => h) (Or.inl ⟨by kernel_rfl, ?_⟩) ?_
          case refine_2 => ((intro w; go_simp); try with_reducible rfl)
          refine wpAny_ready (rs := [3]) (by kernel_rfl) (by simp) ?_
          refine AllReady.cons rfl (fun K hK => ?_) AllReady.nil
          go_simp
          refine hK _ _ ?_
          clear hK K
          have hba := (Below.refl w1.drew.heap.size w1.drew).alloc (Nat.le_refl _) (.cells #[] 5)
          have hs3' := (Sl.drew hs3).below (by omega) hba
          refine wpAny_ready (rs := [7]) (by kernel_rfl) (by simp) ?_
          refine AllReady.cons rfl (fun K hK => ?_) AllReady.nil
          refine step_appB (by rfl) (.tmp 35) (.tmp 38) (by rfl) w1.heap.size _ 0 0 [] (by rfl) (Own.nil _ _ _ _ _) A3 _ _ _ (by rfl) hs3' (by omega) (by simp) ?_
          intro A5 c5 w5 ho5 hg5 _
          go_simp
          refine hK _ _ ?_
          clear hK K
          refine wpAny_take (i := 8) (v := ?_) rfl (by kernel_rfl) (by kernel_rfl) (by kernel_rfl) (fun _ _ _ h => h) (Or.inl ⟨by kernel_rfl, ?_⟩) ?_
          case refine_2 => ((intro w; go_simp); try with_reducible rfl)
          refine wpAny_take (i := 9) (v := ?_) rfl (by kernel_rfl) (by kernel_rfl) (by kernel_rfl) (fun _ _ _ h => h) (Or.inl ⟨by kernel_rfl, ?_⟩) ?_
          case refine_2 => ((intro w; go_simp); try with_reducible rfl)
          refine wpAny_take (i := 10) (v := ?_) rfl (by kernel_rfl) (by kernel_rfl) (by kernel_rfl) (fun _ _ _ h => h) (Or.inl ⟨by kernel_rfl, ?_⟩) ?_
          case refine_2 => ((intro w; go_simp); try with_reducible rfl)
          refine wpAny_done (by kernel_rfl) ?_ _
          have hb5 := hba.grown hg5 (by simp) (by simp [blk])
          go_wp2
          go_ret3
          rw [HT.out]
          exact ⟨A1, x, c1, A5, _, c5, rfl, (Sl.drew hs2).below (by omega) hb5, by simpa using OwnB.sl ho5, (hb1.drew).trans (hb5.mono hb1.size), fun b hx e => HA1.out b (by omega) e, fun b hx e => own_new ho5 hb1.size b (by omega) e⟩
end Go.Proofs.YtpffieogkfndaaaGreatDoor

namespace Go.Proofs.YtpffieogkfndaaaGreatDoor
set_option maxRecDepth 20000
set_option linter.unusedVariables false
set_option linter.unusedSimpArgs false
open Go.RowKit

theorem flat_take_succ (ls : List (List UInt8)) (i : Nat) (h : i < ls.length) : (ls.take (i + 1)).flatten = (ls.take i).flatten ++ ls[i] := by
  rw [List.take_succ_eq_append_getElem h, List.flatten_append, List.flatten_cons, List.flatten_nil, List.append_nil]
theorem flat_take_le (ls : List (List UInt8)) (i : Nat) : (ls.take i).flatten.length ≤ ls.flatten.length := by
  have h : ls.flatten = (ls.take i).flatten ++ (ls.drop i).flatten := by rw [← List.flatten_append, List.take_append_drop]
  rw [h]
  simp
set_option maxRecDepth 100000 in
set_option maxHeartbeats 4000000 in
theorem join_any (w : World) (A : Option Addr) (n c : Nat) (vs : List Value) (ls : List (List UInt8)) (h : Sl w 1 A n c vs) (hp : PartsOf w vs ls) (hn : n ≤ 1000000) (hF : ls.flatten.length ≤ 1099511627776) :
    Calls Tryz.prog 86 #[.slice A n c, .slice none 0 0] w (NewB w ls.flatten) := by
  have Hl : Hid (ls.length = n) := by have h1 := h.len; have h2 := hp.1; unfold Hid; omega
  have hcap := h.cap
  have hcm := h.capm
  unfold maxLen at hcm
  by_cases h0 : n = 0
  · subst h0
    obtain rfl : ls = [] := List.eq_nil_of_length_eq_zero Hl.out
    go_enter Tryz.func86, Tryz.ntmps86
    go_wp2
    go_ret
    exact ⟨_, 0, 0, rfl, Own.nil _ _ _ _ _, (Below.refl w.heap.size w).alloc (Nat.le_refl _) _⟩
  by_cases h1 : n = 1
  · subst h1
    obtain ⟨b, o, A', n', c', hkl, rfl, hcell, hsl⟩ := hp.get h (k := 0) (by omega)
    have e : ls.flatten = ls[0] := by
      have h2 := flat_take_succ ls 0 hkl
      rw [List.take_of_length_le (by have := Hl.out; omega)] at h2
      simpa using h2
    rw [e] at hF ⊢
    have hl0 := hsl.lenb
    have hn' : n' ≤ 1099511627776 := by omega
    clear e hF hl0
    generalize ls[0] = l at *
    rw [Nat.add_zero] at hcell
    go_enter Tryz.func86, Tryz.ntmps86
    go_wp2_with (at_builtin; refine wpList_appB _ rfl (.const (.slice none 0 0)) (.tmp 21) rfl w.heap.size _ 0 0 [] rfl (Own.nil _ _ _ _ _) A' n' c' l rfl hsl ?_ ?_ ?_)
    · omega
    · exact Nat.le_refl _
    · intro A3 c3 w3 ho3 hg3 _
      go_wp2
      go_ret
      exact ⟨A3, _, c3, rfl, by simpa using ho3, (Below.refl w.heap.size w).grown hg3 (Nat.le_refl _) (by simp [blk])⟩
  have f0 : ((n : Int) == 0) = false := by simp; omega
  have f1 : ((n : Int) == 1) = false := by simp; omega
  have hmix : Tryz.prog.follows .mixedOrders = true := by kernel_rfl
  obtain ⟨T, hT⟩ : ∃ T, ls.flatten.length = T := ⟨_, rfl⟩
  rw [hT] at hF
  have HT := Lib.hid hT
  clear hT
  go_enter Tryz.func86, Tryz.ntmps86
  go_wp2
  go_loop [5, 44] (fun s i => ∃ j : Nat, j ≤ n ∧ i = .int .i64 j ∧ s = .int .i64 ((ls.take j).flatten.length : Nat)) (fun _ i => n - (intOf i).toNat)
  case atStart => exact ⟨0, Nat.zero_le _, rfl, rfl⟩
  case round =>
    obtain ⟨j, hj, rfl, rfl⟩ := hrel
    by_cases hlt : j < n
    · obtain ⟨b, o, A', n', c', hkl, rfl, hcell, hsl⟩ := hp.get h hlt
      have hs1 := flat_take_succ ls j hkl
      have hs2 := flat_take_le ls (j + 1)
      have hs3 := congrArg List.length hs1
      rw [List.length_append, hsl.lenb] at hs3
      rw [HT.out, hs3] at hs2
      generalize (ls.take j).flatten.length = acc at *
      have Hs3 := Lib.hid hs3
      have hb : ¬ (9223372036854775807 - (acc : Int) < (n' : Int)) := by omega
      clear hs1 hs3
      go_wp2
      go_round
      case rel => exact ⟨j + 1, by omega, by go_num, by rw [Hs3.out]; go_num⟩
      case measure => simp [intOf]; omega
    · obtain rfl : n = j := by omega
      rw [List.take_of_length_le (show ls.length ≤ n by have := Hl.out; omega), HT.out]
      obtain ⟨cs, hrunM, hle, hcm2⟩ := Lib.run_makeNoZero (P := Tryz.prog) w #[3] 29 5 Tryz.underlying29 T (by omega)
      have hcall : (callFunc 113 #[.int .i64 (T : Int)]).run Tryz.prog w = .ok (.value (.slice (some ⟨w.heap.size, 0, none⟩) T cs.size)) (w.drew.drew.alloc (.cells cs 5)) := by
        rw [run_callFunc_extern Tryz.func113 (by kernel_rfl) (by kernel_rfl) (by kernel_rfl) (e := Extern.BytealgMakeNoZero.makeNoZero #[3] #[29]) (by kernel_rfl), hrunM]
        rfl
      clear hrunM
      have i0 : (0 : Int) ≤ (T : Int) := by omega
      have i1 : (T : Int) ≤ (cs.size : Int) := by omega
      obtain ⟨wM, hwM⟩ : ∃ wM, w.drew.drew.alloc (.cells cs 5) = wM := ⟨_, rfl⟩
      have hbM : Below w.heap.size w wM := by rw [← hwM]; exact (((Below.refl w.heap.size w).drew).drew).alloc (Nat.le_refl _) _
      have hoM : Own wM w.heap.size 5 1 (some ⟨w.heap.size, 0, none⟩) T T (cs.toList.take T) := by
        rw [← hwM]
        exact ⟨by simp; omega, Nat.le_refl _, by unfold maxLen; omega, fun _ => ⟨w.heap.size, 0, cs, rfl, Nat.le_refl _, heap_alloc_new w.drew.drew _, by omega, by simp⟩⟩
      rw [hwM] at hcall
      obtain ⟨b, o, A', n', c', hkl, rfl, hcell, hsl⟩ := (hp.below hbM).get (h.below (by omega) hbM) (k := 0) (by omega)
      rw [Nat.add_zero] at hcell
      have hs1 := flat_take_succ ls 0 hkl
      have hs2 := flat_take_le ls (0 + 1)
      rw [List.take_zero, List.flatten_nil, List.nil_append] at hs1
      rw [hs1, hsl.lenb, HT.out] at hs2
      have Hs1 := Lib.hid hs1
      have HoM := Lib.hid hoM
      clear hs1 hwM hoM hcm2
      obtain ⟨A7, hr7, hs7⟩ := cutLP h .i64 (1 : Int) 1 rfl (by omega)
      have hp7 := hp.drop 1
      go_wp2_with fail
      obtain ⟨w1, hrun1, ho1, hg1⟩ := run_cpyHead wM w.heap.size (some ⟨w.heap.size, 0, none⟩) T T _ HoM.out A' n' c' _ hsl (by omega)
      rw [hrun1]
      have hb1 : Below w.heap.size w w1 := hbM.grown hg1 hbM.size (fun b hb => (Own.lt HoM.out b hb).1)
      have Ho1 := Lib.hid ho1
      have Hn' : Hid (ls[0].length = n') := hsl.lenb
      clear ho1 hg1 hcall hcell hbM hsl hrun1
      go_wp2
      go_loopw [9, 72] (fun s i wr => ∃ j : Nat, j ≤ n - 1 ∧ i = .int .i64 j ∧ s = .int .i64 ((ls.take (j + 1)).flatten.length : Nat) ∧ Below w.heap.size w wr ∧ ∃ junk, Own wr w.heap.size 5 1 (some ⟨w.heap.size, 0, none⟩) T T (bc (ls.take (j + 1)).flatten ++ junk)) (fun _ i _ => n - 1 - (intOf i).toNat)
      case atStart => exact ⟨0, Nat.zero_le _, rfl, by rw [Hs1.out, Hn'.out], hb1, _, by rw [Hs1.out]; exact Ho1.out⟩
      case round =>
        clear hb1
        obtain ⟨j, hj, rfl, rfl, hbr, junk, hor⟩ := hrel
        by_cases hlt : j < n - 1
        · obtain ⟨b2, o2, A2, n2, c2, hkl2, eA7, hcell2, hsl2⟩ := (hp7.below hbr).get (hs7.below (by omega) hbr) hlt
          subst eA7
          have hj1 : j + 1 < ls.length := by have := Hl.out; omega
          have hs3 := flat_take_succ ls (j + 1) hj1
          have hs4 := flat_take_le ls (j + 1 + 1)
          have e5 : (ls.drop 1)[j] = ls[j + 1] := by simp
          rw [e5] at hsl2
          rw [hs3, List.length_append, hsl2.lenb, HT.out] at hs4
          have hs5 := congrArg List.length hs3
          rw [List.length_append, hsl2.lenb] at hs5
          obtain ⟨D, hD⟩ : ∃ D, (ls.take (j + 1)).flatten = D := ⟨_, rfl⟩
          rw [hD] at hor hs3 hs4 hs5
          rw [hD]
          obtain ⟨d, hd⟩ : ∃ d, D.length = d := ⟨_, rfl⟩
          rw [hd] at hs4 hs5
          rw [hd]
          have Hd := Lib.hid hd
          have Hs3 := Lib.hid hs3
          have Hs5 := Lib.hid hs5
          have Hor := Lib.hid hor
          have hlt' : (j : Int) < (n : Int) - 1 := by omega
          have hlt2 : (j : Int) < ((n - 1 : Nat) : Int) := by omega
          have ht := fun w' => run_tailB w' (some ⟨w.heap.size, 0, none⟩) T T .i64 (d : Int) d rfl (by omega)
          clear hD hd hs3 hs5 hor e5
          have hcell2 := hcell2
          go_wp2_with fail
          obtain ⟨w2, hrun2, ho2, hg2⟩ := run_cpySub wr w.heap.size (some ⟨w.heap.size, 0, none⟩) T T _ Hor.out d (by omega) none 0 0 [] (Sl.nil _ _ _ _ (Nat.zero_le _)) (by omega)
          rw [hrun2]
          rw [bc_nil, List.append_nil, Nat.add_zero, List.take_append_drop] at ho2
          have hb2 : Below w.heap.size w w2 := hbr.grown hg2 hbr.size (fun b hb => (Own.lt Hor.out b hb).1)
          have Ho2 := Lib.hid ho2
          have hsl3 : Sl w2 1 A2 n2 c2 (bc ls[j + 1]) := hsl2.keep fun hn2 b hb => (hg2.block b (hsl2.lt (by omega) hn2 b hb) (fun e => by
            have h1 := (Own.lt Hor.out b e.symm).1
            obtain ⟨A9, n9, c9, hv9, hs9⟩ := hp7.2 j _ _ (List.getElem?_eq_getElem (by have h5 := hp7.1; omega)) (List.getElem?_eq_getElem hkl2)
            have h5 := hs7.below (w' := wr) (by omega) hbr
            obtain ⟨b5, o5, u5, e5, hu5, hc5⟩ := h5.cell hlt
            obtain ⟨rfl, rfl⟩ : b2 = b5 ∧ o2 = o5 := by simpa using e5
            rw [hcell2] at hc5
            rw [List.getElem?_eq_getElem (by have h6 := hp7.1; omega)] at hu5
            have h7 := (Option.some.inj hu5).trans (Option.some.inj hc5).symm
            rw [h7] at hv9
            injection hv9 with q1 q2 q3
            subst q1
            subst q2
            have h8 := hs9.lt (by omega) hn2 b hb
            omega))
          clear hrun2 ho2 hg2
          go_wp2_with fail
          obtain ⟨w3, hrun3, ho3, hg3⟩ := run_cpySub w2 w.heap.size (some ⟨w.heap.size, 0, none⟩) T T _ Ho2.out d (by omega) A2 n2 c2 _ hsl3 (by omega)
          rw [hrun3]
          have hb3 : Below w.heap.size w w3 := hb2.grown hg3 hb2.size (fun b hb => (Own.lt Ho2.out b hb).1)
          rw [List.take_left' (by rw [length_bc]; exact Hd.out)] at ho3
          rw [← bc_append] at ho3
          have Ho3 := Lib.hid ho3
          clear hrun3 ho3 hg3
          go_wp2
          go_roundw
          case rel => exact ⟨j + 1, by omega, by go_num, by rw [Hs5.out]; go_num, hb3, _, by rw [Hs3.out]; exact Ho3.out⟩
          case measure => simp [intOf]; omega
        · have hjn : j + 1 = n := by omega
          have hlt3 : ¬ ((j : Int) < (n : Int) - 1) := by omega
          have hlt4 : ¬ ((j : Int) < ((n - 1 : Nat) : Int)) := by omega
          have hall : ls.take (j + 1) = ls := List.take_of_length_le (by have := Hl.out; omega)
          rw [hall] at hor
          have hlen := hor.len
          rw [List.length_append, length_bc, HT.out] at hlen
          obtain rfl : junk = [] := List.eq_nil_of_length_eq_zero (by omega)
          rw [List.append_nil] at hor
          have Hor := Lib.hid hor
          clear hall hlen hor hjn
          go_wp2
          go_ret
          exact ⟨_, T, T, rfl, Hor.out, hbr⟩
end Go.Proofs.YtpffieogkfndaaaGreatDoor
