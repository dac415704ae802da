/-
  What TakeText computes, the program's and the reference's: the text in front, and what stands behind. No condition but sizes. (Printed by gentext.py.)
-/
import Derived.Test.YtpffieogkfndaaaDoorAtomRTake
namespace Go.Proofs.YtpffieogkfndaaaDoor
set_option maxRecDepth 20000
set_option linter.unusedVariables false
set_option linter.unusedSimpArgs false
open Go.RowKit

def takeTextL (p : List UInt8) (most : Int) : List UInt8 × List UInt8 × Nat :=
  if (takeL p).2.2 ≠ 0 then ([], [], (takeL p).2.2) else if most < 0 ∨ most < (takeL p).1 then ([], [], 3) else if (takeL p).2.1.length < (takeL p).1 then ([], [], 2)
  else ((takeL p).2.1.take (takeL p).1, (takeL p).2.1.drop (takeL p).1, 0)
theorem takeL_lt (p : List UInt8) : (takeL p).1 < 18446744073709551616 := by
  cases p with
  | nil => decide
  | cons b r =>
    simp only [takeL]
    split
    · decide
    · rename_i h
      split
      · refine value_lt b _ ?_
        simp at h ⊢
        omega
      · decide
theorem takeL_len (p : List UInt8) : (takeL p).2.1.length ≤ p.length := by
  cases p with
  | nil => decide
  | cons b r =>
    simp only [takeL]
    split
    · simp
    · split
      · simp; omega
      · simp
/-- .. its two texts lie in new memory -/
def NewAt (w : World) (A : Option Addr) (n : Nat) : Prop := ∀ b, 0 < n → A.map (·.block) = some b → w.heap.size ≤ b
def TookN (w : World) (r : List UInt8 × List UInt8 × Nat) (e : Ending) (w' : World) : Prop :=
  ∃ (A : Option Addr) (n c : Nat) (A' : Option Addr) (n' c' : Nat), e = .returned (.tuple #[.slice A n c, .slice A' n' c', .int .i64 (r.2.2 : Nat)]) ∧ Sl w' 1 A n c (bc r.1) ∧ Sl w' 1 A' n' c' (bc r.2.1) ∧ Below w.heap.size w w' ∧ NewAt w A n ∧ NewAt w A' n'
theorem own_new {w w' : World} {B : Nat} {e : TypeId} {A : Option Addr} {n c : Nat} {xs : List Value} (ho : Own w' B e 1 A n c xs) (hB : w.heap.size ≤ B) : NewAt w A n := fun b hn q => by
  have := (ho.lt b (by have := ho.cap; unfold blk; rw [if_neg (by omega)]; exact q)).1
  omega
theorem none_new (w : World) : NewAt w none 0 := fun b h => absurd h (by omega)
theorem sl_none (w : World) : Sl w 1 none 0 0 (bc []) := Sl.nil _ _ _ _ (Nat.zero_le _)
set_option maxHeartbeats 4000000 in
theorem taketext_new (w : World) (A : Option Addr) (n c : Nat) (p : List UInt8) (h : Sl w 1 A n c (bc p)) (hn : n ≤ 70368744177664) (most : Int) (hm : most ≤ 9223372036854775807) :
    Calls Tryd.prog 65 #[.slice A n c, .int .i64 most] w (TookN w (takeTextL p most)) := by
  have hl := h.lenb
  have hlt := takeL_lt p
  have hll := takeL_len p
  have hc := take_any w A n c p h hn
  obtain ⟨T, hT⟩ : ∃ T, takeTextL p most = T := ⟨_, rfl⟩
  rw [hT]
  unfold takeTextL at hT
  generalize takeL p = r at *
  obtain ⟨x, rest, er⟩ := r
  simp only at hlt hll hT
  have hrn : rest.length ≤ n := by omega
  have Hc := Lib.hid hc
  clear hc hl hll
  go_enter Tryd.func65, Tryd.ntmps65
  go_wp2_with fail
  refine Hc.out.mono ?_
  rintro e w1 ⟨A1, n1, c1, rfl, ho1, hb1⟩
  have hA1 := own_new (w := w) ho1 (Nat.le_refl _)
  have HA1 := Lib.hid hA1
  clear hA1
  have hs1 := OwnB.sl ho1
  have hn1 := hs1.lenb
  simp only at hn1
  subst hn1
  clear ho1 Hc h
  by_cases he : er ≠ 0
  · rw [if_pos he] at hT
    have HT := Lib.hid hT.symm
    have d1 : ((er : Int) != 0) = true := by simp; omega
    clear hT he
    go_wp2
    go_ret3
    rw [HT.out]
    exact ⟨none, 0, 0, none, 0, 0, rfl, sl_none _, sl_none _, hb1, none_new _, none_new _⟩
  · rw [if_neg he] at hT
    obtain rfl : er = 0 := by omega
    clear he
    by_cases hmost : most < 0
    · rw [if_pos (.inl hmost)] at hT
      have HT := Lib.hid hT.symm
      clear hT
      go_wp2
      go_ret3
      rw [HT.out]
      exact ⟨none, 0, 0, none, 0, 0, rfl, sl_none _, sl_none _, hb1, none_new _, none_new _⟩
    · obtain ⟨m, rfl⟩ := Int.eq_ofNat_of_zero_le (show 0 ≤ most by omega)
      by_cases hmx : m < x
      · rw [if_pos (.inr (by omega))] at hT
        have HT := Lib.hid hT.symm
        clear hT
        go_wp2
        go_ret3
        rw [HT.out]
        exact ⟨none, 0, 0, none, 0, 0, rfl, sl_none _, sl_none _, hb1, none_new _, none_new _⟩
      · rw [if_neg (by omega)] at hT
        by_cases hrx : rest.length < x
        · rw [if_pos hrx] at hT
          have HT := Lib.hid hT.symm
          clear hT
          go_wp2
          go_ret3
          rw [HT.out]
          exact ⟨none, 0, 0, none, 0, 0, rfl, sl_none _, sl_none _, hb1, none_new _, none_new _⟩
        · rw [if_neg hrx] at hT
          have HT := Lib.hid hT.symm
          clear hT
          obtain ⟨r1, hs2⟩ := cutH hs1 .u64 (x : Int) x rfl (by omega)
          obtain ⟨A3, r2, hs3, _⟩ := cutL hs1 .u64 (x : Int) x rfl (by omega)
          go_wp2
          refine wp_region_any (by kernel_rfl) ?_
          try (change wpAny _ _ _ _ _ _ _ (World.drew _))
          refine wpAny_take (i := 0) (v := ?_) rfl (by kernel_rfl) (by kernel_rfl) (by kernel_rfl) (fun _ _ _ h => h) (Or.inl ⟨by kernel_rfl, ?_⟩) ?_
          case refine_2 => ((intro w; go_simp); try with_reducible rfl)
          refine wpAny_take (i := 1) (v := ?_) rfl (by kernel_rfl) (by kernel_rfl) (by kernel_rfl) (fun _ _ _ h => h) (Or.inl ⟨by kernel_rfl, ?_⟩) ?_
          case refine_2 => ((intro w; go_simp); try with_reducible rfl)
          refine wpAny_take (i := 2) (v := ?_) rfl (by kernel_rfl) (by kernel_rfl) (by kernel_rfl) (fun _ _ _ h => h) (Or.inl ⟨by kernel_rfl, ?_⟩) ?_
          case refine_2 => ((intro w; go_simp); try with_reducible rfl)
          refine wpAny_take (i := 4) (v := ?_) rfl (by kernel_rfl) (by kernel_rfl) (by kernel_rfl) (fun _ _ _ h => h) (Or.inl ⟨by kernel_rfl, ?_⟩) ?_
          case refine_2 => ((intro w; go_simp); try with_reducible rfl)
          refine wpAny_take (i := 5) (v := ?_) rfl (by kernel_rfl) (by kernel_rfl) (by kernel_rfl) (fun _ _ _ h => h) (Or.inl ⟨by kernel_rfl, ?_⟩) ?_
          case refine_2 => ((intro w; go_simp); try with_reducible rfl)
          refine wpAny_take (i := 6) (v := ?_) rfl (by kernel_rfl) (by kernel_rfl) (by kernel_rfl) (fun _ _ _ h => h) (Or.inl ⟨by kernel_rfl, ?_⟩) ?_
          case refine_2 => ((intro w; go_simp); try with_reducible rfl)
          refine wpAny_ready (rs := [3]) (by kernel_rfl) (by simp) ?_
          refine AllReady.cons rfl (fun K hK => ?_) AllReady.nil
          go_simp
          refine (clone_any _ A1 x c1 _ (Sl.drew hs2) (by omega)).mono ?_
          rintro e w4 ⟨A4, n4, c4, rfl, ho4, hb4⟩
          go_simp
          refine hK _ _ ?_
          clear hK K
          refine wpAny_ready (rs := [7]) (by kernel_rfl) (by simp) ?_
          refine AllReady.cons rfl (fun K hK => ?_) AllReady.nil
          go_simp
          refine (clone_any _ A3 _ _ _ ((Sl.drew hs3).below (by omega) hb4) (by omega)).mono ?_
          rintro e w5 ⟨A5, n5, c5, rfl, ho5, hb5⟩
          go_simp
          refine hK _ _ ?_
          clear hK K
          refine wpAny_take (i := 8) (v := ?_) rfl (by kernel_rfl) (by kernel_rfl) (by kernel_rfl) (fun _ _ _ h => h) (Or.inl ⟨by kernel_rfl, ?_⟩) ?_
          case refine_2 => ((intro w; go_simp); try with_reducible rfl)
          refine wpAny_take (i := 9) (v := ?_) rfl (by kernel_rfl) (by kernel_rfl) (by kernel_rfl) (fun _ _ _ h => h) (Or.inl ⟨by kernel_rfl, ?_⟩) ?_
          case refine_2 => ((intro w; go_simp); try with_reducible rfl)
          refine wpAny_take (i := 10) (v := ?_) rfl (by kernel_rfl) (by kernel_rfl) (by kernel_rfl) (fun _ _ _ h => h) (Or.inl ⟨by kernel_rfl, ?_⟩) ?_
          case refine_2 => ((intro w; go_simp); try with_reducible rfl)
          refine wpAny_done (by kernel_rfl) ?_ _
          go_wp2
          go_ret3
          rw [HT.out]
          exact ⟨A4, n4, c4, A5, n5, c5, rfl, (OwnB.sl ho4).below (by omega) hb5, OwnB.sl ho5, ((hb1.drew).trans (hb4.mono hb1.size)).trans (hb5.mono (Nat.le_trans hb1.size hb4.size)), own_new ho4 hb1.size, own_new ho5 (Nat.le_trans hb1.size hb4.size)⟩
end Go.Proofs.YtpffieogkfndaaaDoor
