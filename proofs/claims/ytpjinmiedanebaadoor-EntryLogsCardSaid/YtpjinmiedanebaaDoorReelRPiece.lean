/-
  The walk of ref06.Piece, where a piece stands. The table lies in its variable. (Printed by genrpiece.py.)
-/
import Derived.Test.YtpjinmiedanebaaDoorJReelCutsW
import Derived.Test.YtpjinmiedanebaaDoorReelPiece
namespace Go.Proofs.YtpjinmiedanebaaDoor
set_option maxRecDepth 20000
open Go.RowKit

set_option maxHeartbeats 4000000 in
theorem rpiece_good (w : World) (a : Nat) (A : Option Addr) (n c : Nat) (P : List UInt8) (k e : Nat) (b : List UInt8) (h : Sl w 1 A n c (bc P)) (hp : PieceAt P a k b e) (hn : n ≤ 1000000) :
    Calls Tryd.prog 32 #[.slice A n c, .int .i64 (a : Int)] w fun e' w' => ∃ A' n' c', e' = .returned (.tuple #[.int .u8 (k : Int), .slice A' n' c', .int .i64 (e : Int), .bool true]) ∧ OwnB w' w.heap.size A' n' c' b ∧ Below w.heap.size w w' := by
  obtain ⟨r1, r2, r3, r4, r5, r6⟩ := hp.read
  obtain ⟨g1, g2, g3, g4, -⟩ := hp
  have hl := h.lenb
  have hcap := h.cap
  have hcm := h.capm
  unfold maxLen at hcm
  obtain ⟨b4, o4, x4, hA4, hx4, hx4l, hc4⟩ := h.byte (k := a + 4) (by omega)
  obtain ⟨b5, o5, x5, hA5, hx5, hx5l, hc5⟩ := h.byte (k := a + 5) (by omega)
  obtain ⟨b6, o6, x6, hA6, hx6, hx6l, hc6⟩ := h.byte (k := a + 6) (by omega)
  subst hA4
  obtain ⟨rfl, rfl⟩ : b4 = b5 ∧ o4 = o5 := by simpa using hA5
  obtain ⟨rfl, rfl⟩ : b4 = b6 ∧ o4 = o6 := by simpa using hA6
  clear hA5 hA6
  have hc6w : ∀ w', Below w.heap.size w w' → w'.cell? ⟨b4, o4 + (a + 6), none⟩ = some (.int .u8 (x6 : Int)) := by
    intro w' hb
    obtain ⟨b', o', x', e1, e2, -, e3⟩ := (h.below (by omega) hb).byte (k := a + 6) (by omega)
    obtain ⟨rfl, rfl⟩ : b4 = b' ∧ o4 = o' := by simpa using e1
    rw [e3, ← e2, hx6]
  have HC6 := Lib.hid hc6w
  clear hc6w
  rw [List.getElem?_eq_getElem (by omega)] at r2 r3 r4
  have y4 := Option.some.inj r2
  have y5 := Option.some.inj r3
  have y6 := Option.some.inj r4
  rw [y4] at hx4
  rw [y5] at hx5
  rw [y6] at hx6
  obtain ⟨N, hN⟩ : ∃ N, b.length = N := ⟨_, rfl⟩
  rw [hN] at r1 g3 g4 r5 r6 hx4 hx5
  have hxN : x4 + 256 * x5 = N := len_bytes (by omega) hx4 hx5
  have hk6 : x6 = k := by simp at hx6; omega
  subst hk6
  have exN : (x4 : Int) + 256 * (x5 : Int) = (N : Int) := by omega
  obtain ⟨As, rs, ss, -⟩ := cutLH h .i64 .i64 ((a : Int) + 6) ((a : Int) + 7 + (N : Int)) (a + 6) (a + 7 + N) (by omega) (by omega) (by omega) (by omega)
  obtain ⟨Ah, rh, sh, -⟩ := cutLH h .i64 .i64 (a : Int) ((a : Int) + 4) a (a + 4) (by omega) (by omega) (by omega) (by omega)
  obtain ⟨Ab, rb, sb, -⟩ := cutLH h .i64 .i64 ((a : Int) + 7) ((a : Int) + 7 + (N : Int)) (a + 7) (a + 7 + N) (by omega) (by omega) (by omega) (by omega)
  have es : a + 7 + N - (a + 6) = N + 1 := by omega
  have eh : a + 4 - a = 4 := by omega
  have eb : a + 7 + N - (a + 7) = N := by omega
  rw [es] at ss
  rw [eh] at sh
  rw [eb, r5] at sb
  simp only [es] at rs
  simp only [eh] at rh
  simp only [eb] at rb
  have hsum : (P.drop (a + 6)).take (N + 1) = UInt8.ofNat x6 :: b := by
    have e1 := congrArg (List.drop 6) r6
    rw [List.drop_take, List.drop_drop, show 7 + N - 6 = N + 1 by omega] at e1
    rw [e1]
    rfl
  have hmask : (P.drop a).take 4 = le4 (maskL (sumL (UInt8.ofNat x6 :: b))) := by
    have e1 := congrArg (List.take 4) r6
    rw [List.take_take, show min 4 (7 + N) = 4 by omega] at e1
    rw [e1]
    rfl
  rw [hsum] at ss
  rw [hmask] at sh
  obtain ⟨sm, hsm⟩ : ∃ sm, sumL (UInt8.ofNat x6 :: b) = sm := ⟨_, rfl⟩
  have hsml : sm < 4294967296 := by rw [← hsm]; exact sumL_lt _
  have hrm := fun w' => rmask_any w' sm hsml
  obtain ⟨mk, hmk⟩ : ∃ mk, maskL sm = mk := ⟨_, rfl⟩
  have hmkl : mk < 4294967296 := by rw [← hmk]; exact maskL_lt _
  rw [hsm, hmk] at sh
  rw [hmk] at hrm
  have Hrm := Lib.hid hrm
  have Hsm := Lib.hid hsm
  obtain ⟨cs, hcs⟩ : ∃ cs, c - (a + 6) = cs := ⟨_, rfl⟩
  obtain ⟨ch, hch⟩ : ∃ ch, c - a = ch := ⟨_, rfl⟩
  obtain ⟨cb, hcb⟩ : ∃ cb, c - (a + 7) = cb := ⟨_, rfl⟩
  rw [hcs] at ss
  rw [hch] at sh
  rw [hcb] at sb
  simp only [hcs] at rs
  simp only [hch] at rh
  simp only [hcb] at rb
  have d1 : decide ((n : Int) - 7 < (a : Int)) = false := by simp; omega
  have p1 : ¬ ((n : Int) - 7 < (a : Int)) := by omega
  have d2 : decide (57 < (a : Int) % 64) = false := by simp; omega
  have p2 : ¬ (57 < (a : Int) % 64) := by omega
  have d3 : decide (64 < (a : Int) % 64 + 7 + (N : Int)) = false := by simp; omega
  have p3 : ¬ (64 < (a : Int) % 64 + 7 + (N : Int)) := by omega
  have d4 : decide ((n : Int) < (a : Int) + 7 + (N : Int)) = false := by simp; omega
  have p4 : ¬ ((n : Int) < (a : Int) + 7 + (N : Int)) := by omega
  have d5 : decide ((x6 : Int) < 1) = false := by simp; omega
  have d6 : decide (4 < (x6 : Int)) = false := by simp; omega
  have d0 : decide ((a : Int) < 0) = false := by simp
  have HN := Lib.hid hN
  have Hg4 := Lib.hid g4
  clear r2 r3 r4 y4 y5 y6 hx4 hx5 hx6 hxN hN es eh eb hcs hch hcb hsum hmask hsm hmk hrm r5 r6 hl g4
  go_enter Tryd.func32, Tryd.ntmps32
  go_wp2_with fail
  go_quiet (fail)
  have hbd := below_drewN (Below.refl w.heap.size w) nq
  have hc6d : (w.drewN nq).cell? ⟨b4, o4 + (a + 6), none⟩ = some (.int .u8 (x6 : Int)) := hc6
  have hsz : (w.drewN nq).heap.size = w.heap.size := rfl
  have ssd := ss.below (by omega) hbd
  have shd := sh.below (by omega) hbd
  have sbd := sb.below (by omega) hbd
  generalize w.drewN nq = wd at *
  go_wp2_with fail
  refine (rsum_any wd As (N + 1) cs _ ssd (by omega)).mono ?_
  rw [Hsm.out]
  rintro e w1 ⟨rfl, hb1⟩
  go_wp2_with fail
  refine (Hrm.out _).mono ?_
  rintro e w' ⟨rfl, rfl⟩
  have hbw1 := hbd.trans (hb1.mono hbd.size)
  go_wp2_with fail
  refine (same_any _ Ah 4 ch (le4 mk) _ 4 4 (le4 mk) (sh.below (by omega) (hbw1.alloc hbw1.size _)) (Sl.lit _ _ _ 4 _ _ rfl (by unfold maxLen; omega) ?_)).mono ?_
  · simp [bc, le4] <;> omega
  rw [show (le4 mk == le4 mk) = true from by simp]
  rintro e w2 ⟨rfl, hw2⟩
  have hbw2 : Below w.heap.size w w2 := hw2 ▸ hbw1.alloc hbw1.size _
  have hsb2 := sb.below (by omega) hbw2
  have hc6q := HC6.out _ hbw2.drew
  clear hw2 hb1 ssd shd sbd hc6d
  go_wp2_with fail
  have hw6 : IntKind.i64.wrap ((a : Int) + 6) = (a : Int) + 6 := by rw [IntKind.wrap_i64]; omega
  have hw7 : IntKind.i64.wrap ((a : Int) + 7) = (a : Int) + 7 := by rw [IntKind.wrap_i64]; omega
  have hw8 : IntKind.i64.wrap ((a : Int) + 7 + (N : Int)) = (a : Int) + 7 + (N : Int) := by rw [IntKind.wrap_i64]; omega
  have q6 : (0 : Int) ≤ (a : Int) + 6 ∧ (a : Int) + 6 < (n : Int) := by omega
  have n6 : ((a : Int) + 6).toNat = a + 6 := by omega
  refine wp_region_any (by kernel_rfl) ?_
  try (change wpAny _ _ _ _ _ _ _ (World.drew _))
  refine wpAny_take (i := 0) (v := ?_) rfl (by kernel_rfl) (by kernel_rfl) (by kernel_rfl) (fun _ _ _ h => h) (Or.inl ⟨by kernel_rfl, ?_⟩) ?_
  case refine_2 => ((intro w; go_simp); try with_reducible rfl)
  refine wpAny_take (i := 1) (v := ?_) rfl (by kernel_rfl) (by kernel_rfl) (by kernel_rfl) (fun _ _ _ h => h) (Or.inl ⟨by kernel_rfl, ?_⟩) ?_
  case refine_2 => ((intro w; go_simp); try with_reducible rfl)
  refine wpAny_take (i := 2) (v := ?_) rfl (by kernel_rfl) (by kernel_rfl) (by kernel_rfl) (fun _ _ _ h => h) (Or.inl ⟨by kernel_rfl, ?_⟩) ?_
  case refine_2 => ((intro w; go_simp); try with_reducible rfl)
  refine wpAny_take (i := 3) (v := ?_) rfl (by kernel_rfl) (by kernel_rfl) (by kernel_rfl) (fun _ _ _ h => h) (Or.inl ⟨by kernel_rfl, ?_⟩) ?_
  case refine_2 => ((intro w; go_simp); try with_reducible rfl)
  refine wpAny_take (i := 5) (v := ?_) rfl (by kernel_rfl) (by kernel_rfl) (by kernel_rfl) (fun _ _ _ h => h) (Or.inl ⟨by kernel_rfl, ?_⟩) ?_
  case refine_2 => ((intro w; go_simp); try with_reducible rfl)
  refine wpAny_take (i := 6) (v := ?_) rfl (by kernel_rfl) (by kernel_rfl) (by kernel_rfl) (fun _ _ _ h => h) (Or.inl ⟨by kernel_rfl, ?_⟩) ?_
  case refine_2 => ((intro w; go_simp); try with_reducible rfl)
  refine wpAny_take (i := 7) (v := ?_) rfl (by kernel_rfl) (by kernel_rfl) (by kernel_rfl) (fun _ _ _ h => h) (Or.inl ⟨by kernel_rfl, ?_⟩) ?_
  case refine_2 => ((intro w; go_simp); try with_reducible rfl)
  refine wpAny_take (i := 8) (v := ?_) rfl (by kernel_rfl) (by kernel_rfl) (by kernel_rfl) (fun _ _ _ h => h) (Or.inl ⟨by kernel_rfl, ?_⟩) ?_
  case refine_2 => ((intro w; go_simp); try with_reducible rfl)
  refine wpAny_take (i := 9) (v := ?_) rfl (by kernel_rfl) (by kernel_rfl) (by kernel_rfl) (fun _ _ _ h => h) (Or.inl ⟨by kernel_rfl, ?_⟩) ?_
  case refine_2 => ((intro w; go_simp); try with_reducible rfl)
  refine wpAny_take (i := 10) (v := ?_) rfl (by kernel_rfl) (by kernel_rfl) (by kernel_rfl) (fun _ _ _ h => h) (Or.inl ⟨by kernel_rfl, ?_⟩) ?_
  case refine_2 => ((intro w; go_simp); try with_reducible rfl)
  refine wpAny_take (i := 11) (v := ?_) rfl (by kernel_rfl) (by kernel_rfl) (by kernel_rfl) (fun _ _ _ h => h) (Or.inl ⟨by kernel_rfl, ?_⟩) ?_
  case refine_2 => ((intro w; go_simp); try with_reducible rfl)
  refine wpAny_take (i := 12) (v := ?_) rfl (by kernel_rfl) (by kernel_rfl) (by kernel_rfl) (fun _ _ _ h => h) (Or.inl ⟨by kernel_rfl, ?_⟩) ?_
  case refine_2 => ((intro w; go_simp); try with_reducible rfl)
  refine wpAny_take (i := 14) (v := ?_) rfl (by kernel_rfl) (by kernel_rfl) (by kernel_rfl) (fun _ _ _ h => h) (Or.inl ⟨by kernel_rfl, ?_⟩) ?_
  case refine_2 => ((intro w; go_simp); try with_reducible rfl)
  refine wpAny_take (i := 15) (v := ?_) rfl (by kernel_rfl) (by kernel_rfl) (by kernel_rfl) (fun _ _ _ h => h) (Or.inl ⟨by kernel_rfl, ?_⟩) ?_
  case refine_2 => ((intro w; go_simp); try with_reducible rfl)
  refine wpAny_take (i := 16) (v := ?_) rfl (by kernel_rfl) (by kernel_rfl) (by kernel_rfl) (fun _ _ _ h => h) (Or.inl ⟨by kernel_rfl, ?_⟩) ?_
  case refine_2 => ((intro w; go_simp); try with_reducible rfl)
  refine wpAny_take (i := 17) (v := ?_) rfl (by kernel_rfl) (by kernel_rfl) (by kernel_rfl) (fun _ _ _ h => h) (Or.inl ⟨by kernel_rfl, ?_⟩) ?_
  case refine_2 => ((intro w; go_simp); try with_reducible rfl)
  refine wpAny_ready (rs := [4, 13]) (by kernel_rfl) (by simp) ?_
  refine AllReady.cons rfl (fun K hK => ?_) ?_
  · go_simp
    refine hK _ _ ?_
    clear hK K
    refine wpAny_ready (rs := [13]) (by kernel_rfl) (by simp) ?_
    refine AllReady.cons rfl (fun K hK => ?_) AllReady.nil
    go_simp
    refine (copy_any _ Ab N cb _ (Sl.drew hsb2) (by omega)).mono ?_
    rintro e w3 ⟨A3, n3, c3, rfl, ho3, hb3⟩
    go_simp
    refine hK _ _ ?_
    clear hK K
    refine wpAny_take (i := 18) (v := ?_) rfl (by kernel_rfl) (by kernel_rfl) (by kernel_rfl) (fun _ _ _ h => h) (Or.inl ⟨by kernel_rfl, ?_⟩) ?_
    case refine_2 => ((intro w; go_simp); try with_reducible rfl)
    refine wpAny_take (i := 19) (v := ?_) rfl (by kernel_rfl) (by kernel_rfl) (by kernel_rfl) (fun _ _ _ h => h) (Or.inl ⟨by kernel_rfl, ?_⟩) ?_
    case refine_2 => ((intro w; go_simp); try with_reducible rfl)
    refine wpAny_take (i := 20) (v := ?_) rfl (by kernel_rfl) (by kernel_rfl) (by kernel_rfl) (fun _ _ _ h => h) (Or.inl ⟨by kernel_rfl, ?_⟩) ?_
    case refine_2 => ((intro w; go_simp); try with_reducible rfl)
    refine wpAny_take (i := 21) (v := ?_) rfl (by kernel_rfl) (by kernel_rfl) (by kernel_rfl) (fun _ _ _ h => h) (Or.inl ⟨by kernel_rfl, ?_⟩) ?_
    case refine_2 => ((intro w; go_simp); try with_reducible rfl)
    refine wpAny_done (by kernel_rfl) ?_ _
    go_wp2
    refine bodyPost_ret (results_tmp4 rfl _ _ _) rfl ?_
    exact ⟨A3, n3, c3, by rw [Hg4.out]; go_num, Own.mono ho3 hbw2.size, hbw2.drew.trans (hb3.mono hbw2.size)⟩
  refine AllReady.cons rfl (fun K hK => ?_) ?_
  · go_simp
    refine (copy_any _ Ab N cb _ (Sl.drew hsb2) (by omega)).mono ?_
    rintro e w3 ⟨A3, n3, c3, rfl, ho3, hb3⟩
    go_simp
    refine hK _ _ ?_
    clear hK K
    have hc6r := HC6.out _ (hbw2.drew.trans (hb3.mono hbw2.drew.size))
    refine wpAny_ready (rs := [4]) (by kernel_rfl) (by simp) ?_
    refine AllReady.cons rfl (fun K hK => ?_) AllReady.nil
    go_simp
    refine hK _ _ ?_
    clear hK K
    refine wpAny_take (i := 18) (v := ?_) rfl (by kernel_rfl) (by kernel_rfl) (by kernel_rfl) (fun _ _ _ h => h) (Or.inl ⟨by kernel_rfl, ?_⟩) ?_
    case refine_2 => ((intro w; go_simp); try with_reducible rfl)
    refine wpAny_take (i := 19) (v := ?_) rfl (by kernel_rfl) (by kernel_rfl) (by kernel_rfl) (fun _ _ _ h => h) (Or.inl ⟨by kernel_rfl, ?_⟩) ?_
    case refine_2 => ((intro w; go_simp); try with_reducible rfl)
    refine wpAny_take (i := 20) (v := ?_) rfl (by kernel_rfl) (by kernel_rfl) (by kernel_rfl) (fun _ _ _ h => h) (Or.inl ⟨by kernel_rfl, ?_⟩) ?_
    case refine_2 => ((intro w; go_simp); try with_reducible rfl)
    refine wpAny_take (i := 21) (v := ?_) rfl (by kernel_rfl) (by kernel_rfl) (by kernel_rfl) (fun _ _ _ h => h) (Or.inl ⟨by kernel_rfl, ?_⟩) ?_
    case refine_2 => ((intro w; go_simp); try with_reducible rfl)
    refine wpAny_done (by kernel_rfl) ?_ _
    go_wp2
    refine bodyPost_ret (results_tmp4 rfl _ _ _) rfl ?_
    exact ⟨A3, n3, c3, by rw [Hg4.out]; go_num, Own.mono ho3 hbw2.size, hbw2.drew.trans (hb3.mono hbw2.size)⟩
  exact AllReady.nil
end Go.Proofs.YtpjinmiedanebaaDoor
