/-
  What reel.Piece answers: the piece at a place, or none. The table lies in its variable; else no condition but sizes.
-/
import Derived.Test.YtpjinmiedanebaaDoorReelFrame
import Derived.Test.YtpjinmiedanebaaDoorJFrame
import Derived.BigQuiet
namespace Go.Proofs.YtpjinmiedanebaaDoor
set_option maxRecDepth 20000
open Go.RowKit

theorem results_tmp4 {fn : Func} {t u v z : Tmp} (h : fn.results = #[.tmp t, .tmp u, .tmp v, .tmp z]) (tmps : Array Value) (P : Program) (w : World) :
    (results fn tmps).run P w = .ok (.tuple #[tmps.getD t undef, tmps.getD u undef, tmps.getD v undef, tmps.getD z undef]) w := by
  simp [results, h]
theorem i64_or_nat (x y : Nat) (hx : x < 65536) (hy : y < 65536) : bits .or .i64 (x : Int) (y : Int) = ((x ||| y : Nat) : Int) := by
  have hz : x ||| y < 2 ^ 16 := Nat.or_lt_two_pow (by omega) (by omega)
  show IntKind.i64.wrap ((BitVec.ofInt 64 (x : Int) ||| BitVec.ofInt 64 (y : Int)).toNat : Int) = _
  rw [BitVec.toNat_or, ofInt_u64 x (by omega), ofInt_u64 y (by omega), IntKind.wrap_i64]
  omega
/-- what Piece gives back -/
def PieceB (w : World) (P : List UInt8) (a : Nat) (e : Ending) (w' : World) : Prop :=
  Below w.heap.size w w' ∧
  ((∃ (k : Nat) (b : List UInt8) (z : Nat) (A : Option Addr) (n c : Nat), PieceAt P a k b z ∧ e = .returned (.tuple #[.int .u8 (k : Int), .slice A n c, .int .i64 (z : Int), .bool true]) ∧ OwnB w' w.heap.size A n c b) ∨
    ((∀ k b z, ¬ PieceAt P a k b z) ∧ e = .returned (.tuple #[.int .u8 0, .slice none 0 0, .int .i64 0, .bool false])))
theorem PieceB.no {w w' : World} {P : List UInt8} {a : Nat} (hb : Below w.heap.size w w') (h : ∀ k b z, ¬ PieceAt P a k b z) : PieceB w P a (.returned (.tuple #[.int .u8 0, .slice none 0 0, .int .i64 0, .bool false])) w' := ⟨hb, .inr ⟨h, rfl⟩⟩
set_option maxHeartbeats 4000000 in
theorem piece_at (w : World) (a : Nat) (A : Option Addr) (n c : Nat) (P : List UInt8) (h : Sl w 1 A n c (bc P)) (hq : Quarter w) (hn : n ≤ 1000000) (ha : a ≤ 2000000) :
    Calls Tryd.prog 56 #[.slice A n c, .int .i64 (a : Int)] w (PieceB w P a) := by
  have Hl : Hid (P.length = n) := h.lenb
  have hcap := h.cap
  have hcm := h.capm
  unfold maxLen at hcm
  have hleft := fun w' => left_any w' a (by omega)
  obtain ⟨L, hL, hL1, hL2⟩ : ∃ L, 64 - a % 64 = L ∧ 1 ≤ L ∧ L ≤ 64 := ⟨_, rfl, by omega, by omega⟩
  rw [hL] at hleft
  have HL := Lib.hid hL
  have Hleft := Lib.hid hleft
  clear hL hleft
  by_cases h0 : a + 7 ≤ n
  · by_cases h7 : L < 7
    · have hno : ∀ k b z, ¬ PieceAt P a k b z := by
        rintro k b z ⟨_, _, g3, _⟩
        have := HL.out
        omega
      have HN := Lib.hid hno
      clear hno
      go_enter Tryd.func56, Tryd.ntmps56
      go_wp2_with fail
      refine (Hleft.out _).mono ?_
      rintro e w' ⟨rfl, rfl⟩
      go_wp2
      exact bodyPost_ret (results_tmp4 rfl _ _ _) rfl (PieceB.no (Below.refl _ _) HN.out)
    · obtain ⟨g4, o4, x4, hA4, hx4, hx4l, hc4⟩ := h.byte (k := a + 4) (by have := Hl.out; omega)
      obtain ⟨g5, o5, x5, hA5, hx5, hx5l, hc5⟩ := h.byte (k := a + 5) (by have := Hl.out; omega)
      obtain ⟨g6, o6, x6, hA6, hx6, hx6l, hc6⟩ := h.byte (k := a + 6) (by have := Hl.out; omega)
      subst hA4
      obtain ⟨rfl, rfl⟩ : g4 = g5 ∧ o4 = o5 := by simpa using hA5
      obtain ⟨rfl, rfl⟩ : g4 = g6 ∧ o4 = o6 := by simpa using hA6
      clear hA5 hA6
      have HX4 := Lib.hid hx4
      have HX5 := Lib.hid hx5
      have HX6 := Lib.hid hx6
      clear hx4 hx5 hx6
      obtain ⟨N, hN, hNl⟩ : ∃ N : Nat, x4 + 256 * x5 = N ∧ N < 65536 := ⟨_, rfl, by omega⟩
      have hor : bits .or .i64 (x4 : Int) ((x5 : Int) * 256) = (N : Int) := by
        have h1 := i64_or_nat x4 (x5 * 256) (by omega) (by omega)
        rw [Nat.or_comm, nat_join 8 _ _ (by omega) (by omega)] at h1
        rw [show x5 * 256 + x4 = N by omega] at h1
        rw [← h1]
        simp
      have HNN : Hid (∀ m : Nat, m ≤ 57 → P[a + 4]? = some (UInt8.ofNat m) → P[a + 5]? = some (UInt8.ofNat (m / 256)) → m = N) := by
        intro m hm e4 e5
        have l4 : a + 4 < P.length := by have := Hl.out; omega
        have l5 : a + 5 < P.length := by have := Hl.out; omega
        rw [List.getElem?_eq_getElem l4] at e4
        rw [List.getElem?_eq_getElem l5] at e5
        have f4 := HX4.out
        have f5 := HX5.out
        rw [Option.some.inj e4] at f4
        rw [Option.some.inj e5] at f5
        rw [← hN]
        exact (len_bytes hm f4 f5).symm
      have HK6 : Hid (∀ k : Nat, k < 256 → P[a + 6]? = some (UInt8.ofNat k) → k = x6) := by
        intro k hk e6
        have l6 : a + 6 < P.length := by have := Hl.out; omega
        rw [List.getElem?_eq_getElem l6] at e6
        have f6 := HX6.out
        rw [Option.some.inj e6] at f6
        simp at f6
        omega
      clear hN
      go_enter Tryd.func56, Tryd.ntmps56
      go_wp2_with fail
      refine (Hleft.out _).mono ?_
      rintro e w' ⟨rfl, rfl⟩
      go_wp2
      go_quiet (fail)
      have hcd4 : (w.drewN nq).cell? ⟨g4, o4 + (a + 4), none⟩ = some (.int .u8 (x4 : Int)) := hc4
      have hbd := below_drewN (Below.refl w.heap.size w) nq
      have hqd : Quarter (w.drewN nq) := fun i hi => hq i hi
      have hd := h.drewN nq
      have hc6d : (w.drewN nq).cell? ⟨g4, o4 + (a + 6), none⟩ = some (.int .u8 (x6 : Int)) := hc6
      have hsz : (w.drewN nq).heap.size = w.heap.size := rfl
      generalize w.drewN nq = wd at *
      clear hcd4
      have hw1 : IntKind.i64.wrap ((L : Int) - 7) = (L : Int) - 7 := by rw [IntKind.wrap_i64]; omega
      have hw2 : IntKind.i64.wrap ((a : Int) + 7) = (a : Int) + 7 := by rw [IntKind.wrap_i64]; omega
      by_cases q1 : N + 7 ≤ L
      · by_cases q2 : a + 7 + N ≤ n
        · by_cases q3 : 1 ≤ x6
          · by_cases q4 : x6 ≤ 4
            · have d1 : decide ((L : Int) - 7 < (N : Int)) = false := by simp; omega
              have p1 : ¬ ((L : Int) - 7 < (N : Int)) := by omega
              have d2 : decide ((n : Int) < (a : Int) + 7 + (N : Int)) = false := by simp; omega
              have p2 : ¬ ((n : Int) < (a : Int) + 7 + (N : Int)) := by omega
              have d3 : decide ((x6 : Int) < 1) = false := by simp; omega
              have d4 : decide (4 < (x6 : Int)) = false := by simp; omega
              obtain ⟨Ab, rb, sb, _⟩ := cutLH h .i64 .i64 ((a : Int) + 7) ((a : Int) + 7 + (N : Int)) (a + 7) (a + 7 + N) (by omega) (by omega) (by omega) (by omega)
              obtain ⟨Ap, rp, sp, _⟩ := cutLH h .i64 .i64 (a : Int) ((a : Int) + 7 + (N : Int)) a (a + 7 + N) (by omega) (by omega) (by omega) (by omega)
              have eb : a + 7 + N - (a + 7) = N := by omega
              have ep : a + 7 + N - a = 7 + N := by omega
              rw [eb] at sb
              rw [ep] at sp
              simp only [eb] at rb
              simp only [ep] at rp
              obtain ⟨cb, hcb⟩ : ∃ cb, c - (a + 7) = cb := ⟨_, rfl⟩
              obtain ⟨cp, hcp⟩ : ∃ cp, c - a = cp := ⟨_, rfl⟩
              rw [hcb] at sb
              rw [hcp] at sp
              simp only [hcb] at rb
              simp only [hcp] at rp
              have hsbd : Sl wd 1 Ab N cb (bc ((P.drop (a + 7)).take N)) := sb.below (by omega) hbd
              have hspd : Sl wd 1 Ap (7 + N) cp (bc ((P.drop a).take (7 + N))) := sp.below (by omega) hbd
              clear hcb hcp eb ep
              obtain ⟨bb, hbb⟩ : ∃ bb, (pieceL x6 ((P.drop (a + 7)).take N) == (P.drop a).take (7 + N)) = bb := ⟨_, rfl⟩
              have Hbb := Lib.hid hbb
              clear hbb
              go_wp2_with fail
              refine wp_region_any (by kernel_rfl) ?_
              try (change wpAny _ _ _ _ _ _ _ (World.drew _))
              refine wpAny_take (i := 0) (v := ?_) rfl (by kernel_rfl) (by kernel_rfl) (by kernel_rfl) (fun _ _ _ h => h) (Or.inl ⟨by kernel_rfl, ?_⟩) ?_
              case refine_2 => ((intro w; go_simp); try with_reducible rfl)
              refine wpAny_take (i := 1) (v := ?_) rfl (by kernel_rfl) (by kernel_rfl) (by kernel_rfl) (fun _ _ _ h => h) (Or.inl ⟨by kernel_rfl, ?_⟩) ?_
              case refine_2 => ((intro w; go_simp); try with_reducible rfl)
              refine wpAny_ready (rs := [2]) (by kernel_rfl) (by simp) ?_
              refine AllReady.cons rfl (fun K hK => ?_) AllReady.nil
              go_simp
              refine (Hleft.out _).mono ?_
              rintro e w' ⟨rfl, rfl⟩
              go_simp
              refine hK _ _ ?_
              clear hK K
              refine wpAny_take (i := 3) (v := ?_) rfl (by kernel_rfl) (by kernel_rfl) (by kernel_rfl) (fun _ _ _ h => h) (Or.inl ⟨by kernel_rfl, ?_⟩) ?_
              case refine_2 => ((intro w; go_simp); try with_reducible rfl)
              refine wpAny_take (i := 4) (v := ?_) rfl (by kernel_rfl) (by kernel_rfl) (by kernel_rfl) (fun _ _ _ h => h) (Or.inl ⟨by kernel_rfl, ?_⟩) ?_
              case refine_2 => ((intro w; go_simp); try with_reducible rfl)
              refine wpAny_take (i := 5) (v := ?_) rfl (by kernel_rfl) (by kernel_rfl) (by kernel_rfl) (fun _ _ _ h => h) (Or.inl ⟨by kernel_rfl, ?_⟩) ?_
              case refine_2 => ((intro w; go_simp); try with_reducible rfl)
              refine wpAny_take (i := 6) (v := ?_) rfl (by kernel_rfl) (by kernel_rfl) (by kernel_rfl) (fun _ _ _ h => h) (Or.inl ⟨by kernel_rfl, ?_⟩) ?_
              case refine_2 => ((intro w; go_simp); try with_reducible rfl)
              refine wpAny_take (i := 7) (v := ?_) rfl (by kernel_rfl) (by kernel_rfl) (by kernel_rfl) (fun _ _ _ h => h) (Or.inl ⟨by kernel_rfl, ?_⟩) ?_
              case refine_2 => ((intro w; go_simp); try with_reducible rfl)
              refine wpAny_take (i := 8) (v := ?_) rfl (by kernel_rfl) (by kernel_rfl) (by kernel_rfl) (fun _ _ _ h => h) (Or.inl ⟨by kernel_rfl, ?_⟩) ?_
              case refine_2 => ((intro w; go_simp); try with_reducible rfl)
              refine wpAny_take (i := 9) (v := ?_) rfl (by kernel_rfl) (by kernel_rfl) (by kernel_rfl) (fun _ _ _ h => h) (Or.inl ⟨by kernel_rfl, ?_⟩) ?_
              case refine_2 => ((intro w; go_simp); try with_reducible rfl)
              refine wpAny_take (i := 10) (v := ?_) rfl (by kernel_rfl) (by kernel_rfl) (by kernel_rfl) (fun _ _ _ h => h) (Or.inl ⟨by kernel_rfl, ?_⟩) ?_
              case refine_2 => ((intro w; go_simp); try with_reducible rfl)
              refine wpAny_take (i := 11) (v := ?_) rfl (by kernel_rfl) (by kernel_rfl) (by kernel_rfl) (fun _ _ _ h => h) (Or.inl ⟨by kernel_rfl, ?_⟩) ?_
              case refine_2 => ((intro w; go_simp); try with_reducible rfl)
              refine wpAny_take (i := 12) (v := ?_) rfl (by kernel_rfl) (by kernel_rfl) (by kernel_rfl) (fun _ _ _ h => h) (Or.inl ⟨by kernel_rfl, ?_⟩) ?_
              case refine_2 => ((intro w; go_simp); try with_reducible rfl)
              refine wpAny_take (i := 13) (v := ?_) rfl (by kernel_rfl) (by kernel_rfl) (by kernel_rfl) (fun _ _ _ h => h) (Or.inl ⟨by kernel_rfl, ?_⟩) ?_
              case refine_2 => ((intro w; go_simp); try with_reducible rfl)
              refine wpAny_take (i := 14) (v := ?_) rfl (by kernel_rfl) (by kernel_rfl) (by kernel_rfl) (fun _ _ _ h => h) (Or.inl ⟨by kernel_rfl, ?_⟩) ?_
              case refine_2 => ((intro w; go_simp); try with_reducible rfl)
              refine wpAny_take (i := 15) (v := ?_) rfl (by kernel_rfl) (by kernel_rfl) (by kernel_rfl) (fun _ _ _ h => h) (Or.inl ⟨by kernel_rfl, ?_⟩) ?_
              case refine_2 => ((intro w; go_simp); try with_reducible rfl)
              refine wpAny_take (i := 16) (v := ?_) rfl (by kernel_rfl) (by kernel_rfl) (by kernel_rfl) (fun _ _ _ h => h) (Or.inl ⟨by kernel_rfl, ?_⟩) ?_
              case refine_2 => ((intro w; go_simp); try with_reducible rfl)
              refine wpAny_take (i := 17) (v := ?_) rfl (by kernel_rfl) (by kernel_rfl) (by kernel_rfl) (fun _ _ _ h => h) (Or.inl ⟨by kernel_rfl, ?_⟩) ?_
              case refine_2 => ((intro w; go_simp); try with_reducible rfl)
              refine wpAny_take (i := 18) (v := ?_) rfl (by kernel_rfl) (by kernel_rfl) (by kernel_rfl) (fun _ _ _ h => h) (Or.inl ⟨by kernel_rfl, ?_⟩) ?_
              case refine_2 => ((intro w; go_simp); try with_reducible rfl)
              refine wpAny_take (i := 19) (v := ?_) rfl (by kernel_rfl) (by kernel_rfl) (by kernel_rfl) (fun _ _ _ h => h) (Or.inl ⟨by kernel_rfl, ?_⟩) ?_
              case refine_2 => ((intro w; go_simp); try with_reducible rfl)
              refine wpAny_take (i := 20) (v := ?_) rfl (by kernel_rfl) (by kernel_rfl) (by kernel_rfl) (fun _ _ _ h => h) (Or.inl ⟨by kernel_rfl, ?_⟩) ?_
              case refine_2 => ((intro w; go_simp); try with_reducible rfl)
              refine wpAny_take (i := 21) (v := ?_) rfl (by kernel_rfl) (by kernel_rfl) (by kernel_rfl) (fun _ _ _ h => h) (Or.inl ⟨by kernel_rfl, ?_⟩) ?_
              case refine_2 => ((intro w; go_simp); try with_reducible rfl)
              refine wpAny_take (i := 22) (v := ?_) rfl (by kernel_rfl) (by kernel_rfl) (by kernel_rfl) (fun _ _ _ h => h) (Or.inl ⟨by kernel_rfl, ?_⟩) ?_
              case refine_2 => ((intro w; go_simp); try with_reducible rfl)
              refine wpAny_take (i := 23) (v := ?_) rfl (by kernel_rfl) (by kernel_rfl) (by kernel_rfl) (fun _ _ _ h => h) (Or.inl ⟨by kernel_rfl, ?_⟩) ?_
              case refine_2 => ((intro w; go_simp); try with_reducible rfl)
              refine wpAny_take (i := 24) (v := ?_) rfl (by kernel_rfl) (by kernel_rfl) (by kernel_rfl) (fun _ _ _ h => h) (Or.inl ⟨by kernel_rfl, ?_⟩) ?_
              case refine_2 => ((intro w; go_simp); try with_reducible rfl)
              refine wpAny_take (i := 25) (v := ?_) rfl (by kernel_rfl) (by kernel_rfl) (by kernel_rfl) (fun _ _ _ h => h) (Or.inl ⟨by kernel_rfl, ?_⟩) ?_
              case refine_2 => ((intro w; go_simp); try with_reducible rfl)
              refine wpAny_take (i := 27) (v := ?_) rfl (by kernel_rfl) (by kernel_rfl) (by kernel_rfl) (fun _ _ _ h => h) (Or.inl ⟨by kernel_rfl, ?_⟩) ?_
              case refine_2 => ((intro w; go_simp); try with_reducible rfl)
              refine wpAny_take (i := 28) (v := ?_) rfl (by kernel_rfl) (by kernel_rfl) (by kernel_rfl) (fun _ _ _ h => h) (Or.inl ⟨by kernel_rfl, ?_⟩) ?_
              case refine_2 => ((intro w; go_simp); try with_reducible rfl)
              refine wpAny_take (i := 29) (v := ?_) rfl (by kernel_rfl) (by kernel_rfl) (by kernel_rfl) (fun _ _ _ h => h) (Or.inl ⟨by kernel_rfl, ?_⟩) ?_
              case refine_2 => ((intro w; go_simp); try with_reducible rfl)
              refine wpAny_take (i := 30) (v := ?_) rfl (by kernel_rfl) (by kernel_rfl) (by kernel_rfl) (fun _ _ _ h => h) (Or.inl ⟨by kernel_rfl, ?_⟩) ?_
              case refine_2 => ((intro w; go_simp); try with_reducible rfl)
              refine wpAny_ready (rs := [26]) (by kernel_rfl) (by simp) ?_
              refine AllReady.cons rfl (fun K hK => ?_) AllReady.nil
              go_simp
              refine (piece_any _ x6 hx6l Ab N cb _ (Sl.drew hsbd) (Quarter.drew hqd) (by omega)).mono ?_
              rintro e w4 ⟨A4, n4, c4, rfl, ho4, hb4⟩
              go_simp
              refine hK _ _ ?_
              clear hK K
              refine wpAny_ready (rs := [31]) (by kernel_rfl) (by simp) ?_
              refine AllReady.cons rfl (fun K hK => ?_) AllReady.nil
              go_simp
              refine (equal_is _ A4 n4 c4 _ Ap (7 + N) cp _ bb Hbb (OwnB.sl ho4) ((Sl.drew hspd).below (by omega) hb4)).mono ?_
              rintro e w' ⟨rfl, rfl⟩
              go_simp
              refine hK _ _ ?_
              clear hK K
              refine wpAny_take (i := 32) (v := ?_) rfl (by kernel_rfl) (by kernel_rfl) (by kernel_rfl) (fun _ _ _ h => h) (Or.inl ⟨by kernel_rfl, ?_⟩) ?_
              case refine_2 => ((intro w; go_simp); try with_reducible rfl)
              refine wpAny_take (i := 33) (v := ?_) rfl (by kernel_rfl) (by kernel_rfl) (by kernel_rfl) (fun _ _ _ h => h) (Or.inl ⟨by kernel_rfl, ?_⟩) ?_
              case refine_2 => ((intro w; go_simp); try with_reducible rfl)
              refine wpAny_done (by kernel_rfl) ?_ _
              have hb04 : Below w.heap.size w w4 := hbd.drew.trans (hb4.mono hbd.size)
              cases bb with
              | false =>
                have hno : ∀ k b z, ¬ PieceAt P a k b z := by
                  intro k b z g
                  obtain ⟨r1, r2, r3, r4, r5, r6⟩ := g.read
                  have h57 : b.length ≤ 57 := by obtain ⟨_, _, g3, _⟩ := g; omega
                  have hN := HNN.out b.length h57 r2 r3
                  have hk6 := HK6.out k (by obtain ⟨g1, g2, _⟩ := g; omega) r4
                  have h8 := Hbb.out
                  rw [← hN, r5, r6, ← hk6] at h8
                  simp at h8
                have HN := Lib.hid hno
                clear hno
                go_wp2
                refine bodyPost_ret (results_tmp4 rfl _ _ _) rfl ?_
                exact PieceB.no hb04 HN.out
              | true =>
                have hpa := pieceAt_of (P := P) (a := a) (k := x6) (N := N) q3 q4 (by have := HL.out; omega) (by have := Hl.out; omega) (eq_of_beq Hbb.out)
                have Hpa := Lib.hid hpa
                have hs4 := sb.below (by omega) hb04
                clear hpa
                go_wp2_with fail
                refine (clone_any w4 Ab N cb _ hs4 (by omega)).mono ?_
                rintro e w6 ⟨A6, n6, c6, rfl, ho6, hb6⟩
                go_wp2
                refine bodyPost_ret (results_tmp4 rfl _ _ _) rfl ?_
                exact ⟨hb04.trans (hb6.mono hb04.size), .inl ⟨x6, _, a + 7 + N, A6, n6, c6, Hpa.out, rfl, Own.mono ho6 hb04.size⟩⟩
            · have hno : ∀ k b z, ¬ PieceAt P a k b z := by
                intro k b z g
                obtain ⟨r1, r2, r3, r4, _, _⟩ := g.read
                have h57 : b.length ≤ 57 := by obtain ⟨_, _, g3, _⟩ := g; omega
                have hN := HNN.out b.length h57 r2 r3
                have hl := Hl.out
                have hk6 := HK6.out k (by obtain ⟨g1, g2, _⟩ := g; omega) r4
                obtain ⟨g1, g2, _⟩ := g
                omega
              have HN := Lib.hid hno
              clear hno
              have d1 : decide ((L : Int) - 7 < (N : Int)) = false := by simp; omega
              have p1 : ¬ ((L : Int) - 7 < (N : Int)) := by omega
              have d2 : decide ((n : Int) < (a : Int) + 7 + (N : Int)) = false := by simp; omega
              have p2 : ¬ ((n : Int) < (a : Int) + 7 + (N : Int)) := by omega
              have d3 : decide ((x6 : Int) < 1) = false := by simp; omega
              have d4 : decide (4 < (x6 : Int)) = true := by simp; omega
              go_wp2_with fail
              refine wp_region_any (by kernel_rfl) ?_
              try (change wpAny _ _ _ _ _ _ _ (World.drew _))
              refine wpAny_take (i := 0) (v := ?_) rfl (by kernel_rfl) (by kernel_rfl) (by kernel_rfl) (fun _ _ _ h => h) (Or.inl ⟨by kernel_rfl, ?_⟩) ?_
              case refine_2 => ((intro w; go_simp); try with_reducible rfl)
              refine wpAny_take (i := 1) (v := ?_) rfl (by kernel_rfl) (by kernel_rfl) (by kernel_rfl) (fun _ _ _ h => h) (Or.inl ⟨by kernel_rfl, ?_⟩) ?_
              case refine_2 => ((intro w; go_simp); try with_reducible rfl)
              refine wpAny_ready (rs := [2]) (by kernel_rfl) (by simp) ?_
              refine AllReady.cons rfl (fun K hK => ?_) AllReady.nil
              go_simp
              refine (Hleft.out _).mono ?_
              rintro e w' ⟨rfl, rfl⟩
              go_simp
              refine hK _ _ ?_
              clear hK K
              refine wpAny_take (i := 3) (v := ?_) rfl (by kernel_rfl) (by kernel_rfl) (by kernel_rfl) (fun _ _ _ h => h) (Or.inl ⟨by kernel_rfl, ?_⟩) ?_
              case refine_2 => ((intro w; go_simp); try with_reducible rfl)
              refine wpAny_take (i := 4) (v := ?_) rfl (by kernel_rfl) (by kernel_rfl) (by kernel_rfl) (fun _ _ _ h => h) (Or.inl ⟨by kernel_rfl, ?_⟩) ?_
              case refine_2 => ((intro w; go_simp); try with_reducible rfl)
              refine wpAny_take (i := 5) (v := ?_) rfl (by kernel_rfl) (by kernel_rfl) (by kernel_rfl) (fun _ _ _ h => h) (Or.inl ⟨by kernel_rfl, ?_⟩) ?_
              case refine_2 => ((intro w; go_simp); try with_reducible rfl)
              refine wpAny_take (i := 6) (v := ?_) rfl (by kernel_rfl) (by kernel_rfl) (by kernel_rfl) (fun _ _ _ h => h) (Or.inl ⟨by kernel_rfl, ?_⟩) ?_
              case refine_2 => ((intro w; go_simp); try with_reducible rfl)
              refine wpAny_take (i := 7) (v := ?_) rfl (by kernel_rfl) (by kernel_rfl) (by kernel_rfl) (fun _ _ _ h => h) (Or.inl ⟨by kernel_rfl, ?_⟩) ?_
              case refine_2 => ((intro w; go_simp); try with_reducible rfl)
              refine wpAny_take (i := 8) (v := ?_) rfl (by kernel_rfl) (by kernel_rfl) (by kernel_rfl) (fun _ _ _ h => h) (Or.inl ⟨by kernel_rfl, ?_⟩) ?_
              case refine_2 => ((intro w; go_simp); try with_reducible rfl)
              refine wpAny_take (i := 9) (v := ?_) rfl (by kernel_rfl) (by kernel_rfl) (by kernel_rfl) (fun _ _ _ h => h) (Or.inl ⟨by kernel_rfl, ?_⟩) ?_
              case refine_2 => ((intro w; go_simp); try with_reducible rfl)
              refine wpAny_take (i := 10) (v := ?_) rfl (by kernel_rfl) (by kernel_rfl) (by kernel_rfl) (fun _ _ _ h => h) (Or.inl ⟨by kernel_rfl, ?_⟩) ?_
              case refine_2 => ((intro w; go_simp); try with_reducible rfl)
              refine wpAny_take (i := 11) (v := ?_) rfl (by kernel_rfl) (by kernel_rfl) (by kernel_rfl) (fun _ _ _ h => h) (Or.inl ⟨by kernel_rfl, ?_⟩) ?_
              case refine_2 => ((intro w; go_simp); try with_reducible rfl)
              refine wpAny_take (i := 12) (v := ?_) rfl (by kernel_rfl) (by kernel_rfl) (by kernel_rfl) (fun _ _ _ h => h) (Or.inl ⟨by kernel_rfl, ?_⟩) ?_
              case refine_2 => ((intro w; go_simp); try with_reducible rfl)
              refine wpAny_take (i := 13) (v := ?_) rfl (by kernel_rfl) (by kernel_rfl) (by kernel_rfl) (fun _ _ _ h => h) (Or.inl ⟨by kernel_rfl, ?_⟩) ?_
              case refine_2 => ((intro w; go_simp); try with_reducible rfl)
              refine wpAny_take (i := 14) (v := ?_) rfl (by kernel_rfl) (by kernel_rfl) (by kernel_rfl) (fun _ _ _ h => h) (Or.inl ⟨by kernel_rfl, ?_⟩) ?_
              case refine_2 => ((intro w; go_simp); try with_reducible rfl)
              refine wpAny_take (i := 15) (v := ?_) rfl (by kernel_rfl) (by kernel_rfl) (by kernel_rfl) (fun _ _ _ h => h) (Or.inl ⟨by kernel_rfl, ?_⟩) ?_
              case refine_2 => ((intro w; go_simp); try with_reducible rfl)
              refine wpAny_take (i := 16) (v := ?_) rfl (by kernel_rfl) (by kernel_rfl) (by kernel_rfl) (fun _ _ _ h => h) (Or.inl ⟨by kernel_rfl, ?_⟩) ?_
              case refine_2 => ((intro w; go_simp); try with_reducible rfl)
              refine wpAny_take (i := 17) (v := ?_) rfl (by kernel_rfl) (by kernel_rfl) (by kernel_rfl) (fun _ _ _ h => h) (Or.inl ⟨by kernel_rfl, ?_⟩) ?_
              case refine_2 => ((intro w; go_simp); try with_reducible rfl)
              refine wpAny_take (i := 18) (v := ?_) rfl (by kernel_rfl) (by kernel_rfl) (by kernel_rfl) (fun _ _ _ h => h) (Or.inl ⟨by kernel_rfl, ?_⟩) ?_
              case refine_2 => ((intro w; go_simp); try with_reducible rfl)
              refine wpAny_take (i := 19) (v := ?_) rfl (by kernel_rfl) (by kernel_rfl) (by kernel_rfl) (fun _ _ _ h => h) (Or.inl ⟨by kernel_rfl, ?_⟩) ?_
              case refine_2 => ((intro w; go_simp); try with_reducible rfl)
              refine wpAny_take (i := 20) (v := undef) rfl (by kernel_rfl) (by kernel_rfl) (by kernel_rfl) (fun _ _ _ h => h) (Or.inr ⟨by kernel_rfl, rfl⟩) ?_
              refine wpAny_take (i := 21) (v := undef) rfl (by kernel_rfl) (by kernel_rfl) (by kernel_rfl) (fun _ _ _ h => h) (Or.inr ⟨by kernel_rfl, rfl⟩) ?_
              refine wpAny_take (i := 22) (v := undef) rfl (by kernel_rfl) (by kernel_rfl) (by kernel_rfl) (fun _ _ _ h => h) (Or.inr ⟨by kernel_rfl, rfl⟩) ?_
              refine wpAny_take (i := 23) (v := undef) rfl (by kernel_rfl) (by kernel_rfl) (by kernel_rfl) (fun _ _ _ h => h) (Or.inr ⟨by kernel_rfl, rfl⟩) ?_
              refine wpAny_take (i := 24) (v := undef) rfl (by kernel_rfl) (by kernel_rfl) (by kernel_rfl) (fun _ _ _ h => h) (Or.inr ⟨by kernel_rfl, rfl⟩) ?_
              refine wpAny_take (i := 25) (v := undef) rfl (by kernel_rfl) (by kernel_rfl) (by kernel_rfl) (fun _ _ _ h => h) (Or.inr ⟨by kernel_rfl, rfl⟩) ?_
              refine wpAny_take (i := 26) (v := undef) rfl (by kernel_rfl) (by kernel_rfl) (by kernel_rfl) (fun _ _ _ h => h) (Or.inr ⟨by kernel_rfl, rfl⟩) ?_
              refine wpAny_take (i := 27) (v := undef) rfl (by kernel_rfl) (by kernel_rfl) (by kernel_rfl) (fun _ _ _ h => h) (Or.inr ⟨by kernel_rfl, rfl⟩) ?_
              refine wpAny_take (i := 28) (v := undef) rfl (by kernel_rfl) (by kernel_rfl) (by kernel_rfl) (fun _ _ _ h => h) (Or.inr ⟨by kernel_rfl, rfl⟩) ?_
              refine wpAny_take (i := 29) (v := undef) rfl (by kernel_rfl) (by kernel_rfl) (by kernel_rfl) (fun _ _ _ h => h) (Or.inr ⟨by kernel_rfl, rfl⟩) ?_
              refine wpAny_take (i := 30) (v := undef) rfl (by kernel_rfl) (by kernel_rfl) (by kernel_rfl) (fun _ _ _ h => h) (Or.inr ⟨by kernel_rfl, rfl⟩) ?_
              refine wpAny_take (i := 31) (v := undef) rfl (by kernel_rfl) (by kernel_rfl) (by kernel_rfl) (fun _ _ _ h => h) (Or.inr ⟨by kernel_rfl, rfl⟩) ?_
              refine wpAny_take (i := 32) (v := undef) rfl (by kernel_rfl) (by kernel_rfl) (by kernel_rfl) (fun _ _ _ h => h) (Or.inr ⟨by kernel_rfl, rfl⟩) ?_
              refine wpAny_ready (rs := [33]) (by kernel_rfl) (by simp) ?_
              refine AllReady.cons rfl (fun K hK => ?_) AllReady.nil
              go_simp
              refine hK _ _ ?_
              clear hK K
              refine wpAny_done (by kernel_rfl) ?_ _
              go_wp2
              refine bodyPost_ret (results_tmp4 rfl _ _ _) rfl ?_
              exact PieceB.no hbd.drew HN.out
          · have hno : ∀ k b z, ¬ PieceAt P a k b z := by
              intro k b z g
              obtain ⟨r1, r2, r3, r4, _, _⟩ := g.read
              have h57 : b.length ≤ 57 := by obtain ⟨_, _, g3, _⟩ := g; omega
              have hN := HNN.out b.length h57 r2 r3
              have hl := Hl.out
              have hk6 := HK6.out k (by obtain ⟨g1, g2, _⟩ := g; omega) r4
              obtain ⟨g1, g2, _⟩ := g
              omega
            have HN := Lib.hid hno
            clear hno
            have d1 : decide ((L : Int) - 7 < (N : Int)) = false := by simp; omega
            have p1 : ¬ ((L : Int) - 7 < (N : Int)) := by omega
            have d2 : decide ((n : Int) < (a : Int) + 7 + (N : Int)) = false := by simp; omega
            have p2 : ¬ ((n : Int) < (a : Int) + 7 + (N : Int)) := by omega
            have d3 : decide ((x6 : Int) < 1) = true := by simp; omega
            go_wp2_with fail
            refine wp_region_any (by kernel_rfl) ?_
            try (change wpAny _ _ _ _ _ _ _ (World.drew _))
            refine wpAny_take (i := 0) (v := ?_) rfl (by kernel_rfl) (by kernel_rfl) (by kernel_rfl) (fun _ _ _ h => h) (Or.inl ⟨by kernel_rfl, ?_⟩) ?_
            case refine_2 => ((intro w; go_simp); try with_reducible rfl)
            refine wpAny_take (i := 1) (v := ?_) rfl (by kernel_rfl) (by kernel_rfl) (by kernel_rfl) (fun _ _ _ h => h) (Or.inl ⟨by kernel_rfl, ?_⟩) ?_
            case refine_2 => ((intro w; go_simp); try with_reducible rfl)
            refine wpAny_ready (rs := [2]) (by kernel_rfl) (by simp) ?_
            refine AllReady.cons rfl (fun K hK => ?_) AllReady.nil
            go_simp
            refine (Hleft.out _).mono ?_
            rintro e w' ⟨rfl, rfl⟩
            go_simp
            refine hK _ _ ?_
            clear hK K
            refine wpAny_take (i := 3) (v := ?_) rfl (by kernel_rfl) (by kernel_rfl) (by kernel_rfl) (fun _ _ _ h => h) (Or.inl ⟨by kernel_rfl, ?_⟩) ?_
            case refine_2 => ((intro w; go_simp); try with_reducible rfl)
            refine wpAny_take (i := 4) (v := ?_) rfl (by kernel_rfl) (by kernel_rfl) (by kernel_rfl) (fun _ _ _ h => h) (Or.inl ⟨by kernel_rfl, ?_⟩) ?_
            case refine_2 => ((intro w; go_simp); try with_reducible rfl)
            refine wpAny_take (i := 5) (v := ?_) rfl (by kernel_rfl) (by kernel_rfl) (by kernel_rfl) (fun _ _ _ h => h) (Or.inl ⟨by kernel_rfl, ?_⟩) ?_
            case refine_2 => ((intro w; go_simp); try with_reducible rfl)
            refine wpAny_take (i := 6) (v := ?_) rfl (by kernel_rfl) (by kernel_rfl) (by kernel_rfl) (fun _ _ _ h => h) (Or.inl ⟨by kernel_rfl, ?_⟩) ?_
            case refine_2 => ((intro w; go_simp); try with_reducible rfl)
            refine wpAny_take (i := 7) (v := ?_) rfl (by kernel_rfl) (by kernel_rfl) (by kernel_rfl) (fun _ _ _ h => h) (Or.inl ⟨by kernel_rfl, ?_⟩) ?_
            case refine_2 => ((intro w; go_simp); try with_reducible rfl)
            refine wpAny_take (i := 8) (v := ?_) rfl (by kernel_rfl) (by kernel_rfl) (by kernel_rfl) (fun _ _ _ h => h) (Or.inl ⟨by kernel_rfl, ?_⟩) ?_
            case refine_2 => ((intro w; go_simp); try with_reducible rfl)
            refine wpAny_take (i := 9) (v := ?_) rfl (by kernel_rfl) (by kernel_rfl) (by kernel_rfl) (fun _ _ _ h => h) (Or.inl ⟨by kernel_rfl, ?_⟩) ?_
            case refine_2 => ((intro w; go_simp); try with_reducible rfl)
            refine wpAny_take (i := 10) (v := ?_) rfl (by kernel_rfl) (by kernel_rfl) (by kernel_rfl) (fun _ _ _ h => h) (Or.inl ⟨by kernel_rfl, ?_⟩) ?_
            case refine_2 => ((intro w; go_simp); try with_reducible rfl)
            refine wpAny_take (i := 11) (v := ?_) rfl (by kernel_rfl) (by kernel_rfl) (by kernel_rfl) (fun _ _ _ h => h) (Or.inl ⟨by kernel_rfl, ?_⟩) ?_
            case refine_2 => ((intro w; go_simp); try with_reducible rfl)
            refine wpAny_take (i := 12) (v := ?_) rfl (by kernel_rfl) (by kernel_rfl) (by kernel_rfl) (fun _ _ _ h => h) (Or.inl ⟨by kernel_rfl, ?_⟩) ?_
            case refine_2 => ((intro w; go_simp); try with_reducible rfl)
            refine wpAny_take (i := 13) (v := ?_) rfl (by kernel_rfl) (by kernel_rfl) (by kernel_rfl) (fun _ _ _ h => h) (Or.inl ⟨by kernel_rfl, ?_⟩) ?_
            case refine_2 => ((intro w; go_simp); try with_reducible rfl)
            refine wpAny_take (i := 14) (v := ?_) rfl (by kernel_rfl) (by kernel_rfl) (by kernel_rfl) (fun _ _ _ h => h) (Or.inl ⟨by kernel_rfl, ?_⟩) ?_
            case refine_2 => ((intro w; go_simp); try with_reducible rfl)
            refine wpAny_take (i := 15) (v := ?_) rfl (by kernel_rfl) (by kernel_rfl) (by kernel_rfl) (fun _ _ _ h => h) (Or.inl ⟨by kernel_rfl, ?_⟩) ?_
            case refine_2 => ((intro w; go_simp); try with_reducible rfl)
            refine wpAny_take (i := 16) (v := undef) rfl (by kernel_rfl) (by kernel_rfl) (by kernel_rfl) (fun _ _ _ h => h) (Or.inr ⟨by kernel_rfl, rfl⟩) ?_
            refine wpAny_take (i := 17) (v := undef) rfl (by kernel_rfl) (by kernel_rfl) (by kernel_rfl) (fun _ _ _ h => h) (Or.inr ⟨by kernel_rfl, rfl⟩) ?_
            refine wpAny_take (i := 18) (v := ?_) rfl (by kernel_rfl) (by kernel_rfl) (by kernel_rfl) (fun _ _ _ h => h) (Or.inl ⟨by kernel_rfl, ?_⟩) ?_
            case refine_2 => ((intro w; go_simp); try with_reducible rfl)
            refine wpAny_take (i := 19) (v := ?_) rfl (by kernel_rfl) (by kernel_rfl) (by kernel_rfl) (fun _ _ _ h => h) (Or.inl ⟨by kernel_rfl, ?_⟩) ?_
            case refine_2 => ((intro w; go_simp); try with_reducible rfl)
            refine wpAny_take (i := 20) (v := undef) rfl (by kernel_rfl) (by kernel_rfl) (by kernel_rfl) (fun _ _ _ h => h) (Or.inr ⟨by kernel_rfl, rfl⟩) ?_
            refine wpAny_take (i := 21) (v := undef) rfl (by kernel_rfl) (by kernel_rfl) (by kernel_rfl) (fun _ _ _ h => h) (Or.inr ⟨by kernel_rfl, rfl⟩) ?_
            refine wpAny_take (i := 22) (v := undef) rfl (by kernel_rfl) (by kernel_rfl) (by kernel_rfl) (fun _ _ _ h => h) (Or.inr ⟨by kernel_rfl, rfl⟩) ?_
            refine wpAny_take (i := 23) (v := undef) rfl (by kernel_rfl) (by kernel_rfl) (by kernel_rfl) (fun _ _ _ h => h) (Or.inr ⟨by kernel_rfl, rfl⟩) ?_
            refine wpAny_take (i := 24) (v := undef) rfl (by kernel_rfl) (by kernel_rfl) (by kernel_rfl) (fun _ _ _ h => h) (Or.inr ⟨by kernel_rfl, rfl⟩) ?_
            refine wpAny_take (i := 25) (v := undef) rfl (by kernel_rfl) (by kernel_rfl) (by kernel_rfl) (fun _ _ _ h => h) (Or.inr ⟨by kernel_rfl, rfl⟩) ?_
            refine wpAny_take (i := 26) (v := undef) rfl (by kernel_rfl) (by kernel_rfl) (by kernel_rfl) (fun _ _ _ h => h) (Or.inr ⟨by kernel_rfl, rfl⟩) ?_
            refine wpAny_take (i := 27) (v := undef) rfl (by kernel_rfl) (by kernel_rfl) (by kernel_rfl) (fun _ _ _ h => h) (Or.inr ⟨by kernel_rfl, rfl⟩) ?_
            refine wpAny_take (i := 28) (v := undef) rfl (by kernel_rfl) (by kernel_rfl) (by kernel_rfl) (fun _ _ _ h => h) (Or.inr ⟨by kernel_rfl, rfl⟩) ?_
            refine wpAny_take (i := 29) (v := undef) rfl (by kernel_rfl) (by kernel_rfl) (by kernel_rfl) (fun _ _ _ h => h) (Or.inr ⟨by kernel_rfl, rfl⟩) ?_
            refine wpAny_take (i := 30) (v := undef) rfl (by kernel_rfl) (by kernel_rfl) (by kernel_rfl) (fun _ _ _ h => h) (Or.inr ⟨by kernel_rfl, rfl⟩) ?_
            refine wpAny_take (i := 31) (v := undef) rfl (by kernel_rfl) (by kernel_rfl) (by kernel_rfl) (fun _ _ _ h => h) (Or.inr ⟨by kernel_rfl, rfl⟩) ?_
            refine wpAny_take (i := 32) (v := undef) rfl (by kernel_rfl) (by kernel_rfl) (by kernel_rfl) (fun _ _ _ h => h) (Or.inr ⟨by kernel_rfl, rfl⟩) ?_
            refine wpAny_ready (rs := [33]) (by kernel_rfl) (by simp) ?_
            refine AllReady.cons rfl (fun K hK => ?_) AllReady.nil
            go_simp
            refine hK _ _ ?_
            clear hK K
            refine wpAny_done (by kernel_rfl) ?_ _
            go_wp2
            refine bodyPost_ret (results_tmp4 rfl _ _ _) rfl ?_
            exact PieceB.no hbd.drew HN.out
        · have hno : ∀ k b z, ¬ PieceAt P a k b z := by
            intro k b z g
            obtain ⟨r1, r2, r3, r4, _, _⟩ := g.read
            have h57 : b.length ≤ 57 := by obtain ⟨_, _, g3, _⟩ := g; omega
            have hN := HNN.out b.length h57 r2 r3
            have hl := Hl.out
            omega
          have HN := Lib.hid hno
          clear hno
          have d1 : decide ((L : Int) - 7 < (N : Int)) = false := by simp; omega
          have p1 : ¬ ((L : Int) - 7 < (N : Int)) := by omega
          have d2 : decide ((n : Int) < (a : Int) + 7 + (N : Int)) = true := by simp; omega
          have p2 : (n : Int) < (a : Int) + 7 + (N : Int) := by omega
          go_wp2_with fail
          refine wp_region_any (by kernel_rfl) ?_
          try (change wpAny _ _ _ _ _ _ _ (World.drew _))
          refine wpAny_take (i := 0) (v := ?_) rfl (by kernel_rfl) (by kernel_rfl) (by kernel_rfl) (fun _ _ _ h => h) (Or.inl ⟨by kernel_rfl, ?_⟩) ?_
          case refine_2 => ((intro w; go_simp); try with_reducible rfl)
          refine wpAny_take (i := 1) (v := ?_) rfl (by kernel_rfl) (by kernel_rfl) (by kernel_rfl) (fun _ _ _ h => h) (Or.inl ⟨by kernel_rfl, ?_⟩) ?_
          case refine_2 => ((intro w; go_simp); try with_reducible rfl)
          refine wpAny_ready (rs := [2]) (by kernel_rfl) (by simp) ?_
          refine AllReady.cons rfl (fun K hK => ?_) AllReady.nil
          go_simp
          refine (Hleft.out _).mono ?_
          rintro e w' ⟨rfl, rfl⟩
          go_simp
          refine hK _ _ ?_
          clear hK K
          refine wpAny_take (i := 3) (v := ?_) rfl (by kernel_rfl) (by kernel_rfl) (by kernel_rfl) (fun _ _ _ h => h) (Or.inl ⟨by kernel_rfl, ?_⟩) ?_
          case refine_2 => ((intro w; go_simp); try with_reducible rfl)
          refine wpAny_take (i := 4) (v := ?_) rfl (by kernel_rfl) (by kernel_rfl) (by kernel_rfl) (fun _ _ _ h => h) (Or.inl ⟨by kernel_rfl, ?_⟩) ?_
          case refine_2 => ((intro w; go_simp); try with_reducible rfl)
          refine wpAny_take (i := 5) (v := ?_) rfl (by kernel_rfl) (by kernel_rfl) (by kernel_rfl) (fun _ _ _ h => h) (Or.inl ⟨by kernel_rfl, ?_⟩) ?_
          case refine_2 => ((intro w; go_simp); try with_reducible rfl)
          refine wpAny_take (i := 6) (v := ?_) rfl (by kernel_rfl) (by kernel_rfl) (by kernel_rfl) (fun _ _ _ h => h) (Or.inl ⟨by kernel_rfl, ?_⟩) ?_
          case refine_2 => ((intro w; go_simp); try with_reducible rfl)
          refine wpAny_take (i := 7) (v := ?_) rfl (by kernel_rfl) (by kernel_rfl) (by kernel_rfl) (fun _ _ _ h => h) (Or.inl ⟨by kernel_rfl, ?_⟩) ?_
          case refine_2 => ((intro w; go_simp); try with_reducible rfl)
          refine wpAny_take (i := 8) (v := ?_) rfl (by kernel_rfl) (by kernel_rfl) (by kernel_rfl) (fun _ _ _ h => h) (Or.inl ⟨by kernel_rfl, ?_⟩) ?_
          case refine_2 => ((intro w; go_simp); try with_reducible rfl)
          refine wpAny_take (i := 9) (v := ?_) rfl (by kernel_rfl) (by kernel_rfl) (by kernel_rfl) (fun _ _ _ h => h) (Or.inl ⟨by kernel_rfl, ?_⟩) ?_
          case refine_2 => ((intro w; go_simp); try with_reducible rfl)
          refine wpAny_take (i := 10) (v := ?_) rfl (by kernel_rfl) (by kernel_rfl) (by kernel_rfl) (fun _ _ _ h => h) (Or.inl ⟨by kernel_rfl, ?_⟩) ?_
          case refine_2 => ((intro w; go_simp); try with_reducible rfl)
          refine wpAny_take (i := 11) (v := ?_) rfl (by kernel_rfl) (by kernel_rfl) (by kernel_rfl) (fun _ _ _ h => h) (Or.inl ⟨by kernel_rfl, ?_⟩) ?_
          case refine_2 => ((intro w; go_simp); try with_reducible rfl)
          refine wpAny_take (i := 12) (v := undef) rfl (by kernel_rfl) (by kernel_rfl) (by kernel_rfl) (fun _ _ _ h => h) (Or.inr ⟨by kernel_rfl, rfl⟩) ?_
          refine wpAny_take (i := 13) (v := undef) rfl (by kernel_rfl) (by kernel_rfl) (by kernel_rfl) (fun _ _ _ h => h) (Or.inr ⟨by kernel_rfl, rfl⟩) ?_
          refine wpAny_take (i := 14) (v := ?_) rfl (by kernel_rfl) (by kernel_rfl) (by kernel_rfl) (fun _ _ _ h => h) (Or.inl ⟨by kernel_rfl, ?_⟩) ?_
          case refine_2 => ((intro w; go_simp); try with_reducible rfl)
          refine wpAny_take (i := 15) (v := ?_) rfl (by kernel_rfl) (by kernel_rfl) (by kernel_rfl) (fun _ _ _ h => h) (Or.inl ⟨by kernel_rfl, ?_⟩) ?_
          case refine_2 => ((intro w; go_simp); try with_reducible rfl)
          refine wpAny_take (i := 16) (v := undef) rfl (by kernel_rfl) (by kernel_rfl) (by kernel_rfl) (fun _ _ _ h => h) (Or.inr ⟨by kernel_rfl, rfl⟩) ?_
          refine wpAny_take (i := 17) (v := undef) rfl (by kernel_rfl) (by kernel_rfl) (by kernel_rfl) (fun _ _ _ h => h) (Or.inr ⟨by kernel_rfl, rfl⟩) ?_
          refine wpAny_take (i := 18) (v := ?_) rfl (by kernel_rfl) (by kernel_rfl) (by kernel_rfl) (fun _ _ _ h => h) (Or.inl ⟨by kernel_rfl, ?_⟩) ?_
          case refine_2 => ((intro w; go_simp); try with_reducible rfl)
          refine wpAny_take (i := 19) (v := ?_) rfl (by kernel_rfl) (by kernel_rfl) (by kernel_rfl) (fun _ _ _ h => h) (Or.inl ⟨by kernel_rfl, ?_⟩) ?_
          case refine_2 => ((intro w; go_simp); try with_reducible rfl)
          refine wpAny_take (i := 20) (v := undef) rfl (by kernel_rfl) (by kernel_rfl) (by kernel_rfl) (fun _ _ _ h => h) (Or.inr ⟨by kernel_rfl, rfl⟩) ?_
          refine wpAny_take (i := 21) (v := undef) rfl (by kernel_rfl) (by kernel_rfl) (by kernel_rfl) (fun _ _ _ h => h) (Or.inr ⟨by kernel_rfl, rfl⟩) ?_
          refine wpAny_take (i := 22) (v := undef) rfl (by kernel_rfl) (by kernel_rfl) (by kernel_rfl) (fun _ _ _ h => h) (Or.inr ⟨by kernel_rfl, rfl⟩) ?_
          refine wpAny_take (i := 23) (v := undef) rfl (by kernel_rfl) (by kernel_rfl) (by kernel_rfl) (fun _ _ _ h => h) (Or.inr ⟨by kernel_rfl, rfl⟩) ?_
          refine wpAny_take (i := 24) (v := undef) rfl (by kernel_rfl) (by kernel_rfl) (by kernel_rfl) (fun _ _ _ h => h) (Or.inr ⟨by kernel_rfl, rfl⟩) ?_
          refine wpAny_take (i := 25) (v := undef) rfl (by kernel_rfl) (by kernel_rfl) (by kernel_rfl) (fun _ _ _ h => h) (Or.inr ⟨by kernel_rfl, rfl⟩) ?_
          refine wpAny_take (i := 26) (v := undef) rfl (by kernel_rfl) (by kernel_rfl) (by kernel_rfl) (fun _ _ _ h => h) (Or.inr ⟨by kernel_rfl, rfl⟩) ?_
          refine wpAny_take (i := 27) (v := undef) rfl (by kernel_rfl) (by kernel_rfl) (by kernel_rfl) (fun _ _ _ h => h) (Or.inr ⟨by kernel_rfl, rfl⟩) ?_
          refine wpAny_take (i := 28) (v := undef) rfl (by kernel_rfl) (by kernel_rfl) (by kernel_rfl) (fun _ _ _ h => h) (Or.inr ⟨by kernel_rfl, rfl⟩) ?_
          refine wpAny_take (i := 29) (v := undef) rfl (by kernel_rfl) (by kernel_rfl) (by kernel_rfl) (fun _ _ _ h => h) (Or.inr ⟨by kernel_rfl, rfl⟩) ?_
          refine wpAny_take (i := 30) (v := undef) rfl (by kernel_rfl) (by kernel_rfl) (by kernel_rfl) (fun _ _ _ h => h) (Or.inr ⟨by kernel_rfl, rfl⟩) ?_
          refine wpAny_take (i := 31) (v := undef) rfl (by kernel_rfl) (by kernel_rfl) (by kernel_rfl) (fun _ _ _ h => h) (Or.inr ⟨by kernel_rfl, rfl⟩) ?_
          refine wpAny_take (i := 32) (v := undef) rfl (by kernel_rfl) (by kernel_rfl) (by kernel_rfl) (fun _ _ _ h => h) (Or.inr ⟨by kernel_rfl, rfl⟩) ?_
          refine wpAny_ready (rs := [33]) (by kernel_rfl) (by simp) ?_
          refine AllReady.cons rfl (fun K hK => ?_) AllReady.nil
          go_simp
          refine hK _ _ ?_
          clear hK K
          refine wpAny_done (by kernel_rfl) ?_ _
          go_wp2
          refine bodyPost_ret (results_tmp4 rfl _ _ _) rfl ?_
          exact PieceB.no hbd.drew HN.out
      · have hno : ∀ k b z, ¬ PieceAt P a k b z := by
          intro k b z g
          obtain ⟨r1, r2, r3, r4, _, _⟩ := g.read
          have h57 : b.length ≤ 57 := by obtain ⟨_, _, g3, _⟩ := g; omega
          have hN := HNN.out b.length h57 r2 r3
          have hl := Hl.out
          obtain ⟨_, _, g3, _⟩ := g
          have hL := HL.out
          omega
        have HN := Lib.hid hno
        clear hno
        have d1 : decide ((L : Int) - 7 < (N : Int)) = true := by simp; omega
        have p1 : (L : Int) - 7 < (N : Int) := by omega
        go_wp2_with fail
        refine wp_region_any (by kernel_rfl) ?_
        try (change wpAny _ _ _ _ _ _ _ (World.drew _))
        refine wpAny_take (i := 0) (v := ?_) rfl (by kernel_rfl) (by kernel_rfl) (by kernel_rfl) (fun _ _ _ h => h) (Or.inl ⟨by kernel_rfl, ?_⟩) ?_
        case refine_2 => ((intro w; go_simp); try with_reducible rfl)
        refine wpAny_take (i := 1) (v := ?_) rfl (by kernel_rfl) (by kernel_rfl) (by kernel_rfl) (fun _ _ _ h => h) (Or.inl ⟨by kernel_rfl, ?_⟩) ?_
        case refine_2 => ((intro w; go_simp); try with_reducible rfl)
        refine wpAny_ready (rs := [2]) (by kernel_rfl) (by simp) ?_
        refine AllReady.cons rfl (fun K hK => ?_) AllReady.nil
        go_simp
        refine (Hleft.out _).mono ?_
        rintro e w' ⟨rfl, rfl⟩
        go_simp
        refine hK _ _ ?_
        clear hK K
        refine wpAny_take (i := 3) (v := ?_) rfl (by kernel_rfl) (by kernel_rfl) (by kernel_rfl) (fun _ _ _ h => h) (Or.inl ⟨by kernel_rfl, ?_⟩) ?_
        case refine_2 => ((intro w; go_simp); try with_reducible rfl)
        refine wpAny_take (i := 4) (v := ?_) rfl (by kernel_rfl) (by kernel_rfl) (by kernel_rfl) (fun _ _ _ h => h) (Or.inl ⟨by kernel_rfl, ?_⟩) ?_
        case refine_2 => ((intro w; go_simp); try with_reducible rfl)
        refine wpAny_take (i := 5) (v := ?_) rfl (by kernel_rfl) (by kernel_rfl) (by kernel_rfl) (fun _ _ _ h => h) (Or.inl ⟨by kernel_rfl, ?_⟩) ?_
        case refine_2 => ((intro w; go_simp); try with_reducible rfl)
        refine wpAny_take (i := 6) (v := undef) rfl (by kernel_rfl) (by kernel_rfl) (by kernel_rfl) (fun _ _ _ h => h) (Or.inr ⟨by kernel_rfl, rfl⟩) ?_
        refine wpAny_take (i := 7) (v := undef) rfl (by kernel_rfl) (by kernel_rfl) (by kernel_rfl) (fun _ _ _ h => h) (Or.inr ⟨by kernel_rfl, rfl⟩) ?_
        refine wpAny_take (i := 8) (v := undef) rfl (by kernel_rfl) (by kernel_rfl) (by kernel_rfl) (fun _ _ _ h => h) (Or.inr ⟨by kernel_rfl, rfl⟩) ?_
        refine wpAny_take (i := 9) (v := undef) rfl (by kernel_rfl) (by kernel_rfl) (by kernel_rfl) (fun _ _ _ h => h) (Or.inr ⟨by kernel_rfl, rfl⟩) ?_
        refine wpAny_take (i := 10) (v := ?_) rfl (by kernel_rfl) (by kernel_rfl) (by kernel_rfl) (fun _ _ _ h => h) (Or.inl ⟨by kernel_rfl, ?_⟩) ?_
        case refine_2 => ((intro w; go_simp); try with_reducible rfl)
        refine wpAny_take (i := 11) (v := ?_) rfl (by kernel_rfl) (by kernel_rfl) (by kernel_rfl) (fun _ _ _ h => h) (Or.inl ⟨by kernel_rfl, ?_⟩) ?_
        case refine_2 => ((intro w; go_simp); try with_reducible rfl)
        refine wpAny_take (i := 12) (v := undef) rfl (by kernel_rfl) (by kernel_rfl) (by kernel_rfl) (fun _ _ _ h => h) (Or.inr ⟨by kernel_rfl, rfl⟩) ?_
        refine wpAny_take (i := 13) (v := undef) rfl (by kernel_rfl) (by kernel_rfl) (by kernel_rfl) (fun _ _ _ h => h) (Or.inr ⟨by kernel_rfl, rfl⟩) ?_
        refine wpAny_take (i := 14) (v := ?_) rfl (by kernel_rfl) (by kernel_rfl) (by kernel_rfl) (fun _ _ _ h => h) (Or.inl ⟨by kernel_rfl, ?_⟩) ?_
        case refine_2 => ((intro w; go_simp); try with_reducible rfl)
        refine wpAny_take (i := 15) (v := ?_) rfl (by kernel_rfl) (by kernel_rfl) (by kernel_rfl) (fun _ _ _ h => h) (Or.inl ⟨by kernel_rfl, ?_⟩) ?_
        case refine_2 => ((intro w; go_simp); try with_reducible rfl)
        refine wpAny_take (i := 16) (v := undef) rfl (by kernel_rfl) (by kernel_rfl) (by kernel_rfl) (fun _ _ _ h => h) (Or.inr ⟨by kernel_rfl, rfl⟩) ?_
        refine wpAny_take (i := 17) (v := undef) rfl (by kernel_rfl) (by kernel_rfl) (by kernel_rfl) (fun _ _ _ h => h) (Or.inr ⟨by kernel_rfl, rfl⟩) ?_
        refine wpAny_take (i := 18) (v := ?_) rfl (by kernel_rfl) (by kernel_rfl) (by kernel_rfl) (fun _ _ _ h => h) (Or.inl ⟨by kernel_rfl, ?_⟩) ?_
        case refine_2 => ((intro w; go_simp); try with_reducible rfl)
        refine wpAny_take (i := 19) (v := ?_) rfl (by kernel_rfl) (by kernel_rfl) (by kernel_rfl) (fun _ _ _ h => h) (Or.inl ⟨by kernel_rfl, ?_⟩) ?_
        case refine_2 => ((intro w; go_simp); try with_reducible rfl)
        refine wpAny_take (i := 20) (v := undef) rfl (by kernel_rfl) (by kernel_rfl) (by kernel_rfl) (fun _ _ _ h => h) (Or.inr ⟨by kernel_rfl, rfl⟩) ?_
        refine wpAny_take (i := 21) (v := undef) rfl (by kernel_rfl) (by kernel_rfl) (by kernel_rfl) (fun _ _ _ h => h) (Or.inr ⟨by kernel_rfl, rfl⟩) ?_
        refine wpAny_take (i := 22) (v := undef) rfl (by kernel_rfl) (by kernel_rfl) (by kernel_rfl) (fun _ _ _ h => h) (Or.inr ⟨by kernel_rfl, rfl⟩) ?_
        refine wpAny_take (i := 23) (v := undef) rfl (by kernel_rfl) (by kernel_rfl) (by kernel_rfl) (fun _ _ _ h => h) (Or.inr ⟨by kernel_rfl, rfl⟩) ?_
        refine wpAny_take (i := 24) (v := undef) rfl (by kernel_rfl) (by kernel_rfl) (by kernel_rfl) (fun _ _ _ h => h) (Or.inr ⟨by kernel_rfl, rfl⟩) ?_
        refine wpAny_take (i := 25) (v := undef) rfl (by kernel_rfl) (by kernel_rfl) (by kernel_rfl) (fun _ _ _ h => h) (Or.inr ⟨by kernel_rfl, rfl⟩) ?_
        refine wpAny_take (i := 26) (v := undef) rfl (by kernel_rfl) (by kernel_rfl) (by kernel_rfl) (fun _ _ _ h => h) (Or.inr ⟨by kernel_rfl, rfl⟩) ?_
        refine wpAny_take (i := 27) (v := undef) rfl (by kernel_rfl) (by kernel_rfl) (by kernel_rfl) (fun _ _ _ h => h) (Or.inr ⟨by kernel_rfl, rfl⟩) ?_
        refine wpAny_take (i := 28) (v := undef) rfl (by kernel_rfl) (by kernel_rfl) (by kernel_rfl) (fun _ _ _ h => h) (Or.inr ⟨by kernel_rfl, rfl⟩) ?_
        refine wpAny_take (i := 29) (v := undef) rfl (by kernel_rfl) (by kernel_rfl) (by kernel_rfl) (fun _ _ _ h => h) (Or.inr ⟨by kernel_rfl, rfl⟩) ?_
        refine wpAny_take (i := 30) (v := undef) rfl (by kernel_rfl) (by kernel_rfl) (by kernel_rfl) (fun _ _ _ h => h) (Or.inr ⟨by kernel_rfl, rfl⟩) ?_
        refine wpAny_take (i := 31) (v := undef) rfl (by kernel_rfl) (by kernel_rfl) (by kernel_rfl) (fun _ _ _ h => h) (Or.inr ⟨by kernel_rfl, rfl⟩) ?_
        refine wpAny_take (i := 32) (v := undef) rfl (by kernel_rfl) (by kernel_rfl) (by kernel_rfl) (fun _ _ _ h => h) (Or.inr ⟨by kernel_rfl, rfl⟩) ?_
        refine wpAny_ready (rs := [33]) (by kernel_rfl) (by simp) ?_
        refine AllReady.cons rfl (fun K hK => ?_) AllReady.nil
        go_simp
        refine hK _ _ ?_
        clear hK K
        refine wpAny_done (by kernel_rfl) ?_ _
        go_wp2
        refine bodyPost_ret (results_tmp4 rfl _ _ _) rfl ?_
        exact PieceB.no hbd.drew HN.out
  · have hno : ∀ k b z, ¬ PieceAt P a k b z := by
      intro k b z g
      have := g.read.1
      have := Hl.out
      omega
    have HN := Lib.hid hno
    have d1 : decide ((n : Int) - 7 < (a : Int)) = true := by simp; omega
    clear hno
    go_enter Tryd.func56, Tryd.ntmps56
    go_wp2
    exact bodyPost_ret (results_tmp4 rfl _ _ _) rfl (PieceB.no (Below.refl _ _) HN.out)
end Go.Proofs.YtpjinmiedanebaaDoor
