/-
  The reference's Open of a table. (Printed by gentabropen.py.) No condition but a size.
-/
import Derived.Test.YtpffieogkfndaaaGreatDoorJTabOpenRP
import Derived.Test.YtpffieogkfndaaaGreatDoorJTabOpenW
import Derived.Test.YtpffieogkfndaaaGreatDoorJTabBuildR
import Derived.Test.YtpffieogkfndaaaGreatDoorKeyReadR
import Derived.Test.YtpffieogkfndaaaGreatDoorJSetWalk
namespace Go.Proofs.YtpffieogkfndaaaGreatDoor
open Go.RowKit
set_option maxRecDepth 20000
set_option linter.unusedVariables false
set_option linter.unusedSimpArgs false
/-- p[lo:], and where it lies -/
theorem cutLB {w : World} {A : Option Addr} {n c : Nat} {l : List UInt8} (h : Sl w 1 A n c (bc l)) (q : IntKind) (i : Int) (lo : Nat) (ei : i = lo) (h2 : lo ≤ n) :
    ∃ A', (∀ w' : World, (Instr.slice 29 (.slice A n c) (some (.int q i)) none none).run Tryz.prog w' = .ok (.slice A' (n - lo) (c - lo)) w') ∧ Sl w 1 A' (n - lo) (c - lo) (bc (l.drop lo)) ∧ ∀ b, A'.map (·.block) = some b → A.map (·.block) = some b := by
  have hcap := h.cap
  have hl := h.lenb
  subst ei
  have e : (l.drop lo).take (n - lo) = l.drop lo := List.take_of_length_le (by simp; omega)
  obtain ⟨A', hr, h3, h4⟩ := cutLHB h q q lo n lo n rfl rfl h2 (Nat.le_refl _)
  rw [e] at h3
  refine ⟨A', fun w' => ?_, h3, h4⟩
  rw [← hr w', run_slice_lh (P := Tryz.prog) w' 29 A n c Tryz.underlying29 q q lo n (by omega) (by omega) (by omega),
    run_slice_l (P := Tryz.prog) w' 29 A n c Tryz.underlying29 q lo (by omega) (by omega)]
  simp only [Int.toNat_natCast]
/-- a box of two cells -/
structure RB (w : World) (g : Nat) (v0 v1 : Value) : Prop where
  c0 : w.cell? ⟨g, 0, none⟩ = some v0
  c1 : w.cell? ⟨g, 1, none⟩ = some v1
  fr : ∀ j : Nat, w.frozen? ⟨g, j, none⟩ = false
section
variable {w w' : World} {g : Nat} {v0 v1 : Value}
theorem RB.lt (h : RB w g v0 v1) : g < w.heap.size := World.block_lt_of_cell? _ _ h.c0
theorem RB.keep (h : RB w g v0 v1) (e : w'.heap[g]? = w.heap[g]?) : RB w' g v0 v1 :=
  ⟨(World.cell?_of_block (a := ⟨g, 0, none⟩) e).trans h.c0, (World.cell?_of_block (a := ⟨g, 1, none⟩) e).trans h.c1, fun j => (World.frozen?_of_block (a := ⟨g, j, none⟩) e).trans (h.fr j)⟩
theorem RB.below (h : RB w g v0 v1) (hb : Below w.heap.size w w') : RB w' g v0 v1 := h.keep (hb.block g h.lt)
theorem RB.grown (h : RB w g v0 v1) {row : Option Nat} (hg : w.grownBy w' row) (hne : ∀ b, row = some b → b ≠ g) : RB w' g v0 v1 := h.keep (hg.block g h.lt fun e => hne g e.symm rfl)
theorem RB.drew (h : RB w g v0 v1) : RB w.drew g v0 v1 := ⟨h.c0, h.c1, h.fr⟩
theorem RB.fresh (w : World) (v0 v1 : Value) (e : TypeId) : RB (w.alloc (.cells #[v0, v1] e)) w.heap.size v0 v1 := by
  have h := boxed (Below.refl _ _) (box1 w (.cells #[v0, v1] e))
  exact ⟨h.1 0 _ rfl, h.1 1 _ rfl, h.2⟩
theorem RB.set0 (h : RB w g v0 v1) (v : Value) : RB (w.setCell ⟨g, 0, none⟩ v) g v v1 := ⟨set_same h.c0 _, set_other h.c1 _ (by omega), fun j => by simp [h.fr]⟩
theorem RB.set1 (h : RB w g v0 v1) (v : Value) : RB (w.setCell ⟨g, 1, none⟩ v) g v0 v := ⟨set_other h.c0 _ (by omega), set_same h.c1 _, fun j => by simp [h.fr]⟩
end
theorem OwnZ.setAny {α : Type} [Rep α] {w : World} {B : Nat} {e : TypeId} {A : Option Addr} {n c : Nat} {ls : List α} (h : OwnZ w B e A n c ls) {g : Nat} (hg : g < B) (i : Nat) (v : Value) : OwnZ (w.setCell ⟨g, i, none⟩ v) B e A n c ls := by
  obtain ⟨xs, ho, hr⟩ := h
  exact ⟨xs, own_set ho hg v, hr.move fun b hl hp => ⟨Below.heap_setCell w _ v b (by have := hp.2; show b ≠ g; omega), hp⟩⟩
/-- every block from g on, but g itself and those from B on, lies as it lay -/
def Kept (g : Nat) (w w' : World) : Prop := w.heap.size ≤ w'.heap.size ∧ ∀ b, g < b → b < w.heap.size → w'.heap[b]? = w.heap[b]?
section
variable {g : Nat} {w w1 w2 : World}
theorem Kept.refl (g : Nat) (w : World) : Kept g w w := ⟨Nat.le_refl _, fun _ _ _ => rfl⟩
theorem Kept.below (h : Kept g w w1) (hb : Below w1.heap.size w1 w2) : Kept g w w2 := ⟨Nat.le_trans h.1 hb.size, fun b hg hl => (hb.block b (by have := h.1; omega)).trans (h.2 b hg hl)⟩
theorem Kept.grown (h : Kept g w w1) {row : Option Nat} (hg : w1.grownBy w2 row) (hr : ∀ b, row = some b → w.heap.size ≤ b) : Kept g w w2 :=
  ⟨Nat.le_trans h.1 hg.size, fun b h1 hl => (hg.block b (by have := h.1; omega) fun e => by have := hr b e.symm; omega).trans (h.2 b h1 hl)⟩
theorem Kept.set (h : Kept g w w1) (i : Nat) (v : Value) : Kept g w (w1.setCell ⟨g, i, none⟩ v) := ⟨by have := h.1; simp [World.setCell] at *; exact this, fun b h1 hl => (Below.heap_setCell w1 _ v b (by show b ≠ g; omega)).trans (h.2 b h1 hl)⟩
theorem Kept.row {α : Type} [Rep α] {A : Option Addr} {n c : Nat} {ls : List α} (h : SlR w (fun b => g < b) A n c ls) (k : Kept g w w1) : SlR w1 (fun b => g < b) A n c ls := h.move fun b hl hp => ⟨k.2 b hp hl, hp⟩
end
/-- four cells at four places hold four bytes -/
def FourA (b o0 o1 o2 o3 x0 x1 x2 x3 : Nat) (w : World) : Prop := w.cell? ⟨b, o0, none⟩ = some (.int .u8 (x0 : Int)) ∧ w.cell? ⟨b, o1, none⟩ = some (.int .u8 (x1 : Int)) ∧ w.cell? ⟨b, o2, none⟩ = some (.int .u8 (x2 : Int)) ∧ w.cell? ⟨b, o3, none⟩ = some (.int .u8 (x3 : Int))
/-- what is known behind some leaves -/
def LeafRel (w4 w1 : World) (g n0 : Nat) (r : Option (List EntL)) (iv lv : Value) (wr : World) : Prop :=
  ∃ (q lb : List UInt8) (m : Nat) (out : List EntL) (A1 : Option Addr) (n1 c1 : Nat) (Al : Option Addr) (nl cl : Nat) (A2 : Option Addr) (n2 c2 : Nat), iv = .slice A1 n1 c1 ∧ lv = .slice Al nl cl ∧ Below w4.heap.size w4 wr ∧ g < wr.heap.size ∧ RB wr g (.slice A2 n2 c2) (.slice none 0 0) ∧
    Sl wr 1 A1 n1 c1 (bc q) ∧ Sl wr 1 Al nl cl (bc lb) ∧ OwnZ wr (g + 1) 69 A2 n2 c2 out ∧ Hid ((parseR m q lb).map (out ++ ·) = r) ∧ Hid (q.length ≤ m) ∧ n2 + 64 * n1 ≤ 64 * n0 ∧ nl ≤ 65536 ∧
    Hid (∀ b, 0 < n1 → A1.map (·.block) = some b → blk A2 c2 ≠ some b ∧ b ≠ g) ∧ Hid (∀ b, 0 < nl → Al.map (·.block) = some b → b < w1.heap.size)
def SpanRelR (w4 w5 : World) (g n0 : Nat) (r : Option (List SpanL)) (v0 : Value) (iv : Value) (wr : World) : Prop :=
  ∃ (q : List UInt8) (m : Nat) (out : List SpanL) (A1 : Option Addr) (n1 c1 : Nat) (A2 : Option Addr) (n2 c2 : Nat), iv = .slice A1 n1 c1 ∧ Below w4.heap.size w4 wr ∧ Kept g w5 wr ∧ RB wr g v0 (.slice A2 n2 c2) ∧
    Sl wr 1 A1 n1 c1 (bc q) ∧ OwnZ wr w5.heap.size 72 A2 n2 c2 out ∧ Hid ((parseS m q).map (out ++ ·) = r) ∧ Hid (q.length ≤ m) ∧ n2 + n1 ≤ n0 ∧ Hid (∀ b, 0 < n1 → A1.map (·.block) = some b → blk A2 c2 ≠ some b ∧ b ≠ g)
set_option maxRecDepth 100000 in
/-- what the document's reading of a leaf gives: XLeafReadR.rlread_any says so -/
def RLReads : Prop := ∀ (w : World) (A : Option Addr) (n c : Nat) (p : List UInt8), Sl w 1 A n c (bc p) → n ≤ 65536 → Calls Tryz.prog 72 #[.slice A n c] w (GotEnts w (readLeafX true 65 p))
set_option maxHeartbeats 64000000 in
theorem rtopen_any (hrl : RLReads) (w : World) (A : Option Addr) (n c : Nat) (p : List UInt8) (h : Sl w 1 A n c (bc p)) (hn : n ≤ 65536) :
    Calls Tryz.prog 25 #[.slice A n c] w (GotRTab w p) := by
  have HRL := Lib.hid hrl
  clear hrl
  have hl := h.lenb
  have Hz : Hid (∀ b, 0 < n → A.map (·.block) = some b → b < w.heap.size) := Lib.hid fun b h0 q => h.lt (by omega) h0 b q
  by_cases h23 : n < 23
  case pos =>
    have HNO : Hid (NoTab p) := Lib.hid (noTab_short (by omega))
    have i1 : decide ((n : Int) < 23) = true := decide_eq_true (by omega)
    have hbr := Below.refl w.heap.size w
    clear hl h
    go_enter Tryz.func25, Tryz.ntmps25
    go_wp2
    go_ret2
    exact GotRTab.bad HNO.out hbr
  have i1 : decide ((n : Int) < 23) = false := decide_eq_false (by omega)
  obtain ⟨M, hM⟩ : ∃ M, n - 23 = M := ⟨_, rfl⟩
  have eM : (n : Int) - 23 = (M : Int) := by omega
  obtain ⟨AQ, rq, sq, -⟩ := cutL h .i64 (M : Int) M rfl (by omega)
  have ko := ropen_any w AQ (n - M) (c - M) (p.drop M) sq (by omega)
  unfold NewB2 at ko
  obtain ⟨⟨E, oe⟩, hO⟩ : ∃ O, openL (p.drop M) = O := ⟨_, rfl⟩
  rw [hO] at ko
  simp only at ko
  have hO2 : openL (p.drop (p.length - 23)) = (E, oe) := by rw [hl, hM]; exact hO
  have Ko := Lib.hid ko
  have HO := Lib.hid hO2
  have Hl := Lib.hid hl
  have HM := Lib.hid hM
  have hel : oe = 0 → E.length = 19 := fun q => by
    subst q
    have h1 := open_ok_len hO
    rw [List.length_drop] at h1
    omega
  have Hel := Lib.hid hel
  clear ko hO hO2 hl sq hM hel
  go_enter Tryz.func25, Tryz.ntmps25
  go_wp2_with fail
  refine Ko.out.mono ?_
  rintro e w1 ⟨A4, n4, c4, rfl, ho4, hbr⟩
  clear Ko
  by_cases hoe : oe = 0
  case neg =>
    have HNO : Hid (NoTab p) := Lib.hid (noTab_foot (by rw [HO.out]; exact hoe))
    have t1 : ((oe : Int) == 0) = false := by simp; omega
    have t2 : ((oe : Int) != 0) = true := by simp; omega
    clear HO Hel
    go_wp2
    go_ret2
    exact GotRTab.bad HNO.out hbr
  subst hoe
  have hE := Hel.out rfl
  have hn4 : n4 = 19 := by have := OwnB.len' ho4; omega
  subst hn4
  have s4 := OwnB.sl ho4
  clear Hel hE ho4
  go_wp2
  go_loopw [7, 8, 54] (fun av ov iv wr => SecRel w1 p E M ov av iv wr) (fun _ _ iv _ => 4 - (intOf iv).toNat)
  case atStart => exact ⟨0, 0, none, 0, 0, rfl, rfl, rfl, Nat.zero_le _, Lib.hid rfl, Nat.zero_le _, Below.refl _ _, OwnL.nil _ _ _ _ _⟩
  case round =>
    obtain ⟨i, a, A2, n2, c2, rfl, rfl, rfl, hi, Ha, haM, hbr2, ho2⟩ := hrel
    have hn2 : n2 = i := by have := ho2.lenR; simpa [secsN] using this.symm
    have hbw := hbr.trans (hbr2.mono hbr.size)
    by_cases hlt : i < 4
    case pos =>
      have s4 := s4.below (by omega) hbr2
      obtain ⟨j0, hj0⟩ : ∃ j0, 4 * i = j0 := ⟨_, rfl⟩
      obtain ⟨j1, hj1⟩ : ∃ j1, j0 + 1 = j1 := ⟨_, rfl⟩
      obtain ⟨j2, hj2⟩ : ∃ j2, j0 + 2 = j2 := ⟨_, rfl⟩
      obtain ⟨j3, hj3⟩ : ∃ j3, j0 + 3 = j3 := ⟨_, rfl⟩
      have e4 : (4 : Int) * (i : Int) = (j0 : Int) := by omega
      have e41 : (j0 : Int) + 1 = (j1 : Int) := by omega
      have e42 : (j0 : Int) + 2 = (j2 : Int) := by omega
      have e43 : (j0 : Int) + 3 = (j3 : Int) := by omega
      have e4w : IntKind.i64.wrap ((4 : Int) * (i : Int)) = (j0 : Int) := by rw [IntKind.wrap_i64]; omega
      have e41w : IntKind.i64.wrap ((j0 : Int) + 1) = (j1 : Int) := by rw [IntKind.wrap_i64]; omega
      have e42w : IntKind.i64.wrap ((j0 : Int) + 2) = (j2 : Int) := by rw [IntKind.wrap_i64]; omega
      have e43w : IntKind.i64.wrap ((j0 : Int) + 3) = (j3 : Int) := by rw [IntKind.wrap_i64]; omega
      have b0 : j0 < 19 := by omega
      have b1 : j1 < 19 := by omega
      have b2 : j2 < 19 := by omega
      have b3 : j3 < 19 := by omega
      have bi0 : (j0 : Int) < 19 := by omega
      have bi1 : (j1 : Int) < 19 := by omega
      have bi2 : (j2 : Int) < 19 := by omega
      have bi3 : (j3 : Int) < 19 := by omega
      have hlE := s4.lenb
      obtain ⟨qb, qo, y0, rfl, g0, l0, k0⟩ := s4.byte (k := j0) (by omega)
      obtain ⟨d1, o1, y1, hA1, g1, l1, k1⟩ := s4.byte (k := j1) (by omega)
      obtain ⟨d2, o2, y2, hA2, g2, l2, k2⟩ := s4.byte (k := j2) (by omega)
      obtain ⟨d3, o3, y3, hA3, g3, l3, k3⟩ := s4.byte (k := j3) (by omega)
      obtain ⟨rfl, rfl⟩ : qb = d1 ∧ qo = o1 := by simpa using hA1
      obtain ⟨rfl, rfl⟩ : qb = d2 ∧ qo = o2 := by simpa using hA2
      obtain ⟨rfl, rfl⟩ : qb = d3 ∧ qo = o3 := by simpa using hA3
      obtain ⟨N, hN⟩ : ∃ N, secN E i = N := ⟨_, rfl⟩
      have hNv : N = y0 + 256 * y1 + 65536 * y2 + 16777216 * y3 := by
        rw [← hN]
        unfold secN
        rw [hj0, hj1, hj2, hj3, getD_is (by omega) g0, getD_is (by omega) g1, getD_is (by omega) g2, getD_is (by omega) g3]
      have hX : FourA qb (qo + j0) (qo + j1) (qo + j2) (qo + j3) y0 y1 y2 y3 wr := ⟨k0, k1, k2, k3⟩
      have hw0 : IntKind.i64.wrap (y0 : Int) = (y0 : Int) := by rw [IntKind.wrap_i64]; omega
      have hw1 : IntKind.i64.wrap (y1 : Int) = (y1 : Int) := by rw [IntKind.wrap_i64]; omega
      have hw2 : IntKind.i64.wrap (y2 : Int) = (y2 : Int) := by rw [IntKind.wrap_i64]; omega
      have hw3 : IntKind.i64.wrap (y3 : Int) = (y3 : Int) := by rw [IntKind.wrap_i64]; omega
      obtain ⟨z1, hz1⟩ : ∃ z1, y0 + 256 * y1 = z1 := ⟨_, rfl⟩
      obtain ⟨z2, hz2⟩ : ∃ z2, z1 + 65536 * y2 = z2 := ⟨_, rfl⟩
      obtain ⟨yy1, hyy1⟩ : ∃ yy, 256 * y1 = yy := ⟨_, rfl⟩
      obtain ⟨yy2, hyy2⟩ : ∃ yy, 65536 * y2 = yy := ⟨_, rfl⟩
      obtain ⟨yy3, hyy3⟩ : ∃ yy, 16777216 * y3 = yy := ⟨_, rfl⟩
      have hm1 : (256 : Int) * (y1 : Int) = (yy1 : Int) := by omega
      have hmw1 : IntKind.i64.wrap ((256 : Int) * (y1 : Int)) = (yy1 : Int) := by rw [IntKind.wrap_i64]; omega
      have hm2 : (65536 : Int) * (y2 : Int) = (yy2 : Int) := by omega
      have hmw2 : IntKind.i64.wrap ((65536 : Int) * (y2 : Int)) = (yy2 : Int) := by rw [IntKind.wrap_i64]; omega
      have hm3 : (16777216 : Int) * (y3 : Int) = (yy3 : Int) := by omega
      have hmw3 : IntKind.i64.wrap ((16777216 : Int) * (y3 : Int)) = (yy3 : Int) := by rw [IntKind.wrap_i64]; omega
      have haz1 : (y0 : Int) + (yy1 : Int) = (z1 : Int) := by omega
      have hawz1 : IntKind.i64.wrap ((y0 : Int) + (yy1 : Int)) = (z1 : Int) := by rw [IntKind.wrap_i64]; omega
      have haz2 : (z1 : Int) + (yy2 : Int) = (z2 : Int) := by omega
      have hawz2 : IntKind.i64.wrap ((z1 : Int) + (yy2 : Int)) = (z2 : Int) := by rw [IntKind.wrap_i64]; omega
      have haN : (z2 : Int) + (yy3 : Int) = (N : Int) := by omega
      have hawN : IntKind.i64.wrap ((z2 : Int) + (yy3 : Int)) = (N : Int) := by rw [IntKind.wrap_i64]; omega
      have hvj0 : IntKind.i64.wrap (j0 : Int) = (j0 : Int) := by rw [IntKind.wrap_i64]; omega
      have hvj1 : IntKind.i64.wrap (j1 : Int) = (j1 : Int) := by rw [IntKind.wrap_i64]; omega
      have hvj2 : IntKind.i64.wrap (j2 : Int) = (j2 : Int) := by rw [IntKind.wrap_i64]; omega
      have hvj3 : IntKind.i64.wrap (j3 : Int) = (j3 : Int) := by rw [IntKind.wrap_i64]; omega
      have hvyy1 : IntKind.i64.wrap (yy1 : Int) = (yy1 : Int) := by rw [IntKind.wrap_i64]; omega
      have hvyy2 : IntKind.i64.wrap (yy2 : Int) = (yy2 : Int) := by rw [IntKind.wrap_i64]; omega
      have hvyy3 : IntKind.i64.wrap (yy3 : Int) = (yy3 : Int) := by rw [IntKind.wrap_i64]; omega
      have hvz1 : IntKind.i64.wrap (z1 : Int) = (z1 : Int) := by rw [IntKind.wrap_i64]; omega
      have hvz2 : IntKind.i64.wrap (z2 : Int) = (z2 : Int) := by rw [IntKind.wrap_i64]; omega
      have hvN : IntKind.i64.wrap (N : Int) = (N : Int) := by rw [IntKind.wrap_i64]; omega
      have hN32 : N < 4294967296 := by omega
      have HN := Lib.hid hN
      clear hN hNv hz1 hz2 hyy1 hyy2 hyy3 g0 g1 g2 g3 hA1 hA2 hA3 k0 k1 k2 k3 hlE s4 hj0 hj1 hj2 hj3
      go_wp2_with fail
      have hX : FourA qb (qo + j0) (qo + j1) (qo + j2) (qo + j3) y0 y1 y2 y3 wr.drew := hX
      have h := (h.below (by omega) hbw).drew
      have ho2 := ho2.below (Below.refl wr.heap.size wr).drew
      have hbr2 := hbr2.drew
      have hbw := hbw.drew
      generalize hW : wr.drew = wz at *
      refine regionF (fun _ wa wb => FourA qb (qo + j0) (qo + j1) (qo + j2) (qo + j3) y0 y1 y2 y3 wa → FourA qb (qo + j0) (qo + j1) (qo + j2) (qo + j3) y0 y1 y2 y3 wb) (by kernel_rfl) ?_
      rw [hW]
      clear hW
      refine takeT (i := 0) (v := ?_) rfl ?hy ?_
      case hy => intro wS; go_simp; try with_reducible rfl
      refine takeT (i := 1) (v := ?_) rfl ?hy ?_
      case hy => intro wS; go_simp; try with_reducible rfl
      refine takeT (i := 2) (v := ?_) rfl ?hy ?_
      case hy => intro wS; go_simp; try with_reducible rfl
      refine takeT (i := 3) (v := ?_) rfl ?hy ?_
      case hy => intro wS; go_simp; try with_reducible rfl
      refine takeP (i := 4) (v := ?_) rfl hX ?hy ?_
      case hy =>
        intro wS hSw
        obtain ⟨x0, x1, x2, x3⟩ := id hSw
        clear hSw
        go_simp
        try with_reducible rfl
      refine takeT (i := 5) (v := ?_) rfl ?hy ?_
      case hy => intro wS; go_simp; try with_reducible rfl
      refine takeT (i := 6) (v := ?_) rfl ?hy ?_
      case hy => intro wS; go_simp; try with_reducible rfl
      refine takeT (i := 7) (v := ?_) rfl ?hy ?_
      case hy => intro wS; go_simp; try with_reducible rfl
      refine takeT (i := 8) (v := ?_) rfl ?hy ?_
      case hy => intro wS; go_simp; try with_reducible rfl
      refine takeT (i := 9) (v := ?_) rfl ?hy ?_
      case hy => intro wS; go_simp; try with_reducible rfl
      refine takeT (i := 10) (v := ?_) rfl ?hy ?_
      case hy => intro wS; go_simp; try with_reducible rfl
      refine takeP (i := 11) (v := ?_) rfl hX ?hy ?_
      case hy =>
        intro wS hSw
        obtain ⟨x0, x1, x2, x3⟩ := id hSw
        clear hSw
        go_simp
        try with_reducible rfl
      refine takeT (i := 12) (v := ?_) rfl ?hy ?_
      case hy => intro wS; go_simp; try with_reducible rfl
      refine takeT (i := 13) (v := ?_) rfl ?hy ?_
      case hy => intro wS; go_simp; try with_reducible rfl
      refine takeT (i := 14) (v := ?_) rfl ?hy ?_
      case hy => intro wS; go_simp; try with_reducible rfl
      refine takeT (i := 15) (v := ?_) rfl ?hy ?_
      case hy => intro wS; go_simp; try with_reducible rfl
      refine takeT (i := 16) (v := ?_) rfl ?hy ?_
      case hy => intro wS; go_simp; try with_reducible rfl
      refine takeT (i := 17) (v := ?_) rfl ?hy ?_
      case hy => intro wS; go_simp; try with_reducible rfl
      refine takeT (i := 18) (v := ?_) rfl ?hy ?_
      case hy => intro wS; go_simp; try with_reducible rfl
      refine takeT (i := 19) (v := ?_) rfl ?hy ?_
      case hy => intro wS; go_simp; try with_reducible rfl
      refine takeP (i := 20) (v := ?_) rfl hX ?hy ?_
      case hy =>
        intro wS hSw
        obtain ⟨x0, x1, x2, x3⟩ := id hSw
        clear hSw
        go_simp
        try with_reducible rfl
      refine takeT (i := 21) (v := ?_) rfl ?hy ?_
      case hy => intro wS; go_simp; try with_reducible rfl
      refine takeT (i := 22) (v := ?_) rfl ?hy ?_
      case hy => intro wS; go_simp; try with_reducible rfl
      refine takeT (i := 23) (v := ?_) rfl ?hy ?_
      case hy => intro wS; go_simp; try with_reducible rfl
      refine takeT (i := 24) (v := ?_) rfl ?hy ?_
      case hy => intro wS; go_simp; try with_reducible rfl
      refine takeT (i := 25) (v := ?_) rfl ?hy ?_
      case hy => intro wS; go_simp; try with_reducible rfl
      refine takeT (i := 26) (v := ?_) rfl ?hy ?_
      case hy => intro wS; go_simp; try with_reducible rfl
      refine takeT (i := 27) (v := ?_) rfl ?hy ?_
      case hy => intro wS; go_simp; try with_reducible rfl
      refine takeT (i := 28) (v := ?_) rfl ?hy ?_
      case hy => intro wS; go_simp; try with_reducible rfl
      refine takeP (i := 29) (v := ?_) rfl hX ?hy ?_
      case hy =>
        intro wS hSw
        obtain ⟨x0, x1, x2, x3⟩ := id hSw
        clear hSw
        go_simp
        try with_reducible rfl
      refine takeT (i := 30) (v := ?_) rfl ?hy ?_
      case hy => intro wS; go_simp; try with_reducible rfl
      refine takeT (i := 31) (v := ?_) rfl ?hy ?_
      case hy => intro wS; go_simp; try with_reducible rfl
      refine takeT (i := 32) (v := ?_) rfl ?hy ?_
      case hy => intro wS; go_simp; try with_reducible rfl
      refine takeT (i := 33) (v := ?_) rfl ?hy ?_
      case hy => intro wS; go_simp; try with_reducible rfl
      try simp only [List.getElem_toArray, List.getElem_cons_succ, List.getElem_cons_zero, Act.put, List.setIfInBounds_toArray, List.set_cons_zero, List.set_cons_succ]
      refine doneF (by kernel_rfl) ?_ _
      try simp only [List.getElem_toArray, List.getElem_cons_succ, List.getElem_cons_zero, Act.put, List.setIfInBounds_toArray, List.set_cons_zero, List.set_cons_succ]
      by_cases hov : M - a < N
      case pos =>
        have HNO : Hid (NoTab p) := Lib.hid (noTab_at HO.out (by
          have h1 := secAt_succ E i
          have h2 := secAt_le E (i + 1) (3 - i)
          rw [show i + 1 + (3 - i) = 4 by omega] at h2
          have h3 := Ha.out
          have h4 := HN.out
          have h5 := Hl.out
          have h6 := HM.out
          omega))
        have d1 : decide (((M : Int) - (a : Int)) < (N : Int)) = true := decide_eq_true (by omega)
        clear HO Ha HN ho2 h
        go_wp2
        go_ret2
        exact GotRTab.bad HNO.out hbw
      have d1 : decide (((M : Int) - (a : Int)) < (N : Int)) = false := decide_eq_false (by omega)
      obtain ⟨a2, ha2⟩ : ∃ a2, a + N = a2 := ⟨_, rfl⟩
      have ea2 : (a : Int) + (N : Int) = (a2 : Int) := by omega
      have hMn := HM.out
      obtain ⟨AS, rS, sS, bS⟩ := cutLHB h .i64 .i64 (a : Int) (a2 : Int) a a2 rfl rfl (by omega) (by omega)
      rw [show a2 - a = N by omega] at rS sS
      have hblk : ∀ b, 0 < N → AS.map (·.block) = some b → b < w1.heap.size := fun b h0 q => by
        have := Hz.out b (by omega) (bS b q)
        have := hbr.size
        omega
      have hrow := userRow wz w1.heap.size AS N (c - a) _ sS hblk 29
      have al := (Below.refl wz.heap.size wz).alloc (Nat.le_refl _) (.cells #[.slice AS N (c - a)] 29)
      have ho2 := ho2.below al
      have hbr2 := hbr2.trans (al.mono hbr2.size)
      have HA2 : Hid (secAt E (i + 1) = a2) := Lib.hid (by rw [secAt_succ, Ha.out, HN.out, ha2])
      have hst := secsN_succ p E i
      rw [Ha.out, HN.out] at hst
      have Hst := Lib.hid hst
      clear hst al sS hX h hbw
      go_wp2_with (at_builtin; refine wpList_appL (α := List UInt8) _ rfl (.tmp 98) (.tmp 105) 78 rfl w1.heap.size w1.heap.size 29 _ 24 Tryz.underlying78 infoP rfl A2 n2 c2 _ rfl ho2 _ 1 1 [(p.drop a).take N] rfl hrow ?_ ?_ ?_ (Nat.le_refl _) ?_)
      · unfold maxLen; omega
      · omega
      · have := hbr2.size; rw [World.size_alloc] at this; omega
      intro A9 c9 w9 ho9 hg9 _
      have hbr9 := hbr2.grown hg9 hbr2.size (fun b hb => (ho2.lt b hb).1)
      rw [← Hst.out] at ho9
      clear hrow ho2 hg9
      go_wp2
      go_roundw
      case rel => exact ⟨i + 1, a2, A9, _, c9, by go_num, rfl, rfl, by omega, HA2, by omega, hbr9, ho9⟩
      case measure => simp [intOf]; omega
    obtain rfl : i = 4 := by omega
    subst hn2
    obtain ⟨pA, pB, pC, pD, hsec, lA, lB, lD⟩ := secsN_four p E
    obtain ⟨xs, hox, hrr⟩ := ho2
    rw [hsec] at hrr
    obtain ⟨_, _, rfl, ⟨v0, rfl, A0, n0, c0, rfl, sA, uA⟩, _, _, rfl, ⟨v1, rfl, A1, n1, c1, rfl, sB, uB⟩, _, _, rfl, ⟨v2', rfl, _⟩, _, _, rfl, ⟨v3, rfl, A3, n3, c3, rfl, sD, uD⟩, _⟩ := hrr
    have sv := Own.sl hox
    obtain ⟨gp, op, _, eA, hu, d0⟩ := sv.cell (k := 0) (by omega)
    obtain ⟨gp1, op1, _, eA1, hu1, d1⟩ := sv.cell (k := 1) (by omega)
    obtain ⟨gp3, op3, _, eA3, hu3, d3⟩ := sv.cell (k := 3) (by omega)
    subst eA
    obtain ⟨rfl, rfl⟩ : gp = gp1 ∧ op = op1 := by simpa using eA1
    obtain ⟨rfl, rfl⟩ : gp = gp3 ∧ op = op3 := by simpa using eA3
    simp at hu hu1 hu3
    subst hu hu1 hu3
    rw [Nat.add_zero] at d0
    rw [Hl.out] at lA lB lD
    have nA := sA.lenb
    have nB := sB.lenb
    have nD := sD.lenb
    have Hsec := Lib.hid hsec
    have UA := Lib.hid uA
    obtain ⟨⟨iB, eB⟩, hOB⟩ : ∃ O, openL pB = O := ⟨_, rfl⟩
    obtain ⟨⟨iD, eD⟩, hOD⟩ : ∃ O, openL pD = O := ⟨_, rfl⟩
    have lB2 := open_len pB
    have lD2 := open_len pD
    have k1 := ropen_any wr A1 n1 c1 pB sB (by omega)
    have k3 := fun w' (h : Sl w' 1 A3 n3 c3 (bc pD)) => ropen_any w' A3 n3 c3 pD h (by omega)
    rw [hOB] at lB2 k1
    rw [hOD] at lD2 k3
    simp only at lB2 lD2 k1 k3
    unfold NewB2 at k1 k3
    have K1 := Lib.hid k1
    have K3 := Lib.hid k3
    have HB := Lib.hid hOB
    have HD := Lib.hid hOD
    have hbr := hbw
    have h := h.below (by omega) hbw
    have hr1 := hbr2.size
    clear k1 k3 hOB hOD hsec uA uB uD eA1 eA3 sB sv hox s4 hbw hbr2 Ha hlt hi haM
    obtain ⟨w2, hw2⟩ : ∃ w2 : World, w2 = wr := ⟨_, rfl⟩
    subst hw2
    go_wp2_with fail
    refine K1.out.mono ?_
    rintro e w3 ⟨A5, n5, c5, rfl, ho5, hb⟩
    have s5 := OwnB.sl ho5
    have h := h.below (by omega) hb
    have sA := sA.below (by omega) hb
    have sD := sD.below (by omega) hb
    have d0 := stays hb d0
    have d3 := stays hb d3
    have hbr := hbr.trans (hb.mono hbr.size)
    have hr3 := Nat.le_trans hr1 hb.size
    clear K1 hb ho5 d1
    go_wp2_with fail
    refine (K3.out w3 sD).mono ?_
    rintro e w4 ⟨A7, n7, c7, rfl, ho7, hb⟩
    have s7 := OwnB.sl ho7
    have h := h.below (by omega) hb
    have sA := sA.below (by omega) hb
    have d0 := stays hb d0
    have hbr := hbr.trans (hb.mono hbr.size)
    have s5 := s5.below (by omega) hb
    have hr4 := Nat.le_trans hr3 hb.size
    clear K3 hb ho7 sD d3
    have hl5 := s5.lenb
    have hl7 := s7.lenb
    by_cases z1 : eB = 0
    case neg =>
      have HNO : Hid (NoTab p) := Lib.hid (noTabR_open HO.out Hsec.out (.inl (by rw [HB.out]; exact z1)))
      have t1 : ((eB : Int) == 0) = false := by simp; omega
      have t2 : ((eB : Int) != 0) = true := by simp; omega
      clear HB HD Hsec HO
      go_wp2
      go_ret2
      exact GotRTab.bad HNO.out hbr
    subst z1
    by_cases z3 : eD = 0
    case neg =>
      have HNO : Hid (NoTab p) := Lib.hid (noTabR_open HO.out Hsec.out (.inr (by rw [HD.out]; exact z3)))
      have t1 : ((eD : Int) == 0) = false := by simp; omega
      have t2 : ((eD : Int) != 0) = true := by simp; omega
      clear HB HD Hsec HO
      go_wp2
      go_ret2
      exact GotRTab.bad HNO.out hbr
    subst z3
    have hB5 : n5 ≤ 65536 := by omega
    have hB7 : n7 ≤ 65536 := by omega
    have hBA : n0 ≤ 65536 := by omega
    have hsl : iD.length ≤ 65536 := by omega
    clear lA lB lD nA nB nD lB2 lD2 hl7
    obtain ⟨r, hr⟩ : ∃ r, parseR iB.length iB pA = r := ⟨_, rfl⟩
    obtain ⟨r2, hr2⟩ : ∃ r, spansL iD = r := ⟨_, rfl⟩
    have HN1 : Hid (r = none → NoTab p) := Lib.hid fun q => noTabR_parse HO.out Hsec.out (.inl (by rw [HB.out]; show parseR iB.length iB pA = none; rw [hr]; exact q))
    have HN2 : Hid (r2 = none → NoTab p) := Lib.hid fun q => noTabR_parse HO.out Hsec.out (.inr (by rw [HD.out]; show spansL iD = none; rw [hr2]; exact q))
    have HN3 : Hid (∀ l sp, r = some l → r2 = some sp → ((tabBE l sp).2 ≠ 0 ∨ (tabBE l sp).1 ≠ p) → NoTab p) := Lib.hid fun l sp q1 q2 hz => noTabR_build HO.out Hsec.out (by rw [HB.out]; show parseR iB.length iB pA = some l; rw [hr]; exact q1) (by rw [HD.out]; show spansL iD = some sp; rw [hr2]; exact q2) hz
    have hr0 : (parseR iB.length iB pA).map (([] : List EntL) ++ ·) = r := by rw [hr]; cases r <;> simp
    have Hr0 := Lib.hid hr0
    have Hr2 := Lib.hid hr2
    have l5 := s5.lt (by omega)
    have l7 := s7.lt (by omega)
    have hgw := hbr.size
    have hb := (Below.refl w4.heap.size w4).alloc (Nat.le_refl _) (.cells #[.slice none 0 0, .slice none 0 0] 64)
    have kT := RB.fresh w4 (.slice none 0 0) (.slice none 0 0) 64
    obtain ⟨g, hg⟩ : ∃ g, w4.heap.size = g := ⟨_, rfl⟩
    rw [hg] at kT l5 l7 hgw hr4
    have L5 : Hid (∀ b, 0 < n5 → A5.map (·.block) = some b → blk none 0 ≠ some b ∧ b ≠ g) := Lib.hid fun b hn q => ⟨fun e => by simp [blk] at e, fun e => by have := l5 hn b q; omega⟩
    have L7 : Hid (∀ b, 0 < n7 → A7.map (·.block) = some b → b < g) := Lib.hid fun b hn q => l7 hn b q
    have d0 := stays hb d0
    have s5 := s5.below (by omega) hb
    have sA := sA.below (by omega) hb
    have hb0 : Below w4.heap.size w4 (w4.alloc (.cells #[.slice none 0 0, .slice none 0 0] 64)) := hb
    have hgl := kT.lt
    generalize hW : (w4.alloc (.cells #[.slice none 0 0, .slice none 0 0] 64)) = w5 at *
    clear hb hr hr0 hr2 l5 l7 hl5
    go_wp2_with fail
    try rw [hW]
    try rw [hg]
    clear hW d0
    go_loopw [11, 16] (LeafRel w4 w1 g n5 r) (fun iv _ _ => (match iv with | .slice _ k _ => k | _ => 0))
    case atStart => exact ⟨iB, pA, iB.length, [], A5, n5, c5, A0, n0, c0, none, 0, 0, rfl, rfl, hb0, hgl, kT, s5, sA, OwnZ.nil _ _ _ _, Hr0.out, Nat.le_refl _, by omega, hBA, L5.out, UA.out⟩
    case round =>
      clear kT s5 sA hb0 hgl Hr0 L5
      obtain ⟨q, lb, m, out, Ai, ni, ci, Al, nl, cl, A2, n2, c2, rfl, rfl, hbr4, hgl, kB0, hq, hL, ho2, HP, HM, hnn, hnl, HU, HL⟩ := hrel
      have hql := hq.lenb
      have hout := ho2.lenR
      have hbw := hbr.trans (hbr4.mono (by omega))
      by_cases hz : ni = 0
      case pos =>
        subst hz
        have hq0 : q = [] := List.length_eq_zero_iff.1 hql
        have er : r = some out := by
          rw [← HP.out, hq0]
          cases m <;> simp [parseR]
        subst er
        have hE1 : SlR wr (fun b => g < b) A2 n2 c2 out := ho2.slB.mono fun b _ hb => hb
        have s7 := s7.below (by omega) hbr4
        have hr20 : (parseS iD.length iD).map (([] : List SpanL) ++ ·) = r2 := by
          have h1 := Hr2.out
          unfold spansL at h1
          rw [h1]
          cases r2 <;> simp
        have Hr20 := Lib.hid hr20
        have U7 : Hid (∀ b, 0 < n7 → A7.map (·.block) = some b → blk none 0 ≠ some b ∧ b ≠ g) := Lib.hid fun b hn q => ⟨fun e => by simp [blk] at e, fun e => by have := L7.out b hn q; omega⟩
        obtain ⟨w6, hw6⟩ : ∃ w6 : World, w6 = wr := ⟨_, rfl⟩
        subst hw6
        have hgw6 := kB0.lt
        clear hr20 HP HM HL HU HN1 L7 Hr2 hq0 hq hL ho2 hql hout hnn hnl UA
        go_wp2
        go_loopw [13] (SpanRelR w4 w6 g n7 r2 (.slice A2 n2 c2)) (fun iv _ => (match iv with | .slice _ k _ => k | _ => 0))
        case atStart => exact ⟨iD, iD.length, [], A7, n7, c7, none, 0, 0, rfl, hbr4, Kept.refl _ _, kB0, s7, OwnZ.nil _ _ _ _, Hr20.out, Nat.le_refl _, by omega, U7.out⟩
        case round =>
          clear kB0 s7 hbr4 hbw Hr20 U7
          obtain ⟨q, m, out2, Ai, ni, ci, A22, n22, c22, rfl, hbr5, hk5, kB0, hq, ho3, HP, HM, hnn, HU⟩ := hrel
          have hql := hq.lenb
          have hout := ho3.lenR
          have hbw := hbr.trans (hbr5.mono (by omega))
          by_cases hz : ni = 0
          case pos =>
            subst hz
            have hq0 : q = [] := List.length_eq_zero_iff.1 hql
            have er : r2 = some out2 := by
              rw [← HP.out, hq0]
              cases m <;> simp [parseS]
            subst er
            have hE2 : SlR wr (fun b => g < b) A2 n2 c2 out := Kept.row hE1 hk5
            have hS2 : SlR wr (fun b => w6.heap.size ≤ b) A22 n22 c22 out2 := ho3.slB
            have h := h.below (by omega) hbr5
            have hk6 := hk5.1
            clear HP HM HU HN2 hq ho3 hq0 hql hout hbr5 hE1
            have kb := fun (w' : World) (h : SlR w' (fun b => g < b) A2 n2 c2 out) (h' : SlR w' (fun b => w6.heap.size ≤ b) A22 n22 c22 out2) => rtbuild_any w' _ A2 n2 c2 out h _ A22 n22 c22 out2 h'
            obtain ⟨⟨qb, qe⟩, hBE⟩ : ∃ O, tabBE out out2 = O := ⟨_, rfl⟩
            rw [hBE] at kb
            unfold GotBE at kb
            simp only at kb
            have Kb := Lib.hid kb
            have HBE := Lib.hid hBE
            clear kb hBE
            go_wp2_with fail
            have hX := kB0.drew
            have bd := (Below.refl wr.heap.size wr).drew
            have hE2 := hE2.below bd
            have hS2 := hS2.below bd
            have h := h.drew
            have hbw := hbw.drew
            clear bd kB0
            generalize hW : wr.drew = wz at *
            refine regionF (fun _ wa wb => RB wa g (.slice A2 n2 c2) (.slice A22 n22 c22) → RB wb g (.slice A2 n2 c2) (.slice A22 n22 c22)) (by kernel_rfl) ?_
            rw [hW]
            clear hW
            refine takeT (i := 0) (v := ?_) rfl ?hy ?_
            case hy => intro wS; go_simp; try with_reducible rfl
            refine takeT (i := 1) (v := ?_) rfl ?hy ?_
            case hy => intro wS; go_simp; try with_reducible rfl
            refine takeT (i := 2) (v := ?_) rfl ?hy ?_
            case hy => intro wS; go_simp; try with_reducible rfl
            refine takeP (i := 3) (v := ?_) rfl hX ?hy ?_
            case hy =>
              intro wS hSw
              obtain ⟨x0, x1, x2⟩ := id hSw
              clear hSw
              go_simp
              try with_reducible rfl
            refine takeT (i := 4) (v := ?_) rfl ?hy ?_
            case hy => intro wS; go_simp; try with_reducible rfl
            refine takeT (i := 5) (v := ?_) rfl ?hy ?_
            case hy => intro wS; go_simp; try with_reducible rfl
            refine takeT (i := 6) (v := ?_) rfl ?hy ?_
            case hy => intro wS; go_simp; try with_reducible rfl
            refine takeP (i := 7) (v := ?_) rfl hX ?hy ?_
            case hy =>
              intro wS hSw
              obtain ⟨x0, x1, x2⟩ := id hSw
              clear hSw
              go_simp
              try with_reducible rfl
            try simp only [List.getElem_toArray, List.getElem_cons_succ, List.getElem_cons_zero, Act.put, List.setIfInBounds_toArray, List.set_cons_zero, List.set_cons_succ]
            refine readyF (rs := [8]) (by kernel_rfl) (by simp) ?_
            refine AllF.cons rfl (fun K hK => ?_) AllF.nil
            go_simp
            refine (Kb.out wz hE2 hS2).mono ?_
            rintro e wz_8 ⟨A13, n13, c13, rfl, ho13, hb⟩
            refine hK _ _ (fun h => h.below hb) ?_
            clear hK K
            have hX := hX.below hb
            have hE2 := hE2.below hb
            have hS2 := hS2.below hb
            have h := h.below (by omega) hb
            have hbw := hbw.trans (hb.mono hbw.size)
            clear hb Kb
            refine takeT (i := 9) (v := ?_) rfl ?hy ?_
            case hy => intro wS; go_simp; try with_reducible rfl
            refine takeT (i := 10) (v := ?_) rfl ?hy ?_
            case hy => intro wS; go_simp; try with_reducible rfl
            refine takeT (i := 11) (v := ?_) rfl ?hy ?_
            case hy => intro wS; go_simp; try with_reducible rfl
            refine takeT (i := 12) (v := ?_) rfl ?hy ?_
            case hy => intro wS; go_simp; try with_reducible rfl
            refine takeT (i := 13) (v := ?_) rfl ?hy ?_
            case hy => intro wS; go_simp; try with_reducible rfl
            try simp only [List.getElem_toArray, List.getElem_cons_succ, List.getElem_cons_zero, Act.put, List.setIfInBounds_toArray, List.set_cons_zero, List.set_cons_succ]
            refine doneF (by kernel_rfl) ?_ _
            try simp only [List.getElem_toArray, List.getElem_cons_succ, List.getElem_cons_zero, Act.put, List.setIfInBounds_toArray, List.set_cons_zero, List.set_cons_succ]
            have s13 := OwnB.sl ho13
            have hyes : qe = 0 → qb = p → checkTabL out out2 = 0 ∧ tabBytesL out out2 = p := fun h0 h1 => by
              have h2 := HBE.out
              unfold tabBE at h2
              split at h2
              · rename_i hc
                exact ⟨hc, (Prod.mk.inj h2).1.trans h1⟩
              · rename_i hc
                exact absurd ((Prod.mk.inj h2).2.trans h0) hc
            have HY := Lib.hid hyes
            clear hyes ho13
            by_cases z8 : qe = 0
            case neg =>
              have HNO : Hid (NoTab p) := Lib.hid (HN3.out _ _ rfl rfl (.inl (by rw [HBE.out]; exact z8)))
              have t1 : ((qe : Int) == 0) = false := by simp; omega
              have t2 : ((qe : Int) != 0) = true := by simp; omega
              clear HBE HY HN3 hE2 hS2
              go_wp2
              go_ret2
              exact GotRTab.bad HNO.out hbw
            subst z8
            obtain ⟨eb, heb⟩ : ∃ eb, (qb == p) = eb := ⟨_, rfl⟩
            have Heb := Lib.hid heb
            clear heb
            go_wp2_with fail
            refine (same_is _ A13 n13 c13 qb A n c p eb Heb s13 h).mono ?_
            rintro e w' ⟨rfl, rfl⟩
            cases eb
            case false =>
              have HNO : Hid (NoTab p) := Lib.hid (HN3.out _ _ rfl rfl (.inr (by rw [HBE.out]; show qb ≠ p; have := Heb.out; simpa using this)))
              clear HBE HY HN3 hE2 hS2
              go_wp2
              go_ret2
              exact GotRTab.bad HNO.out hbw
            obtain ⟨y1, y2⟩ := HY.out (by first | trivial | rfl) (by have := Heb.out; simpa using this)
            have hT : RTabIs wz_8 w.heap.size g out out2 := ⟨hgw, A2, n2, c2, A22, n22, c22, hX.c0, hX.c1, hE2.mono fun b _ hb => by have h2 : g < b := hb; omega, hS2.mono fun b _ hb => by have h2 : w6.heap.size ≤ b := hb; omega⟩
            have HT := Lib.hid hT
            have Y1 := Lib.hid y1
            have Y2 := Lib.hid y2
            clear HBE HY HN3 hE2 hS2 hT y1 y2
            go_wp2
            go_ret2
            exact ⟨hbw, .inl ⟨g, out, out2, Y1.out, Y2.out, rfl, HT.out⟩⟩
          have hq1 : q ≠ [] := fun e => by rw [e] at hql; simp at hql; omega
          obtain ⟨m, rfl⟩ : ∃ m', m = m' + 1 := ⟨m - 1, by have := HM.out; omega⟩
          have hp := HP.out
          unfold parseS at hp
          rw [if_neg hq1] at hp
          have ht1 := takeText_len q 64
          have ht2 := takeText_len (takeTextL q 64).2.1 64
          have ht3 := take_less (takeTextL (takeTextL q 64).2.1 64).2.1
          have hu := takeL_u64 (takeTextL (takeTextL q 64).2.1 64).2.1
          have k1 := rtaketext_new wr Ai ni ci q hq (by omega) 64 (by omega)
          have k2 := fun w' A n c (h : Sl w' 1 A n c (bc (takeTextL q 64).2.1)) hn => rtaketext_new w' A n c _ h hn 64 (by omega)
          have k3 := fun w' A n c (h : Sl w' 1 A n c (bc (takeTextL (takeTextL q 64).2.1 64).2.1)) hn => rtake_any w' A n c _ h hn
          unfold TookN at k1 k2
          unfold TookB at k3
          generalize takeL (takeTextL (takeTextL q 64).2.1 64).2.1 = T3 at *
          generalize takeTextL (takeTextL q 64).2.1 64 = T2 at *
          generalize takeTextL q 64 = T1 at *
          obtain ⟨lo, r1, e1⟩ := T1
          obtain ⟨hi, r2', e2⟩ := T2
          obtain ⟨sq, r3, e3⟩ := T3
          simp only at *
          have Hp := Lib.hid hp
          have K1 := Lib.hid k1
          have K2 := Lib.hid k2
          have K3 := Lib.hid k3
          have Hu := Lib.hid hu
          have Ht1 := Lib.hid ht1
          have Ht2 := Lib.hid ht2
          have Ht3 := Lib.hid ht3
          clear hp k1 k2 k3 hu ht1 ht2 ht3 hq1 HP
          go_wp2_with fail
          refine K1.out.mono ?_
          rintro e w7 ⟨A3, n3, c3, A4', n4', c4', rfl, s3, s4', hb, N3, -⟩
          have hn4 : n4' ≤ 1000000 := by have := s4'.lenb; have := Ht1.out; omega
          have hk5' := hk5
          have hlt2 : ∀ b, blk A22 c22 = some b → b < wr.heap.size := fun b q => (ho3.lt b q).2
          have hww := hb.size
          have kB0 := kB0.below hb
          have ho3 := ho3.below hb
          have hbr5 := hbr5.trans (hb.mono hbr5.size)
          have hbw := hbw.trans (hb.mono hbw.size)
          have hk5' := hk5'.below hb
          clear K1 hb
          go_wp2_with fail
          refine (K2.out w7 A4' n4' c4' s4' (by omega)).mono ?_
          rintro e w8 ⟨A5', n5', c5', A6, n6, c6, rfl, s5, s6, hb, N5, -⟩
          have hn6 : n6 ≤ 1000000 := by have := s6.lenb; have := Ht2.out; have := s4'.lenb; omega
          have s3 := s3.below (by omega) hb
          have hbw2 := hb.size
          have kB0 := kB0.below hb
          have ho3 := ho3.below hb
          have hbr5 := hbr5.trans (hb.mono hbr5.size)
          have hbw := hbw.trans (hb.mono hbw.size)
          have hk5' := hk5'.below hb
          clear K2 hb
          go_wp2_with fail
          refine (K3.out w8 A6 n6 c6 s6 (by omega)).mono ?_
          rintro e w9 ⟨A8, n8, c8, rfl, ho8, hb⟩
          have s3 := s3.below (by omega) hb
          have s5 := s5.below (by omega) hb
          have kB0 := kB0.below hb
          have ho3 := ho3.below hb
          have hbr5 := hbr5.trans (hb.mono hbr5.size)
          have hbw := hbw.trans (hb.mono hbw.size)
          have hk5' := hk5'.below hb
          have s8 := OwnB.sl ho8
          have u8 := fun (b : Nat) (hn : 0 < n8) q => own_at (b := b) ho8 hn q
          have l4 := s4'.lenb
          have l6 := s6.lenb
          have l8 := s8.lenb
          clear K3 hb ho8 s4' s6
          by_cases g1 : e1 = 0
          case neg =>
            have er : r2 = none := by
              have h1 := Hp.out
              rw [if_pos (by omega)] at h1
              exact h1.symm
            have HNO : Hid (NoTab p) := Lib.hid (HN2.out er)
            have t1 : ((e1 : Int) == 0) = false := by simp; omega
            have t2 : ((e1 : Int) != 0) = true := by simp; omega
            clear Hp Ht1 Ht2 Ht3 Hu HN2 HN3 HM ho3 HU
            go_wp2
            go_ret2
            exact GotRTab.bad HNO.out hbw
          subst g1
          by_cases g2 : e2 = 0
          case neg =>
            have er : r2 = none := by
              have h1 := Hp.out
              rw [if_pos (by omega)] at h1
              exact h1.symm
            have HNO : Hid (NoTab p) := Lib.hid (HN2.out er)
            have t1 : ((e2 : Int) == 0) = false := by simp; omega
            have t2 : ((e2 : Int) != 0) = true := by simp; omega
            clear Hp Ht1 Ht2 Ht3 Hu HN2 HN3 HM ho3 HU
            go_wp2
            go_ret2
            exact GotRTab.bad HNO.out hbw
          subst g2
          by_cases g3 : e3 = 0
          case neg =>
            have er : r2 = none := by
              have h1 := Hp.out
              rw [if_pos (by omega)] at h1
              exact h1.symm
            have HNO : Hid (NoTab p) := Lib.hid (HN2.out er)
            have t1 : ((e3 : Int) == 0) = false := by simp; omega
            have t2 : ((e3 : Int) != 0) = true := by simp; omega
            clear Hp Ht1 Ht2 Ht3 Hu HN2 HN3 HM ho3 HU
            go_wp2
            go_ret2
            exact GotRTab.bad HNO.out hbw
          subst g3
          have hp := Hp.out
          rw [if_neg (by omega)] at hp
          have hn8 : n8 < ni := by have := Ht1.out; have := Ht2.out; have := Ht3.out (by first | trivial | rfl); omega
          have hm8 : r3.length ≤ m := by have := HM.out; omega
          have hnew : (parseS m r3).map ((out2 ++ [⟨lo, hi, UInt64.ofNat sq⟩]) ++ ·) = r2 := by
            rw [← hp, Option.map_map]
            congr 1
            funext l
            simp
          have hz6 : w6.heap.size ≤ wr.heap.size := hk5.1
          have hz6' := hk5'.1
          have hrow := spanRow w9 ⟨lo, hi, UInt64.ofNat sq⟩ sq Hu.out (fun b => blk A22 c22 ≠ some b ∧ w6.heap.size ≤ b) A3 n3 c3 A5' n5' c5' s3 (fun b hn q => by
            have h1 := N3 b hn q
            exact ⟨fun r => by have := hlt2 b r; omega, by omega⟩) s5 (fun b hn q => by
            have h1 := N5 b hn q
            exact ⟨fun r => by have := hlt2 b r; omega, by omega⟩) 72
          have hb := (Below.refl w9.heap.size w9).alloc (Nat.le_refl _) (.cells #[.slice A3 n3 c3, .slice A5' n5' c5', .int .u64 (sq : Int)] 72)
          obtain ⟨x0, x1, x2⟩ := id kB0
          have s8 := s8.below (by omega) hb
          have kB0 := kB0.below hb
          have ho3 := ho3.below hb
          have hbr5 := hbr5.trans (hb.mono hbr5.size)
          have hbw := hbw.trans (hb.mono hbw.size)
          have hk5' := hk5'.below hb
          have Hnew := Lib.hid hnew
          have Hm8 := Lib.hid hm8
          have hn22 : n22 + 1 ≤ 1000000 := by omega
          have h8s : ∀ b, 0 < n8 → A8.map (·.block) = some b → b < (w9.alloc (.cells #[.slice A3 n3 c3, .slice A5' n5' c5', .int .u64 (sq : Int)] 72)).heap.size := fun b hn q => s8.lt (by omega) hn b q
          have h2s : ∀ b, blk A22 c22 = some b → w6.heap.size ≤ b := fun b q => (ho3.lt b q).1
          have hz9 : w6.heap.size ≤ (w9.alloc (.cells #[.slice A3 n3 c3, .slice A5' n5' c5', .int .u64 (sq : Int)] 72)).heap.size := hk5'.1
          clear hp hnew hm8 hb s3 s5 Hp Hu Ht1 Ht2 Ht3 HM N3 N5 hq l4 l6 l8 hql hout
          go_wp2_with (at_builtin; refine wpList_appZ _ rfl (.tmp 234) (.tmp 239) 23 rfl w6.heap.size 72 _ 56 Tryz.underlying23 infoSpan rfl A22 n22 c22 _ rfl ho3 _ 1 1 [⟨lo, hi, UInt64.ofNat sq⟩] rfl hrow ?_ ?_ ?_ ?_)
          · unfold maxLen; omega
          · omega
          · exact hz9
          intro A11 c11 w11 ho11 hg11 hx11
          have s8 := s8.grown (by omega) hg11 (fun hn b hb q => by have := hlt2 b q; have := u8 b hn hb; omega)
          have kB0 := kB0.grown hg11 (fun b q => by have := h2s b q; omega)
          have hbr5 := hbr5.grown hg11 hbr5.size (fun b q => by have := h2s b q; omega)
          have hk5' := hk5'.grown hg11 h2s
          have HU2 : Hid (∀ b, 0 < n8 → A8.map (·.block) = some b → blk A11 c11 ≠ some b ∧ b ≠ g) := Lib.hid fun b hn q => by
            have h1 := u8 b hn q
            refine ⟨fun e => ?_, fun e => by omega⟩
            rcases hx11 with e2 | e2
            · rw [e2] at e
              have := hlt2 b e
              omega
            · rw [e2] at e
              have h5 := Option.some.inj e
              have h6 := h8s b hn q
              simp only [World.size_alloc] at h5 h6
              omega
          clear x0 x1 x2 hrow ho3 hg11 hx11 HU u8 h8s h2s hlt2 hbw
          obtain ⟨x0, x1, x2⟩ := id kB0
          have kB1 := kB0.set1 (.slice A11 (n22 + 1) c11)
          have ho12 := ho11.setAny (g := g) (by omega) 1 (.slice A11 (n22 + 1) c11)
          have s83 := s8.grown (by omega) (only_set (World.grownBy.refl w11 (some g)) 1 (.slice A11 (n22 + 1) c11)) (fun hn b hb q => (HU2.out b hn hb).2 (Option.some.inj q).symm)
          have hbr53 := hbr5.setCell (p := ⟨g, 1, none⟩) (by show w4.heap.size ≤ g; omega) (.slice A11 (n22 + 1) c11)
          have hk53 := hk5'.set 1 (.slice A11 (n22 + 1) c11)
          go_wp2_with fail
          generalize (w11.setCell ⟨g, 1, none⟩ (.slice A11 (n22 + 1) c11)) = w12 at *
          clear x0 x1 x2 kB0 ho11 s8 hbr5 hk5'
          go_wp2
          go_roundw
          case rel => exact ⟨r3, m, _, A8, n8, c8, A11, _, c11, rfl, hbr53, hk53, kB1, s83, ho12, Hnew, Hm8, by omega, HU2⟩
          case measure => exact hn8
      have hq1 : q ≠ [] := fun e => by rw [e] at hql; simp at hql; omega
      obtain ⟨m, rfl⟩ : ∃ m', m = m' + 1 := ⟨m - 1, by have := HM.out; omega⟩
      have hp := HP.out
      unfold parseR at hp
      rw [if_neg hq1] at hp
      have ht1 := keyRead_le q
      have ht3 := take_less (keyReadL q).2.1
      have hu := takeL_lt (keyReadL q).2.1
      have k1 := rkread_any wr Ai ni ci q hq (by omega)
      have k3 := fun w' A n c (h : Sl w' 1 A n c (bc (keyReadL q).2.1)) hn => rtake_any w' A n c _ h hn
      unfold GotRead at k1
      unfold TookB at k3
      generalize takeL (keyReadL q).2.1 = T3 at *
      generalize keyReadL q = T1 at *
      obtain ⟨kx, r1, e1⟩ := T1
      obtain ⟨sq, r3, e3⟩ := T3
      simp only at *
      obtain ⟨ks, hks⟩ : ∃ s, kx.seq.toNat = s := ⟨_, rfl⟩
      obtain ⟨kd, hkd⟩ : ∃ s, kx.kind.toNat = s := ⟨_, rfl⟩
      rw [hks, hkd] at k1
      have hll := hL.lenb
      rw [hll] at hp
      have Hp := Lib.hid hp
      have K1 := Lib.hid k1
      have K3 := Lib.hid k3
      have Ht1 := Lib.hid ht1
      have Ht3 := Lib.hid ht3
      clear hp k1 k3 ht1 ht3 hq1 HP hks hkd
      go_wp2_with fail
      refine K1.out.mono ?_
      rintro e w6 ⟨A3, n3, c3, A4', n4', c4', rfl, s3, s4', hb⟩
      have hn4 : n4' ≤ 1000000 := by have := s4'.lenb; have := Ht1.out; omega
      have hlt2 : ∀ b, blk A2 c2 = some b → b < wr.heap.size := fun b q => (ho2.lt b q).2
      have hww := hb.size
      have hL := hL.below (by omega) hb
      have kB0 := kB0.below hb
      have ho2 := ho2.below hb
      have hbr4 := hbr4.trans (hb.mono hbr4.size)
      have hbw := hbw.trans (hb.mono hbw.size)
      have al := (Below.refl w6.heap.size w6).alloc (Nat.le_refl _) (.cells #[.slice A3 n3 c3, .int .u64 (ks : Int), .int .u8 (kd : Int)] 67)
      have kB := Bx.fresh w6 (.slice A3 n3 c3) (.int .u64 (ks : Int)) (.int .u8 (kd : Int)) 67
      have s4' := s4'.below (by omega) al
      have hL := hL.below (by omega) al
      have kB0 := kB0.below al
      have ho2 := ho2.below al
      have hbr4 := hbr4.trans (al.mono hbr4.size)
      have hbw := hbw.trans (al.mono hbw.size)
      have hww := Nat.le_trans hww al.size
      generalize hW : (w6.alloc (.cells #[.slice A3 n3 c3, .int .u64 (ks : Int), .int .u8 (kd : Int)] 67)) = w7 at *
      obtain ⟨x0, x1, x2, x3⟩ := id kB
      clear K1 hb al s3
      go_wp2_with fail
      try rw [hW]
      clear hW x0 x1 x2 x3 kB
      refine (K3.out w7 A4' n4' c4' s4' (by omega)).mono ?_
      rintro e w8 ⟨A8, n8, c8, rfl, ho8, hb⟩
      have hL := hL.below (by omega) hb
      have kB0 := kB0.below hb
      have ho2 := ho2.below hb
      have hbr4 := hbr4.trans (hb.mono hbr4.size)
      have hbw := hbw.trans (hb.mono hbw.size)
      have hz7 := hb.size
      have s8 := OwnB.sl ho8
      have u8 := fun (b : Nat) (hn : 0 < n8) q => own_at (b := b) ho8 hn q
      have hl4 := s4'.lenb
      clear K3 hb ho8 s4'
      by_cases g1 : e1 = 0
      case neg =>
        have er : r = none := by
          have h1 := Hp.out
          rw [if_pos (by omega)] at h1
          exact h1.symm
        have HNO : Hid (NoTab p) := Lib.hid (HN1.out er)
        have t1 : ((e1 : Int) == 0) = false := by simp; omega
        have t2 : ((e1 : Int) != 0) = true := by simp; omega
        clear Hp Ht1 Ht3 HN1 HN2 HN3 HL HM hL ho2 s8 HU
        go_wp2
        go_ret2
        exact GotRTab.bad HNO.out hbw
      subst g1
      by_cases g3 : e3 = 0
      case neg =>
        have er : r = none := by
          have h1 := Hp.out
          rw [if_pos (by omega)] at h1
          exact h1.symm
        have HNO : Hid (NoTab p) := Lib.hid (HN1.out er)
        have t1 : ((e3 : Int) == 0) = false := by simp; omega
        have t2 : ((e3 : Int) != 0) = true := by simp; omega
        clear Hp Ht1 Ht3 HN1 HN2 HN3 HL HM hL ho2 s8 HU
        go_wp2
        go_ret2
        exact GotRTab.bad HNO.out hbw
      subst g3
      by_cases gs : sq ≤ nl
      case neg =>
        have er : r = none := by
          have h1 := Hp.out
          rw [if_pos (by omega)] at h1
          exact h1.symm
        have HNO : Hid (NoTab p) := Lib.hid (HN1.out er)
        have t1 : decide ((nl : Int) < (sq : Int)) = true := decide_eq_true (by omega)
        clear Hp Ht1 Ht3 HN1 HN2 HN3 HL HM hL ho2 s8 HU
        go_wp2
        go_ret2
        exact GotRTab.bad HNO.out hbw
      have t1 : decide ((nl : Int) < (sq : Int)) = false := decide_eq_false (by omega)
      have hp := Hp.out
      rw [if_neg (by omega)] at hp
      obtain ⟨rz, sz⟩ := cutH hL .u64 (sq : Int) sq rfl gs
      obtain ⟨AL2, rl, sl2, bl2⟩ := cutLB hL .u64 (sq : Int) sq rfl gs
      have kz := ropen_any w8 Al sq cl (lb.take sq) sz (by omega)
      have hol := open_len (lb.take sq)
      have hzl := sz.lenb
      generalize openL (lb.take sq) = O at *
      obtain ⟨bo, eo⟩ := O
      simp only at *
      unfold NewB2 at kz
      have kr := fun w' A n c (h : Sl w' 1 A n c (bc bo)) hn => HRL.out w' A n c bo h hn
      rw [readLeaf_same] at kr
      have hr64 := fun l (q : readLeafL bo = some l) => (checkLeaf_zero ((readLeaf_iff _ _).1 q).1).1
      unfold GotEnts at kr
      generalize readLeafL bo = RL at *
      have Kz := Lib.hid kz
      have Kr := Lib.hid kr
      have Hr64 := Lib.hid hr64
      have Hp2 := Lib.hid hp
      have hbo : bo.length ≤ 65536 := by omega
      have hl8 := s8.lenb
      have hn8 : n8 < ni := by have := Ht3.out (by first | trivial | rfl); have := Ht1.out; omega
      have hm8 : r3.length ≤ m := by have := HM.out; omega
      have Hm8 := Lib.hid hm8
      have hql2 := hql
      clear kz kr hr64 hp hzl hol Hp Ht1 Ht3 sz hm8 HM hl4 hl8 hq hql hll
      go_wp2_with fail
      refine Kz.out.mono ?_
      rintro e w9 ⟨A9, n9, c9, rfl, ho9, hb⟩
      have s9 := OwnB.sl ho9
      have hl9 := s9.lenb
      have sl2 := sl2.below (by omega) hb
      have s8 := s8.below (by omega) hb
      have kB0 := kB0.below hb
      have ho2 := ho2.below hb
      have hbr4 := hbr4.trans (hb.mono hbr4.size)
      have hbw := hbw.trans (hb.mono hbw.size)
      have hz9 := hb.size
      clear Kz hb ho9 hL
      go_wp2_with fail
      refine (Kr.out w9 A9 n9 c9 s9 (by omega)).mono ?_
      rintro e w10 ⟨A10, n10, c10, rfl, r10, hb⟩
      have sl2 := sl2.below (by omega) hb
      have s8 := s8.below (by omega) hb
      have kB0 := kB0.below hb
      have ho2 := ho2.below hb
      have hbr4 := hbr4.trans (hb.mono hbr4.size)
      have hbw := hbw.trans (hb.mono hbw.size)
      clear Kr hb s9 hl9
      by_cases g5 : eo = 0
      case neg =>
        have er : r = none := by
          have h1 := Hp2.out
          rw [if_pos g5] at h1
          exact h1.symm
        have HNO : Hid (NoTab p) := Lib.hid (HN1.out er)
        have t1 : ((eo : Int) == 0) = false := by simp; omega
        have t2 : ((eo : Int) != 0) = true := by simp; omega
        clear Hp2 HN1 HN2 HN3 HL r10 sl2 ho2
        generalize (if RL.isSome = true then (0 : Nat) else 4) = kq at *
        go_wp2
        go_ret2
        exact GotRTab.bad HNO.out hbw
      subst g5
      have hp := Hp2.out
      rw [if_neg (by omega)] at hp
      rcases RL with _ | l
      case none =>
        have er : r = none := hp.symm
        have HNO : Hid (NoTab p) := Lib.hid (HN1.out er)
        simp only [Option.isSome_none] at *
        clear Hp2 HN1 HN2 HN3 HL r10 sl2 ho2 hp
        go_wp2
        go_ret2
        exact GotRTab.bad HNO.out hbw
      case some =>
        simp only [Option.isSome_some, Option.getD_some] at *
        have hl64 := Hr64.out l rfl
        have hnew : (parseR m r3 (lb.drop sq)).map ((out ++ l) ++ ·) = r := by
          rw [← hp, Option.map_map]
          congr 1
          funext z
          simp
        have hl10 := r10.lenR
        have hrow : ∃ xs, Sl w10 4 A10 n10 c10 xs ∧ RowC w10 (fun b => blk A2 c2 ≠ some b ∧ g + 1 ≤ b) xs l := by
          obtain ⟨xs, hs, hr, _⟩ := r10
          exact ⟨xs, hs, hr.move fun b _ hb => ⟨rfl, fun q => by have := hlt2 b q; have h2 : w9.heap.size ≤ b := hb; omega, by have h2 : w9.heap.size ≤ b := hb; omega⟩⟩
        have hn10 : n10 ≤ 64 := by omega
        have Hnew := Lib.hid hnew
        have h8s : ∀ b, 0 < n8 → A8.map (·.block) = some b → b < w10.heap.size := fun b hn q => s8.lt (by omega) hn b q
        have h2s : ∀ b, blk A2 c2 = some b → g + 1 ≤ b := fun b q => (ho2.lt b q).1
        obtain ⟨x0, x1, x2⟩ := id kB0
        clear hp Hp2 hnew hl10 r10 hl64 Hr64
        go_wp2_with (at_builtin; refine wpList_appZ _ rfl (.tmp 189) (.tmp 190) 22 rfl (g + 1) 69 _ 64 Tryz.underlying22 infoEnt rfl A2 n2 c2 _ rfl ho2 A10 n10 c10 l rfl hrow ?_ ?_ ?_ ?_)
        · unfold maxLen; omega
        · omega
        · have := kB0.lt; omega
        intro A11 c11 w11 ho11 hg11 hx11
        have hs11 := hg11.size
        have sl2 := sl2.grown (by omega) hg11 (fun hn b hb q => by have := h2s b q; have := HL.out b (by omega) (bl2 b hb); omega)
        have s8 := s8.grown (by omega) hg11 (fun hn b hb q => by have := hlt2 b q; have := u8 b hn hb; omega)
        have kB0 := kB0.grown hg11 (fun b q => by have := h2s b q; omega)
        have hbr4 := hbr4.grown hg11 hbr4.size (fun b q => by have := h2s b q; omega)
        have hbw := hbw.grown hg11 hbw.size (fun b q => by have := h2s b q; omega)
        have HU2 : Hid (∀ b, 0 < n8 → A8.map (·.block) = some b → blk A11 c11 ≠ some b ∧ b ≠ g) := Lib.hid fun b hn q => by
          have h1 := u8 b hn q
          refine ⟨fun e => ?_, fun e => by omega⟩
          rcases hx11 with e2 | e2
          · rw [e2] at e
            have := hlt2 b e
            omega
          · rw [e2] at e
            have := Option.some.inj e
            have := h8s b hn q
            omega
        have HL2 : Hid (∀ b, 0 < nl - sq → AL2.map (·.block) = some b → b < w1.heap.size) := Lib.hid fun b hn q => HL.out b (by omega) (bl2 b q)
        clear x0 x1 x2 hrow ho2 hg11 hx11 HU HL bl2 u8 h8s h2s hlt2
        obtain ⟨x0, x1, x2⟩ := id kB0
        have kB1 := kB0.set0 (.slice A11 (n2 + n10) c11)
        have ho12 := ho11.setAny (g := g) (by omega) 0 (.slice A11 (n2 + n10) c11)
        have hsl2 : Hid (∀ b, 0 < nl - sq → AL2.map (·.block) = some b → b < g) := Lib.hid fun b hn q => by have := HL2.out b hn q; omega
        have sl3 := sl2.grown (by omega) (only_set (World.grownBy.refl w11 (some g)) 0 (.slice A11 (n2 + n10) c11)) (fun hn b hb q => by have := hsl2.out b hn hb; have := Option.some.inj q; omega)
        have s83 := s8.grown (by omega) (only_set (World.grownBy.refl w11 (some g)) 0 (.slice A11 (n2 + n10) c11)) (fun hn b hb q => (HU2.out b hn hb).2 (Option.some.inj q).symm)
        have hbr43 := hbr4.setCell (p := ⟨g, 0, none⟩) (by show w4.heap.size ≤ g; omega) (.slice A11 (n2 + n10) c11)
        have hgl2 := kB1.lt
        go_wp2_with fail
        generalize (w11.setCell ⟨g, 0, none⟩ (.slice A11 (n2 + n10) c11)) = w12 at *
        clear x0 x1 x2 kB0 ho11 sl2 s8 hbr4 hsl2 hbw
        go_wp2
        go_roundw
        case rel => exact ⟨r3, lb.drop sq, m, _, A8, n8, c8, AL2, nl - sq, cl - sq, A11, _, c11, rfl, rfl, hbr43, hgl2, kB1, s83, sl3, ho12, Hnew, Hm8, by omega, by omega, HU2, HL2⟩
        case measure => exact hn8
end Go.Proofs.YtpffieogkfndaaaGreatDoor
