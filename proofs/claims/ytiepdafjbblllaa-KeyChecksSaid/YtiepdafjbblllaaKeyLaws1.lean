/-
  The walks of KeyChecks, KeyAfter, KeyUpto, KeyOrders: each returns true at every input. No condition.
-/
import Derived.Test.YtiepdafjbblllaaKeyAwake
namespace Go.Proofs.Ytiepdafjbblllaa
open Go.RowKit
set_option maxRecDepth 20000
set_option maxHeartbeats 4000000 in
theorem keyChecks.walk (w : World) (A : Option Addr) (n c : Nat) (k : KeyL) (h : Sl w 1 A n c (bc k.user)) :
    Calls Try.prog 4 #[.agg #[.slice A n c, .int .u64 (k.seq.toNat : Int), .int .u8 (k.kind.toNat : Int)]] w fun e w' => e = .returned (.bool true) ∧ Below w.heap.size w w' := by
  have cs := fun (w' : World) (hb : Below w.heap.size w w') => small_any w' A n c k (h.below (by omega) hb)
  unfold GotKey cutKey at cs
  simp only at cs
  have cc := fun (w' : World) (A : Option Addr) (n c : Nat) (h : Sl w' 1 A n c (bc (cutKey k).user)) => check_any w' A n c (cutKey k) h
  have cr := fun (w' : World) (A : Option Addr) (n c : Nat) (h : Sl w' 1 A n c (bc (cutKey k).user)) => rcheck_any w' A n c (cutKey k) h
  rw [show (cutKey k).seq = k.seq from rfl, show (cutKey k).kind = k.kind from rfl, show (cutKey k).user = k.user.take 80 from rfl] at cc cr
  generalize checkKey (cutKey k) = q at *
  generalize k.seq.toNat = s at *
  generalize k.kind.toNat = d at *
  have Cs := Lib.hid cs
  have Cc := Lib.hid cc
  have Cr := Lib.hid cr
  clear cs cc cr h
  have hbA := (Below.refl w.heap.size w).alloc (Nat.le_refl _) (.cells #[.slice A n c, .int .u64 (s : Int), .int .u8 (d : Int)] 25)
  have fA := box1 w (.cells #[.slice A n c, .int .u64 (s : Int), .int .u8 (d : Int)] 25)
  have hsz : (w.alloc (.cells #[.slice A n c, .int .u64 (s : Int), .int .u8 (d : Int)] 25)).heap.size = w.heap.size + 1 := by simp
  go_enter Try.func4, Try.ntmps4
  go_wp2_with fail
  generalize (w.alloc (.cells #[.slice A n c, .int .u64 (s : Int), .int .u8 (d : Int)] 25)) = wA at *
  refine (Cs.out _ hbA).mono ?_
  rintro e w1 ⟨A1, n1, c1, rfl, ho, hb1⟩
  have f1 := boxed hb1 fA
  have x0 := f1.1 0 _ rfl
  have x1 := f1.1 1 _ rfl
  have x2 := f1.1 2 _ rfl
  have x3 := f1.2
  clear f1 fA
  have hw1 := hbA.trans (hb1.mono hbA.size)
  go_wp2_with fail
  refine nameW ?_
  intro w2 eW
  obtain ⟨y0, y1, y2, y3, hg2⟩ := box3 eW x0 x1 x2 x3
  have hl := Own.sl (Own.grown ho hg2 (fun b hb e => by have := (Own.lt ho b hb).1; simp at e; omega))
  have hw2 := hw1.grown hg2 (by have := hw1.size; omega) (fun k e => by simp at e; omega)
  have hl := hl.drew
  have y0 : w2.drew.cell? ⟨w.heap.size, 0, none⟩ = _ := y0
  have y1 : w2.drew.cell? ⟨w.heap.size, 1, none⟩ = _ := y1
  have y2 : w2.drew.cell? ⟨w.heap.size, 2, none⟩ = _ := y2
  have hw2 := hw2.drew
  clear x0 x1 x2 x3 ho hbA hb1 hw1 eW hg2 y3
  refine regionS 9 (fun w' => Below w2.drew.heap.size w2.drew w') (by kernel_rfl) ?_
  try (change AnyS _ _ _ _ _ _ _ _ _ (World.drew _))
  refine readyS (i := 0) (by kernel_rfl) rfl (fun K hK => ?_)
  go_simp
  refine (awake03 _).mono ?_
  rintro e w3 ⟨rfl, hb3⟩
  refine hK _ _ hb3 ?_
  clear hK K
  refine takeS (i := 1) (v := ?_) rfl (by kernel_rfl) (by kernel_rfl) (by kernel_rfl) (by kernel_rfl) (by kernel_rfl) (fun _ _ _ h => h) (Or.inl ⟨by kernel_rfl, ?_⟩) hb3 ?_
  case refine_2 =>
    intro wS hSw
    go_simp
    try with_reducible rfl
  refine takeS (i := 2) (v := ?_) rfl (by kernel_rfl) (by kernel_rfl) (by kernel_rfl) (by kernel_rfl) (by kernel_rfl) (fun _ _ _ h => h) (Or.inl ⟨by kernel_rfl, ?_⟩) hb3 ?_
  case refine_2 =>
    intro wS hSw
    have z0 := stays hSw y0
    have z1 := stays hSw y1
    have z2 := stays hSw y2
    go_simp
    try with_reducible rfl
  refine takeS (i := 4) (v := ?_) rfl (by kernel_rfl) (by kernel_rfl) (by kernel_rfl) (by kernel_rfl) (by kernel_rfl) (fun _ _ _ h => h) (Or.inl ⟨by kernel_rfl, ?_⟩) hb3 ?_
  case refine_2 =>
    intro wS hSw
    have z0 := stays hSw y0
    have z1 := stays hSw y1
    have z2 := stays hSw y2
    go_simp
    try with_reducible rfl
  refine readyS (i := 3) (by kernel_rfl) rfl (fun K hK => ?_)
  go_simp
  refine (Cc.out _ A1 n1 c1 (hl.below (by omega) hb3)).mono ?_
  rintro e w4 ⟨rfl, hb4⟩
  refine hK _ _ (hb3.trans (hb4.mono hb3.size)) ?_
  clear hK K
  have q4 := hb3.trans (hb4.mono hb3.size)
  refine readyS (i := 5) (by kernel_rfl) rfl (fun K hK => ?_)
  go_simp
  refine (Cr.out _ A1 n1 c1 (hl.below (by omega) q4)).mono ?_
  rintro e w5 ⟨rfl, hb5⟩
  refine hK _ _ (q4.trans (hb5.mono q4.size)) ?_
  clear hK K
  have q5 := q4.trans (hb5.mono q4.size)
  refine takeS (i := 6) (v := ?_) rfl (by kernel_rfl) (by kernel_rfl) (by kernel_rfl) (by kernel_rfl) (by kernel_rfl) (fun _ _ _ h => h) (Or.inl ⟨by kernel_rfl, ?_⟩) q5 ?_
  case refine_2 =>
    intro wS hSw
    go_simp
    try with_reducible rfl
  refine takeS (i := 7) (v := ?_) rfl (by kernel_rfl) (by kernel_rfl) (by kernel_rfl) (by kernel_rfl) (by kernel_rfl) (fun _ _ _ h => h) (Or.inl ⟨by kernel_rfl, ?_⟩) q5 ?_
  case refine_2 =>
    intro wS hSw
    go_simp
    try with_reducible rfl
  refine takeS (i := 8) (v := ?_) rfl (by kernel_rfl) (by kernel_rfl) (by kernel_rfl) (by kernel_rfl) (by kernel_rfl) (fun _ _ _ h => h) (Or.inl ⟨by kernel_rfl, ?_⟩) q5 ?_
  case refine_2 =>
    intro wS hSw
    go_simp
    try with_reducible rfl
  refine doneS (by kernel_rfl) ?_ _
  go_wp2
  go_ret
  exact ⟨rfl, hw2.trans (q5.mono hw2.size)⟩
end Go.Proofs.Ytiepdafjbblllaa
