/-
  The walk of KeyUpto: it returns true at every input. No condition.
-/
import Derived.Test.YtiepdafjbblllaaKeyAwake
namespace Go.Proofs.Ytiepdafjbblllaa
open Go.RowKit
set_option maxRecDepth 20000
/-- the law, as the call reckons it -/
theorem upto_ends (k : KeyL) (user : List UInt8) (q : UInt64) (hk : checkKey k = 0) (a x y : Bool) (ha : decide (cmpKey k (uptoKey user q) < 0) = a) (hx : ltL k.user user = x) (hy : ltL user k.user = y) :
    (x = true → a = true) ∧ (x = false → y = true → a = false) ∧ (x = false → y = false → a = decide (q.toNat < k.seq.toNat)) := by
  have h := upto_law k user q hk
  rw [show (⟨user, UInt64.ofNat (min q.toNat 72057594037927935), 2⟩ : KeyL) = uptoKey user q from rfl, ha, hx, hy] at h
  refine ⟨fun e => ?_, fun e1 e2 => ?_, fun e1 e2 => ?_⟩
  · subst e; simpa using h
  · subst e1; subst e2; simpa using h
  · subst e1; subst e2; simpa using h
set_option maxHeartbeats 4000000 in
theorem keyUpto.walk (w : World) (A : Option Addr) (n c : Nat) (k : KeyL) (h : Sl w 1 A n c (bc k.user)) (B : Option Addr) (m d : Nat) (u : List UInt8) (hu : Sl w 1 B m d (bc u)) (q : Nat) (hq : q ≤ 18446744073709551615) :
    Calls Try.prog 7 #[.agg #[.slice A n c, .int .u64 (k.seq.toNat : Int), .int .u8 (k.kind.toNat : Int)], .slice B m d, .int .u64 (q : Int)] w fun e w' => e = .returned (.bool true) ∧ Below w.heap.size w w' := by
  obtain ⟨q, rfl⟩ : ∃ q' : UInt64, q = q'.toNat := ⟨UInt64.ofNat q, by rw [UInt64.toNat_ofNat']; exact (Nat.mod_eq_of_lt (by omega)).symm⟩
  have cs := fun (w' : World) (hb : Below w.heap.size w w') => small_any w' A n c k (h.below (by omega) hb)
  unfold GotKey at cs
  have cu := fun (w' : World) (hb : Below w.heap.size w w') => cut_any w' B m d u 80 (hu.below (by omega) hb) (by omega)
  have cr := fun (w' : World) (A : Option Addr) (n c : Nat) (h : Sl w' 1 A n c (bc (cutKey k).user)) => rcheck_any w' A n c (cutKey k) h
  have ct := fun (w' : World) (A : Option Addr) (n c : Nat) (h : Sl w' 1 A n c (bc (u.take 80))) (hn : n ≤ 1000000) => upto_any w' A n c (u.take 80) h hn q
  unfold GotKey at ct
  have cc := fun (w' : World) (A1 : Option Addr) (n1 c1 : Nat) (h1 : Sl w' 1 A1 n1 c1 (bc (cutKey k).user)) (A2 : Option Addr) (n2 c2 : Nat) (h2 : Sl w' 1 A2 n2 c2 (bc (uptoKey (u.take 80) q).user)) => compare_any w' A1 n1 c1 (cutKey k) h1 A2 n2 c2 (uptoKey (u.take 80) q) h2
  have law := upto_ends (cutKey k) (u.take 80) q
  have hul : (u.take 80).length ≤ 80 := by rw [List.length_take]; omega
  rw [show (uptoKey (u.take 80) q).user = u.take 80 from rfl] at ct cc
  rw [show (cutKey k).seq = k.seq from rfl, show (cutKey k).kind = k.kind from rfl] at *
  generalize cmpKey (cutKey k) (uptoKey (u.take 80) q) = z at *
  generalize (uptoKey (u.take 80) q).seq.toNat = s2 at *
  generalize (uptoKey (u.take 80) q).kind.toNat = d2 at *
  generalize checkKey (cutKey k) = r at *
  generalize (cutKey k).user = ku at *
  generalize u.take 80 = uu at *
  generalize k.seq.toNat = s at *
  generalize k.kind.toNat = kd at *
  generalize q.toNat = qn at *
  have Cs := Lib.hid cs
  have Cu := Lib.hid cu
  have Cr := Lib.hid cr
  have Ct := Lib.hid ct
  have Cc := Lib.hid cc
  have Law := Lib.hid law
  have Hul := Lib.hid hul
  clear cs cu cr ct cc law hul h hu hq
  have hbA := (Below.refl w.heap.size w).alloc (Nat.le_refl _) (.cells #[.slice A n c, .int .u64 (s : Int), .int .u8 (kd : Int)] 25)
  have hz : (w.alloc (.cells #[.slice A n c, .int .u64 (s : Int), .int .u8 (kd : Int)] 25)).heap.size = w.heap.size + 1 := by simp
  have hk := Bx.fresh w (.slice A n c) (.int .u64 (s : Int)) (.int .u8 (kd : Int)) 25
  go_enter Try.func7, Try.ntmps7
  go_wp2_with fail
  refine (awake03 _).mono ?_
  rintro e w1 ⟨rfl, hb1⟩
  have q1 := hbA.trans (hb1.mono hbA.size)
  have z1 := hb1.size
  rw [hz] at z1
  have hk := hk.below hb1
  clear hb1 hbA
  obtain ⟨x0, x1, x2, x3⟩ := id hk
  go_wp2_with fail
  refine (Cs.out _ q1).mono ?_
  rintro e w2 ⟨A2, n2, c2, rfl, ho2, hb2⟩
  have q2 := q1.trans (hb2.mono q1.size)
  have hk := hk.below hb2
  clear x0 x1 x2 x3
  go_wp2_with fail
  refine (Cu.out _ q2).mono ?_
  rintro e w3 ⟨A3, n3, c3, rfl, ho3, hb3⟩
  have q3 := q2.trans (hb3.mono q2.size)
  have hk := hk.below hb3
  have ho2 := Own.below ho2 hb3
  have z2 := hb2.size
  have ho2 := Own.mono (B' := w.heap.size + 1) ho2 z1
  have ho3 := Own.mono (B' := w.heap.size + 1) ho3 (by omega)
  clear hb2 hb3 q1 q2
  obtain ⟨x0, x1, x2, x3⟩ := id hk
  go_wp2_with fail
  refine nameC ?_
  intro w4 e4
  obtain ⟨hk, hg4⟩ := hk.set e4
  have q4 := q3.grown hg4 q3.size (fun k e => by simp at e; omega)
  have hsz : w.heap.size < w3.heap.size := Bx.lt (by assumption)
  have h2 := Own.sl (Own.grown ho2 hg4 (fun b hb e => by have := (Own.lt ho2 b hb).1; simp at e; omega))
  have h3 := Own.sl (Own.grown ho3 hg4 (fun b hb e => by have := (Own.lt ho3 b hb).1; simp at e; omega))
  clear x0 x1 x2 x3 ho2 ho3 q3 e4 hg4
  refine (Cr.out _ A2 n2 c2 h2).mono ?_
  rintro e w5 ⟨rfl, hb5⟩
  have q5 := q4.trans (hb5.mono q4.size)
  have hk := hk.below hb5
  have h2 := h2.below (by omega) hb5
  have h3 := h3.below (by omega) hb5
  clear hb5 q4
  obtain ⟨x0, x1, x2, x3⟩ := id hk
  by_cases hr : r = 0
  · subst hr
    have law := Law.out rfl
    have hn3 : n3 ≤ 80 := by have := h3.lenb; have := Hul.out; omega
    go_wp2_with fail
    refine (Ct.out _ A3 n3 c3 h3 (by omega)).mono ?_
    rintro e w6 ⟨A6, n6, c6, rfl, ho6, hb6⟩
    have q6 := q5.trans (hb6.mono q5.size)
    have hk := hk.below hb6
    have h2 := h2.below (by omega) hb6
    have h3 := h3.below (by omega) hb6
    have h6 := ho6.sl
    clear x0 x1 x2 x3 ho6 hb6 q5
    obtain ⟨x0, x1, x2, x3⟩ := id hk
    have z6 := hk.lt
    go_wp2_with fail
    have b7 := (Below.refl w6.heap.size w6).alloc (Nat.le_refl _) (.cells #[.slice A6 n6 c6, .int .u64 (s2 : Int), .int .u8 (d2 : Int)] 25)
    refine (Cc.out _ A2 n2 c2 (h2.below (by omega) b7) A6 n6 c6 (h6.below (by omega) b7)).mono ?_
    rintro e w8 ⟨rfl, hb8⟩
    have b8 := b7.trans (hb8.mono b7.size)
    have q8 := q6.trans (b8.mono q6.size)
    have hk := hk.below b8
    have h2 := h2.below (by omega) b8
    have h3 := h3.below (by omega) b8
    clear x0 x1 x2 x3 b7 hb8 b8 q6 z6 h6
    obtain ⟨x0, x1, x2, x3⟩ := id hk
    obtain ⟨a, ha⟩ : ∃ a, decide (z < 0) = a := ⟨_, rfl⟩
    obtain ⟨x, hx⟩ : ∃ x, ltL ku uu = x := ⟨_, rfl⟩
    obtain ⟨y, hy⟩ : ∃ y, ltL uu ku = y := ⟨_, rfl⟩
    obtain ⟨l1, l2, l3⟩ := law a x y ha hx hy
    have Hx := Lib.hid hx
    have Hy := Lib.hid hy
    have L1 := Lib.hid l1
    have L2 := Lib.hid l2
    have L3 := Lib.hid l3
    clear hx hy law l1 l2 l3
    go_wp2_with fail
    refine (rless_is _ A2 n2 c2 ku h2 A3 n3 c3 uu h3 x Hx).mono ?_
    rintro e w9 ⟨rfl, rfl⟩
    cases x
    · go_wp2_with fail
      refine (rless_is _ A3 n3 c3 uu h3 A2 n2 c2 ku h2 y Hy).mono ?_
      rintro e w9 ⟨rfl, rfl⟩
      cases y
      · obtain rfl := L3.out (by first | rfl | trivial) (by first | rfl | trivial)
        have ht : decide ((qn : Int) < (s : Int)) = decide (qn < s) := by rw [decide_eq_decide]; omega
        obtain ⟨b, hb⟩ : ∃ b, decide (qn < s) = b := ⟨_, rfl⟩
        rw [hb] at ha ht ⊢
        cases b
        · go_wp2
          go_ret
          exact ⟨rfl, q8⟩
        · go_wp2
          go_ret
          exact ⟨rfl, q8⟩
      · obtain rfl := L2.out (by first | rfl | trivial) (by first | rfl | trivial)
        go_wp2
        go_ret
        exact ⟨rfl, q8⟩
    · obtain rfl := L1.out (by first | rfl | trivial)
      go_wp2
      go_ret
      exact ⟨rfl, q8⟩
  · have hq1 : ((r : Int) != 0) = true := by rw [bne_iff_ne]; omega
    clear hr
    go_wp2
    go_ret
    exact ⟨rfl, q5⟩
end Go.Proofs.Ytiepdafjbblllaa
