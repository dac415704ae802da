/-
  What ref06.Read gives: all records. (Printed by genrread.py.) No condition but sizes.
-/
import Derived.Test.YtpjinmiedanebaaDoorReelRPieceX
import Derived.Test.YtpjinmiedanebaaDoorReelRead
import Derived.Test.YtpjinmiedanebaaDoorJReplayPlain
import Derived.Deep.CutBlock
namespace Go.Proofs.YtpjinmiedanebaaDoor
set_option maxRecDepth 20000
open Go.RowKit
/-- what Read gives back -/
def RReadB (w : World) (P : List UInt8) (e : Ending) (w' : World) : Prop :=
  ∃ (rs : List (List UInt8)) (e0 z : Nat) (A : Option Addr) (n c : Nat) (vs : List Value), Reads P 0 rs e0 ∧ Stuck P e0 ∧ e0 ≤ P.length ∧ e = .returned (.tuple #[.slice A n c, .int .i64 (z : Int)]) ∧ OwnP w' w.heap.size A n c vs ∧ OwnParts w' w.heap.size none vs rs ∧ Below w.heap.size w w'
/-- behind the outer loop -/
def RDone (w : World) (P : List UInt8) (n : Nat) (ov av : Value) (wr : World) : Prop :=
  ∃ (a : Nat) (rs : List (List UInt8)) (A2 : Option Addr) (n2 c2 : Nat) (vs2 : List Value), ov = .slice A2 n2 c2 ∧ av = .int .i64 (a : Int) ∧ OwnP wr w.heap.size A2 n2 c2 vs2 ∧ OwnParts wr w.heap.size none vs2 rs ∧ Below w.heap.size w wr ∧ Hid (Reads P 0 rs a) ∧ Hid (Stuck P a) ∧ a ≤ n
/-- what holds at each round's head of the inner loop -/
def InRel (w1 : World) (P : List UInt8) (a n : Nat) (kv bv gv iv : Value) (wr : World) : Prop :=
  ∃ (k i : Nat) (b : List UInt8) (A2 : Option Addr) (n2 c2 : Nat), kv = .int .i64 (k : Int) ∧ bv = .slice A2 n2 c2 ∧ gv = .bool false ∧ iv = .int .i64 (i : Int) ∧ OwnB wr w1.heap.size A2 n2 c2 b ∧ Below w1.heap.size w1 wr ∧
    Hid (Reading P a k (decide (i = 0)) b) ∧ a ≤ k ∧ k ≤ n ∧ n2 ≤ k ∧ 7 * i ≤ k ∧ i ≤ n
/-- behind the inner loop -/
def InDone (w1 : World) (P : List UInt8) (a n : Nat) (bv gv : Value) (wr : World) : Prop :=
  ∃ (g : Bool) (b : List UInt8) (A2 : Option Addr) (n2 c2 : Nat), bv = .slice A2 n2 c2 ∧ gv = .bool g ∧ OwnB wr w1.heap.size A2 n2 c2 b ∧ Below w1.heap.size w1 wr ∧ Hid (∀ r, IsRec P a r → g = true ∧ r = b) ∧ n2 ≤ 2 * n
theorem reading_more {P : List UInt8} {a at_ k e : Nat} {b : Bool} {out x : List UInt8} (h : Reading P a at_ b out) (hp : PieceAt P (at_ + padN at_) k x e) (h1 : k ≠ 1) (h4 : k ≠ 4) : Reading P a e false (out ++ x) := by
  by_cases hk : k = kindN b false
  · exact reading_next h hp hk
  · intro r hr
    refine absurd hr (reading_kind h hp (fun f => ?_) r)
    cases f with
    | false => exact hk
    | true => cases b <;> simpa [kindN]
theorem reading_last {P : List UInt8} {a at_ k e : Nat} {b : Bool} {out x : List UInt8} (h : Reading P a at_ b out) (hp : PieceAt P (at_ + padN at_) k x e) (h14 : k = 1 ∨ k = 4) : ∀ r, IsRec P a r → r = out ++ x := by
  by_cases hk : k = kindN b true
  · exact fun r hr => (reading_end h hp hk r hr).1
  · intro r hr
    refine absurd hr (reading_kind h hp (fun f => ?_) r)
    cases f with
    | true => exact hk
    | false => cases b <;> rcases h14 with rfl | rfl <;> simp [kindN]
theorem reading_long {P : List UInt8} {a at_ : Nat} {b : Bool} {out : List UInt8} (h : Reading P a at_ b out) (hl : P.length ≤ at_) : ∀ r, ¬ IsRec P a r := fun r hr => by
  obtain ⟨rest, _, h2, _⟩ := h r hr
  have h3 := h2.length_le
  have h4 := frameL_pos at_ b rest
  simp at h3
  omega
set_option maxHeartbeats 16000000 in
theorem rreelread_any (w : World) (A : Option Addr) (n c : Nat) (P : List UInt8) (h : Sl w 1 A n c (bc P)) (hn : n ≤ 1000000) :
    Calls Tryd.prog 19 #[.slice A n c] w (RReadB w P) := by
  have Hl : Hid (P.length = n) := h.lenb
  have hcap := h.cap
  have hcm := h.capm
  unfold maxLen at hcm
  go_enter Tryd.func19, Tryd.ntmps19
  go_upto_block 0 with fail
  go_cut [4, 5] from 16 to 94 (RDone w P n)
  case first =>
    go_wp2_with fail
    go_loopw [4, 5] (ReadRel w P n) (fun _ av _ => n - (intOf av).toNat)
    case atStart => exact ⟨0, [], none, 0, 0, [], rfl, rfl, Own.nil _ _ _ _ _, OwnParts.nil _ _ _, Below.refl _ _, Reads.nil 0, Nat.zero_le _, Nat.zero_le _⟩
    case round =>
      obtain ⟨a, rs, A2, n2, c2, vs2, rfl, rfl, ho2, hp2, hb1, HR, ha, hn2⟩ := hrel
      have Ho2 := Lib.hid ho2
      have Hp2 := Lib.hid hp2
      clear ho2 hp2
      generalize wr = w1 at *
      by_cases hlt : a < n
      case neg =>
        have hst : Stuck P a := stuck_end (by have := Hl.out; omega)
        have HS := Lib.hid hst
        clear hst
        go_wp2
        go_meet
        exact ⟨a, rs, A2, n2, c2, vs2, rfl, rfl, Ho2.out, Hp2.out, hb1, HR, HS, by omega⟩
      go_upto_block 2 with fail
      go_cut [7, 8] from 16 to 94 (InDone w1 P a n)
      case first =>
        go_wp2_with fail
        go_loopw [6, 7, 8, 23] (InRel w1 P a n) (fun _ _ _ iv _ => n - (intOf iv).toNat)
        case atStart => exact ⟨a, 0, [], none, 0, 0, rfl, rfl, rfl, rfl, Own.nil _ _ _ _ _, Below.refl _ _, reading_start P a, Nat.le_refl _, ha, Nat.zero_le _, Nat.zero_le _, Nat.zero_le _⟩
        case round =>
          obtain ⟨k, i, b, A2, n2, c2, rfl, rfl, rfl, rfl, ho2, hbi, HR, hak, hkn, hn2, h7i, hii⟩ := hrel
          generalize wr = wi at *
          by_cases hin : i < n
          case neg =>
            obtain rfl : n = i := by omega
            have hnr := reading_long HR.out (by have := Hl.out; omega)
            have Hnr := Lib.hid hnr
            clear hnr HR
            go_wp2
            go_meet
            exact ⟨false, b, A2, n2, c2, rfl, rfl, ho2, hbi, fun r hr => absurd hr (Hnr.out r), by omega⟩
          have hpn := padN_le k
          obtain ⟨pd, hpd⟩ : ∃ pd, padN k = pd := ⟨_, rfl⟩
          obtain ⟨y, hy⟩ : ∃ y, k + pd = y := ⟨_, rfl⟩
          have hw1 : (if 57 < k % 64 then k + (64 - k % 64) else k) = y := by rw [← hy, ← hpd]; unfold padN; split <;> split <;> omega
          have hpc := rpiece_at wi y A n c P (h.below (by omega) (hb1.trans (hbi.mono hb1.size))) hn (by omega)
          have hne := fun (hno : ∀ k b z, ¬ PieceAt P y k b z) => reading_none HR.out (fun k' x e g => hno k' x e (by rw [← hy, ← hpd]; exact g))
          have hmo := fun k' x e (g : PieceAt P y k' x e) => reading_more HR.out (e := e) (k := k') (x := x) (by rw [hpd, hy]; exact g)
          have hla := fun k' x e (g : PieceAt P y k' x e) => reading_last HR.out (e := e) (k := k') (x := x) (by rw [hpd, hy]; exact g)
          have Hpc := Lib.hid hpc
          have Hne := Lib.hid hne
          have Hmo := Lib.hid hmo
          have Hla := Lib.hid hla
          have hky1 : k ≤ y := by omega
          have hky2 : y ≤ k + 6 := by omega
          clear hpc hne hmo hla hpd hy hpn
          by_cases h57 : 57 < k % 64
          case pos =>
            have d57 : decide (57 < (k : Int) % 64) = true := decide_eq_true (by omega)
            have e57 : (k : Int) + (64 - (k : Int) % 64) = (y : Int) := by rw [if_pos h57] at hw1; omega
            clear hw1 h57
            go_wp2_with fail
            refine Hpc.out.mono ?_
            rintro e w5 ⟨hb5, (⟨k', x, z, A5, n5, c5, hpa, rfl, ho5⟩ | ⟨hno, rfl⟩)⟩
            case inr =>
              have hnr := Hne.out hno
              have ho6 := Own.below ho2 hb5
              have hb6 := hbi.trans (hb5.mono hbi.size)
              have Hnr := Lib.hid hnr
              clear hno hnr hb5 Hpc Hne Hmo Hla HR
              go_wp2
              go_meet
              exact ⟨false, b, A2, n2, c2, rfl, rfl, ho6, hb6, fun r hr => absurd hr (Hnr.out r), by omega⟩
            case inl =>
              have hb6 := hbi.trans (hb5.mono hbi.size)
              have hz := hpa.le
              obtain ⟨k1, k4, q3, q4, _⟩ := id hpa
              have hn5 := OwnB.len' ho5
              have hzn : z ≤ n := by have := Hl.out; omega
              have hyz : y + 7 ≤ z := by omega
              have hn5z : y + n5 + 7 ≤ z := by omega
              have hm := Hmo.out _ _ _ hpa
              have hla := Hla.out _ _ _ hpa
              have Hm := Lib.hid hm
              have HL := Lib.hid hla
              clear hm hla hz q3 q4 hn5 hpa Hpc Hne Hmo Hla HR
              have ho2' := Own.below ho2 hb5
              have hk256 : k' < 256 := by omega
              have go : ∀ (h14 : k' = 1 ∨ k' = 4 ∨ (k' ≠ 1 ∧ k' ≠ 4)), True := fun _ => trivial
              clear go
              go_wp2_with (at_builtin; refine wpList_appB _ rfl (.tmp 43) (.tmp 44) rfl w1.heap.size A2 n2 c2 b rfl ho2' A5 n5 c5 x rfl (OwnB.sl ho5) ?_ ?_ ?_)
              · omega
              · exact hb6.size
              intro A7 c7 w7 ho7 hg7 _
              have hb7 := hb6.grown hg7 hb6.size (fun b hb => (Own.lt ho2' b hb).1)
              have Ho7 := Lib.hid ho7
              clear ho7 hg7 ho2' ho2 ho5 hb5 hb6
              have hk : k' = 1 ∨ k' = 4 ∨ k' = 2 ∨ k' = 3 := by omega
              clear k1 k4 hk256
              rcases hk with rfl | rfl | rfl | rfl
              · have hr := HL.out (by omega)
                have Hr := Lib.hid hr
                clear hr HL Hm
                go_wp2
                go_meet
                exact ⟨true, _, A7, _, c7, rfl, rfl, Ho7.out, hb7, fun r hr => ⟨rfl, Hr.out r hr⟩, by omega⟩
              · have hr := HL.out (by omega)
                have Hr := Lib.hid hr
                clear hr HL Hm
                go_wp2
                go_meet
                exact ⟨true, _, A7, _, c7, rfl, rfl, Ho7.out, hb7, fun r hr => ⟨rfl, Hr.out r hr⟩, by omega⟩
              · have hr := Hm.out (by omega) (by omega)
                have Hr := Lib.hid hr
                clear hr HL Hm
                go_wp2
                go_roundw
                case rel => exact ⟨z, i + 1, _, A7, _, c7, rfl, rfl, rfl, by go_num, Ho7.out, hb7, by rw [show decide (i + 1 = 0) = false by simp]; exact Hr.out, by omega, by omega, by omega, by omega, by omega⟩
                case measure => simp [intOf]; omega
              · have hr := Hm.out (by omega) (by omega)
                have Hr := Lib.hid hr
                clear hr HL Hm
                go_wp2
                go_roundw
                case rel => exact ⟨z, i + 1, _, A7, _, c7, rfl, rfl, rfl, by go_num, Ho7.out, hb7, by rw [show decide (i + 1 = 0) = false by simp]; exact Hr.out, by omega, by omega, by omega, by omega, by omega⟩
                case measure => simp [intOf]; omega
          case neg =>
            have d57 : decide (57 < (k : Int) % 64) = false := decide_eq_false (by omega)
            obtain rfl : y = k := by rw [if_neg h57] at hw1; exact hw1.symm
            clear hw1 h57
            go_wp2_with fail
            refine Hpc.out.mono ?_
            rintro e w5 ⟨hb5, (⟨k', x, z, A5, n5, c5, hpa, rfl, ho5⟩ | ⟨hno, rfl⟩)⟩
            case inr =>
              have hnr := Hne.out hno
              have ho6 := Own.below ho2 hb5
              have hb6 := hbi.trans (hb5.mono hbi.size)
              have Hnr := Lib.hid hnr
              clear hno hnr hb5 Hpc Hne Hmo Hla HR
              go_wp2
              go_meet
              exact ⟨false, b, A2, n2, c2, rfl, rfl, ho6, hb6, fun r hr => absurd hr (Hnr.out r), by omega⟩
            case inl =>
              have hb6 := hbi.trans (hb5.mono hbi.size)
              have hz := hpa.le
              obtain ⟨k1, k4, q3, q4, _⟩ := id hpa
              have hn5 := OwnB.len' ho5
              have hzn : z ≤ n := by have := Hl.out; omega
              have hyz : y + 7 ≤ z := by omega
              have hn5z : y + n5 + 7 ≤ z := by omega
              have hm := Hmo.out _ _ _ hpa
              have hla := Hla.out _ _ _ hpa
              have Hm := Lib.hid hm
              have HL := Lib.hid hla
              clear hm hla hz q3 q4 hn5 hpa Hpc Hne Hmo Hla HR
              have ho2' := Own.below ho2 hb5
              have hk256 : k' < 256 := by omega
              have go : ∀ (h14 : k' = 1 ∨ k' = 4 ∨ (k' ≠ 1 ∧ k' ≠ 4)), True := fun _ => trivial
              clear go
              go_wp2_with (at_builtin; refine wpList_appB _ rfl (.tmp 43) (.tmp 44) rfl w1.heap.size A2 n2 c2 b rfl ho2' A5 n5 c5 x rfl (OwnB.sl ho5) ?_ ?_ ?_)
              · omega
              · exact hb6.size
              intro A7 c7 w7 ho7 hg7 _
              have hb7 := hb6.grown hg7 hb6.size (fun b hb => (Own.lt ho2' b hb).1)
              have Ho7 := Lib.hid ho7
              clear ho7 hg7 ho2' ho2 ho5 hb5 hb6
              have hk : k' = 1 ∨ k' = 4 ∨ k' = 2 ∨ k' = 3 := by omega
              clear k1 k4 hk256
              rcases hk with rfl | rfl | rfl | rfl
              · have hr := HL.out (by omega)
                have Hr := Lib.hid hr
                clear hr HL Hm
                go_wp2
                go_meet
                exact ⟨true, _, A7, _, c7, rfl, rfl, Ho7.out, hb7, fun r hr => ⟨rfl, Hr.out r hr⟩, by omega⟩
              · have hr := HL.out (by omega)
                have Hr := Lib.hid hr
                clear hr HL Hm
                go_wp2
                go_meet
                exact ⟨true, _, A7, _, c7, rfl, rfl, Ho7.out, hb7, fun r hr => ⟨rfl, Hr.out r hr⟩, by omega⟩
              · have hr := Hm.out (by omega) (by omega)
                have Hr := Lib.hid hr
                clear hr HL Hm
                go_wp2
                go_roundw
                case rel => exact ⟨z, i + 1, _, A7, _, c7, rfl, rfl, rfl, by go_num, Ho7.out, hb7, by rw [show decide (i + 1 = 0) = false by simp]; exact Hr.out, by omega, by omega, by omega, by omega, by omega⟩
                case measure => simp [intOf]; omega
              · have hr := Hm.out (by omega) (by omega)
                have Hr := Lib.hid hr
                clear hr HL Hm
                go_wp2
                go_roundw
                case rel => exact ⟨z, i + 1, _, A7, _, c7, rfl, rfl, rfl, by go_num, Ho7.out, hb7, by rw [show decide (i + 1 = 0) = false by simp]; exact Hr.out, by omega, by omega, by omega, by omega, by omega⟩
                case measure => simp [intOf]; omega
      case rest =>
        obtain ⟨g, b, A3, n3, c3, rfl, rfl, ho3, hbi, HI, hn3⟩ := hcut
        generalize wc = w2 at *
        have hb2 := hb1.trans (hbi.mono hb1.size)
        have ho22 := Own.below Ho2.out hbi
        have hp22 := Hp2.out.below hbi
        have hl3 := OwnB.len' ho3
        have hfr := rframe_any w2 (a : Int) A3 n3 c3 b (OwnB.sl ho3)
        by_cases hlong : b.length ≤ 65536
        case neg =>
          have hst : Stuck P a := fun r hr => hlong (by rw [← (HI.out r hr).2]; exact hr.1)
          have HS := Lib.hid hst
          rw [show framed (a : Int) b = ([], 3) by unfold framed; rw [if_neg (by omega), if_pos (by omega)]] at hfr
          unfold FrameB at hfr
          have Hfr := Lib.hid hfr
          clear hfr hst hlong HI
          go_wp2_with fail
          refine Hfr.out.mono ?_
          rintro e w3 ⟨A4, n4, c4, rfl, ho4, hb3⟩
          have hb4 := hb2.trans (hb3.mono hb2.size)
          have ho5 := Own.below ho22 hb3
          have hp5 := hp22.below hb3
          clear ho4 hb3 ho22 hp22 ho3
          cases g
          · go_wp2
            go_meet
            exact ⟨a, rs, A2, n2, c2, vs2, rfl, rfl, ho5, hp5, hb4, HR, HS, by omega⟩
          · go_wp2
            go_meet
            exact ⟨a, rs, A2, n2, c2, vs2, rfl, rfl, ho5, hp5, hb4, HR, HS, by omega⟩
        rw [framed_ok hlong] at hfr
        unfold FrameB at hfr
        have Hfr := Lib.hid hfr
        have Hlong := Lib.hid hlong
        clear hfr hlong
        go_wp2_with fail
        refine Hfr.out.mono ?_
        rintro e w3 ⟨A4, n4, c4, rfl, ho4, hb3⟩
        try simp only at ho4
        have hl4 : (frameL a true b).length = n4 := OwnB.len' ho4
        have hb4 := hb2.trans (hb3.mono hb2.size)
        have ho5 := Own.below ho22 hb3
        have hp5 := hp22.below hb3
        have ho3' := Own.below ho3 hb3
        have s4 := OwnB.sl ho4
        have h4m := frame_len2 a true b
        have hn4 : n4 ≤ 5000000 := by split at h4m <;> omega
        clear hb3 ho22 hp22 ho3 ho4 Hfr h4m
        have Hl4 := Lib.hid hl4
        clear hl4
        cases g
        case false =>
          have hst : Stuck P a := fun r hr => by have := (HI.out r hr).1; cases this
          have HS := Lib.hid hst
          clear hst HI
          go_wp2
          go_meet
          exact ⟨a, rs, A2, n2, c2, vs2, rfl, rfl, ho5, hp5, hb4, HR, HS, by omega⟩
        by_cases hfit : n4 ≤ n - a
        case neg =>
          have hst : Stuck P a := fun r hr => by
            have h1 := (HI.out r hr).2
            subst h1
            have := hr.le
            have := Hl4.out
            have := Hl.out
            omega
          have HS := Lib.hid hst
          have p1 : (n : Int) - (a : Int) < (n4 : Int) := by omega
          have d1 : decide ((n : Int) - (a : Int) < (n4 : Int)) = true := decide_eq_true p1
          clear hst HI
          go_wp2
          go_meet
          exact ⟨a, rs, A2, n2, c2, vs2, rfl, rfl, ho5, hp5, hb4, HR, HS, by omega⟩
        have p1 : ¬ ((n : Int) - (a : Int) < (n4 : Int)) := by omega
        have d1 : decide ((n : Int) - (a : Int) < (n4 : Int)) = false := decide_eq_false p1
        obtain ⟨Ap, rp, sp, -⟩ := cutLH h .i64 .i64 (a : Int) ((a : Int) + (n4 : Int)) a (a + n4) (by omega) (by omega) (by omega) (by omega)
        have ep : a + n4 - a = n4 := by omega
        rw [ep] at sp
        simp only [ep] at rp
        have sp := sp.below (by omega) hb4
        obtain ⟨bb, hbb⟩ : ∃ bb, (frameL a true b == (P.drop a).take n4) = bb := ⟨_, rfl⟩
        have Hbb := Lib.hid hbb
        clear hbb ep
        go_wp2_with fail
        refine (same_is w3 A4 n4 c4 _ Ap n4 (c - a) _ bb Hbb s4 sp).mono ?_
        rintro e w' ⟨rfl, rfl⟩
        cases bb
        case false =>
          have hst : Stuck P a := fun r hr => by
            have h1 := (HI.out r hr).2
            subst h1
            have h2 := Hbb.out
            rw [beq_eq_false_iff_ne] at h2
            obtain ⟨t, ht⟩ := hr.2
            exact h2 (by rw [← ht, List.take_left' Hl4.out])
          have HS := Lib.hid hst
          clear hst HI Hbb
          go_wp2
          go_meet
          exact ⟨a, rs, A2, n2, c2, vs2, rfl, rfl, ho5, hp5, hb4, HR, HS, by omega⟩
        have hrec : IsRec P a b := ⟨Hlong.out, by rw [eq_of_beq Hbb.out]; exact List.take_prefix _ _⟩
        have hsn := HR.out.snoc hrec
        rw [Hl4.out] at hsn
        have Hsn := Lib.hid hsn
        have hps : 7 ≤ n4 := by rw [← Hl4.out]; exact frameL_pos a true b
        clear hrec hsn Hbb HI Hl4 Hlong s4 sp rp
        have hba := (Below.refl w3.heap.size w3).alloc (Nat.le_refl _) (.cells #[.slice A3 n3 c3] 22)
        have hlit := Own.lit w3 w.heap.size 22 1 #[.slice A3 n3 c3] [.slice A3 n3 c3] hb4.size rfl (by unfold maxLen; omega) rfl
        have hoP : OwnP (w3.alloc (.cells #[.slice A3 n3 c3] 22)) w.heap.size A2 n2 c2 vs2 := Own.below ho5 hba
        have hpP := hp5.below hba
        have hoN := Own.below ho3' hba
        have hsz := hb1.size
        clear ho3' ho5 hp5
        go_wp2_with (at_builtin; refine wpList_appP _ rfl (.tmp 87) (.tmp 89) rfl w.heap.size A2 n2 c2 _ rfl hoP _ 1 1 [.slice A3 n3 c3] rfl hlit.sl (one_cell _ _ _) ?_ ?_ ?_)
        · omega
        · have := hb4.size; rw [World.size_alloc]; omega
        intro A7 c7 w7 ho7 hg7 _
        have hb7 := (hb4.alloc hb4.size (.cells #[.slice A3 n3 c3] 22)).grown hg7 (by have := hb4.size; rw [World.size_alloc]; omega) (fun q hq => (Own.lt hoP q hq).1)
        have hpN := (hpP.wroteRow hoP (by decide) hg7).snoc (Own.mono (Own.grown hoN hg7 (own_apart hoN hoP (by decide))) hsz) (fun b hb => by simp)
        have Ho7 := Lib.hid ho7
        have HpN := Lib.hid hpN
        clear ho7 hpN hoP hpP hoN hg7 hlit hba
        go_wp2
        go_roundw
        case rel => exact ⟨a + n4, _, A7, _, c7, _, rfl, by go_num, Ho7.out, HpN.out, hb7, Hsn.out, by omega, by omega⟩
        case measure => simp [intOf]; omega
  case rest =>
    obtain ⟨a, rs, A2, n2, c2, vs2, rfl, rfl, ho2, hp2, hb1, HR, HS, ha⟩ := hcut
    generalize wc = w1 at *
    obtain ⟨L, hL, hL1, hL2⟩ : ∃ L, 64 - a % 64 = L ∧ 1 ≤ L ∧ L ≤ 64 := ⟨_, rfl, by omega, by omega⟩
    have eL : (64 : Int) - (a : Int) % 64 = (L : Int) := by omega
    clear hL
    obtain ⟨m, hm⟩ : ∃ m, n - a = m := ⟨_, rfl⟩
    have hwm : IntKind.i64.wrap ((n : Int) - (a : Int)) = (m : Int) := by rw [IntKind.wrap_i64]; omega
    have hmn : m ≤ n := by omega
    have sp0 := cutL h .i64 (a : Int) a rfl ha
    rw [hm] at sp0
    have ho2 := Own.below ho2 ((Below.refl w1.heap.size w1).drew)
    have hp2 := hp2.below ((Below.refl w1.heap.size w1).drew)
    have hb1 := hb1.drew
    have Ho2 := Lib.hid ho2
    have Hp2 := Lib.hid hp2
    clear ho2 hp2 hm
    by_cases h7 : L < 7
    case neg =>
      have d7 : decide ((L : Int) < 7) = false := decide_eq_false (by omega)
      clear sp0
      go_wp2_with fail
      refine wp_region_any (by kernel_rfl) ?_
      try (change wpAny _ _ _ _ _ _ _ (World.drew _))
      refine wpAny_take (i := 0) (v := ?_) rfl (by kernel_rfl) (by kernel_rfl) (by kernel_rfl) (fun _ _ _ h => h) (Or.inl ⟨by kernel_rfl, ?_⟩) ?_
      case refine_2 => ((intro w; go_simp); try with_reducible rfl)
      refine wpAny_take (i := 1) (v := ?_) rfl (by kernel_rfl) (by kernel_rfl) (by kernel_rfl) (fun _ _ _ h => h) (Or.inl ⟨by kernel_rfl, ?_⟩) ?_
      case refine_2 => ((intro w; go_simp); try with_reducible rfl)
      refine wpAny_take (i := 2) (v := ?_) rfl (by kernel_rfl) (by kernel_rfl) (by kernel_rfl) (fun _ _ _ h => h) (Or.inl ⟨by kernel_rfl, ?_⟩) ?_
      case refine_2 => ((intro w; go_simp); try with_reducible rfl)
      refine wpAny_take (i := 3) (v := undef) rfl (by kernel_rfl) (by kernel_rfl) (by kernel_rfl) (fun _ _ _ h => h) (Or.inr ⟨by kernel_rfl, rfl⟩) ?_
      refine wpAny_take (i := 4) (v := undef) rfl (by kernel_rfl) (by kernel_rfl) (by kernel_rfl) (fun _ _ _ h => h) (Or.inr ⟨by kernel_rfl, rfl⟩) ?_
      refine wpAny_take (i := 5) (v := undef) rfl (by kernel_rfl) (by kernel_rfl) (by kernel_rfl) (fun _ _ _ h => h) (Or.inr ⟨by kernel_rfl, rfl⟩) ?_
      refine wpAny_take (i := 6) (v := undef) rfl (by kernel_rfl) (by kernel_rfl) (by kernel_rfl) (fun _ _ _ h => h) (Or.inr ⟨by kernel_rfl, rfl⟩) ?_
      refine wpAny_take (i := 7) (v := undef) rfl (by kernel_rfl) (by kernel_rfl) (by kernel_rfl) (fun _ _ _ h => h) (Or.inr ⟨by kernel_rfl, rfl⟩) ?_
      refine wpAny_take (i := 8) (v := undef) rfl (by kernel_rfl) (by kernel_rfl) (by kernel_rfl) (fun _ _ _ h => h) (Or.inr ⟨by kernel_rfl, rfl⟩) ?_
      refine wpAny_take (i := 9) (v := ?_) rfl (by kernel_rfl) (by kernel_rfl) (by kernel_rfl) (fun _ _ _ h => h) (Or.inl ⟨by kernel_rfl, ?_⟩) ?_
      case refine_2 => ((intro w; go_simp); try with_reducible rfl)
      refine wpAny_take (i := 10) (v := ?_) rfl (by kernel_rfl) (by kernel_rfl) (by kernel_rfl) (fun _ _ _ h => h) (Or.inl ⟨by kernel_rfl, ?_⟩) ?_
      case refine_2 => ((intro w; go_simp); try with_reducible rfl)
      refine wpAny_take (i := 11) (v := undef) rfl (by kernel_rfl) (by kernel_rfl) (by kernel_rfl) (fun _ _ _ h => h) (Or.inr ⟨by kernel_rfl, rfl⟩) ?_
      refine wpAny_take (i := 12) (v := undef) rfl (by kernel_rfl) (by kernel_rfl) (by kernel_rfl) (fun _ _ _ h => h) (Or.inr ⟨by kernel_rfl, rfl⟩) ?_
      refine wpAny_take (i := 13) (v := undef) rfl (by kernel_rfl) (by kernel_rfl) (by kernel_rfl) (fun _ _ _ h => h) (Or.inr ⟨by kernel_rfl, rfl⟩) ?_
      refine wpAny_take (i := 14) (v := undef) rfl (by kernel_rfl) (by kernel_rfl) (by kernel_rfl) (fun _ _ _ h => h) (Or.inr ⟨by kernel_rfl, rfl⟩) ?_
      refine wpAny_take (i := 15) (v := undef) rfl (by kernel_rfl) (by kernel_rfl) (by kernel_rfl) (fun _ _ _ h => h) (Or.inr ⟨by kernel_rfl, rfl⟩) ?_
      refine wpAny_take (i := 16) (v := undef) rfl (by kernel_rfl) (by kernel_rfl) (by kernel_rfl) (fun _ _ _ h => h) (Or.inr ⟨by kernel_rfl, rfl⟩) ?_
      refine wpAny_take (i := 17) (v := undef) rfl (by kernel_rfl) (by kernel_rfl) (by kernel_rfl) (fun _ _ _ h => h) (Or.inr ⟨by kernel_rfl, rfl⟩) ?_
      refine wpAny_take (i := 18) (v := undef) rfl (by kernel_rfl) (by kernel_rfl) (by kernel_rfl) (fun _ _ _ h => h) (Or.inr ⟨by kernel_rfl, rfl⟩) ?_
      refine wpAny_take (i := 19) (v := undef) rfl (by kernel_rfl) (by kernel_rfl) (by kernel_rfl) (fun _ _ _ h => h) (Or.inr ⟨by kernel_rfl, rfl⟩) ?_
      refine wpAny_ready (rs := [20]) (by kernel_rfl) (by simp) ?_
      refine AllReady.cons rfl (fun K hK => ?_) AllReady.nil
      go_simp
      refine hK _ _ ?_
      clear hK K
      refine wpAny_done (by kernel_rfl) ?_ _
      go_wp2
      go_ret2
      exact ⟨rs, a, a, A2, n2, c2, vs2, HR.out, HS.out, by have := Hl.out; omega, rfl, Ho2.out, Hp2.out, hb1⟩
    have d7 : decide ((L : Int) < 7) = true := decide_eq_true (by omega)
    by_cases hmL : m ≤ L
    case neg =>
      have d8 : decide ((m : Int) ≤ (L : Int)) = false := decide_eq_false (by omega)
      have d9 : decide (m ≤ L) = false := decide_eq_false (by omega)
      clear sp0
      go_wp2_with fail
      refine wp_region_any (by kernel_rfl) ?_
      try (change wpAny _ _ _ _ _ _ _ (World.drew _))
      refine wpAny_take (i := 0) (v := ?_) rfl (by kernel_rfl) (by kernel_rfl) (by kernel_rfl) (fun _ _ _ h => h) (Or.inl ⟨by kernel_rfl, ?_⟩) ?_
      case refine_2 => ((intro w; go_simp); try with_reducible rfl)
      refine wpAny_take (i := 1) (v := ?_) rfl (by kernel_rfl) (by kernel_rfl) (by kernel_rfl) (fun _ _ _ h => h) (Or.inl ⟨by kernel_rfl, ?_⟩) ?_
      case refine_2 => ((intro w; go_simp); try with_reducible rfl)
      refine wpAny_take (i := 2) (v := ?_) rfl (by kernel_rfl) (by kernel_rfl) (by kernel_rfl) (fun _ _ _ h => h) (Or.inl ⟨by kernel_rfl, ?_⟩) ?_
      case refine_2 => ((intro w; go_simp); try with_reducible rfl)
      refine wpAny_take (i := 3) (v := ?_) rfl (by kernel_rfl) (by kernel_rfl) (by kernel_rfl) (fun _ _ _ h => h) (Or.inl ⟨by kernel_rfl, ?_⟩) ?_
      case refine_2 => ((intro w; go_simp); try with_reducible rfl)
      refine wpAny_take (i := 4) (v := ?_) rfl (by kernel_rfl) (by kernel_rfl) (by kernel_rfl) (fun _ _ _ h => h) (Or.inl ⟨by kernel_rfl, ?_⟩) ?_
      case refine_2 => ((intro w; go_simp); try with_reducible rfl)
      refine wpAny_take (i := 5) (v := ?_) rfl (by kernel_rfl) (by kernel_rfl) (by kernel_rfl) (fun _ _ _ h => h) (Or.inl ⟨by kernel_rfl, ?_⟩) ?_
      case refine_2 => ((intro w; go_simp); try with_reducible rfl)
      refine wpAny_take (i := 6) (v := ?_) rfl (by kernel_rfl) (by kernel_rfl) (by kernel_rfl) (fun _ _ _ h => h) (Or.inl ⟨by kernel_rfl, ?_⟩) ?_
      case refine_2 => ((intro w; go_simp); try with_reducible rfl)
      refine wpAny_take (i := 7) (v := ?_) rfl (by kernel_rfl) (by kernel_rfl) (by kernel_rfl) (fun _ _ _ h => h) (Or.inl ⟨by kernel_rfl, ?_⟩) ?_
      case refine_2 => ((intro w; go_simp); try with_reducible rfl)
      refine wpAny_take (i := 8) (v := ?_) rfl (by kernel_rfl) (by kernel_rfl) (by kernel_rfl) (fun _ _ _ h => h) (Or.inl ⟨by kernel_rfl, ?_⟩) ?_
      case refine_2 => ((intro w; go_simp); try with_reducible rfl)
      refine wpAny_take (i := 9) (v := ?_) rfl (by kernel_rfl) (by kernel_rfl) (by kernel_rfl) (fun _ _ _ h => h) (Or.inl ⟨by kernel_rfl, ?_⟩) ?_
      case refine_2 => ((intro w; go_simp); try with_reducible rfl)
      refine wpAny_take (i := 10) (v := ?_) rfl (by kernel_rfl) (by kernel_rfl) (by kernel_rfl) (fun _ _ _ h => h) (Or.inl ⟨by kernel_rfl, ?_⟩) ?_
      case refine_2 => ((intro w; go_simp); try with_reducible rfl)
      refine wpAny_take (i := 11) (v := undef) rfl (by kernel_rfl) (by kernel_rfl) (by kernel_rfl) (fun _ _ _ h => h) (Or.inr ⟨by kernel_rfl, rfl⟩) ?_
      refine wpAny_take (i := 12) (v := undef) rfl (by kernel_rfl) (by kernel_rfl) (by kernel_rfl) (fun _ _ _ h => h) (Or.inr ⟨by kernel_rfl, rfl⟩) ?_
      refine wpAny_take (i := 13) (v := undef) rfl (by kernel_rfl) (by kernel_rfl) (by kernel_rfl) (fun _ _ _ h => h) (Or.inr ⟨by kernel_rfl, rfl⟩) ?_
      refine wpAny_take (i := 14) (v := undef) rfl (by kernel_rfl) (by kernel_rfl) (by kernel_rfl) (fun _ _ _ h => h) (Or.inr ⟨by kernel_rfl, rfl⟩) ?_
      refine wpAny_take (i := 15) (v := undef) rfl (by kernel_rfl) (by kernel_rfl) (by kernel_rfl) (fun _ _ _ h => h) (Or.inr ⟨by kernel_rfl, rfl⟩) ?_
      refine wpAny_take (i := 16) (v := undef) rfl (by kernel_rfl) (by kernel_rfl) (by kernel_rfl) (fun _ _ _ h => h) (Or.inr ⟨by kernel_rfl, rfl⟩) ?_
      refine wpAny_take (i := 17) (v := undef) rfl (by kernel_rfl) (by kernel_rfl) (by kernel_rfl) (fun _ _ _ h => h) (Or.inr ⟨by kernel_rfl, rfl⟩) ?_
      refine wpAny_take (i := 18) (v := undef) rfl (by kernel_rfl) (by kernel_rfl) (by kernel_rfl) (fun _ _ _ h => h) (Or.inr ⟨by kernel_rfl, rfl⟩) ?_
      refine wpAny_take (i := 19) (v := undef) rfl (by kernel_rfl) (by kernel_rfl) (by kernel_rfl) (fun _ _ _ h => h) (Or.inr ⟨by kernel_rfl, rfl⟩) ?_
      refine wpAny_ready (rs := [20]) (by kernel_rfl) (by simp) ?_
      refine AllReady.cons rfl (fun K hK => ?_) AllReady.nil
      go_simp
      refine hK _ _ ?_
      clear hK K
      refine wpAny_done (by kernel_rfl) ?_ _
      go_wp2
      go_ret2
      exact ⟨rs, a, a, A2, n2, c2, vs2, HR.out, HS.out, by have := Hl.out; omega, rfl, Ho2.out, Hp2.out, hb1⟩
    have d8 : decide ((m : Int) ≤ (L : Int)) = true := decide_eq_true (by omega)
    have d9 : decide (m ≤ L) = true := decide_eq_true (by omega)
    obtain ⟨Ap, rp, sp, -⟩ := sp0
    have sp := sp.below (by omega) hb1
    obtain ⟨bb, hbb⟩ : ∃ bb, (P.drop a == List.replicate m 0) = bb := ⟨_, rfl⟩
    have Hbb := Lib.hid hbb
    clear hbb
    go_wp2_with fail
    refine wp_region_any (by kernel_rfl) ?_
    try (change wpAny _ _ _ _ _ _ _ (World.drew _))
    refine wpAny_take (i := 0) (v := ?_) rfl (by kernel_rfl) (by kernel_rfl) (by kernel_rfl) (fun _ _ _ h => h) (Or.inl ⟨by kernel_rfl, ?_⟩) ?_
    case refine_2 => ((intro w; go_simp); try with_reducible rfl)
    refine wpAny_take (i := 1) (v := ?_) rfl (by kernel_rfl) (by kernel_rfl) (by kernel_rfl) (fun _ _ _ h => h) (Or.inl ⟨by kernel_rfl, ?_⟩) ?_
    case refine_2 => ((intro w; go_simp); try with_reducible rfl)
    refine wpAny_take (i := 2) (v := ?_) rfl (by kernel_rfl) (by kernel_rfl) (by kernel_rfl) (fun _ _ _ h => h) (Or.inl ⟨by kernel_rfl, ?_⟩) ?_
    case refine_2 => ((intro w; go_simp); try with_reducible rfl)
    refine wpAny_take (i := 3) (v := ?_) rfl (by kernel_rfl) (by kernel_rfl) (by kernel_rfl) (fun _ _ _ h => h) (Or.inl ⟨by kernel_rfl, ?_⟩) ?_
    case refine_2 => ((intro w; go_simp); try with_reducible rfl)
    refine wpAny_take (i := 4) (v := ?_) rfl (by kernel_rfl) (by kernel_rfl) (by kernel_rfl) (fun _ _ _ h => h) (Or.inl ⟨by kernel_rfl, ?_⟩) ?_
    case refine_2 => ((intro w; go_simp); try with_reducible rfl)
    refine wpAny_take (i := 5) (v := ?_) rfl (by kernel_rfl) (by kernel_rfl) (by kernel_rfl) (fun _ _ _ h => h) (Or.inl ⟨by kernel_rfl, ?_⟩) ?_
    case refine_2 => ((intro w; go_simp); try with_reducible rfl)
    refine wpAny_take (i := 6) (v := ?_) rfl (by kernel_rfl) (by kernel_rfl) (by kernel_rfl) (fun _ _ _ h => h) (Or.inl ⟨by kernel_rfl, ?_⟩) ?_
    case refine_2 => ((intro w; go_simp); try with_reducible rfl)
    refine wpAny_take (i := 7) (v := ?_) rfl (by kernel_rfl) (by kernel_rfl) (by kernel_rfl) (fun _ _ _ h => h) (Or.inl ⟨by kernel_rfl, ?_⟩) ?_
    case refine_2 => ((intro w; go_simp); try with_reducible rfl)
    refine wpAny_take (i := 8) (v := ?_) rfl (by kernel_rfl) (by kernel_rfl) (by kernel_rfl) (fun _ _ _ h => h) (Or.inl ⟨by kernel_rfl, ?_⟩) ?_
    case refine_2 => ((intro w; go_simp); try with_reducible rfl)
    refine wpAny_take (i := 9) (v := ?_) rfl (by kernel_rfl) (by kernel_rfl) (by kernel_rfl) (fun _ _ _ h => h) (Or.inl ⟨by kernel_rfl, ?_⟩) ?_
    case refine_2 => ((intro w; go_simp); try with_reducible rfl)
    refine wpAny_take (i := 10) (v := ?_) rfl (by kernel_rfl) (by kernel_rfl) (by kernel_rfl) (fun _ _ _ h => h) (Or.inl ⟨by kernel_rfl, ?_⟩) ?_
    case refine_2 => ((intro w; go_simp); try with_reducible rfl)
    refine wpAny_take (i := 11) (v := ?_) rfl (by kernel_rfl) (by kernel_rfl) (by kernel_rfl) (fun _ _ _ h => h) (Or.inl ⟨by kernel_rfl, ?_⟩) ?_
    case refine_2 => ((intro w; go_simp); try with_reducible rfl)
    refine wpAny_take (i := 12) (v := ?_) rfl (by kernel_rfl) (by kernel_rfl) (by kernel_rfl) (fun _ _ _ h => h) (Or.inl ⟨by kernel_rfl, ?_⟩) ?_
    case refine_2 => ((intro w; go_simp); try with_reducible rfl)
    refine wpAny_take (i := 13) (v := ?_) rfl (by kernel_rfl) (by kernel_rfl) (by kernel_rfl) (fun _ _ _ h => h) (Or.inl ⟨by kernel_rfl, ?_⟩) ?_
    case refine_2 => ((intro w; go_simp); try with_reducible rfl)
    refine wpAny_take (i := 14) (v := ?_) rfl (by kernel_rfl) (by kernel_rfl) (by kernel_rfl) (fun _ _ _ h => h) (Or.inl ⟨by kernel_rfl, ?_⟩) ?_
    case refine_2 => ((intro w; go_simp); try with_reducible rfl)
    refine wpAny_take (i := 15) (v := ?_) rfl (by kernel_rfl) (by kernel_rfl) (by kernel_rfl) (fun _ _ _ h => h) (Or.inl ⟨by kernel_rfl, ?_⟩) ?_
    case refine_2 => ((intro w; go_simp); try with_reducible rfl)
    refine wpAny_take (i := 16) (v := ?_) rfl (by kernel_rfl) (by kernel_rfl) (by kernel_rfl) (fun _ _ _ h => h) (Or.inl ⟨by kernel_rfl, ?_⟩) ?_
    case refine_2 => ((intro w; go_simp); try with_reducible rfl)
    refine wpAny_take (i := 17) (v := ?_) rfl (by kernel_rfl) (by kernel_rfl) (by kernel_rfl) (fun _ _ _ h => h) (Or.inl ⟨by kernel_rfl, ?_⟩) ?_
    case refine_2 => ((intro w; go_simp); try with_reducible rfl)
    refine wpAny_ready (rs := [18]) (by kernel_rfl) (by simp) ?_
    refine AllReady.cons rfl (fun K hK => ?_) AllReady.nil
    go_simp
    obtain ⟨w4, hmk, ho4, hb4⟩ := run_mkB w1.drew 0 m (m : Int) (m : Int) rfl rfl (by omega) (Nat.zero_le _)
    rw [hmk]
    go_simp
    refine hK _ _ ?_
    clear hK K hmk
    refine wpAny_ready (rs := [19]) (by kernel_rfl) (by simp) ?_
    refine AllReady.cons rfl (fun K hK => ?_) AllReady.nil
    go_simp
    refine (same_is _ Ap m (c - a) _ _ m m _ bb Hbb (sp.below (by omega) hb4) (OwnB.sl ho4)).mono ?_
    rintro e w' ⟨rfl, rfl⟩
    go_simp
    refine hK _ _ ?_
    clear hK K
    refine wpAny_ready (rs := [20]) (by kernel_rfl) (by simp) ?_
    refine AllReady.cons rfl (fun K hK => ?_) AllReady.nil
    go_simp
    refine hK _ _ ?_
    clear hK K
    refine wpAny_done (by kernel_rfl) ?_ _
    have Ho2 := Lib.hid (Own.below Ho2.out hb4)
    have Hp2 := Lib.hid (Hp2.out.below hb4)
    have hb1 := hb1.trans (hb4.mono hb1.size)
    clear hb4 ho4 sp rp Hbb
    cases bb
    case false =>
      go_wp2
      go_ret2
      exact ⟨rs, a, a, A2, n2, c2, vs2, HR.out, HS.out, by have := Hl.out; omega, rfl, Ho2.out, Hp2.out, hb1⟩
    case true =>
      go_wp2
      go_ret2
      exact ⟨rs, a, n, A2, n2, c2, vs2, HR.out, HS.out, by have := Hl.out; omega, rfl, Ho2.out, Hp2.out, hb1⟩
end Go.Proofs.YtpjinmiedanebaaDoor
