/-
  TabSpansW, TabPagesW in one text. No condition but sizes.
-/
import Derived.Test.YtpffieogkfndaaaGreatDoorJSetWalk
import Derived.Test.YtpffieogkfndaaaGreatDoorJJoin
import Derived.Test.YtpffieogkfndaaaGreatDoorJEntSort
import Derived.Test.YtpffieogkfndaaaGreatDoorJLeafPlace
namespace Go.Proofs.YtpffieogkfndaaaGreatDoor
open Go.RowKit
set_option maxRecDepth 20000
set_option linter.unusedVariables false
set_option linter.unusedSimpArgs false
/-- the spans, or that there are none; in new memory -/
def GotSpans (w : World) (r : Option (List SpanL)) (e : Ending) (w' : World) : Prop :=
  ∃ A n c, e = .returned (.tuple #[.slice A n c, .bool r.isSome]) ∧ SlR w' (fun b => w.heap.size ≤ b) A n c (r.getD []) ∧ Below w.heap.size w w'
/-- what is known at each round's head -/
def SpansRel (w : World) (r : Option (List SpanL)) (n0 : Nat) (pv ov : Value) (wr : World) : Prop :=
  ∃ (p : List UInt8) (out : List SpanL) (m : Nat) (A : Option Addr) (n c : Nat) (A2 : Option Addr) (n2 c2 : Nat), pv = .slice A n c ∧ ov = .slice A2 n2 c2 ∧ Below w.heap.size w wr ∧ Sl wr 1 A n c (bc p) ∧ OwnZ wr w.heap.size 72 A2 n2 c2 out ∧
    Hid ((parseS m p).map (out ++ ·) = r) ∧ Hid (p.length ≤ m) ∧ n2 + n ≤ n0
theorem take_less (p : List UInt8) (h : (takeL p).2.2 = 0) : (takeL p).2.1.length < p.length := by
  have h1 := take_inv p h
  have h2 := num_len (takeL p).1
  have h3 := congrArg List.length h1
  rw [List.length_append] at h3
  omega
theorem takeL_u64 (p : List UInt8) : (UInt64.ofNat (takeL p).1).toNat = (takeL p).1 := by
  rw [UInt64.toNat_ofNat']
  exact Nat.mod_eq_of_lt (takeL_lt p)
set_option maxHeartbeats 16000000 in
theorem tspans_any (w : World) (A : Option Addr) (n c : Nat) (p : List UInt8) (h : Sl w 1 A n c (bc p)) (hn : n ≤ 1000000) :
    Calls Tryz.prog 65 #[.slice A n c] w (GotSpans w (spansL p)) := by
  have hl := h.lenb
  obtain ⟨r, hr⟩ : ∃ r, spansL p = r := ⟨_, rfl⟩
  rw [hr]
  unfold spansL at hr
  have hr0 : (parseS p.length p).map ([] ++ ·) = r := by rw [← hr]; cases parseS p.length p <;> simp
  have Hr := Lib.hid hr0
  clear hr hr0 hl
  unfold GotSpans
  go_enter Tryz.func65, Tryz.ntmps65
  go_wp2
  go_loopw [0, 4] (SpansRel w r n) (fun pv _ _ => (match pv with | .slice _ k _ => k | _ => 0))
  case atStart => exact ⟨p, [], p.length, A, n, c, none, 0, 0, rfl, rfl, Below.refl _ _, h, OwnZ.nil _ _ _ _, Hr.out, Nat.le_refl _, by omega⟩
  case round =>
    obtain ⟨q, out, m, A1, n1, c1, A2, n2, c2, rfl, rfl, hbr, hq, ho2, HP, HM, hnn⟩ := hrel
    have hql := hq.lenb
    have hout := ho2.lenR
    by_cases hz : n1 = 0
    case pos =>
      subst hz
      have hq0 : q = [] := List.length_eq_zero_iff.1 hql
      have er : r = some out := by
        rw [← HP.out, hq0]
        cases m <;> simp [parseS]
      subst er
      clear HP HM h
      have hS := ho2.slB
      have HS := Lib.hid hS
      clear hS ho2 hout hql
      go_wp2
      go_ret2
      exact ⟨A2, n2, c2, rfl, HS.out, hbr⟩
    have hq1 : q ≠ [] := fun e => by rw [e] at hql; simp at hql; omega
    obtain ⟨m, rfl⟩ : ∃ m', m = m' + 1 := ⟨m - 1, by have := HM.out; omega⟩
    have hp := HP.out
    unfold parseS at hp
    rw [if_neg hq1] at hp
    have ht1 := takeText_len q 64
    have ht2 := takeText_len (takeTextL q 64).2.1 64
    have ht3 := take_less (takeTextL (takeTextL q 64).2.1 64).2.1
    have hu := takeL_u64 (takeTextL (takeTextL q 64).2.1 64).2.1
    have k1 := taketext_new wr A1 n1 c1 q hq (by omega) 64 (by omega)
    have k2 := fun w' A n c (h : Sl w' 1 A n c (bc (takeTextL q 64).2.1)) hn => taketext_new w' A n c _ h hn 64 (by omega)
    have k3 := fun w' A n c (h : Sl w' 1 A n c (bc (takeTextL (takeTextL q 64).2.1 64).2.1)) hn => take_any w' A n c _ h hn
    unfold TookN at k1 k2
    unfold TookB at k3
    generalize takeL (takeTextL (takeTextL q 64).2.1 64).2.1 = T3 at *
    generalize takeTextL (takeTextL q 64).2.1 64 = T2 at *
    generalize takeTextL q 64 = T1 at *
    obtain ⟨lo, r1, e1⟩ := T1
    obtain ⟨hi, r2, e2⟩ := T2
    obtain ⟨sq, r3, e3⟩ := T3
    simp only at *
    have Hp := Lib.hid hp
    have K1 := Lib.hid k1
    have K2 := Lib.hid k2
    have K3 := Lib.hid k3
    have Hu := Lib.hid hu
    have Ht1 := Lib.hid ht1
    have Ht2 := Lib.hid ht2
    have Ht3 := Lib.hid ht3
    clear hp k1 k2 k3 hu ht1 ht2 ht3 hql hq1 HP h
    go_wp2_with fail
    refine K1.out.mono ?_
    rintro e w1 ⟨A3, n3, c3, A4, n4, c4, rfl, s3, s4, hb1, N3, -⟩
    have hn4 : n4 ≤ 1000000 := by have := s4.lenb; have := Ht1.out; have := hq.lenb; omega
    have hlt2 : ∀ b, blk A2 c2 = some b → b < wr.heap.size := fun b q => (ho2.lt b q).2
    have ho2 := ho2.below hb1
    have hbs := hbr.size
    have hww := hb1.size
    have hbr := hbr.trans (hb1.mono hbr.size)
    clear K1 hb1
    go_wp2_with fail
    refine (K2.out w1 A4 n4 c4 s4 (by omega)).mono ?_
    rintro e w2 ⟨A5, n5, c5, A6, n6, c6, rfl, s5, s6, hb2, N5, -⟩
    have hn6 : n6 ≤ 1000000 := by have := s6.lenb; have := Ht2.out; have := s4.lenb; omega
    have s3 := s3.below (by omega) hb2
    have ho2 := ho2.below hb2
    have hbs2 := hbr.size
    have hbr := hbr.trans (hb2.mono hbr.size)
    have hbw2 := hb2.size
    clear K2 hb2
    have hz2 : wr.heap.size ≤ w2.heap.size := Nat.le_trans hww hbw2
    go_wp2_with fail
    refine (K3.out w2 A6 n6 c6 s6 (by omega)).mono ?_
    rintro e w3 ⟨A7, n7, c7, rfl, ho7, hb3⟩
    have s3 := s3.below (by omega) hb3
    have s5 := s5.below (by omega) hb3
    have ho2 := ho2.below hb3
    have hbr := hbr.trans (hb3.mono hbr.size)
    have s7 := OwnB.sl ho7
    have u7 := fun (b : Nat) (hn : 0 < n7) q => own_at (b := b) ho7 hn q
    clear K3 hb3 ho7
    by_cases g1 : e1 = 0
    case neg =>
      have hr : r = none := by
        have := Hp.out
        rw [if_pos (by omega)] at this
        exact this.symm
      subst hr
      have t1 : ((e1 : Int) == 0) = false := by simp; omega
      have t2 : ((e1 : Int) != 0) = true := by simp; omega
      clear Hp Hu Ht1 Ht2 Ht3
      go_wp2
      go_ret2
      exact ⟨none, 0, 0, rfl, SlR.nilnil _ _, hbr⟩
    subst g1
    by_cases g2 : e2 = 0
    case neg =>
      have hr : r = none := by
        have := Hp.out
        rw [if_pos (by omega)] at this
        exact this.symm
      subst hr
      have t1 : ((e2 : Int) == 0) = false := by simp; omega
      have t2 : ((e2 : Int) != 0) = true := by simp; omega
      clear Hp Hu Ht1 Ht2 Ht3
      go_wp2
      go_ret2
      exact ⟨none, 0, 0, rfl, SlR.nilnil _ _, hbr⟩
    subst g2
    by_cases g3 : e3 = 0
    case neg =>
      have hr : r = none := by
        have := Hp.out
        rw [if_pos (by omega)] at this
        exact this.symm
      subst hr
      have t1 : ((e3 : Int) == 0) = false := by simp; omega
      have t2 : ((e3 : Int) != 0) = true := by simp; omega
      clear Hp Hu Ht1 Ht2 Ht3
      go_wp2
      go_ret2
      exact ⟨none, 0, 0, rfl, SlR.nilnil _ _, hbr⟩
    subst g3
    have hp := Hp.out
    rw [if_neg (by omega)] at hp
    have hl1 := Ht1.out
    have hl2 := Ht2.out
    have hl3 := Ht3.out rfl
    have g1 := hq.lenb
    have g7 := s7.lenb
    have hlt7 : n7 < n1 := by omega
    have hm7 : r3.length ≤ m := by have := HM.out; omega
    have hnew : (parseS m r3).map ((out ++ [⟨lo, hi, UInt64.ofNat sq⟩]) ++ ·) = r := by
      rw [← hp, Option.map_map]
      congr 1
      funext l
      simp
    have hrow := spanRow w3 ⟨lo, hi, UInt64.ofNat sq⟩ sq Hu.out (fun b => blk A2 c2 ≠ some b ∧ w.heap.size ≤ b) A3 n3 c3 A5 n5 c5 s3 (fun b hn q => by
      have h1 := N3 b hn q
      exact ⟨fun r => by have := hlt2 b r; omega, by omega⟩) s5 (fun b hn q => by
      have h1 := N5 b hn q
      exact ⟨fun r => by have := hlt2 b r; omega, by omega⟩) 72
    have al := (Below.refl w3.heap.size w3).alloc (Nat.le_refl _) (.cells #[.slice A3 n3 c3, .slice A5 n5 c5, .int .u64 (sq : Int)] 72)
    have s7 := s7.below (by omega) al
    have ho2 := ho2.below al
    have hbr := hbr.trans (al.mono hbr.size)
    have Hnew := Lib.hid hnew
    have Hm7 := Lib.hid hm7
    clear hp hl1 hl2 hl3 g1 g7 hnew hm7 al s3 s5 Hp Hu Ht1 Ht2 Ht3 HM N3 N5 hq s4 s6
    go_wp2_with (at_builtin; refine wpList_appZ _ rfl (.tmp 43) (.tmp 48) 23 rfl w.heap.size 72 _ 56 Tryz.underlying23 infoSpan rfl A2 n2 c2 _ rfl ho2 _ 1 1 [⟨lo, hi, UInt64.ofNat sq⟩] rfl hrow ?_ ?_ ?_ ?_)
    · unfold maxLen; omega
    · omega
    · first | exact hbr.size | (have := hbr.size; rw [World.size_alloc] at this; omega)
    intro A9 c9 w9 ho9 hg9 _
    have s7 := s7.grown (by omega) hg9 (fun hn b hb q => by have := hlt2 b q; have := u7 b hn hb; omega)
    have hbr9 := hbr.grown hg9 hbr.size (fun b hb => (ho2.lt b hb).1)
    clear hrow ho2 hg9 u7 hlt2
    go_wp2
    go_roundw
    case rel => exact ⟨r3, _, m, A7, n7, c7, A9, _, c9, rfl, rfl, hbr9, s7, ho9, Hnew, Hm7, by omega⟩
    case measure => exact hlt7
end Go.Proofs.YtpffieogkfndaaaGreatDoor

namespace Go.Proofs.YtpffieogkfndaaaGreatDoor
open Go.RowKit
set_option maxRecDepth 20000
set_option linter.unusedVariables false
set_option linter.unusedSimpArgs false
instance : Rep PageL where
  size := 5
  cells w p cs x := ∃ v, cs = [v, u64v x.last.seq, u8v x.last.kind, .int .i64 (x.lo : Int), .int .i64 (x.hi : Int)] ∧ Bk w p v x.last.user
  pos := by omega
  len := by rintro w p cs x ⟨v, rfl, _⟩; rfl
  one := by
    rintro w p cs x ⟨v, rfl, h⟩ u hu
    simp at hu
    rcases hu with rfl | rfl | rfl | rfl | rfl
    · exact bk_one h
    · rfl
    · rfl
    · rfl
    · rfl
  move := by
    rintro w w' p q cs x ⟨v, rfl, h⟩ hm
    exact ⟨v, rfl, h.move hm⟩
theorem infoPage : (Tryz.prog.info? 142).map (fun i => (i.zero, i.size, i.bytes)) = some (some (.agg #[.slice none 0 0, .int .u64 0, .int .u8 0, .int .i64 0, .int .i64 0]), 5, 56) := by kernel_rfl
theorem pageRow (w : World) (x : PageL) (s k a b : Nat) (hs : x.last.seq.toNat = s) (hk : x.last.kind.toNat = k) (ha : x.lo = a) (hb : x.hi = b) (p : Nat → Prop) (A3 : Option Addr) (n3 c3 : Nat) (s3 : Sl w 1 A3 n3 c3 (bc x.last.user)) (h3 : ∀ b, 0 < n3 → A3.map (·.block) = some b → p b) (e : TypeId) :
    ∃ xs, Sl (w.alloc (.cells #[.slice A3 n3 c3, .int .u64 (s : Int), .int .u8 (k : Int), .int .i64 (a : Int), .int .i64 (b : Int)] e)) 5 (some ⟨w.heap.size, 0, none⟩) 1 1 xs ∧ RowC (w.alloc (.cells #[.slice A3 n3 c3, .int .u64 (s : Int), .int .u8 (k : Int), .int .i64 (a : Int), .int .i64 (b : Int)] e)) p xs [x] := by
  subst hs hk ha hb
  have al := (Below.refl w.heap.size w).alloc (Nat.le_refl _) (.cells #[.slice A3 n3 c3, .int .u64 (x.last.seq.toNat : Int), .int .u8 (x.last.kind.toNat : Int), .int .i64 (x.lo : Int), .int .i64 (x.hi : Int)] e)
  exact ⟨_, ⟨rfl, Nat.le_refl _, by unfold maxLen; omega, fun _ => ⟨w.heap.size, 0, rfl, fun j u hu => by rw [cell_of_row _ _ _ _ _ _ (heap_alloc_new w _)]; simpa [u8v, u64v] using hu⟩⟩, RowC.single ⟨_, rfl, ⟨A3, n3, c3, rfl, s3.below (by omega) al, h3⟩⟩⟩
/-- the pages, or that there are none; in new memory -/
def GotPages (w : World) (r : Option (List PageL)) (e : Ending) (w' : World) : Prop :=
  ∃ A n c, e = .returned (.tuple #[.slice A n c, .bool r.isSome]) ∧ SlR w' (fun b => w.heap.size ≤ b) A n c (r.getD []) ∧ Below w.heap.size w w'
def PagesRel (w : World) (r : Option (List PageL)) (n0 : Nat) (pv ov av : Value) (wr : World) : Prop :=
  ∃ (p : List UInt8) (out : List PageL) (m at_ : Nat) (A : Option Addr) (n c : Nat) (A2 : Option Addr) (n2 c2 : Nat), pv = .slice A n c ∧ ov = .slice A2 n2 c2 ∧ av = .int .i64 (at_ : Int) ∧ Below w.heap.size w wr ∧ Sl wr 1 A n c (bc p) ∧ OwnZ wr w.heap.size 142 A2 n2 c2 out ∧
    Hid ((parseP m at_ p).map (out ++ ·) = r) ∧ Hid (p.length ≤ m) ∧ n2 + n ≤ n0 ∧ at_ ≤ 1048576 * n2
theorem keyRead_le (p : List UInt8) : (keyReadL p).2.1.length ≤ p.length := by
  have := takeText_len p 64
  unfold keyReadL
  repeat' split
  all_goals simp
  omega
set_option maxHeartbeats 16000000 in
theorem tpages_any (w : World) (A : Option Addr) (n c : Nat) (p : List UInt8) (h : Sl w 1 A n c (bc p)) (hn : n ≤ 1000000) :
    Calls Tryz.prog 64 #[.slice A n c] w (GotPages w (pagesL p)) := by
  have hl := h.lenb
  obtain ⟨r, hr⟩ : ∃ r, pagesL p = r := ⟨_, rfl⟩
  rw [hr]
  unfold pagesL at hr
  have hr0 : (parseP p.length 0 p).map ([] ++ ·) = r := by rw [← hr]; cases parseP p.length 0 p <;> simp
  have Hr := Lib.hid hr0
  clear hr hr0 hl
  unfold GotPages
  go_enter Tryz.func64, Tryz.ntmps64
  go_wp2
  go_loopw [0, 4, 5] (PagesRel w r n) (fun pv _ _ _ => (match pv with | .slice _ k _ => k | _ => 0))
  case atStart => exact ⟨p, [], p.length, 0, A, n, c, none, 0, 0, rfl, rfl, rfl, Below.refl _ _, h, OwnZ.nil _ _ _ _, Hr.out, Nat.le_refl _, by omega, by omega⟩
  case round =>
    obtain ⟨q, out, m, at_, A1, n1, c1, A2, n2, c2, rfl, rfl, rfl, hbr, hq, ho2, HP, HM, hnn, hat⟩ := hrel
    have hql := hq.lenb
    have hout := ho2.lenR
    by_cases hz : n1 = 0
    case pos =>
      subst hz
      have hq0 : q = [] := List.length_eq_zero_iff.1 hql
      have er : r = some out := by
        rw [← HP.out, hq0]
        cases m <;> simp [parseP]
      subst er
      clear HP HM h
      have hS := ho2.slB
      have HS := Lib.hid hS
      clear hS ho2 hout hql
      go_wp2
      go_ret2
      exact ⟨A2, n2, c2, rfl, HS.out, hbr⟩
    have hq1 : q ≠ [] := fun e => by rw [e] at hql; simp at hql; omega
    obtain ⟨m, rfl⟩ : ∃ m', m = m' + 1 := ⟨m - 1, by have := HM.out; omega⟩
    have hp := HP.out
    unfold parseP at hp
    rw [if_neg hq1] at hp
    have ht1 := keyRead_le q
    have ht3 := take_less (keyReadL q).2.1
    have hu := takeL_lt (keyReadL q).2.1
    have k1 := kread_new wr A1 n1 c1 q hq (by omega)
    have k3 := fun w' A n c (h : Sl w' 1 A n c (bc (keyReadL q).2.1)) hn => take_any w' A n c _ h hn
    unfold GotReadN at k1
    unfold TookB at k3
    generalize takeL (keyReadL q).2.1 = T3 at *
    generalize keyReadL q = T1 at *
    obtain ⟨kx, r1, e1⟩ := T1
    obtain ⟨sq, r3, e3⟩ := T3
    simp only at *
    obtain ⟨ks, hks⟩ : ∃ s, kx.seq.toNat = s := ⟨_, rfl⟩
    obtain ⟨kd, hkd⟩ : ∃ s, kx.kind.toNat = s := ⟨_, rfl⟩
    rw [hks, hkd] at k1
    have Hks := Lib.hid hks
    have Hkd := Lib.hid hkd
    have Hp := Lib.hid hp
    have K1 := Lib.hid k1
    have K3 := Lib.hid k3
    have Ht1 := Lib.hid ht1
    have Ht3 := Lib.hid ht3
    clear hp k1 k3 ht1 ht3 hql hq1 HP h hks hkd
    go_wp2_with fail
    refine K1.out.mono ?_
    rintro e w1 ⟨A3, n3, c3, A4, n4, c4, rfl, s3, s4, hb1, N3⟩
    have hn4 : n4 ≤ 1000000 := by have := s4.lenb; have := Ht1.out; have := hq.lenb; omega
    have hlt2 : ∀ b, blk A2 c2 = some b → b < wr.heap.size := fun b q => (ho2.lt b q).2
    have ho2 := ho2.below hb1
    have hbs := hbr.size
    have hww := hb1.size
    have hbr := hbr.trans (hb1.mono hbr.size)
    have al := (Below.refl w1.heap.size w1).alloc (Nat.le_refl _) (.cells #[.slice A3 n3 c3, .int .u64 (ks : Int), .int .u8 (kd : Int)] 67)
    have kB := Bx.fresh w1 (.slice A3 n3 c3) (.int .u64 (ks : Int)) (.int .u8 (kd : Int)) 67
    have s3 := s3.below (by omega) al
    have s4 := s4.below (by omega) al
    have ho2 := ho2.below al
    have hbr := hbr.trans (al.mono hbr.size)
    have hww2 := Nat.le_trans hww al.size
    generalize hW : (w1.alloc (.cells #[.slice A3 n3 c3, .int .u64 (ks : Int), .int .u8 (kd : Int)] 67)) = w2 at *
    obtain ⟨x0, x1, x2, x3⟩ := id kB
    clear K1 hb1 al
    go_wp2_with fail
    try rw [hW]
    refine (K3.out w2 A4 n4 c4 s4 (by omega)).mono ?_
    rintro e w3 ⟨A7, n7, c7, rfl, ho7, hb3⟩
    have s3 := s3.below (by omega) hb3
    have kB := kB.below hb3
    have ho2 := ho2.below hb3
    have hbr := hbr.trans (hb3.mono hbr.size)
    have s7 := OwnB.sl ho7
    have u7 := fun (b : Nat) (hn : 0 < n7) q => own_at (b := b) ho7 hn q
    clear K3 hb3 ho7 x0 x1 x2 x3 hW
    obtain ⟨x0, x1, x2, x3⟩ := id kB
    by_cases g1 : e1 = 0
    case neg =>
      have hr : r = none := by
        have := Hp.out
        rw [if_pos (by omega)] at this
        exact this.symm
      subst hr
      have t1 : ((e1 : Int) == 0) = false := by simp; omega
      have t2 : ((e1 : Int) != 0) = true := by simp; omega
      clear Hp Ht1 Ht3
      go_wp2
      go_ret2
      exact ⟨none, 0, 0, rfl, SlR.nilnil _ _, hbr⟩
    subst g1
    by_cases g3 : e3 = 0
    case neg =>
      have hr : r = none := by
        have := Hp.out
        rw [if_pos (by omega)] at this
        exact this.symm
      subst hr
      have t1 : ((e3 : Int) == 0) = false := by simp; omega
      have t2 : ((e3 : Int) != 0) = true := by simp; omega
      clear Hp Ht1 Ht3
      go_wp2
      go_ret2
      exact ⟨none, 0, 0, rfl, SlR.nilnil _ _, hbr⟩
    subst g3
    by_cases gs : sq ≤ 1048576
    case neg =>
      have hr : r = none := by
        have := Hp.out
        rw [if_pos (by omega)] at this
        exact this.symm
      subst hr
      have t1 : decide ((1048576 : Int) < (sq : Int)) = true := decide_eq_true (by omega)
      clear Hp Ht1 Ht3
      go_wp2
      go_ret2
      exact ⟨none, 0, 0, rfl, SlR.nilnil _ _, hbr⟩
    have t1 : decide ((1048576 : Int) < (sq : Int)) = false := decide_eq_false (by omega)
    have hp := Hp.out
    rw [if_neg (by omega)] at hp
    have hl1 := Ht1.out
    have hl3 := Ht3.out rfl
    have g1 := hq.lenb
    have g7' := s7.lenb
    have hlt7 : n7 < n1 := by omega
    have hm7 : r3.length ≤ m := by have := HM.out; omega
    have hnew : (parseP m (at_ + sq) r3).map ((out ++ [⟨kx, at_, at_ + sq⟩]) ++ ·) = r := by
      rw [← hp, Option.map_map]
      congr 1
      funext l
      simp
    obtain ⟨a2, ha2⟩ : ∃ a2, at_ + sq = a2 := ⟨_, rfl⟩
    rw [ha2] at hnew
    have ea : (at_ : Int) + (sq : Int) = (a2 : Int) := by omega
    have hrow := pageRow w3 ⟨kx, at_, a2⟩ ks kd at_ a2 Hks.out Hkd.out rfl rfl (fun b => blk A2 c2 ≠ some b ∧ w.heap.size ≤ b) A3 n3 c3 s3 (fun b hn q => by
      have h1 := N3 b hn q
      exact ⟨fun r => by have := hlt2 b r; omega, by omega⟩) 142
    have al := (Below.refl w3.heap.size w3).alloc (Nat.le_refl _) (.cells #[.slice A3 n3 c3, .int .u64 (ks : Int), .int .u8 (kd : Int), .int .i64 (at_ : Int), .int .i64 (a2 : Int)] 142)
    have s7 := s7.below (by omega) al
    have ho2 := ho2.below al
    have hbr := hbr.trans (al.mono hbr.size)
    have Hnew := Lib.hid hnew
    have Hm7 := Lib.hid hm7
    have ha3 : a2 ≤ 1048576 * (n2 + 1) := by omega
    have hsq : sq ≤ 1048576 := by omega
    have hn2l : n2 + 1 ≤ 1000000 := by omega
    clear hp hl1 hl3 g1 g7' hnew hm7 al s3 Hp Ht1 Ht3 HM N3 hq s4
    go_wp2_with (at_builtin; refine wpList_appZ _ rfl (.tmp 36) (.tmp 44) 97 rfl w.heap.size 142 _ 56 Tryz.underlying97 infoPage rfl A2 n2 c2 _ rfl ho2 _ 1 1 [⟨kx, at_, a2⟩] rfl hrow ?_ ?_ ?_ ?_)
    · unfold maxLen; omega
    · omega
    · first | exact hbr.size | (have := hbr.size; rw [World.size_alloc] at this; omega)
    intro A9 c9 w9 ho9 hg9 _
    have s7 := s7.grown (by omega) hg9 (fun hn b hb q => by have := hlt2 b q; have := u7 b hn hb; omega)
    have hbr9 := hbr.grown hg9 hbr.size (fun b hb => (ho2.lt b hb).1)
    clear hrow ho2 hg9 u7 hlt2 x0 x1 x2 x3 kB
    go_wp2
    go_roundw
    case rel => exact ⟨r3, _, m, a2, A7, n7, c7, A9, _, c9, rfl, rfl, by go_num, hbr9, s7, ho9, Hnew, Hm7, by omega, by omega⟩
    case measure => exact hlt7
end Go.Proofs.YtpffieogkfndaaaGreatDoor
