/-
  How an entry is read, the program's way and the reference's. (Printed by gennote6.py.) No condition but a size.
-/
import Derived.Test.YtpjinmiedanebaaDoorNoteBytesR
import Derived.Test.YtpjinmiedanebaaDoorJReplayPlain
import Derived.Test.YtpjinmiedanebaaDoorBatchReadR
import Derived.Test.YtpjinmiedanebaaDoorJFrameR
namespace Go.Proofs.YtpjinmiedanebaaDoor
open Go.RowKit
set_option maxRecDepth 20000
theorem readNote_eq (p : List UInt8) : readNoteL p =
    if (takeL p).2.2 = 0 ∧ (takeL (takeL p).2.1).2.2 = 0 ∧ (takeTextL (takeL (takeL p).2.1).2.1 32).2.2 = 0 ∧ (if (readOpsL (takeTextL (takeL (takeL p).2.1).2.1 32).2.1).isSome then 0 else 4 : Nat) = 0 ∧ (takeL p).1 ≤ 4 ∧
      formL ⟨UInt8.ofNat (takeL p).1, UInt64.ofNat (takeL (takeL p).2.1).1, (takeTextL (takeL (takeL p).2.1).2.1 32).1, (readOpsL (takeTextL (takeL (takeL p).2.1).2.1 32).2.1).getD []⟩ = true ∧
      noteBytesL ⟨UInt8.ofNat (takeL p).1, UInt64.ofNat (takeL (takeL p).2.1).1, (takeTextL (takeL (takeL p).2.1).2.1 32).1, (readOpsL (takeTextL (takeL (takeL p).2.1).2.1 32).2.1).getD []⟩ = p
    then some ⟨UInt8.ofNat (takeL p).1, UInt64.ofNat (takeL (takeL p).2.1).1, (takeTextL (takeL (takeL p).2.1).2.1 32).1, (readOpsL (takeTextL (takeL (takeL p).2.1).2.1 32).2.1).getD []⟩ else none := by
  unfold readNoteL notePartsL
  simp only
  generalize takeL p = a1
  generalize takeL a1.2.1 = a2
  generalize takeTextL a2.2.1 32 = a3
  by_cases c : a1.2.2 = 0 ∧ a2.2.2 = 0 ∧ a3.2.2 = 0
  · rw [if_pos c]
    simp only
    generalize readOpsL a3.2.1 = R
    cases R with
    | none => simp
    | some x => simp [c.1, c.2.1, c.2.2]
  · rw [if_neg c, if_neg (fun z => c ⟨z.1, z.2.1, z.2.2.1⟩)]
/-- an entry and an error's number that a call gives back; its bytes and ops lie in new memory -/
def GotNote (w : World) (r : Option NoteL) (e : Ending) (w' : World) : Prop :=
  ∃ (A : Option Addr) (n c : Nat) (B : Option Addr) (m d : Nat), e = .returned (.tuple #[.agg #[.int .u8 ((r.getD ⟨0, 0, [], []⟩).kind.toNat : Int), .int .u64 ((r.getD ⟨0, 0, [], []⟩).seq.toNat : Int), .slice A n c, .slice B m d], .int .i64 ((if r.isSome then 0 else 4 : Nat) : Int)]) ∧
    Sl w' 1 A n c (bc (r.getD ⟨0, 0, [], []⟩).name) ∧ NewAt w A n ∧ SlR w' (fun b => w.heap.size ≤ b) B m d (r.getD ⟨0, 0, [], []⟩).ops ∧ Below w.heap.size w w'
theorem got_note {w w1 w2 : World} {x : NoteL} {kd N2 : Nat} {A : Option Addr} {n c : Nat} {B : Option Addr} {m d : Nat} (al : Below w.heap.size w w1) (hg : w1.grownBy w2 (some w.heap.size))
    (g3 : Sl w1 1 A n c (bc x.name)) (hN : ∀ b, 0 < n → A.map (·.block) = some b → w.heap.size + 1 ≤ b) (g5 : SlR w1 (fun b => w.heap.size + 1 ≤ b) B m d x.ops) (h1 : x.kind.toNat = kd) (h2 : x.seq.toNat = N2) :
    GotNote w (some x) (.returned (.tuple #[.agg #[.int .u8 (kd : Int), .int .u64 (N2 : Int), .slice A n c, .slice B m d], .int .i64 0])) w2 := by
  subst h1 h2
  refine ⟨A, n, c, B, m, d, rfl, g3.grown (by omega) hg fun hn b e q => ?_, fun b hn e => by have := hN b hn e; omega, g5.move fun b hl hp => ⟨hg.block b hl fun q => ?_, by omega⟩, al.grown hg al.size fun b hb => ?_⟩
  · have := hN b hn e
    simp at q
    omega
  · simp at q
    omega
  · simp at hb
    omega
set_option maxHeartbeats 16000000 in
theorem nread_any (w : World) (A : Option Addr) (n c : Nat) (p : List UInt8) (h : Sl w 1 A n c (bc p)) (hn : n ≤ 1000000) :
    Calls Tryd.prog 22 #[.slice A n c] w (GotNote w (readNoteL p)) := by
  have hl := h.lenb
  obtain ⟨r, hr⟩ : ∃ r, readNoteL p = r := ⟨_, rfl⟩
  rw [hr]
  rw [readNote_eq p] at hr
  have t1 := takeL_len p
  have t2 := takeL_len (takeL p).2.1
  have t3 := takeText_len (takeL (takeL p).2.1).2.1 32
  have u1 := takeL_lt (takeL p).2.1
  have ha := fun w' (hb : Below w.heap.size w w') => take_any w' A n c p (h.below (by omega) hb) (by omega)
  have hb := fun w' A1 n1 c1 (h1 : Sl w' 1 A1 n1 c1 (bc (takeL p).2.1)) => take_any w' A1 n1 c1 _ h1 (by have := h1.lenb; omega)
  have hc := fun w' A1 n1 c1 (h1 : Sl w' 1 A1 n1 c1 (bc (takeL (takeL p).2.1).2.1)) => taketext_new w' A1 n1 c1 _ h1 (by have := h1.lenb; omega) 32 (by omega)
  have hd := fun w' A1 n1 c1 (h1 : Sl w' 1 A1 n1 c1 (bc (takeTextL (takeL (takeL p).2.1).2.1 32).2.1)) => bread_new w' A1 n1 c1 _ h1 (by have := h1.lenb; omega)
  unfold TookB at ha hb
  unfold TookN at hc
  unfold GotOpsN at hd
  generalize takeL p = a1 at *
  generalize takeL a1.2.1 = a2 at *
  generalize takeTextL a2.2.1 32 = a3 at *
  generalize readOpsL a3.2.1 = R at *
  obtain ⟨N1, p1, e1⟩ := a1
  obtain ⟨N2, p2, e2⟩ := a2
  obtain ⟨name, p3, e3⟩ := a3
  simp only at ha hb hc hd hr t1 t2 t3 u1
  have Ha := Lib.hid ha
  have Hb := Lib.hid hb
  have Hc := Lib.hid hc
  have Hd := Lib.hid hd
  have s1 := h
  clear ha hb hc hd t1 t2 t3
  obtain ⟨ops, hops⟩ : ∃ ops, R.getD [] = ops := ⟨_, rfl⟩
  obtain ⟨q, hq⟩ : ∃ q : Nat, (if R.isSome then 0 else 4 : Nat) = q := ⟨_, rfl⟩
  rw [hq, hops] at hr
  have hrr := hr.symm
  have Hrr := Lib.hid hrr
  have Hops := Lib.hid hops
  have Hq := Lib.hid hq
  have Hl := Lib.hid hl
  have Hn := Lib.hid hn
  clear hr hrr hops hq hl h
  have kR := Bx4.fresh w (.int .u8 0) (.int .u64 0) (.slice none 0 0) (.slice none 0 0) 54
  have al := (Below.refl w.heap.size w).alloc (Nat.le_refl _) (.cells #[.int .u8 0, .int .u64 0, .slice none 0 0, .slice none 0 0] 54)
  have s1 := s1.below (by omega) al
  go_enter Tryd.func22, Tryd.ntmps22
  go_wp2_with fail
  generalize (w.alloc (.cells #[.int .u8 0, .int .u64 0, .slice none 0 0, .slice none 0 0] 54)) = w0 at *
  have hz0 := al.size
  have hzlt := kR.lt
  refine (Ha.out _ al).mono ?_
  rintro e w_1 ⟨A1, n1, c1, rfl, o1, hb_1⟩
  have s1 := s1.below (by omega) hb_1
  have kR := kR.below hb_1
  have al := al.trans (hb_1.mono al.size)
  clear hb_1
  have g1 := OwnB.sl o1
  clear o1
  go_wp2_with fail
  refine (Hb.out _ A1 n1 c1 g1).mono ?_
  rintro e w_2 ⟨A2, n2, c2, rfl, o2, hb_2⟩
  have s1 := s1.below (by omega) hb_2
  have kR := kR.below hb_2
  have al := al.trans (hb_2.mono al.size)
  have g1 := g1.below (by omega) hb_2
  clear hb_2
  have g2 := OwnB.sl o2
  clear o2 g1
  have al0 := kR.lt
  go_wp2_with fail
  refine (Hc.out _ A2 n2 c2 g2).mono ?_
  rintro e w_3 ⟨A3, n3, c3, A4, n4, c4, rfl, g3, g4, hb_3, hN3, hN4⟩
  have s1 := s1.below (by omega) hb_3
  have kR := kR.below hb_3
  have al := al.trans (hb_3.mono al.size)
  have g2 := g2.below (by omega) hb_3
  clear hb_3
  have hN3 : ∀ b, 0 < n3 → A3.map (·.block) = some b → w.heap.size + 1 ≤ b := fun b hn e => Nat.le_trans al0 (hN3 b hn e)
  have HN3 := Lib.hid hN3
  clear g2 hN3 hN4
  go_wp2_with fail
  have hd := Hd.out _ A4 n4 c4 g4
  rw [Hq.out, Hops.out] at hd
  refine hd.mono ?_
  clear hd
  rintro e w_4 ⟨A5, n5, c5, rfl, g5, hb_4⟩
  have al0 := (kR.below hb_4).lt
  have g5 := g5.mono (q := fun b => w.heap.size + 1 ≤ b) fun b _ hb => Nat.le_trans kR.lt hb
  clear al0
  have s1 := s1.below (by omega) hb_4
  have kR := kR.below hb_4
  have al := al.trans (hb_4.mono al.size)
  have g3 := g3.below (by omega) hb_4
  have g4 := g4.below (by omega) hb_4
  clear hb_4 g4
  have Hk : Hid ((UInt8.ofNat N1).toNat = N1 % 256) := Lib.hid (by simp)
  have Hs : Hid ((UInt64.ofNat N2).toNat = N2) := Lib.hid (by rw [UInt64.toNat_ofNat']; exact Nat.mod_eq_of_lt u1)
  clear u1
  obtain ⟨kd, hkd⟩ : ∃ kd : Nat, N1 % 256 = kd := ⟨_, rfl⟩
  have f1 : (N1 : Int) % 256 = (kd : Int) := by omega
  have Hkd := Lib.hid hkd
  clear hkd
  have al2 := (Below.refl w_4.heap.size w_4).alloc (Nat.le_refl _) (.cells #[.int .u8 (kd : Int), .int .u64 (N2 : Int), .slice A3 n3 c3, .slice A5 n5 c5] 54)
  by_cases ze1 : e1 = 0
  case neg =>
    have er : r = none := by rw [Hrr.out, if_neg (fun z => by omega)]
    subst er
    have i1 : ((e1 : Int) == 0) = false := by rw [beq_eq_false_iff_ne]; omega
    have i2 : ((e1 : Int) != 0) = true := by rw [bne_iff_ne]; omega
    clear ze1
    obtain ⟨x0, x1, x2, x3, x4⟩ := kR.below al2
    go_wp2
    refine bodyPost_ret (v := .tuple #[.agg #[.int .u8 0, .int .u64 0, .slice none 0 0, .slice none 0 0], .int .i64 4]) (by simp [results, Tryd.results22, go_sem, x0, x1, x2, x3]) rfl ?_
    refine ⟨none, 0, 0, none, 0, 0, rfl, sl_none _, none_new _, SlR.nilnil _ _, ?_⟩
    iterate 4 refine Below.setCell ?_ (by simp) _
    exact al.alloc al.size _
  subst ze1
  by_cases ze2 : e2 = 0
  case neg =>
    have er : r = none := by rw [Hrr.out, if_neg (fun z => by omega)]
    subst er
    have i1 : ((e2 : Int) == 0) = false := by rw [beq_eq_false_iff_ne]; omega
    have i2 : ((e2 : Int) != 0) = true := by rw [bne_iff_ne]; omega
    clear ze2
    obtain ⟨x0, x1, x2, x3, x4⟩ := kR.below al2
    go_wp2
    refine bodyPost_ret (v := .tuple #[.agg #[.int .u8 0, .int .u64 0, .slice none 0 0, .slice none 0 0], .int .i64 4]) (by simp [results, Tryd.results22, go_sem, x0, x1, x2, x3]) rfl ?_
    refine ⟨none, 0, 0, none, 0, 0, rfl, sl_none _, none_new _, SlR.nilnil _ _, ?_⟩
    iterate 4 refine Below.setCell ?_ (by simp) _
    exact al.alloc al.size _
  subst ze2
  by_cases ze3 : e3 = 0
  case neg =>
    have er : r = none := by rw [Hrr.out, if_neg (fun z => by omega)]
    subst er
    have i1 : ((e3 : Int) == 0) = false := by rw [beq_eq_false_iff_ne]; omega
    have i2 : ((e3 : Int) != 0) = true := by rw [bne_iff_ne]; omega
    clear ze3
    obtain ⟨x0, x1, x2, x3, x4⟩ := kR.below al2
    go_wp2
    refine bodyPost_ret (v := .tuple #[.agg #[.int .u8 0, .int .u64 0, .slice none 0 0, .slice none 0 0], .int .i64 4]) (by simp [results, Tryd.results22, go_sem, x0, x1, x2, x3]) rfl ?_
    refine ⟨none, 0, 0, none, 0, 0, rfl, sl_none _, none_new _, SlR.nilnil _ _, ?_⟩
    iterate 4 refine Below.setCell ?_ (by simp) _
    exact al.alloc al.size _
  subst ze3
  by_cases zq : q = 0
  case neg =>
    have er : r = none := by rw [Hrr.out, if_neg (fun z => by omega)]
    subst er
    have i1 : ((q : Int) == 0) = false := by rw [beq_eq_false_iff_ne]; omega
    have i2 : ((q : Int) != 0) = true := by rw [bne_iff_ne]; omega
    clear zq
    obtain ⟨x0, x1, x2, x3, x4⟩ := kR.below al2
    go_wp2
    refine bodyPost_ret (v := .tuple #[.agg #[.int .u8 0, .int .u64 0, .slice none 0 0, .slice none 0 0], .int .i64 4]) (by simp [results, Tryd.results22, go_sem, x0, x1, x2, x3]) rfl ?_
    refine ⟨none, 0, 0, none, 0, 0, rfl, sl_none _, none_new _, SlR.nilnil _ _, ?_⟩
    iterate 4 refine Below.setCell ?_ (by simp) _
    exact al.alloc al.size _
  subst zq
  by_cases z5 : N1 ≤ 4
  case neg =>
    have er : r = none := by rw [Hrr.out, if_neg (fun z => by omega)]
    subst er
    have i1 : decide (4 < N1) = true := decide_eq_true (by omega)
    have i2 : decide ((4 : Int) < (N1 : Int)) = true := decide_eq_true (by omega)
    clear z5
    obtain ⟨x0, x1, x2, x3, x4⟩ := kR.below al2
    go_wp2
    refine bodyPost_ret (v := .tuple #[.agg #[.int .u8 0, .int .u64 0, .slice none 0 0, .slice none 0 0], .int .i64 4]) (by simp [results, Tryd.results22, go_sem, x0, x1, x2, x3]) rfl ?_
    refine ⟨none, 0, 0, none, 0, 0, rfl, sl_none _, none_new _, SlR.nilnil _ _, ?_⟩
    iterate 4 refine Below.setCell ?_ (by simp) _
    exact al.alloc al.size _
  have i2 : decide ((4 : Int) < (N1 : Int)) = false := decide_eq_false (by omega)
  have Z5 := Lib.hid z5
  clear z5
  obtain ⟨x, hx⟩ : ∃ x : NoteL, (⟨UInt8.ofNat N1, UInt64.ofNat N2, name, ops⟩ : NoteL) = x := ⟨_, rfl⟩
  have hxr : r = if formL x = true ∧ noteBytesL x = p then some x else none := by rw [Hrr.out, ← hx]; simp only [true_and, Z5.out]
  have hx1 : x.kind.toNat = kd := by rw [← hx]; show (UInt8.ofNat N1).toNat = kd; rw [Hk.out, Hkd.out]
  have hx2 : x.seq.toNat = N2 := by rw [← hx]; exact Hs.out
  have hx3 : x.name = name := by rw [← hx]
  have hx4 : x.ops = ops := by rw [← hx]
  rw [← hx3] at g3
  rw [← hx4] at g5
  have Hxr := Lib.hid hxr
  have Hx1 := Lib.hid hx1
  have Hx2 := Lib.hid hx2
  clear hx hxr hx1 hx2 hx3 hx4 Hrr Hk Hs Hkd
  have kN := Bx4.fresh w_4 (.int .u8 (kd : Int)) (.int .u64 (N2 : Int)) (.slice A3 n3 c3) (.slice A5 n5 c5) 54
  obtain ⟨y0, y1, y2, y3, y4⟩ := id kN
  go_wp2_with fail
  generalize hW : (w_4.alloc (.cells #[.int .u8 (kd : Int), .int .u64 (N2 : Int), .slice A3 n3 c3, .slice A5 n5 c5] 54)) = w_5 at *
  clear hW
  clear y0 y1 y2 y3 y4
  have hz5 := al2.size
  obtain ⟨gN, hgN⟩ : ∃ gN, gN = w_4.heap.size := ⟨_, rfl⟩
  rw [← hgN] at kN
  try rw [← hgN]
  clear hz5
  have s1 := s1.below (by omega) al2
  have kR := kR.below al2
  have al := al.trans (al2.mono al.size)
  have g3 := g3.below (by omega) al2
  have g5 := g5.below al2
  clear al2 hgN
  have hc := right_any w_5 _ A3 n3 c3 A5 n5 c5 x g3 g5
  rw [Hx1.out, Hx2.out] at hc
  obtain ⟨fl, hfl⟩ : ∃ fl, formL x = fl := ⟨_, rfl⟩
  rw [hfl] at hc
  have Hfl := Lib.hid hfl
  clear hfl
  refine (hc).mono ?_
  rintro e w_6 ⟨rfl, hb_6⟩
  have s1 := s1.below (by omega) hb_6
  have kR := kR.below hb_6
  have al := al.trans (hb_6.mono al.size)
  have g3 := g3.below (by omega) hb_6
  have g5 := g5.below hb_6
  have kN := kN.below hb_6
  clear hb_6
  clear hc
  cases fl
  case false =>
    have er : r = none := by rw [Hxr.out, if_neg (fun z => by rw [Hfl.out] at z; exact absurd z.1 (by simp))]
    subst er
    obtain ⟨x0, x1, x2, x3, x4⟩ := id kR
    go_wp2
    refine bodyPost_ret (v := .tuple #[.agg #[.int .u8 0, .int .u64 0, .slice none 0 0, .slice none 0 0], .int .i64 4]) (by simp [results, Tryd.results22, go_sem, x0, x1, x2, x3]) rfl ?_
    refine ⟨none, 0, 0, none, 0, 0, rfl, sl_none _, none_new _, SlR.nilnil _ _, ?_⟩
    iterate 4 refine Below.setCell ?_ (by simp) _
    exact al
  obtain ⟨y0, y1, y2, y3, y4⟩ := id kN
  go_wp2_with fail
  clear y0 y1 y2 y3 y4
  have hc := nbytes_any w_6 _ A3 n3 c3 A5 n5 c5 x g3 g5
  rw [Hx1.out, Hx2.out] at hc
  rw [show noteBE x = (noteBytesL x, 0) by unfold noteBE; rw [if_pos Hfl.out]] at hc
  refine (hc).mono ?_
  rintro e w_7 ⟨A9, n9, c9, rfl, o9, hb_7⟩
  have s1 := s1.below (by omega) hb_7
  have kR := kR.below hb_7
  have al := al.trans (hb_7.mono al.size)
  have g3 := g3.below (by omega) hb_7
  have g5 := g5.below hb_7
  have kN := kN.below hb_7
  clear hb_7
  clear hc
  have g9 := OwnB.sl o9
  clear o9
  simp only at g9
  obtain ⟨eb, heb⟩ : ∃ eb, (noteBytesL x == p) = eb := ⟨_, rfl⟩
  have Heb := Lib.hid heb
  clear heb
  go_wp2_with fail
  refine (equal_is _ A9 n9 c9 _ A n c _ eb Heb g9 s1).mono ?_
  rintro e w' ⟨rfl, rfl⟩
  cases eb
  case false =>
    have er : r = none := by rw [Hxr.out, if_neg (fun z => by have := Heb.out; rw [z.2] at this; simp at this)]
    subst er
    obtain ⟨x0, x1, x2, x3, x4⟩ := id kR
    go_wp2
    refine bodyPost_ret (v := .tuple #[.agg #[.int .u8 0, .int .u64 0, .slice none 0 0, .slice none 0 0], .int .i64 4]) (by simp [results, Tryd.results22, go_sem, x0, x1, x2, x3]) rfl ?_
    refine ⟨none, 0, 0, none, 0, 0, rfl, sl_none _, none_new _, SlR.nilnil _ _, ?_⟩
    iterate 4 refine Below.setCell ?_ (by simp) _
    exact al
  have er : r = some x := by rw [Hxr.out, if_pos ⟨Hfl.out, by simpa using Heb.out⟩]
  subst er
  obtain ⟨x0, x1, x2, x3, x4⟩ := id kR
  obtain ⟨y0, y1, y2, y3, y4⟩ := id kN
  go_wp2
  refine bodyPost_ret (v := .tuple #[.agg #[.int .u8 (kd : Int), .int .u64 (N2 : Int), .slice A3 n3 c3, .slice A5 n5 c5], .int .i64 0]) (by simp [results, Tryd.results22, go_sem, x0, x1, x2, x3]) rfl ?_
  obtain ⟨_, hgs⟩ := Bx4.set kR (v0 := .int .u8 (kd : Int)) (v1 := .int .u64 (N2 : Int)) (v2 := .slice A3 n3 c3) (v3 := .slice A5 n5 c5)
  exact got_note al hgs g3 HN3.out g5 Hx1.out Hx2.out
set_option maxHeartbeats 16000000 in
theorem rnread_any (w : World) (A : Option Addr) (n c : Nat) (p : List UInt8) (h : Sl w 1 A n c (bc p)) (hn : n ≤ 1000000) :
    Calls Tryd.prog 23 #[.slice A n c] w (GotNote w (readNoteL p)) := by
  have hl := h.lenb
  obtain ⟨r, hr⟩ : ∃ r, readNoteL p = r := ⟨_, rfl⟩
  rw [hr]
  rw [readNote_eq p] at hr
  have t1 := takeL_len p
  have t2 := takeL_len (takeL p).2.1
  have t3 := takeText_len (takeL (takeL p).2.1).2.1 32
  have u1 := takeL_lt (takeL p).2.1
  have ha := fun w' (hb : Below w.heap.size w w') => rtake_any w' A n c p (h.below (by omega) hb) (by omega)
  have hb := fun w' A1 n1 c1 (h1 : Sl w' 1 A1 n1 c1 (bc (takeL p).2.1)) => rtake_any w' A1 n1 c1 _ h1 (by have := h1.lenb; omega)
  have hc := fun w' A1 n1 c1 (h1 : Sl w' 1 A1 n1 c1 (bc (takeL (takeL p).2.1).2.1)) => rtaketext_new w' A1 n1 c1 _ h1 (by have := h1.lenb; omega) 32 (by omega)
  have hd := fun w' A1 n1 c1 (h1 : Sl w' 1 A1 n1 c1 (bc (takeTextL (takeL (takeL p).2.1).2.1 32).2.1)) => rread_new w' A1 n1 c1 _ h1 (by have := h1.lenb; omega)
  rw [readOps_same] at hd
  unfold TookB at ha hb
  unfold TookN at hc
  unfold GotOpsN at hd
  generalize takeL p = a1 at *
  generalize takeL a1.2.1 = a2 at *
  generalize takeTextL a2.2.1 32 = a3 at *
  generalize readOpsL a3.2.1 = R at *
  obtain ⟨N1, p1, e1⟩ := a1
  obtain ⟨N2, p2, e2⟩ := a2
  obtain ⟨name, p3, e3⟩ := a3
  simp only at ha hb hc hd hr t1 t2 t3 u1
  have Ha := Lib.hid ha
  have Hb := Lib.hid hb
  have Hc := Lib.hid hc
  have Hd := Lib.hid hd
  have s1 := h
  clear ha hb hc hd t1 t2 t3
  obtain ⟨ops, hops⟩ : ∃ ops, R.getD [] = ops := ⟨_, rfl⟩
  obtain ⟨q, hq⟩ : ∃ q : Nat, (if R.isSome then 0 else 4 : Nat) = q := ⟨_, rfl⟩
  rw [hq, hops] at hr
  have hrr := hr.symm
  have Hrr := Lib.hid hrr
  have Hops := Lib.hid hops
  have Hq := Lib.hid hq
  have Hl := Lib.hid hl
  have Hn := Lib.hid hn
  clear hr hrr hops hq hl h
  have kR := Bx4.fresh w (.int .u8 0) (.int .u64 0) (.slice none 0 0) (.slice none 0 0) 41
  have al := (Below.refl w.heap.size w).alloc (Nat.le_refl _) (.cells #[.int .u8 0, .int .u64 0, .slice none 0 0, .slice none 0 0] 41)
  have s1 := s1.below (by omega) al
  go_enter Tryd.func23, Tryd.ntmps23
  go_wp2_with fail
  generalize (w.alloc (.cells #[.int .u8 0, .int .u64 0, .slice none 0 0, .slice none 0 0] 41)) = w0 at *
  have hz0 := al.size
  have hzlt := kR.lt
  refine (Ha.out _ al).mono ?_
  rintro e w_1 ⟨A1, n1, c1, rfl, o1, hb_1⟩
  have s1 := s1.below (by omega) hb_1
  have kR := kR.below hb_1
  have al := al.trans (hb_1.mono al.size)
  clear hb_1
  have g1 := OwnB.sl o1
  clear o1
  go_wp2_with fail
  refine (Hb.out _ A1 n1 c1 g1).mono ?_
  rintro e w_2 ⟨A2, n2, c2, rfl, o2, hb_2⟩
  have s1 := s1.below (by omega) hb_2
  have kR := kR.below hb_2
  have al := al.trans (hb_2.mono al.size)
  have g1 := g1.below (by omega) hb_2
  clear hb_2
  have g2 := OwnB.sl o2
  clear o2 g1
  have al0 := kR.lt
  go_wp2_with fail
  refine (Hc.out _ A2 n2 c2 g2).mono ?_
  rintro e w_3 ⟨A3, n3, c3, A4, n4, c4, rfl, g3, g4, hb_3, hN3, hN4⟩
  have s1 := s1.below (by omega) hb_3
  have kR := kR.below hb_3
  have al := al.trans (hb_3.mono al.size)
  have g2 := g2.below (by omega) hb_3
  clear hb_3
  have hN3 : ∀ b, 0 < n3 → A3.map (·.block) = some b → w.heap.size + 1 ≤ b := fun b hn e => Nat.le_trans al0 (hN3 b hn e)
  have HN3 := Lib.hid hN3
  clear g2 hN3 hN4
  go_wp2_with fail
  have hd := Hd.out _ A4 n4 c4 g4
  rw [Hq.out, Hops.out] at hd
  refine hd.mono ?_
  clear hd
  rintro e w_4 ⟨A5, n5, c5, rfl, g5, hb_4⟩
  have al0 := (kR.below hb_4).lt
  have g5 := g5.mono (q := fun b => w.heap.size + 1 ≤ b) fun b _ hb => Nat.le_trans kR.lt hb
  clear al0
  have s1 := s1.below (by omega) hb_4
  have kR := kR.below hb_4
  have al := al.trans (hb_4.mono al.size)
  have g3 := g3.below (by omega) hb_4
  have g4 := g4.below (by omega) hb_4
  clear hb_4 g4
  have Hk : Hid ((UInt8.ofNat N1).toNat = N1 % 256) := Lib.hid (by simp)
  have Hs : Hid ((UInt64.ofNat N2).toNat = N2) := Lib.hid (by rw [UInt64.toNat_ofNat']; exact Nat.mod_eq_of_lt u1)
  clear u1
  by_cases ze1 : e1 = 0
  case neg =>
    have er : r = none := by rw [Hrr.out, if_neg (fun z => by omega)]
    subst er
    have i1 : ((e1 : Int) == 0) = false := by rw [beq_eq_false_iff_ne]; omega
    have i2 : ((e1 : Int) != 0) = true := by rw [bne_iff_ne]; omega
    clear ze1
    obtain ⟨x0, x1, x2, x3, x4⟩ := id kR
    go_wp2
    refine bodyPost_ret (v := .tuple #[.agg #[.int .u8 0, .int .u64 0, .slice none 0 0, .slice none 0 0], .int .i64 4]) (by simp [results, Tryd.results23, go_sem, x0, x1, x2, x3]) rfl ?_
    refine ⟨none, 0, 0, none, 0, 0, rfl, sl_none _, none_new _, SlR.nilnil _ _, ?_⟩
    iterate 4 refine Below.setCell ?_ (by simp) _
    exact al
  subst ze1
  by_cases ze2 : e2 = 0
  case neg =>
    have er : r = none := by rw [Hrr.out, if_neg (fun z => by omega)]
    subst er
    have i1 : ((e2 : Int) == 0) = false := by rw [beq_eq_false_iff_ne]; omega
    have i2 : ((e2 : Int) != 0) = true := by rw [bne_iff_ne]; omega
    clear ze2
    obtain ⟨x0, x1, x2, x3, x4⟩ := id kR
    go_wp2
    refine bodyPost_ret (v := .tuple #[.agg #[.int .u8 0, .int .u64 0, .slice none 0 0, .slice none 0 0], .int .i64 4]) (by simp [results, Tryd.results23, go_sem, x0, x1, x2, x3]) rfl ?_
    refine ⟨none, 0, 0, none, 0, 0, rfl, sl_none _, none_new _, SlR.nilnil _ _, ?_⟩
    iterate 4 refine Below.setCell ?_ (by simp) _
    exact al
  subst ze2
  by_cases ze3 : e3 = 0
  case neg =>
    have er : r = none := by rw [Hrr.out, if_neg (fun z => by omega)]
    subst er
    have i1 : ((e3 : Int) == 0) = false := by rw [beq_eq_false_iff_ne]; omega
    have i2 : ((e3 : Int) != 0) = true := by rw [bne_iff_ne]; omega
    clear ze3
    obtain ⟨x0, x1, x2, x3, x4⟩ := id kR
    go_wp2
    refine bodyPost_ret (v := .tuple #[.agg #[.int .u8 0, .int .u64 0, .slice none 0 0, .slice none 0 0], .int .i64 4]) (by simp [results, Tryd.results23, go_sem, x0, x1, x2, x3]) rfl ?_
    refine ⟨none, 0, 0, none, 0, 0, rfl, sl_none _, none_new _, SlR.nilnil _ _, ?_⟩
    iterate 4 refine Below.setCell ?_ (by simp) _
    exact al
  subst ze3
  by_cases zq : q = 0
  case neg =>
    have er : r = none := by rw [Hrr.out, if_neg (fun z => by omega)]
    subst er
    have i1 : ((q : Int) == 0) = false := by rw [beq_eq_false_iff_ne]; omega
    have i2 : ((q : Int) != 0) = true := by rw [bne_iff_ne]; omega
    clear zq
    obtain ⟨x0, x1, x2, x3, x4⟩ := id kR
    go_wp2
    refine bodyPost_ret (v := .tuple #[.agg #[.int .u8 0, .int .u64 0, .slice none 0 0, .slice none 0 0], .int .i64 4]) (by simp [results, Tryd.results23, go_sem, x0, x1, x2, x3]) rfl ?_
    refine ⟨none, 0, 0, none, 0, 0, rfl, sl_none _, none_new _, SlR.nilnil _ _, ?_⟩
    iterate 4 refine Below.setCell ?_ (by simp) _
    exact al
  subst zq
  by_cases z5 : N1 ≤ 4
  case neg =>
    have er : r = none := by rw [Hrr.out, if_neg (fun z => by omega)]
    subst er
    have i1 : decide (4 < N1) = true := decide_eq_true (by omega)
    have i2 : decide ((4 : Int) < (N1 : Int)) = true := decide_eq_true (by omega)
    clear z5
    obtain ⟨x0, x1, x2, x3, x4⟩ := id kR
    go_wp2
    refine bodyPost_ret (v := .tuple #[.agg #[.int .u8 0, .int .u64 0, .slice none 0 0, .slice none 0 0], .int .i64 4]) (by simp [results, Tryd.results23, go_sem, x0, x1, x2, x3]) rfl ?_
    refine ⟨none, 0, 0, none, 0, 0, rfl, sl_none _, none_new _, SlR.nilnil _ _, ?_⟩
    iterate 4 refine Below.setCell ?_ (by simp) _
    exact al
  have i2 : decide ((4 : Int) < (N1 : Int)) = false := decide_eq_false (by omega)
  obtain ⟨kd, hkd⟩ : ∃ kd : Nat, N1 % 256 = kd := ⟨_, rfl⟩
  have f1 : (N1 : Int) % 256 = (kd : Int) := by omega
  have Hkd := Lib.hid hkd
  clear hkd
  have Z5 := Lib.hid z5
  clear z5
  obtain ⟨x, hx⟩ : ∃ x : NoteL, (⟨UInt8.ofNat N1, UInt64.ofNat N2, name, ops⟩ : NoteL) = x := ⟨_, rfl⟩
  have hxr : r = if formL x = true ∧ noteBytesL x = p then some x else none := by rw [Hrr.out, ← hx]; simp only [true_and, Z5.out]
  have hx1 : x.kind.toNat = kd := by rw [← hx]; show (UInt8.ofNat N1).toNat = kd; rw [Hk.out, Hkd.out]
  have hx2 : x.seq.toNat = N2 := by rw [← hx]; exact Hs.out
  have hx3 : x.name = name := by rw [← hx]
  have hx4 : x.ops = ops := by rw [← hx]
  rw [← hx3] at g3
  rw [← hx4] at g5
  have Hxr := Lib.hid hxr
  have Hx1 := Lib.hid hx1
  have Hx2 := Lib.hid hx2
  clear hx hxr hx1 hx2 hx3 hx4 Hrr Hk Hs Hkd
  have kN := Bx4.fresh w_4 (.int .u8 (kd : Int)) (.int .u64 (N2 : Int)) (.slice A3 n3 c3) (.slice A5 n5 c5) 41
  have al2 := (Below.refl w_4.heap.size w_4).alloc (Nat.le_refl _) (.cells #[.int .u8 (kd : Int), .int .u64 (N2 : Int), .slice A3 n3 c3, .slice A5 n5 c5] 41)
  obtain ⟨y0, y1, y2, y3, y4⟩ := id kN
  go_wp2_with fail
  generalize hW : (w_4.alloc (.cells #[.int .u8 (kd : Int), .int .u64 (N2 : Int), .slice A3 n3 c3, .slice A5 n5 c5] 41)) = w_5 at *
  clear hW
  clear y0 y1 y2 y3 y4
  have hz5 := al2.size
  obtain ⟨gN, hgN⟩ : ∃ gN, gN = w_4.heap.size := ⟨_, rfl⟩
  rw [← hgN] at kN
  try rw [← hgN]
  clear hz5
  have s1 := s1.below (by omega) al2
  have kR := kR.below al2
  have al := al.trans (al2.mono al.size)
  have g3 := g3.below (by omega) al2
  have g5 := g5.below al2
  clear al2 hgN
  have hc := rnbytes_any w_5 _ A3 n3 c3 A5 n5 c5 x g3 g5
  rw [Hx1.out, Hx2.out] at hc
  obtain ⟨qb, hqb⟩ : ∃ qb, noteBE x = qb := ⟨_, rfl⟩
  rw [hqb] at hc
  have hqx : r = if qb.2 = 0 ∧ qb.1 = p then some x else none := by
    rw [Hxr.out, ← hqb]
    unfold noteBE
    by_cases hf : formL x = true
    · simp [hf]
    · simp [hf]
  obtain ⟨bs, er⟩ := qb
  simp only at hc hqx
  have Hxr := Lib.hid hqx
  clear hqx hqb
  refine (hc).mono ?_
  rintro e w_6 ⟨A9, n9, c9, rfl, o9, hb_6⟩
  have s1 := s1.below (by omega) hb_6
  have kR := kR.below hb_6
  have al := al.trans (hb_6.mono al.size)
  have g3 := g3.below (by omega) hb_6
  have g5 := g5.below hb_6
  have kN := kN.below hb_6
  clear hb_6
  clear hc
  have g9 := OwnB.sl o9
  clear o9
  by_cases zer : er = 0
  case neg =>
    have er' : r = none := by rw [Hxr.out, if_neg (fun z => zer z.1)]
    subst er'
    have i1 : ((er : Int) == 0) = false := by rw [beq_eq_false_iff_ne]; omega
    have i3 : ((er : Int) != 0) = true := by rw [bne_iff_ne]; omega
    clear zer
    obtain ⟨x0, x1, x2, x3, x4⟩ := id kR
    go_wp2
    refine bodyPost_ret (v := .tuple #[.agg #[.int .u8 0, .int .u64 0, .slice none 0 0, .slice none 0 0], .int .i64 4]) (by simp [results, Tryd.results23, go_sem, x0, x1, x2, x3]) rfl ?_
    refine ⟨none, 0, 0, none, 0, 0, rfl, sl_none _, none_new _, SlR.nilnil _ _, ?_⟩
    iterate 4 refine Below.setCell ?_ (by simp) _
    exact al
  subst zer
  obtain ⟨eb, heb⟩ : ∃ eb, (p == bs) = eb := ⟨_, rfl⟩
  have Heb := Lib.hid heb
  clear heb
  go_wp2_with fail
  refine (same_is _ A n c _ A9 n9 c9 _ eb Heb s1 g9).mono ?_
  rintro e w' ⟨rfl, rfl⟩
  cases eb
  case false =>
    have er : r = none := by rw [Hxr.out, if_neg (fun z => by have := Heb.out; rw [z.2] at this; simp at this)]
    subst er
    obtain ⟨x0, x1, x2, x3, x4⟩ := id kR
    go_wp2
    refine bodyPost_ret (v := .tuple #[.agg #[.int .u8 0, .int .u64 0, .slice none 0 0, .slice none 0 0], .int .i64 4]) (by simp [results, Tryd.results23, go_sem, x0, x1, x2, x3]) rfl ?_
    refine ⟨none, 0, 0, none, 0, 0, rfl, sl_none _, none_new _, SlR.nilnil _ _, ?_⟩
    iterate 4 refine Below.setCell ?_ (by simp) _
    exact al
  have er : r = some x := by rw [Hxr.out, if_pos ⟨trivial, (by have := Heb.out; simpa using this : p = bs).symm⟩]
  subst er
  obtain ⟨x0, x1, x2, x3, x4⟩ := id kR
  obtain ⟨y0, y1, y2, y3, y4⟩ := id kN
  go_wp2
  refine bodyPost_ret (v := .tuple #[.agg #[.int .u8 (kd : Int), .int .u64 (N2 : Int), .slice A3 n3 c3, .slice A5 n5 c5], .int .i64 0]) (by simp [results, Tryd.results23, go_sem, x0, x1, x2, x3]) rfl ?_
  obtain ⟨_, hgs⟩ := Bx4.set kR (v0 := .int .u8 (kd : Int)) (v1 := .int .u64 (N2 : Int)) (v2 := .slice A3 n3 c3) (v3 := .slice A5 n5 c5)
  exact got_note al hgs g3 HN3.out g5 Hx1.out Hx2.out
end Go.Proofs.YtpjinmiedanebaaDoor
