/-
  The walk of BatchLast: it returns true at every input. (Printed by genbatchlaws7.py.) No condition.
-/
import Derived.Test.YtfonincdhjkacaaBatchLaws4
import Derived.Test.YtfonincdhjkacaaBatchFewY
import Derived.Deep.CutRange
namespace Go.Proofs.Ytfonincdhjkacaa
open Go.RowKit
set_option maxRecDepth 20000
/-- an op that a call gives back, in memory of its own, and whether there is one -/
def GotOverN (w : World) (r : Option OpL) (e : Ending) (w' : World) : Prop :=
  ∃ A3 n3 c3 A4 n4 c4, e = .returned (.tuple #[.agg #[.int .u8 ((r.getD noOp).kind.toNat : Int), .slice A3 n3 c3, .slice A4 n4 c4], .bool r.isSome]) ∧ Sl w' 1 A3 n3 c3 (bc (r.getD noOp).key) ∧ Sl w' 1 A4 n4 c4 (bc (r.getD noOp).value) ∧ NewAt w A3 n3 ∧ NewAt w A4 n4 ∧ Below w.heap.size w w'
set_option maxHeartbeats 8000000 in
theorem over_new (w : World) (p : Nat → Prop) (A : Option Addr) (n c : Nat) (ls : List OpL) (h : SlR w p A n c ls) (hz : ∀ o ∈ ls, o.key.length ≤ 10000 ∧ o.value.length ≤ 10000) (B : Option Addr) (m d : Nat) (key : List UInt8) (hk : Sl w 1 B m d (bc key)) :
    Calls Try.prog 35 #[.slice A n c, .slice B m d] w (GotOverN w (overL ls key)) := by
  have hcp := h.cap
  unfold maxLen at hcp
  have hl := h.lenR
  have Hl := Lib.hid hl
  have Hcp := Lib.hid hcp
  have Hz := Lib.hid hz
  clear hl hcp hz
  have al := (Below.refl w.heap.size w).alloc (Nat.le_refl _) (.cells #[.int .u8 0, .slice none 0 0, .slice none 0 0] 47)
  have kC := Bx.fresh w (.int .u8 0) (.slice none 0 0) (.slice none 0 0) 47
  have h1 := h.below al
  have hk1 := hk.below (by omega) al
  have ew : wrap64 ((n : Int) - 1) = (n : Int) - 1 := by have := Hcp.out; unfold wrap64; omega
  go_enter Try.func35, Try.ntmps35
  go_wp2
  try rw [ew]
  try simp only [ew]
  clear ew
  generalize (w.alloc (.cells #[.int .u8 0, .slice none 0 0, .slice none 0 0] 47)) = w1 at *
  go_loopw [5, 6] (fun s q wr => s = .bool false ∧ ∃ j : Nat, j ≤ n ∧ q = .int .i64 ((j : Int) - 1) ∧ Below w1.heap.size w1 wr ∧ Hid (overL ls key = overL (ls.take j) key)) (fun _ q _ => (intOf q + 1).toNat)
  case atStart => exact ⟨rfl, n, Nat.le_refl _, rfl, Below.refl _ _, Lib.hid (by rw [List.take_of_length_le (by have := Hl.out; omega)])⟩
  case round =>
    obtain ⟨rfl, j, hj, rfl, hbr, Hov⟩ := hrel
    have kC := kC.below hbr
    have q1 := al.trans (hbr.mono al.size)
    have h1z := kC.lt
    rcases j with _ | k
    · have hov : overL ls key = none := by rw [Hov.out]; rfl
      have Hov2 := Lib.hid hov
      rw [show ((0 : Nat) : Int) - 1 = -1 from rfl]
      obtain ⟨y0, y1, y2, y3⟩ := id kC
      obtain ⟨kD, hg⟩ := Bx.set (v0 := .int .u8 0) (v1 := .slice none 0 0) (v2 := .slice none 0 0) kC rfl
      clear hov hk1 h1 h hk
      go_wp2
      obtain ⟨z0, z1, z2, _⟩ := kD
      refine bodyPost_ret (v := .tuple #[.agg #[.int .u8 0, .slice none 0 0, .slice none 0 0], .bool false]) (by simp [results, Try.results35, go_sem, z0, z1, z2]) rfl ?_
      rw [Hov2.out]
      exact ⟨none, 0, 0, none, 0, 0, rfl, sl_none _, sl_none _, none_new _, none_new _, q1.grown hg q1.size (fun b hb => by simp at hb; omega)⟩
    · have hlt : k < n := by omega
      rw [show ((k + 1 : Nat) : Int) - 1 = (k : Int) by omega]
      have hk2 := hk1.below (by omega) hbr
      obtain ⟨b, o, A3, n3, c3, A4, n4, c4, hjl, rfl, d0, d1, d2, hs3, hs4⟩ := (h1.below hbr).opAt hlt
      have hov := over_snoc (ls.take k) ls[k] key
      rw [← List.take_succ_eq_append_getElem hjl, ← Hov.out] at hov
      have hzk := Hz.out _ (List.getElem_mem hjl)
      rw [hs3.lenb, hs4.lenb] at hzk
      have cv := covers_any wr A3 n3 c3 A4 n4 c4 ls[k] hs3 hs4 B m d key hk2
      have co := fun (w' : World) (hb : Below wr.heap.size wr w') => one_any w' A3 n3 c3 A4 n4 c4 ls[k] (hs3.below (by omega) hb) (hs4.below (by omega) hb) hzk.1 hzk.2
      unfold GotOp at co
      generalize hcv : coversL ls[k] key = v at *
      generalize hd : ls[k].kind.toNat = dd at *
      have Hov2 := Lib.hid hov
      have Hd := Lib.hid hd
      have Co := Lib.hid co
      have Cv := Lib.hid cv
      have Hjl := Lib.hid hjl
      clear hov hd co cv hs3 hs4 hk2 hzk hk1 hcv
      go_wp2_with fail
      refine Cv.out.mono ?_
      rintro e w3 ⟨rfl, hb3⟩
      have q3 := hbr.trans (hb3.mono hbr.size)
      cases v
      · have hov := Hov2.out
        simp only [Bool.false_eq_true, if_false] at hov
        have Hov3 := Lib.hid hov
        clear hov
        have ek : wrap64 ((k : Int) - 1) = (k : Int) - 1 := by have := Hcp.out; unfold wrap64; omega
        go_wp2
        go_roundw
        case rel => exact ⟨rfl, k, by omega, by first | rfl | (rw [ek]), q3, Hov3⟩
        case measure => simp [intOf]; omega
      · have hov := Hov2.out
        simp only [if_true] at hov
        have Hov3 := Lib.hid hov
        have d0 := stays hb3 d0
        have d1 := stays hb3 d1
        have d2 := stays hb3 d2
        have kC := kC.below hb3
        clear hov
        go_wp2_with fail
        refine (Co.out _ hb3).mono ?_
        rintro e w5 ⟨A5, n5, c5, A6, n6, c6, rfl, ho5, ho6, hb5⟩
        have q5 := q3.trans (hb5.mono q3.size)
        have q6 := al.trans (q5.mono al.size)
        have kC := kC.below hb5
        obtain ⟨y0, y1, y2, y3⟩ := id kC
        obtain ⟨kD, hg⟩ := Bx.set (v0 := .int .u8 (dd : Int)) (v1 := .slice A5 n5 c5) (v2 := .slice A6 n6 c6) kC rfl
        have hz3 := q3.size
        have hz1 := al.size
        have hgw : w.heap.size < w3.heap.size := by have := h1z; have := hb3.size; omega
        clear d0 d1 d2
        go_wp2
        obtain ⟨z0, z1, z2, _⟩ := kD
        refine bodyPost_ret (v := .tuple #[.agg #[.int .u8 (dd : Int), .slice A5 n5 c5, .slice A6 n6 c6], .bool true]) (by simp [results, Try.results35, go_sem, z0, z1, z2]) rfl ?_
        rw [Hov3.out]
        refine ⟨A5, n5, c5, A6, n6, c6, by rw [← Hd.out]; rfl, ?_, ?_, fun b hn e => by have := own_new (w := w3) ho5 (Nat.le_refl _) b hn e; omega, fun b hn e => by have := own_new (w := w3) ho6 (Nat.le_refl _) b hn e; omega, q6.grown hg q6.size (fun b hb => by simp at hb; omega)⟩
        · exact (Own.grown ho5 hg (fun b hb e => by have := (Own.lt ho5 b hb).1; simp at e; omega)).sl
        · exact (Own.grown ho6 hg (fun b hb e => by have := (Own.lt ho6 b hb).1; simp at e; omega)).sl
theorem OwnR.lt {α : Type} [Rep α] {w : World} {B : Nat} {e : TypeId} {A : Option Addr} {n c : Nat} {ls : List α} (h : OwnR w B e A n c ls) : ∀ b, blk A c = some b → B ≤ b ∧ b < w.heap.size := by
  obtain ⟨xs, ho, _⟩ := h
  exact fun b hb => Own.lt ho b hb
theorem OwnY.at_ {w : World} {B : Nat} {e t8 : TypeId} {A : Option Addr} {n c : Nat} {ls : List OpL} (h : OwnY w B e t8 A n c ls) {k : Nat} (hk : k < n) : ∃ (b o : Nat) (A3 : Option Addr) (n3 c3 : Nat) (A4 : Option Addr) (n4 c4 : Nat) (hl : k < ls.length), A = some ⟨b, o, none⟩ ∧
    w.cell? ⟨b, o + k * 3, none⟩ = some (.int .u8 (ls[k].kind.toNat : Int)) ∧ w.cell? ⟨b, o + k * 3 + 1, none⟩ = some (.slice A3 n3 c3) ∧ w.cell? ⟨b, o + k * 3 + 2, none⟩ = some (.slice A4 n4 c4) ∧
    Sl w 1 A3 n3 c3 (bc ls[k].key) ∧ Sl w 1 A4 n4 c4 (bc ls[k].value) ∧ (∀ b, 0 < n3 → A3.map (·.block) = some b → B ≤ b) ∧ (∀ b, 0 < n4 → A4.map (·.block) = some b → B ≤ b) := by
  obtain ⟨xs, ho, hr⟩ := h
  have hs : SlR w (fun b => B ≤ b) A n c ls := ⟨xs, ho.sl, hr.move fun b _ hp => ⟨rfl, hp.2.1⟩, fun b hn e => (ho.lt b (by have := ho.cap; unfold blk; rw [if_neg (by omega)]; exact e)).1⟩
  obtain ⟨b, o, x, cs, rfl, hx, ⟨v, v', rfl, hk', hv⟩, hcell⟩ := hs.get hk
  obtain ⟨A3, n3, c3, rfl, hs3, p3⟩ := hk'
  obtain ⟨A4, n4, c4, rfl, hs4, p4⟩ := hv
  obtain ⟨hjl, rfl⟩ := List.getElem?_eq_some_iff.1 hx
  exact ⟨b, o, A3, n3, c3, A4, n4, c4, hjl, rfl, hcell 0 _ rfl, hcell 1 _ rfl, hcell 2 _ rfl, hs3, hs4, p3, p4⟩
theorem OwnY.slB {w : World} {B : Nat} {e t8 : TypeId} {A : Option Addr} {n c : Nat} {ls : List OpL} (h : OwnY w B e t8 A n c ls) : SlR w (fun b => B ≤ b) A n c ls := by
  obtain ⟨xs, ho, hr⟩ := h
  exact ⟨xs, ho.sl, hr.move fun b _ hp => ⟨rfl, hp.2.1⟩, fun b hn e => (ho.lt b (by have := ho.cap; unfold blk; rw [if_neg (by omega)]; exact e)).1⟩
theorem opRowS (w : World) (x : OpL) (k : Nat) (hk : x.kind.toNat = k) (A3 : Option Addr) (n3 c3 : Nat) (A4 : Option Addr) (n4 c4 : Nat) (s3 : Sl w 1 A3 n3 c3 (bc x.key)) (s4 : Sl w 1 A4 n4 c4 (bc x.value)) :
    Below w.heap.size w (w.alloc (.cells #[.int .u8 (k : Int), .slice A3 n3 c3, .slice A4 n4 c4] 47)) ∧ SlR (w.alloc (.cells #[.int .u8 (k : Int), .slice A3 n3 c3, .slice A4 n4 c4] 47)) (fun _ => True) (some ⟨w.heap.size, 0, none⟩) 1 1 [x] := by
  subst hk
  have al := (Below.refl w.heap.size w).alloc (Nat.le_refl _) (.cells #[.int .u8 (x.kind.toNat : Int), .slice A3 n3 c3, .slice A4 n4 c4] 47)
  exact ⟨al, _, ⟨rfl, Nat.le_refl _, by unfold maxLen; omega, fun _ => ⟨w.heap.size, 0, rfl, fun j u hu => by rw [cell_of_row _ _ _ _ _ _ (heap_alloc_new w _)]; simpa [u8v] using hu⟩⟩, RowC.single ⟨_, _, rfl, Bk.of (s3.below (by omega) al), Bk.of (s4.below (by omega) al)⟩, fun _ _ _ => trivial⟩
set_option maxHeartbeats 16000000 in
theorem batchLast.walk (w : World) (A : Option Addr) (n c : Nat) (ls : List OpL) (h : SlR w (fun _ => True) A n c ls) (B : Option Addr) (m d : Nat) (key : List UInt8) (hk : Sl w 1 B m d (bc key)) (Ao : Option Addr) (no co : Nat) (Av : Option Addr) (nv cv : Nat) (op : OpL) (hso : Sl w 1 Ao no co (bc op.key)) (hsv : Sl w 1 Av nv cv (bc op.value)) :
    Calls Try.prog 7 #[.slice A n c, .slice B m d, .agg #[.int .u8 (op.kind.toNat : Int), .slice Ao no co, .slice Av nv cv]] w fun e w' => e = .returned (.bool true) ∧ Below w.heap.size w w' := by
  have hq0 := (Below.refl w.heap.size w).alloc (Nat.le_refl _) (.cells #[.int .u8 (op.kind.toNat : Int), .slice Ao no co, .slice Av nv cv] 47)
  have kO := Bx.fresh w (.int .u8 (op.kind.toNat : Int)) (.slice Ao no co) (.slice Av nv cv) 47
  have h := h.below hq0
  have hk := hk.below (by omega) hq0
  have hso := hso.below (by omega) hq0
  have hsv := hsv.below (by omega) hq0
  generalize hkk : op.kind.toNat = kd at *
  have Hkk := Lib.hid hkk
  clear hkk
  go_enter Try.func7, Try.ntmps7
  go_wp2_with fail
  generalize (w.alloc (.cells #[.int .u8 (kd : Int), .slice Ao no co, .slice Av nv cv] 47)) = w_0 at *
  skip
  refine (awake04 w_0).mono ?_
  rintro e w_1 ⟨rfl, hb_1⟩
  have h := h.below hb_1
  have hk := hk.below (by omega) hb_1
  have hso := hso.below (by omega) hb_1
  have hsv := hsv.below (by omega) hb_1
  have kO := kO.below hb_1
  have hq0 := hq0.trans (hb_1.mono hq0.size)
  clear hb_1
  have ng1 : w.heap.size < w_1.heap.size := kO.lt
  go_wp2_with fail
  refine (fewopsY_any w_1 _ A n c ls 40 h (by omega)).mono ?_
  rintro e w_2 ⟨A2, n2, c2, rfl, ho2, hb_2⟩
  have h := h.below hb_2
  have hk := hk.below (by omega) hb_2
  have hso := hso.below (by omega) hb_2
  have hsv := hsv.below (by omega) hb_2
  have kO := kO.below hb_2
  have hq0 := hq0.trans (hb_2.mono hq0.size)
  clear hb_2
  have s2 := ho2.slB
  have hfb := few_bounds ls 40
  generalize fewOps ls 40 = fs at *
  clear h
  clear ho2
  have ng2 : w.heap.size < w_2.heap.size := kO.lt
  go_wp2_with fail
  refine (cut_any w_2 B m d key 80 hk (by omega)).mono ?_
  rintro e w_3 ⟨A3, n3, c3, rfl, ho3, hb_3⟩
  have hk := hk.below (by omega) hb_3
  have hso := hso.below (by omega) hb_3
  have hsv := hsv.below (by omega) hb_3
  have kO := kO.below hb_3
  have hq0 := hq0.trans (hb_3.mono hq0.size)
  have s2 := s2.below hb_3
  clear hb_3
  have s3 := ho3.sl
  have h3 : ∀ b, 0 < n3 → A3.map (·.block) = some b → w.heap.size < b := fun b hn e => by have := (Own.ownU ho3 b hn e).1; omega
  generalize key.take 80 = kk at *
  clear ho3
  clear hk
  have hl2 := s2.lenR
  have hn2 : n2 ≤ 40 := by omega
  have Hz : Hid (∀ o ∈ fs, o.key.length ≤ 10000 ∧ o.value.length ≤ 10000) := fun o ho => by have := hfb.2 o ho; omega
  have Hl : Hid (fs.length = n2 ∧ fs.length ≤ 40) := ⟨hl2, hfb.1⟩
  clear hfb hl2
  obtain ⟨x0, x1, x2, x3⟩ := id kO
  have al := (Below.refl w_3.heap.size w_3).alloc (Nat.le_refl _) (.cells #[.int .u8 (kd : Int), .slice Ao no co, .slice Av nv cv] 47)
  have hrow : SlR (w_3.alloc (.cells #[.int .u8 (kd : Int), .slice Ao no co, .slice Av nv cv] 47)) (fun _ => True) (some ⟨w_3.heap.size, 0, none⟩) 1 1 [op] := by
    have hso' := hso.below (by omega) al
    have hsv' := hsv.below (by omega) al
    refine ⟨_, ⟨rfl, Nat.le_refl _, by unfold maxLen; omega, fun _ => ⟨w_3.heap.size, 0, rfl, fun j u hu => by rw [cell_of_row _ _ _ _ _ _ (heap_alloc_new w_3 _)]; simpa using hu⟩⟩, RowC.single ⟨_, _, by rw [u8v, Hkk.out], Bk.of hso', Bk.of hsv'⟩, fun _ _ _ => trivial⟩
  have hso := hso.below (by omega) al
  have hsv := hsv.below (by omega) al
  have kO := kO.below al
  have hq0 := hq0.trans (al.mono hq0.size)
  have s2 := s2.below al
  have s3 := s3.below (by omega) al
  go_wp2_with fail
  generalize (w_3.alloc (.cells #[.int .u8 (kd : Int), .slice Ao no co, .slice Av nv cv] 47)) = w_4 at *
  generalize w_3.heap.size = gr at *
  clear x0 x1 x2 x3 al
  clear hso hsv
  have hf1 : fewOps [op] 1 = [cutOp op] := rfl
  have ng4 : w.heap.size < w_4.heap.size := kO.lt
  skip
  refine (fewopsY_any w_4 _ _ 1 1 [op] 1 hrow (by omega)).mono ?_
  rintro e w_5 ⟨A5, n5, c5, rfl, ho5, hb_5⟩
  have kO := kO.below hb_5
  have hq0 := hq0.trans (hb_5.mono hq0.size)
  have s2 := s2.below hb_5
  have s3 := s3.below (by omega) hb_5
  clear hb_5
  rw [hf1] at ho5
  obtain rfl : 1 = n5 := ho5.lenR
  obtain ⟨b5, o5, A8, n8, c8, A9, n9, c9, hjl, rfl, d0, d1, d2, s8, s9, h8, h9⟩ := ho5.at_ (k := 0) (by omega)
  have hxk : (cutOp op).kind.toNat = kd := Hkk.out
  have hxz : (cutOp op).key.length ≤ 10000 ∧ (cutOp op).value.length ≤ 10000 := by unfold cutOp; simp only [List.length_take]; omega
  have d0 : w_5.cell? ⟨b5, o5, none⟩ = some (.int .u8 (kd : Int)) := by rw [← hxk]; simpa using d0
  have d1 : w_5.cell? ⟨b5, o5 + 1, none⟩ = some (.slice A8 n8 c8) := by simpa using d1
  have d2 : w_5.cell? ⟨b5, o5 + 2, none⟩ = some (.slice A9 n9 c9) := by simpa using d2
  have s8 : Sl w_5 1 A8 n8 c8 (bc (cutOp op).key) := s8
  have s9 : Sl w_5 1 A9 n9 c9 (bc (cutOp op).value) := s9
  generalize cutOp op = x at *
  have Hxk := Lib.hid hxk
  have Hxz := Lib.hid hxz
  clear hrow hf1 hxk hxz
  obtain ⟨x0, x1, x2, x3⟩ := id kO
  go_wp2_with fail
  refine nameC ?_
  intro w_6 e6
  obtain ⟨kO, hg⟩ := kO.set e6
  have s2 := s2.move (q := fun b => w.heap.size < b) fun b hl hp => ⟨hg.block b hl (by simp; omega), by omega⟩
  have s3 := s3.grown (by omega) hg (fun hn b e q => by have := h3 b hn e; simp at q; omega)
  have s8 := s8.grown (by omega) hg (fun hn b e q => by have := h8 b hn e; simp at q; omega)
  have s9 := s9.grown (by omega) hg (fun hn b e q => by have := h9 b hn e; simp at q; omega)
  have hq0 := hq0.grown hg hq0.size (fun b e => by simp at e; omega)
  clear e6 hg d0 d1 d2 x0 x1 x2 x3 h3 h8 h9 ng1 ng2 ng4
  obtain ⟨r, hr⟩ : ∃ r, overL fs kk = r := ⟨_, rfl⟩
  have co := over_any w_6 _ A2 n2 c2 fs s2 Hz.out A3 n3 c3 kk s3
  rw [hr] at co
  unfold GotOver at co
  have hr2 := over_snoc fs x kk
  rw [hr] at hr2
  obtain ⟨r2, hr2'⟩ : ∃ r2, overL (fs ++ [x]) kk = r2 := ⟨_, rfl⟩
  rw [hr2'] at hr2
  obtain ⟨v, hv⟩ : ∃ v, coversL x kk = v := ⟨_, rfl⟩
  rw [hv] at hr2
  generalize hy : r.getD noOp = y at *
  generalize hyk : y.kind.toNat = yk at *
  generalize hob : r.isSome = ob at *
  generalize hy2 : r2.getD noOp = y2 at *
  generalize hyk2 : y2.kind.toNat = yk2 at *
  generalize hob2 : r2.isSome = ob2 at *
  have Hcase : Hid (if v = true then y2 = x ∧ ob2 = true else y2 = y ∧ ob2 = ob) := by
    unfold Hid
    cases v
    · simp only [Bool.false_eq_true, if_false] at hr2 ⊢
      subst hr2
      exact ⟨hy2.symm.trans hy, hob2.symm.trans hob⟩
    · simp only [if_true] at hr2 ⊢
      subst hr2
      exact ⟨hy2.symm, hob2.symm⟩
  have cn := fun w' A' n' c' (h : SlR w' (fun _ => True) A' n' c' (fs ++ [x])) (hz : ∀ o ∈ fs ++ [x], o.key.length ≤ 10000 ∧ o.value.length ≤ 10000) (s : Sl w' 1 A3 n3 c3 (bc kk)) => over_new w' _ A' n' c' (fs ++ [x]) h hz A3 n3 c3 kk s
  rw [hr2'] at cn
  unfold GotOverN at cn
  rw [hy2, hyk2, hob2] at cn
  have Hyk := Lib.hid hyk
  have Hyk2 := Lib.hid hyk2
  have Hv := Lib.hid hv
  have Co := Lib.hid co
  have Cn := Lib.hid cn
  have Hzx : Hid (∀ o ∈ fs ++ [x], o.key.length ≤ 10000 ∧ o.value.length ≤ 10000) := fun o ho => by
    rcases List.mem_append.1 ho with h1 | h1
    · exact Hz.out o h1
    · have e : o = x := by simpa using h1
      rw [e]
      exact Hxz.out
  clear hr2 hr2' hr hv hy hyk hob hy2 hyk2 hob2 cn co
  skip
  refine (Co.out).mono ?_
  rintro e w_7 ⟨A10, n10, c10, A11, n11, c11, rfl, s10, s11, hb_7⟩
  have kO := kO.below hb_7
  have hq0 := hq0.trans (hb_7.mono hq0.size)
  have s2 := s2.below hb_7
  have s3 := s3.below (by omega) hb_7
  have s8 := s8.below (by omega) hb_7
  have s9 := s9.below (by omega) hb_7
  clear hb_7
  have kA := Bx.fresh w_7 (.int .u8 (yk : Int)) (.slice A10 n10 c10) (.slice A11 n11 c11) 47
  have al := (Below.refl w_7.heap.size w_7).alloc (Nat.le_refl _) (.cells #[.int .u8 (yk : Int), .slice A10 n10 c10, .slice A11 n11 c11] 47)
  have kO := kO.below al
  have hq0 := hq0.trans (al.mono hq0.size)
  have s2 := s2.below al
  have s3 := s3.below (by omega) al
  have s8 := s8.below (by omega) al
  have s9 := s9.below (by omega) al
  have s10 := s10.below (by omega) al
  have s11 := s11.below (by omega) al
  go_wp2_with fail
  generalize (w_7.alloc (.cells #[.int .u8 (yk : Int), .slice A10 n10 c10, .slice A11 n11 c11] 47)) = w_8 at *
  generalize w_7.heap.size = gA at *
  clear al
  go_cut [9, 10] from 28 (fun s9 s10 wx => ∃ (gN : Nat) (A6 : Option Addr) (n6 c6 : Nat) (A7 : Option Addr) (n7 c7 : Nat), s9 = .pointer (some ⟨gN, 0, none⟩) ∧ s10 = .bool ob2 ∧ Below w_8.heap.size w_8 wx ∧ Bx wx gN (.int .u8 (yk2 : Int)) (.slice A6 n6 c6) (.slice A7 n7 c7) ∧ Sl wx 1 A6 n6 c6 (bc y2.key) ∧ Sl wx 1 A7 n7 c7 (bc y2.value))
  case first =>
    have s2 := s2.below (below_drew (Below.refl _ _))
    have s3 := s3.drew
    have s8 := s8.drew
    have s9 := s9.drew
    have kO := kO.drew
    have hX9 : Below w_8.heap.size w_8 w_8.drew := below_drew (Below.refl _ _)
    generalize hW : w_8.drew = w_9 at *
    refine regionF (fun _ wa wb => Below w_9.heap.size w_9 wa → Below w_9.heap.size w_9 wb) (by kernel_rfl) ?_
    rw [hW]
    clear hW
    have hX := Below.refl w_9.heap.size w_9
    have s2 : SlR w_9 (fun _ => True) A2 n2 c2 fs := s2.mono fun _ _ _ => trivial
    refine takeF (i := 0) (v := ?_) (fun wa => Below w_9.heap.size w_9 wa) rfl (by kernel_rfl) (by kernel_rfl) (by kernel_rfl) (fun j hj => .inr (.inr fun wa wb h g => g h)) (fun wa => id) (fun _ _ _ h => h) (Or.inl ⟨by kernel_rfl, ?hy⟩) hX ?_
    case hy =>
      intro wS hSw
      clear hSw
      go_simp
      try with_reducible rfl
    try simp only [List.getElem_toArray, List.getElem_cons_succ, List.getElem_cons_zero, Act.put, List.setIfInBounds_toArray, List.set_cons_zero, List.set_cons_succ]
    refine takeF (i := 2) (v := ?_) (fun wa => Below w_9.heap.size w_9 wa) rfl (by kernel_rfl) (by kernel_rfl) (by kernel_rfl) (fun j hj => .inr (.inr fun wa wb h g => g h)) (fun wa => id) (fun _ _ _ h => h) (Or.inl ⟨by kernel_rfl, ?hy⟩) hX ?_
    case hy =>
      intro wS hSw
      obtain ⟨x0, x1, x2, x3⟩ := kO.below hSw
      go_simp
      try with_reducible rfl
    try simp only [List.getElem_toArray, List.getElem_cons_succ, List.getElem_cons_zero, Act.put, List.setIfInBounds_toArray, List.set_cons_zero, List.set_cons_succ]
    refine takeF (i := 5) (v := ?_) (fun wa => Below w_9.heap.size w_9 wa) rfl (by kernel_rfl) (by kernel_rfl) (by kernel_rfl) (fun j hj => .inr (.inr fun wa wb h g => g h)) (fun wa => id) (fun _ _ _ h => h) (Or.inl ⟨by kernel_rfl, ?hy⟩) hX ?_
    case hy =>
      intro wS hSw
      clear hSw
      go_simp
      try with_reducible rfl
    try simp only [List.getElem_toArray, List.getElem_cons_succ, List.getElem_cons_zero, Act.put, List.setIfInBounds_toArray, List.set_cons_zero, List.set_cons_succ]
    refine readyF (rs := [1, 3, 10]) (by kernel_rfl) (by simp) ?_
    refine AllF.cons rfl (fun K hK => ?_) ?_
    · go_simp
      refine (rcopyops_any w_9 _ A2 n2 c2 fs (s2.below hX) (by have := Hl.out; omega) Hz.out).mono ?_
      rintro e w_9_1 ⟨AC, nC, cC, rfl, hoC, hb⟩
      refine hK _ _ (fun _ => hX.trans (hb.mono hX.size)) ?_
      clear hK K
      have hzB := hX.size
      have hzC := hb.size
      have hX := hX.trans (hb.mono hX.size)
      obtain ⟨BB, hBB⟩ : ∃ BB, BB = w_9.heap.size := ⟨_, rfl⟩
      have hzB : w_9.heap.size ≤ BB := by rw [hBB]; exact hzB
      rw [← hBB] at hoC hzC
      have hnC : nC ≤ 40 := by have := hoC.lenR; have := Hl.out; omega
      clear hb hBB
      refine readyF (rs := [3, 10]) (by kernel_rfl) (by simp) ?_
      refine AllF.cons rfl (fun K hK => ?_) ?_
      · go_simp
        refine hK _ _ (fun h => h.alloc h.size _) ?_
        clear hK K
        have al := (Below.refl w_9_1.heap.size w_9_1).alloc (Nat.le_refl _) (.cells #[.int .u8 (kd : Int), .slice A8 n8 c8, .slice A9 n9 c9] 47)
        have hlit : Sl (w_9_1.alloc (.cells #[.int .u8 (kd : Int), .slice A8 n8 c8, .slice A9 n9 c9] 47)) 3 (some ⟨w_9_1.heap.size, 0, none⟩) 1 1 [.int .u8 (kd : Int), .slice A8 n8 c8, .slice A9 n9 c9] := ⟨rfl, Nat.le_refl _, by unfold maxLen; omega, fun _ => ⟨w_9_1.heap.size, 0, rfl, fun j u hu => by rw [cell_of_row _ _ _ _ _ _ (heap_alloc_new w_9_1 _)]; simpa using hu⟩⟩
        have hrow : RowC (w_9_1.alloc (.cells #[.int .u8 (kd : Int), .slice A8 n8 c8, .slice A9 n9 c9] 47)) (fun b => b < w_9.heap.size) [.int .u8 (kd : Int), .slice A8 n8 c8, .slice A9 n9 c9] [x] := RowC.single ⟨_, _, by rw [u8v, Hxk.out], ⟨A8, n8, c8, rfl, (s8.below (by omega) hX).below (by omega) al, fun b hn e => s8.lt (by omega) hn b e⟩, ⟨A9, n9, c9, rfl, (s9.below (by omega) hX).below (by omega) al, fun b hn e => s9.lt (by omega) hn b e⟩⟩
        have hX := hX.alloc hX.size (.cells #[.int .u8 (kd : Int), .slice A8 n8 c8, .slice A9 n9 c9] 47)
        have hoC := hoC.below al
        have hzC := Nat.le_trans hzC al.size
        clear al
        generalize (w_9_1.alloc (.cells #[.int .u8 (kd : Int), .slice A8 n8 c8, .slice A9 n9 c9] 47)) = w_9_1_3 at *
        refine readyF (rs := [4, 10]) (by kernel_rfl) (by simp) ?_
        refine AllF.cons rfl (fun K hK => ?_) ?_
        · refine step_appR (α := OpL) (by rfl) (.tmp 30) (.tmp 32) 24 (by rfl) BB 47 _ 56 Try.underlying24 infoOp rfl AC nC cC _ (by rfl) hoC _ _ 1 1 _ (by rfl) ⟨_, hlit, hrow⟩ (fun b _ h => .inl (Nat.lt_of_lt_of_le h hzB)) (by unfold maxLen; omega) (by omega) hzC ?_
          intro AD cD w_9_1_3_4 hoD hg hx
          refine hK _ _ (fun h => h.grown hg h.size (fun b e => by have := (hoC.lt b e).1; omega)) ?_
          clear hK K
          have hX := hX.grown hg hX.size (fun b e => by have := (hoC.lt b e).1; omega)
          have hoE := hoD
          clear hg hx hoD hlit hrow
          refine readyF (rs := [6, 10]) (by kernel_rfl) (by simp) ?_
          refine AllF.cons rfl (fun K hK => ?_) ?_
          · go_simp
            refine (Cn.out w_9_1_3_4 AD _ cD hoE.sl Hzx.out (s3.below (by omega) hX)).mono ?_
            rintro e w_9_1_3_4_6 ⟨A6, n6, c6, A7, n7, c7, rfl, t6, t7, nw6, nw7, hb⟩
            refine hK _ _ (fun _ => hX.trans (hb.mono hX.size)) ?_
            clear hK K
            have hX := hX.trans (hb.mono hX.size)
            clear hb nw6 nw7
            refine takeF (i := 7) (v := ?_) (fun wa => Below w_9.heap.size w_9 wa) rfl (by kernel_rfl) (by kernel_rfl) (by kernel_rfl) (fun j hj => .inr (.inr fun wa wb h g => g h)) (fun wa => id) (fun _ _ _ h => h) (Or.inl ⟨by kernel_rfl, ?hy⟩) hX ?_
            case hy =>
              intro wS hSw
              clear hSw
              go_simp
              try with_reducible rfl
            try simp only [List.getElem_toArray, List.getElem_cons_succ, List.getElem_cons_zero, Act.put, List.setIfInBounds_toArray, List.set_cons_zero, List.set_cons_succ]
            refine takeF (i := 8) (v := ?_) (fun wa => Below w_9.heap.size w_9 wa) rfl (by kernel_rfl) (by kernel_rfl) (by kernel_rfl) (fun j hj => .inr (.inr fun wa wb h g => g h)) (fun wa => id) (fun _ _ _ h => h) (Or.inl ⟨by kernel_rfl, ?hy⟩) hX ?_
            case hy =>
              intro wS hSw
              clear hSw
              go_simp
              try with_reducible rfl
            try simp only [List.getElem_toArray, List.getElem_cons_succ, List.getElem_cons_zero, Act.put, List.setIfInBounds_toArray, List.set_cons_zero, List.set_cons_succ]
            refine takeF (i := 9) (v := ?_) (fun wa => Below w_9.heap.size w_9 wa) rfl (by kernel_rfl) (by kernel_rfl) (by kernel_rfl) (fun j hj => .inr (.inr fun wa wb h g => g h)) (fun wa => id) (fun _ _ _ h => h) (Or.inl ⟨by kernel_rfl, ?hy⟩) hX ?_
            case hy =>
              intro wS hSw
              clear hSw
              go_simp
              try with_reducible rfl
            try simp only [List.getElem_toArray, List.getElem_cons_succ, List.getElem_cons_zero, Act.put, List.setIfInBounds_toArray, List.set_cons_zero, List.set_cons_succ]
            refine readyF (rs := [10]) (by kernel_rfl) (by simp) ?_
            refine AllF.cons rfl (fun K hK => ?_) AllF.nil
            go_simp
            refine hK _ _ (fun h => h.alloc h.size _) ?_
            clear hK K
            have hk6 : ∀ b, 0 < n6 → A6.map (·.block) = some b → b ≠ w_9_1_3_4_6.heap.size := fun b hn e => by have := t6.lt (by omega) hn b e; omega
            have hk7 : ∀ b, 0 < n7 → A7.map (·.block) = some b → b ≠ w_9_1_3_4_6.heap.size := fun b hn e => by have := t7.lt (by omega) hn b e; omega
            have kN := Bx.fresh w_9_1_3_4_6 (.int .u8 0) (.slice none 0 0) (.slice none 0 0) 47
            have al := (Below.refl w_9_1_3_4_6.heap.size w_9_1_3_4_6).alloc (Nat.le_refl _) (.cells #[.int .u8 0, .slice none 0 0, .slice none 0 0] 47)
            have hgX := hX.size
            have hX := hX.alloc hX.size (.cells #[.int .u8 0, .slice none 0 0, .slice none 0 0] 47)
            have t6 := t6.below (by omega) al
            have t7 := t7.below (by omega) al
            clear al
            generalize (w_9_1_3_4_6.alloc (.cells #[.int .u8 0, .slice none 0 0, .slice none 0 0] 47)) = w_9_1_3_4_6_10 at *
            refine readyF (rs := [11]) (by kernel_rfl) (by simp) ?_
            refine AllF.cons rfl (fun K hK => ?_) AllF.nil
            obtain ⟨y0, y1, y2', y3⟩ := id kN
            go_simp
            obtain ⟨kD, hg⟩ := Bx.set (v0 := .int .u8 (yk2 : Int)) (v1 := .slice A6 n6 c6) (v2 := .slice A7 n7 c7) kN rfl
            refine hK _ _ (fun h => h.grown hg h.size (fun b e => by simp at e; omega)) ?_
            clear hK K
            have hX := hX.grown hg hX.size (fun b e => by simp at e; omega)
            have t6 := t6.grown (by omega) hg (fun hn b e q => hk6 b hn e (by simpa using q.symm))
            have t7 := t7.grown (by omega) hg (fun hn b e q => hk7 b hn e (by simpa using q.symm))
            clear y0 y1 y2' y3
            refine takeF (i := 12) (v := ?_) (fun wa => Below w_9.heap.size w_9 wa) rfl (by kernel_rfl) (by kernel_rfl) (by kernel_rfl) (fun j hj => .inr (.inr fun wa wb h g => g h)) (fun wa => id) (fun _ _ _ h => h) (Or.inl ⟨by kernel_rfl, ?hy⟩) hX ?_
            case hy =>
              intro wS hSw
              clear hSw
              go_simp
              try with_reducible rfl
            try simp only [List.getElem_toArray, List.getElem_cons_succ, List.getElem_cons_zero, Act.put, List.setIfInBounds_toArray, List.set_cons_zero, List.set_cons_succ]
            refine doneF (by kernel_rfl) ?_ _
            try simp only [List.getElem_toArray, List.getElem_cons_succ, List.getElem_cons_zero, Act.put, List.setIfInBounds_toArray, List.set_cons_zero, List.set_cons_succ]
            go_wp2_with fail
            go_meet
            exact ⟨w_9_1_3_4_6.heap.size, A6, n6, c6, A7, n7, c7, rfl, rfl, hX9.trans (hX.mono hX9.size), kD, t6, t7⟩
          refine AllF.cons rfl (fun K hK => ?_) AllF.nil
          go_simp
          refine hK _ _ (fun h => h.alloc h.size _) ?_
          clear hK K
          have kN := Bx.fresh w_9_1_3_4 (.int .u8 0) (.slice none 0 0) (.slice none 0 0) 47
          have al := (Below.refl w_9_1_3_4.heap.size w_9_1_3_4).alloc (Nat.le_refl _) (.cells #[.int .u8 0, .slice none 0 0, .slice none 0 0] 47)
          have hgX := hX.size
          have hX := hX.alloc hX.size (.cells #[.int .u8 0, .slice none 0 0, .slice none 0 0] 47)
          have hoE := hoE.below al
          clear al
          generalize (w_9_1_3_4.alloc (.cells #[.int .u8 0, .slice none 0 0, .slice none 0 0] 47)) = w_9_1_3_4_10 at *
          refine readyF (rs := [6]) (by kernel_rfl) (by simp) ?_
          refine AllF.cons rfl (fun K hK => ?_) AllF.nil
          go_simp
          refine (Cn.out w_9_1_3_4_10 AD _ cD hoE.sl Hzx.out (s3.below (by omega) hX)).mono ?_
          rintro e w_9_1_3_4_10_6 ⟨A6, n6, c6, A7, n7, c7, rfl, t6, t7, nw6, nw7, hb⟩
          refine hK _ _ (fun _ => hX.trans (hb.mono hX.size)) ?_
          clear hK K
          have hgl := kN.lt
          have hk6 : ∀ b, 0 < n6 → A6.map (·.block) = some b → b ≠ w_9_1_3_4.heap.size := fun b hn e => by have := nw6 b hn e; omega
          have hk7 : ∀ b, 0 < n7 → A7.map (·.block) = some b → b ≠ w_9_1_3_4.heap.size := fun b hn e => by have := nw7 b hn e; omega
          have kN := kN.below hb
          have hX := hX.trans (hb.mono hX.size)
          clear hb nw6 nw7
          refine takeF (i := 7) (v := ?_) (fun wa => Below w_9.heap.size w_9 wa) rfl (by kernel_rfl) (by kernel_rfl) (by kernel_rfl) (fun j hj => .inr (.inr fun wa wb h g => g h)) (fun wa => id) (fun _ _ _ h => h) (Or.inl ⟨by kernel_rfl, ?hy⟩) hX ?_
          case hy =>
            intro wS hSw
            clear hSw
            go_simp
            try with_reducible rfl
          try simp only [List.getElem_toArray, List.getElem_cons_succ, List.getElem_cons_zero, Act.put, List.setIfInBounds_toArray, List.set_cons_zero, List.set_cons_succ]
          refine takeF (i := 8) (v := ?_) (fun wa => Below w_9.heap.size w_9 wa) rfl (by kernel_rfl) (by kernel_rfl) (by kernel_rfl) (fun j hj => .inr (.inr fun wa wb h g => g h)) (fun wa => id) (fun _ _ _ h => h) (Or.inl ⟨by kernel_rfl, ?hy⟩) hX ?_
          case hy =>
            intro wS hSw
            clear hSw
            go_simp
            try with_reducible rfl
          try simp only [List.getElem_toArray, List.getElem_cons_succ, List.getElem_cons_zero, Act.put, List.setIfInBounds_toArray, List.set_cons_zero, List.set_cons_succ]
          refine takeF (i := 9) (v := ?_) (fun wa => Below w_9.heap.size w_9 wa) rfl (by kernel_rfl) (by kernel_rfl) (by kernel_rfl) (fun j hj => .inr (.inr fun wa wb h g => g h)) (fun wa => id) (fun _ _ _ h => h) (Or.inl ⟨by kernel_rfl, ?hy⟩) hX ?_
          case hy =>
            intro wS hSw
            clear hSw
            go_simp
            try with_reducible rfl
          try simp only [List.getElem_toArray, List.getElem_cons_succ, List.getElem_cons_zero, Act.put, List.setIfInBounds_toArray, List.set_cons_zero, List.set_cons_succ]
          refine readyF (rs := [11]) (by kernel_rfl) (by simp) ?_
          refine AllF.cons rfl (fun K hK => ?_) AllF.nil
          obtain ⟨y0, y1, y2', y3⟩ := id kN
          go_simp
          obtain ⟨kD, hg⟩ := Bx.set (v0 := .int .u8 (yk2 : Int)) (v1 := .slice A6 n6 c6) (v2 := .slice A7 n7 c7) kN rfl
          refine hK _ _ (fun h => h.grown hg h.size (fun b e => by simp at e; omega)) ?_
          clear hK K
          have hX := hX.grown hg hX.size (fun b e => by simp at e; omega)
          have t6 := t6.grown (by omega) hg (fun hn b e q => hk6 b hn e (by simpa using q.symm))
          have t7 := t7.grown (by omega) hg (fun hn b e q => hk7 b hn e (by simpa using q.symm))
          clear y0 y1 y2' y3
          refine takeF (i := 12) (v := ?_) (fun wa => Below w_9.heap.size w_9 wa) rfl (by kernel_rfl) (by kernel_rfl) (by kernel_rfl) (fun j hj => .inr (.inr fun wa wb h g => g h)) (fun wa => id) (fun _ _ _ h => h) (Or.inl ⟨by kernel_rfl, ?hy⟩) hX ?_
          case hy =>
            intro wS hSw
            clear hSw
            go_simp
            try with_reducible rfl
          try simp only [List.getElem_toArray, List.getElem_cons_succ, List.getElem_cons_zero, Act.put, List.setIfInBounds_toArray, List.set_cons_zero, List.set_cons_succ]
          refine doneF (by kernel_rfl) ?_ _
          try simp only [List.getElem_toArray, List.getElem_cons_succ, List.getElem_cons_zero, Act.put, List.setIfInBounds_toArray, List.set_cons_zero, List.set_cons_succ]
          go_wp2_with fail
          go_meet
          exact ⟨w_9_1_3_4.heap.size, A6, n6, c6, A7, n7, c7, rfl, rfl, hX9.trans (hX.mono hX9.size), kD, t6, t7⟩
        refine AllF.cons rfl (fun K hK => ?_) AllF.nil
        go_simp
        refine hK _ _ (fun h => h.alloc h.size _) ?_
        clear hK K
        have hneN : blk AC cC ≠ some w_9_1_3.heap.size := fun e => by have := (hoC.lt _ e).2; omega
        have kN := Bx.fresh w_9_1_3 (.int .u8 0) (.slice none 0 0) (.slice none 0 0) 47
        have al := (Below.refl w_9_1_3.heap.size w_9_1_3).alloc (Nat.le_refl _) (.cells #[.int .u8 0, .slice none 0 0, .slice none 0 0] 47)
        have hgX := hX.size
        have hX := hX.alloc hX.size (.cells #[.int .u8 0, .slice none 0 0, .slice none 0 0] 47)
        have hlit := hlit.below (by omega) al
        have hrow := hrow.move (q := fun b => b < w_9.heap.size) fun b hl hp => ⟨al.block b hl, hp⟩
        have hoC := hoC.below al
        have hzC := Nat.le_trans hzC al.size
        clear al
        generalize (w_9_1_3.alloc (.cells #[.int .u8 0, .slice none 0 0, .slice none 0 0] 47)) = w_9_1_3_10 at *
        refine readyF (rs := [4]) (by kernel_rfl) (by simp) ?_
        refine AllF.cons rfl (fun K hK => ?_) AllF.nil
        refine step_appR (α := OpL) (by rfl) (.tmp 30) (.tmp 32) 24 (by rfl) BB 47 _ 56 Try.underlying24 infoOp rfl AC nC cC _ (by rfl) hoC _ _ 1 1 _ (by rfl) ⟨_, hlit, hrow⟩ (fun b _ h => .inl (Nat.lt_of_lt_of_le h hzB)) (by unfold maxLen; omega) (by omega) hzC ?_
        intro AD cD w_9_1_3_10_4 hoD hg hx
        refine hK _ _ (fun h => h.grown hg h.size (fun b e => by have := (hoC.lt b e).1; omega)) ?_
        clear hK K
        have hX := hX.grown hg hX.size (fun b e => by have := (hoC.lt b e).1; omega)
        have kN := Bx.grownO kN hg hneN
        clear hneN
        have hoE := hoD
        clear hg hx hoD hlit hrow
        refine readyF (rs := [6]) (by kernel_rfl) (by simp) ?_
        refine AllF.cons rfl (fun K hK => ?_) AllF.nil
        go_simp
        refine (Cn.out w_9_1_3_10_4 AD _ cD hoE.sl Hzx.out (s3.below (by omega) hX)).mono ?_
        rintro e w_9_1_3_10_4_6 ⟨A6, n6, c6, A7, n7, c7, rfl, t6, t7, nw6, nw7, hb⟩
        refine hK _ _ (fun _ => hX.trans (hb.mono hX.size)) ?_
        clear hK K
        have hgl := kN.lt
        have hk6 : ∀ b, 0 < n6 → A6.map (·.block) = some b → b ≠ w_9_1_3.heap.size := fun b hn e => by have := nw6 b hn e; omega
        have hk7 : ∀ b, 0 < n7 → A7.map (·.block) = some b → b ≠ w_9_1_3.heap.size := fun b hn e => by have := nw7 b hn e; omega
        have kN := kN.below hb
        have hX := hX.trans (hb.mono hX.size)
        clear hb nw6 nw7
        refine takeF (i := 7) (v := ?_) (fun wa => Below w_9.heap.size w_9 wa) rfl (by kernel_rfl) (by kernel_rfl) (by kernel_rfl) (fun j hj => .inr (.inr fun wa wb h g => g h)) (fun wa => id) (fun _ _ _ h => h) (Or.inl ⟨by kernel_rfl, ?hy⟩) hX ?_
        case hy =>
          intro wS hSw
          clear hSw
          go_simp
          try with_reducible rfl
        try simp only [List.getElem_toArray, List.getElem_cons_succ, List.getElem_cons_zero, Act.put, List.setIfInBounds_toArray, List.set_cons_zero, List.set_cons_succ]
        refine takeF (i := 8) (v := ?_) (fun wa => Below w_9.heap.size w_9 wa) rfl (by kernel_rfl) (by kernel_rfl) (by kernel_rfl) (fun j hj => .inr (.inr fun wa wb h g => g h)) (fun wa => id) (fun _ _ _ h => h) (Or.inl ⟨by kernel_rfl, ?hy⟩) hX ?_
        case hy =>
          intro wS hSw
          clear hSw
          go_simp
          try with_reducible rfl
        try simp only [List.getElem_toArray, List.getElem_cons_succ, List.getElem_cons_zero, Act.put, List.setIfInBounds_toArray, List.set_cons_zero, List.set_cons_succ]
        refine takeF (i := 9) (v := ?_) (fun wa => Below w_9.heap.size w_9 wa) rfl (by kernel_rfl) (by kernel_rfl) (by kernel_rfl) (fun j hj => .inr (.inr fun wa wb h g => g h)) (fun wa => id) (fun _ _ _ h => h) (Or.inl ⟨by kernel_rfl, ?hy⟩) hX ?_
        case hy =>
          intro wS hSw
          clear hSw
          go_simp
          try with_reducible rfl
        try simp only [List.getElem_toArray, List.getElem_cons_succ, List.getElem_cons_zero, Act.put, List.setIfInBounds_toArray, List.set_cons_zero, List.set_cons_succ]
        refine readyF (rs := [11]) (by kernel_rfl) (by simp) ?_
        refine AllF.cons rfl (fun K hK => ?_) AllF.nil
        obtain ⟨y0, y1, y2', y3⟩ := id kN
        go_simp
        obtain ⟨kD, hg⟩ := Bx.set (v0 := .int .u8 (yk2 : Int)) (v1 := .slice A6 n6 c6) (v2 := .slice A7 n7 c7) kN rfl
        refine hK _ _ (fun h => h.grown hg h.size (fun b e => by simp at e; omega)) ?_
        clear hK K
        have hX := hX.grown hg hX.size (fun b e => by simp at e; omega)
        have t6 := t6.grown (by omega) hg (fun hn b e q => hk6 b hn e (by simpa using q.symm))
        have t7 := t7.grown (by omega) hg (fun hn b e q => hk7 b hn e (by simpa using q.symm))
        clear y0 y1 y2' y3
        refine takeF (i := 12) (v := ?_) (fun wa => Below w_9.heap.size w_9 wa) rfl (by kernel_rfl) (by kernel_rfl) (by kernel_rfl) (fun j hj => .inr (.inr fun wa wb h g => g h)) (fun wa => id) (fun _ _ _ h => h) (Or.inl ⟨by kernel_rfl, ?hy⟩) hX ?_
        case hy =>
          intro wS hSw
          clear hSw
          go_simp
          try with_reducible rfl
        try simp only [List.getElem_toArray, List.getElem_cons_succ, List.getElem_cons_zero, Act.put, List.setIfInBounds_toArray, List.set_cons_zero, List.set_cons_succ]
        refine doneF (by kernel_rfl) ?_ _
        try simp only [List.getElem_toArray, List.getElem_cons_succ, List.getElem_cons_zero, Act.put, List.setIfInBounds_toArray, List.set_cons_zero, List.set_cons_succ]
        go_wp2_with fail
        go_meet
        exact ⟨w_9_1_3.heap.size, A6, n6, c6, A7, n7, c7, rfl, rfl, hX9.trans (hX.mono hX9.size), kD, t6, t7⟩
      refine AllF.cons rfl (fun K hK => ?_) AllF.nil
      go_simp
      refine hK _ _ (fun h => h.alloc h.size _) ?_
      clear hK K
      have hneN : blk AC cC ≠ some w_9_1.heap.size := fun e => by have := (hoC.lt _ e).2; omega
      have kN := Bx.fresh w_9_1 (.int .u8 0) (.slice none 0 0) (.slice none 0 0) 47
      have al := (Below.refl w_9_1.heap.size w_9_1).alloc (Nat.le_refl _) (.cells #[.int .u8 0, .slice none 0 0, .slice none 0 0] 47)
      have hgX := hX.size
      have hX := hX.alloc hX.size (.cells #[.int .u8 0, .slice none 0 0, .slice none 0 0] 47)
      have hoC := hoC.below al
      have hzC := Nat.le_trans hzC al.size
      clear al
      generalize (w_9_1.alloc (.cells #[.int .u8 0, .slice none 0 0, .slice none 0 0] 47)) = w_9_1_10 at *
      refine readyF (rs := [3]) (by kernel_rfl) (by simp) ?_
      refine AllF.cons rfl (fun K hK => ?_) AllF.nil
      go_simp
      refine hK _ _ (fun h => h.alloc h.size _) ?_
      clear hK K
      have al := (Below.refl w_9_1_10.heap.size w_9_1_10).alloc (Nat.le_refl _) (.cells #[.int .u8 (kd : Int), .slice A8 n8 c8, .slice A9 n9 c9] 47)
      have hlit : Sl (w_9_1_10.alloc (.cells #[.int .u8 (kd : Int), .slice A8 n8 c8, .slice A9 n9 c9] 47)) 3 (some ⟨w_9_1_10.heap.size, 0, none⟩) 1 1 [.int .u8 (kd : Int), .slice A8 n8 c8, .slice A9 n9 c9] := ⟨rfl, Nat.le_refl _, by unfold maxLen; omega, fun _ => ⟨w_9_1_10.heap.size, 0, rfl, fun j u hu => by rw [cell_of_row _ _ _ _ _ _ (heap_alloc_new w_9_1_10 _)]; simpa using hu⟩⟩
      have hrow : RowC (w_9_1_10.alloc (.cells #[.int .u8 (kd : Int), .slice A8 n8 c8, .slice A9 n9 c9] 47)) (fun b => b < w_9.heap.size) [.int .u8 (kd : Int), .slice A8 n8 c8, .slice A9 n9 c9] [x] := RowC.single ⟨_, _, by rw [u8v, Hxk.out], ⟨A8, n8, c8, rfl, (s8.below (by omega) hX).below (by omega) al, fun b hn e => s8.lt (by omega) hn b e⟩, ⟨A9, n9, c9, rfl, (s9.below (by omega) hX).below (by omega) al, fun b hn e => s9.lt (by omega) hn b e⟩⟩
      have hX := hX.alloc hX.size (.cells #[.int .u8 (kd : Int), .slice A8 n8 c8, .slice A9 n9 c9] 47)
      have hoC := hoC.below al
      have hzC := Nat.le_trans hzC al.size
      have kN := kN.below al
      clear al
      generalize (w_9_1_10.alloc (.cells #[.int .u8 (kd : Int), .slice A8 n8 c8, .slice A9 n9 c9] 47)) = w_9_1_10_3 at *
      refine readyF (rs := [4]) (by kernel_rfl) (by simp) ?_
      refine AllF.cons rfl (fun K hK => ?_) AllF.nil
      refine step_appR (α := OpL) (by rfl) (.tmp 30) (.tmp 32) 24 (by rfl) BB 47 _ 56 Try.underlying24 infoOp rfl AC nC cC _ (by rfl) hoC _ _ 1 1 _ (by rfl) ⟨_, hlit, hrow⟩ (fun b _ h => .inl (Nat.lt_of_lt_of_le h hzB)) (by unfold maxLen; omega) (by omega) hzC ?_
      intro AD cD w_9_1_10_3_4 hoD hg hx
      refine hK _ _ (fun h => h.grown hg h.size (fun b e => by have := (hoC.lt b e).1; omega)) ?_
      clear hK K
      have hX := hX.grown hg hX.size (fun b e => by have := (hoC.lt b e).1; omega)
      have kN := Bx.grownO kN hg hneN
      clear hneN
      have hoE := hoD
      clear hg hx hoD hlit hrow
      refine readyF (rs := [6]) (by kernel_rfl) (by simp) ?_
      refine AllF.cons rfl (fun K hK => ?_) AllF.nil
      go_simp
      refine (Cn.out w_9_1_10_3_4 AD _ cD hoE.sl Hzx.out (s3.below (by omega) hX)).mono ?_
      rintro e w_9_1_10_3_4_6 ⟨A6, n6, c6, A7, n7, c7, rfl, t6, t7, nw6, nw7, hb⟩
      refine hK _ _ (fun _ => hX.trans (hb.mono hX.size)) ?_
      clear hK K
      have hgl := kN.lt
      have hk6 : ∀ b, 0 < n6 → A6.map (·.block) = some b → b ≠ w_9_1.heap.size := fun b hn e => by have := nw6 b hn e; omega
      have hk7 : ∀ b, 0 < n7 → A7.map (·.block) = some b → b ≠ w_9_1.heap.size := fun b hn e => by have := nw7 b hn e; omega
      have kN := kN.below hb
      have hX := hX.trans (hb.mono hX.size)
      clear hb nw6 nw7
      refine takeF (i := 7) (v := ?_) (fun wa => Below w_9.heap.size w_9 wa) rfl (by kernel_rfl) (by kernel_rfl) (by kernel_rfl) (fun j hj => .inr (.inr fun wa wb h g => g h)) (fun wa => id) (fun _ _ _ h => h) (Or.inl ⟨by kernel_rfl, ?hy⟩) hX ?_
      case hy =>
        intro wS hSw
        clear hSw
        go_simp
        try with_reducible rfl
      try simp only [List.getElem_toArray, List.getElem_cons_succ, List.getElem_cons_zero, Act.put, List.setIfInBounds_toArray, List.set_cons_zero, List.set_cons_succ]
      refine takeF (i := 8) (v := ?_) (fun wa => Below w_9.heap.size w_9 wa) rfl (by kernel_rfl) (by kernel_rfl) (by kernel_rfl) (fun j hj => .inr (.inr fun wa wb h g => g h)) (fun wa => id) (fun _ _ _ h => h) (Or.inl ⟨by kernel_rfl, ?hy⟩) hX ?_
      case hy =>
        intro wS hSw
        clear hSw
        go_simp
        try with_reducible rfl
      try simp only [List.getElem_toArray, List.getElem_cons_succ, List.getElem_cons_zero, Act.put, List.setIfInBounds_toArray, List.set_cons_zero, List.set_cons_succ]
      refine takeF (i := 9) (v := ?_) (fun wa => Below w_9.heap.size w_9 wa) rfl (by kernel_rfl) (by kernel_rfl) (by kernel_rfl) (fun j hj => .inr (.inr fun wa wb h g => g h)) (fun wa => id) (fun _ _ _ h => h) (Or.inl ⟨by kernel_rfl, ?hy⟩) hX ?_
      case hy =>
        intro wS hSw
        clear hSw
        go_simp
        try with_reducible rfl
      try simp only [List.getElem_toArray, List.getElem_cons_succ, List.getElem_cons_zero, Act.put, List.setIfInBounds_toArray, List.set_cons_zero, List.set_cons_succ]
      refine readyF (rs := [11]) (by kernel_rfl) (by simp) ?_
      refine AllF.cons rfl (fun K hK => ?_) AllF.nil
      obtain ⟨y0, y1, y2', y3⟩ := id kN
      go_simp
      obtain ⟨kD, hg⟩ := Bx.set (v0 := .int .u8 (yk2 : Int)) (v1 := .slice A6 n6 c6) (v2 := .slice A7 n7 c7) kN rfl
      refine hK _ _ (fun h => h.grown hg h.size (fun b e => by simp at e; omega)) ?_
      clear hK K
      have hX := hX.grown hg hX.size (fun b e => by simp at e; omega)
      have t6 := t6.grown (by omega) hg (fun hn b e q => hk6 b hn e (by simpa using q.symm))
      have t7 := t7.grown (by omega) hg (fun hn b e q => hk7 b hn e (by simpa using q.symm))
      clear y0 y1 y2' y3
      refine takeF (i := 12) (v := ?_) (fun wa => Below w_9.heap.size w_9 wa) rfl (by kernel_rfl) (by kernel_rfl) (by kernel_rfl) (fun j hj => .inr (.inr fun wa wb h g => g h)) (fun wa => id) (fun _ _ _ h => h) (Or.inl ⟨by kernel_rfl, ?hy⟩) hX ?_
      case hy =>
        intro wS hSw
        clear hSw
        go_simp
        try with_reducible rfl
      try simp only [List.getElem_toArray, List.getElem_cons_succ, List.getElem_cons_zero, Act.put, List.setIfInBounds_toArray, List.set_cons_zero, List.set_cons_succ]
      refine doneF (by kernel_rfl) ?_ _
      try simp only [List.getElem_toArray, List.getElem_cons_succ, List.getElem_cons_zero, Act.put, List.setIfInBounds_toArray, List.set_cons_zero, List.set_cons_succ]
      go_wp2_with fail
      go_meet
      exact ⟨w_9_1.heap.size, A6, n6, c6, A7, n7, c7, rfl, rfl, hX9.trans (hX.mono hX9.size), kD, t6, t7⟩
    refine AllF.cons rfl (fun K hK => ?_) ?_
    · go_simp
      refine hK _ _ (fun h => h.alloc h.size _) ?_
      clear hK K
      have al := (Below.refl w_9.heap.size w_9).alloc (Nat.le_refl _) (.cells #[.int .u8 (kd : Int), .slice A8 n8 c8, .slice A9 n9 c9] 47)
      have hlit : Sl (w_9.alloc (.cells #[.int .u8 (kd : Int), .slice A8 n8 c8, .slice A9 n9 c9] 47)) 3 (some ⟨w_9.heap.size, 0, none⟩) 1 1 [.int .u8 (kd : Int), .slice A8 n8 c8, .slice A9 n9 c9] := ⟨rfl, Nat.le_refl _, by unfold maxLen; omega, fun _ => ⟨w_9.heap.size, 0, rfl, fun j u hu => by rw [cell_of_row _ _ _ _ _ _ (heap_alloc_new w_9 _)]; simpa using hu⟩⟩
      have hrow : RowC (w_9.alloc (.cells #[.int .u8 (kd : Int), .slice A8 n8 c8, .slice A9 n9 c9] 47)) (fun b => b < w_9.heap.size) [.int .u8 (kd : Int), .slice A8 n8 c8, .slice A9 n9 c9] [x] := RowC.single ⟨_, _, by rw [u8v, Hxk.out], ⟨A8, n8, c8, rfl, (s8.below (by omega) hX).below (by omega) al, fun b hn e => s8.lt (by omega) hn b e⟩, ⟨A9, n9, c9, rfl, (s9.below (by omega) hX).below (by omega) al, fun b hn e => s9.lt (by omega) hn b e⟩⟩
      have hX := hX.alloc hX.size (.cells #[.int .u8 (kd : Int), .slice A8 n8 c8, .slice A9 n9 c9] 47)
      clear al
      generalize (w_9.alloc (.cells #[.int .u8 (kd : Int), .slice A8 n8 c8, .slice A9 n9 c9] 47)) = w_9_3 at *
      refine readyF (rs := [1, 10]) (by kernel_rfl) (by simp) ?_
      refine AllF.cons rfl (fun K hK => ?_) ?_
      · go_simp
        refine (rcopyops_any w_9_3 _ A2 n2 c2 fs (s2.below hX) (by have := Hl.out; omega) Hz.out).mono ?_
        rintro e w_9_3_1 ⟨AC, nC, cC, rfl, hoC, hb⟩
        refine hK _ _ (fun _ => hX.trans (hb.mono hX.size)) ?_
        clear hK K
        have hzB := hX.size
        have hzC := hb.size
        have hX := hX.trans (hb.mono hX.size)
        obtain ⟨BB, hBB⟩ : ∃ BB, BB = w_9_3.heap.size := ⟨_, rfl⟩
        have hzB : w_9.heap.size ≤ BB := by rw [hBB]; exact hzB
        rw [← hBB] at hoC hzC
        have hlit := hlit.below (by omega) hb
        have hrow := hrow.move (q := fun b => b < w_9.heap.size) fun b hl hp => ⟨hb.block b hl, hp⟩
        have hnC : nC ≤ 40 := by have := hoC.lenR; have := Hl.out; omega
        clear hb hBB
        refine readyF (rs := [4, 10]) (by kernel_rfl) (by simp) ?_
        refine AllF.cons rfl (fun K hK => ?_) ?_
        · refine step_appR (α := OpL) (by rfl) (.tmp 30) (.tmp 32) 24 (by rfl) BB 47 _ 56 Try.underlying24 infoOp rfl AC nC cC _ (by rfl) hoC _ _ 1 1 _ (by rfl) ⟨_, hlit, hrow⟩ (fun b _ h => .inl (Nat.lt_of_lt_of_le h hzB)) (by unfold maxLen; omega) (by omega) hzC ?_
          intro AD cD w_9_3_1_4 hoD hg hx
          refine hK _ _ (fun h => h.grown hg h.size (fun b e => by have := (hoC.lt b e).1; omega)) ?_
          clear hK K
          have hX := hX.grown hg hX.size (fun b e => by have := (hoC.lt b e).1; omega)
          have hoE := hoD
          clear hg hx hoD hlit hrow
          refine readyF (rs := [6, 10]) (by kernel_rfl) (by simp) ?_
          refine AllF.cons rfl (fun K hK => ?_) ?_
          · go_simp
            refine (Cn.out w_9_3_1_4 AD _ cD hoE.sl Hzx.out (s3.below (by omega) hX)).mono ?_
            rintro e w_9_3_1_4_6 ⟨A6, n6, c6, A7, n7, c7, rfl, t6, t7, nw6, nw7, hb⟩
            refine hK _ _ (fun _ => hX.trans (hb.mono hX.size)) ?_
            clear hK K
            have hX := hX.trans (hb.mono hX.size)
            clear hb nw6 nw7
            refine takeF (i := 7) (v := ?_) (fun wa => Below w_9.heap.size w_9 wa) rfl (by kernel_rfl) (by kernel_rfl) (by kernel_rfl) (fun j hj => .inr (.inr fun wa wb h g => g h)) (fun wa => id) (fun _ _ _ h => h) (Or.inl ⟨by kernel_rfl, ?hy⟩) hX ?_
            case hy =>
              intro wS hSw
              clear hSw
              go_simp
              try with_reducible rfl
            try simp only [List.getElem_toArray, List.getElem_cons_succ, List.getElem_cons_zero, Act.put, List.setIfInBounds_toArray, List.set_cons_zero, List.set_cons_succ]
            refine takeF (i := 8) (v := ?_) (fun wa => Below w_9.heap.size w_9 wa) rfl (by kernel_rfl) (by kernel_rfl) (by kernel_rfl) (fun j hj => .inr (.inr fun wa wb h g => g h)) (fun wa => id) (fun _ _ _ h => h) (Or.inl ⟨by kernel_rfl, ?hy⟩) hX ?_
            case hy =>
              intro wS hSw
              clear hSw
              go_simp
              try with_reducible rfl
            try simp only [List.getElem_toArray, List.getElem_cons_succ, List.getElem_cons_zero, Act.put, List.setIfInBounds_toArray, List.set_cons_zero, List.set_cons_succ]
            refine takeF (i := 9) (v := ?_) (fun wa => Below w_9.heap.size w_9 wa) rfl (by kernel_rfl) (by kernel_rfl) (by kernel_rfl) (fun j hj => .inr (.inr fun wa wb h g => g h)) (fun wa => id) (fun _ _ _ h => h) (Or.inl ⟨by kernel_rfl, ?hy⟩) hX ?_
            case hy =>
              intro wS hSw
              clear hSw
              go_simp
              try with_reducible rfl
            try simp only [List.getElem_toArray, List.getElem_cons_succ, List.getElem_cons_zero, Act.put, List.setIfInBounds_toArray, List.set_cons_zero, List.set_cons_succ]
            refine readyF (rs := [10]) (by kernel_rfl) (by simp) ?_
            refine AllF.cons rfl (fun K hK => ?_) AllF.nil
            go_simp
            refine hK _ _ (fun h => h.alloc h.size _) ?_
            clear hK K
            have hk6 : ∀ b, 0 < n6 → A6.map (·.block) = some b → b ≠ w_9_3_1_4_6.heap.size := fun b hn e => by have := t6.lt (by omega) hn b e; omega
            have hk7 : ∀ b, 0 < n7 → A7.map (·.block) = some b → b ≠ w_9_3_1_4_6.heap.size := fun b hn e => by have := t7.lt (by omega) hn b e; omega
            have kN := Bx.fresh w_9_3_1_4_6 (.int .u8 0) (.slice none 0 0) (.slice none 0 0) 47
            have al := (Below.refl w_9_3_1_4_6.heap.size w_9_3_1_4_6).alloc (Nat.le_refl _) (.cells #[.int .u8 0, .slice none 0 0, .slice none 0 0] 47)
            have hgX := hX.size
            have hX := hX.alloc hX.size (.cells #[.int .u8 0, .slice none 0 0, .slice none 0 0] 47)
            have t6 := t6.below (by omega) al
            have t7 := t7.below (by omega) al
            clear al
            generalize (w_9_3_1_4_6.alloc (.cells #[.int .u8 0, .slice none 0 0, .slice none 0 0] 47)) = w_9_3_1_4_6_10 at *
            refine readyF (rs := [11]) (by kernel_rfl) (by simp) ?_
            refine AllF.cons rfl (fun K hK => ?_) AllF.nil
            obtain ⟨y0, y1, y2', y3⟩ := id kN
            go_simp
            obtain ⟨kD, hg⟩ := Bx.set (v0 := .int .u8 (yk2 : Int)) (v1 := .slice A6 n6 c6) (v2 := .slice A7 n7 c7) kN rfl
            refine hK _ _ (fun h => h.grown hg h.size (fun b e => by simp at e; omega)) ?_
            clear hK K
            have hX := hX.grown hg hX.size (fun b e => by simp at e; omega)
            have t6 := t6.grown (by omega) hg (fun hn b e q => hk6 b hn e (by simpa using q.symm))
            have t7 := t7.grown (by omega) hg (fun hn b e q => hk7 b hn e (by simpa using q.symm))
            clear y0 y1 y2' y3
            refine takeF (i := 12) (v := ?_) (fun wa => Below w_9.heap.size w_9 wa) rfl (by kernel_rfl) (by kernel_rfl) (by kernel_rfl) (fun j hj => .inr (.inr fun wa wb h g => g h)) (fun wa => id) (fun _ _ _ h => h) (Or.inl ⟨by kernel_rfl, ?hy⟩) hX ?_
            case hy =>
              intro wS hSw
              clear hSw
              go_simp
              try with_reducible rfl
            try simp only [List.getElem_toArray, List.getElem_cons_succ, List.getElem_cons_zero, Act.put, List.setIfInBounds_toArray, List.set_cons_zero, List.set_cons_succ]
            refine doneF (by kernel_rfl) ?_ _
            try simp only [List.getElem_toArray, List.getElem_cons_succ, List.getElem_cons_zero, Act.put, List.setIfInBounds_toArray, List.set_cons_zero, List.set_cons_succ]
            go_wp2_with fail
            go_meet
            exact ⟨w_9_3_1_4_6.heap.size, A6, n6, c6, A7, n7, c7, rfl, rfl, hX9.trans (hX.mono hX9.size), kD, t6, t7⟩
          refine AllF.cons rfl (fun K hK => ?_) AllF.nil
          go_simp
          refine hK _ _ (fun h => h.alloc h.size _) ?_
          clear hK K
          have kN := Bx.fresh w_9_3_1_4 (.int .u8 0) (.slice none 0 0) (.slice none 0 0) 47
          have al := (Below.refl w_9_3_1_4.heap.size w_9_3_1_4).alloc (Nat.le_refl _) (.cells #[.int .u8 0, .slice none 0 0, .slice none 0 0] 47)
          have hgX := hX.size
          have hX := hX.alloc hX.size (.cells #[.int .u8 0, .slice none 0 0, .slice none 0 0] 47)
          have hoE := hoE.below al
          clear al
          generalize (w_9_3_1_4.alloc (.cells #[.int .u8 0, .slice none 0 0, .slice none 0 0] 47)) = w_9_3_1_4_10 at *
          refine readyF (rs := [6]) (by kernel_rfl) (by simp) ?_
          refine AllF.cons rfl (fun K hK => ?_) AllF.nil
          go_simp
          refine (Cn.out w_9_3_1_4_10 AD _ cD hoE.sl Hzx.out (s3.below (by omega) hX)).mono ?_
          rintro e w_9_3_1_4_10_6 ⟨A6, n6, c6, A7, n7, c7, rfl, t6, t7, nw6, nw7, hb⟩
          refine hK _ _ (fun _ => hX.trans (hb.mono hX.size)) ?_
          clear hK K
          have hgl := kN.lt
          have hk6 : ∀ b, 0 < n6 → A6.map (·.block) = some b → b ≠ w_9_3_1_4.heap.size := fun b hn e => by have := nw6 b hn e; omega
          have hk7 : ∀ b, 0 < n7 → A7.map (·.block) = some b → b ≠ w_9_3_1_4.heap.size := fun b hn e => by have := nw7 b hn e; omega
          have kN := kN.below hb
          have hX := hX.trans (hb.mono hX.size)
          clear hb nw6 nw7
          refine takeF (i := 7) (v := ?_) (fun wa => Below w_9.heap.size w_9 wa) rfl (by kernel_rfl) (by kernel_rfl) (by kernel_rfl) (fun j hj => .inr (.inr fun wa wb h g => g h)) (fun wa => id) (fun _ _ _ h => h) (Or.inl ⟨by kernel_rfl, ?hy⟩) hX ?_
          case hy =>
            intro wS hSw
            clear hSw
            go_simp
            try with_reducible rfl
          try simp only [List.getElem_toArray, List.getElem_cons_succ, List.getElem_cons_zero, Act.put, List.setIfInBounds_toArray, List.set_cons_zero, List.set_cons_succ]
          refine takeF (i := 8) (v := ?_) (fun wa => Below w_9.heap.size w_9 wa) rfl (by kernel_rfl) (by kernel_rfl) (by kernel_rfl) (fun j hj => .inr (.inr fun wa wb h g => g h)) (fun wa => id) (fun _ _ _ h => h) (Or.inl ⟨by kernel_rfl, ?hy⟩) hX ?_
          case hy =>
            intro wS hSw
            clear hSw
            go_simp
            try with_reducible rfl
          try simp only [List.getElem_toArray, List.getElem_cons_succ, List.getElem_cons_zero, Act.put, List.setIfInBounds_toArray, List.set_cons_zero, List.set_cons_succ]
          refine takeF (i := 9) (v := ?_) (fun wa => Below w_9.heap.size w_9 wa) rfl (by kernel_rfl) (by kernel_rfl) (by kernel_rfl) (fun j hj => .inr (.inr fun wa wb h g => g h)) (fun wa => id) (fun _ _ _ h => h) (Or.inl ⟨by kernel_rfl, ?hy⟩) hX ?_
          case hy =>
            intro wS hSw
            clear hSw
            go_simp
            try with_reducible rfl
          try simp only [List.getElem_toArray, List.getElem_cons_succ, List.getElem_cons_zero, Act.put, List.setIfInBounds_toArray, List.set_cons_zero, List.set_cons_succ]
          refine readyF (rs := [11]) (by kernel_rfl) (by simp) ?_
          refine AllF.cons rfl (fun K hK => ?_) AllF.nil
          obtain ⟨y0, y1, y2', y3⟩ := id kN
          go_simp
          obtain ⟨kD, hg⟩ := Bx.set (v0 := .int .u8 (yk2 : Int)) (v1 := .slice A6 n6 c6) (v2 := .slice A7 n7 c7) kN rfl
          refine hK _ _ (fun h => h.grown hg h.size (fun b e => by simp at e; omega)) ?_
          clear hK K
          have hX := hX.grown hg hX.size (fun b e => by simp at e; omega)
          have t6 := t6.grown (by omega) hg (fun hn b e q => hk6 b hn e (by simpa using q.symm))
          have t7 := t7.grown (by omega) hg (fun hn b e q => hk7 b hn e (by simpa using q.symm))
          clear y0 y1 y2' y3
          refine takeF (i := 12) (v := ?_) (fun wa => Below w_9.heap.size w_9 wa) rfl (by kernel_rfl) (by kernel_rfl) (by kernel_rfl) (fun j hj => .inr (.inr fun wa wb h g => g h)) (fun wa => id) (fun _ _ _ h => h) (Or.inl ⟨by kernel_rfl, ?hy⟩) hX ?_
          case hy =>
            intro wS hSw
            clear hSw
            go_simp
            try with_reducible rfl
          try simp only [List.getElem_toArray, List.getElem_cons_succ, List.getElem_cons_zero, Act.put, List.setIfInBounds_toArray, List.set_cons_zero, List.set_cons_succ]
          refine doneF (by kernel_rfl) ?_ _
          try simp only [List.getElem_toArray, List.getElem_cons_succ, List.getElem_cons_zero, Act.put, List.setIfInBounds_toArray, List.set_cons_zero, List.set_cons_succ]
          go_wp2_with fail
          go_meet
          exact ⟨w_9_3_1_4.heap.size, A6, n6, c6, A7, n7, c7, rfl, rfl, hX9.trans (hX.mono hX9.size), kD, t6, t7⟩
        refine AllF.cons rfl (fun K hK => ?_) AllF.nil
        go_simp
        refine hK _ _ (fun h => h.alloc h.size _) ?_
        clear hK K
        have hneN : blk AC cC ≠ some w_9_3_1.heap.size := fun e => by have := (hoC.lt _ e).2; omega
        have kN := Bx.fresh w_9_3_1 (.int .u8 0) (.slice none 0 0) (.slice none 0 0) 47
        have al := (Below.refl w_9_3_1.heap.size w_9_3_1).alloc (Nat.le_refl _) (.cells #[.int .u8 0, .slice none 0 0, .slice none 0 0] 47)
        have hgX := hX.size
        have hX := hX.alloc hX.size (.cells #[.int .u8 0, .slice none 0 0, .slice none 0 0] 47)
        have hlit := hlit.below (by omega) al
        have hrow := hrow.move (q := fun b => b < w_9.heap.size) fun b hl hp => ⟨al.block b hl, hp⟩
        have hoC := hoC.below al
        have hzC := Nat.le_trans hzC al.size
        clear al
        generalize (w_9_3_1.alloc (.cells #[.int .u8 0, .slice none 0 0, .slice none 0 0] 47)) = w_9_3_1_10 at *
        refine readyF (rs := [4]) (by kernel_rfl) (by simp) ?_
        refine AllF.cons rfl (fun K hK => ?_) AllF.nil
        refine step_appR (α := OpL) (by rfl) (.tmp 30) (.tmp 32) 24 (by rfl) BB 47 _ 56 Try.underlying24 infoOp rfl AC nC cC _ (by rfl) hoC _ _ 1 1 _ (by rfl) ⟨_, hlit, hrow⟩ (fun b _ h => .inl (Nat.lt_of_lt_of_le h hzB)) (by unfold maxLen; omega) (by omega) hzC ?_
        intro AD cD w_9_3_1_10_4 hoD hg hx
        refine hK _ _ (fun h => h.grown hg h.size (fun b e => by have := (hoC.lt b e).1; omega)) ?_
        clear hK K
        have hX := hX.grown hg hX.size (fun b e => by have := (hoC.lt b e).1; omega)
        have kN := Bx.grownO kN hg hneN
        clear hneN
        have hoE := hoD
        clear hg hx hoD hlit hrow
        refine readyF (rs := [6]) (by kernel_rfl) (by simp) ?_
        refine AllF.cons rfl (fun K hK => ?_) AllF.nil
        go_simp
        refine (Cn.out w_9_3_1_10_4 AD _ cD hoE.sl Hzx.out (s3.below (by omega) hX)).mono ?_
        rintro e w_9_3_1_10_4_6 ⟨A6, n6, c6, A7, n7, c7, rfl, t6, t7, nw6, nw7, hb⟩
        refine hK _ _ (fun _ => hX.trans (hb.mono hX.size)) ?_
        clear hK K
        have hgl := kN.lt
        have hk6 : ∀ b, 0 < n6 → A6.map (·.block) = some b → b ≠ w_9_3_1.heap.size := fun b hn e => by have := nw6 b hn e; omega
        have hk7 : ∀ b, 0 < n7 → A7.map (·.block) = some b → b ≠ w_9_3_1.heap.size := fun b hn e => by have := nw7 b hn e; omega
        have kN := kN.below hb
        have hX := hX.trans (hb.mono hX.size)
        clear hb nw6 nw7
        refine takeF (i := 7) (v := ?_) (fun wa => Below w_9.heap.size w_9 wa) rfl (by kernel_rfl) (by kernel_rfl) (by kernel_rfl) (fun j hj => .inr (.inr fun wa wb h g => g h)) (fun wa => id) (fun _ _ _ h => h) (Or.inl ⟨by kernel_rfl, ?hy⟩) hX ?_
        case hy =>
          intro wS hSw
          clear hSw
          go_simp
          try with_reducible rfl
        try simp only [List.getElem_toArray, List.getElem_cons_succ, List.getElem_cons_zero, Act.put, List.setIfInBounds_toArray, List.set_cons_zero, List.set_cons_succ]
        refine takeF (i := 8) (v := ?_) (fun wa => Below w_9.heap.size w_9 wa) rfl (by kernel_rfl) (by kernel_rfl) (by kernel_rfl) (fun j hj => .inr (.inr fun wa wb h g => g h)) (fun wa => id) (fun _ _ _ h => h) (Or.inl ⟨by kernel_rfl, ?hy⟩) hX ?_
        case hy =>
          intro wS hSw
          clear hSw
          go_simp
          try with_reducible rfl
        try simp only [List.getElem_toArray, List.getElem_cons_succ, List.getElem_cons_zero, Act.put, List.setIfInBounds_toArray, List.set_cons_zero, List.set_cons_succ]
        refine takeF (i := 9) (v := ?_) (fun wa => Below w_9.heap.size w_9 wa) rfl (by kernel_rfl) (by kernel_rfl) (by kernel_rfl) (fun j hj => .inr (.inr fun wa wb h g => g h)) (fun wa => id) (fun _ _ _ h => h) (Or.inl ⟨by kernel_rfl, ?hy⟩) hX ?_
        case hy =>
          intro wS hSw
          clear hSw
          go_simp
          try with_reducible rfl
        try simp only [List.getElem_toArray, List.getElem_cons_succ, List.getElem_cons_zero, Act.put, List.setIfInBounds_toArray, List.set_cons_zero, List.set_cons_succ]
        refine readyF (rs := [11]) (by kernel_rfl) (by simp) ?_
        refine AllF.cons rfl (fun K hK => ?_) AllF.nil
        obtain ⟨y0, y1, y2', y3⟩ := id kN
        go_simp
        obtain ⟨kD, hg⟩ := Bx.set (v0 := .int .u8 (yk2 : Int)) (v1 := .slice A6 n6 c6) (v2 := .slice A7 n7 c7) kN rfl
        refine hK _ _ (fun h => h.grown hg h.size (fun b e => by simp at e; omega)) ?_
        clear hK K
        have hX := hX.grown hg hX.size (fun b e => by simp at e; omega)
        have t6 := t6.grown (by omega) hg (fun hn b e q => hk6 b hn e (by simpa using q.symm))
        have t7 := t7.grown (by omega) hg (fun hn b e q => hk7 b hn e (by simpa using q.symm))
        clear y0 y1 y2' y3
        refine takeF (i := 12) (v := ?_) (fun wa => Below w_9.heap.size w_9 wa) rfl (by kernel_rfl) (by kernel_rfl) (by kernel_rfl) (fun j hj => .inr (.inr fun wa wb h g => g h)) (fun wa => id) (fun _ _ _ h => h) (Or.inl ⟨by kernel_rfl, ?hy⟩) hX ?_
        case hy =>
          intro wS hSw
          clear hSw
          go_simp
          try with_reducible rfl
        try simp only [List.getElem_toArray, List.getElem_cons_succ, List.getElem_cons_zero, Act.put, List.setIfInBounds_toArray, List.set_cons_zero, List.set_cons_succ]
        refine doneF (by kernel_rfl) ?_ _
        try simp only [List.getElem_toArray, List.getElem_cons_succ, List.getElem_cons_zero, Act.put, List.setIfInBounds_toArray, List.set_cons_zero, List.set_cons_succ]
        go_wp2_with fail
        go_meet
        exact ⟨w_9_3_1.heap.size, A6, n6, c6, A7, n7, c7, rfl, rfl, hX9.trans (hX.mono hX9.size), kD, t6, t7⟩
      refine AllF.cons rfl (fun K hK => ?_) AllF.nil
      go_simp
      refine hK _ _ (fun h => h.alloc h.size _) ?_
      clear hK K
      have kN := Bx.fresh w_9_3 (.int .u8 0) (.slice none 0 0) (.slice none 0 0) 47
      have al := (Below.refl w_9_3.heap.size w_9_3).alloc (Nat.le_refl _) (.cells #[.int .u8 0, .slice none 0 0, .slice none 0 0] 47)
      have hgX := hX.size
      have hX := hX.alloc hX.size (.cells #[.int .u8 0, .slice none 0 0, .slice none 0 0] 47)
      have hlit := hlit.below (by omega) al
      have hrow := hrow.move (q := fun b => b < w_9.heap.size) fun b hl hp => ⟨al.block b hl, hp⟩
      clear al
      generalize (w_9_3.alloc (.cells #[.int .u8 0, .slice none 0 0, .slice none 0 0] 47)) = w_9_3_10 at *
      refine readyF (rs := [1]) (by kernel_rfl) (by simp) ?_
      refine AllF.cons rfl (fun K hK => ?_) AllF.nil
      go_simp
      refine (rcopyops_any w_9_3_10 _ A2 n2 c2 fs (s2.below hX) (by have := Hl.out; omega) Hz.out).mono ?_
      rintro e w_9_3_10_1 ⟨AC, nC, cC, rfl, hoC, hb⟩
      refine hK _ _ (fun _ => hX.trans (hb.mono hX.size)) ?_
      clear hK K
      have hzB := hX.size
      have hzC := hb.size
      have hgB := kN.lt
      have hX := hX.trans (hb.mono hX.size)
      obtain ⟨BB, hBB⟩ : ∃ BB, BB = w_9_3_10.heap.size := ⟨_, rfl⟩
      have hzB : w_9.heap.size ≤ BB := by rw [hBB]; exact hzB
      rw [← hBB] at hoC hzC
      rw [← hBB] at hgB
      have hneN : blk AC cC ≠ some (w_9_3.heap.size) := fun e => by have := (hoC.lt _ e).1; omega
      have hlit := hlit.below (by omega) hb
      have hrow := hrow.move (q := fun b => b < w_9.heap.size) fun b hl hp => ⟨hb.block b hl, hp⟩
      have kN := kN.below hb
      have hnC : nC ≤ 40 := by have := hoC.lenR; have := Hl.out; omega
      clear hb hBB
      refine readyF (rs := [4]) (by kernel_rfl) (by simp) ?_
      refine AllF.cons rfl (fun K hK => ?_) AllF.nil
      refine step_appR (α := OpL) (by rfl) (.tmp 30) (.tmp 32) 24 (by rfl) BB 47 _ 56 Try.underlying24 infoOp rfl AC nC cC _ (by rfl) hoC _ _ 1 1 _ (by rfl) ⟨_, hlit, hrow⟩ (fun b _ h => .inl (Nat.lt_of_lt_of_le h hzB)) (by unfold maxLen; omega) (by omega) hzC ?_
      intro AD cD w_9_3_10_1_4 hoD hg hx
      refine hK _ _ (fun h => h.grown hg h.size (fun b e => by have := (hoC.lt b e).1; omega)) ?_
      clear hK K
      have hX := hX.grown hg hX.size (fun b e => by have := (hoC.lt b e).1; omega)
      have kN := Bx.grownO kN hg hneN
      clear hneN
      have hoE := hoD
      clear hg hx hoD hlit hrow
      refine readyF (rs := [6]) (by kernel_rfl) (by simp) ?_
      refine AllF.cons rfl (fun K hK => ?_) AllF.nil
      go_simp
      refine (Cn.out w_9_3_10_1_4 AD _ cD hoE.sl Hzx.out (s3.below (by omega) hX)).mono ?_
      rintro e w_9_3_10_1_4_6 ⟨A6, n6, c6, A7, n7, c7, rfl, t6, t7, nw6, nw7, hb⟩
      refine hK _ _ (fun _ => hX.trans (hb.mono hX.size)) ?_
      clear hK K
      have hgl := kN.lt
      have hk6 : ∀ b, 0 < n6 → A6.map (·.block) = some b → b ≠ w_9_3.heap.size := fun b hn e => by have := nw6 b hn e; omega
      have hk7 : ∀ b, 0 < n7 → A7.map (·.block) = some b → b ≠ w_9_3.heap.size := fun b hn e => by have := nw7 b hn e; omega
      have kN := kN.below hb
      have hX := hX.trans (hb.mono hX.size)
      clear hb nw6 nw7
      refine takeF (i := 7) (v := ?_) (fun wa => Below w_9.heap.size w_9 wa) rfl (by kernel_rfl) (by kernel_rfl) (by kernel_rfl) (fun j hj => .inr (.inr fun wa wb h g => g h)) (fun wa => id) (fun _ _ _ h => h) (Or.inl ⟨by kernel_rfl, ?hy⟩) hX ?_
      case hy =>
        intro wS hSw
        clear hSw
        go_simp
        try with_reducible rfl
      try simp only [List.getElem_toArray, List.getElem_cons_succ, List.getElem_cons_zero, Act.put, List.setIfInBounds_toArray, List.set_cons_zero, List.set_cons_succ]
      refine takeF (i := 8) (v := ?_) (fun wa => Below w_9.heap.size w_9 wa) rfl (by kernel_rfl) (by kernel_rfl) (by kernel_rfl) (fun j hj => .inr (.inr fun wa wb h g => g h)) (fun wa => id) (fun _ _ _ h => h) (Or.inl ⟨by kernel_rfl, ?hy⟩) hX ?_
      case hy =>
        intro wS hSw
        clear hSw
        go_simp
        try with_reducible rfl
      try simp only [List.getElem_toArray, List.getElem_cons_succ, List.getElem_cons_zero, Act.put, List.setIfInBounds_toArray, List.set_cons_zero, List.set_cons_succ]
      refine takeF (i := 9) (v := ?_) (fun wa => Below w_9.heap.size w_9 wa) rfl (by kernel_rfl) (by kernel_rfl) (by kernel_rfl) (fun j hj => .inr (.inr fun wa wb h g => g h)) (fun wa => id) (fun _ _ _ h => h) (Or.inl ⟨by kernel_rfl, ?hy⟩) hX ?_
      case hy =>
        intro wS hSw
        clear hSw
        go_simp
        try with_reducible rfl
      try simp only [List.getElem_toArray, List.getElem_cons_succ, List.getElem_cons_zero, Act.put, List.setIfInBounds_toArray, List.set_cons_zero, List.set_cons_succ]
      refine readyF (rs := [11]) (by kernel_rfl) (by simp) ?_
      refine AllF.cons rfl (fun K hK => ?_) AllF.nil
      obtain ⟨y0, y1, y2', y3⟩ := id kN
      go_simp
      obtain ⟨kD, hg⟩ := Bx.set (v0 := .int .u8 (yk2 : Int)) (v1 := .slice A6 n6 c6) (v2 := .slice A7 n7 c7) kN rfl
      refine hK _ _ (fun h => h.grown hg h.size (fun b e => by simp at e; omega)) ?_
      clear hK K
      have hX := hX.grown hg hX.size (fun b e => by simp at e; omega)
      have t6 := t6.grown (by omega) hg (fun hn b e q => hk6 b hn e (by simpa using q.symm))
      have t7 := t7.grown (by omega) hg (fun hn b e q => hk7 b hn e (by simpa using q.symm))
      clear y0 y1 y2' y3
      refine takeF (i := 12) (v := ?_) (fun wa => Below w_9.heap.size w_9 wa) rfl (by kernel_rfl) (by kernel_rfl) (by kernel_rfl) (fun j hj => .inr (.inr fun wa wb h g => g h)) (fun wa => id) (fun _ _ _ h => h) (Or.inl ⟨by kernel_rfl, ?hy⟩) hX ?_
      case hy =>
        intro wS hSw
        clear hSw
        go_simp
        try with_reducible rfl
      try simp only [List.getElem_toArray, List.getElem_cons_succ, List.getElem_cons_zero, Act.put, List.setIfInBounds_toArray, List.set_cons_zero, List.set_cons_succ]
      refine doneF (by kernel_rfl) ?_ _
      try simp only [List.getElem_toArray, List.getElem_cons_succ, List.getElem_cons_zero, Act.put, List.setIfInBounds_toArray, List.set_cons_zero, List.set_cons_succ]
      go_wp2_with fail
      go_meet
      exact ⟨w_9_3.heap.size, A6, n6, c6, A7, n7, c7, rfl, rfl, hX9.trans (hX.mono hX9.size), kD, t6, t7⟩
    refine AllF.cons rfl (fun K hK => ?_) AllF.nil
    go_simp
    refine hK _ _ (fun h => h.alloc h.size _) ?_
    clear hK K
    have kN := Bx.fresh w_9 (.int .u8 0) (.slice none 0 0) (.slice none 0 0) 47
    have al := (Below.refl w_9.heap.size w_9).alloc (Nat.le_refl _) (.cells #[.int .u8 0, .slice none 0 0, .slice none 0 0] 47)
    have hgX := hX.size
    have hX := hX.alloc hX.size (.cells #[.int .u8 0, .slice none 0 0, .slice none 0 0] 47)
    clear al
    generalize (w_9.alloc (.cells #[.int .u8 0, .slice none 0 0, .slice none 0 0] 47)) = w_9_10 at *
    refine readyF (rs := [1, 3]) (by kernel_rfl) (by simp) ?_
    refine AllF.cons rfl (fun K hK => ?_) ?_
    · go_simp
      refine (rcopyops_any w_9_10 _ A2 n2 c2 fs (s2.below hX) (by have := Hl.out; omega) Hz.out).mono ?_
      rintro e w_9_10_1 ⟨AC, nC, cC, rfl, hoC, hb⟩
      refine hK _ _ (fun _ => hX.trans (hb.mono hX.size)) ?_
      clear hK K
      have hzB := hX.size
      have hzC := hb.size
      have hgB := kN.lt
      have hX := hX.trans (hb.mono hX.size)
      obtain ⟨BB, hBB⟩ : ∃ BB, BB = w_9_10.heap.size := ⟨_, rfl⟩
      have hzB : w_9.heap.size ≤ BB := by rw [hBB]; exact hzB
      rw [← hBB] at hoC hzC
      rw [← hBB] at hgB
      have hneN : blk AC cC ≠ some (w_9.heap.size) := fun e => by have := (hoC.lt _ e).1; omega
      have kN := kN.below hb
      have hnC : nC ≤ 40 := by have := hoC.lenR; have := Hl.out; omega
      clear hb hBB
      refine readyF (rs := [3]) (by kernel_rfl) (by simp) ?_
      refine AllF.cons rfl (fun K hK => ?_) AllF.nil
      go_simp
      refine hK _ _ (fun h => h.alloc h.size _) ?_
      clear hK K
      have al := (Below.refl w_9_10_1.heap.size w_9_10_1).alloc (Nat.le_refl _) (.cells #[.int .u8 (kd : Int), .slice A8 n8 c8, .slice A9 n9 c9] 47)
      have hlit : Sl (w_9_10_1.alloc (.cells #[.int .u8 (kd : Int), .slice A8 n8 c8, .slice A9 n9 c9] 47)) 3 (some ⟨w_9_10_1.heap.size, 0, none⟩) 1 1 [.int .u8 (kd : Int), .slice A8 n8 c8, .slice A9 n9 c9] := ⟨rfl, Nat.le_refl _, by unfold maxLen; omega, fun _ => ⟨w_9_10_1.heap.size, 0, rfl, fun j u hu => by rw [cell_of_row _ _ _ _ _ _ (heap_alloc_new w_9_10_1 _)]; simpa using hu⟩⟩
      have hrow : RowC (w_9_10_1.alloc (.cells #[.int .u8 (kd : Int), .slice A8 n8 c8, .slice A9 n9 c9] 47)) (fun b => b < w_9.heap.size) [.int .u8 (kd : Int), .slice A8 n8 c8, .slice A9 n9 c9] [x] := RowC.single ⟨_, _, by rw [u8v, Hxk.out], ⟨A8, n8, c8, rfl, (s8.below (by omega) hX).below (by omega) al, fun b hn e => s8.lt (by omega) hn b e⟩, ⟨A9, n9, c9, rfl, (s9.below (by omega) hX).below (by omega) al, fun b hn e => s9.lt (by omega) hn b e⟩⟩
      have hX := hX.alloc hX.size (.cells #[.int .u8 (kd : Int), .slice A8 n8 c8, .slice A9 n9 c9] 47)
      have hoC := hoC.below al
      have hzC := Nat.le_trans hzC al.size
      have kN := kN.below al
      clear al
      generalize (w_9_10_1.alloc (.cells #[.int .u8 (kd : Int), .slice A8 n8 c8, .slice A9 n9 c9] 47)) = w_9_10_1_3 at *
      refine readyF (rs := [4]) (by kernel_rfl) (by simp) ?_
      refine AllF.cons rfl (fun K hK => ?_) AllF.nil
      refine step_appR (α := OpL) (by rfl) (.tmp 30) (.tmp 32) 24 (by rfl) BB 47 _ 56 Try.underlying24 infoOp rfl AC nC cC _ (by rfl) hoC _ _ 1 1 _ (by rfl) ⟨_, hlit, hrow⟩ (fun b _ h => .inl (Nat.lt_of_lt_of_le h hzB)) (by unfold maxLen; omega) (by omega) hzC ?_
      intro AD cD w_9_10_1_3_4 hoD hg hx
      refine hK _ _ (fun h => h.grown hg h.size (fun b e => by have := (hoC.lt b e).1; omega)) ?_
      clear hK K
      have hX := hX.grown hg hX.size (fun b e => by have := (hoC.lt b e).1; omega)
      have kN := Bx.grownO kN hg hneN
      clear hneN
      have hoE := hoD
      clear hg hx hoD hlit hrow
      refine readyF (rs := [6]) (by kernel_rfl) (by simp) ?_
      refine AllF.cons rfl (fun K hK => ?_) AllF.nil
      go_simp
      refine (Cn.out w_9_10_1_3_4 AD _ cD hoE.sl Hzx.out (s3.below (by omega) hX)).mono ?_
      rintro e w_9_10_1_3_4_6 ⟨A6, n6, c6, A7, n7, c7, rfl, t6, t7, nw6, nw7, hb⟩
      refine hK _ _ (fun _ => hX.trans (hb.mono hX.size)) ?_
      clear hK K
      have hgl := kN.lt
      have hk6 : ∀ b, 0 < n6 → A6.map (·.block) = some b → b ≠ w_9.heap.size := fun b hn e => by have := nw6 b hn e; omega
      have hk7 : ∀ b, 0 < n7 → A7.map (·.block) = some b → b ≠ w_9.heap.size := fun b hn e => by have := nw7 b hn e; omega
      have kN := kN.below hb
      have hX := hX.trans (hb.mono hX.size)
      clear hb nw6 nw7
      refine takeF (i := 7) (v := ?_) (fun wa => Below w_9.heap.size w_9 wa) rfl (by kernel_rfl) (by kernel_rfl) (by kernel_rfl) (fun j hj => .inr (.inr fun wa wb h g => g h)) (fun wa => id) (fun _ _ _ h => h) (Or.inl ⟨by kernel_rfl, ?hy⟩) hX ?_
      case hy =>
        intro wS hSw
        clear hSw
        go_simp
        try with_reducible rfl
      try simp only [List.getElem_toArray, List.getElem_cons_succ, List.getElem_cons_zero, Act.put, List.setIfInBounds_toArray, List.set_cons_zero, List.set_cons_succ]
      refine takeF (i := 8) (v := ?_) (fun wa => Below w_9.heap.size w_9 wa) rfl (by kernel_rfl) (by kernel_rfl) (by kernel_rfl) (fun j hj => .inr (.inr fun wa wb h g => g h)) (fun wa => id) (fun _ _ _ h => h) (Or.inl ⟨by kernel_rfl, ?hy⟩) hX ?_
      case hy =>
        intro wS hSw
        clear hSw
        go_simp
        try with_reducible rfl
      try simp only [List.getElem_toArray, List.getElem_cons_succ, List.getElem_cons_zero, Act.put, List.setIfInBounds_toArray, List.set_cons_zero, List.set_cons_succ]
      refine takeF (i := 9) (v := ?_) (fun wa => Below w_9.heap.size w_9 wa) rfl (by kernel_rfl) (by kernel_rfl) (by kernel_rfl) (fun j hj => .inr (.inr fun wa wb h g => g h)) (fun wa => id) (fun _ _ _ h => h) (Or.inl ⟨by kernel_rfl, ?hy⟩) hX ?_
      case hy =>
        intro wS hSw
        clear hSw
        go_simp
        try with_reducible rfl
      try simp only [List.getElem_toArray, List.getElem_cons_succ, List.getElem_cons_zero, Act.put, List.setIfInBounds_toArray, List.set_cons_zero, List.set_cons_succ]
      refine readyF (rs := [11]) (by kernel_rfl) (by simp) ?_
      refine AllF.cons rfl (fun K hK => ?_) AllF.nil
      obtain ⟨y0, y1, y2', y3⟩ := id kN
      go_simp
      obtain ⟨kD, hg⟩ := Bx.set (v0 := .int .u8 (yk2 : Int)) (v1 := .slice A6 n6 c6) (v2 := .slice A7 n7 c7) kN rfl
      refine hK _ _ (fun h => h.grown hg h.size (fun b e => by simp at e; omega)) ?_
      clear hK K
      have hX := hX.grown hg hX.size (fun b e => by simp at e; omega)
      have t6 := t6.grown (by omega) hg (fun hn b e q => hk6 b hn e (by simpa using q.symm))
      have t7 := t7.grown (by omega) hg (fun hn b e q => hk7 b hn e (by simpa using q.symm))
      clear y0 y1 y2' y3
      refine takeF (i := 12) (v := ?_) (fun wa => Below w_9.heap.size w_9 wa) rfl (by kernel_rfl) (by kernel_rfl) (by kernel_rfl) (fun j hj => .inr (.inr fun wa wb h g => g h)) (fun wa => id) (fun _ _ _ h => h) (Or.inl ⟨by kernel_rfl, ?hy⟩) hX ?_
      case hy =>
        intro wS hSw
        clear hSw
        go_simp
        try with_reducible rfl
      try simp only [List.getElem_toArray, List.getElem_cons_succ, List.getElem_cons_zero, Act.put, List.setIfInBounds_toArray, List.set_cons_zero, List.set_cons_succ]
      refine doneF (by kernel_rfl) ?_ _
      try simp only [List.getElem_toArray, List.getElem_cons_succ, List.getElem_cons_zero, Act.put, List.setIfInBounds_toArray, List.set_cons_zero, List.set_cons_succ]
      go_wp2_with fail
      go_meet
      exact ⟨w_9.heap.size, A6, n6, c6, A7, n7, c7, rfl, rfl, hX9.trans (hX.mono hX9.size), kD, t6, t7⟩
    refine AllF.cons rfl (fun K hK => ?_) AllF.nil
    go_simp
    refine hK _ _ (fun h => h.alloc h.size _) ?_
    clear hK K
    have al := (Below.refl w_9_10.heap.size w_9_10).alloc (Nat.le_refl _) (.cells #[.int .u8 (kd : Int), .slice A8 n8 c8, .slice A9 n9 c9] 47)
    have hlit : Sl (w_9_10.alloc (.cells #[.int .u8 (kd : Int), .slice A8 n8 c8, .slice A9 n9 c9] 47)) 3 (some ⟨w_9_10.heap.size, 0, none⟩) 1 1 [.int .u8 (kd : Int), .slice A8 n8 c8, .slice A9 n9 c9] := ⟨rfl, Nat.le_refl _, by unfold maxLen; omega, fun _ => ⟨w_9_10.heap.size, 0, rfl, fun j u hu => by rw [cell_of_row _ _ _ _ _ _ (heap_alloc_new w_9_10 _)]; simpa using hu⟩⟩
    have hrow : RowC (w_9_10.alloc (.cells #[.int .u8 (kd : Int), .slice A8 n8 c8, .slice A9 n9 c9] 47)) (fun b => b < w_9.heap.size) [.int .u8 (kd : Int), .slice A8 n8 c8, .slice A9 n9 c9] [x] := RowC.single ⟨_, _, by rw [u8v, Hxk.out], ⟨A8, n8, c8, rfl, (s8.below (by omega) hX).below (by omega) al, fun b hn e => s8.lt (by omega) hn b e⟩, ⟨A9, n9, c9, rfl, (s9.below (by omega) hX).below (by omega) al, fun b hn e => s9.lt (by omega) hn b e⟩⟩
    have hX := hX.alloc hX.size (.cells #[.int .u8 (kd : Int), .slice A8 n8 c8, .slice A9 n9 c9] 47)
    have kN := kN.below al
    clear al
    generalize (w_9_10.alloc (.cells #[.int .u8 (kd : Int), .slice A8 n8 c8, .slice A9 n9 c9] 47)) = w_9_10_3 at *
    refine readyF (rs := [1]) (by kernel_rfl) (by simp) ?_
    refine AllF.cons rfl (fun K hK => ?_) AllF.nil
    go_simp
    refine (rcopyops_any w_9_10_3 _ A2 n2 c2 fs (s2.below hX) (by have := Hl.out; omega) Hz.out).mono ?_
    rintro e w_9_10_3_1 ⟨AC, nC, cC, rfl, hoC, hb⟩
    refine hK _ _ (fun _ => hX.trans (hb.mono hX.size)) ?_
    clear hK K
    have hzB := hX.size
    have hzC := hb.size
    have hgB := kN.lt
    have hX := hX.trans (hb.mono hX.size)
    obtain ⟨BB, hBB⟩ : ∃ BB, BB = w_9_10_3.heap.size := ⟨_, rfl⟩
    have hzB : w_9.heap.size ≤ BB := by rw [hBB]; exact hzB
    rw [← hBB] at hoC hzC
    rw [← hBB] at hgB
    have hneN : blk AC cC ≠ some (w_9.heap.size) := fun e => by have := (hoC.lt _ e).1; omega
    have hlit := hlit.below (by omega) hb
    have hrow := hrow.move (q := fun b => b < w_9.heap.size) fun b hl hp => ⟨hb.block b hl, hp⟩
    have kN := kN.below hb
    have hnC : nC ≤ 40 := by have := hoC.lenR; have := Hl.out; omega
    clear hb hBB
    refine readyF (rs := [4]) (by kernel_rfl) (by simp) ?_
    refine AllF.cons rfl (fun K hK => ?_) AllF.nil
    refine step_appR (α := OpL) (by rfl) (.tmp 30) (.tmp 32) 24 (by rfl) BB 47 _ 56 Try.underlying24 infoOp rfl AC nC cC _ (by rfl) hoC _ _ 1 1 _ (by rfl) ⟨_, hlit, hrow⟩ (fun b _ h => .inl (Nat.lt_of_lt_of_le h hzB)) (by unfold maxLen; omega) (by omega) hzC ?_
    intro AD cD w_9_10_3_1_4 hoD hg hx
    refine hK _ _ (fun h => h.grown hg h.size (fun b e => by have := (hoC.lt b e).1; omega)) ?_
    clear hK K
    have hX := hX.grown hg hX.size (fun b e => by have := (hoC.lt b e).1; omega)
    have kN := Bx.grownO kN hg hneN
    clear hneN
    have hoE := hoD
    clear hg hx hoD hlit hrow
    refine readyF (rs := [6]) (by kernel_rfl) (by simp) ?_
    refine AllF.cons rfl (fun K hK => ?_) AllF.nil
    go_simp
    refine (Cn.out w_9_10_3_1_4 AD _ cD hoE.sl Hzx.out (s3.below (by omega) hX)).mono ?_
    rintro e w_9_10_3_1_4_6 ⟨A6, n6, c6, A7, n7, c7, rfl, t6, t7, nw6, nw7, hb⟩
    refine hK _ _ (fun _ => hX.trans (hb.mono hX.size)) ?_
    clear hK K
    have hgl := kN.lt
    have hk6 : ∀ b, 0 < n6 → A6.map (·.block) = some b → b ≠ w_9.heap.size := fun b hn e => by have := nw6 b hn e; omega
    have hk7 : ∀ b, 0 < n7 → A7.map (·.block) = some b → b ≠ w_9.heap.size := fun b hn e => by have := nw7 b hn e; omega
    have kN := kN.below hb
    have hX := hX.trans (hb.mono hX.size)
    clear hb nw6 nw7
    refine takeF (i := 7) (v := ?_) (fun wa => Below w_9.heap.size w_9 wa) rfl (by kernel_rfl) (by kernel_rfl) (by kernel_rfl) (fun j hj => .inr (.inr fun wa wb h g => g h)) (fun wa => id) (fun _ _ _ h => h) (Or.inl ⟨by kernel_rfl, ?hy⟩) hX ?_
    case hy =>
      intro wS hSw
      clear hSw
      go_simp
      try with_reducible rfl
    try simp only [List.getElem_toArray, List.getElem_cons_succ, List.getElem_cons_zero, Act.put, List.setIfInBounds_toArray, List.set_cons_zero, List.set_cons_succ]
    refine takeF (i := 8) (v := ?_) (fun wa => Below w_9.heap.size w_9 wa) rfl (by kernel_rfl) (by kernel_rfl) (by kernel_rfl) (fun j hj => .inr (.inr fun wa wb h g => g h)) (fun wa => id) (fun _ _ _ h => h) (Or.inl ⟨by kernel_rfl, ?hy⟩) hX ?_
    case hy =>
      intro wS hSw
      clear hSw
      go_simp
      try with_reducible rfl
    try simp only [List.getElem_toArray, List.getElem_cons_succ, List.getElem_cons_zero, Act.put, List.setIfInBounds_toArray, List.set_cons_zero, List.set_cons_succ]
    refine takeF (i := 9) (v := ?_) (fun wa => Below w_9.heap.size w_9 wa) rfl (by kernel_rfl) (by kernel_rfl) (by kernel_rfl) (fun j hj => .inr (.inr fun wa wb h g => g h)) (fun wa => id) (fun _ _ _ h => h) (Or.inl ⟨by kernel_rfl, ?hy⟩) hX ?_
    case hy =>
      intro wS hSw
      clear hSw
      go_simp
      try with_reducible rfl
    try simp only [List.getElem_toArray, List.getElem_cons_succ, List.getElem_cons_zero, Act.put, List.setIfInBounds_toArray, List.set_cons_zero, List.set_cons_succ]
    refine readyF (rs := [11]) (by kernel_rfl) (by simp) ?_
    refine AllF.cons rfl (fun K hK => ?_) AllF.nil
    obtain ⟨y0, y1, y2', y3⟩ := id kN
    go_simp
    obtain ⟨kD, hg⟩ := Bx.set (v0 := .int .u8 (yk2 : Int)) (v1 := .slice A6 n6 c6) (v2 := .slice A7 n7 c7) kN rfl
    refine hK _ _ (fun h => h.grown hg h.size (fun b e => by simp at e; omega)) ?_
    clear hK K
    have hX := hX.grown hg hX.size (fun b e => by simp at e; omega)
    have t6 := t6.grown (by omega) hg (fun hn b e q => hk6 b hn e (by simpa using q.symm))
    have t7 := t7.grown (by omega) hg (fun hn b e q => hk7 b hn e (by simpa using q.symm))
    clear y0 y1 y2' y3
    refine takeF (i := 12) (v := ?_) (fun wa => Below w_9.heap.size w_9 wa) rfl (by kernel_rfl) (by kernel_rfl) (by kernel_rfl) (fun j hj => .inr (.inr fun wa wb h g => g h)) (fun wa => id) (fun _ _ _ h => h) (Or.inl ⟨by kernel_rfl, ?hy⟩) hX ?_
    case hy =>
      intro wS hSw
      clear hSw
      go_simp
      try with_reducible rfl
    try simp only [List.getElem_toArray, List.getElem_cons_succ, List.getElem_cons_zero, Act.put, List.setIfInBounds_toArray, List.set_cons_zero, List.set_cons_succ]
    refine doneF (by kernel_rfl) ?_ _
    try simp only [List.getElem_toArray, List.getElem_cons_succ, List.getElem_cons_zero, Act.put, List.setIfInBounds_toArray, List.set_cons_zero, List.set_cons_succ]
    go_wp2_with fail
    go_meet
    exact ⟨w_9.heap.size, A6, n6, c6, A7, n7, c7, rfl, rfl, hX9.trans (hX.mono hX9.size), kD, t6, t7⟩
  case rest =>
    obtain ⟨gN, A6, n6, c6, A7, n7, c7, rfl, rfl, hX, kN, t6, t7⟩ := hcut
    have s2 := s2.below hX
    have s3 := s3.below (by omega) hX
    have s8 := s8.below (by omega) hX
    have s9 := s9.below (by omega) hX
    have s10 := s10.below (by omega) hX
    have s11 := s11.below (by omega) hX
    have kO := kO.below hX
    have kA := kA.below hX
    have hq0 := hq0.trans (hX.mono hq0.size)
    have cc := rcovers_any wc A8 n8 c8 A9 n9 c9 x s8 s9 A3 n3 c3 kk s3
    rw [Hv.out, Hxk.out] at cc
    have Cc := Lib.hid cc
    clear cc hX Co Cn
    obtain ⟨x0, x1, x2, x3⟩ := id kO
    go_wp2_with fail
    refine Cc.out.mono ?_
    rintro e w_10 ⟨rfl, hb⟩
    have s8 := s8.below (by omega) hb
    have s9 := s9.below (by omega) hb
    have s10 := s10.below (by omega) hb
    have s11 := s11.below (by omega) hb
    have t6 := t6.below (by omega) hb
    have t7 := t7.below (by omega) hb
    have kO := kO.below hb
    have kA := kA.below hb
    have kN := kN.below hb
    have hq0 := hq0.trans (hb.mono hq0.size)
    clear hb x0 x1 x2 x3 s2 s3
    obtain ⟨x0, x1, x2, x3⟩ := id kO
    obtain ⟨a0, a1, a2, a3⟩ := id kA
    obtain ⟨n0, n1, n2', n3'⟩ := id kN
    have hc := Hcase.out
    cases v
    · simp only [Bool.false_eq_true, if_false] at hc
      obtain ⟨rfl, rfl⟩ := hc
      have eyk : yk2 = yk := by rw [← Hyk.out, ← Hyk2.out]
      subst eyk
      have hoo : (ob2 == ob2) = true := by simp
      have r1 := opRowS w_10 y2 yk2 Hyk.out A10 n10 c10 A11 n11 c11 s10 s11
      obtain ⟨b1, p1⟩ := r1
      obtain ⟨m0, m1, m2, m3⟩ := kN.below b1
      have r2 := opRowS _ y2 yk2 Hyk.out A6 n6 c6 A7 n7 c7 (t6.below (by omega) b1) (t7.below (by omega) b1)
      obtain ⟨b2, p2⟩ := r2
      have q2 := hq0.trans ((b1.trans (b2.mono b1.size)).mono hq0.size)
      have p1 := p1.below b2
      rw [World.size_alloc] at p2
      have Cs := Lib.hid (sameops_is _ _ _ 1 1 [y2] p1 _ _ 1 1 p2)
      go_wp2_with fail
      refine Cs.out.mono ?_
      rintro e w_11 ⟨rfl, hb⟩
      go_wp2
      go_ret
      exact ⟨rfl, q2.trans (hb.mono q2.size)⟩
    · simp only [if_true] at hc
      obtain ⟨rfl, rfl⟩ := hc
      have eyk : yk2 = kd := by rw [← Hyk2.out, ← Hxk.out]
      subst eyk
      have r1 := opRowS w_10 y2 yk2 Hyk2.out A6 n6 c6 A7 n7 c7 t6 t7
      obtain ⟨b1, p1⟩ := r1
      obtain ⟨m0, m1, m2, m3⟩ := kO.below b1
      have r2 := opRowS _ y2 yk2 Hyk2.out A8 n8 c8 A9 n9 c9 (s8.below (by omega) b1) (s9.below (by omega) b1)
      obtain ⟨b2, p2⟩ := r2
      have q2 := hq0.trans ((b1.trans (b2.mono b1.size)).mono hq0.size)
      have p1 := p1.below b2
      rw [World.size_alloc] at p2
      have Cs := Lib.hid (sameops_is _ _ _ 1 1 [y2] p1 _ _ 1 1 p2)
      go_wp2_with fail
      refine Cs.out.mono ?_
      rintro e w_11 ⟨rfl, hb⟩
      go_wp2
      go_ret
      exact ⟨rfl, q2.trans (hb.mono q2.size)⟩
end Go.Proofs.Ytfonincdhjkacaa
