/-
  NoteAwake, EntryLaws1, EntryReplaysW, TornRel, EntryTornW, EntryLogsW in one text. No condition but sizes.
-/
import Derived.Test.YtpjinmiedanebaaDoorNoteBytes
import Derived.Test.YtpjinmiedanebaaDoorJLogW
import Derived.Test.YtpjinmiedanebaaDoorNoteFew
import Derived.Test.YtpjinmiedanebaaDoorJReelAllW
import Derived.Test.YtpjinmiedanebaaDoorJRowsL
import Derived.Test.YtpjinmiedanebaaDoorJReplayPlain
import Derived.Deep.CutBlock
namespace Go.Proofs.YtpjinmiedanebaaDoor
open Go.RowKit
set_option maxRecDepth 20000
set_option maxHeartbeats 4000000 in
theorem awake07 (w : World) : Calls Tryd.prog 6 #[] w fun e w' => e = .returned (.bool true) ∧ Below w.heap.size w w' := by
  have k0 := fun w C n c => constK w C n c _ rfl
  obtain ⟨s1, b1, z1⟩ := lit1 w 97
  rw [show (((97 : UInt8).toNat : Nat) : Int) = 97 from rfl] at s1 b1 z1
  go_enter Tryd.func6, Tryd.ntmps6
  go_wp2_with fail
  generalize (w.alloc (.cells #[.int .u8 97] 5 (1, 2))) = w1 at *
  refine (nbytes_any w1 (fun _ => True) _ 1 1 none 0 0 ⟨3, 5, [97], []⟩ s1 (SlR.nilnil _ _)).mono ?_
  rw [show noteBE ⟨3, 5, [97], []⟩ = ([3, 5, 1, 97, 0], 0) by decide]
  rintro e w2 ⟨A2, n2, c2, rfl, ho2, hb2⟩
  have s2 := OwnB.sl ho2
  have q2 := b1.trans (hb2.mono b1.size)
  have hlit : Sl (w2.alloc (.cells #[.int .u8 3, .int .u8 5, .int .u8 1, .int .u8 97, .int .u8 0] 5)) 1 (some ⟨w2.heap.size, 0, none⟩) 5 5 (bc [3, 5, 1, 97, 0]) :=
    Sl.lit w2 _ _ 5 _ _ rfl (by unfold maxLen; omega) rfl
  have al := (Below.refl w2.heap.size w2).alloc (Nat.le_refl _) (.cells #[.int .u8 3, .int .u8 5, .int .u8 1, .int .u8 97, .int .u8 0] 5)
  have s2 := s2.below (by omega) al
  have q5 := q2.trans (al.mono q2.size)
  have e4 : Hid ((([3, 5, 1, 97, 0] : List UInt8) == [3, 5, 1, 97, 0]) = true) := by unfold Hid; decide
  go_wp2_with fail
  refine (same_is _ A2 n2 c2 _ _ 5 5 _ true e4 s2 hlit).mono ?_
  rintro e w5 ⟨rfl, rfl⟩
  go_wp2
  go_ret
  exact ⟨rfl, q5⟩
end Go.Proofs.YtpjinmiedanebaaDoor

namespace Go.Proofs.YtpjinmiedanebaaDoor
open Go.RowKit
set_option maxRecDepth 20000
theorem noteRowS (w : World) (x : NoteL) (k s : Nat) (hk : x.kind.toNat = k) (hs : x.seq.toNat = s) (p : Nat → Prop) (A3 : Option Addr) (n3 c3 : Nat) (A4 : Option Addr) (n4 c4 : Nat) (s3 : Sl w 1 A3 n3 c3 (bc x.name)) (s4 : SlR w p A4 n4 c4 x.ops) (e : TypeId) :
    SlR (w.alloc (.cells #[.int .u8 (k : Int), .int .u64 (s : Int), .slice A3 n3 c3, .slice A4 n4 c4] e)) (fun _ => True) (some ⟨w.heap.size, 0, none⟩) 1 1 [x] := by
  subst hk hs
  have al := (Below.refl w.heap.size w).alloc (Nat.le_refl _) (.cells #[.int .u8 (x.kind.toNat : Int), .int .u64 (x.seq.toNat : Int), .slice A3 n3 c3, .slice A4 n4 c4] e)
  exact ⟨_, ⟨rfl, Nat.le_refl _, by unfold maxLen; omega, fun _ => ⟨w.heap.size, 0, rfl, fun j u hu => by rw [cell_of_row _ _ _ _ _ _ (heap_alloc_new w _)]; simpa [u8v, u64v] using hu⟩⟩, RowC.single ⟨_, A4, n4, c4, rfl, Bk.of (s3.below (by omega) al), (s4.below al).mono fun _ _ _ => trivial⟩, fun _ _ _ => trivial⟩
theorem samenotes_is (w : World) (p : Nat → Prop) (A : Option Addr) (n c : Nat) (ls : List NoteL) (h : SlR w p A n c ls) (p' : Nat → Prop) (A' : Option Addr) (n' c' : Nat) (h' : SlR w p' A' n' c' ls) :
    Calls Tryd.prog 11 #[.slice A n c, .slice A' n' c'] w fun e w' => e = .returned (.bool true) ∧ Below w.heap.size w w' := by
  have := rsamenotes_any w p A n c ls h p' A' n' c' ls h'
  simpa using this
theorem apart_plain (a b : NoteL) (ha : (noteBE a).2 = 0) (hb : (noteBE b).2 = 0) : ((noteBE a).1 == (noteBE b).1) = decide ([a] = [b]) := by
  unfold noteBE at *
  split at ha
  · rename_i h1
    split at hb
    · rename_i h2
      rw [if_pos h1, if_pos h2, Bool.eq_iff_iff, beq_iff_eq, decide_eq_true_eq]
      constructor
      · intro e
        rw [note_inj h1 h2 e]
      · intro e
        simp at e
        rw [e]
    · simp at hb
  · simp at ha
end Go.Proofs.YtpjinmiedanebaaDoor

namespace Go.Proofs.YtpjinmiedanebaaDoor
open Go.RowKit
set_option maxRecDepth 100000
set_option maxHeartbeats 16000000 in
theorem entryReplays.walk (w : World) (A : Option Addr) (n c : Nat) (l : List UInt8) (h : Sl w 1 A n c (bc l)) (hq : Quarter w) :
    Calls Tryd.prog 3 #[.slice A n c] w fun e w' => e = .returned (.bool true) ∧ Below w.heap.size w w' := by
  go_enter Tryd.func3, Tryd.ntmps3
  go_wp2_with fail
  refine (awake07 w).mono ?_
  rintro e w0 ⟨rfl, hb0⟩
  have h0 := h.below (by omega) hb0
  go_wp2_with fail
  refine (cut_any w0 A n c l 600 h0 (by omega)).mono ?_
  rintro e w1 ⟨A1, n1, c1, rfl, ho1, hb1⟩
  have ht : (l.take 600).length ≤ 600 := by simp; omega
  generalize l.take 600 = t at *
  obtain rfl := ho1.len'
  have hbw1 := hb0.trans (hb1.mono hb0.size)
  clear h h0
  go_wp2_with fail
  refine (copy_any w1 A1 _ c1 t ho1.sl (by omega)).mono ?_
  rintro e w2 ⟨A2, n2, c2, rfl, ho2, hb2⟩
  have hn2 := ho2.len'
  subst hn2
  have hlit : Sl (w2.alloc (.cells #[.int .u8 165] 5)) 1 (some ⟨w2.heap.size, 0, none⟩) 1 1 (bc [165]) := Sl.lit w2 _ _ 1 _ _ rfl (by unfold maxLen; omega) rfl
  have hba := (Below.refl w2.heap.size w2).alloc (Nat.le_refl _) (.cells #[.int .u8 165] 5)
  have ho2' := Own.below ho2 hba
  go_wp2_with (at_builtin; refine wpList_appB _ rfl (.tmp 12) (.tmp 13) rfl w1.heap.size A2 _ c2 t rfl ho2' _ 1 1 [165] rfl hlit ?_ ?_ ?_)
  · omega
  · have := hb2.size; simp; omega
  intro A3 c3 w3 ho3 hg3 _
  have hb13 : Below w1.heap.size w1 w3 := by
    refine (hb2.trans (hba.mono hb2.size)).grown hg3 ?_ ?_
    · have := hb2.size; simp; omega
    · intro k hk
      exact (Own.lt ho2 k hk).1
  have hbw3 : Below w.heap.size w w3 := hbw1.trans (hb13.mono hbw1.size)
  have s1 := (Own.below ho1 hb13).sl
  have hc3 := ho3.sl.cap
  have r1 := fun w => cutC (A := A3) (n := t.length + 1) (c := c3) .i64 (t.length : Int) t.length rfl (by omega) w
  have hs3 := (cutH ho3.sl .i64 t.length t.length rfl (by omega)).2
  rw [List.take_left] at hs3
  have s3 := ho3.sl
  clear hg3 hlit hba ho2' ho2 hb13 ho1 ho3
  have hq3 := hq.below hbw3
  have k4 := replay_any w3 A3 _ c3 t (hs3.below (by omega) (Below.refl _ _)) hq3 (by omega)
  have K4 := Lib.hid k4
  clear k4
  go_wp2_with fail
  refine K4.out.mono ?_
  rintro e w4 ⟨rs, z, A4, n4, c4, hrt, rfl, s4, hb4⟩
  obtain ⟨e1, hr1, hk1, he1, _⟩ := id hrt
  have s4 := s4.mono (q := fun _ => True) fun _ _ _ => trivial
  have q4 := hb4
  have s1' := s1.below (by omega) q4
  have k5 := rreplay_any w4 A1 _ c1 t s1' (by omega)
  have K5 := Lib.hid k5
  clear k5 hrt K4
  go_wp2_with fail
  refine K5.out.mono ?_
  rintro e w5 ⟨rs2, e2, A5, n5, c5, hr2, hk2, rfl, s5, hb5⟩
  obtain ⟨rfl, -⟩ := reads_one hr2 hk2 hr1 hk1
  have s5 := s5.mono (q := fun _ => True) fun _ _ _ => trivial
  have s4 := s4.below hb5
  have q4 := q4.trans (hb5.mono q4.size)
  have hll : (replayL rs2).length ≤ 1000000 := by
    have h1 := replay_le rs2
    have h2 := (reads_len hr1).2
    omega
  generalize replayL rs2 = ns at *
  have hn4 := s4.lenR
  have hn5 := s5.lenR
  have hnn : n4 = n5 := by omega
  have hee : ((n4 : Int) == (n5 : Int)) = true := by rw [hnn]; simp
  have hee' : ((n5 : Int) == (n4 : Int)) = true := by rw [hnn]; simp
  subst hnn
  have k6 := back_any w5 A4 n4 c4 ns s4 (by omega)
  have K6 := Lib.hid k6
  clear k6 hr1 hk1 hr2 hk2 K5
  go_wp2_with fail
  refine K6.out.mono ?_
  rintro e w6 ⟨A6, n6, c6, rfl, ho6, hb6⟩
  have s6 := ho6.sl
  have s5 := s5.below hb6
  have q4 := q4.trans (hb6.mono q4.size)
  clear ho6 hb4 hb5 hb6 s4 s1' K6
  go_wp2_with fail
  refine (samenotes_is _ _ _ _ _ ns s6 _ _ _ _ s5).mono ?_
  rintro e w8 ⟨rfl, hb8⟩
  have q8 := q4.trans (hb8.mono q4.size)
  have s1 := s1.below (by omega) q8
  have s3 := s3.below (by omega) q8
  have hs3 := hs3.below (by omega) q8
  have hbw8 := hbw3.trans (q8.mono hbw3.size)
  clear hb8 q8 q4 hbw3 hbw1 hb0 hb1 hb2 s5 s6 hq3
  go_wp2_with fail
  refine (same_is w8 _ _ c3 _ A1 _ c1 _ true (by unfold Hid; simp) hs3 s1).mono ?_
  rintro e w' ⟨rfl, rfl⟩
  have r2 := fun w => cutC (A := A3) (n := t.length) (c := c3) .i64 ((t.length : Int) + 1) (t.length + 1) (by omega) (by omega) w
  obtain ⟨b3, o3, x3, hA3, hx3, _, hcell⟩ := s3.byte (k := t.length) (by simp)
  have hx : x3 = 165 := by rw [← hx3]; simp
  subst hx
  clear hx3 s3
  subst hA3
  go_wp2
  go_ret
  exact ⟨rfl, hbw8⟩
end Go.Proofs.YtpjinmiedanebaaDoor

namespace Go.Proofs.YtpjinmiedanebaaDoor
set_option maxRecDepth 20000
open Go.RowKit
theorem noteRowL (w : World) (x : NoteL) (k s : Nat) (hk : x.kind.toNat = k) (hs : x.seq.toNat = s) (L : Nat) (A3 : Option Addr) (n3 c3 : Nat) (A4 : Option Addr) (n4 c4 : Nat) (s3 : Sl w 1 A3 n3 c3 (bc x.name)) (h3 : ∀ b, 0 < n3 → A3.map (·.block) = some b → b < L) (s4 : SlR w (fun b => b < L) A4 n4 c4 x.ops) (e : TypeId) :
    OwnL (w.alloc (.cells #[.int .u8 (k : Int), .int .u64 (s : Int), .slice A3 n3 c3, .slice A4 n4 c4] e)) w.heap.size L e (some ⟨w.heap.size, 0, none⟩) 1 1 [x] := by
  subst hk hs
  have al := (Below.refl w.heap.size w).alloc (Nat.le_refl _) (.cells #[.int .u8 (x.kind.toNat : Int), .int .u64 (x.seq.toNat : Int), .slice A3 n3 c3, .slice A4 n4 c4] e)
  exact ⟨[.int .u8 (x.kind.toNat : Int), .int .u64 (x.seq.toNat : Int), .slice A3 n3 c3, .slice A4 n4 c4], Own.fresh w w.heap.size e 4 1 1 _ _ (Nat.le_refl _) (Nat.le_refl _) (by unfold maxLen; omega) rfl rfl rfl, RowC.single ⟨_, A4, n4, c4, rfl, ⟨A3, n3, c3, rfl, s3.below (by omega) al, h3⟩, s4.below al⟩⟩
theorem infoNsz : (Tryd.prog.info? 41).map (·.size) = some 4 := by kernel_rfl
theorem run_sizeN (w : World) : (sizeOf 41).run Tryd.prog w = .ok 4 w := by
  obtain ⟨i, hi, _, hs, _⟩ := info_parts infoNote
  simp [sizeOf, typeInfo, hi, hs]
/-- l[:k] of notes -/
theorem cutHN {A : Option Addr} {n c : Nat} (q : IntKind) (i : Int) (k : Nat) (hi : i = k) (hk : k ≤ n) (hcap : n ≤ c) (w' : World) :
    (Instr.slice 29 (.slice A n c) none (some (.int q i)) none).run Tryd.prog w' = .ok (.slice A k c) w' := by
  subst hi
  have := run_slice_h (P := Tryd.prog) w' 29 A n c Tryd.underlying29 q k (by omega) (by omega)
  rw [this]
  show ((sizeOf 41).run Tryd.prog w').andThen _ = _
  rw [run_sizeN]
  simp only [Result.andThen, sliced, Int.toNat_natCast, Nat.sub_zero, Nat.zero_mul]
  rw [addr0]
theorem torn_nat (ls : List (List UInt8)) (hl : ∀ l ∈ ls, l.length ≤ 65536) (k m by_ : Nat) (hby : by_ < 256) (hk : k ≤ (allL ls).length) (hm : m ≤ ls.length)
    (h1 : (allL (ls.take m)).length ≤ if by_ = 0 then k else k - 1) (h2 : m < ls.length → (if by_ = 0 then k else k - 1) < (allL (ls.take (m + 1))).length) {Q : List UInt8}
    (hQ : Q = if h : 0 < k then ((allL ls).set (k - 1) (UInt8.ofNat (((allL ls)[k - 1]'(by omega)).toNat ^^^ by_))).take k else []) {rs : List (List UInt8)} {n : Nat} (h : ReadsTo Q rs n) : rs = ls.take m := by
  have e0 : UInt8.ofNat by_ = 0 ↔ by_ = 0 := by
    constructor
    · intro e
      have := congrArg UInt8.toNat e
      rw [UInt8.toNat_ofNat_of_lt' (by simpa using hby)] at this
      simpa using this
    · rintro rfl; rfl
  have e1 : (if UInt8.ofNat by_ = 0 then k else k - 1) = if by_ = 0 then k else k - 1 := by
    by_cases q : by_ = 0
    · rw [if_pos q, if_pos (e0.2 q)]
    · rw [if_neg q, if_neg (fun r => q (e0.1 r))]
  refine torn_law ls hl k m (UInt8.ofNat by_) hk hm (by rw [e1]; exact h1) (by rw [e1]; exact h2) ?_ h
  rw [hQ]
  by_cases q : 0 < k
  · rw [dif_pos q, dif_pos q]
    congr 2
    apply UInt8.toNat_inj.1
    have hx := ((allL ls)[k - 1]'(by omega)).toNat_lt
    rw [UInt8.toNat_xor, UInt8.toNat_ofNat_of_lt' (by have : (((allL ls)[k - 1]'(by omega)).toNat ^^^ by_) < 2 ^ 8 := Nat.xor_lt_two_pow (by omega) (by omega); simpa using this), UInt8.toNat_ofNat_of_lt' (by simpa using hby)]
  · rw [dif_neg q, dif_neg q]
/-- what is known behind j notes -/
def TornRel (w1 : World) (ks : List NoteL) (n1 : Nat) (rv gv iv : Value) (wr : World) : Prop :=
  ∃ (j : Nat) (Ar : Option Addr) (nr cr : Nat) (vs2 : List Value) (Ag : Option Addr) (ng cg : Nat), iv = .int .i64 (j : Int) ∧ rv = .slice Ar nr cr ∧ gv = .slice Ag ng cg ∧ j ≤ n1 ∧ Below w1.heap.size w1 wr ∧
    OwnP wr w1.heap.size Ar nr cr vs2 ∧ OwnParts wr w1.heap.size none vs2 (((ks.take j).filter formL).map noteBytesL) ∧ OwnL wr w1.heap.size w1.heap.size 41 Ag ng cg ((ks.take j).filter formL)
/-- behind the store -/
def StoreRel (wr : World) (A2 : Option Addr) (k c2 : Nat) (Q : List UInt8) (pv : Value) (wx : World) : Prop := pv = .slice A2 k c2 ∧ Sl wx 1 A2 k c2 (bc Q) ∧ Below wr.heap.size wr wx
/-- how many records lie whole ahead of the cut -/
def WholeRel (w3 : World) (ls : List (List UInt8)) (K nr : Nat) (wv iv : Value) (wr : World) : Prop :=
  ∃ j kk : Nat, iv = .int .i64 (j : Int) ∧ wv = .int .i64 (kk : Int) ∧ j ≤ nr ∧ kk ≤ j ∧ Below w3.heap.size w3 wr ∧
    Hid ((allL (ls.take kk)).length ≤ K ∧ ∀ i, kk < i → i ≤ j → K < (allL (ls.take i)).length)
end Go.Proofs.YtpjinmiedanebaaDoor

namespace Go.Proofs.YtpjinmiedanebaaDoor
open Go.RowKit
set_option maxRecDepth 100000
set_option maxHeartbeats 32000000 in
theorem entryTorn.walk (w : World) (A : Option Addr) (n c : Nat) (ls : List NoteL) (h : SlR w (fun _ => True) A n c ls) (at_ : Nat) (hat : at_ < 65536) (by_ : Nat) (hby : by_ < 256) (hq : Quarter w) :
    Calls Tryd.prog 4 #[.slice A n c, .int .u16 (at_ : Int), .int .u8 (by_ : Int)] w fun e w' => e = .returned (.bool true) ∧ Below w.heap.size w w' := by
  go_enter Tryd.func4, Tryd.ntmps4
  go_wp2_with fail
  refine (awake07 w).mono ?_
  rintro e w0 ⟨rfl, hb0⟩
  have h0 := h.below hb0
  go_wp2_with fail
  refine (fewnotes_any w0 _ A n c ls 8 h0 (by omega)).mono ?_
  rintro e w1 ⟨A1, n1, c1, rfl, ho1, hb1⟩
  have hl8 : (fewNotes ls 8).length ≤ 8 := by unfold fewNotes; simp; omega
  generalize fewNotes ls 8 = ks at *
  have h1 := ho1.sl
  have hl1 := h1.lenR
  have hn1 : n1 ≤ 8 := by omega
  have hbw1 := hb0.trans (hb1.mono hb0.size)
  have hq1 := hq.below hbw1
  have Hl1 := Lib.hid hl1
  have hcp1 := h1.cap
  unfold maxLen at hcp1
  clear h h0 hb0 hb1 ho1 hl1 hl8
  go_wp2
  go_loopw [7, 8, 25] (TornRel w1 ks n1) (fun _ _ q _ => n1 - (intOf q).toNat)
  case atStart => exact ⟨0, none, 0, 0, [], none, 0, 0, rfl, rfl, rfl, Nat.zero_le _, Below.refl _ _, Own.nil _ _ _ _ _, OwnParts.nil _ _ _, OwnL.nil _ _ _ _ _⟩
  case round =>
    obtain ⟨j, Ar, nr, cr, vs2, Ag, ng, cg, rfl, rfl, rfl, hj, hbr, hoP, hpP, hoG⟩ := hrel
    by_cases hlt : j < n1
    case pos =>
      have hng : ng ≤ 8 := by
        have h2 := hoG.lenR
        have h3 := List.length_filter_le formL (ks.take j)
        rw [List.length_take] at h3
        omega
      have hnr : nr ≤ 8 := by
        have h2 := Own.sl hoP |>.len
        have h4 := hpP.1
        rw [List.length_map] at h4
        have h3 := List.length_filter_le formL (ks.take j)
        rw [List.length_take] at h3
        omega
      have hr : SlR wr (fun b => b < w1.heap.size) A1 n1 c1 ks := h1.move fun b hl _ => ⟨hbr.block b hl, hl⟩
      obtain ⟨b, o, A3, n3, c3, A4, n4, c4, hjl, rfl, d0, d1, d2, d3, s3, h3, s4⟩ := hr.noteAtP hlt
      clear hr
      have hst : ks.take (j + 1) = ks.take j ++ [ks[j]] := List.take_succ_eq_append_getElem hjl
      generalize hx : ks[j] = x at *
      clear hx
      have hneP : blk Ar cr ≠ some wr.heap.size := fun q => by have := (Own.lt hoP _ q).2; omega
      have hneG : blk Ag cg ≠ some wr.heap.size := fun q => by have := (hoG.lt _ q).2; omega
      have al := (Below.refl wr.heap.size wr).alloc (Nat.le_refl _) (.cells #[.int .u8 (x.kind.toNat : Int), .int .u64 (x.seq.toNat : Int), .slice A3 n3 c3, .slice A4 n4 c4] 41)
      have hcn := rnbytes_any (wr.alloc (.cells #[.int .u8 (x.kind.toNat : Int), .int .u64 (x.seq.toNat : Int), .slice A3 n3 c3, .slice A4 n4 c4] 41)) _ A3 n3 c3 A4 n4 c4 x (s3.below (by omega) al) (s4.below al)
      generalize hd : x.kind.toNat = d at *
      generalize hs : x.seq.toNat = s at *
      have kB := Bx4.fresh wr (.int .u8 (d : Int)) (.int .u64 (s : Int)) (.slice A3 n3 c3) (.slice A4 n4 c4) 41
      have s3 := s3.below (by omega) al
      have s4 := s4.below al
      have hoP := Own.below hoP al
      have hpP := hpP.below al
      have hoG := hoG.below al
      have hbr6 := hbr.trans (al.mono hbr.size)
      generalize hW : (wr.alloc (.cells #[.int .u8 (d : Int), .int .u64 (s : Int), .slice A3 n3 c3, .slice A4 n4 c4] 41)) = w6 at *
      have Hd := Lib.hid hd
      have Hs := Lib.hid hs
      clear al hd hs
      obtain ⟨x0, x1, x2, x3, x4⟩ := id kB
      by_cases hf : formL x = true
      case neg =>
        rw [show noteBE x = ([], 4) by unfold noteBE; rw [if_neg hf]] at hcn
        unfold GotBE at hcn
        have Hcn := Lib.hid hcn
        have hfe : (ks.take (j + 1)).filter formL = (ks.take j).filter formL := by rw [hst, List.filter_append, List.filter_cons_of_neg (by simpa using hf)]; simp
        have HF := Lib.hid hfe
        clear hcn hf hfe hst
        go_wp2_with fail
        try rw [hW]
        refine Hcn.out.mono ?_
        rintro e w7 ⟨A5, n5, c5, rfl, ho5, hb7⟩
        have hoP := Own.below hoP hb7
        have hpP := hpP.below hb7
        have hoG := hoG.below hb7
        have hb9 := hbr6.trans (hb7.mono hbr6.size)
        clear x0 x1 x2 x3 x4 d0 d1 d2 d3 kB ho5 hb7
        go_wp2
        go_roundw
        case rel => exact ⟨j + 1, Ar, nr, cr, vs2, Ag, ng, cg, by go_num, rfl, rfl, by omega, hb9, hoP, by rw [HF.out]; exact hpP, by rw [HF.out]; exact hoG⟩
        case measure => simp [intOf]; omega
      rw [show noteBE x = (noteBytesL x, 0) by unfold noteBE; rw [if_pos hf]] at hcn
      unfold GotBE at hcn
      have Hcn := Lib.hid hcn
      have hfe : (ks.take (j + 1)).filter formL = (ks.take j).filter formL ++ [x] := by rw [hst, List.filter_append, List.filter_cons_of_pos (by simpa using hf)]; simp
      have HF := Lib.hid hfe
      clear hcn hf hfe hst
      go_wp2_with fail
      try rw [hW]
      refine Hcn.out.mono ?_
      rintro e w7 ⟨A5, n5, c5, rfl, ho5, hb7⟩
      have hb7 := hb7.drew
      have ho5 := Own.below ho5 (Below.refl w7.heap.size w7).drew
      have hoP := Own.below hoP hb7
      have hpP := hpP.below hb7
      have hoG := hoG.below hb7
      have s3 := s3.below (by omega) hb7
      have s4 := s4.below hb7
      have hX : RP w1 wr.heap.size (.int .u8 (d : Int)) (.int .u64 (s : Int)) (.slice A3 n3 c3) (.slice A4 n4 c4) w7.drew := ⟨hbr6.trans (hb7.mono hbr6.size), kB.below hb7⟩
      have hB5 := hbr6.size
      clear x0 x1 x2 x3 x4 d0 d1 d2 d3 kB hb7 Hcn
      go_wp2_with fail
      generalize hW8 : w7.drew = w8 at *
      refine regionF (fun _ wa wb => RP w1 wr.heap.size (.int .u8 (d : Int)) (.int .u64 (s : Int)) (.slice A3 n3 c3) (.slice A4 n4 c4) wa → RP w1 wr.heap.size (.int .u8 (d : Int)) (.int .u64 (s : Int)) (.slice A3 n3 c3) (.slice A4 n4 c4) wb) (by kernel_rfl) ?_
      rw [hW8]
      clear hW8
      refine takeF (i := 0) (v := ?_) (fun wa => RP w1 wr.heap.size (.int .u8 (d : Int)) (.int .u64 (s : Int)) (.slice A3 n3 c3) (.slice A4 n4 c4) wa) rfl (by kernel_rfl) (by kernel_rfl) (by kernel_rfl) (fun j hj => .inr (.inr fun wa wb h g => g h)) (fun wa => id) (fun _ _ _ h => h) (Or.inl ⟨by kernel_rfl, ?hy⟩) hX ?_
      case hy =>
        intro wS hSw
        clear hSw
        go_simp
        try with_reducible rfl
      try simp only [List.getElem_toArray, List.getElem_cons_succ, List.getElem_cons_zero, Act.put, List.setIfInBounds_toArray, List.set_cons_zero, List.set_cons_succ]
      refine takeF (i := 1) (v := ?_) (fun wa => RP w1 wr.heap.size (.int .u8 (d : Int)) (.int .u64 (s : Int)) (.slice A3 n3 c3) (.slice A4 n4 c4) wa) rfl (by kernel_rfl) (by kernel_rfl) (by kernel_rfl) (fun j hj => .inr (.inr fun wa wb h g => g h)) (fun wa => id) (fun _ _ _ h => h) (Or.inl ⟨by kernel_rfl, ?hy⟩) hX ?_
      case hy =>
        intro wS hSw
        clear hSw
        go_simp
        try with_reducible rfl
      try simp only [List.getElem_toArray, List.getElem_cons_succ, List.getElem_cons_zero, Act.put, List.setIfInBounds_toArray, List.set_cons_zero, List.set_cons_succ]
      refine takeF (i := 4) (v := ?_) (fun wa => RP w1 wr.heap.size (.int .u8 (d : Int)) (.int .u64 (s : Int)) (.slice A3 n3 c3) (.slice A4 n4 c4) wa) rfl (by kernel_rfl) (by kernel_rfl) (by kernel_rfl) (fun j hj => .inr (.inr fun wa wb h g => g h)) (fun wa => id) (fun _ _ _ h => h) (Or.inl ⟨by kernel_rfl, ?hy⟩) hX ?_
      case hy =>
        intro wS hSw
        clear hSw
        go_simp
        try with_reducible rfl
      try simp only [List.getElem_toArray, List.getElem_cons_succ, List.getElem_cons_zero, Act.put, List.setIfInBounds_toArray, List.set_cons_zero, List.set_cons_succ]
      refine takeF (i := 5) (v := ?_) (fun wa => RP w1 wr.heap.size (.int .u8 (d : Int)) (.int .u64 (s : Int)) (.slice A3 n3 c3) (.slice A4 n4 c4) wa) rfl (by kernel_rfl) (by kernel_rfl) (by kernel_rfl) (fun j hj => .inr (.inr fun wa wb h g => g h)) (fun wa => id) (fun _ _ _ h => h) (Or.inl ⟨by kernel_rfl, ?hy⟩) hX ?_
      case hy =>
        intro wS hSw
        obtain ⟨x0, x1, x2, x3, x4⟩ := hSw.2
        clear hSw
        go_simp
        try with_reducible rfl
      try simp only [List.getElem_toArray, List.getElem_cons_succ, List.getElem_cons_zero, Act.put, List.setIfInBounds_toArray, List.set_cons_zero, List.set_cons_succ]
      refine readyF (rs := [2, 6]) (by kernel_rfl) (by simp) ?_
      refine AllF.cons rfl (fun K hK => ?_) ?_
      · go_simp
        refine hK _ _ (fun h => h.below ((Below.refl w8.heap.size w8).alloc (Nat.le_refl _) (.cells #[.slice A5 n5 c5] 22))) ?_
        clear hK K
        have hb := (Below.refl w8.heap.size w8).alloc (Nat.le_refl _) (.cells #[.slice A5 n5 c5] 22)
        have hl : Sl (w8.alloc (.cells #[.slice A5 n5 c5] 22)) 1 (some ⟨w8.heap.size, 0, none⟩) 1 1 [.slice A5 n5 c5] := Sl.lit w8 _ _ 1 _ _ rfl (by unfold maxLen; omega) rfl
        generalize (w8.alloc (.cells #[.slice A5 n5 c5] 22)) = w8_2 at *
        have hX := hX.below hb
        have hoP := Own.below hoP hb
        have hpP := hpP.below hb
        have hoG := hoG.below hb
        have ho5 := Own.below ho5 hb
        have s3 := s3.below (by omega) hb
        have s4 := s4.below hb
        clear hb
        refine readyF (rs := [3, 6]) (by kernel_rfl) (by simp) ?_
        refine AllF.cons rfl (fun K hK => ?_) ?_
        · refine step_appP (by rfl) (.tmp 36) (.tmp 38) (by rfl) w1.heap.size Ar nr cr vs2 (by rfl) hoP _ 1 1 _ (by rfl) hl (one_cell _ _ _) (by omega) hX.1.size ?_
          intro A9 c9 w8_2_3 ho9 hg _
          refine hK _ _ (fun h => h.grown hg (fun b hb => (Own.lt hoP b hb).1) hneP) ?_
          clear hK K
          have hX := hX.grown hg (fun b hb => (Own.lt hoP b hb).1) hneP
          have hp9 := (hpP.wroteRow hoP (by decide) hg).snoc (Own.mono (Own.grown ho5 hg (own_apart ho5 hoP (by decide))) hB5) (fun b hb => by simp)
          have hoG := hoG.wrote hoP (by decide) (Nat.le_refl _) hg
          have s3 := s3.grown (by omega) hg (fun hn b hb q => by have := h3 b hn hb; have := (Own.lt hoP b q).1; omega)
          have s4 := s4.move (q := fun b => b < w1.heap.size) (fun b hl hp => ⟨hg.block b hl fun q => by have := (Own.lt hoP b q.symm).1; omega, hp⟩)
          clear hg hpP ho5 hl hoP
          refine readyF (rs := [6]) (by kernel_rfl) (by simp) ?_
          refine AllF.cons rfl (fun K hK => ?_) AllF.nil
          go_simp
          refine hK _ _ (fun h => h.below ((Below.refl w8_2_3.heap.size w8_2_3).alloc (Nat.le_refl _) (.cells #[.int .u8 (d : Int), .int .u64 (s : Int), .slice A3 n3 c3, .slice A4 n4 c4] 41))) ?_
          clear hK K
          have hb := (Below.refl w8_2_3.heap.size w8_2_3).alloc (Nat.le_refl _) (.cells #[.int .u8 (d : Int), .int .u64 (s : Int), .slice A3 n3 c3, .slice A4 n4 c4] 41)
          have hrow := noteRowL w8_2_3 x d s Hd.out Hs.out _ A3 n3 c3 A4 n4 c4 s3 h3 s4 41
          generalize (w8_2_3.alloc (.cells #[.int .u8 (d : Int), .int .u64 (s : Int), .slice A3 n3 c3, .slice A4 n4 c4] 41)) = w8_2_3_6 at *
          have hX := hX.below hb
          have hoG := hoG.below hb
          have s3 := s3.below (by omega) hb
          have s4 := s4.below hb
          have ho9 := Own.below ho9 hb
          have hp9 := hp9.below hb
          clear hb
          refine readyF (rs := [7]) (by kernel_rfl) (by simp) ?_
          refine AllF.cons rfl (fun K hK => ?_) AllF.nil
          refine step_appL (α := NoteL) (by rfl) (.tmp 40) (.tmp 42) 29 (by rfl) w1.heap.size w1.heap.size 41 _ 64 Tryd.underlying29 infoNote rfl Ag ng cg _ (by rfl) hoG _ 1 1 [x] (by rfl) hrow.row (by unfold maxLen; omega) (by omega) hX.1.size (Nat.le_refl _) ?_
          intro A8 c8 w8_2_3_6_7 ho8 hg _
          refine hK _ _ (fun h => h.grown hg (fun b hb => (hoG.lt b hb).1) hneG) ?_
          clear hK K
          obtain ⟨xg, hog, -⟩ := id hoG
          have hX := hX.grown hg (fun b hb => (hoG.lt b hb).1) hneG
          have ho9 := Own.grown ho9 hg (own_apart ho9 hog (by decide))
          have hp9 := hp9.wroteRow hog (by decide) hg
          clear hg hog hoG hrow
          refine takeF (i := 8) (v := ?_) (fun wa => RP w1 wr.heap.size (.int .u8 (d : Int)) (.int .u64 (s : Int)) (.slice A3 n3 c3) (.slice A4 n4 c4) wa) rfl (by kernel_rfl) (by kernel_rfl) (by kernel_rfl) (fun j hj => .inr (.inr fun wa wb h g => g h)) (fun wa => id) (fun _ _ _ h => h) (Or.inl ⟨by kernel_rfl, ?hy⟩) hX ?_
          case hy =>
            intro wS hSw
            clear hSw
            go_simp
            try with_reducible rfl
          try simp only [List.getElem_toArray, List.getElem_cons_succ, List.getElem_cons_zero, Act.put, List.setIfInBounds_toArray, List.set_cons_zero, List.set_cons_succ]
          refine takeF (i := 9) (v := ?_) (fun wa => RP w1 wr.heap.size (.int .u8 (d : Int)) (.int .u64 (s : Int)) (.slice A3 n3 c3) (.slice A4 n4 c4) wa) rfl (by kernel_rfl) (by kernel_rfl) (by kernel_rfl) (fun j hj => .inr (.inr fun wa wb h g => g h)) (fun wa => id) (fun _ _ _ h => h) (Or.inl ⟨by kernel_rfl, ?hy⟩) hX ?_
          case hy =>
            intro wS hSw
            clear hSw
            go_simp
            try with_reducible rfl
          try simp only [List.getElem_toArray, List.getElem_cons_succ, List.getElem_cons_zero, Act.put, List.setIfInBounds_toArray, List.set_cons_zero, List.set_cons_succ]
          refine doneF (by kernel_rfl) ?_ _
          try simp only [List.getElem_toArray, List.getElem_cons_succ, List.getElem_cons_zero, Act.put, List.setIfInBounds_toArray, List.set_cons_zero, List.set_cons_succ]
          go_wp2
          go_roundw
          case rel => exact ⟨j + 1, A9, _, c9, _, A8, _, c8, by go_num, rfl, rfl, by omega, hX.1, ho9, by rw [HF.out, List.map_append]; exact hp9, by rw [HF.out]; exact ho8⟩
          case measure => simp [intOf]; omega
        refine AllF.cons rfl (fun K hK => ?_) AllF.nil
        go_simp
        refine hK _ _ (fun h => h.below ((Below.refl w8_2.heap.size w8_2).alloc (Nat.le_refl _) (.cells #[.int .u8 (d : Int), .int .u64 (s : Int), .slice A3 n3 c3, .slice A4 n4 c4] 41))) ?_
        clear hK K
        have hb := (Below.refl w8_2.heap.size w8_2).alloc (Nat.le_refl _) (.cells #[.int .u8 (d : Int), .int .u64 (s : Int), .slice A3 n3 c3, .slice A4 n4 c4] 41)
        have hrow := noteRowL w8_2 x d s Hd.out Hs.out _ A3 n3 c3 A4 n4 c4 s3 h3 s4 41
        generalize (w8_2.alloc (.cells #[.int .u8 (d : Int), .int .u64 (s : Int), .slice A3 n3 c3, .slice A4 n4 c4] 41)) = w8_2_6 at *
        have hX := hX.below hb
        have hoP := Own.below hoP hb
        have hpP := hpP.below hb
        have hoG := hoG.below hb
        have ho5 := Own.below ho5 hb
        have s3 := s3.below (by omega) hb
        have s4 := s4.below hb
        have hl := hl.below (by omega) hb
        clear hb
        refine readyF (rs := [3]) (by kernel_rfl) (by simp) ?_
        refine AllF.cons rfl (fun K hK => ?_) AllF.nil
        refine step_appP (by rfl) (.tmp 36) (.tmp 38) (by rfl) w1.heap.size Ar nr cr vs2 (by rfl) hoP _ 1 1 _ (by rfl) hl (one_cell _ _ _) (by omega) hX.1.size ?_
        intro A9 c9 w8_2_6_3 ho9 hg _
        refine hK _ _ (fun h => h.grown hg (fun b hb => (Own.lt hoP b hb).1) hneP) ?_
        clear hK K
        have hX := hX.grown hg (fun b hb => (Own.lt hoP b hb).1) hneP
        have hp9 := (hpP.wroteRow hoP (by decide) hg).snoc (Own.mono (Own.grown ho5 hg (own_apart ho5 hoP (by decide))) hB5) (fun b hb => by simp)
        have hoG := hoG.wrote hoP (by decide) (Nat.le_refl _) hg
        have hrow := hrow.wrote hoP (by decide) (Nat.le_refl _) hg
        clear hg hpP ho5 hl hoP
        refine readyF (rs := [7]) (by kernel_rfl) (by simp) ?_
        refine AllF.cons rfl (fun K hK => ?_) AllF.nil
        refine step_appL (α := NoteL) (by rfl) (.tmp 40) (.tmp 42) 29 (by rfl) w1.heap.size w1.heap.size 41 _ 64 Tryd.underlying29 infoNote rfl Ag ng cg _ (by rfl) hoG _ 1 1 [x] (by rfl) hrow.row (by unfold maxLen; omega) (by omega) hX.1.size (Nat.le_refl _) ?_
        intro A8 c8 w8_2_6_3_7 ho8 hg _
        refine hK _ _ (fun h => h.grown hg (fun b hb => (hoG.lt b hb).1) hneG) ?_
        clear hK K
        obtain ⟨xg, hog, -⟩ := id hoG
        have hX := hX.grown hg (fun b hb => (hoG.lt b hb).1) hneG
        have ho9 := Own.grown ho9 hg (own_apart ho9 hog (by decide))
        have hp9 := hp9.wroteRow hog (by decide) hg
        clear hg hog hoG hrow
        refine takeF (i := 8) (v := ?_) (fun wa => RP w1 wr.heap.size (.int .u8 (d : Int)) (.int .u64 (s : Int)) (.slice A3 n3 c3) (.slice A4 n4 c4) wa) rfl (by kernel_rfl) (by kernel_rfl) (by kernel_rfl) (fun j hj => .inr (.inr fun wa wb h g => g h)) (fun wa => id) (fun _ _ _ h => h) (Or.inl ⟨by kernel_rfl, ?hy⟩) hX ?_
        case hy =>
          intro wS hSw
          clear hSw
          go_simp
          try with_reducible rfl
        try simp only [List.getElem_toArray, List.getElem_cons_succ, List.getElem_cons_zero, Act.put, List.setIfInBounds_toArray, List.set_cons_zero, List.set_cons_succ]
        refine takeF (i := 9) (v := ?_) (fun wa => RP w1 wr.heap.size (.int .u8 (d : Int)) (.int .u64 (s : Int)) (.slice A3 n3 c3) (.slice A4 n4 c4) wa) rfl (by kernel_rfl) (by kernel_rfl) (by kernel_rfl) (fun j hj => .inr (.inr fun wa wb h g => g h)) (fun wa => id) (fun _ _ _ h => h) (Or.inl ⟨by kernel_rfl, ?hy⟩) hX ?_
        case hy =>
          intro wS hSw
          clear hSw
          go_simp
          try with_reducible rfl
        try simp only [List.getElem_toArray, List.getElem_cons_succ, List.getElem_cons_zero, Act.put, List.setIfInBounds_toArray, List.set_cons_zero, List.set_cons_succ]
        refine doneF (by kernel_rfl) ?_ _
        try simp only [List.getElem_toArray, List.getElem_cons_succ, List.getElem_cons_zero, Act.put, List.setIfInBounds_toArray, List.set_cons_zero, List.set_cons_succ]
        go_wp2
        go_roundw
        case rel => exact ⟨j + 1, A9, _, c9, _, A8, _, c8, by go_num, rfl, rfl, by omega, hX.1, ho9, by rw [HF.out, List.map_append]; exact hp9, by rw [HF.out]; exact ho8⟩
        case measure => simp [intOf]; omega
      refine AllF.cons rfl (fun K hK => ?_) AllF.nil
      go_simp
      refine hK _ _ (fun h => h.below ((Below.refl w8.heap.size w8).alloc (Nat.le_refl _) (.cells #[.int .u8 (d : Int), .int .u64 (s : Int), .slice A3 n3 c3, .slice A4 n4 c4] 41))) ?_
      clear hK K
      have hb := (Below.refl w8.heap.size w8).alloc (Nat.le_refl _) (.cells #[.int .u8 (d : Int), .int .u64 (s : Int), .slice A3 n3 c3, .slice A4 n4 c4] 41)
      have hrow := noteRowL w8 x d s Hd.out Hs.out _ A3 n3 c3 A4 n4 c4 s3 h3 s4 41
      generalize (w8.alloc (.cells #[.int .u8 (d : Int), .int .u64 (s : Int), .slice A3 n3 c3, .slice A4 n4 c4] 41)) = w8_6 at *
      have hX := hX.below hb
      have hoP := Own.below hoP hb
      have hpP := hpP.below hb
      have hoG := hoG.below hb
      have ho5 := Own.below ho5 hb
      have s3 := s3.below (by omega) hb
      have s4 := s4.below hb
      clear hb
      refine readyF (rs := [2]) (by kernel_rfl) (by simp) ?_
      refine AllF.cons rfl (fun K hK => ?_) AllF.nil
      go_simp
      refine hK _ _ (fun h => h.below ((Below.refl w8_6.heap.size w8_6).alloc (Nat.le_refl _) (.cells #[.slice A5 n5 c5] 22))) ?_
      clear hK K
      have hb := (Below.refl w8_6.heap.size w8_6).alloc (Nat.le_refl _) (.cells #[.slice A5 n5 c5] 22)
      have hl : Sl (w8_6.alloc (.cells #[.slice A5 n5 c5] 22)) 1 (some ⟨w8_6.heap.size, 0, none⟩) 1 1 [.slice A5 n5 c5] := Sl.lit w8_6 _ _ 1 _ _ rfl (by unfold maxLen; omega) rfl
      generalize (w8_6.alloc (.cells #[.slice A5 n5 c5] 22)) = w8_6_2 at *
      have hX := hX.below hb
      have hoP := Own.below hoP hb
      have hpP := hpP.below hb
      have hoG := hoG.below hb
      have ho5 := Own.below ho5 hb
      have hrow := hrow.below hb
      clear hb
      refine readyF (rs := [3]) (by kernel_rfl) (by simp) ?_
      refine AllF.cons rfl (fun K hK => ?_) AllF.nil
      refine step_appP (by rfl) (.tmp 36) (.tmp 38) (by rfl) w1.heap.size Ar nr cr vs2 (by rfl) hoP _ 1 1 _ (by rfl) hl (one_cell _ _ _) (by omega) hX.1.size ?_
      intro A9 c9 w8_6_2_3 ho9 hg _
      refine hK _ _ (fun h => h.grown hg (fun b hb => (Own.lt hoP b hb).1) hneP) ?_
      clear hK K
      have hX := hX.grown hg (fun b hb => (Own.lt hoP b hb).1) hneP
      have hp9 := (hpP.wroteRow hoP (by decide) hg).snoc (Own.mono (Own.grown ho5 hg (own_apart ho5 hoP (by decide))) hB5) (fun b hb => by simp)
      have hoG := hoG.wrote hoP (by decide) (Nat.le_refl _) hg
      have hrow := hrow.wrote hoP (by decide) (Nat.le_refl _) hg
      clear hg hpP ho5 hl hoP
      refine readyF (rs := [7]) (by kernel_rfl) (by simp) ?_
      refine AllF.cons rfl (fun K hK => ?_) AllF.nil
      refine step_appL (α := NoteL) (by rfl) (.tmp 40) (.tmp 42) 29 (by rfl) w1.heap.size w1.heap.size 41 _ 64 Tryd.underlying29 infoNote rfl Ag ng cg _ (by rfl) hoG _ 1 1 [x] (by rfl) hrow.row (by unfold maxLen; omega) (by omega) hX.1.size (Nat.le_refl _) ?_
      intro A8 c8 w8_6_2_3_7 ho8 hg _
      refine hK _ _ (fun h => h.grown hg (fun b hb => (hoG.lt b hb).1) hneG) ?_
      clear hK K
      obtain ⟨xg, hog, -⟩ := id hoG
      have hX := hX.grown hg (fun b hb => (hoG.lt b hb).1) hneG
      have ho9 := Own.grown ho9 hg (own_apart ho9 hog (by decide))
      have hp9 := hp9.wroteRow hog (by decide) hg
      clear hg hog hoG hrow
      refine takeF (i := 8) (v := ?_) (fun wa => RP w1 wr.heap.size (.int .u8 (d : Int)) (.int .u64 (s : Int)) (.slice A3 n3 c3) (.slice A4 n4 c4) wa) rfl (by kernel_rfl) (by kernel_rfl) (by kernel_rfl) (fun j hj => .inr (.inr fun wa wb h g => g h)) (fun wa => id) (fun _ _ _ h => h) (Or.inl ⟨by kernel_rfl, ?hy⟩) hX ?_
      case hy =>
        intro wS hSw
        clear hSw
        go_simp
        try with_reducible rfl
      try simp only [List.getElem_toArray, List.getElem_cons_succ, List.getElem_cons_zero, Act.put, List.setIfInBounds_toArray, List.set_cons_zero, List.set_cons_succ]
      refine takeF (i := 9) (v := ?_) (fun wa => RP w1 wr.heap.size (.int .u8 (d : Int)) (.int .u64 (s : Int)) (.slice A3 n3 c3) (.slice A4 n4 c4) wa) rfl (by kernel_rfl) (by kernel_rfl) (by kernel_rfl) (fun j hj => .inr (.inr fun wa wb h g => g h)) (fun wa => id) (fun _ _ _ h => h) (Or.inl ⟨by kernel_rfl, ?hy⟩) hX ?_
      case hy =>
        intro wS hSw
        clear hSw
        go_simp
        try with_reducible rfl
      try simp only [List.getElem_toArray, List.getElem_cons_succ, List.getElem_cons_zero, Act.put, List.setIfInBounds_toArray, List.set_cons_zero, List.set_cons_succ]
      refine doneF (by kernel_rfl) ?_ _
      try simp only [List.getElem_toArray, List.getElem_cons_succ, List.getElem_cons_zero, Act.put, List.setIfInBounds_toArray, List.set_cons_zero, List.set_cons_succ]
      go_wp2
      go_roundw
      case rel => exact ⟨j + 1, A9, _, c9, _, A8, _, c8, by go_num, rfl, rfl, by omega, hX.1, ho9, by rw [HF.out, List.map_append]; exact hp9, by rw [HF.out]; exact ho8⟩
      case measure => simp [intOf]; omega
    obtain rfl : n1 = j := by omega
    obtain ⟨wo, rfl⟩ : ∃ wo : World, wo = wr := ⟨_, rfl⟩
    rw [List.take_of_length_le (show ks.length ≤ n1 by have := Hl1.out; omega)] at hpP hoG
    obtain ⟨g, hg⟩ : ∃ g, ks.filter formL = g := ⟨_, rfl⟩
    have hform : ∀ x ∈ g, formL x = true := fun x hx => by rw [← hg] at hx; exact (List.mem_filter.1 hx).2
    have hgl : g.length ≤ 8 := by have h3 := List.length_filter_le formL ks; have := Hl1.out; rw [hg] at h3; omega
    rw [hg] at hpP hoG
    clear hg
    obtain ⟨rl, hrl⟩ : ∃ rl, g.map noteBytesL = rl := ⟨_, rfl⟩
    rw [hrl] at hpP
    have hlong : ∀ l ∈ rl, l.length ≤ 45000 := fun l hl => by
      rw [← hrl] at hl
      obtain ⟨x, hx, rfl⟩ := List.mem_map.1 hl
      exact noteBytes_le x (hform x hx)
    have hlen : rl.length = g.length := by rw [← hrl]; simp
    have hall : ∀ k, (allL (rl.take k)).length ≤ 720160 := fun k => by
      have h2 := allL_len2 45000 rl hlong (min k 8)
      have h3 : rl.take k = rl.take (min k 8) := by
        rcases Nat.le_total k 8 with q | q
        · rw [Nat.min_eq_left q]
        · rw [Nat.min_eq_right q, List.take_of_length_le (by omega), List.take_of_length_le (by omega)]
      rw [h3]
      have : (2 * 45000 + 20) * min k 8 ≤ (2 * 45000 + 20) * 8 := Nat.mul_le_mul_left _ (Nat.min_le_right _ _)
      omega
    have hback : ∀ k, replayL (rl.take k) = g.take k := fun k => by
      rw [← hrl, ← List.map_take]
      exact replay_back _ fun x hx => hform x (List.mem_of_mem_take hx)
    have hsP := Own.sl hoP
    have hps := hpP.parts
    have hsG := hoG.sl
    have hcapG := hsG.cap
    unfold maxLen at hcapG
    have hnr : nr = rl.length := by have h2 := hsP.len; have h3 := hps.1; omega
    have hng : ng = g.length := by have := hsG.lenR; omega
    have hnr8 : nr ≤ 8 := by omega
    have hgr : ng = nr := by omega
    have hcapP := hsP.cap
    have hcmP := hsP.capm
    unfold maxLen at hcmP
    have Hlong := Lib.hid hlong
    have Hall := Lib.hid hall
    have Hback := Lib.hid hback
    have Hnr := Lib.hid hnr
    have Hng := Lib.hid hng
    have Hgr := Lib.hid hgr
    have hqr := hq1.below hbr
    have hbwr := hbw1.trans (hbr.mono hbw1.size)
    clear hlong hall hback hnr hng hgr hrl hform hlen hgl hoP hpP hoG Hl1 h1
    go_wp2_with fail
    refine (rall_gen wo Ar nr cr vs2 rl hsP hps (fun l hl => by have := Hlong.out l hl; omega) (fun k => by have := Hall.out k; omega) (by omega)).mono ?_
    rintro e w2 ⟨A2, n2, c2, rfl, ho2, hb2⟩
    have hs2 := OwnB.sl ho2
    have hn2 : (allL rl).length = n2 := hs2.lenb
    have hn2l : n2 ≤ 720160 := by have h1 := Hall.out nr; rw [List.take_of_length_le (by have := Hnr.out; omega)] at h1; omega
    have Hn2 := Lib.hid hn2
    have hcap2 := hs2.cap
    have hcm2 := hs2.capm
    unfold maxLen at hcm2
    have Ho2 := Lib.hid ho2
    clear hn2 ho2
    obtain ⟨k, hk, hkl⟩ : ∃ k, at_ % (n2 + 1) = k ∧ k ≤ n2 := ⟨_, rfl, by have := Nat.mod_lt at_ (show 0 < n2 + 1 by omega); omega⟩
    have ecut : (at_ : Int) % ((n2 : Int) + 1) = (k : Int) := by rw [← hk]; simp
    have dn0 : ((n2 : Int) + 1 == 0) = false := by simp; omega
    obtain ⟨r1, s1⟩ := cutH hs2 .i64 (k : Int) k rfl hkl
    clear hk
    go_upto_if 57 with fail
    try rw [ecut]
    clear ecut dn0
    obtain ⟨Q, hQ⟩ : ∃ Q, Q = if h : 0 < k then ((allL rl).set (k - 1) (UInt8.ofNat (((allL rl)[k - 1]'(by have := Hn2.out; omega)).toNat ^^^ by_))).take k else [] := ⟨_, rfl⟩
    have HQ := Lib.hid hQ
    clear hQ
    go_cut [13] from 53 to 65 (StoreRel wo A2 k c2 Q)
    case first =>
      by_cases hk0 : 0 < k
      case neg =>
        obtain rfl : k = 0 := by omega
        have hQ := HQ.out
        rw [dif_neg (by omega)] at hQ
        subst hQ
        rw [List.take_zero] at s1
        clear HQ
        go_wp2
        go_meet
        exact ⟨rfl, s1, hb2⟩
      obtain ⟨m, hm⟩ : ∃ m, k - 1 = m := ⟨_, rfl⟩
      have hmk : m < k := by omega
      have hmn : m < n2 := by omega
      have em : (k : Int) - 1 = (m : Int) := by omega
      have p0 : (0 : Int) < (k : Int) := by omega
      have d0 : decide ((0 : Int) < (k : Int)) = true := decide_eq_true p0
      obtain ⟨g2, o2, x, hA2, hg2, hgl2, hx, hcell, hfr⟩ := OwnB.place Ho2.out hmn
      subst hA2
      have hxl := x.toNat_lt
      have hxor := u8_xor_nat x.toNat by_ (by omega) (by omega)
      have hv : x.toNat ^^^ by_ < 256 := Nat.xor_lt_two_pow (n := 8) (by omega) (by omega)
      have hst := OwnB.stored Ho2.out hmn (UInt8.ofNat (x.toNat ^^^ by_))
      rw [UInt8.toNat_ofNat_of_lt' (by simpa using hv)] at hst
      have sQ := (cutH (OwnB.sl hst) .i64 (k : Int) k rfl hkl).2
      have hQ := HQ.out
      rw [dif_pos hk0] at hQ
      have hxe : ∀ q, (allL rl)[k - 1]'q = x := fun q => by
        subst hm
        rw [List.getElem?_eq_getElem q] at hx
        exact Option.some.inj hx
      rw [hxe, hm] at hQ
      rw [← hQ] at sQ
      have SQ := Lib.hid sQ
      have hb3 : Below wo.heap.size wo (w2.setCell ⟨g2, o2 + m, none⟩ (.int .u8 ((x.toNat ^^^ by_ : Nat) : Int))) := hb2.setCell hg2 _
      generalize hxe2 : x.toNat = xn at *
      clear hst hQ hxe hx hxe2 sQ HQ hm
      go_wp2_with fail
      go_meet
      exact ⟨rfl, SQ.out, hb3⟩
    case rest =>
      obtain ⟨rfl, sQ, hb3⟩ := hcut
      generalize wc = w3 at *
      clear hb2 hs2 s1 r1 Ho2
      obtain ⟨K, hK⟩ : ∃ K, (if by_ = 0 then k else k - 1) = K := ⟨_, rfl⟩
      have HK := Lib.hid hK
      clear hK
      go_wp2
      go_loopw [15, 68] (WholeRel w3 rl K nr) (fun _ q _ => nr - (intOf q).toNat)
      case atStart => exact ⟨0, 0, rfl, rfl, Nat.zero_le _, Nat.le_refl _, Below.refl _ _, ⟨by simp [allL], fun i h1 h2 => absurd h2 (by omega)⟩⟩
      case round =>
        obtain ⟨j, kk, rfl, rfl, hj2, hkk, hbl, HC⟩ := hrel
        have hb3l := hb3.trans (hbl.mono hb3.size)
        by_cases hlt2 : j < nr
        case pos =>
          obtain ⟨rP, sP⟩ := cutHP hsP .i64 ((j : Int) + 1) (j + 1) (by omega) (by omega)
          have pP := hps.take (j + 1)
          go_wp2_with fail
          refine (rall_gen wr Ar (j + 1) cr _ _ (sP.below (by omega) hb3l) (pP.below hb3l) (fun l hl => by have := Hlong.out l (List.mem_of_mem_take hl); omega) (fun k => by rw [List.take_take]; have := Hall.out (min k (j + 1)); omega) (by omega)).mono ?_
          rintro e w5 ⟨A5, n5, c5, rfl, ho5, hb5⟩
          have hn5 : (allL (rl.take (j + 1))).length = n5 := OwnB.len' ho5
          have hn7 : 7 ≤ n5 := by
            rw [← hn5, allL_step rl j (by have := Hnr.out; omega), List.length_append]
            have := frameL_pos (allL (rl.take j)).length true (rl[j]'(by have := Hnr.out; omega))
            omega
          have Hn5 := Lib.hid hn5
          have hb6 := hbl.trans (hb5.mono hbl.size)
          clear hn5 ho5
          have hyes : n5 ≤ K → Hid ((allL (rl.take (j + 1))).length ≤ K ∧ ∀ i, j + 1 < i → i ≤ j + 1 → K < (allL (rl.take i)).length) := fun q => ⟨by rw [Hn5.out]; exact q, fun i h1 h2 => absurd h1 (by omega)⟩
          have hno : K < n5 → Hid ((allL (rl.take kk)).length ≤ K ∧ ∀ i, kk < i → i ≤ j + 1 → K < (allL (rl.take i)).length) := fun q => ⟨HC.out.1, fun i h1 h2 => by
            rcases Nat.eq_or_lt_of_le h2 with e | e
            · rw [e, Hn5.out]; exact q
            · exact HC.out.2 i h1 (by omega)⟩
          have Hyes := Lib.hid hyes
          have Hno := Lib.hid hno
          clear hyes hno
          by_cases q1 : n5 < k
          case pos =>
            have d1 : decide ((n5 : Int) < (k : Int)) = true := decide_eq_true (by omega)
            have d1' : decide (n5 < k) = true := decide_eq_true q1
            have p1 : (n5 : Int) < (k : Int) := by omega
            have hy := Hyes.out (by rw [← HK.out]; split <;> omega)
            clear Hyes Hno
            go_wp2
            go_roundw
            case rel => exact ⟨j + 1, j + 1, by go_num, by go_num, by omega, by omega, hb6, hy⟩
            case measure => simp [intOf]; omega
          case neg =>
            have d1 : decide ((n5 : Int) < (k : Int)) = false := decide_eq_false (by omega)
            have d1' : decide (n5 < k) = false := decide_eq_false q1
            have p1 : ¬ ((n5 : Int) < (k : Int)) := by omega
            by_cases q2 : n5 = k
            case pos =>
              subst q2
              have d2 : ((n5 : Int) == (n5 : Int)) = true := by simp
              by_cases q3 : by_ = 0
              case pos =>
                have d3 : ((by_ : Int) == 0) = true := by simp; omega
                have hy := Hyes.out (by rw [← HK.out, if_pos q3]; omega)
                clear q3
                clear Hyes Hno
                go_wp2
                go_roundw
                case rel => exact ⟨j + 1, j + 1, by go_num, by go_num, by omega, by omega, hb6, hy⟩
                case measure => simp [intOf]; omega
              case neg =>
                have d3 : ((by_ : Int) == 0) = false := by simp; omega
                have hy := Hno.out (by rw [← HK.out, if_neg q3]; omega)
                clear Hyes Hno
                go_wp2
                go_roundw
                case rel => exact ⟨j + 1, kk, by go_num, rfl, by omega, by omega, hb6, hy⟩
                case measure => simp [intOf]; omega
            case neg =>
              have d2 : ((n5 : Int) == (k : Int)) = false := by simp; omega
              have p2 : ¬ ((n5 : Int) = (k : Int)) := by omega
              have hy := Hno.out (by rw [← HK.out]; split <;> omega)
              clear Hyes Hno
              go_wp2
              go_roundw
              case rel => exact ⟨j + 1, kk, by go_num, rfl, by omega, by omega, hb6, hy⟩
              case measure => simp [intOf]; omega
        case neg =>
          obtain rfl : nr = j := by omega
          obtain ⟨hc1, hc2⟩ := HC.out
          have hmax : kk < rl.length → K < (allL (rl.take (kk + 1))).length := fun q => hc2 (kk + 1) (by omega) (by have := Hnr.out; omega)
          have hC1 : (allL (rl.take kk)).length ≤ (if by_ = 0 then k else k - 1) := by rw [HK.out]; exact hc1
          have hMX : kk < rl.length → (if by_ = 0 then k else k - 1) < (allL (rl.take (kk + 1))).length := by rw [HK.out]; exact hmax
          have HC1 := Lib.hid hC1
          have HMX := Lib.hid hMX
          clear hc1 hc2 hmax HC hC1 hMX
          have k4 := replay_any wr A2 k c2 Q (sQ.below (by omega) hbl) (hqr.below hb3l) (by omega)
          have K4 := Lib.hid k4
          clear k4
          go_wp2_with fail
          refine K4.out.mono ?_
          rintro e w5 ⟨rs, z, A5, n5, c5, hrt, rfl, s5, hb5⟩
          have hrs := torn_nat rl (fun l hl => by have := Hlong.out l hl; omega) k kk by_ hby (by have := Hn2.out; omega) (by have := Hnr.out; omega) HC1.out HMX.out HQ.out hrt
          rw [hrs, Hback.out] at s5
          have s5 := s5.mono (q := fun _ => True) fun _ _ _ => trivial
          have hn5 : n5 = kk := by have h1 := s5.lenR; rw [List.length_take] at h1; have := Hng.out; have := Hgr.out; omega
          subst hn5
          have hkg : n5 ≤ ng := by have := Hgr.out; omega
          have r3 := fun w => cutHN (A := Ag) (n := ng) (c := cg) .i64 (n5 : Int) n5 rfl hkg hcapG.1 w
          have s3 := hsG.take hkg
          have hb35 := hb3l.trans (hb5.mono hb3l.size)
          have hbw5 := hbwr.trans (hb35.mono hbwr.size)
          have dnn : ((n5 : Int) == (n5 : Int)) = true := by simp
          clear hrs hrt K4
          have s5d := s5.below (Below.refl w5.heap.size w5).drew
          have s3d := (s3.below hb35).below (Below.refl w5.heap.size w5).drew
          have hbwd := hbw5.drew
          go_wp2_with fail
          refine wp_region_any (by kernel_rfl) ?_
          try (change wpAny _ _ _ _ _ _ _ (World.drew _))
          refine wpAny_take (i := 0) (v := ?_) rfl (by kernel_rfl) (by kernel_rfl) (by kernel_rfl) (fun _ _ _ h => h) (Or.inl ⟨by kernel_rfl, ?_⟩) ?_
          case refine_2 => ((intro w; go_simp); try with_reducible rfl)
          refine wpAny_take (i := 1) (v := ?_) rfl (by kernel_rfl) (by kernel_rfl) (by kernel_rfl) (fun _ _ _ h => h) (Or.inl ⟨by kernel_rfl, ?_⟩) ?_
          case refine_2 => ((intro w; go_simp); try with_reducible rfl)
          refine wpAny_take (i := 2) (v := ?_) rfl (by kernel_rfl) (by kernel_rfl) (by kernel_rfl) (fun _ _ _ h => h) (Or.inl ⟨by kernel_rfl, ?_⟩) ?_
          case refine_2 => ((intro w; go_simp); try with_reducible rfl)
          refine wpAny_take (i := 3) (v := ?_) rfl (by kernel_rfl) (by kernel_rfl) (by kernel_rfl) (fun _ _ _ h => h) (Or.inl ⟨by kernel_rfl, ?_⟩) ?_
          case refine_2 => ((intro w; go_simp); try with_reducible rfl)
          refine wpAny_take (i := 4) (v := ?_) rfl (by kernel_rfl) (by kernel_rfl) (by kernel_rfl) (fun _ _ _ h => h) (Or.inl ⟨by kernel_rfl, ?_⟩) ?_
          case refine_2 => ((intro w; go_simp); try with_reducible rfl)
          refine wpAny_take (i := 6) (v := ?_) rfl (by kernel_rfl) (by kernel_rfl) (by kernel_rfl) (fun _ _ _ h => h) (Or.inl ⟨by kernel_rfl, ?_⟩) ?_
          case refine_2 => ((intro w; go_simp); try with_reducible rfl)
          refine wpAny_take (i := 7) (v := ?_) rfl (by kernel_rfl) (by kernel_rfl) (by kernel_rfl) (fun _ _ _ h => h) (Or.inl ⟨by kernel_rfl, ?_⟩) ?_
          case refine_2 => ((intro w; go_simp); try with_reducible rfl)
          refine wpAny_take (i := 8) (v := ?_) rfl (by kernel_rfl) (by kernel_rfl) (by kernel_rfl) (fun _ _ _ h => h) (Or.inl ⟨by kernel_rfl, ?_⟩) ?_
          case refine_2 => ((intro w; go_simp); try with_reducible rfl)
          refine wpAny_ready (rs := [5]) (by kernel_rfl) (by simp) ?_
          refine AllReady.cons rfl (fun K hK => ?_) AllReady.nil
          go_simp
          refine (back_any _ A5 n5 c5 _ s5d (by omega)).mono ?_
          rintro e w9 ⟨A9, n9, c9, rfl, ho9, hb9⟩
          go_simp
          refine hK _ _ ?_
          clear hK K
          refine wpAny_ready (rs := [9]) (by kernel_rfl) (by simp) ?_
          refine AllReady.cons rfl (fun K hK => ?_) AllReady.nil
          go_simp
          refine (samenotes_is w9 _ A9 n9 c9 _ ho9.sl _ Ag n5 cg (s3d.below hb9)).mono ?_
          rintro e wz ⟨rfl, hbz⟩
          go_simp
          refine hK _ _ ?_
          clear hK K
          refine wpAny_take (i := 10) (v := ?_) rfl (by kernel_rfl) (by kernel_rfl) (by kernel_rfl) (fun _ _ _ h => h) (Or.inl ⟨by kernel_rfl, ?_⟩) ?_
          case refine_2 => ((intro w; go_simp); try with_reducible rfl)
          refine wpAny_take (i := 11) (v := ?_) rfl (by kernel_rfl) (by kernel_rfl) (by kernel_rfl) (fun _ _ _ h => h) (Or.inl ⟨by kernel_rfl, ?_⟩) ?_
          case refine_2 => ((intro w; go_simp); try with_reducible rfl)
          refine wpAny_done (by kernel_rfl) ?_ _
          go_wp2
          go_ret
          exact ⟨rfl, (hbwd.trans (hb9.mono hbwd.size)).trans (hbz.mono (Nat.le_trans hbwd.size hb9.size))⟩
end Go.Proofs.YtpjinmiedanebaaDoor

namespace Go.Proofs.YtpjinmiedanebaaDoor
open Go.RowKit
set_option maxRecDepth 100000
theorem reads_take {P : List UInt8} {k a e : Nat} {rs : List (List UInt8)} (h : Reads (P.take k) a rs e) : Reads P a rs e := by
  induction h with
  | nil a => exact .nil a
  | cons a r rs e h0 _ ih =>
    refine .cons a r rs e ⟨h0.1, h0.2.trans ?_⟩ ih
    rw [List.drop_take]
    exact List.take_prefix _ _
/-- of a beginning of notes' log the notes that lie whole in it are replayed -/
theorem replay_cut (ks : List NoteL) (hf : ∀ x ∈ ks, formL x = true) (k : Nat) {rs : List (List UInt8)} {e : Nat} (h : Reads ((allL (ks.map noteBytesL)).take k) 0 rs e) : rs.length ≤ ks.length ∧ replayL rs = ks.take rs.length := by
  have hl : ∀ l ∈ ks.map noteBytesL, l.length ≤ 65536 := fun l hl => by
    obtain ⟨x, hx, rfl⟩ := List.mem_map.1 hl
    have := noteBytes_le x (hf x hx)
    omega
  have h5 := reads_all (ks.map noteBytesL) hl (allL (ks.map noteBytesL)) (ks.map noteBytesL).length (Nat.le_refl _) (by rw [List.take_length]; exact List.prefix_rfl)
  rw [List.take_length] at h5
  have hp := reads_prefix (reads_take h) h5 (stuck_end (Nat.le_refl _))
  have e1 := List.prefix_iff_eq_take.1 hp
  have h6 := hp.length_le
  rw [List.length_map] at h6
  refine ⟨h6, ?_⟩
  rw [e1, ← List.map_take, replay_back _ fun x hx => hf x (List.mem_of_mem_take hx), List.length_map, List.length_take]
  congr 1
  omega
/-- what is known behind j notes, all of them right -/
def LogsRel (w3 : World) (ks : List NoteL) (n1 : Nat) (rv wv iv : Value) (wr : World) : Prop :=
  ∃ (j : Nat) (Ar : Option Addr) (nr cr : Nat) (vs2 : List Value), iv = .int .i64 (j : Int) ∧ rv = .slice Ar nr cr ∧ wv = .int .i64 0 ∧ j ≤ n1 ∧ Below w3.heap.size w3 wr ∧
    OwnP wr w3.heap.size Ar nr cr vs2 ∧ OwnParts wr w3.heap.size none vs2 ((ks.take j).map noteBytesL) ∧ Hid (∀ x ∈ ks.take j, formL x = true)
set_option maxHeartbeats 32000000 in
theorem entryLogs.walk (w : World) (A : Option Addr) (n c : Nat) (ls : List NoteL) (h : SlR w (fun _ => True) A n c ls) (at_ : Nat) (hat : at_ < 65536) (hq : Quarter w) :
    Calls Tryd.prog 5 #[.slice A n c, .int .u16 (at_ : Int)] w fun e w' => e = .returned (.bool true) ∧ Below w.heap.size w w' := by
  go_enter Tryd.func5, Tryd.ntmps5
  go_wp2_with fail
  refine (awake07 w).mono ?_
  rintro e w0 ⟨rfl, hb0⟩
  have h0 := h.below hb0
  go_wp2_with fail
  refine (fewnotes_any w0 _ A n c ls 10 h0 (by omega)).mono ?_
  rintro e w1 ⟨A1, n1, c1, rfl, ho1, hb1⟩
  have hl8 : (fewNotes ls 10).length ≤ 10 := by unfold fewNotes; simp; omega
  generalize fewNotes ls 10 = ks at *
  have h1 := ho1.sl
  have hl1 := h1.lenR
  have hn1 : n1 ≤ 10 := by omega
  have hbw1 := hb0.trans (hb1.mono hb0.size)
  have hq1 := hq.below hbw1
  have Hl1 := Lib.hid hl1
  have hcp1 := h1.cap
  unfold maxLen at hcp1
  clear h h0 hb0 hb1 ho1 hl1 hl8
  go_wp2_with fail
  refine (of_any w1 A1 n1 c1 ks h1 (by omega)).mono ?_
  rintro e w2 ⟨A2, n2, c2, rfl, ho2, hb2⟩
  have h2 := ho2.sl
  have hn2 : n2 ≤ 10 := by have := h2.lenR; have := Hl1.out; omega
  have hbw2 := hbw1.trans (hb2.mono hbw1.size)
  have k3 := log_any w2 A2 n2 c2 ks h2 (hq1.below hb2) hn2
  obtain ⟨pl, hpl⟩ : ∃ pl, (logBE ks).1 = pl := ⟨_, rfl⟩
  obtain ⟨pe, hpe⟩ : ∃ pe, (logBE ks).2 = pe := ⟨_, rfl⟩
  rw [hpl, hpe] at k3
  unfold GotBE at k3
  have K3 := Lib.hid k3
  have hlog : ((∀ x ∈ ks, formL x = true) → pl = allL (ks.map noteBytesL) ∧ pe = 0) ∧ ((∃ x ∈ ks, ¬ formL x = true) → pl = [] ∧ pe = 4) := by
    subst hpl hpe
    unfold logBE
    constructor
    · intro g
      rw [if_pos (List.all_eq_true.2 g)]
      exact ⟨rfl, rfl⟩
    · rintro ⟨x, hx, hf⟩
      rw [if_neg (fun q => hf (List.all_eq_true.1 q x hx))]
      exact ⟨rfl, rfl⟩
  have Hlog := Lib.hid hlog
  clear k3 hpl hpe hlog ho2 h2
  go_wp2_with fail
  refine K3.out.mono ?_
  rintro e w3 ⟨A3, n3, c3, rfl, ho3, hb3⟩
  have hb13 := hb2.trans (hb3.mono hb2.size)
  have hbw3 := hbw1.trans (hb13.mono hbw1.size)
  have s3 := OwnB.sl ho3
  have h1 := h1.below hb13
  have hq3 := hq1.below hb13
  clear ho3 hb2 hb3 hb13 hq1 hbw2 K3
  go_wp2
  go_loopw [7, 8, 32] (LogsRel w3 ks n1) (fun _ _ q _ => n1 - (intOf q).toNat)
  case atStart => exact ⟨0, none, 0, 0, [], rfl, rfl, rfl, Nat.zero_le _, Below.refl _ _, Own.nil _ _ _ _ _, OwnParts.nil _ _ _, fun x hx => by simp at hx⟩
  case round =>
    obtain ⟨j, Ar, nr, cr, vs2, rfl, rfl, rfl, hj, hbr, hoP, hpP, HFJ⟩ := hrel
    by_cases hlt : j < n1
    case pos =>
      have hnr : nr ≤ 10 := by
        have h2 := Own.sl hoP |>.len
        have h4 := hpP.1
        rw [List.length_map, List.length_take] at h4
        omega
      have hr : SlR wr (fun _ => True) A1 n1 c1 ks := h1.below hbr
      obtain ⟨b, o, A5, n5, c5, A6, n6, c6, hjl, rfl, d0, d1, d2, d3, s5, h5, s6⟩ := hr.noteAtP hlt
      clear hr h5
      have hst : ks.take (j + 1) = ks.take j ++ [ks[j]] := List.take_succ_eq_append_getElem hjl
      have hmem : ks[j] ∈ ks := List.getElem_mem hjl
      generalize hx : ks[j] = x at *
      clear hx
      have al := (Below.refl wr.heap.size wr).alloc (Nat.le_refl _) (.cells #[.int .u8 (x.kind.toNat : Int), .int .u64 (x.seq.toNat : Int), .slice A5 n5 c5, .slice A6 n6 c6] 41)
      have hcn := rnbytes_any (wr.alloc (.cells #[.int .u8 (x.kind.toNat : Int), .int .u64 (x.seq.toNat : Int), .slice A5 n5 c5, .slice A6 n6 c6] 41)) _ A5 n5 c5 A6 n6 c6 x (s5.below (by omega) al) (s6.below al)
      generalize hd : x.kind.toNat = d at *
      generalize hs : x.seq.toNat = s at *
      have kB := Bx4.fresh wr (.int .u8 (d : Int)) (.int .u64 (s : Int)) (.slice A5 n5 c5) (.slice A6 n6 c6) 41
      have hoP := Own.below hoP al
      have hpP := hpP.below al
      have hbr6 := hbr.trans (al.mono hbr.size)
      have s3 := s3.below (by omega) hbr6
      generalize hW : (wr.alloc (.cells #[.int .u8 (d : Int), .int .u64 (s : Int), .slice A5 n5 c5, .slice A6 n6 c6] 41)) = w6 at *
      clear al hd hs s5 s6
      obtain ⟨x0, x1, x2, x3, x4⟩ := id kB
      by_cases hf : formL x = true
      case neg =>
        rw [show noteBE x = ([], 4) by unfold noteBE; rw [if_neg hf]] at hcn
        unfold GotBE at hcn
        have Hcn := Lib.hid hcn
        obtain ⟨rfl, rfl⟩ := Hlog.out.2 ⟨x, hmem, hf⟩
        obtain rfl : n3 = 0 := by have := s3.lenb; simpa using this.symm
        clear hcn hf hst hmem Hlog
        go_wp2_with fail
        try rw [hW]
        refine Hcn.out.mono ?_
        rintro e w7 ⟨A7, n7, c7, rfl, ho7, hb7⟩
        have hb9 := hbr6.trans (hb7.mono hbr6.size)
        have hbz := hbw3.trans (hb9.mono hbw3.size)
        clear x0 x1 x2 x3 x4 d0 d1 d2 d3 kB ho7 hb7
        go_wp2
        go_ret
        exact ⟨rfl, hbz⟩
      rw [show noteBE x = (noteBytesL x, 0) by unfold noteBE; rw [if_pos hf]] at hcn
      unfold GotBE at hcn
      have Hcn := Lib.hid hcn
      have hfe : (ks.take (j + 1)).map noteBytesL = (ks.take j).map noteBytesL ++ [noteBytesL x] := by rw [hst, List.map_append]; rfl
      have HF := Lib.hid hfe
      have hfj : ∀ y ∈ ks.take (j + 1), formL y = true := by
        rw [hst]
        intro y hy
        rcases List.mem_append.1 hy with hy | hy
        · exact HFJ.out y hy
        · rw [List.mem_singleton.1 hy]; exact hf
      have HFJ2 := Lib.hid hfj
      clear hcn hf hfe hst hmem hfj HFJ
      go_wp2_with fail
      try rw [hW]
      refine Hcn.out.mono ?_
      rintro e w7 ⟨A7, n7, c7, rfl, ho7, hb7⟩
      have hb8 := hbr6.trans (hb7.mono hbr6.size)
      have ho5 := Own.below hoP hb7
      have hp5 := hpP.below hb7
      have hsz := hbr6.size
      have hba := (Below.refl w7.heap.size w7).alloc (Nat.le_refl _) (.cells #[.slice A7 n7 c7] 22)
      have hlit := Own.lit w7 w3.heap.size 22 1 #[.slice A7 n7 c7] [.slice A7 n7 c7] hb8.size rfl (by unfold maxLen; omega) rfl
      have hoQ : OwnP (w7.alloc (.cells #[.slice A7 n7 c7] 22)) w3.heap.size Ar nr cr vs2 := Own.below ho5 hba
      have hpQ := hp5.below hba
      have hoN := Own.below ho7 hba
      clear x0 x1 x2 x3 x4 d0 d1 d2 d3 kB hb7 ho5 hp5 ho7 Hcn hoP hpP
      go_wp2_with (at_builtin; refine wpList_appP _ rfl (.tmp 44) (.tmp 46) rfl w3.heap.size Ar nr cr _ rfl hoQ _ 1 1 [.slice A7 n7 c7] rfl hlit.sl (one_cell _ _ _) ?_ ?_ ?_)
      · omega
      · have := hb8.size; rw [World.size_alloc]; omega
      intro A9 c9 w9 ho9 hg9 _
      have hb9 := (hb8.alloc hb8.size (.cells #[.slice A7 n7 c7] 22)).grown hg9 (by have := hb8.size; rw [World.size_alloc]; omega) (fun q hq => (Own.lt hoQ q hq).1)
      have hpN := (hpQ.wroteRow hoQ (by decide) hg9).snoc (Own.mono (Own.grown hoN hg9 (own_apart hoN hoQ (by decide))) hsz) (fun b hb => by simp)
      have Ho9 := Lib.hid ho9
      have HpN := Lib.hid hpN
      clear ho9 hpN hoQ hpQ hoN hg9 hlit hba
      go_wp2
      go_roundw
      case rel => exact ⟨j + 1, A9, _, c9, _, by go_num, rfl, rfl, by omega, hb9, Ho9.out, by rw [HF.out]; exact HpN.out, HFJ2.out⟩
      case measure => simp [intOf]; omega
    obtain rfl : n1 = j := by omega
    obtain ⟨wo, rfl⟩ : ∃ wo : World, wo = wr := ⟨_, rfl⟩
    have hfj := HFJ.out
    rw [List.take_of_length_le (show ks.length ≤ n1 by have := Hl1.out; omega)] at hpP hfj
    obtain ⟨rfl, rfl⟩ := Hlog.out.1 hfj
    have HFK := Lib.hid hfj
    clear Hlog HFJ hfj
    obtain ⟨rl, hrl⟩ : ∃ rl, ks.map noteBytesL = rl := ⟨_, rfl⟩
    rw [hrl] at hpP s3
    have hlong : ∀ l ∈ rl, l.length ≤ 45000 := fun l hl => by
      rw [← hrl] at hl
      obtain ⟨x, hx, rfl⟩ := List.mem_map.1 hl
      exact noteBytes_le x (HFK.out x hx)
    have hlen : rl.length = n1 := by rw [← hrl, List.length_map]; exact Hl1.out
    have hall : ∀ k, (allL (rl.take k)).length ≤ 900200 := fun k => by
      have h2 := allL_len2 45000 rl hlong (min k 10)
      have h3 : rl.take k = rl.take (min k 10) := by
        rcases Nat.le_total k 10 with q | q
        · rw [Nat.min_eq_left q]
        · rw [Nat.min_eq_right q, List.take_of_length_le (by omega), List.take_of_length_le (by omega)]
      rw [h3]
      have : (2 * 45000 + 20) * min k 10 ≤ (2 * 45000 + 20) * 10 := Nat.mul_le_mul_left _ (Nat.min_le_right _ _)
      omega
    have hsP := Own.sl hoP
    have hps := hpP.parts
    have hnr : nr = rl.length := by have h2 := hsP.len; have h3 := hps.1; omega
    have hnr8 : nr ≤ 10 := by omega
    have hn3 : (allL rl).length = n3 := s3.lenb
    have hn3l : n3 ≤ 900200 := by have h2 := hall n1; rw [List.take_of_length_le (by omega)] at h2; omega
    have Hn3 := Lib.hid hn3
    have Hrl := Lib.hid hrl
    have Hlong := Lib.hid hlong
    have Hall := Lib.hid hall
    have hqr := hq3.below hbr
    have hbwr := hbw3.trans (hbr.mono hbw3.size)
    have s3 := s3.below (by omega) hbr
    have h1 := h1.below hbr
    have hcap3 := s3.cap
    have hcm3 := s3.capm
    unfold maxLen at hcm3
    clear hlong hall hnr hrl hlen hoP hpP hn3 hbr hbw3 hq3
    go_wp2_with fail
    refine (rall_gen wo Ar nr cr vs2 rl hsP hps (fun l hl => by have := Hlong.out l hl; omega) (fun k => by have := Hall.out k; omega) (by omega)).mono ?_
    rintro e w4 ⟨A4, n4, c4, rfl, ho4, hb4⟩
    have s4 := OwnB.sl ho4
    have s3 := s3.below (by omega) hb4
    have h1 := h1.below hb4
    have hqr := hqr.below hb4
    have hbwr := hbwr.trans (hb4.mono hbwr.size)
    clear ho4 hb4 hsP hps
    go_wp2_with fail
    refine (same_is w4 A3 n3 c3 _ A4 n4 c4 _ true (by unfold Hid; simp) s3 s4).mono ?_
    rintro e w' ⟨rfl, rfl⟩
    clear s4
    have k6 := replay_any w4 A3 n3 c3 _ s3 hqr (by omega)
    have K6 := Lib.hid k6
    clear k6
    go_wp2_with fail
    refine K6.out.mono ?_
    rintro e w5 ⟨rs, z, A7, n7, c7, hrt, rfl, s7, hb5⟩
    obtain ⟨hrs, -⟩ := back_all rl (fun l hl => by have := Hlong.out l hl; omega) hrt
    rw [hrs, ← Hrl.out, replay_back ks HFK.out] at s7
    have s7 := s7.mono (q := fun _ => True) fun _ _ _ => trivial
    have hn7 : n7 = n1 := by have h2 := s7.lenR; have := Hl1.out; omega
    subst hn7
    have s3 := s3.below (by omega) hb5
    have h1 := h1.below hb5
    have hqr := hqr.below hb5
    have hbwr := hbwr.trans (hb5.mono hbwr.size)
    clear hrs hrt hb5 K6
    obtain ⟨k, hk, hkl⟩ : ∃ k, at_ % (n3 + 1) = k ∧ k ≤ n3 := ⟨_, rfl, by have := Nat.mod_lt at_ (show 0 < n3 + 1 by omega); omega⟩
    have ecut : (at_ : Int) % ((n3 : Int) + 1) = (k : Int) := by rw [← hk]; simp
    have dn0 : ((n3 : Int) + 1 == 0) = false := by simp; omega
    obtain ⟨r1, s1⟩ := cutH s3 .i64 (k : Int) k rfl hkl
    clear hk
    have k6 := replay_any w5 A3 k c3 _ s1 hqr (by omega)
    have K6 := Lib.hid k6
    clear k6
    go_wp2_with fail
    try rw [ecut]
    refine K6.out.mono ?_
    rintro e w6 ⟨rs2, z2, A8, n8, c8, hrt2, rfl, s8, hb6⟩
    obtain ⟨e1, hr1, hk1, he1, -⟩ := id hrt2
    have s8 := s8.mono (q := fun _ => True) fun _ _ _ => trivial
    have s7 := s7.below hb6
    have s1 := s1.below (by omega) hb6
    have h1 := h1.below hb6
    have hbwr := hbwr.trans (hb6.mono hbwr.size)
    have Hr1 := Lib.hid hr1
    have Hk1 := Lib.hid hk1
    clear hr1 hk1 he1 hrt2 hb6 K6 s3
    have k7 := rreelread_any w6 A3 k c3 _ s1 (by omega)
    have K7 := Lib.hid k7
    clear k7
    go_wp2_with fail
    try rw [ecut]
    refine K7.out.mono ?_
    rintro e w7 ⟨rs3, e3, z3, A9, n9, c9, vs9, hr3, hk3, _, rfl, ho9, hp9, hb7⟩
    obtain ⟨rfl, -⟩ := reads_one hr3 hk3 Hr1.out Hk1.out
    have hn9 : n9 = rs3.length := by have h2 := ho9.len; have h3 := hp9.1; omega
    have hrc := hr3
    rw [← Hrl.out] at hrc
    obtain ⟨hm1, hm2⟩ := replay_cut ks HFK.out k hrc
    rw [hm2] at s8
    have hn8 : n8 = n9 := by have h2 := s8.lenR; rw [List.length_take] at h2; omega
    rw [← hn9, ← hn8] at s8
    have hn8l : n8 ≤ n7 := by have := Hl1.out; omega
    subst hn8
    have s8 := s8.below hb7
    have s7 := s7.below hb7
    have h1 := h1.below hb7
    have hbwr := hbwr.trans (hb7.mono hbwr.size)
    have hcap1 := hcp1.1
    have r3 := fun w => cutHN (A := A1) (n := n7) (c := c1) .i64 (n8 : Int) n8 rfl hn8l hcap1 w
    have dn7 : ((n7 : Int) == (n7 : Int)) = true := by simp
    have dn8 : ((n8 : Int) == (n8 : Int)) = true := by simp
    clear hm1 hm2 hrc hr3 hk3 Hr1 Hk1 hn9 ho9 hp9 hb7 K7 s1 r1 ecut dn0
    have s7d := s7.below (Below.refl w7.heap.size w7).drew
    have s8d := s8.below (Below.refl w7.heap.size w7).drew
    have h1d := h1.below (Below.refl w7.heap.size w7).drew
    have hbwd := hbwr.drew
    go_wp2_with fail
    refine wp_region_any (by kernel_rfl) ?_
    try (change wpAny _ _ _ _ _ _ _ (World.drew _))
    refine wpAny_take (i := 0) (v := ?_) rfl (by kernel_rfl) (by kernel_rfl) (by kernel_rfl) (fun _ _ _ h => h) (Or.inl ⟨by kernel_rfl, ?_⟩) ?_
    case refine_2 => ((intro w; go_simp); try with_reducible rfl)
    refine wpAny_take (i := 2) (v := ?_) rfl (by kernel_rfl) (by kernel_rfl) (by kernel_rfl) (fun _ _ _ h => h) (Or.inl ⟨by kernel_rfl, ?_⟩) ?_
    case refine_2 => ((intro w; go_simp); try with_reducible rfl)
    refine wpAny_ready (rs := [1]) (by kernel_rfl) (by simp) ?_
    refine AllReady.cons rfl (fun K hK => ?_) AllReady.nil
    go_simp
    refine (back_any _ A7 n7 c7 _ s7d (by omega)).mono ?_
    rintro e wa ⟨Aa, na, ca, rfl, hoa, hba⟩
    go_simp
    refine hK _ _ ?_
    clear hK K
    refine wpAny_ready (rs := [3]) (by kernel_rfl) (by simp) ?_
    refine AllReady.cons rfl (fun K hK => ?_) AllReady.nil
    go_simp
    refine (samenotes_is wa _ Aa na ca _ hoa.sl _ A1 n7 c1 (h1d.below hba)).mono ?_
    rintro e wb ⟨rfl, hbb⟩
    go_simp
    refine hK _ _ ?_
    clear hK K
    refine wpAny_take (i := 4) (v := ?_) rfl (by kernel_rfl) (by kernel_rfl) (by kernel_rfl) (fun _ _ _ h => h) (Or.inl ⟨by kernel_rfl, ?_⟩) ?_
    case refine_2 => ((intro w; go_simp); try with_reducible rfl)
    refine wpAny_take (i := 5) (v := ?_) rfl (by kernel_rfl) (by kernel_rfl) (by kernel_rfl) (fun _ _ _ h => h) (Or.inl ⟨by kernel_rfl, ?_⟩) ?_
    case refine_2 => ((intro w; go_simp); try with_reducible rfl)
    refine wpAny_take (i := 6) (v := ?_) rfl (by kernel_rfl) (by kernel_rfl) (by kernel_rfl) (fun _ _ _ h => h) (Or.inl ⟨by kernel_rfl, ?_⟩) ?_
    case refine_2 => ((intro w; go_simp); try with_reducible rfl)
    refine wpAny_take (i := 7) (v := ?_) rfl (by kernel_rfl) (by kernel_rfl) (by kernel_rfl) (fun _ _ _ h => h) (Or.inl ⟨by kernel_rfl, ?_⟩) ?_
    case refine_2 => ((intro w; go_simp); try with_reducible rfl)
    refine wpAny_take (i := 8) (v := ?_) rfl (by kernel_rfl) (by kernel_rfl) (by kernel_rfl) (fun _ _ _ h => h) (Or.inl ⟨by kernel_rfl, ?_⟩) ?_
    case refine_2 => ((intro w; go_simp); try with_reducible rfl)
    refine wpAny_take (i := 9) (v := ?_) rfl (by kernel_rfl) (by kernel_rfl) (by kernel_rfl) (fun _ _ _ h => h) (Or.inl ⟨by kernel_rfl, ?_⟩) ?_
    case refine_2 => ((intro w; go_simp); try with_reducible rfl)
    refine wpAny_take (i := 10) (v := ?_) rfl (by kernel_rfl) (by kernel_rfl) (by kernel_rfl) (fun _ _ _ h => h) (Or.inl ⟨by kernel_rfl, ?_⟩) ?_
    case refine_2 => ((intro w; go_simp); try with_reducible rfl)
    refine wpAny_take (i := 11) (v := ?_) rfl (by kernel_rfl) (by kernel_rfl) (by kernel_rfl) (fun _ _ _ h => h) (Or.inl ⟨by kernel_rfl, ?_⟩) ?_
    case refine_2 => ((intro w; go_simp); try with_reducible rfl)
    refine wpAny_take (i := 13) (v := ?_) rfl (by kernel_rfl) (by kernel_rfl) (by kernel_rfl) (fun _ _ _ h => h) (Or.inl ⟨by kernel_rfl, ?_⟩) ?_
    case refine_2 => ((intro w; go_simp); try with_reducible rfl)
    refine wpAny_take (i := 14) (v := ?_) rfl (by kernel_rfl) (by kernel_rfl) (by kernel_rfl) (fun _ _ _ h => h) (Or.inl ⟨by kernel_rfl, ?_⟩) ?_
    case refine_2 => ((intro w; go_simp); try with_reducible rfl)
    refine wpAny_take (i := 15) (v := ?_) rfl (by kernel_rfl) (by kernel_rfl) (by kernel_rfl) (fun _ _ _ h => h) (Or.inl ⟨by kernel_rfl, ?_⟩) ?_
    case refine_2 => ((intro w; go_simp); try with_reducible rfl)
    refine wpAny_take (i := 16) (v := ?_) rfl (by kernel_rfl) (by kernel_rfl) (by kernel_rfl) (fun _ _ _ h => h) (Or.inl ⟨by kernel_rfl, ?_⟩) ?_
    case refine_2 => ((intro w; go_simp); try with_reducible rfl)
    refine wpAny_ready (rs := [12]) (by kernel_rfl) (by simp) ?_
    refine AllReady.cons rfl (fun K hK => ?_) AllReady.nil
    go_simp
    refine (back_any wb A8 n8 c8 _ ((s8d.below hba).below hbb) (by omega)).mono ?_
    rintro e we ⟨Ae, ne, ce, rfl, hoe, hbe⟩
    go_simp
    refine hK _ _ ?_
    clear hK K
    refine wpAny_ready (rs := [17]) (by kernel_rfl) (by simp) ?_
    refine AllReady.cons rfl (fun K hK => ?_) AllReady.nil
    go_simp
    refine (samenotes_is we _ Ae ne ce _ hoe.sl _ A1 n8 c1 ((((h1d.below hba).below hbb).below hbe).take hn8l)).mono ?_
    rintro e wf ⟨rfl, hbf⟩
    go_simp
    refine hK _ _ ?_
    clear hK K
    refine wpAny_take (i := 18) (v := ?_) rfl (by kernel_rfl) (by kernel_rfl) (by kernel_rfl) (fun _ _ _ h => h) (Or.inl ⟨by kernel_rfl, ?_⟩) ?_
    case refine_2 => ((intro w; go_simp); try with_reducible rfl)
    refine wpAny_take (i := 19) (v := ?_) rfl (by kernel_rfl) (by kernel_rfl) (by kernel_rfl) (fun _ _ _ h => h) (Or.inl ⟨by kernel_rfl, ?_⟩) ?_
    case refine_2 => ((intro w; go_simp); try with_reducible rfl)
    refine wpAny_take (i := 20) (v := ?_) rfl (by kernel_rfl) (by kernel_rfl) (by kernel_rfl) (fun _ _ _ h => h) (Or.inl ⟨by kernel_rfl, ?_⟩) ?_
    case refine_2 => ((intro w; go_simp); try with_reducible rfl)
    refine wpAny_take (i := 21) (v := ?_) rfl (by kernel_rfl) (by kernel_rfl) (by kernel_rfl) (fun _ _ _ h => h) (Or.inl ⟨by kernel_rfl, ?_⟩) ?_
    case refine_2 => ((intro w; go_simp); try with_reducible rfl)
    refine wpAny_take (i := 22) (v := ?_) rfl (by kernel_rfl) (by kernel_rfl) (by kernel_rfl) (fun _ _ _ h => h) (Or.inl ⟨by kernel_rfl, ?_⟩) ?_
    case refine_2 => ((intro w; go_simp); try with_reducible rfl)
    refine wpAny_take (i := 23) (v := ?_) rfl (by kernel_rfl) (by kernel_rfl) (by kernel_rfl) (fun _ _ _ h => h) (Or.inl ⟨by kernel_rfl, ?_⟩) ?_
    case refine_2 => ((intro w; go_simp); try with_reducible rfl)
    refine wpAny_take (i := 24) (v := ?_) rfl (by kernel_rfl) (by kernel_rfl) (by kernel_rfl) (fun _ _ _ h => h) (Or.inl ⟨by kernel_rfl, ?_⟩) ?_
    case refine_2 => ((intro w; go_simp); try with_reducible rfl)
    refine wpAny_take (i := 25) (v := ?_) rfl (by kernel_rfl) (by kernel_rfl) (by kernel_rfl) (fun _ _ _ h => h) (Or.inl ⟨by kernel_rfl, ?_⟩) ?_
    case refine_2 => ((intro w; go_simp); try with_reducible rfl)
    refine wpAny_done (by kernel_rfl) ?_ _
    go_wp2
    go_ret
    have z1 := hbwd.trans (hba.mono hbwd.size)
    have z2 := z1.trans (hbb.mono z1.size)
    have z3 := z2.trans (hbe.mono z2.size)
    exact ⟨rfl, z3.trans (hbf.mono z3.size)⟩
end Go.Proofs.YtpjinmiedanebaaDoor
