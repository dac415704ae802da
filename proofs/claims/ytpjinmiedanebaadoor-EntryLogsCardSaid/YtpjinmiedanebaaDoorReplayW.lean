/-
  What entry.Replay and the reference's Replay give: the entries of the reel's records, up to the first one that is none. The table lies in its variable; else no condition but sizes. (Printed by genreplay.py.)
-/
import Derived.Test.YtpjinmiedanebaaDoorReelRReadW
import Derived.Test.YtpjinmiedanebaaDoorNoteRead
import Derived.Test.YtpjinmiedanebaaDoorNoteFew
import Derived.Test.YtpjinmiedanebaaDoorJFrame
import Derived.Test.YtpjinmiedanebaaDoorJReplayPlain
namespace Go.Proofs.YtpjinmiedanebaaDoor
set_option maxRecDepth 20000
open Go.RowKit
theorem infoNoteE : (Tryd.prog.info? 54).map (fun i => (i.zero, i.size, i.bytes)) = some (some (.agg #[.int .u8 0, .int .u64 0, .slice none 0 0, .slice none 0 0]), 4, 64) := by kernel_rfl
theorem noteRowZ (w : World) (x : NoteL) (k s : Nat) (hk : x.kind.toNat = k) (hs : x.seq.toNat = s) (p : Nat → Prop) (A3 : Option Addr) (n3 c3 : Nat) (A4 : Option Addr) (n4 c4 : Nat) (s3 : Sl w 1 A3 n3 c3 (bc x.name)) (h3 : ∀ b, 0 < n3 → A3.map (·.block) = some b → p b) (s4 : SlR w p A4 n4 c4 x.ops) (e : TypeId) :
    ∃ xs, Sl (w.alloc (.cells #[.int .u8 (k : Int), .int .u64 (s : Int), .slice A3 n3 c3, .slice A4 n4 c4] e)) 4 (some ⟨w.heap.size, 0, none⟩) 1 1 xs ∧ RowC (w.alloc (.cells #[.int .u8 (k : Int), .int .u64 (s : Int), .slice A3 n3 c3, .slice A4 n4 c4] e)) p xs [x] := by
  subst hk hs
  have al := (Below.refl w.heap.size w).alloc (Nat.le_refl _) (.cells #[.int .u8 (x.kind.toNat : Int), .int .u64 (x.seq.toNat : Int), .slice A3 n3 c3, .slice A4 n4 c4] e)
  exact ⟨_, ⟨rfl, Nat.le_refl _, by unfold maxLen; omega, fun _ => ⟨w.heap.size, 0, rfl, fun j u hu => by rw [cell_of_row _ _ _ _ _ _ (heap_alloc_new w _)]; simpa [u8v, u64v] using hu⟩⟩, RowC.single ⟨_, A4, n4, c4, rfl, ⟨A3, n3, c3, rfl, s3.below (by omega) al, h3⟩, s4.below al⟩⟩
theorem reads_len {P : List UInt8} {a e : Nat} {rs : List (List UInt8)} (h : Reads P a rs e) : (∀ r ∈ rs, r.length ≤ 65536) ∧ rs.length + a ≤ e := by
  induction h with
  | nil a => exact ⟨fun r hr => by simp at hr, by simp⟩
  | cons a r rs e h0 _ ih =>
    refine ⟨fun x hx => ?_, ?_⟩
    · rcases List.mem_cons.1 hx with rfl | hx
      · exact h0.1
      · exact ih.1 x hx
    · have := frameL_pos a true r
      have := ih.2
      simp
      omega
/-- entries that a call gives back -/
def NewNotes (w : World) (A : Option Addr) (n c : Nat) (ls : List NoteL) (w' : World) : Prop := SlR w' (fun b => w.heap.size ≤ b) A n c ls ∧ Below w.heap.size w w'
def GotReplay (w : World) (P : List UInt8) (e : Ending) (w' : World) : Prop := ∃ rs z A' n' c', ReadsTo P rs z ∧ e = .returned (.tuple #[.slice A' n' c', .int .i64 ((n' : Nat) : Int)]) ∧ NewNotes w A' n' c' (replayL rs) w'
def GotRReplay (w : World) (P : List UInt8) (e : Ending) (w' : World) : Prop := ∃ rs e0 A' n' c', Reads P 0 rs e0 ∧ Stuck P e0 ∧ e = .returned (.slice A' n' c') ∧ NewNotes w A' n' c' (replayL rs) w'
set_option maxHeartbeats 8000000 in
theorem replay_any (w : World) (A : Option Addr) (n c : Nat) (P : List UInt8) (h : Sl w 1 A n c (bc P)) (hq : Quarter w) (hn : n ≤ 1000000) :
    Calls Tryd.prog 9 #[.slice A n c] w (GotReplay w P) := by
  go_enter Tryd.func9, Tryd.ntmps9
  go_wp2_with fail
  refine (read_at w A n c P h hq hn).mono ?_
  rintro e w1 ⟨rs, z, A1, n1, c1, vs, hrt, rfl, hoP, hpP, hb1⟩
  have hrl : (∀ r ∈ rs, r.length ≤ 65536) ∧ rs.length + 0 ≤ n := by
    obtain ⟨e1, g1, _, g2, _⟩ := id hrt
    have h1 := reads_len g1
    have := h.lenb
    exact ⟨h1.1, by omega⟩
  have hs1 : Sl w1 1 A1 n1 c1 vs := Own.sl hoP
  have hpt := hpP.parts
  have Hl : Hid (rs.length = n1) := by have h1 := hs1.len; have h2 := hpt.1; unfold Hid; omega
  have hn1 : n1 ≤ 1000000 := by have := Hl.out; omega
  have Hrl := Lib.hid hrl.1
  clear hrl hoP hpP
  go_wp2
  go_loopw [6, 18] (fun o q wr => ∃ (j : Nat) (A2 : Option Addr) (n2 c2 : Nat), j ≤ n1 ∧ q = .int .i64 j ∧ o = .slice A2 n2 c2 ∧ Below w1.heap.size w1 wr ∧ OwnZ wr w1.heap.size 54 A2 n2 c2 (replayL (rs.take j)) ∧ Hid ((replayL (rs.take j)).length = j)) (fun _ q _ => n1 - (intOf q).toNat)
  case atStart => exact ⟨0, none, 0, 0, Nat.zero_le _, rfl, rfl, Below.refl _ _, OwnZ.nil _ _ _ _, rfl⟩
  case round =>
    obtain ⟨j, A2, n2, c2, hj, rfl, rfl, hbr, ho2, HL⟩ := hrel
    have hn2 : n2 ≤ n1 := by have h1 := ho2.lenR; have h2 := HL.out; omega
    by_cases hlt : j < n1
    case neg =>
      obtain rfl : n1 = j := by omega
      rw [List.take_of_length_le (show rs.length ≤ n1 by have := Hl.out; omega)] at ho2
      have hb9 := hb1.trans (hbr.mono hb1.size)
      have hsz := hb1.size
      have s2 := ho2.slB.mono (q := fun b => w.heap.size ≤ b) fun b _ hb => by omega
      clear ho2 HL
      go_wp2
      go_ret2
      exact ⟨rs, z, A2, _, c2, hrt, rfl, s2, hb9⟩
    obtain ⟨b, o, A4, n4, c4, hkl, rfl, hcell, hsl⟩ := (hpt.below hbr).get (hs1.below (by omega) hbr) hlt
    have h4 := hsl.lenb
    have h4l := Hrl.out rs[j] (List.getElem_mem hkl)
    have hcn := nread_any wr A4 n4 c4 rs[j] hsl (by omega)
    have hnx := fun x => replay_next rs j hkl HL.out x
    have hsp := replay_stop rs j hkl HL.out
    have hj' : n2 ≤ 1000000 := by omega
    unfold GotNote at hcn
    clear h4 h4l hsl
    generalize readNoteL rs[j] = R at *
    cases R with
    | none =>
      have hcn : Hid _ := Lib.hid hcn
      have Hsp := Lib.hid (hsp rfl)
      clear hnx hsp
      go_wp2_with fail
      refine hcn.out.mono ?_
      rintro e w5 ⟨A5, n5, c5, A6, n6, c6, rfl, s5, hN, s6, hb5⟩
      have hbr5 := hbr.trans (hb5.mono hbr.size)
      have hb9 := hb1.trans (hbr5.mono hb1.size)
      have hsz := hb1.size
      have al := (Below.refl w5.heap.size w5).alloc (Nat.le_refl _) (.cells #[.int .u8 0, .int .u64 0, .slice A5 n5 c5, .slice A6 n6 c6] 54)
      have s2 := ((ho2.below hb5).below al).slB.mono (q := fun b => w.heap.size ≤ b) fun b _ hb => by omega
      have hb9 := hb9.trans (al.mono hb9.size)
      clear ho2 HL s5 s6 hN hcn
      simp only [Option.isSome_none, Option.getD_none]
      go_wp2
      go_ret2
      exact ⟨rs, z, A2, _, c2, hrt, rfl, by rw [Hsp.out]; exact s2, hb9⟩
    | some x =>
      have hcn : Hid _ := Lib.hid hcn
      have Hnx := Lib.hid (hnx x rfl)
      clear hnx hsp
      go_wp2_with fail
      refine hcn.out.mono ?_
      simp only [Option.isSome_some, Option.getD_some, if_true]
      rintro e w5 ⟨A5, n5, c5, A6, n6, c6, rfl, s5, hN, s6, hb5⟩
      have hbr5 := hbr.trans (hb5.mono hbr.size)
      have hlt2 := ho2.lt
      have hzr := hbr.size
      have s6 := s6.mono (q := fun b => blk A2 c2 ≠ some b ∧ w1.heap.size ≤ b) fun b _ hb => ⟨fun e => by have := (hlt2 b e).2; omega, by omega⟩
      have h5 : ∀ b, 0 < n5 → A5.map (·.block) = some b → blk A2 c2 ≠ some b ∧ w1.heap.size ≤ b := fun b hn e => by
        have := hN b hn e
        exact ⟨fun e => by have := (hlt2 b e).2; omega, by omega⟩
      generalize hkd : x.kind.toNat = kd at *
      generalize hsq : x.seq.toNat = sq at *
      have al := (Below.refl w5.heap.size w5).alloc (Nat.le_refl _) (.cells #[.int .u8 (kd : Int), .int .u64 (sq : Int), .slice A5 n5 c5, .slice A6 n6 c6] 54)
      have kE := Bx4.fresh w5 (.int .u8 (kd : Int)) (.int .u64 (sq : Int)) (.slice A5 n5 c5) (.slice A6 n6 c6) 54
      generalize hW : (w5.alloc (.cells #[.int .u8 (kd : Int), .int .u64 (sq : Int), .slice A5 n5 c5, .slice A6 n6 c6] 54)) = w6 at *
      have hrow := noteRowZ w6 x kd sq hkd hsq _ A5 n5 c5 A6 n6 c6 (s5.below (by omega) al) h5 (s6.below al) 54
      have hbr6 := hbr5.trans (al.mono hbr5.size)
      have al2 := (Below.refl w6.heap.size w6).alloc (Nat.le_refl _) (.cells #[.int .u8 (kd : Int), .int .u64 (sq : Int), .slice A5 n5 c5, .slice A6 n6 c6] 54)
      have ho2 := ((ho2.below hb5).below al).below al2
      have hbr7 := hbr6.trans (al2.mono hbr6.size)
      obtain ⟨x0, x1, x2, x3, x4⟩ := id kE
      clear al al2 s5 s6 hN h5 hb5 hcn hkd hsq
      go_wp2_with (at_builtin; (try rw [hW]); refine wpList_appZ _ rfl (.tmp 29) (.tmp 31) 26 rfl w1.heap.size 54 _ 64 Tryd.underlying26 infoNoteE rfl A2 n2 c2 _ rfl ho2 _ 1 1 [x] rfl hrow ?_ ?_ ?_ ?_)
      · unfold maxLen; omega
      · omega
      · exact hbr7.size
      intro A9 c9 w9 ho9 hg9 _
      have hbr9 := hbr7.grown hg9 hbr7.size (fun b hb => (ho2.lt b hb).1)
      rw [← Hnx.out] at ho9
      have ho9 := ho9
      have HL9 : Hid ((replayL (rs.take (j + 1))).length = j + 1) := by have h1 := HL.out; have h2 := Hnx.out; unfold Hid; rw [h2, List.length_append, h1]; rfl
      clear x0 x1 x2 x3 x4 kE hrow ho2 HL hg9
      go_wp2
      go_roundw
      case rel => exact ⟨j + 1, A9, _, c9, by omega, by go_num, rfl, hbr9, ho9, HL9⟩
      case measure => simp [intOf]; omega
set_option maxHeartbeats 8000000 in
theorem rreplay_any (w : World) (A : Option Addr) (n c : Nat) (P : List UInt8) (h : Sl w 1 A n c (bc P)) (hn : n ≤ 1000000) :
    Calls Tryd.prog 10 #[.slice A n c] w (GotRReplay w P) := by
  go_enter Tryd.func10, Tryd.ntmps10
  go_wp2_with fail
  refine (rreelread_any w A n c P h hn).mono ?_
  rintro e w1 ⟨rs, e0, z, A1, n1, c1, vs, hrd, hst, he0, rfl, hoP, hpP, hb1⟩
  have hrl : (∀ r ∈ rs, r.length ≤ 65536) ∧ rs.length + 0 ≤ n := by
    have h1 := reads_len hrd
    have := h.lenb
    exact ⟨h1.1, by omega⟩
  have hs1 : Sl w1 1 A1 n1 c1 vs := Own.sl hoP
  have hpt := hpP.parts
  have Hl : Hid (rs.length = n1) := by have h1 := hs1.len; have h2 := hpt.1; unfold Hid; omega
  have hn1 : n1 ≤ 1000000 := by have := Hl.out; omega
  have Hrl := Lib.hid hrl.1
  clear hrl hoP hpP
  go_wp2
  go_loopw [5, 17] (fun o q wr => ∃ (j : Nat) (A2 : Option Addr) (n2 c2 : Nat), j ≤ n1 ∧ q = .int .i64 j ∧ o = .slice A2 n2 c2 ∧ Below w1.heap.size w1 wr ∧ OwnZ wr w1.heap.size 41 A2 n2 c2 (replayL (rs.take j)) ∧ Hid ((replayL (rs.take j)).length = j)) (fun _ q _ => n1 - (intOf q).toNat)
  case atStart => exact ⟨0, none, 0, 0, Nat.zero_le _, rfl, rfl, Below.refl _ _, OwnZ.nil _ _ _ _, rfl⟩
  case round =>
    obtain ⟨j, A2, n2, c2, hj, rfl, rfl, hbr, ho2, HL⟩ := hrel
    have hn2 : n2 ≤ n1 := by have h1 := ho2.lenR; have h2 := HL.out; omega
    by_cases hlt : j < n1
    case neg =>
      obtain rfl : n1 = j := by omega
      rw [List.take_of_length_le (show rs.length ≤ n1 by have := Hl.out; omega)] at ho2
      have hb9 := hb1.trans (hbr.mono hb1.size)
      have hsz := hb1.size
      have s2 := ho2.slB.mono (q := fun b => w.heap.size ≤ b) fun b _ hb => by omega
      clear ho2 HL
      go_wp2
      go_ret
      exact ⟨rs, e0, A2, _, c2, hrd, hst, rfl, s2, hb9⟩
    obtain ⟨b, o, A4, n4, c4, hkl, rfl, hcell, hsl⟩ := (hpt.below hbr).get (hs1.below (by omega) hbr) hlt
    have h4 := hsl.lenb
    have h4l := Hrl.out rs[j] (List.getElem_mem hkl)
    have hcn := rnread_any wr A4 n4 c4 rs[j] hsl (by omega)
    have hnx := fun x => replay_next rs j hkl HL.out x
    have hsp := replay_stop rs j hkl HL.out
    have hj' : n2 ≤ 1000000 := by omega
    unfold GotNote at hcn
    clear h4 h4l hsl
    generalize readNoteL rs[j] = R at *
    cases R with
    | none =>
      have hcn : Hid _ := Lib.hid hcn
      have Hsp := Lib.hid (hsp rfl)
      clear hnx hsp
      go_wp2_with fail
      refine hcn.out.mono ?_
      rintro e w5 ⟨A5, n5, c5, A6, n6, c6, rfl, s5, hN, s6, hb5⟩
      have hbr5 := hbr.trans (hb5.mono hbr.size)
      have hb9 := hb1.trans (hbr5.mono hb1.size)
      have hsz := hb1.size
      have al := (Below.refl w5.heap.size w5).alloc (Nat.le_refl _) (.cells #[.int .u8 0, .int .u64 0, .slice A5 n5 c5, .slice A6 n6 c6] 41)
      have s2 := ((ho2.below hb5).below al).slB.mono (q := fun b => w.heap.size ≤ b) fun b _ hb => by omega
      have hb9 := hb9.trans (al.mono hb9.size)
      clear ho2 HL s5 s6 hN hcn
      simp only [Option.isSome_none, Option.getD_none]
      go_wp2
      go_ret
      exact ⟨rs, e0, A2, _, c2, hrd, hst, rfl, by rw [Hsp.out]; exact s2, hb9⟩
    | some x =>
      have hcn : Hid _ := Lib.hid hcn
      have Hnx := Lib.hid (hnx x rfl)
      clear hnx hsp
      go_wp2_with fail
      refine hcn.out.mono ?_
      simp only [Option.isSome_some, Option.getD_some, if_true]
      rintro e w5 ⟨A5, n5, c5, A6, n6, c6, rfl, s5, hN, s6, hb5⟩
      have hbr5 := hbr.trans (hb5.mono hbr.size)
      have hlt2 := ho2.lt
      have hzr := hbr.size
      have s6 := s6.mono (q := fun b => blk A2 c2 ≠ some b ∧ w1.heap.size ≤ b) fun b _ hb => ⟨fun e => by have := (hlt2 b e).2; omega, by omega⟩
      have h5 : ∀ b, 0 < n5 → A5.map (·.block) = some b → blk A2 c2 ≠ some b ∧ w1.heap.size ≤ b := fun b hn e => by
        have := hN b hn e
        exact ⟨fun e => by have := (hlt2 b e).2; omega, by omega⟩
      generalize hkd : x.kind.toNat = kd at *
      generalize hsq : x.seq.toNat = sq at *
      have al := (Below.refl w5.heap.size w5).alloc (Nat.le_refl _) (.cells #[.int .u8 (kd : Int), .int .u64 (sq : Int), .slice A5 n5 c5, .slice A6 n6 c6] 41)
      have kE := Bx4.fresh w5 (.int .u8 (kd : Int)) (.int .u64 (sq : Int)) (.slice A5 n5 c5) (.slice A6 n6 c6) 41
      generalize hW : (w5.alloc (.cells #[.int .u8 (kd : Int), .int .u64 (sq : Int), .slice A5 n5 c5, .slice A6 n6 c6] 41)) = w6 at *
      have hrow := noteRowZ w6 x kd sq hkd hsq _ A5 n5 c5 A6 n6 c6 (s5.below (by omega) al) h5 (s6.below al) 41
      have hbr6 := hbr5.trans (al.mono hbr5.size)
      have al2 := (Below.refl w6.heap.size w6).alloc (Nat.le_refl _) (.cells #[.int .u8 (kd : Int), .int .u64 (sq : Int), .slice A5 n5 c5, .slice A6 n6 c6] 41)
      have ho2 := ((ho2.below hb5).below al).below al2
      have hbr7 := hbr6.trans (al2.mono hbr6.size)
      obtain ⟨x0, x1, x2, x3, x4⟩ := id kE
      clear al al2 s5 s6 hN h5 hb5 hcn hkd hsq
      go_wp2_with (at_builtin; (try rw [hW]); refine wpList_appZ _ rfl (.tmp 29) (.tmp 31) 29 rfl w1.heap.size 41 _ 64 Tryd.underlying29 infoNote rfl A2 n2 c2 _ rfl ho2 _ 1 1 [x] rfl hrow ?_ ?_ ?_ ?_)
      · unfold maxLen; omega
      · omega
      · exact hbr7.size
      intro A9 c9 w9 ho9 hg9 _
      have hbr9 := hbr7.grown hg9 hbr7.size (fun b hb => (ho2.lt b hb).1)
      rw [← Hnx.out] at ho9
      have ho9 := ho9
      have HL9 : Hid ((replayL (rs.take (j + 1))).length = j + 1) := by have h1 := HL.out; have h2 := Hnx.out; unfold Hid; rw [h2, List.length_append, h1]; rfl
      clear x0 x1 x2 x3 x4 kE hrow ho2 HL hg9
      go_wp2
      go_roundw
      case rel => exact ⟨j + 1, A9, _, c9, by omega, by go_num, rfl, hbr9, ho9, HL9⟩
      case measure => simp [intOf]; omega
end Go.Proofs.YtpjinmiedanebaaDoor
