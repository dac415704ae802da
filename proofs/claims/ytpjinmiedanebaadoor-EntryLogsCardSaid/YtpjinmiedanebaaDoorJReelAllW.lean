/-
  BatchOver, NoteTurn, ReelAllW in one text. No condition but sizes.
-/
import Derived.Test.YtpjinmiedanebaaDoorJReplayPlain
import Derived.Test.YtpjinmiedanebaaDoorJReelSpoil
import Derived.Test.YtpjinmiedanebaaDoorJOpen
import Derived.Test.YtpjinmiedanebaaDoorReplayW
import Derived.Test.YtpjinmiedanebaaDoorJFrameN
namespace Go.Proofs.YtpjinmiedanebaaDoor
open Go.RowKit
set_option maxRecDepth 20000
def noOp : OpL := ⟨0, [], []⟩
/-- an op that a call gives back, and whether there is one -/
def GotOver (w : World) (r : Option OpL) (e : Ending) (w' : World) : Prop :=
  ∃ A3 n3 c3 A4 n4 c4, e = .returned (.tuple #[.agg #[.int .u8 ((r.getD noOp).kind.toNat : Int), .slice A3 n3 c3, .slice A4 n4 c4], .bool r.isSome]) ∧ Sl w' 1 A3 n3 c3 (bc (r.getD noOp).key) ∧ Sl w' 1 A4 n4 c4 (bc (r.getD noOp).value) ∧ Below w.heap.size w w'
end Go.Proofs.YtpjinmiedanebaaDoor

namespace Go.Proofs.YtpjinmiedanebaaDoor
set_option maxRecDepth 20000
open Go.RowKit
theorem SlR.noteAtP {w : World} {p : Nat → Prop} {A : Option Addr} {n c : Nat} {ls : List NoteL} (h : SlR w p A n c ls) {k : Nat} (hk : k < n) : ∃ (b o : Nat) (A3 : Option Addr) (n3 c3 : Nat) (A4 : Option Addr) (n4 c4 : Nat) (hl : k < ls.length), A = some ⟨b, o, none⟩ ∧
    w.cell? ⟨b, o + k * 4, none⟩ = some (.int .u8 (ls[k].kind.toNat : Int)) ∧ w.cell? ⟨b, o + k * 4 + 1, none⟩ = some (.int .u64 (ls[k].seq.toNat : Int)) ∧ w.cell? ⟨b, o + k * 4 + 2, none⟩ = some (.slice A3 n3 c3) ∧ w.cell? ⟨b, o + k * 4 + 3, none⟩ = some (.slice A4 n4 c4) ∧
    Sl w 1 A3 n3 c3 (bc ls[k].name) ∧ (∀ b, 0 < n3 → A3.map (·.block) = some b → p b) ∧ SlR w p A4 n4 c4 ls[k].ops := by
  obtain ⟨b, o, x, cs, rfl, hx, ⟨v, A4, n4, c4, rfl, hk', hv⟩, hcell⟩ := h.get hk
  obtain ⟨A3, n3, c3, rfl, hs3, h3⟩ := hk'
  obtain ⟨hjl, rfl⟩ := List.getElem?_eq_some_iff.1 hx
  exact ⟨b, o, A3, n3, c3, A4, n4, c4, hjl, rfl, hcell 0 _ rfl, hcell 1 _ rfl, hcell 2 _ rfl, hcell 3 _ rfl, hs3, h3, hv⟩
set_option maxHeartbeats 8000000 in
theorem of_any (w : World) (A : Option Addr) (n c : Nat) (ls : List NoteL) (h : SlR w (fun _ => True) A n c ls) (hn : n ≤ 1000000) :
    Calls Tryd.prog 18 #[.slice A n c] w fun e w' => ∃ A' n' c', e = .returned (.slice A' n' c') ∧ OwnX w' w.heap.size 54 A' n' c' ls ∧ Below w.heap.size w w' := by
  have hcp := h.cap
  unfold maxLen at hcp
  have hl := h.lenR
  have Hl := Lib.hid hl
  clear hl
  go_enter Tryd.func18, Tryd.ntmps18
  go_wp2
  go_loopw [3, 8] (fun s q wr => ∃ j : Nat, j ≤ n ∧ q = .int .i64 j ∧ Below w.heap.size w wr ∧ ∃ A2 n2 c2, s = .slice A2 n2 c2 ∧ OwnX wr w.heap.size 54 A2 n2 c2 (ls.take j)) (fun _ q _ => n - (intOf q).toNat)
  case atStart => exact ⟨0, Nat.zero_le _, rfl, Below.refl _ _, none, 0, 0, rfl, OwnX.nil _ _ _ _⟩
  case round =>
    obtain ⟨j, hj, rfl, hbr, A2, n2, c2, rfl, ho2⟩ := hrel
    by_cases hlt : j < n
    case neg =>
      obtain rfl : n = j := by omega
      rw [List.take_of_length_le (show ls.length ≤ n by have := Hl.out; omega)] at ho2
      have Ho2 := Lib.hid ho2
      clear ho2
      go_wp2
      go_ret
      exact ⟨A2, n2, c2, rfl, Ho2.out, hbr⟩
    have h63 : n2 ≤ 1000000 := by
      have h1 := ho2.lenR
      rw [List.length_take] at h1
      omega
    have hr : SlR wr (fun b => b < w.heap.size) A n c ls := h.move fun b hl _ => ⟨hbr.block b hl, hl⟩
    obtain ⟨b, o, A3, n3, c3, A4, n4, c4, hjl, rfl, d0, d1, d2, d3, hs3, h3, hs4⟩ := hr.noteAtP hlt
    clear hr
    have hst : ls.take (j + 1) = ls.take j ++ [ls[j]] := List.take_succ_eq_append_getElem hjl
    generalize hx : ls[j] = x at *
    have Hst := Lib.hid hst
    have hlt2 := ho2.lt
    have h3 : ∀ b, 0 < n3 → A3.map (·.block) = some b → blk A2 c2 ≠ some b := fun b hn e q => by
      have h1 := h3 b hn e
      have h2 := (hlt2 b q).1
      omega
    have hs4 := hs4.mono (q := fun b => blk A2 c2 ≠ some b) fun b _ hb q => by
      have h2 := (hlt2 b q).1
      omega
    generalize hd : x.kind.toNat = d at *
    generalize hs : x.seq.toNat = s at *
    clear hst hx
    have al := (Below.refl wr.heap.size wr).alloc (Nat.le_refl _) (.cells #[.int .u8 (d : Int), .int .u64 (s : Int), .slice A3 n3 c3, .slice A4 n4 c4] 41)
    have kB := Bx4.fresh wr (.int .u8 (d : Int)) (.int .u64 (s : Int)) (.slice A3 n3 c3) (.slice A4 n4 c4) 41
    generalize hW : (wr.alloc (.cells #[.int .u8 (d : Int), .int .u64 (s : Int), .slice A3 n3 c3, .slice A4 n4 c4] 41)) = w6 at *
    have hrow := noteRowZ w6 x d s hd hs _ A3 n3 c3 A4 n4 c4 (hs3.below (by omega) al) h3 (hs4.below al) 54
    have hbr6 := hbr.trans (al.mono hbr.size)
    have al2 := (Below.refl w6.heap.size w6).alloc (Nat.le_refl _) (.cells #[.int .u8 (d : Int), .int .u64 (s : Int), .slice A3 n3 c3, .slice A4 n4 c4] 54)
    have ho2 := (ho2.below al).below al2
    have hbr7 := hbr6.trans (al2.mono hbr6.size)
    obtain ⟨x0, x1, x2, x3, x4⟩ := id kB
    clear al al2 hs3 hs4 h3 hd hs
    go_wp2_with (at_builtin; (try rw [hW]); refine wpList_appX _ rfl (.tmp 12) (.tmp 14) 26 rfl w.heap.size 54 _ 64 Tryd.underlying26 infoNoteE rfl A2 n2 c2 _ rfl ho2 _ 1 1 [x] rfl hrow ?_ ?_ ?_ ?_)
    · unfold maxLen; omega
    · omega
    · exact hbr7.size
    intro A9 c9 w9 ho9 hg9 _
    have hbr9 := hbr7.grown hg9 hbr7.size (fun b hb => (ho2.lt b hb).1)
    rw [← Hst.out] at ho9
    clear x0 x1 x2 x3 x4 kB hrow ho2 hg9 d0 d1 d2 d3
    go_wp2
    go_roundw
    case rel => exact ⟨j + 1, by omega, by go_num, hbr9, A9, _, c9, rfl, ho9⟩
    case measure => simp [intOf]; omega
set_option maxHeartbeats 8000000 in
theorem back_any (w : World) (A : Option Addr) (n c : Nat) (ls : List NoteL) (h : SlR w (fun _ => True) A n c ls) (hn : n ≤ 1000000) :
    Calls Tryd.prog 12 #[.slice A n c] w fun e w' => ∃ A' n' c', e = .returned (.slice A' n' c') ∧ OwnX w' w.heap.size 41 A' n' c' ls ∧ Below w.heap.size w w' := by
  have hcp := h.cap
  unfold maxLen at hcp
  have hl := h.lenR
  have Hl := Lib.hid hl
  clear hl
  go_enter Tryd.func12, Tryd.ntmps12
  go_wp2
  go_loopw [3, 8] (fun s q wr => ∃ j : Nat, j ≤ n ∧ q = .int .i64 j ∧ Below w.heap.size w wr ∧ ∃ A2 n2 c2, s = .slice A2 n2 c2 ∧ OwnX wr w.heap.size 41 A2 n2 c2 (ls.take j)) (fun _ q _ => n - (intOf q).toNat)
  case atStart => exact ⟨0, Nat.zero_le _, rfl, Below.refl _ _, none, 0, 0, rfl, OwnX.nil _ _ _ _⟩
  case round =>
    obtain ⟨j, hj, rfl, hbr, A2, n2, c2, rfl, ho2⟩ := hrel
    by_cases hlt : j < n
    case neg =>
      obtain rfl : n = j := by omega
      rw [List.take_of_length_le (show ls.length ≤ n by have := Hl.out; omega)] at ho2
      have Ho2 := Lib.hid ho2
      clear ho2
      go_wp2
      go_ret
      exact ⟨A2, n2, c2, rfl, Ho2.out, hbr⟩
    have h63 : n2 ≤ 1000000 := by
      have h1 := ho2.lenR
      rw [List.length_take] at h1
      omega
    have hr : SlR wr (fun b => b < w.heap.size) A n c ls := h.move fun b hl _ => ⟨hbr.block b hl, hl⟩
    obtain ⟨b, o, A3, n3, c3, A4, n4, c4, hjl, rfl, d0, d1, d2, d3, hs3, h3, hs4⟩ := hr.noteAtP hlt
    clear hr
    have hst : ls.take (j + 1) = ls.take j ++ [ls[j]] := List.take_succ_eq_append_getElem hjl
    generalize hx : ls[j] = x at *
    have Hst := Lib.hid hst
    have hlt2 := ho2.lt
    have h3 : ∀ b, 0 < n3 → A3.map (·.block) = some b → blk A2 c2 ≠ some b := fun b hn e q => by
      have h1 := h3 b hn e
      have h2 := (hlt2 b q).1
      omega
    have hs4 := hs4.mono (q := fun b => blk A2 c2 ≠ some b) fun b _ hb q => by
      have h2 := (hlt2 b q).1
      omega
    generalize hd : x.kind.toNat = d at *
    generalize hs : x.seq.toNat = s at *
    clear hst hx
    have al := (Below.refl wr.heap.size wr).alloc (Nat.le_refl _) (.cells #[.int .u8 (d : Int), .int .u64 (s : Int), .slice A3 n3 c3, .slice A4 n4 c4] 54)
    have kB := Bx4.fresh wr (.int .u8 (d : Int)) (.int .u64 (s : Int)) (.slice A3 n3 c3) (.slice A4 n4 c4) 54
    generalize hW : (wr.alloc (.cells #[.int .u8 (d : Int), .int .u64 (s : Int), .slice A3 n3 c3, .slice A4 n4 c4] 54)) = w6 at *
    have hrow := noteRowZ w6 x d s hd hs _ A3 n3 c3 A4 n4 c4 (hs3.below (by omega) al) h3 (hs4.below al) 41
    have hbr6 := hbr.trans (al.mono hbr.size)
    have al2 := (Below.refl w6.heap.size w6).alloc (Nat.le_refl _) (.cells #[.int .u8 (d : Int), .int .u64 (s : Int), .slice A3 n3 c3, .slice A4 n4 c4] 41)
    have ho2 := (ho2.below al).below al2
    have hbr7 := hbr6.trans (al2.mono hbr6.size)
    obtain ⟨x0, x1, x2, x3, x4⟩ := id kB
    clear al al2 hs3 hs4 h3 hd hs
    go_wp2_with (at_builtin; (try rw [hW]); refine wpList_appX _ rfl (.tmp 12) (.tmp 14) 29 rfl w.heap.size 41 _ 64 Tryd.underlying29 infoNote rfl A2 n2 c2 _ rfl ho2 _ 1 1 [x] rfl hrow ?_ ?_ ?_ ?_)
    · unfold maxLen; omega
    · omega
    · exact hbr7.size
    intro A9 c9 w9 ho9 hg9 _
    have hbr9 := hbr7.grown hg9 hbr7.size (fun b hb => (ho2.lt b hb).1)
    rw [← Hst.out] at ho9
    clear x0 x1 x2 x3 x4 kB hrow ho2 hg9 d0 d1 d2 d3
    go_wp2
    go_roundw
    case rel => exact ⟨j + 1, by omega, by go_num, hbr9, A9, _, c9, rfl, ho9⟩
    case measure => simp [intOf]; omega
end Go.Proofs.YtpjinmiedanebaaDoor

namespace Go.Proofs.YtpjinmiedanebaaDoor
set_option maxRecDepth 20000
open Go.RowKit
set_option maxHeartbeats 2000000 in
theorem rall_gen (w : World) (A : Option Addr) (n c : Nat) (vs : List Value) (ls : List (List UInt8)) (h : Sl w 1 A n c vs) (hp : PartsOf w vs ls) (hlong : ∀ l ∈ ls, l.length ≤ 65536) (hall : ∀ k, (allL (ls.take k)).length ≤ 1000000) (hn : n ≤ 1000) :
    Calls Tryd.prog 16 #[.slice A n c] w (NewB w (allL ls)) := by
  have Hl : Hid (ls.length = n) := by have h1 := h.len; have h2 := hp.1; unfold Hid; omega
  have hcap := h.cap
  have hcm := h.capm
  unfold maxLen at hcm
  have Hlong := Lib.hid hlong
  have Hall := Lib.hid hall
  clear hlong hall
  go_enter Tryd.func16, Tryd.ntmps16
  go_wp2
  go_loopw [3, 10] (fun pv q wr => ∃ j : Nat, j ≤ n ∧ q = .int .i64 j ∧ Below w.heap.size w wr ∧ ∃ A2 n2 c2, pv = .slice A2 n2 c2 ∧ OwnB wr w.heap.size A2 n2 c2 (allL (ls.take j))) (fun _ q _ => n - (intOf q).toNat)
  case atStart => exact ⟨0, Nat.zero_le _, rfl, Below.refl _ _, none, 0, 0, rfl, (show allL (ls.take 0) = [] from by simp [allL]) ▸ Own.nil _ _ _ _ _⟩
  case round =>
    obtain ⟨j, hj, rfl, hbr, A2, n2, c2, rfl, ho2⟩ := hrel
    by_cases hlt : j < n
    · obtain ⟨b, o, A', n', c', hkl, rfl, hcell, hsl⟩ := (hp.below hbr).get (h.below (by omega) hbr) hlt
      have hn2 := ho2.len'
      have hal := Hall.out j
      have hn2l : n2 ≤ 1000000 := by omega
      have hkl2 := Hlong.out ls[j] (List.getElem_mem hkl)
      have hn' := hsl.lenb
      have hst := allL_step ls j hkl
      rw [hn2] at hst
      have Hst := Lib.hid hst
      have hn'l : n' ≤ 65536 := by omega
      clear hst hal hn2 hkl2 hn'
      go_wp2_with fail
      refine (rframe_pos wr n2 A' n' c' _ hsl (by omega)).mono ?_
      have hfl := (frameL_length n2 true ls[j]).2
      rw [hsl.lenb] at hfl
      generalize frameL n2 true ls[j] = F at *
      rintro e w3 ⟨A3, n3, c3, rfl, ho3, hb3⟩
      have hn3 := ho3.len'
      have hn3l : n3 ≤ 1000000 := by simp only at hn3; split at hfl <;> omega
      clear hn3 hfl
      have ho2' := Own.below ho2 hb3
      have hb13 := hbr.trans (hb3.mono hbr.size)
      go_wp2_with (at_builtin; refine wpList_appB _ rfl (.tmp 21) (.tmp 22) rfl w.heap.size A2 n2 c2 _ rfl ho2' A3 n3 c3 F rfl (OwnB.sl ho3) ?_ ?_ ?_)
      · omega
      · exact hb13.size
      intro A4 c4 w4 ho4 hg4 _
      have hb4 := hb13.grown hg4 hb13.size (fun b hb => (Own.lt ho2 b hb).1)
      go_wp2
      go_roundw
      case rel => exact ⟨j + 1, by omega, by go_num, hb4, A4, _, c4, rfl, by rw [Hst.out]; exact ho4⟩
      case measure => simp [intOf]; omega
    · obtain rfl : n = j := by omega
      rw [List.take_of_length_le (show ls.length ≤ n by have := Hl.out; omega)] at ho2
      have Ho2 := Lib.hid ho2
      clear ho2
      go_wp2
      go_ret
      exact ⟨A2, _, c2, rfl, Ho2.out, hbr⟩
end Go.Proofs.YtpjinmiedanebaaDoor
