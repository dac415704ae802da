/-
  BatchCovers, BatchReadX, ReelLen, ReelTorn, ReplayPlain in one text. No condition but sizes.
-/
import Derived.Test.YtpjinmiedanebaaDoorJFrameN
import Derived.Test.YtpjinmiedanebaaDoorJFrame
import Derived.Test.YtpjinmiedanebaaDoorJFrameR
import Derived.Test.YtpjinmiedanebaaDoorJReelSpoil
import Derived.Test.YtpjinmiedanebaaDoorNoteBytes
namespace Go.Proofs.YtpjinmiedanebaaDoor
open Go.RowKit
set_option maxRecDepth 20000
end Go.Proofs.YtpjinmiedanebaaDoor

namespace Go.Proofs.YtpjinmiedanebaaDoor
open Go.RowKit
set_option maxRecDepth 20000
set_option maxHeartbeats 8000000 in
theorem bread_new (w : World) (A : Option Addr) (n c : Nat) (p : List UInt8) (h : Sl w 1 A n c (bc p)) (hn : n ≤ 1000000) :
    Calls Tryd.prog 43 #[.slice A n c] w (GotOpsN w (readOpsL p)) := by
  have ha := take_any w A n c p h (by omega)
  have hlen1 := takeL_len p
  have hl := h.lenb
  obtain ⟨r, hr⟩ : ∃ r, readOpsL p = r := ⟨_, rfl⟩
  rw [hr]
  unfold readOpsL at hr
  unfold TookB at ha
  obtain ⟨a, hA⟩ : ∃ a, takeL p = a := ⟨_, rfl⟩
  rw [hA] at ha hr hlen1
  obtain ⟨N, p1, e1⟩ := a
  simp only at ha hr hlen1
  have hp1 : p1.length ≤ 1000000 := by omega
  have Ha := Lib.hid ha
  clear ha hA hlen1 hl h hn
  by_cases hc : e1 = 0 ∧ N ≤ 64
  case neg =>
    rw [if_neg hc] at hr
    subst hr
    by_cases h0 : e1 = 0
    · have h64 : 64 < N := by omega
      have t1 : ((e1 : Int) == 0) = true := by rw [beq_iff_eq]; omega
      have t2 : ((e1 : Int) != 0) = false := by rw [bne_eq_false_iff_eq]; omega
      have t3 : decide ((64 : Int) < (N : Int)) = true := decide_eq_true (by omega)
      clear hc h0
      go_enter Tryd.func43, Tryd.ntmps43
      go_wp2_with fail
      refine Ha.out.mono ?_
      rintro e w1 ⟨A1, n1, c1, rfl, ho1, hb1⟩
      go_wp2
      go_ret2
      exact ⟨none, 0, 0, rfl, SlR.nilnil _ _, hb1⟩
    · have t1 : ((e1 : Int) == 0) = false := by rw [beq_eq_false_iff_ne]; omega
      have t2 : ((e1 : Int) != 0) = true := by rw [bne_iff_ne]; omega
      clear hc h0
      go_enter Tryd.func43, Tryd.ntmps43
      go_wp2_with fail
      refine Ha.out.mono ?_
      rintro e w1 ⟨A1, n1, c1, rfl, ho1, hb1⟩
      go_wp2
      go_ret2
      exact ⟨none, 0, 0, rfl, SlR.nilnil _ _, hb1⟩
  rw [if_pos hc] at hr
  obtain ⟨rfl, hN⟩ := hc
  have t3 : decide ((64 : Int) < (N : Int)) = false := decide_eq_false (by omega)
  have Hr := Lib.hid hr
  have Hp1 := Lib.hid hp1
  clear hr hp1
  go_enter Tryd.func43, Tryd.ntmps43
  go_wp2_with fail
  refine Ha.out.mono ?_
  rintro e w1 ⟨A1, n1, c1, rfl, ho1, hb1⟩
  have s1 := ho1.sl
  clear ho1
  go_wp2
  clear t3
  go_loopw [0, 6, 23] (fun p0 s q wr => ∃ j : Nat, j ≤ N ∧ q = .int .u64 j ∧ Below w.heap.size w wr ∧ ∃ A2 n2 c2 outs A3 n3 c3 rest, s = .slice A2 n2 c2 ∧ OwnZ wr w.heap.size 88 A2 n2 c2 outs ∧ outs.length = j ∧ p0 = .slice A3 n3 c3 ∧ Sl wr 1 A3 n3 c3 (bc rest) ∧ rest.length ≤ 1000000 ∧ Hid (readNL 3 64 N p1 = contN outs (readNL 3 64 (N - j) rest))) (fun _ _ q _ => N - (intOf q).toNat)
  case atStart => exact ⟨0, Nat.zero_le _, rfl, hb1, none, 0, 0, [], A1, n1, c1, p1, rfl, OwnZ.nil _ _ _ _, rfl, rfl, s1, Hp1.out, Lib.hid (by rw [contN_nil]; rfl)⟩
  case round =>
    clear s1 hb1
    obtain ⟨j, hj, rfl, hbr, A2, n2, c2, outs, A3, n3, c3, rest, rfl, ho2, hol, rfl, s3, hrl, Hrd⟩ := hrel
    have hn2 := ho2.lenR
    by_cases hlt : j < N
    · have hn3 := s3.lenb
      have cr := read_any wr A3 n3 c3 rest s3 (by omega)
      have hst := readN_step 3 64 (N - (j + 1)) rest
      rw [show N - (j + 1) + 1 = N - j by omega] at hst
      have hrd := Hrd.out
      rw [hst] at hrd
      have hrr := raw_len 64 rest
      unfold GotRaw at cr
      obtain ⟨x, hx⟩ : ∃ x, rawOpL 64 rest = x := ⟨_, rfl⟩
      rw [hx] at cr hrd hrr
      obtain ⟨x, rest'⟩ := x
      simp only at cr hrd hrr
      have hlt2 := ho2.lt
      have cw : ∀ (w : World), GoX w x := fun w A3 n3 c3 A4 n4 c4 q s3 s4 h3 h4 => opRow w q x A3 n3 c3 A4 n4 c4 s3 s4 h3 h4
      unfold GoX at cw
      generalize hd : x.kind.toNat = d at *
      generalize hok : okOpL 3 64 rest = ok at *
      have Cr := Lib.hid cr
      have Cw := Lib.hid cw
      have Hrd2 := Lib.hid hrd
      have Hrr := Lib.hid hrr
      have Hn2 : Hid (n2 ≤ 64) := by unfold Hid; omega
      have Hrl : Hid (rest'.length ≤ 1000000) := by unfold Hid; omega
      clear cr cw hrd hrr hst hx hd hok s3 hn3 hrl hn2
      go_wp2_with fail
      refine Cr.out.mono ?_
      rintro e w4 ⟨A4, n4, c4, A5, n5, c5, A6, n6, c6, rfl, s4, s5, s6, hN4, hN5, hN6, hb4⟩
      have q4 := hbr.trans (hb4.mono hbr.size)
      have ho2 := ho2.below hb4
      have al := (Below.refl w4.heap.size w4).alloc (Nat.le_refl _) (.cells #[.int .u8 (d : Int), .slice A4 n4 c4, .slice A5 n5 c5] 88)
      have kB := Bx.fresh w4 (.int .u8 (d : Int)) (.slice A4 n4 c4) (.slice A5 n5 c5) 88
      have s4 := s4.below (by omega) al
      have s5 := s5.below (by omega) al
      have s6 := s6.below (by omega) al
      have ho2 := ho2.below al
      have q5 := q4.trans (al.mono q4.size)
      clear al hb4
      cases ok
      · have er : r = none := by
          have h1 := Hrd2.out
          have h2 := Hr.out
          rw [if_neg (by simp)] at h1
          rw [h1] at h2
          exact h2.symm
        subst er
        go_wp2
        go_ret2
        exact ⟨none, 0, 0, rfl, SlR.nilnil _ _, q5⟩
      · have hrd := Hrd2.out
        rw [if_pos rfl, contN_cont] at hrd
        have Hrd3 := Lib.hid hrd
        clear hrd
        have z5 : (w4.alloc (.cells #[.int .u8 (d : Int), .slice A4 n4 c4, .slice A5 n5 c5] 88)).heap.size = w4.heap.size + 1 := by simp
        obtain ⟨w5, e5⟩ : ∃ w5, w5 = (w4.alloc (.cells #[.int .u8 (d : Int), .slice A4 n4 c4, .slice A5 n5 c5] 88)) := ⟨_, rfl⟩
        rw [← e5] at s4 s5 s6 ho2 q5 kB z5
        obtain ⟨x0, x1, x2, x3⟩ := id kB
        have hrow := Cw.out w5 A4 n4 c4 A5 n5 c5 (fun b => blk A2 c2 ≠ some b ∧ w.heap.size ≤ b) s4 s5 (fun b hn e => ⟨fun q => by have := hN4 b hn e; have := hlt2 b q; omega, Nat.le_trans hbr.size (hN4 b hn e)⟩) (fun b hn e => ⟨fun q => by have := hN5 b hn e; have := hlt2 b q; omega, Nat.le_trans hbr.size (hN5 b hn e)⟩)
        have al := (Below.refl w5.heap.size w5).alloc (Nat.le_refl _) (.cells #[.int .u8 (d : Int), .slice A4 n4 c4, .slice A5 n5 c5] 88)
        have s6 := s6.below (by omega) al
        have ho2 := ho2.below al
        have q6 := q5.trans (al.mono q5.size)
        rw [z5] at hrow
        clear kB s4 s5 al q5 z5
        subst e5
        go_wp2_with (at_builtin; refine wpList_appZ _ rfl (.tmp 33) (.tmp 35) 39 rfl w.heap.size 88 _ 56 Tryd.underlying39 infoOp rfl A2 n2 c2 outs rfl ho2 _ 1 1 [x] rfl hrow ?_ ?_ ?_ ?_)
        · have := Hn2.out; unfold maxLen; omega
        · have := Hn2.out; omega
        · exact q6.size
        intro A7 c7 w7 ho7 hg7 _
        have s6 := s6.grown (by omega) hg7 (fun hn b e q => by have := hN6 b hn e; have := hlt2 b q; omega)
        have q7 := q6.grown hg7 q6.size (fun b hb => (hlt2 b hb).1)
        go_wp2
        go_roundw
        case rel => exact ⟨j + 1, by omega, by go_num, q7, A7, _, c7, outs ++ [x], A6, n6, c6, rest', rfl, ho7, by simp [hol], rfl, s6, Hrl.out, Hrd3⟩
        case measure => simp [intOf]; omega
    · obtain rfl : j = N := by omega
      have hn3 := s3.lenb
      have hrd : readNL 3 64 j p1 = some (outs, rest) := by
        rw [Hrd.out, Nat.sub_self]
        simp [readNL, contN]
      have hr2 : (if rest.length = 0 ∧ checkOpsL outs = 0 then some outs else none) = r := by
        have h2 := Hr.out
        rw [hrd] at h2
        exact h2
      rw [hn3] at hr2
      have so := ho2.slB
      have ck := checkops_any wr _ A2 n2 c2 outs so
      generalize hq : checkOpsL outs = q at *
      have Hr2 := Lib.hid hr2
      have Ck := Lib.hid ck
      clear hr2 ck hrd hq hlt s3
      by_cases h3 : n3 = 0
      · subst h3
        by_cases hq0 : q = 0
        · subst hq0
          have er : r = some outs := by rw [← Hr2.out, if_pos ⟨rfl, rfl⟩]
          subst er
          go_wp2_with fail
          refine Ck.out.mono ?_
          rintro e w8 ⟨rfl, hb8⟩
          go_wp2
          go_ret2
          exact ⟨A2, n2, c2, rfl, (so.below hb8), hbr.trans (hb8.mono hbr.size)⟩
        · have er : r = none := by rw [← Hr2.out, if_neg (fun h => hq0 h.2)]
          subst er
          have t1 : ((q : Int) == 0) = false := by rw [beq_eq_false_iff_ne]; omega
          have t2 : ((q : Int) != 0) = true := by rw [bne_iff_ne]; omega
          clear hq0
          go_wp2_with fail
          refine Ck.out.mono ?_
          rintro e w8 ⟨rfl, hb8⟩
          go_wp2
          go_ret2
          exact ⟨none, 0, 0, rfl, SlR.nilnil _ _, hbr.trans (hb8.mono hbr.size)⟩
      · have er : r = none := by rw [← Hr2.out, if_neg (fun h => h3 h.1)]
        subst er
        have t1 : decide ((0 : Int) < (n3 : Int)) = true := decide_eq_true (by omega)
        have t2 : 0 < n3 := by omega
        clear h3
        go_wp2
        go_ret2
        exact ⟨none, 0, 0, rfl, SlR.nilnil _ _, hbr⟩
theorem bread_any (w : World) (A : Option Addr) (n c : Nat) (p : List UInt8) (h : Sl w 1 A n c (bc p)) (hn : n ≤ 1000000) :
    Calls Tryd.prog 43 #[.slice A n c] w (GotOps w (readOpsL p)) := (bread_new w A n c p h hn).mono fun _ _ h => h.got
end Go.Proofs.YtpjinmiedanebaaDoor

namespace Go.Proofs.YtpjinmiedanebaaDoor
set_option maxRecDepth 20000
theorem frame_len2 (a : Nat) (b : Bool) (p : List UInt8) : (frameL a b p).length ≤ 2 * p.length + (if a % 64 = 0 then 7 else 20) := by
  have hpad := padN_le a
  have hrm := room_at a
  have hp0 : a % 64 = 0 → padN a = 0 := fun h => by unfold padN; rw [h]; rfl
  by_cases hl : p.length ≤ roomN a
  · rw [frameL_end a b p hl]
    simp only [List.length_append, List.length_replicate, pieceL_length]
    split
    · rename_i h; have := hp0 h; omega
    · omega
  · have ih := frame_len2 (a + padN a + 7 + roomN a) false (p.drop (roomN a))
    rw [frameL_go a b p hl]
    rw [if_pos (by omega), List.length_drop] at ih
    simp only [List.length_append, List.length_replicate, pieceL_length, List.length_take]
    generalize (frameL (a + padN a + 7 + roomN a) false (p.drop (roomN a))).length = F at *
    have e : min (roomN a) p.length = roomN a := by omega
    rw [e]
    split
    · rename_i h; have := hp0 h; omega
    · omega
termination_by 2 * p.length + (if roomN a = 0 then 1 else 0)
decreasing_by
  rw [List.length_drop]
  by_cases h0 : roomN a = 0
  · have := room_next a h0
    rw [h0, this]
    simp
  · rw [if_neg h0]
    split <;> omega
theorem allL_len2 (m : Nat) (ls : List (List UInt8)) (h : ∀ l ∈ ls, l.length ≤ m) : ∀ k, (allL (ls.take k)).length ≤ (2 * m + 20) * k
  | 0 => by simp [allL]
  | k + 1 => by
    have ih := allL_len2 m ls h k
    by_cases hk : k < ls.length
    · rw [allL_step ls k hk, List.length_append]
      have h1 := frame_len2 (allL (ls.take k)).length true ls[k]
      have h2 := h ls[k] (List.getElem_mem hk)
      rw [Nat.mul_add, Nat.mul_one]
      split at h1 <;> omega
    · rw [List.take_of_length_le (by omega)] at ih ⊢
      rw [Nat.mul_add]
      omega
end Go.Proofs.YtpjinmiedanebaaDoor

namespace Go.Proofs.YtpjinmiedanebaaDoor
set_option maxRecDepth 20000
/-- no frame stands where one stood, if what is cut off behind the changed byte is all there is -/
theorem frame_torn {P : List UInt8} {k : Nat} {x : UInt8} (hk : k < P.length) (hx : x ≠ P[k]) (a : Nat) (b : Bool) (p q : List UInt8) (ha : a ≤ k) (hp : frameL a b p <+: P.drop a) (hq : frameL a b q <+: ((P.set k x).take (k + 1)).drop a) (h2 : k < a + (frameL a b p).length) : False := by
  obtain ⟨f1, f2⟩ := frame_piece hp
  obtain ⟨g1, g2⟩ := frame_piece hq
  have hle := g1.le
  simp only [List.length_take, List.length_set] at hle
  have hup : ∀ c, ((P.set k x).take (k + 1)).drop c <+: (P.set k x).drop c := fun c => by rw [List.drop_take]; exact List.take_prefix _ _
  obtain ⟨s1, s2, s3, s4, sp⟩ := g1
  have g1' : PieceAt (P.set k x) (a + padN a) (kindN b (endsAt a q)) (q.take (roomN a)) (a + padN a + 7 + (q.take (roomN a)).length) := ⟨s1, s2, s3, s4, sp.trans (hup _)⟩
  by_cases hin : k < a + padN a + 7 + (p.take (roomN a)).length
  · exact piece_spoilt hk hx f1 g1' (by omega) hin (by omega) (by omega)
  · obtain ⟨r1, r2, r3, r4, t, ht⟩ := f1
    obtain ⟨_, _, _, _, u, hu⟩ := g1'
    rw [drop_set_at P k _ x (by omega), ← ht, List.set_append_right _ _ (by rw [pieceL_length]; omega)] at hu
    obtain ⟨e1, e2, e3⟩ := pieceL_inj (kindN_lt _ _) (kindN_lt _ _) (by have := take_room_lt a q; omega) (by have := take_room_lt a p; omega) hu
    have e4 := kindN_inj e1
    cases he : endsAt a p with
    | true =>
      have hr : p.length ≤ roomN a := by simpa [endsAt] using he
      rw [frameL_end a b p hr] at h2
      rw [List.take_of_length_le hr] at hin
      simp at h2
      omega
    | false =>
      have hr : ¬ p.length ≤ roomN a := by simpa [endsAt] using he
      have hl : (p.take (roomN a)).length = roomN a := by simp; omega
      rw [hl] at hin
      rw [frameL_go a b p hr] at h2
      have h2' : k < a + padN a + 7 + roomN a + (frameL (a + padN a + 7 + roomN a) false (p.drop (roomN a))).length := by simp [hl] at h2; omega
      exact frame_torn hk hx (a + padN a + 7 + roomN a) false (p.drop (roomN a)) (q.drop (roomN a)) (by omega) (f2 he) (g2 (e4.trans he)) h2'
termination_by 2 * p.length + (if roomN a = 0 then 1 else 0)
decreasing_by
  rw [List.length_drop]
  by_cases h0 : roomN a = 0
  · have := room_next a h0
    rw [h0, this]
    simp
  · rw [if_neg h0]
    split <;> omega
/-- A REEL THAT IS CUT OFF BEHIND ITS CHANGED BYTE HAS THE RECORDS AHEAD OF THAT BYTE, AND NO OTHERS -/
theorem torn_all (ls : List (List UInt8)) (hl : ∀ l ∈ ls, l.length ≤ 65536) (k m : Nat) (x : UInt8) (hk : k < (allL ls).length) (hx : x ≠ (allL ls)[k])
    (hm : m < ls.length) (h1 : (allL (ls.take m)).length ≤ k) (h2 : k < (allL (ls.take (m + 1))).length) {rs : List (List UInt8)} {n : Nat} (h : ReadsTo (((allL ls).set k x).take (k + 1)) rs n) : rs = ls.take m := by
  obtain ⟨e, g1, g2, g3, g4⟩ := h
  have hp : allL (ls.take m) <+: ((allL ls).set k x).take (k + 1) := by
    obtain ⟨t, ht⟩ := allL_take_le ls m
    rw [← ht, List.set_append_right _ _ h1, List.take_append, List.take_of_length_le (l := allL (List.take m ls)) (by omega)]
    exact List.prefix_append _ _
  have h5 := reads_all ls hl _ m (by omega) hp
  have e1 := allL_step ls m hm
  have hr3 : frameL (allL (ls.take m)).length true ls[m] <+: (allL ls).drop (allL (ls.take m)).length := by
    obtain ⟨t, ht⟩ := allL_take_le ls (m + 1)
    rw [e1, List.append_assoc] at ht
    rw [← ht, List.drop_left]
    exact List.prefix_append _ _
  have hst : Stuck (((allL ls).set k x).take (k + 1)) (allL (ls.take m)).length := by
    intro r hr
    exact frame_torn hk hx _ true ls[m] r h1 hr3 hr.2 (by rw [e1, List.length_append] at h2; exact h2)
  exact (reads_one g1 g2 h5 hst).1
/-- so whatever the byte is: K is the last place that lies untouched -/
theorem torn_law (ls : List (List UInt8)) (hl : ∀ l ∈ ls, l.length ≤ 65536) (k m : Nat) (by_ : UInt8) (hk : k ≤ (allL ls).length) (hm : m ≤ ls.length)
    (h1 : (allL (ls.take m)).length ≤ if by_ = 0 then k else k - 1) (h2 : m < ls.length → (if by_ = 0 then k else k - 1) < (allL (ls.take (m + 1))).length) {Q : List UInt8}
    (hQ : Q = if h : 0 < k then ((allL ls).set (k - 1) ((allL ls)[k - 1]'(by omega) ^^^ by_)).take k else []) {rs : List (List UInt8)} {n : Nat} (h : ReadsTo Q rs n) : rs = ls.take m := by
  by_cases h0 : by_ = 0
  · subst h0
    rw [if_pos rfl] at h1 h2
    have hQ2 : Q = (allL ls).take k := by
      rw [hQ]
      split
      · simp
      · rename_i hn
        obtain rfl : k = 0 := by omega
        simp
    rw [hQ2] at h
    exact (cut_all ls hl k m hk hm h1 h2 h).1
  · rw [if_neg h0] at h1 h2
    by_cases hk0 : 0 < k
    · rw [dif_pos hk0] at hQ
      have hmm : m < ls.length := by
        refine Nat.lt_of_not_le fun hc => ?_
        rw [List.take_of_length_le hc] at h1
        omega
      obtain ⟨j, rfl⟩ : ∃ j, k = j + 1 := ⟨k - 1, by omega⟩
      simp only [Nat.add_sub_cancel] at h1 h2 hQ
      subst hQ
      refine torn_all ls hl j m _ (by omega) (fun e => h0 ?_) hmm h1 (h2 hmm) h
      have e2 : (allL ls)[j] ^^^ ((allL ls)[j] ^^^ by_) = (allL ls)[j] ^^^ (allL ls)[j] := congrArg (fun z => (allL ls)[j] ^^^ z) e
      rw [← UInt8.xor_assoc, UInt8.xor_self, UInt8.zero_xor] at e2
      exact e2
    · obtain rfl : k = 0 := by omega
      simp at hQ
      subst hQ
      have := cut_all ls hl 0 m (Nat.zero_le _) hm (by simpa using h1) (by simpa using h2) (rs := rs) (n := n) (by simpa using h)
      exact this.1
end Go.Proofs.YtpjinmiedanebaaDoor

namespace Go.Proofs.YtpjinmiedanebaaDoor
set_option maxRecDepth 20000
open Go.RowKit
/-- the entries of records, up to the first one that is none -/
def replayL : List (List UInt8) → List NoteL
  | [] => []
  | r :: t => match readNoteL r with
    | none => []
    | some n => n :: replayL t
theorem replay_append (xs ys : List (List UInt8)) : replayL (xs ++ ys) = if (replayL xs).length = xs.length then replayL xs ++ replayL ys else replayL xs := by
  induction xs with
  | nil => simp [replayL]
  | cons r t ih =>
    rw [List.cons_append, replayL, replayL]
    cases readNoteL r with
    | none => simp
    | some n =>
      simp only [List.length_cons, Nat.add_right_cancel_iff]
      rw [ih]
      split <;> simp
theorem replay_le (xs : List (List UInt8)) : (replayL xs).length ≤ xs.length := by
  induction xs with
  | nil => simp [replayL]
  | cons r t ih =>
    rw [replayL]
    cases readNoteL r with
    | none => simp
    | some n => simp; omega
/-- one more record is an entry -/
theorem replay_next (rs : List (List UInt8)) (j : Nat) (hj : j < rs.length) (h : (replayL (rs.take j)).length = j) (n : NoteL) (hn : readNoteL rs[j] = some n) : replayL (rs.take (j + 1)) = replayL (rs.take j) ++ [n] := by
  rw [List.take_succ_eq_append_getElem hj, replay_append, if_pos (by rw [h, List.length_take]; omega)]
  simp [replayL, hn]
/-- one more record is none -/
theorem replay_stop (rs : List (List UInt8)) (j : Nat) (hj : j < rs.length) (h : (replayL (rs.take j)).length = j) (hn : readNoteL rs[j] = none) : replayL rs = replayL (rs.take j) := by
  conv => lhs; rw [← List.take_append_drop j rs]
  rw [replay_append, if_pos (by rw [h, List.length_take]; omega), List.drop_eq_getElem_cons hj]
  simp [replayL, hn]
/-- WHAT WAS NOTED IS REPLAYED -/
theorem replay_back (ls : List NoteL) (h : ∀ n ∈ ls, formL n = true) : replayL (ls.map noteBytesL) = ls := by
  induction ls with
  | nil => rfl
  | cons n t ih =>
    rw [List.map_cons, replayL, (readNote_iff _ n).2 ⟨h n List.mem_cons_self, rfl⟩]
    simp only
    rw [ih fun m hm => h m (List.mem_cons_of_mem _ hm)]
theorem noteBytes_le (n : NoteL) (h : formL n = true) : (noteBytesL n).length ≤ 45000 := by
  obtain ⟨hc, hs, hn, _, hk⟩ := form_bounds h
  unfold checkOpsL at hc
  split at hc
  · cases hc
  rename_i h64
  have hop : ∀ o ∈ n.ops, (opBytesL o).length ≤ 700 := by
    intro o ho
    have hz : checkOpL o = 0 := (firstErr_zero _ _).1 hc o ho
    have t1 := numL_le o.kind.toNat
    have t2 := numL_le o.key.length
    have t3 := numL_le o.value.length
    unfold checkOpL at hz
    unfold opBytesL textL
    simp only [List.length_append]
    split at hz
    · cases hz
    split at hz
    · cases hz
    split at hz
    · cases hz
    omega
  have hf : (n.ops.map opBytesL).flatten.length ≤ 700 * n.ops.length := by
    have : ∀ l : List OpL, (∀ o ∈ l, (opBytesL o).length ≤ 700) → (l.map opBytesL).flatten.length ≤ 700 * l.length := by
      intro l
      induction l with
      | nil => intro _; simp
      | cons o t ih =>
        intro hl
        have h1 := hl o List.mem_cons_self
        have h2 := ih fun x hx => hl x (List.mem_cons_of_mem _ hx)
        simp only [List.map_cons, List.flatten_cons, List.length_append, List.length_cons]
        omega
    exact this _ hop
  have t1 := numL_le n.kind.toNat
  have t2 := numL_le n.seq.toNat
  have t3 := numL_le n.name.length
  have t4 := numL_le n.ops.length
  unfold noteBytesL textL opsBytesL
  simp only [List.length_append]
  omega
end Go.Proofs.YtpjinmiedanebaaDoor
