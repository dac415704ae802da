/-
  KeyRef, KeyMake in one text. No condition but sizes.
-/
import Derived.Test.YtpffieogkfndaaaDoorKeyWalk
import Derived.Test.YtpffieogkfndaaaDoorJRowsY
import Derived.Lib.SlBytesConst
import Derived.Laws.IdiomStrings
namespace Go.Proofs.YtpffieogkfndaaaDoor
open Go.RowKit
set_option maxRecDepth 20000
set_option linter.unusedVariables false
set_option linter.unusedSimpArgs false

theorem beq_cast (a b : Nat) : ((a : Int) == (b : Int)) = (a == b) := by
  rw [Bool.eq_iff_iff, beq_iff_eq, beq_iff_eq]
  omega
theorem bytesLess_eq : ∀ l m : List UInt8, Op.bytesLess l m = ltL l m
  | [], [] => rfl
  | [], _ :: _ => rfl
  | _ :: _, [] => rfl
  | a :: l, b :: m => by
    have ih := bytesLess_eq l m
    rw [Bool.eq_iff_iff] at ih ⊢
    unfold ltL at *
    rw [decide_eq_true_eq] at ih ⊢
    simp only [Op.bytesLess, Lib.compareBytes, Bool.or_eq_true, decide_eq_true_eq, Bool.and_eq_true, beq_iff_eq]
    by_cases h1 : a < b
    · simp [h1]
    · rw [if_neg h1]
      by_cases h2 : b < a
      · rw [if_pos h2]
        have : a ≠ b := fun e => by subst e; exact absurd h2 (by simp)
        simp [h1, this]
      · rw [if_neg h2]
        have : a = b := UInt8.toNat_inj.1 (by rw [UInt8.lt_iff_toNat_lt] at h1 h2; omega)
        subst this
        simp [ih]
set_option maxHeartbeats 400000 in
theorem rless_any (w : World) (A1 : Option Addr) (n1 c1 : Nat) (l1 : List UInt8) (h1 : Sl w 1 A1 n1 c1 (bc l1)) (A2 : Option Addr) (n2 c2 : Nat) (l2 : List UInt8) (h2 : Sl w 1 A2 n2 c2 (bc l2)) :
    Calls Tryd.prog 48 #[.slice A1 n1 c1, .slice A2 n2 c2] w fun e w' => e = .returned (.bool (ltL l1 l2)) ∧ w = w' := by
  obtain ⟨s1, e1, r1⟩ := run_conv w A1 n1 c1 l1 h1
  obtain ⟨s2, e2, r2⟩ := run_conv w A2 n2 c2 l2 h2
  have E1 := Lib.hid e1
  have E2 := Lib.hid e2
  clear e1 e2 h1 h2
  go_enter Tryd.func48, Tryd.ntmps48
  go_wp2
  go_ret
  refine ⟨ret_bool ?_, rfl⟩
  rw [E1.out, E2.out, bytesLess_eq]
theorem rless_is (w : World) (A1 : Option Addr) (n1 c1 : Nat) (l1 : List UInt8) (h1 : Sl w 1 A1 n1 c1 (bc l1)) (A2 : Option Addr) (n2 c2 : Nat) (l2 : List UInt8) (h2 : Sl w 1 A2 n2 c2 (bc l2)) (b : Bool) (hb : Hid (ltL l1 l2 = b)) :
    Calls Tryd.prog 48 #[.slice A1 n1 c1, .slice A2 n2 c2] w fun e w' => e = .returned (.bool b) ∧ w = w' := by
  rw [← hb.out]
  exact rless_any w A1 n1 c1 l1 h1 A2 n2 c2 l2 h2
set_option maxHeartbeats 4000000 in
theorem klt_any (w : World) (A : Option Addr) (n c : Nat) (k : KeyL) (h : Sl w 1 A n c (bc k.user)) (A2 : Option Addr) (n2 c2 : Nat) (k2 : KeyL) (h2 : Sl w 1 A2 n2 c2 (bc k2.user)) :
    Calls Tryd.prog 19 #[.agg #[.slice A n c, .int .u64 (k.seq.toNat : Int), .int .u8 (k.kind.toNat : Int)], .agg #[.slice A2 n2 c2, .int .u64 (k2.seq.toNat : Int), .int .u8 (k2.kind.toNat : Int)]] w
      fun e w' => e = .returned (.bool (lessKey k k2)) ∧ Below w.heap.size w w' := by
  obtain ⟨r, hr⟩ : ∃ r, lessKey k k2 = r := ⟨_, rfl⟩
  rw [hr]
  unfold lessKey at hr
  rw [show (k.seq == k2.seq) = (k.seq.toNat == k2.seq.toNat) by rw [Bool.eq_iff_iff]; simp [← UInt64.toNat_inj]] at hr
  have c1 := fun (w' : World) (b : Bool) (hh : Hid ((k.user == k2.user) = b)) (hb : Below w.heap.size w w') => same_is w' A n c k.user A2 n2 c2 k2.user b hh (h.below (by omega) hb) (h2.below (by omega) hb)
  have c2 := fun (w' : World) (b : Bool) (hh : Hid (ltL k.user k2.user = b)) (hb : Below w.heap.size w w') => rless_is w' A n c k.user (h.below (by omega) hb) A2 n2 c2 k2.user (h2.below (by omega) hb) b hh
  obtain ⟨x, hx⟩ : ∃ x, (k.user == k2.user) = x := ⟨_, rfl⟩
  obtain ⟨y, hy⟩ : ∃ y, ltL k.user k2.user = y := ⟨_, rfl⟩
  rw [hx, hy] at hr
  have Hx := Lib.hid hx
  have Hy := Lib.hid hy
  generalize k.seq.toNat = s at *
  generalize k.kind.toNat = d at *
  generalize k2.seq.toNat = s2 at *
  generalize k2.kind.toNat = d2 at *
  have C1 := Lib.hid c1
  have C2 := Lib.hid c2
  have Hr := Lib.hid hr
  clear c1 c2 h h2 hx hy hr
  have hbb : Below w.heap.size w ((w.alloc (.cells #[.slice A n c, .int .u64 (s : Int), .int .u8 (d : Int)] 43)).alloc (.cells #[.slice A2 n2 c2, .int .u64 (s2 : Int), .int .u8 (d2 : Int)] 43)) :=
    (((Below.refl _ _).alloc (Nat.le_refl _) _).alloc (by simp) _)
  go_enter Tryd.func19, Tryd.ntmps19
  go_wp2_with fail
  refine (C1.out _ x Hx hbb).mono ?_
  rintro e w' ⟨rfl, rfl⟩
  cases x
  · go_wp2_with fail
    refine (C2.out _ y Hy hbb).mono ?_
    rintro e w' ⟨rfl, rfl⟩
    go_wp2
    go_ret
    refine ⟨ret_bool ?_, hbb⟩
    rw [← Hr.out]
    rfl
  · obtain ⟨b1, t1⟩ : ∃ b, ((s : Int) == (s2 : Int)) = b := ⟨_, rfl⟩
    have T1 := Lib.hid t1
    cases b1
    all_goals
      go_wp2
      go_ret
      refine ⟨ret_bool ?_, hbb⟩
      rw [← Hr.out]
      have q1 := T1.out
      rw [← beq_cast s s2, q1]
      first | rfl | (simp only [Bool.not_true, Bool.not_false, Bool.false_eq_true, if_false, if_true]; rw [decide_eq_decide]; omega)
set_option maxHeartbeats 4000000 in
theorem keq_any (w : World) (A : Option Addr) (n c : Nat) (k : KeyL) (h : Sl w 1 A n c (bc k.user)) (A2 : Option Addr) (n2 c2 : Nat) (k2 : KeyL) (h2 : Sl w 1 A2 n2 c2 (bc k2.user)) :
    Calls Tryd.prog 20 #[.agg #[.slice A n c, .int .u64 (k.seq.toNat : Int), .int .u8 (k.kind.toNat : Int)], .agg #[.slice A2 n2 c2, .int .u64 (k2.seq.toNat : Int), .int .u8 (k2.kind.toNat : Int)]] w
      fun e w' => e = .returned (.bool (k == k2)) ∧ Below w.heap.size w w' := by
  obtain ⟨r, hr⟩ : ∃ r, (k == k2) = r := ⟨_, rfl⟩
  rw [hr]
  have hr2 : (k == k2) = ((k.user == k2.user) && (k.seq.toNat == k2.seq.toNat) && (k.kind.toNat == k2.kind.toNat)) := by
    rw [Bool.eq_iff_iff]
    cases k
    cases k2
    simp [← UInt64.toNat_inj, ← UInt8.toNat_inj, and_assoc]
  rw [hr2] at hr
  clear hr2
  have c1 := fun (w' : World) (b : Bool) (hh : Hid ((k.user == k2.user) = b)) (hb : Below w.heap.size w w') => same_is w' A n c k.user A2 n2 c2 k2.user b hh (h.below (by omega) hb) (h2.below (by omega) hb)
  obtain ⟨x, hx⟩ : ∃ x, (k.user == k2.user) = x := ⟨_, rfl⟩
  rw [hx] at hr
  have Hx := Lib.hid hx
  generalize k.seq.toNat = s at *
  generalize k.kind.toNat = d at *
  generalize k2.seq.toNat = s2 at *
  generalize k2.kind.toNat = d2 at *
  have C1 := Lib.hid c1
  have Hr := Lib.hid hr
  clear c1 h h2 hx hr
  have hbb : Below w.heap.size w ((w.alloc (.cells #[.slice A n c, .int .u64 (s : Int), .int .u8 (d : Int)] 43)).alloc (.cells #[.slice A2 n2 c2, .int .u64 (s2 : Int), .int .u8 (d2 : Int)] 43)) :=
    (((Below.refl _ _).alloc (Nat.le_refl _) _).alloc (by simp) _)
  obtain ⟨b1, t1⟩ : ∃ b, ((s : Int) == (s2 : Int)) = b := ⟨_, rfl⟩
  obtain ⟨b2, t2⟩ : ∃ b, ((d : Int) == (d2 : Int)) = b := ⟨_, rfl⟩
  have T1 := Lib.hid t1
  have T2 := Lib.hid t2
  cases x <;> cases b1 <;> cases b2
  all_goals
    go_enter Tryd.func20, Tryd.ntmps20
    go_wp2_with fail
    refine (C1.out _ _ Hx hbb).mono ?_
    rintro e w' ⟨rfl, rfl⟩
    go_wp2
    all_goals
      go_ret
      refine ⟨ret_bool ?_, hbb⟩
      rw [← Hr.out]
      have q1 := T1.out
      have q2 := T2.out
      rw [← beq_cast s s2, ← beq_cast d d2, q1, q2]
      rfl
/-- a version that a call gives back, its key in memory of its own -/
def GotKey (w : World) (k : KeyL) (e : Ending) (w' : World) : Prop :=
  ∃ (A : Option Addr) (n c : Nat), e = .returned (.agg #[.slice A n c, .int .u64 (k.seq.toNat : Int), .int .u8 (k.kind.toNat : Int)]) ∧ OwnB w' w.heap.size A n c k.user ∧ Below w.heap.size w w'
end Go.Proofs.YtpffieogkfndaaaDoor

namespace Go.Proofs.YtpffieogkfndaaaDoor
open Go.RowKit
set_option maxRecDepth 20000
set_option linter.unusedVariables false
set_option linter.unusedSimpArgs false

theorem conv_text (w : World) (s : ByteArray) (l : List UInt8) (hl : s.data.toList = l) (hm : l.length ≤ 1000000) : ∃ c w', (convert 9 29 (.string s)).run Tryd.prog w = .ok (.slice (some ⟨w.heap.size, 0, none⟩) s.size c) w' ∧
    Sl w' 1 (some ⟨w.heap.size, 0, none⟩) s.size c (bc l) ∧ Below w.heap.size w w' := by
  have hsz : s.size = l.length := by rw [← hl]; rfl
  refine ⟨_, _, run_bytes_of_string w 9 29 5 s Tryd.underlying9 Tryd.underlying29 Tryd.underlying5, ⟨?_, ?_, ?_, fun h0 => ⟨w.heap.size, 0, rfl, fun j u hu => ?_⟩⟩, ?_⟩
  · simp [hsz]
  · have := grownCap_ge w s.size 0 5; omega
  · exact grownCap_le_maxLen w s.size 0 5 (by unfold maxLen; omega)
  · have hj : j < l.length := by
      have := (List.getElem?_eq_some_iff.1 hu).1
      simpa using this
    have hj2 : j < s.data.size := by
      have : s.data.size = l.length := hsz
      omega
    have h1 := cell_of_row (w.drew.alloc (.cells (bytesRow s (grownCap w s.size 0 5)) 5 ((bytesRow s (grownCap w s.size 0 5)).size, (bytesRow s (grownCap w s.size 0 5)).size + 1))) w.heap.size j _ _ _ (heap_alloc_new w.drew _)
    rw [Nat.zero_add, h1, bytesRow_at _ _ _ hj2, ← hu, bc_get]
    subst hl
    simp [List.getElem?_eq_getElem hj]
  · exact ((Below.refl _ _).drew).alloc (Nat.le_refl _) _
/-- bytes and an error's number that a call gives back -/
def GotBE (w : World) (l : List UInt8) (q : Nat) (e : Ending) (w' : World) : Prop :=
  ∃ (A : Option Addr) (n c : Nat), e = .returned (.tuple #[.slice A n c, .int .i64 (q : Int)]) ∧ OwnB w' w.heap.size A n c l ∧ Below w.heap.size w w'
theorem le8_take (n i : Nat) (h : i < 8) : (le8 n).take (i + 1) = (le8 n).take i ++ [UInt8.ofNat (n / 256 ^ i)] := by
  have hl : (le8 n).length = 8 := by simp [le8]
  rw [List.take_succ_eq_append_getElem (by omega)]
  simp [le8]
theorem le8_len (n : Nat) : (le8 n).length = 8 := by simp [le8]
/-- what a version's bytes are, or the error -/
def keyBE (k : KeyL) : List UInt8 × Nat := if checkKey k = 0 then (keyBytesL k, 0) else ([], checkKey k)
set_option maxHeartbeats 4000000 in
theorem kbytes_any (w : World) (A : Option Addr) (n c : Nat) (k : KeyL) (h : Sl w 1 A n c (bc k.user)) :
    Calls Tryd.prog 28 #[.agg #[.slice A n c, .int .u64 (k.seq.toNat : Int), .int .u8 (k.kind.toNat : Int)]] w (GotBE w (keyBE k).1 (keyBE k).2) := by
  have ck := fun (w' : World) (hb : Below w.heap.size w w') => check_any w' A n c k (h.below (by omega) hb)
  by_cases hc : checkKey k = 0
  · have e : keyBE k = (textL k.user ++ le8 (keyN k), 0) := by unfold keyBE; rw [if_pos hc]; rfl
    rw [e]
    simp only [hc] at ck
    clear e
    have hlen := h.lenb
    have hb0 := hc
    unfold checkKey at hb0
    have hs : k.seq.toNat < 72057594037927936 ∧ n ≤ 64 := by
      repeat' split at hb0
      all_goals omega
    unfold keyN
    have hd := k.kind.toNat_lt
    have ct := fun (w' : World) (hb : Below w.heap.size w w') => text_any w' A n c k.user (h.below (by omega) hb) (by omega)
    have htl : (textL k.user).length ≤ 73 := by
      have := (num_len k.user.length).2
      unfold textL
      rw [List.length_append]
      omega
    generalize textL k.user = t at *
    generalize k.seq.toNat = s at *
    generalize k.kind.toNat = d at *
    obtain ⟨N, hN⟩ : ∃ N, s * 256 + d = N := ⟨_, rfl⟩
    have e1 : bits .or .u64 ((s : Int) * 256) (d : Int) = (N : Int) := by
      have h1 := u64_or_nat (s * 256) d (by omega) (by omega)
      rw [nat_join 8 _ _ (by omega) (by omega), hN] at h1
      rw [← h1]
      simp
    rw [hN]
    have hs1 := hs.1
    have Ck := Lib.hid ck
    have Ct := Lib.hid ct
    have Hc := Lib.hid hc
    have Htl := Lib.hid htl
    clear ck ct hc hb0 h hlen hN htl hs
    go_enter Tryd.func28, Tryd.ntmps28
    go_wp2_with fail
    have hbA := (Below.refl w.heap.size w).alloc (Nat.le_refl _) (.cells #[.slice A n c, .int .u64 (s : Int), .int .u8 (d : Int)] 43)
    have fA := box1 w (.cells #[.slice A n c, .int .u64 (s : Int), .int .u8 (d : Int)] 43)
    generalize (w.alloc (.cells #[.slice A n c, .int .u64 (s : Int), .int .u8 (d : Int)] 43)) = wA at *
    refine (Ck.out _ hbA).mono ?_
    rintro e w1 ⟨rfl, hb1⟩
    have f1 := boxed hb1 fA
    have x0 := f1.1 0 _ rfl
    have x1 := f1.1 1 _ rfl
    have x2 := f1.1 2 _ rfl
    have hw1 := hbA.trans (hb1.mono hbA.size)
    clear f1
    go_wp2_with fail
    refine (Ct.out _ hw1).mono ?_
    rintro e w2 ⟨A2, n2, c2, rfl, ho2, hb2⟩
    have y0 := stays hb2 x0
    have y1 := stays hb2 x1
    have y2 := stays hb2 x2
    have hw2 := hw1.trans (hb2.mono hw1.size)
    have Ho2 := Lib.hid (Own.mono ho2 hw1.size)
    clear x0 x1 x2 ho2
    go_wp2
    go_loopw [5, 23] (fun a i wr => ∃ j : Nat, j ≤ 8 ∧ i = .int .i64 (j : Int) ∧ Below w.heap.size w wr ∧ ∃ (A : Option Addr) (m c : Nat), a = .slice A m c ∧ OwnB wr w.heap.size A m c (t ++ (le8 N).take j)) (fun _ i _ => (8 - intOf i).toNat)
    case atStart => exact ⟨0, by omega, rfl, hw2, A2, n2, c2, rfl, by rw [List.take_zero, List.append_nil]; exact Ho2.out⟩
    case round =>
      obtain ⟨j, hj, rfl, hbr, A3, m, c3, rfl, ho3⟩ := hrel
      have hm := OwnB.len' ho3
      rw [List.length_append, List.length_take, le8_len] at hm
      have Hm := Lib.hid hm
      clear hm
      by_cases hj8 : j < 8
      · obtain ⟨q, hq⟩ : ∃ q : Nat, (8 : Int) * (j : Int) = (q : Int) := ⟨8 * j, by omega⟩
        have hp : 2 ^ q = 256 ^ j := by
          rw [show (256 : Nat) = 2 ^ 8 from rfl, ← Nat.pow_mul]
          congr 1
          omega
        have hq64 : q ≤ 56 := by omega
        obtain ⟨b, hb⟩ : ∃ b, N / 2 ^ q % 256 = b := ⟨_, rfl⟩
        have eb : (N : Int) / 2 ^ q % 256 = (b : Int) := by rw [← hb]; simp
        have hmore := le8_take N j hj8
        rw [show UInt8.ofNat (N / 256 ^ j) = UInt8.ofNat b from by rw [← hb, hp]; apply UInt8.toNat_inj.1; simp] at hmore
        have Hmore := Lib.hid hmore
        have hbl : b < 256 := by rw [← hb]; exact Nat.mod_lt _ (by omega)
        have Hbl := Lib.hid hbl
        have Hj := Lib.hid hj8
        have hlit : Sl (wr.alloc (.cells #[.int .u8 (b : Int)] 5)) 1 (some ⟨wr.heap.size, 0, none⟩) 1 1 (bc [UInt8.ofNat b]) :=
          Sl.lit wr _ _ 1 _ _ rfl (by unfold maxLen; omega) (by simp [bc]; omega)
        have hoa : OwnB (wr.alloc (.cells #[.int .u8 (b : Int)] 5)) w.heap.size A3 m c3 (t ++ (le8 N).take j) := Own.below ho3 ((Below.refl wr.heap.size wr).alloc (Nat.le_refl _) _)
        have hsz := hbr.size
        clear hmore hb hp hbl hj ho3 hj8
        go_wp2_with (at_builtin; refine wpList_appB _ rfl (.tmp 26) (.tmp 32) rfl w.heap.size A3 m c3 _ rfl hoa _ 1 1 _ rfl hlit ?_ ?_ ?_)
        · have h1 := Hm.out; have h2 := Htl.out; omega
        · simp; omega
        intro A4 c4 w4 ho4 hg4 _
        go_wp2
        go_roundw
        case rel =>
          refine ⟨j + 1, by have := Hj.out; omega, by go_num, (hbr.alloc hsz _).grown hg4 (by simp; omega) (fun q hq => (Own.lt hoa q hq).1), A4, _, c4, rfl, ?_⟩
          rw [Hmore.out]
          exact ho4
        case measure => have := Hj.out; simp [intOf]; omega
      · obtain rfl : j = 8 := by omega
        rw [List.take_of_length_le (by rw [le8_len]; omega)] at ho3
        go_wp2
        go_ret2
        exact ⟨A3, m, c3, rfl, ho3, hbr⟩
  · have e : keyBE k = ([], checkKey k) := by unfold keyBE; rw [if_neg hc]
    rw [e]
    clear e
    generalize checkKey k = q at *
    have hq : ((q : Int) == 0) = false := by rw [beq_eq_false_iff_ne]; omega
    have hq2 : ((q : Int) != 0) = true := by rw [bne_iff_ne]; omega
    generalize k.seq.toNat = s at *
    generalize k.kind.toNat = d at *
    have Ck := Lib.hid ck
    clear ck hc h
    go_enter Tryd.func28, Tryd.ntmps28
    go_wp2_with fail
    have hbA := (Below.refl w.heap.size w).alloc (Nat.le_refl _) (.cells #[.slice A n c, .int .u64 (s : Int), .int .u8 (d : Int)] 43)
    refine (Ck.out _ hbA).mono ?_
    rintro e w1 ⟨rfl, hb1⟩
    go_wp2
    go_ret2
    exact ⟨none, 0, 0, rfl, Own.nil _ _ _ _ _, hbA.trans (hb1.mono hbA.size)⟩
/-- where one looks -/
def uptoKey (user : List UInt8) (seq : UInt64) : KeyL := ⟨user, UInt64.ofNat (min seq.toNat 72057594037927935), 2⟩
set_option maxHeartbeats 2000000 in
theorem upto_any (w : World) (A : Option Addr) (n c : Nat) (l : List UInt8) (h : Sl w 1 A n c (bc l)) (hn : n ≤ 1000000) (q : UInt64) :
    Calls Tryd.prog 70 #[.slice A n c, .int .u64 (q.toNat : Int)] w (GotKey w (uptoKey l q)) := by
  have hq := q.toNat_lt
  have hm : (uptoKey l q).seq.toNat = min q.toNat 72057594037927935 := by
    unfold uptoKey
    simp only [UInt64.toNat_ofNat']
    exact Nat.mod_eq_of_lt (by omega)
  unfold GotKey
  rw [hm]
  have hk : (uptoKey l q).kind.toNat = 2 := rfl
  have hu : (uptoKey l q).user = l := rfl
  rw [hk, hu]
  generalize q.toNat = s at *
  obtain ⟨r, hr⟩ : ∃ r : Nat, min s 72057594037927935 = r := ⟨_, rfl⟩
  rw [hr]
  have er : min (s : Int) 72057594037927935 = (r : Int) := by omega
  have cc := fun w' (hb : Below w.heap.size w w') => clone_any w' A n c l (h.below (by omega) hb) (by omega)
  have Cc := Lib.hid cc
  clear cc h hm hq hk hu hr
  go_enter Tryd.func70, Tryd.ntmps70
  go_wp2_with fail
  refine (Cc.out _ ((Below.refl _ _).alloc (Nat.le_refl _) _)).mono ?_
  rintro e w1 ⟨A1, n1, c1, rfl, ho, hb⟩
  have f1 := boxed hb (box1 w _)
  have x0 := f1.1 0 _ rfl
  have x1 := f1.1 1 _ rfl
  have x2 := f1.1 2 _ rfl
  have x3 := f1.2
  have Ho := Lib.hid ho
  have Hb := Lib.hid hb
  clear f1 ho hb
  have Er := Lib.hid er
  clear er
  go_wp2
  · refine bodyPost_ret (v := .agg #[.slice A1 n1 c1, .int .u64 72057594037927935, .int .u8 2]) (by simp [results, Tryd.results70, go_sem, x0, x1, x2]) rfl ⟨A1, n1, c1, ?_, ?_, ?_⟩
    · rw [show (r : Int) = 72057594037927935 by have := Er.out; omega]
    · have ho := Ho.out
      simp only [World.size_alloc] at ho
      refine Own.mono (B := w.heap.size + 1) ?_ (by omega)
      iterate 3 refine own_set ?_ (by omega) _
      exact ho
    · iterate 3 refine Below.setCell ?_ (by simp) _
      exact ((Below.refl _ _).alloc (Nat.le_refl _) _).trans (Hb.out.mono (by simp))
  · refine bodyPost_ret (v := .agg #[.slice A1 n1 c1, .int .u64 (s : Int), .int .u8 2]) (by simp [results, Tryd.results70, go_sem, x0, x1, x2]) rfl ⟨A1, n1, c1, ?_, ?_, ?_⟩
    · rw [show (r : Int) = (s : Int) by have := Er.out; omega]
    · have ho := Ho.out
      simp only [World.size_alloc] at ho
      refine Own.mono (B := w.heap.size + 1) ?_ (by omega)
      iterate 3 refine own_set ?_ (by omega) _
      exact ho
    · iterate 3 refine Below.setCell ?_ (by simp) _
      exact ((Below.refl _ _).alloc (Nat.le_refl _) _).trans (Hb.out.mono (by simp))
end Go.Proofs.YtpffieogkfndaaaDoor
