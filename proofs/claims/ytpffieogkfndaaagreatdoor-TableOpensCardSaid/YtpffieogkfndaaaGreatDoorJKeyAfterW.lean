/-
  BatchPlain, KeyMake, KeyAfterW in one text. No condition but sizes.
-/
import Derived.Test.YtpffieogkfndaaaGreatDoorJKeyWalk
import Derived.Test.YtpffieogkfndaaaGreatDoorJBloomPlain
import Derived.Test.YtpffieogkfndaaaGreatDoorJAtomRef
import Derived.Lib.SlBytesConst
import Derived.Laws.IdiomStrings
namespace Go.Proofs.YtpffieogkfndaaaGreatDoor
set_option maxRecDepth 20000
set_option linter.unusedVariables false
set_option linter.unusedSimpArgs false
open Go.RowKit

/-- the first error of a list -/
def firstErr {α : Type} (f : α → Nat) : List α → Nat
  | [] => 0
  | o :: l => if f o ≠ 0 then f o else firstErr f l
theorem firstErr_zero {α : Type} (f : α → Nat) : ∀ l : List α, firstErr f l = 0 ↔ ∀ o ∈ l, f o = 0
  | [] => by simp [firstErr]
  | o :: l => by
    have ih := firstErr_zero f l
    unfold firstErr
    split
    · rename_i h
      simp [h]
    · rename_i h
      rw [ih]
      simp at h
      simp [h]
theorem take_inv (p : List UInt8) (h : (takeL p).2.2 = 0) : p = numL (takeL p).1 ++ (takeL p).2.1 := by
  cases p with
  | nil => simp [takeL] at h
  | cons b r =>
    unfold takeL at h ⊢
    simp only at h ⊢
    split at h
    · simp at h
    · rename_i h1
      rw [if_neg h1]
      split at h
      · rename_i h2
        rw [if_pos h2]
        simp only
        rw [h2]
        simp [List.take_append_drop]
      · simp at h
end Go.Proofs.YtpffieogkfndaaaGreatDoor

namespace Go.Proofs.YtpffieogkfndaaaGreatDoor
open Go.RowKit
set_option maxRecDepth 20000
set_option linter.unusedVariables false
set_option linter.unusedSimpArgs false

theorem conv_text (w : World) (s : ByteArray) (l : List UInt8) (hl : s.data.toList = l) (hm : l.length ≤ 1000000) : ∃ c w', (convert 9 29 (.string s)).run Tryz.prog w = .ok (.slice (some ⟨w.heap.size, 0, none⟩) s.size c) w' ∧
    Sl w' 1 (some ⟨w.heap.size, 0, none⟩) s.size c (bc l) ∧ Below w.heap.size w w' := by
  have hsz : s.size = l.length := by rw [← hl]; rfl
  refine ⟨_, _, run_bytes_of_string w 9 29 5 s Tryz.underlying9 Tryz.underlying29 Tryz.underlying5, ⟨?_, ?_, ?_, fun h0 => ⟨w.heap.size, 0, rfl, fun j u hu => ?_⟩⟩, ?_⟩
  · simp [hsz]
  · have := grownCap_ge w s.size 0 5; omega
  · exact grownCap_le_maxLen w s.size 0 5 (by unfold maxLen; omega)
  · have hj : j < l.length := by
      have := (List.getElem?_eq_some_iff.1 hu).1
      simpa using this
    have hj2 : j < s.data.size := by
      have : s.data.size = l.length := hsz
      omega
    have h1 := cell_of_row (w.drew.alloc (.cells (bytesRow s (grownCap w s.size 0 5)) 5 ((bytesRow s (grownCap w s.size 0 5)).size, (bytesRow s (grownCap w s.size 0 5)).size + 1))) w.heap.size j _ _ _ (heap_alloc_new w.drew _)
    rw [Nat.zero_add, h1, bytesRow_at _ _ _ hj2, ← hu, bc_get]
    subst hl
    simp [List.getElem?_eq_getElem hj]
  · exact ((Below.refl _ _).drew).alloc (Nat.le_refl _) _
set_option maxHeartbeats 1000000 in
theorem rtext_any (w : World) (A : Option Addr) (n c : Nat) (t : List UInt8) (h : Sl w 1 A n c (bc t)) (hn : n ≤ 1000000) :
    Calls Tryz.prog 53 #[.slice A n c] w (NewB w (textL t)) := by
  have hl := h.lenb
  have hnl := num_len t.length
  unfold textL
  rw [hl] at hnl ⊢
  have c1 := fun w' => rnum_any n w' (by omega)
  have C1 := Lib.hid c1
  have hc := h.capm
  unfold maxLen at hc
  have Hl := Lib.hid hl
  have Hnl := Lib.hid hnl
  clear c1 hl hnl
  go_enter Tryz.func53, Tryz.ntmps53
  go_wp2_with fail
  refine (C1.out _).mono ?_
  rintro e w1 ⟨A1, n1, c1, rfl, ho, hb⟩
  have e1 := ho.len'
  have h1 := h.below (by omega) hb
  have hsz := hb.size
  go_wp2_with (at_builtin; refine wpList_appB _ rfl (.tmp 6) (.tmp 7) rfl w.heap.size A1 n1 c1 _ rfl ho A n c _ rfl h1 ?_ ?_ ?_)
  · have := Hnl.out; omega
  · omega
  intro A2 c2 w2 ho2 hg2 _
  go_wp2
  go_ret
  exact ⟨A2, _, c2, rfl, ho2, hb.grown hg2 hsz (fun q hq => (Own.lt ho q hq).1)⟩
/-- bytes and an error's number that a call gives back -/
def GotBE (w : World) (l : List UInt8) (q : Nat) (e : Ending) (w' : World) : Prop :=
  ∃ (A : Option Addr) (n c : Nat), e = .returned (.tuple #[.slice A n c, .int .i64 (q : Int)]) ∧ OwnB w' w.heap.size A n c l ∧ Below w.heap.size w w'
theorem le8_take (n i : Nat) (h : i < 8) : (le8 n).take (i + 1) = (le8 n).take i ++ [UInt8.ofNat (n / 256 ^ i)] := by
  have hl : (le8 n).length = 8 := by simp [le8]
  rw [List.take_succ_eq_append_getElem (by omega)]
  simp [le8]
theorem le8_len (n : Nat) : (le8 n).length = 8 := by simp [le8]
/-- what a version's bytes are, or the error -/
def keyBE (k : KeyL) : List UInt8 × Nat := if checkKey k = 0 then (keyBytesL k, 0) else ([], checkKey k)
set_option maxHeartbeats 4000000 in
theorem kbytes_any (w : World) (A : Option Addr) (n c : Nat) (k : KeyL) (h : Sl w 1 A n c (bc k.user)) :
    Calls Tryz.prog 43 #[.agg #[.slice A n c, .int .u64 (k.seq.toNat : Int), .int .u8 (k.kind.toNat : Int)]] w (GotBE w (keyBE k).1 (keyBE k).2) := by
  have ck := fun (w' : World) (hb : Below w.heap.size w w') => check_any w' A n c k (h.below (by omega) hb)
  by_cases hc : checkKey k = 0
  · have e : keyBE k = (textL k.user ++ le8 (keyN k), 0) := by unfold keyBE; rw [if_pos hc]; rfl
    rw [e]
    simp only [hc] at ck
    clear e
    have hlen := h.lenb
    have hb0 := hc
    unfold checkKey at hb0
    have hs : k.seq.toNat < 72057594037927936 ∧ n ≤ 64 := by
      repeat' split at hb0
      all_goals omega
    unfold keyN
    have hd := k.kind.toNat_lt
    have ct := fun (w' : World) (hb : Below w.heap.size w w') => text_any w' A n c k.user (h.below (by omega) hb) (by omega)
    have htl : (textL k.user).length ≤ 73 := by
      have := (num_len k.user.length).2
      unfold textL
      rw [List.length_append]
      omega
    generalize textL k.user = t at *
    generalize k.seq.toNat = s at *
    generalize k.kind.toNat = d at *
    obtain ⟨N, hN⟩ : ∃ N, s * 256 + d = N := ⟨_, rfl⟩
    have e1 : bits .or .u64 ((s : Int) * 256) (d : Int) = (N : Int) := by
      have h1 := u64_or_nat (s * 256) d (by omega) (by omega)
      rw [nat_join 8 _ _ (by omega) (by omega), hN] at h1
      rw [← h1]
      simp
    rw [hN]
    have hs1 := hs.1
    have Ck := Lib.hid ck
    have Ct := Lib.hid ct
    have Hc := Lib.hid hc
    have Htl := Lib.hid htl
    clear ck ct hc hb0 h hlen hN htl hs
    go_enter Tryz.func43, Tryz.ntmps43
    go_wp2_with fail
    have hbA := (Below.refl w.heap.size w).alloc (Nat.le_refl _) (.cells #[.slice A n c, .int .u64 (s : Int), .int .u8 (d : Int)] 67)
    have fA := box1 w (.cells #[.slice A n c, .int .u64 (s : Int), .int .u8 (d : Int)] 67)
    generalize (w.alloc (.cells #[.slice A n c, .int .u64 (s : Int), .int .u8 (d : Int)] 67)) = wA at *
    refine (Ck.out _ hbA).mono ?_
    rintro e w1 ⟨rfl, hb1⟩
    have f1 := boxed hb1 fA
    have x0 := f1.1 0 _ rfl
    have x1 := f1.1 1 _ rfl
    have x2 := f1.1 2 _ rfl
    have hw1 := hbA.trans (hb1.mono hbA.size)
    clear f1
    go_wp2_with fail
    refine (Ct.out _ hw1).mono ?_
    rintro e w2 ⟨A2, n2, c2, rfl, ho2, hb2⟩
    have y0 := stays hb2 x0
    have y1 := stays hb2 x1
    have y2 := stays hb2 x2
    have hw2 := hw1.trans (hb2.mono hw1.size)
    have Ho2 := Lib.hid (Own.mono ho2 hw1.size)
    clear x0 x1 x2 ho2
    go_wp2
    go_loopw [5, 23] (fun a i wr => ∃ j : Nat, j ≤ 8 ∧ i = .int .i64 (j : Int) ∧ Below w.heap.size w wr ∧ ∃ (A : Option Addr) (m c : Nat), a = .slice A m c ∧ OwnB wr w.heap.size A m c (t ++ (le8 N).take j)) (fun _ i _ => (8 - intOf i).toNat)
    case atStart => exact ⟨0, by omega, rfl, hw2, A2, n2, c2, rfl, by rw [List.take_zero, List.append_nil]; exact Ho2.out⟩
    case round =>
      obtain ⟨j, hj, rfl, hbr, A3, m, c3, rfl, ho3⟩ := hrel
      have hm := OwnB.len' ho3
      rw [List.length_append, List.length_take, le8_len] at hm
      have Hm := Lib.hid hm
      clear hm
      by_cases hj8 : j < 8
      · obtain ⟨q, hq⟩ : ∃ q : Nat, (8 : Int) * (j : Int) = (q : Int) := ⟨8 * j, by omega⟩
        have hp : 2 ^ q = 256 ^ j := by
          rw [show (256 : Nat) = 2 ^ 8 from rfl, ← Nat.pow_mul]
          congr 1
          omega
        have hq64 : q ≤ 56 := by omega
        obtain ⟨b, hb⟩ : ∃ b, N / 2 ^ q % 256 = b := ⟨_, rfl⟩
        have eb : (N : Int) / 2 ^ q % 256 = (b : Int) := by rw [← hb]; simp
        have hmore := le8_take N j hj8
        rw [show UInt8.ofNat (N / 256 ^ j) = UInt8.ofNat b from by rw [← hb, hp]; apply UInt8.toNat_inj.1; simp] at hmore
        have Hmore := Lib.hid hmore
        have hbl : b < 256 := by rw [← hb]; exact Nat.mod_lt _ (by omega)
        have Hbl := Lib.hid hbl
        have Hj := Lib.hid hj8
        have hlit : Sl (wr.alloc (.cells #[.int .u8 (b : Int)] 5)) 1 (some ⟨wr.heap.size, 0, none⟩) 1 1 (bc [UInt8.ofNat b]) :=
          Sl.lit wr _ _ 1 _ _ rfl (by unfold maxLen; omega) (by simp [bc]; omega)
        have hoa : OwnB (wr.alloc (.cells #[.int .u8 (b : Int)] 5)) w.heap.size A3 m c3 (t ++ (le8 N).take j) := Own.below ho3 ((Below.refl wr.heap.size wr).alloc (Nat.le_refl _) _)
        have hsz := hbr.size
        clear hmore hb hp hbl hj ho3 hj8
        go_wp2_with (at_builtin; refine wpList_appB _ rfl (.tmp 26) (.tmp 32) rfl w.heap.size A3 m c3 _ rfl hoa _ 1 1 _ rfl hlit ?_ ?_ ?_)
        · have h1 := Hm.out; have h2 := Htl.out; omega
        · simp; omega
        intro A4 c4 w4 ho4 hg4 _
        go_wp2
        go_roundw
        case rel =>
          refine ⟨j + 1, by have := Hj.out; omega, by go_num, (hbr.alloc hsz _).grown hg4 (by simp; omega) (fun q hq => (Own.lt hoa q hq).1), A4, _, c4, rfl, ?_⟩
          rw [Hmore.out]
          exact ho4
        case measure => have := Hj.out; simp [intOf]; omega
      · obtain rfl : j = 8 := by omega
        rw [List.take_of_length_le (by rw [le8_len]; omega)] at ho3
        go_wp2
        go_ret2
        exact ⟨A3, m, c3, rfl, ho3, hbr⟩
  · have e : keyBE k = ([], checkKey k) := by unfold keyBE; rw [if_neg hc]
    rw [e]
    clear e
    generalize checkKey k = q at *
    have hq : ((q : Int) == 0) = false := by rw [beq_eq_false_iff_ne]; omega
    have hq2 : ((q : Int) != 0) = true := by rw [bne_iff_ne]; omega
    generalize k.seq.toNat = s at *
    generalize k.kind.toNat = d at *
    have Ck := Lib.hid ck
    clear ck hc h
    go_enter Tryz.func43, Tryz.ntmps43
    go_wp2_with fail
    have hbA := (Below.refl w.heap.size w).alloc (Nat.le_refl _) (.cells #[.slice A n c, .int .u64 (s : Int), .int .u8 (d : Int)] 67)
    refine (Ck.out _ hbA).mono ?_
    rintro e w1 ⟨rfl, hb1⟩
    go_wp2
    go_ret2
    exact ⟨none, 0, 0, rfl, Own.nil _ _ _ _ _, hbA.trans (hb1.mono hbA.size)⟩
/-- where one looks -/
def uptoKey (user : List UInt8) (seq : UInt64) : KeyL := ⟨user, UInt64.ofNat (min seq.toNat 72057594037927935), 2⟩
set_option maxHeartbeats 2000000 in
theorem upto_any (w : World) (A : Option Addr) (n c : Nat) (l : List UInt8) (h : Sl w 1 A n c (bc l)) (hn : n ≤ 1000000) (q : UInt64) :
    Calls Tryz.prog 98 #[.slice A n c, .int .u64 (q.toNat : Int)] w (GotKey w (uptoKey l q)) := by
  have hq := q.toNat_lt
  have hm : (uptoKey l q).seq.toNat = min q.toNat 72057594037927935 := by
    unfold uptoKey
    simp only [UInt64.toNat_ofNat']
    exact Nat.mod_eq_of_lt (by omega)
  unfold GotKey
  rw [hm]
  have hk : (uptoKey l q).kind.toNat = 2 := rfl
  have hu : (uptoKey l q).user = l := rfl
  rw [hk, hu]
  generalize q.toNat = s at *
  obtain ⟨r, hr⟩ : ∃ r : Nat, min s 72057594037927935 = r := ⟨_, rfl⟩
  rw [hr]
  have er : min (s : Int) 72057594037927935 = (r : Int) := by omega
  have cc := fun w' (hb : Below w.heap.size w w') => clone_any w' A n c l (h.below (by omega) hb) (by omega)
  have Cc := Lib.hid cc
  clear cc h hm hq hk hu hr
  go_enter Tryz.func98, Tryz.ntmps98
  go_wp2_with fail
  refine (Cc.out _ ((Below.refl _ _).alloc (Nat.le_refl _) _)).mono ?_
  rintro e w1 ⟨A1, n1, c1, rfl, ho, hb⟩
  have f1 := boxed hb (box1 w _)
  have x0 := f1.1 0 _ rfl
  have x1 := f1.1 1 _ rfl
  have x2 := f1.1 2 _ rfl
  have x3 := f1.2
  have Ho := Lib.hid ho
  have Hb := Lib.hid hb
  clear f1 ho hb
  have Er := Lib.hid er
  clear er
  go_wp2
  · refine bodyPost_ret (v := .agg #[.slice A1 n1 c1, .int .u64 72057594037927935, .int .u8 2]) (by simp [results, Tryz.results98, go_sem, x0, x1, x2]) rfl ⟨A1, n1, c1, ?_, ?_, ?_⟩
    · rw [show (r : Int) = 72057594037927935 by have := Er.out; omega]
    · have ho := Ho.out
      simp only [World.size_alloc] at ho
      refine Own.mono (B := w.heap.size + 1) ?_ (by omega)
      iterate 3 refine own_set ?_ (by omega) _
      exact ho
    · iterate 3 refine Below.setCell ?_ (by simp) _
      exact ((Below.refl _ _).alloc (Nat.le_refl _) _).trans (Hb.out.mono (by simp))
  · refine bodyPost_ret (v := .agg #[.slice A1 n1 c1, .int .u64 (s : Int), .int .u8 2]) (by simp [results, Tryz.results98, go_sem, x0, x1, x2]) rfl ⟨A1, n1, c1, ?_, ?_, ?_⟩
    · rw [show (r : Int) = (s : Int) by have := Er.out; omega]
    · have ho := Ho.out
      simp only [World.size_alloc] at ho
      refine Own.mono (B := w.heap.size + 1) ?_ (by omega)
      iterate 3 refine own_set ?_ (by omega) _
      exact ho
    · iterate 3 refine Below.setCell ?_ (by simp) _
      exact ((Below.refl _ _).alloc (Nat.le_refl _) _).trans (Hb.out.mono (by simp))
end Go.Proofs.YtpffieogkfndaaaGreatDoor

namespace Go.Proofs.YtpffieogkfndaaaGreatDoor
open Go.RowKit
set_option maxRecDepth 20000
set_option linter.unusedVariables false
set_option linter.unusedSimpArgs false
set_option maxHeartbeats 2000000 in
theorem after_any (w : World) (A : Option Addr) (n c : Nat) (l : List UInt8) (h : Sl w 1 A n c (bc l)) (hn : n ≤ 1000000) :
    Calls Tryz.prog 57 #[.slice A n c] w (NewB w (l ++ [0])) := by
  have hl := h.lenb
  have cc := fun w' (hb : Below w.heap.size w w') => clone_any w' A n c l (h.below (by omega) hb) (by omega)
  have Cc := Lib.hid cc
  have Hl := Lib.hid hl
  clear cc hl h
  go_enter Tryz.func57, Tryz.ntmps57
  go_wp2_with fail
  refine (Cc.out _ (Below.refl _ _)).mono ?_
  rintro e w1 ⟨A1, n1, c1, rfl, ho, hb⟩
  have e1 := ho.len'
  have hsz := hb.size
  have hlit : Sl (w1.alloc (.cells #[.int .u8 0] 5)) 1 (some ⟨w1.heap.size, 0, none⟩) 1 1 (bc [0]) := Sl.lit w1 _ _ 1 _ _ rfl (by unfold maxLen; omega) rfl
  have hoa : OwnB (w1.alloc (.cells #[.int .u8 0] 5)) w.heap.size A1 n1 c1 l := Own.below ho ((Below.refl w1.heap.size w1).alloc (Nat.le_refl _) _)
  have E1 := Lib.hid e1
  clear e1 ho
  go_wp2_with (at_builtin; refine wpList_appB _ rfl (.tmp 4) (.tmp 5) rfl w.heap.size A1 n1 c1 _ rfl hoa _ 1 1 _ rfl hlit ?_ ?_ ?_)
  · have h1 := E1.out; have h2 := Hl.out; omega
  · simp; omega
  intro A2 c2 w2 ho2 hg2 _
  go_wp2
  go_ret
  exact ⟨A2, _, c2, rfl, ho2, (hb.alloc hsz _).grown hg2 (by simp; omega) (fun q hq => (Own.lt hoa q hq).1)⟩
end Go.Proofs.YtpffieogkfndaaaGreatDoor
