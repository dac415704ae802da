/-
  NoteAwake, EntryLaws1, TornRel in one text. No condition but sizes.
-/
import Derived.Test.YtpjinmiedanebaaDoorNoteBytes
import Derived.Test.YtpjinmiedanebaaDoorJLogW
import Derived.Test.YtpjinmiedanebaaDoorNoteFew
import Derived.Test.YtpjinmiedanebaaDoorJReelAllW
import Derived.Test.YtpjinmiedanebaaDoorJRowsL
import Derived.Test.YtpjinmiedanebaaDoorJReplayPlain
import Derived.Deep.CutBlock
namespace Go.Proofs.YtpjinmiedanebaaDoor
open Go.RowKit
set_option maxRecDepth 20000
set_option maxHeartbeats 4000000 in
theorem awake07 (w : World) : Calls Tryd.prog 6 #[] w fun e w' => e = .returned (.bool true) ∧ Below w.heap.size w w' := by
  have k0 := fun w C n c => constK w C n c _ rfl
  obtain ⟨s1, b1, z1⟩ := lit1 w 97
  rw [show (((97 : UInt8).toNat : Nat) : Int) = 97 from rfl] at s1 b1 z1
  go_enter Tryd.func6, Tryd.ntmps6
  go_wp2_with fail
  generalize (w.alloc (.cells #[.int .u8 97] 5 (1, 2))) = w1 at *
  refine (nbytes_any w1 (fun _ => True) _ 1 1 none 0 0 ⟨3, 5, [97], []⟩ s1 (SlR.nilnil _ _)).mono ?_
  rw [show noteBE ⟨3, 5, [97], []⟩ = ([3, 5, 1, 97, 0], 0) by decide]
  rintro e w2 ⟨A2, n2, c2, rfl, ho2, hb2⟩
  have s2 := OwnB.sl ho2
  have q2 := b1.trans (hb2.mono b1.size)
  have hlit : Sl (w2.alloc (.cells #[.int .u8 3, .int .u8 5, .int .u8 1, .int .u8 97, .int .u8 0] 5)) 1 (some ⟨w2.heap.size, 0, none⟩) 5 5 (bc [3, 5, 1, 97, 0]) :=
    Sl.lit w2 _ _ 5 _ _ rfl (by unfold maxLen; omega) rfl
  have al := (Below.refl w2.heap.size w2).alloc (Nat.le_refl _) (.cells #[.int .u8 3, .int .u8 5, .int .u8 1, .int .u8 97, .int .u8 0] 5)
  have s2 := s2.below (by omega) al
  have q5 := q2.trans (al.mono q2.size)
  have e4 : Hid ((([3, 5, 1, 97, 0] : List UInt8) == [3, 5, 1, 97, 0]) = true) := by unfold Hid; decide
  go_wp2_with fail
  refine (same_is _ A2 n2 c2 _ _ 5 5 _ true e4 s2 hlit).mono ?_
  rintro e w5 ⟨rfl, rfl⟩
  go_wp2
  go_ret
  exact ⟨rfl, q5⟩
end Go.Proofs.YtpjinmiedanebaaDoor

namespace Go.Proofs.YtpjinmiedanebaaDoor
open Go.RowKit
set_option maxRecDepth 20000
theorem noteRowS (w : World) (x : NoteL) (k s : Nat) (hk : x.kind.toNat = k) (hs : x.seq.toNat = s) (p : Nat → Prop) (A3 : Option Addr) (n3 c3 : Nat) (A4 : Option Addr) (n4 c4 : Nat) (s3 : Sl w 1 A3 n3 c3 (bc x.name)) (s4 : SlR w p A4 n4 c4 x.ops) (e : TypeId) :
    SlR (w.alloc (.cells #[.int .u8 (k : Int), .int .u64 (s : Int), .slice A3 n3 c3, .slice A4 n4 c4] e)) (fun _ => True) (some ⟨w.heap.size, 0, none⟩) 1 1 [x] := by
  subst hk hs
  have al := (Below.refl w.heap.size w).alloc (Nat.le_refl _) (.cells #[.int .u8 (x.kind.toNat : Int), .int .u64 (x.seq.toNat : Int), .slice A3 n3 c3, .slice A4 n4 c4] e)
  exact ⟨_, ⟨rfl, Nat.le_refl _, by unfold maxLen; omega, fun _ => ⟨w.heap.size, 0, rfl, fun j u hu => by rw [cell_of_row _ _ _ _ _ _ (heap_alloc_new w _)]; simpa [u8v, u64v] using hu⟩⟩, RowC.single ⟨_, A4, n4, c4, rfl, Bk.of (s3.below (by omega) al), (s4.below al).mono fun _ _ _ => trivial⟩, fun _ _ _ => trivial⟩
theorem samenotes_is (w : World) (p : Nat → Prop) (A : Option Addr) (n c : Nat) (ls : List NoteL) (h : SlR w p A n c ls) (p' : Nat → Prop) (A' : Option Addr) (n' c' : Nat) (h' : SlR w p' A' n' c' ls) :
    Calls Tryd.prog 11 #[.slice A n c, .slice A' n' c'] w fun e w' => e = .returned (.bool true) ∧ Below w.heap.size w w' := by
  have := rsamenotes_any w p A n c ls h p' A' n' c' ls h'
  simpa using this
theorem apart_plain (a b : NoteL) (ha : (noteBE a).2 = 0) (hb : (noteBE b).2 = 0) : ((noteBE a).1 == (noteBE b).1) = decide ([a] = [b]) := by
  unfold noteBE at *
  split at ha
  · rename_i h1
    split at hb
    · rename_i h2
      rw [if_pos h1, if_pos h2, Bool.eq_iff_iff, beq_iff_eq, decide_eq_true_eq]
      constructor
      · intro e
        rw [note_inj h1 h2 e]
      · intro e
        simp at e
        rw [e]
    · simp at hb
  · simp at ha
end Go.Proofs.YtpjinmiedanebaaDoor

namespace Go.Proofs.YtpjinmiedanebaaDoor
set_option maxRecDepth 20000
open Go.RowKit
theorem noteRowL (w : World) (x : NoteL) (k s : Nat) (hk : x.kind.toNat = k) (hs : x.seq.toNat = s) (L : Nat) (A3 : Option Addr) (n3 c3 : Nat) (A4 : Option Addr) (n4 c4 : Nat) (s3 : Sl w 1 A3 n3 c3 (bc x.name)) (h3 : ∀ b, 0 < n3 → A3.map (·.block) = some b → b < L) (s4 : SlR w (fun b => b < L) A4 n4 c4 x.ops) (e : TypeId) :
    OwnL (w.alloc (.cells #[.int .u8 (k : Int), .int .u64 (s : Int), .slice A3 n3 c3, .slice A4 n4 c4] e)) w.heap.size L e (some ⟨w.heap.size, 0, none⟩) 1 1 [x] := by
  subst hk hs
  have al := (Below.refl w.heap.size w).alloc (Nat.le_refl _) (.cells #[.int .u8 (x.kind.toNat : Int), .int .u64 (x.seq.toNat : Int), .slice A3 n3 c3, .slice A4 n4 c4] e)
  exact ⟨[.int .u8 (x.kind.toNat : Int), .int .u64 (x.seq.toNat : Int), .slice A3 n3 c3, .slice A4 n4 c4], Own.fresh w w.heap.size e 4 1 1 _ _ (Nat.le_refl _) (Nat.le_refl _) (by unfold maxLen; omega) rfl rfl rfl, RowC.single ⟨_, A4, n4, c4, rfl, ⟨A3, n3, c3, rfl, s3.below (by omega) al, h3⟩, s4.below al⟩⟩
theorem infoNsz : (Tryd.prog.info? 41).map (·.size) = some 4 := by kernel_rfl
theorem run_sizeN (w : World) : (sizeOf 41).run Tryd.prog w = .ok 4 w := by
  obtain ⟨i, hi, _, hs, _⟩ := info_parts infoNote
  simp [sizeOf, typeInfo, hi, hs]
/-- l[:k] of notes -/
theorem cutHN {A : Option Addr} {n c : Nat} (q : IntKind) (i : Int) (k : Nat) (hi : i = k) (hk : k ≤ n) (hcap : n ≤ c) (w' : World) :
    (Instr.slice 29 (.slice A n c) none (some (.int q i)) none).run Tryd.prog w' = .ok (.slice A k c) w' := by
  subst hi
  have := run_slice_h (P := Tryd.prog) w' 29 A n c Tryd.underlying29 q k (by omega) (by omega)
  rw [this]
  show ((sizeOf 41).run Tryd.prog w').andThen _ = _
  rw [run_sizeN]
  simp only [Result.andThen, sliced, Int.toNat_natCast, Nat.sub_zero, Nat.zero_mul]
  rw [addr0]
theorem torn_nat (ls : List (List UInt8)) (hl : ∀ l ∈ ls, l.length ≤ 65536) (k m by_ : Nat) (hby : by_ < 256) (hk : k ≤ (allL ls).length) (hm : m ≤ ls.length)
    (h1 : (allL (ls.take m)).length ≤ if by_ = 0 then k else k - 1) (h2 : m < ls.length → (if by_ = 0 then k else k - 1) < (allL (ls.take (m + 1))).length) {Q : List UInt8}
    (hQ : Q = if h : 0 < k then ((allL ls).set (k - 1) (UInt8.ofNat (((allL ls)[k - 1]'(by omega)).toNat ^^^ by_))).take k else []) {rs : List (List UInt8)} {n : Nat} (h : ReadsTo Q rs n) : rs = ls.take m := by
  have e0 : UInt8.ofNat by_ = 0 ↔ by_ = 0 := by
    constructor
    · intro e
      have := congrArg UInt8.toNat e
      rw [UInt8.toNat_ofNat_of_lt' (by simpa using hby)] at this
      simpa using this
    · rintro rfl; rfl
  have e1 : (if UInt8.ofNat by_ = 0 then k else k - 1) = if by_ = 0 then k else k - 1 := by
    by_cases q : by_ = 0
    · rw [if_pos q, if_pos (e0.2 q)]
    · rw [if_neg q, if_neg (fun r => q (e0.1 r))]
  refine torn_law ls hl k m (UInt8.ofNat by_) hk hm (by rw [e1]; exact h1) (by rw [e1]; exact h2) ?_ h
  rw [hQ]
  by_cases q : 0 < k
  · rw [dif_pos q, dif_pos q]
    congr 2
    apply UInt8.toNat_inj.1
    have hx := ((allL ls)[k - 1]'(by omega)).toNat_lt
    rw [UInt8.toNat_xor, UInt8.toNat_ofNat_of_lt' (by have : (((allL ls)[k - 1]'(by omega)).toNat ^^^ by_) < 2 ^ 8 := Nat.xor_lt_two_pow (by omega) (by omega); simpa using this), UInt8.toNat_ofNat_of_lt' (by simpa using hby)]
  · rw [dif_neg q, dif_neg q]
/-- what is known behind j notes -/
def TornRel (w1 : World) (ks : List NoteL) (n1 : Nat) (rv gv iv : Value) (wr : World) : Prop :=
  ∃ (j : Nat) (Ar : Option Addr) (nr cr : Nat) (vs2 : List Value) (Ag : Option Addr) (ng cg : Nat), iv = .int .i64 (j : Int) ∧ rv = .slice Ar nr cr ∧ gv = .slice Ag ng cg ∧ j ≤ n1 ∧ Below w1.heap.size w1 wr ∧
    OwnP wr w1.heap.size Ar nr cr vs2 ∧ OwnParts wr w1.heap.size none vs2 (((ks.take j).filter formL).map noteBytesL) ∧ OwnL wr w1.heap.size w1.heap.size 41 Ag ng cg ((ks.take j).filter formL)
/-- behind the store -/
def StoreRel (wr : World) (A2 : Option Addr) (k c2 : Nat) (Q : List UInt8) (pv : Value) (wx : World) : Prop := pv = .slice A2 k c2 ∧ Sl wx 1 A2 k c2 (bc Q) ∧ Below wr.heap.size wr wx
/-- how many records lie whole ahead of the cut -/
def WholeRel (w3 : World) (ls : List (List UInt8)) (K nr : Nat) (wv iv : Value) (wr : World) : Prop :=
  ∃ j kk : Nat, iv = .int .i64 (j : Int) ∧ wv = .int .i64 (kk : Int) ∧ j ≤ nr ∧ kk ≤ j ∧ Below w3.heap.size w3 wr ∧
    Hid ((allL (ls.take kk)).length ≤ K ∧ ∀ i, kk < i → i ≤ j → K < (allL (ls.take i)).length)
end Go.Proofs.YtpjinmiedanebaaDoor
