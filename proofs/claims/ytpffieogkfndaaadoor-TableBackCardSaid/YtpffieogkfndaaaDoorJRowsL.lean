/-
  AtomJoin, Compare, KeyPlain, RowsL in one text. No condition but sizes.
-/
import Derived.Test.YtpffieogkfndaaaDoorJBridge
import Derived.Test.YtpffieogkfndaaaDoorAtomText
import Derived.Lib.BytesEntry
import Derived.Test.YtpffieogkfndaaaDoorJHeldF
import Derived.Test.YtpffieogkfndaaaDoorJRowsY
import Derived.Test.YtpffieogkfndaaaDoorJAtomWalk
namespace Go.Proofs.YtpffieogkfndaaaDoor
set_option maxRecDepth 20000
set_option linter.unusedVariables false
set_option linter.unusedSimpArgs false
open Go.RowKit

theorem ajoin_any (w : World) (A : Option Addr) (n c : Nat) (vs : List Value) (ls : List (List UInt8)) (h : Sl w 1 A n c vs) (hp : PartsOf w vs ls) (hn : n ≤ 1000000) (hF : ls.flatten.length ≤ 1099511627776) :
    Calls Tryd.prog 29 #[.slice A n c] w (NewB w ls.flatten) := by
  have hc := join_any w A n c vs ls h hp hn hF
  have Hc := Lib.hid hc
  clear hc
  go_enter Tryd.func29, Tryd.ntmps29
  go_wp2_with fail
  refine Hc.out.mono ?_
  rintro e w1 ⟨A1, n1, c1, rfl, ho1, hb1⟩
  go_wp2
  go_ret
  exact ⟨A1, n1, c1, rfl, ho1, hb1⟩
/-- a row of two texts -/
theorem pair_parts (w : World) (A1 : Option Addr) (n1 c1 : Nat) (l1 : List UInt8) (A2 : Option Addr) (n2 c2 : Nat) (l2 : List UInt8) (h1 : Sl w 1 A1 n1 c1 (bc l1)) (h2 : Sl w 1 A2 n2 c2 (bc l2)) :
    Sl (w.alloc (.cells #[.slice A1 n1 c1, .slice A2 n2 c2] 29)) 1 (some ⟨w.heap.size, 0, none⟩) 2 2 [.slice A1 n1 c1, .slice A2 n2 c2] ∧
      PartsOf (w.alloc (.cells #[.slice A1 n1 c1, .slice A2 n2 c2] 29)) [.slice A1 n1 c1, .slice A2 n2 c2] [l1, l2] ∧ Below w.heap.size w (w.alloc (.cells #[.slice A1 n1 c1, .slice A2 n2 c2] 29)) := by
  have b := (Below.refl w.heap.size w).alloc (Nat.le_refl _) (.cells #[.slice A1 n1 c1, .slice A2 n2 c2] 29)
  refine ⟨Sl.lit w _ _ 2 _ _ rfl (by unfold maxLen; omega) rfl, ⟨rfl, ?_⟩, b⟩
  intro i v l hv hl
  rcases i with _ | _ | i
  · simp at hv hl; subst hv; subst hl; exact ⟨_, _, _, rfl, h1.below (by omega) b⟩
  · simp at hv hl; subst hv; subst hl; exact ⟨_, _, _, rfl, h2.below (by omega) b⟩
  · simp at hv
/-- Join of two -/
theorem ajoin_two (w : World) (A1 : Option Addr) (n1 c1 : Nat) (l1 : List UInt8) (A2 : Option Addr) (n2 c2 : Nat) (l2 : List UInt8) (h1 : Sl w 1 A1 n1 c1 (bc l1)) (h2 : Sl w 1 A2 n2 c2 (bc l2)) (hn : n1 + n2 ≤ 1099511627776) :
    Calls Tryd.prog 29 #[.slice (some ⟨w.heap.size, 0, none⟩) 2 2] (w.alloc (.cells #[.slice A1 n1 c1, .slice A2 n2 c2] 29)) (NewB w (l1 ++ l2)) := by
  obtain ⟨s, p, b⟩ := pair_parts w A1 n1 c1 l1 A2 n2 c2 l2 h1 h2
  have e1 := h1.lenb
  have e2 := h2.lenb
  have hf : [l1, l2].flatten = l1 ++ l2 := by simp
  refine (ajoin_any _ _ 2 2 _ _ s p (by omega) (by rw [hf, List.length_append]; omega)).mono ?_
  rw [hf]
  rintro e w1 ⟨A3, n3, c3, rfl, ho, hb⟩
  exact ⟨A3, n3, c3, rfl, Own.mono ho (by simp), b.trans (hb.mono (by simp))⟩
def textL (t : List UInt8) : List UInt8 := numL t.length ++ t
set_option maxHeartbeats 1000000 in
theorem text_any (w : World) (A : Option Addr) (n c : Nat) (t : List UInt8) (h : Sl w 1 A n c (bc t)) (hn : n ≤ 1000000) :
    Calls Tryd.prog 31 #[.slice A n c] w (NewB w (textL t)) := by
  have hl := h.lenb
  have hnl := num_len t.length
  have hc := fun w' => num_any t.length w' (by omega)
  have e : textL t = numL t.length ++ t := rfl
  rw [e]
  generalize hN : numL t.length = N at *
  rw [hl] at hc
  have Hc := Lib.hid hc
  clear hc hl e hN
  go_enter Tryd.func31, Tryd.ntmps31
  go_wp2_with fail
  refine (Hc.out _).mono ?_
  rintro e w1 ⟨A1, n1, c1, rfl, ho1, hb1⟩
  have hn1 := ho1.len'
  subst hn1
  go_wp2_with fail
  refine (ajoin_two w1 A1 _ c1 N A n c t (OwnB.sl ho1) (h.below (by omega) hb1) (by omega)).mono ?_
  rintro e w2 ⟨A2, n2, c2, rfl, ho2, hb2⟩
  go_wp2
  go_ret
  exact ⟨A2, n2, c2, rfl, Own.mono ho2 hb1.size, hb1.trans (hb2.mono hb1.size)⟩
theorem take_text (t rest : List UInt8) (ht : t.length < 18446744073709551616) (m : Nat) : takeTextL (textL t ++ rest) m = if t.length ≤ m then (t, rest, 0) else ([], [], 3) := by
  unfold takeTextL textL
  rw [List.append_assoc, take_num t.length ht]
  simp only [ne_eq, not_true_eq_false, if_false]
  by_cases h : t.length ≤ m
  · rw [if_neg (by omega), if_neg (by simp), if_pos h, List.take_left, List.drop_left]
  · rw [if_pos (.inr (by omega)), if_neg h]
end Go.Proofs.YtpffieogkfndaaaDoor

namespace Go.Proofs.YtpffieogkfndaaaDoor
set_option maxRecDepth 20000
set_option linter.unusedVariables false
set_option linter.unusedSimpArgs false
open Go.RowKit

theorem cmp_self (l : List UInt8) : Lib.compareBytes l l = 0 := by
  induction l with
  | nil => rfl
  | cons a l ih => simp [Lib.compareBytes, ih]
theorem cmp_swap : ∀ (l m : List UInt8), Lib.compareBytes m l = - Lib.compareBytes l m
  | [], [] => rfl
  | [], _ :: _ => rfl
  | _ :: _, [] => rfl
  | a :: l, b :: m => by
    have ih := cmp_swap l m
    simp only [Lib.compareBytes]
    by_cases h1 : a < b
    · have h2 : ¬ b < a := fun h => by
        rw [UInt8.lt_iff_toNat_lt] at h1 h
        omega
      simp [h1, h2]
    · by_cases h2 : b < a
      · simp [h1, h2]
      · simp [h1, h2, ih]
def ltL (l m : List UInt8) : Bool := decide (Lib.compareBytes l m < 0)
theorem run_bytesOf (w : World) (A : Option Addr) (n c : Nat) (l : List UInt8) (h : Sl w 1 A n c (bc l)) :
    ∃ s : ByteArray, s.data.toList = l ∧ (Extern.Bytes.bytesOf (.slice A n c)).run Tryd.prog w = .ok s w := by
  have hl := h.lenb
  cases A with
  | none =>
    obtain rfl := h.none_len
    obtain rfl : l = [] := List.eq_nil_of_length_eq_zero hl
    exact ⟨.empty, rfl, rfl⟩
  | some ad =>
    have hm : Lib.bytesOf (l.map fun x => (x.toNat : Int)) = l := by
      unfold Lib.bytesOf
      rw [List.map_map]
      conv => rhs; rw [← List.map_id l]
      apply List.map_congr_left
      intro x _
      simp
    have hr := Lib.run_loadBytesX (P := Tryd.prog) w (l.map fun x => (x.toNat : Int)) ad .empty (fun j x hj => by
      have hjl : j < l.length := by
        have := (List.getElem?_eq_some_iff.1 hj).1
        simpa using this
      obtain ⟨b, o, e, hc⟩ := h.at_ (by omega)
      obtain rfl := Option.some.inj e
      have h1 := hc j (.int .u8 x) (by rw [bc_get]; simpa using hj)
      rw [Addr.add_lit]
      exact h1)
    rw [List.length_map, hl, hm] at hr
    refine ⟨_, ?_, hr⟩
    show (ByteArray.empty.data ++ l.toArray).toList = l
    simp
theorem run_cmp (w : World) (A : Option Addr) (n c : Nat) (l : List UInt8) (h : Sl w 1 A n c (bc l)) (A2 : Option Addr) (n2 c2 : Nat) (m : List UInt8) (h2 : Sl w 1 A2 n2 c2 (bc m)) :
    (Extern.BytealgCompare.compare #[.slice A n c, .slice A2 n2 c2]).run Tryd.prog w = .ok (.int .i64 (Lib.compareBytes l m)) w := by
  obtain ⟨s, e1, r1⟩ := run_bytesOf w A n c l h
  obtain ⟨t, e2, r2⟩ := run_bytesOf w A2 n2 c2 m h2
  change Sem.run Tryd.prog (do pure (goInt (Extern.BytealgCompare.cmp (← Extern.Bytes.bytesOf (.slice A n c)) (← Extern.Bytes.bytesOf (.slice A2 n2 c2))))) w = _
  simp only [Sem.run_bind, Sem.run_pure, r1, r2, Result.andThen]
  rw [Lib.cmp_eq, e1, e2]
  rfl
set_option maxHeartbeats 1000000 in
theorem less_any (w : World) (A : Option Addr) (n c : Nat) (l : List UInt8) (h : Sl w 1 A n c (bc l)) (A2 : Option Addr) (n2 c2 : Nat) (m : List UInt8) (h2 : Sl w 1 A2 n2 c2 (bc m)) :
    Calls Tryd.prog 47 #[.slice A n c, .slice A2 n2 c2] w fun e w' => e = .returned (.bool (ltL l m)) ∧ w = w' := by
  have hcall : (callFunc 87 #[.slice A n c, .slice A2 n2 c2]).run Tryd.prog w = .ok (.value (.int .i64 (Lib.compareBytes l m))) w := by
    rw [run_callFunc_extern Tryd.func87 (by kernel_rfl) (by kernel_rfl) (by kernel_rfl) (e := Extern.BytealgCompare.compare) (by kernel_rfl), run_cmp w A n c l h A2 n2 c2 m h2]
    rfl
  unfold ltL
  generalize Lib.compareBytes l m = z at *
  have hc : Calls Tryd.prog 75 #[.slice A n c, .slice A2 n2 c2] w fun e w' => e = .returned (.int .i64 z) ∧ w = w' := by
    go_enter Tryd.func75, Tryd.ntmps75
    go_wp2
    go_ret
    exact ⟨rfl, rfl⟩
  clear hcall
  have Hc := Lib.hid hc
  clear hc
  go_enter Tryd.func47, Tryd.ntmps47
  go_wp2_with fail
  refine Hc.out.mono ?_
  rintro e w' ⟨rfl, rfl⟩
  go_wp2
  go_ret
  exact ⟨rfl, rfl⟩
theorem less_is (w : World) (A : Option Addr) (n c : Nat) (l : List UInt8) (h : Sl w 1 A n c (bc l)) (A2 : Option Addr) (n2 c2 : Nat) (m : List UInt8) (h2 : Sl w 1 A2 n2 c2 (bc m)) (b : Bool) (hb : Hid (ltL l m = b)) :
    Calls Tryd.prog 47 #[.slice A n c, .slice A2 n2 c2] w fun e w' => e = .returned (.bool b) ∧ w = w' := by
  rw [← hb.out]
  exact less_any w A n c l h A2 n2 c2 m h2
end Go.Proofs.YtpffieogkfndaaaDoor

namespace Go.Proofs.YtpffieogkfndaaaDoor
set_option maxRecDepth 20000
set_option linter.unusedVariables false
set_option linter.unusedSimpArgs false
open Go.RowKit

theorem cmp_val : ∀ l m : List UInt8, Lib.compareBytes l m = -1 ∨ Lib.compareBytes l m = 0 ∨ Lib.compareBytes l m = 1
  | [], [] => .inr (.inl rfl)
  | [], _ :: _ => .inl rfl
  | _ :: _, [] => .inr (.inr rfl)
  | a :: l, b :: m => by
    simp only [Lib.compareBytes]
    split
    · exact .inl rfl
    · split
      · exact .inr (.inr rfl)
      · exact cmp_val l m
theorem cmp_zero : ∀ l m : List UInt8, Lib.compareBytes l m = 0 ↔ l = m
  | [], [] => by simp [Lib.compareBytes]
  | [], _ :: _ => by simp [Lib.compareBytes]
  | _ :: _, [] => by simp [Lib.compareBytes]
  | a :: l, b :: m => by
    simp only [Lib.compareBytes]
    have ih := cmp_zero l m
    by_cases h1 : a < b
    · rw [if_pos h1]
      have : a ≠ b := fun e => by subst e; exact absurd h1 (by simp)
      simp [this]
    · rw [if_neg h1]
      by_cases h2 : b < a
      · rw [if_pos h2]
        have : a ≠ b := fun e => by subst e; exact absurd h2 (by simp)
        simp [this]
      · rw [if_neg h2, ih]
        have : a = b := UInt8.toNat_inj.1 (by rw [UInt8.lt_iff_toNat_lt] at h1 h2; omega)
        simp [this]
theorem cmp_trans : ∀ l m n : List UInt8, Lib.compareBytes l m < 0 → Lib.compareBytes m n < 0 → Lib.compareBytes l n < 0
  | [], m, n, h1, h2 => by
    cases m with
    | nil => simp [Lib.compareBytes] at h1
    | cons b m => cases n with
      | nil => simp [Lib.compareBytes] at h2
      | cons c n => simp [Lib.compareBytes]
  | a :: l, m, n, h1, h2 => by
    cases m with
    | nil => simp [Lib.compareBytes] at h1
    | cons b m => cases n with
      | nil => simp [Lib.compareBytes] at h2
      | cons c n =>
        simp only [Lib.compareBytes] at h1 h2 ⊢
        simp only [UInt8.lt_iff_toNat_lt] at h1 h2 ⊢
        have ih := cmp_trans l m n
        split at h1
        · split at h2
          · rw [if_pos (by omega)]; omega
          · split at h2
            · omega
            · rw [if_pos (by omega)]; omega
        · split at h1
          · omega
          · split at h2
            · rw [if_pos (by omega)]; omega
            · split at h2
              · omega
              · rw [if_neg (by omega), if_neg (by omega)]
                exact ih h1 h2
/-- of two numbers, as cmp.Compare has it -/
def cmpN (a b : Nat) : Int := if a < b then -1 else if b < a then 1 else 0
theorem cmpN_val (a b : Nat) : cmpN a b = -1 ∨ cmpN a b = 0 ∨ cmpN a b = 1 := by
  unfold cmpN
  split
  · exact .inl rfl
  · split
    · exact .inr (.inr rfl)
    · exact .inr (.inl rfl)
theorem cmpN_sgn (a b : Nat) : (cmpN a b < 0 ↔ a < b) ∧ (cmpN a b = 0 ↔ a = b) := by
  unfold cmpN
  repeat' split
  all_goals omega
/-- of two versions -/
def cmpKey (a b : KeyL) : Int :=
  if Lib.compareBytes a.user b.user ≠ 0 then Lib.compareBytes a.user b.user
  else if cmpN b.seq.toNat a.seq.toNat ≠ 0 then cmpN b.seq.toNat a.seq.toNat else cmpN b.kind.toNat a.kind.toNat
def lessKey (a b : KeyL) : Bool :=
  if !(a.user == b.user) then ltL a.user b.user else if !(a.seq == b.seq) then decide (b.seq.toNat < a.seq.toNat) else decide (b.kind.toNat < a.kind.toNat)
theorem cmpKey_val (a b : KeyL) : cmpKey a b = -1 ∨ cmpKey a b = 0 ∨ cmpKey a b = 1 := by
  unfold cmpKey
  split
  · exact cmp_val _ _
  · split
    · exact cmpN_val _ _
    · exact cmpN_val _ _
theorem cmpKey_swap (a b : KeyL) : cmpKey b a = - cmpKey a b := by
  have h1 := cmp_swap a.user b.user
  have h2 : cmpN a.seq.toNat b.seq.toNat = - cmpN b.seq.toNat a.seq.toNat := by unfold cmpN; repeat' split <;> omega
  have h3 : cmpN a.kind.toNat b.kind.toNat = - cmpN b.kind.toNat a.kind.toNat := by unfold cmpN; repeat' split <;> omega
  unfold cmpKey
  rw [h1, h2, h3]
  repeat' split
  all_goals omega
theorem cmpKey_zero (a b : KeyL) : cmpKey a b = 0 ↔ a = b := by
  unfold cmpKey
  have h1 := cmp_zero a.user b.user
  have h2 : cmpN b.seq.toNat a.seq.toNat = 0 ↔ a.seq = b.seq := by
    rw [← UInt64.toNat_inj]
    unfold cmpN
    repeat' split
    all_goals omega
  have h3 : cmpN b.kind.toNat a.kind.toNat = 0 ↔ a.kind = b.kind := by
    rw [← UInt8.toNat_inj]
    unfold cmpN
    repeat' split
    all_goals omega
  cases a with | mk u s k => cases b with | mk u' s' k' =>
  simp only [KeyL.mk.injEq] at *
  split
  · rename_i h
    constructor
    · intro e; exact absurd e h
    · rintro ⟨e, _⟩; exact absurd (h1.2 e) h
  · rename_i h
    have h := h1.1 (by omega)
    split
    · rename_i h'
      constructor
      · intro e; exact absurd e h'
      · rintro ⟨_, e, _⟩; exact absurd (h2.2 e) h'
    · rename_i h'
      have h' := h2.1 (by omega)
      rw [h3]
      simp [h, h']
theorem cmpKey_less (a b : KeyL) : decide (cmpKey a b < 0) = lessKey a b := by
  unfold cmpKey lessKey
  have h1 := cmp_zero a.user b.user
  by_cases hu : a.user = b.user
  · have hu0 := h1.2 hu
    have hub : (!(a.user == b.user)) = false := by rw [hu]; simp
    rw [if_neg (by omega), hub]
    simp only [Bool.false_eq_true, if_false]
    by_cases hs : a.seq = b.seq
    · have hsb : (!(a.seq == b.seq)) = false := by rw [hs]; simp
      have hz : cmpN b.seq.toNat a.seq.toNat = 0 := by rw [hs]; unfold cmpN; simp
      rw [if_neg (by omega), hsb]
      simp only [Bool.false_eq_true, if_false, decide_eq_decide]
      unfold cmpN
      repeat' split
      all_goals omega
    · have hs' : a.seq.toNat ≠ b.seq.toNat := fun e => hs (UInt64.toNat_inj.1 e)
      have hsb : (!(a.seq == b.seq)) = true := by simp [hs]
      have hz : cmpN b.seq.toNat a.seq.toNat ≠ 0 := by
        unfold cmpN
        repeat' split
        all_goals omega
      rw [if_pos hz, hsb]
      simp only [if_true, decide_eq_decide]
      unfold cmpN
      repeat' split
      all_goals omega
  · have hub : (!(a.user == b.user)) = true := by simp [hu]
    rw [if_pos (fun e => hu (h1.1 e)), hub]
    rfl
theorem cmpKey_trans (a b c : KeyL) (h1 : cmpKey a b < 0) (h2 : cmpKey b c < 0) : cmpKey a c < 0 := by
  unfold cmpKey at *
  have t := cmp_trans a.user b.user c.user
  have z1 := cmp_zero a.user b.user
  have z2 := cmp_zero b.user c.user
  have v := cmp_val a.user c.user
  by_cases e1 : a.user = b.user
  · have q1 := z1.2 e1
    rw [if_neg (by omega)] at h1
    by_cases e2 : b.user = c.user
    · have q2 := z2.2 e2
      rw [if_neg (by omega)] at h2
      rw [e1, e2, cmp_self, if_neg (by omega)]
      clear t z1 z2 v e1 e2 q1 q2
      have a1 := cmpN_sgn b.seq.toNat a.seq.toNat
      have a2 := cmpN_sgn c.seq.toNat b.seq.toNat
      have a3 := cmpN_sgn c.seq.toNat a.seq.toNat
      have k1 := cmpN_sgn b.kind.toNat a.kind.toNat
      have k2 := cmpN_sgn c.kind.toNat b.kind.toNat
      have k3 := cmpN_sgn c.kind.toNat a.kind.toNat
      generalize cmpN b.seq.toNat a.seq.toNat = x1 at *
      generalize cmpN c.seq.toNat b.seq.toNat = x2 at *
      generalize cmpN c.seq.toNat a.seq.toNat = x3 at *
      generalize cmpN b.kind.toNat a.kind.toNat = y1 at *
      generalize cmpN c.kind.toNat b.kind.toNat = y2 at *
      generalize cmpN c.kind.toNat a.kind.toNat = y3 at *
      by_cases e1 : x1 = 0
      · rw [if_neg (by omega)] at h1
        by_cases e2 : x2 = 0
        · rw [if_neg (by omega)] at h2
          rw [if_neg (by omega)]
          omega
        · rw [if_pos e2] at h2
          rw [if_pos (by omega)]
          omega
      · rw [if_pos e1] at h1
        by_cases e2 : x2 = 0
        · rw [if_pos (by omega)]
          omega
        · rw [if_pos e2] at h2
          rw [if_pos (by omega)]
          omega
    · rw [if_pos (by rw [ne_eq, z2]; exact e2)] at h2
      rw [e1, if_pos (by rw [ne_eq, z2]; exact e2)]
      exact h2
  · rw [if_pos (by rw [ne_eq, z1]; exact e1)] at h1
    by_cases e2 : b.user = c.user
    · rw [← e2, if_pos (by rw [ne_eq, z1]; exact e1)]
      exact h1
    · rw [if_pos (by rw [ne_eq, z2]; exact e2)] at h2
      have := t h1 h2
      rw [if_pos (by omega)]
      exact this
/-- is a version right? the error's number -/
def checkKey (k : KeyL) : Nat :=
  if k.seq.toNat ≥ 72057594037927936 ∨ k.kind.toNat < 1 ∨ k.kind.toNat > 2 then 1 else if k.user.length = 0 then 2 else if k.user.length > 64 then 3 else 0
/-- eight bytes, the least first -/
def le8 (n : Nat) : List UInt8 := (List.range 8).map fun i => UInt8.ofNat (n / 256 ^ i)
def keyN (k : KeyL) : Nat := k.seq.toNat * 256 + k.kind.toNat
def keyBytesL (k : KeyL) : List UInt8 := textL k.user ++ le8 (keyN k)
end Go.Proofs.YtpffieogkfndaaaDoor

namespace Go.Proofs.YtpffieogkfndaaaDoor
open Go.RowKit
set_option maxRecDepth 20000
set_option linter.unusedVariables false
set_option linter.unusedSimpArgs false
section
variable {α : Type} [Rep α] {w w' : World} {B L : Nat} {e : TypeId} {A : Option Addr} {n c : Nat} {ls : List α}
/-- the row is of the call's own from B on; what its records hold lies below L -/
def OwnL (w : World) (B L : Nat) (e : TypeId) (A : Option Addr) (n c : Nat) (ls : List α) : Prop :=
  ∃ xs, Own w B e (Rep.size α) A n c xs ∧ RowC w (fun b => b < L) xs ls
theorem OwnL.nil (w : World) (B L : Nat) (e : TypeId) (A : Option Addr) : OwnL w B L e A 0 0 ([] : List α) := ⟨[], Own.nil _ _ _ _ _, rfl⟩
theorem OwnL.sl (h : OwnL w B L e A n c ls) : SlR w (fun _ => True) A n c ls := by
  obtain ⟨xs, ho, hr⟩ := h
  exact ⟨xs, ho.sl, hr.move fun _ _ _ => ⟨rfl, trivial⟩, fun _ _ _ => trivial⟩
theorem OwnL.lenR (h : OwnL w B L e A n c ls) : ls.length = n := h.sl.lenR
theorem OwnL.lt (h : OwnL w B L e A n c ls) : ∀ b, blk A c = some b → B ≤ b ∧ b < w.heap.size := by
  obtain ⟨xs, ho, _⟩ := h
  exact fun b hb => Own.lt ho b hb
theorem OwnL.below (h : OwnL w B L e A n c ls) (hb : Below w.heap.size w w') : OwnL w' B L e A n c ls := by
  obtain ⟨xs, ho, hr⟩ := h
  exact ⟨xs, ho.below hb, hr.move fun b hl hp => ⟨hb.block b hl, hp⟩⟩
theorem OwnL.mono {B' : Nat} (h : OwnL w B L e A n c ls) (hB : B' ≤ B) : OwnL w B' L e A n c ls := by
  obtain ⟨xs, ho, hr⟩ := h
  exact ⟨xs, ho.mono hB, hr⟩
theorem row_appL (P : Program) (w : World) (t ty : TypeId) (z : Value) (bytes : Nat) (ht : P.underlying t = some (.slice e)) (hi : (P.info? e).map (fun i => (i.zero, i.size, i.bytes)) = some (some z, Rep.size α, bytes))
    (hzs : z.cells.size = Rep.size α) (hown : OwnL w B L e A n c ls)
    (A2 : Option Addr) (m c2 : Nat) (ms : List α) (hs : ∃ xs, Sl w (Rep.size α) A2 m c2 xs ∧ RowC w (fun b => b < L) xs ms)
    (h63 : n + m ≤ maxLen) (hbytes : (n + m) * bytes ≤ 140737488355328) (hB : B ≤ w.heap.size) (hL : L ≤ B) :
    ∃ A' c' w', (Builtin.append_ #[t, t] ty #[.slice A n c, .slice A2 m c2]).run P w = .ok (.slice A' (n + m) c') w' ∧ OwnL w' B L e A' (n + m) c' (ls ++ ms) ∧ w.grownBy w' (blk A c) ∧ (blk A' c' = blk A c ∨ blk A' c' = some w.heap.size) := by
  obtain ⟨i, hi1, hz, hs1, hb1⟩ := info_parts hi
  obtain ⟨xs, hO, hR⟩ := hown
  obtain ⟨ys, hS, hR2⟩ := hs
  obtain ⟨A', c', w', hrun, h2, h3, h4⟩ := run_append_own2 (P := P) w B t ty e i z (Rep.size α) bytes ht hi1 hz hs1 hb1 hzs A n c xs hO A2 m c2 ys hS hR2.one h63 hbytes hB
  have mv : ∀ b, b < w.heap.size → b < L → w'.heap[b]? = w.heap[b]? ∧ b < L := fun b hl hp => by
    refine ⟨h3.block b hl (fun q => ?_), hp⟩
    have := (Own.lt hO b q.symm).1
    omega
  exact ⟨A', c', w', hrun, ⟨_, h2, (hR.move mv).append (hR2.move mv)⟩, h3, h4⟩
theorem OwnL.row (h : OwnL w B L e A n c ls) : ∃ xs, Sl w (Rep.size α) A n c xs ∧ RowC w (fun b => b < L) xs ls := by
  obtain ⟨xs, ho, hr⟩ := h
  exact ⟨xs, ho.sl, hr⟩
end
/-- a region's world: below w1 as it was, and the record's cells stand -/
def RP (w1 : World) (g : Nat) (u0 u1 u2 u3 : Value) (w : World) : Prop := Below w1.heap.size w1 w ∧ Bx4 w g u0 u1 u2 u3
theorem RP.below {w1 w w' : World} {g : Nat} {u0 u1 u2 u3 : Value} (h : RP w1 g u0 u1 u2 u3 w) (hb : Below w.heap.size w w') : RP w1 g u0 u1 u2 u3 w' := ⟨h.1.trans (hb.mono h.1.size), h.2.below hb⟩
theorem RP.grown {w1 w w' : World} {g : Nat} {u0 u1 u2 u3 : Value} {row : Option Nat} (h : RP w1 g u0 u1 u2 u3 w) (hg : w.grownBy w' row) (h1 : ∀ b, row = some b → w1.heap.size ≤ b) (h2 : row ≠ some g) : RP w1 g u0 u1 u2 u3 w' :=
  ⟨h.1.grown hg h.1.size h1, h.2.grownO hg h2⟩
end Go.Proofs.YtpffieogkfndaaaDoor
