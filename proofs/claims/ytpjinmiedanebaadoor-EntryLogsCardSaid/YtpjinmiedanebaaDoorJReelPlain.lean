/-
  AtomJoin, Compare, KeyPlain, SealWalk, ReelPlain in one text. No condition but sizes.
-/
import Derived.Test.YtpjinmiedanebaaDoorJRowsL
import Derived.Test.YtpjinmiedanebaaDoorAtomText
import Derived.Lib.BytesEntry
import Derived.Test.YtpjinmiedanebaaDoorJRecs
import Derived.Test.YtpjinmiedanebaaDoorJFrameR
import Derived.Test.YtpjinmiedanebaaDoorJOpen
import Derived.Test.YtpjinmiedanebaaDoorProg
namespace Go.Proofs.YtpjinmiedanebaaDoor
set_option maxRecDepth 20000
open Go.RowKit

theorem ajoin_any (w : World) (A : Option Addr) (n c : Nat) (vs : List Value) (ls : List (List UInt8)) (h : Sl w 1 A n c vs) (hp : PartsOf w vs ls) (hn : n ≤ 1000000) (hF : ls.flatten.length ≤ 1099511627776) :
    Calls Tryd.prog 35 #[.slice A n c] w (NewB w ls.flatten) := by
  have hc := join_any w A n c vs ls h hp hn hF
  have Hc := Lib.hid hc
  clear hc
  go_enter Tryd.func35, Tryd.ntmps35
  go_wp2_with fail
  refine Hc.out.mono ?_
  rintro e w1 ⟨A1, n1, c1, rfl, ho1, hb1⟩
  go_wp2
  go_ret
  exact ⟨A1, n1, c1, rfl, ho1, hb1⟩
/-- a row of two texts -/
theorem pair_parts (w : World) (A1 : Option Addr) (n1 c1 : Nat) (l1 : List UInt8) (A2 : Option Addr) (n2 c2 : Nat) (l2 : List UInt8) (h1 : Sl w 1 A1 n1 c1 (bc l1)) (h2 : Sl w 1 A2 n2 c2 (bc l2)) :
    Sl (w.alloc (.cells #[.slice A1 n1 c1, .slice A2 n2 c2] 22)) 1 (some ⟨w.heap.size, 0, none⟩) 2 2 [.slice A1 n1 c1, .slice A2 n2 c2] ∧
      PartsOf (w.alloc (.cells #[.slice A1 n1 c1, .slice A2 n2 c2] 22)) [.slice A1 n1 c1, .slice A2 n2 c2] [l1, l2] ∧ Below w.heap.size w (w.alloc (.cells #[.slice A1 n1 c1, .slice A2 n2 c2] 22)) := by
  have b := (Below.refl w.heap.size w).alloc (Nat.le_refl _) (.cells #[.slice A1 n1 c1, .slice A2 n2 c2] 22)
  refine ⟨Sl.lit w _ _ 2 _ _ rfl (by unfold maxLen; omega) rfl, ⟨rfl, ?_⟩, b⟩
  intro i v l hv hl
  rcases i with _ | _ | i
  · simp at hv hl; subst hv; subst hl; exact ⟨_, _, _, rfl, h1.below (by omega) b⟩
  · simp at hv hl; subst hv; subst hl; exact ⟨_, _, _, rfl, h2.below (by omega) b⟩
  · simp at hv
/-- Join of two -/
theorem ajoin_two (w : World) (A1 : Option Addr) (n1 c1 : Nat) (l1 : List UInt8) (A2 : Option Addr) (n2 c2 : Nat) (l2 : List UInt8) (h1 : Sl w 1 A1 n1 c1 (bc l1)) (h2 : Sl w 1 A2 n2 c2 (bc l2)) (hn : n1 + n2 ≤ 1099511627776) :
    Calls Tryd.prog 35 #[.slice (some ⟨w.heap.size, 0, none⟩) 2 2] (w.alloc (.cells #[.slice A1 n1 c1, .slice A2 n2 c2] 22)) (NewB w (l1 ++ l2)) := by
  obtain ⟨s, p, b⟩ := pair_parts w A1 n1 c1 l1 A2 n2 c2 l2 h1 h2
  have e1 := h1.lenb
  have e2 := h2.lenb
  have hf : [l1, l2].flatten = l1 ++ l2 := by simp
  refine (ajoin_any _ _ 2 2 _ _ s p (by omega) (by rw [hf, List.length_append]; omega)).mono ?_
  rw [hf]
  rintro e w1 ⟨A3, n3, c3, rfl, ho, hb⟩
  exact ⟨A3, n3, c3, rfl, Own.mono ho (by simp), b.trans (hb.mono (by simp))⟩
def textL (t : List UInt8) : List UInt8 := numL t.length ++ t
set_option maxHeartbeats 1000000 in
theorem text_any (w : World) (A : Option Addr) (n c : Nat) (t : List UInt8) (h : Sl w 1 A n c (bc t)) (hn : n ≤ 1000000) :
    Calls Tryd.prog 37 #[.slice A n c] w (NewB w (textL t)) := by
  have hl := h.lenb
  have hnl := num_len t.length
  have hc := fun w' => num_any t.length w' (by omega)
  have e : textL t = numL t.length ++ t := rfl
  rw [e]
  generalize hN : numL t.length = N at *
  rw [hl] at hc
  have Hc := Lib.hid hc
  clear hc hl e hN
  go_enter Tryd.func37, Tryd.ntmps37
  go_wp2_with fail
  refine (Hc.out _).mono ?_
  rintro e w1 ⟨A1, n1, c1, rfl, ho1, hb1⟩
  have hn1 := ho1.len'
  subst hn1
  go_wp2_with fail
  refine (ajoin_two w1 A1 _ c1 N A n c t (OwnB.sl ho1) (h.below (by omega) hb1) (by omega)).mono ?_
  rintro e w2 ⟨A2, n2, c2, rfl, ho2, hb2⟩
  go_wp2
  go_ret
  exact ⟨A2, n2, c2, rfl, Own.mono ho2 hb1.size, hb1.trans (hb2.mono hb1.size)⟩
theorem take_text (t rest : List UInt8) (ht : t.length < 18446744073709551616) (m : Nat) : takeTextL (textL t ++ rest) m = if t.length ≤ m then (t, rest, 0) else ([], [], 3) := by
  unfold takeTextL textL
  rw [List.append_assoc, take_num t.length ht]
  simp only [ne_eq, not_true_eq_false, if_false]
  by_cases h : t.length ≤ m
  · rw [if_neg (by omega), if_neg (by simp), if_pos h, List.take_left, List.drop_left]
  · rw [if_pos (.inr (by omega)), if_neg h]
/-- texts one behind the other -/
def textsL (ls : List (List UInt8)) : List UInt8 := (ls.map fun t => textL (t.take 300)).flatten
theorem textsL_snoc (ls : List (List UInt8)) (t : List UInt8) : textsL (ls ++ [t]) = textsL ls ++ textL (t.take 300) := by simp [textsL]
theorem textsL_cons (ls : List (List UInt8)) (t : List UInt8) : textsL (t :: ls) = textL (t.take 300) ++ textsL ls := by simp [textsL]
theorem textsL_le (ls : List (List UInt8)) : (textsL ls).length ≤ 309 * ls.length := by
  induction ls with
  | nil => simp [textsL]
  | cons t r ih =>
    rw [textsL_cons, List.length_append, List.length_cons]
    have h1 := num_len (t.take 300).length
    have h2 : (t.take 300).length ≤ 300 := by simp; omega
    unfold textL
    rw [List.length_append]
    omega
end Go.Proofs.YtpjinmiedanebaaDoor

namespace Go.Proofs.YtpjinmiedanebaaDoor
set_option maxRecDepth 20000
open Go.RowKit

theorem cmp_append (p l m : List UInt8) : Lib.compareBytes (p ++ l) (p ++ m) = Lib.compareBytes l m := by
  induction p with
  | nil => rfl
  | cons a p ih => simp [Lib.compareBytes, ih]
theorem cmp_self (l : List UInt8) : Lib.compareBytes l l = 0 := by
  induction l with
  | nil => rfl
  | cons a l ih => simp [Lib.compareBytes, ih]
theorem cmp_swap : ∀ (l m : List UInt8), Lib.compareBytes m l = - Lib.compareBytes l m
  | [], [] => rfl
  | [], _ :: _ => rfl
  | _ :: _, [] => rfl
  | a :: l, b :: m => by
    have ih := cmp_swap l m
    simp only [Lib.compareBytes]
    by_cases h1 : a < b
    · have h2 : ¬ b < a := fun h => by
        rw [UInt8.lt_iff_toNat_lt] at h1 h
        omega
      simp [h1, h2]
    · by_cases h2 : b < a
      · simp [h1, h2]
      · simp [h1, h2, ih]
theorem cmp_lex : ∀ (l m x y : List UInt8), l.length = m.length → beval l < beval m → Lib.compareBytes (l ++ x) (m ++ y) = -1
  | [], [], _, _, _, h => by simp [beval] at h
  | a :: l, b :: m, x, y, hl, h => by
    have hl' : l.length = m.length := by simpa using hl
    rw [beval_cons, beval_cons, hl'] at h
    have h1 := beval_lt l
    have h2 := beval_lt m
    rw [hl'] at h1
    simp only [List.cons_append, Lib.compareBytes]
    rcases Nat.lt_trichotomy a.toNat b.toNat with h3 | h3 | h3
    · rw [if_pos (UInt8.lt_iff_toNat_lt.2 h3)]
    · have e : a = b := UInt8.toNat_inj.1 h3
      subst e
      rw [if_neg (by rw [UInt8.lt_iff_toNat_lt]; omega), if_neg (by rw [UInt8.lt_iff_toNat_lt]; omega)]
      exact cmp_lex l m x y hl' (by omega)
    · exfalso
      have h4 : (b.toNat + 1) * 256 ^ m.length ≤ a.toNat * 256 ^ m.length := Nat.mul_le_mul_right _ h3
      rw [Nat.succ_mul] at h4
      omega
  | [], _ :: _, _, _, h, _ => by simp at h
  | _ :: _, [], _, _, h, _ => by simp at h
theorem nb_mono {a b : Nat} (h : a ≤ b) : nb a ≤ nb b := by
  unfold nb
  repeat' split
  all_goals omega
/-- a number's first byte, and those behind it -/
def firstN (n : Nat) : Nat := if n < 241 then n else if n < 2288 then 241 + (n - 240) / 256 else if n < 67824 then 249 else 247 + nb n
def restN (n : Nat) : List UInt8 := if n < 241 then [] else if n < 2288 then [UInt8.ofNat (n - 240)] else if n < 67824 then [UInt8.ofNat ((n - 2288) / 256), UInt8.ofNat (n - 2288)] else beK (nb n) n
theorem numL_eq (n : Nat) : numL n = UInt8.ofNat (firstN n) :: restN n := by
  unfold numL firstN restN
  repeat' split
  all_goals first | rfl | omega
theorem firstN_lt (n : Nat) : firstN n < 256 := by
  have := nb_range n
  unfold firstN
  repeat' split
  all_goals omega
theorem firstN_mono {a b : Nat} (h : a ≤ b) : firstN a ≤ firstN b := by
  have h1 := nb_mono h
  have h2 := nb_range a
  have h3 := nb_range b
  unfold firstN
  repeat' split
  all_goals omega
theorem rest_lt {a b : Nat} (hb : b < 18446744073709551616) (h : a < b) (e : firstN a = firstN b) : (restN a).length = (restN b).length ∧ beval (restN a) < beval (restN b) := by
  have h1 := nb_range a
  have h2 := nb_range b
  unfold firstN at e
  unfold restN
  by_cases a1 : a < 241
  · rw [if_pos a1] at e
    exfalso
    by_cases b1 : b < 241
    · rw [if_pos b1] at e; omega
    · rw [if_neg b1] at e
      repeat' split at e
      all_goals omega
  · rw [if_neg a1] at e ⊢
    rw [if_neg (show ¬ b < 241 by omega)] at e ⊢
    by_cases a2 : a < 2288
    · rw [if_pos a2] at e ⊢
      by_cases b2 : b < 2288
      · rw [if_pos b2] at e ⊢
        refine ⟨by simp only [List.length_cons, List.length_nil], ?_⟩
        simp only [beval, List.foldl_cons, List.foldl_nil, UInt8.toNat_ofNat', Nat.zero_mul, Nat.zero_add, Nat.reducePow]
        omega
      · exfalso
        rw [if_neg b2] at e
        split at e <;> omega
    · rw [if_neg a2] at e ⊢
      rw [if_neg (show ¬ b < 2288 by omega)] at e ⊢
      by_cases a3 : a < 67824
      · rw [if_pos a3] at e ⊢
        by_cases b3 : b < 67824
        · rw [if_pos b3]
          refine ⟨by simp only [List.length_cons, List.length_nil], ?_⟩
          simp only [beval, List.foldl_cons, List.foldl_nil, UInt8.toNat_ofNat', Nat.zero_mul, Nat.zero_add, Nat.reducePow]
          omega
        · exfalso
          rw [if_neg b3] at e
          omega
      · rw [if_neg a3] at e ⊢
        rw [if_neg (show ¬ b < 67824 by omega)] at e ⊢
        have hnb : nb a = nb b := by omega
        rw [hnb, length_beK, length_beK, beval_beK, beval_beK, Nat.mod_eq_of_lt (nb_lt hb)]
        refine ⟨by simp only [List.length_cons, List.length_nil], ?_⟩
        exact Nat.lt_of_le_of_lt (Nat.mod_le _ _) h
/-- OF ANY TWO NUMBERS THE LESSER ONE's BYTES ARE LESS -/
theorem num_lt {a b : Nat} (hb : b < 18446744073709551616) (h : a < b) (x y : List UInt8) : Lib.compareBytes (numL a ++ x) (numL b ++ y) = -1 := by
  rw [numL_eq a, numL_eq b]
  have h1 := firstN_mono (Nat.le_of_lt h)
  have h2 := firstN_lt a
  have h3 := firstN_lt b
  simp only [List.cons_append, Lib.compareBytes]
  by_cases e : firstN a = firstN b
  · obtain ⟨e1, e2⟩ := rest_lt hb h e
    rw [e, if_neg (by rw [UInt8.lt_iff_toNat_lt]; omega), if_neg (by rw [UInt8.lt_iff_toNat_lt]; omega)]
    exact cmp_lex _ _ x y e1 e2
  · rw [if_pos (by rw [UInt8.lt_iff_toNat_lt]; simp; omega)]
def ltL (l m : List UInt8) : Bool := decide (Lib.compareBytes l m < 0)
theorem run_bytesOf (w : World) (A : Option Addr) (n c : Nat) (l : List UInt8) (h : Sl w 1 A n c (bc l)) :
    ∃ s : ByteArray, s.data.toList = l ∧ (Extern.Bytes.bytesOf (.slice A n c)).run Tryd.prog w = .ok s w := by
  have hl := h.lenb
  cases A with
  | none =>
    obtain rfl := h.none_len
    obtain rfl : l = [] := List.eq_nil_of_length_eq_zero hl
    exact ⟨.empty, rfl, rfl⟩
  | some ad =>
    have hm : Lib.bytesOf (l.map fun x => (x.toNat : Int)) = l := by
      unfold Lib.bytesOf
      rw [List.map_map]
      conv => rhs; rw [← List.map_id l]
      apply List.map_congr_left
      intro x _
      simp
    have hr := Lib.run_loadBytesX (P := Tryd.prog) w (l.map fun x => (x.toNat : Int)) ad .empty (fun j x hj => by
      have hjl : j < l.length := by
        have := (List.getElem?_eq_some_iff.1 hj).1
        simpa using this
      obtain ⟨b, o, e, hc⟩ := h.at_ (by omega)
      obtain rfl := Option.some.inj e
      have h1 := hc j (.int .u8 x) (by rw [bc_get]; simpa using hj)
      rw [Addr.add_lit]
      exact h1)
    rw [List.length_map, hl, hm] at hr
    refine ⟨_, ?_, hr⟩
    show (ByteArray.empty.data ++ l.toArray).toList = l
    simp
theorem run_cmp (w : World) (A : Option Addr) (n c : Nat) (l : List UInt8) (h : Sl w 1 A n c (bc l)) (A2 : Option Addr) (n2 c2 : Nat) (m : List UInt8) (h2 : Sl w 1 A2 n2 c2 (bc m)) :
    (Extern.BytealgCompare.compare #[.slice A n c, .slice A2 n2 c2]).run Tryd.prog w = .ok (.int .i64 (Lib.compareBytes l m)) w := by
  obtain ⟨s, e1, r1⟩ := run_bytesOf w A n c l h
  obtain ⟨t, e2, r2⟩ := run_bytesOf w A2 n2 c2 m h2
  change Sem.run Tryd.prog (do pure (goInt (Extern.BytealgCompare.cmp (← Extern.Bytes.bytesOf (.slice A n c)) (← Extern.Bytes.bytesOf (.slice A2 n2 c2))))) w = _
  simp only [Sem.run_bind, Sem.run_pure, r1, r2, Result.andThen]
  rw [Lib.cmp_eq, e1, e2]
  rfl
set_option maxHeartbeats 1000000 in
theorem less_any (w : World) (A : Option Addr) (n c : Nat) (l : List UInt8) (h : Sl w 1 A n c (bc l)) (A2 : Option Addr) (n2 c2 : Nat) (m : List UInt8) (h2 : Sl w 1 A2 n2 c2 (bc m)) :
    Calls Tryd.prog 79 #[.slice A n c, .slice A2 n2 c2] w fun e w' => e = .returned (.bool (ltL l m)) ∧ w = w' := by
  have hcall : (callFunc 83 #[.slice A n c, .slice A2 n2 c2]).run Tryd.prog w = .ok (.value (.int .i64 (Lib.compareBytes l m))) w := by
    rw [run_callFunc_extern Tryd.func83 (by kernel_rfl) (by kernel_rfl) (by kernel_rfl) (e := Extern.BytealgCompare.compare) (by kernel_rfl), run_cmp w A n c l h A2 n2 c2 m h2]
    rfl
  unfold ltL
  generalize Lib.compareBytes l m = z at *
  have hc : Calls Tryd.prog 82 #[.slice A n c, .slice A2 n2 c2] w fun e w' => e = .returned (.int .i64 z) ∧ w = w' := by
    go_enter Tryd.func82, Tryd.ntmps82
    go_wp2
    go_ret
    exact ⟨rfl, rfl⟩
  clear hcall
  have Hc := Lib.hid hc
  clear hc
  go_enter Tryd.func79, Tryd.ntmps79
  go_wp2_with fail
  refine Hc.out.mono ?_
  rintro e w' ⟨rfl, rfl⟩
  go_wp2
  go_ret
  exact ⟨rfl, rfl⟩
theorem less_is (w : World) (A : Option Addr) (n c : Nat) (l : List UInt8) (h : Sl w 1 A n c (bc l)) (A2 : Option Addr) (n2 c2 : Nat) (m : List UInt8) (h2 : Sl w 1 A2 n2 c2 (bc m)) (b : Bool) (hb : Hid (ltL l m = b)) :
    Calls Tryd.prog 79 #[.slice A n c, .slice A2 n2 c2] w fun e w' => e = .returned (.bool b) ∧ w = w' := by
  rw [← hb.out]
  exact less_any w A n c l h A2 n2 c2 m h2
end Go.Proofs.YtpjinmiedanebaaDoor

namespace Go.Proofs.YtpjinmiedanebaaDoor
set_option maxRecDepth 20000
open Go.RowKit

theorem cmp_val : ∀ l m : List UInt8, Lib.compareBytes l m = -1 ∨ Lib.compareBytes l m = 0 ∨ Lib.compareBytes l m = 1
  | [], [] => .inr (.inl rfl)
  | [], _ :: _ => .inl rfl
  | _ :: _, [] => .inr (.inr rfl)
  | a :: l, b :: m => by
    simp only [Lib.compareBytes]
    split
    · exact .inl rfl
    · split
      · exact .inr (.inr rfl)
      · exact cmp_val l m
theorem cmp_zero : ∀ l m : List UInt8, Lib.compareBytes l m = 0 ↔ l = m
  | [], [] => by simp [Lib.compareBytes]
  | [], _ :: _ => by simp [Lib.compareBytes]
  | _ :: _, [] => by simp [Lib.compareBytes]
  | a :: l, b :: m => by
    simp only [Lib.compareBytes]
    have ih := cmp_zero l m
    by_cases h1 : a < b
    · rw [if_pos h1]
      have : a ≠ b := fun e => by subst e; exact absurd h1 (by simp)
      simp [this]
    · rw [if_neg h1]
      by_cases h2 : b < a
      · rw [if_pos h2]
        have : a ≠ b := fun e => by subst e; exact absurd h2 (by simp)
        simp [this]
      · rw [if_neg h2, ih]
        have : a = b := UInt8.toNat_inj.1 (by rw [UInt8.lt_iff_toNat_lt] at h1 h2; omega)
        simp [this]
theorem cmp_trans : ∀ l m n : List UInt8, Lib.compareBytes l m < 0 → Lib.compareBytes m n < 0 → Lib.compareBytes l n < 0
  | [], m, n, h1, h2 => by
    cases m with
    | nil => simp [Lib.compareBytes] at h1
    | cons b m => cases n with
      | nil => simp [Lib.compareBytes] at h2
      | cons c n => simp [Lib.compareBytes]
  | a :: l, m, n, h1, h2 => by
    cases m with
    | nil => simp [Lib.compareBytes] at h1
    | cons b m => cases n with
      | nil => simp [Lib.compareBytes] at h2
      | cons c n =>
        simp only [Lib.compareBytes] at h1 h2 ⊢
        simp only [UInt8.lt_iff_toNat_lt] at h1 h2 ⊢
        have ih := cmp_trans l m n
        split at h1
        · split at h2
          · rw [if_pos (by omega)]; omega
          · split at h2
            · omega
            · rw [if_pos (by omega)]; omega
        · split at h1
          · omega
          · split at h2
            · rw [if_pos (by omega)]; omega
            · split at h2
              · omega
              · rw [if_neg (by omega), if_neg (by omega)]
                exact ih h1 h2
/-- of two numbers, as cmp.Compare has it -/
def cmpN (a b : Nat) : Int := if a < b then -1 else if b < a then 1 else 0
theorem cmpN_val (a b : Nat) : cmpN a b = -1 ∨ cmpN a b = 0 ∨ cmpN a b = 1 := by
  unfold cmpN
  split
  · exact .inl rfl
  · split
    · exact .inr (.inr rfl)
    · exact .inr (.inl rfl)
theorem cmpN_sgn (a b : Nat) : (cmpN a b < 0 ↔ a < b) ∧ (cmpN a b = 0 ↔ a = b) := by
  unfold cmpN
  repeat' split
  all_goals omega
/-- of two versions -/
def cmpKey (a b : KeyL) : Int :=
  if Lib.compareBytes a.user b.user ≠ 0 then Lib.compareBytes a.user b.user
  else if cmpN b.seq.toNat a.seq.toNat ≠ 0 then cmpN b.seq.toNat a.seq.toNat else cmpN b.kind.toNat a.kind.toNat
def lessKey (a b : KeyL) : Bool :=
  if !(a.user == b.user) then ltL a.user b.user else if !(a.seq == b.seq) then decide (b.seq.toNat < a.seq.toNat) else decide (b.kind.toNat < a.kind.toNat)
theorem cmpKey_val (a b : KeyL) : cmpKey a b = -1 ∨ cmpKey a b = 0 ∨ cmpKey a b = 1 := by
  unfold cmpKey
  split
  · exact cmp_val _ _
  · split
    · exact cmpN_val _ _
    · exact cmpN_val _ _
theorem cmpKey_swap (a b : KeyL) : cmpKey b a = - cmpKey a b := by
  have h1 := cmp_swap a.user b.user
  have h2 : cmpN a.seq.toNat b.seq.toNat = - cmpN b.seq.toNat a.seq.toNat := by unfold cmpN; repeat' split <;> omega
  have h3 : cmpN a.kind.toNat b.kind.toNat = - cmpN b.kind.toNat a.kind.toNat := by unfold cmpN; repeat' split <;> omega
  unfold cmpKey
  rw [h1, h2, h3]
  repeat' split
  all_goals omega
theorem cmpKey_zero (a b : KeyL) : cmpKey a b = 0 ↔ a = b := by
  unfold cmpKey
  have h1 := cmp_zero a.user b.user
  have h2 : cmpN b.seq.toNat a.seq.toNat = 0 ↔ a.seq = b.seq := by
    rw [← UInt64.toNat_inj]
    unfold cmpN
    repeat' split
    all_goals omega
  have h3 : cmpN b.kind.toNat a.kind.toNat = 0 ↔ a.kind = b.kind := by
    rw [← UInt8.toNat_inj]
    unfold cmpN
    repeat' split
    all_goals omega
  cases a with | mk u s k => cases b with | mk u' s' k' =>
  simp only [KeyL.mk.injEq] at *
  split
  · rename_i h
    constructor
    · intro e; exact absurd e h
    · rintro ⟨e, _⟩; exact absurd (h1.2 e) h
  · rename_i h
    have h := h1.1 (by omega)
    split
    · rename_i h'
      constructor
      · intro e; exact absurd e h'
      · rintro ⟨_, e, _⟩; exact absurd (h2.2 e) h'
    · rename_i h'
      have h' := h2.1 (by omega)
      rw [h3]
      simp [h, h']
theorem cmpKey_less (a b : KeyL) : decide (cmpKey a b < 0) = lessKey a b := by
  unfold cmpKey lessKey
  have h1 := cmp_zero a.user b.user
  by_cases hu : a.user = b.user
  · have hu0 := h1.2 hu
    have hub : (!(a.user == b.user)) = false := by rw [hu]; simp
    rw [if_neg (by omega), hub]
    simp only [Bool.false_eq_true, if_false]
    by_cases hs : a.seq = b.seq
    · have hsb : (!(a.seq == b.seq)) = false := by rw [hs]; simp
      have hz : cmpN b.seq.toNat a.seq.toNat = 0 := by rw [hs]; unfold cmpN; simp
      rw [if_neg (by omega), hsb]
      simp only [Bool.false_eq_true, if_false, decide_eq_decide]
      unfold cmpN
      repeat' split
      all_goals omega
    · have hs' : a.seq.toNat ≠ b.seq.toNat := fun e => hs (UInt64.toNat_inj.1 e)
      have hsb : (!(a.seq == b.seq)) = true := by simp [hs]
      have hz : cmpN b.seq.toNat a.seq.toNat ≠ 0 := by
        unfold cmpN
        repeat' split
        all_goals omega
      rw [if_pos hz, hsb]
      simp only [if_true, decide_eq_decide]
      unfold cmpN
      repeat' split
      all_goals omega
  · have hub : (!(a.user == b.user)) = true := by simp [hu]
    rw [if_pos (fun e => hu (h1.1 e)), hub]
    rfl
theorem cmpKey_trans (a b c : KeyL) (h1 : cmpKey a b < 0) (h2 : cmpKey b c < 0) : cmpKey a c < 0 := by
  unfold cmpKey at *
  have t := cmp_trans a.user b.user c.user
  have z1 := cmp_zero a.user b.user
  have z2 := cmp_zero b.user c.user
  have v := cmp_val a.user c.user
  by_cases e1 : a.user = b.user
  · have q1 := z1.2 e1
    rw [if_neg (by omega)] at h1
    by_cases e2 : b.user = c.user
    · have q2 := z2.2 e2
      rw [if_neg (by omega)] at h2
      rw [e1, e2, cmp_self, if_neg (by omega)]
      clear t z1 z2 v e1 e2 q1 q2
      have a1 := cmpN_sgn b.seq.toNat a.seq.toNat
      have a2 := cmpN_sgn c.seq.toNat b.seq.toNat
      have a3 := cmpN_sgn c.seq.toNat a.seq.toNat
      have k1 := cmpN_sgn b.kind.toNat a.kind.toNat
      have k2 := cmpN_sgn c.kind.toNat b.kind.toNat
      have k3 := cmpN_sgn c.kind.toNat a.kind.toNat
      generalize cmpN b.seq.toNat a.seq.toNat = x1 at *
      generalize cmpN c.seq.toNat b.seq.toNat = x2 at *
      generalize cmpN c.seq.toNat a.seq.toNat = x3 at *
      generalize cmpN b.kind.toNat a.kind.toNat = y1 at *
      generalize cmpN c.kind.toNat b.kind.toNat = y2 at *
      generalize cmpN c.kind.toNat a.kind.toNat = y3 at *
      by_cases e1 : x1 = 0
      · rw [if_neg (by omega)] at h1
        by_cases e2 : x2 = 0
        · rw [if_neg (by omega)] at h2
          rw [if_neg (by omega)]
          omega
        · rw [if_pos e2] at h2
          rw [if_pos (by omega)]
          omega
      · rw [if_pos e1] at h1
        by_cases e2 : x2 = 0
        · rw [if_pos (by omega)]
          omega
        · rw [if_pos e2] at h2
          rw [if_pos (by omega)]
          omega
    · rw [if_pos (by rw [ne_eq, z2]; exact e2)] at h2
      rw [e1, if_pos (by rw [ne_eq, z2]; exact e2)]
      exact h2
  · rw [if_pos (by rw [ne_eq, z1]; exact e1)] at h1
    by_cases e2 : b.user = c.user
    · rw [← e2, if_pos (by rw [ne_eq, z1]; exact e1)]
      exact h1
    · rw [if_pos (by rw [ne_eq, z2]; exact e2)] at h2
      have := t h1 h2
      rw [if_pos (by omega)]
      exact this
theorem cmpKey_le_trans (a b c : KeyL) (h1 : cmpKey a b ≤ 0) (h2 : cmpKey b c ≤ 0) : cmpKey a c ≤ 0 := by
  by_cases e1 : cmpKey a b = 0
  · rw [(cmpKey_zero a b).1 e1]; exact h2
  · by_cases e2 : cmpKey b c = 0
    · rw [← (cmpKey_zero b c).1 e2]; exact h1
    · have := cmpKey_trans a b c (by omega) (by omega)
      omega
/-- is a version right? the error's number -/
def checkKey (k : KeyL) : Nat :=
  if k.seq.toNat ≥ 72057594037927936 ∨ k.kind.toNat < 1 ∨ k.kind.toNat > 2 then 1 else if k.user.length = 0 then 2 else if k.user.length > 64 then 3 else 0
/-- eight bytes, the least first -/
def le8 (n : Nat) : List UInt8 := (List.range 8).map fun i => UInt8.ofNat (n / 256 ^ i)
def keyN (k : KeyL) : Nat := k.seq.toNat * 256 + k.kind.toNat
def keyBytesL (k : KeyL) : List UInt8 := textL k.user ++ le8 (keyN k)
def cutKey (k : KeyL) : KeyL := { k with user := k.user.take 80 }
theorem after_lt (a : List UInt8) : Lib.compareBytes a (a ++ [0]) = -1 := by
  induction a with
  | nil => rfl
  | cons x a ih => simp [Lib.compareBytes, ih]
theorem after_next : ∀ a b : List UInt8, Lib.compareBytes a b < 0 → ¬ Lib.compareBytes b (a ++ [0]) < 0
  | [], [], h => by simp [Lib.compareBytes] at h
  | [], y :: b, _ => by
    simp only [List.nil_append, Lib.compareBytes]
    have : ¬ y < 0 := by simp [UInt8.lt_iff_toNat_lt]
    rw [if_neg this]
    split
    · omega
    · cases b with
      | nil => simp [Lib.compareBytes]
      | cons z b => simp [Lib.compareBytes]
  | x :: a, [], h => by simp [Lib.compareBytes] at h
  | x :: a, y :: b, h => by
    have ih := after_next a b
    simp only [List.cons_append, Lib.compareBytes] at h ⊢
    by_cases h1 : x < y
    · have h2 : ¬ y < x := by rw [UInt8.lt_iff_toNat_lt] at *; omega
      rw [if_neg h2, if_pos h1]
      omega
    · rw [if_neg h1] at h
      by_cases h2 : y < x
      · rw [if_pos h2] at h
        omega
      · rw [if_neg h2] at h
        rw [if_neg h2, if_neg h1]
        exact ih h
/-- what a number says behind a key -/
theorem ltL_self (a : List UInt8) : ltL a a = false := by unfold ltL; rw [cmp_self]; rfl
theorem ltL_swap {a b : List UInt8} (h : ltL a b = true) : ltL b a = false := by
  unfold ltL at *
  have := cmp_swap a b
  have h := of_decide_eq_true h
  exact decide_eq_false (by omega)
theorem upto_law (k : KeyL) (user : List UInt8) (seq : UInt64) (hk : checkKey k = 0) :
    (if ltL k.user user then decide (cmpKey k ⟨user, UInt64.ofNat (min seq.toNat 72057594037927935), 2⟩ < 0) else if ltL user k.user then !decide (cmpKey k ⟨user, UInt64.ofNat (min seq.toNat 72057594037927935), 2⟩ < 0)
      else decide (cmpKey k ⟨user, UInt64.ofNat (min seq.toNat 72057594037927935), 2⟩ < 0) == decide (k.seq.toNat > seq.toNat)) = true := by
  have hs : (UInt64.ofNat (min seq.toNat 72057594037927935)).toNat = min seq.toNat 72057594037927935 := by
    have := seq.toNat_lt
    simp
    omega
  unfold checkKey at hk
  split at hk
  · omega
  · rename_i hc
    by_cases h1 : ltL k.user user = true
    · rw [if_pos h1]
      unfold ltL at h1
      have h1 := of_decide_eq_true h1
      unfold cmpKey
      rw [if_pos (by simp only; omega)]
      exact decide_eq_true h1
    · rw [if_neg h1]
      by_cases h2 : ltL user k.user = true
      · rw [if_pos h2]
        unfold ltL at h2
        have h2 := of_decide_eq_true h2
        have h3 := cmp_swap user k.user
        unfold cmpKey
        rw [if_pos (by simp only; omega)]
        simp only [Bool.not_eq_true', decide_eq_false_iff_not]
        omega
      · rw [if_neg h2]
        have h3 := cmp_swap user k.user
        unfold ltL at h1 h2
        have h1 := of_decide_eq_false (Bool.not_eq_true _ ▸ h1)
        have h2 := of_decide_eq_false (Bool.not_eq_true _ ▸ h2)
        have e : Lib.compareBytes k.user user = 0 := by omega
        unfold cmpKey
        simp only [e, ne_eq, not_true_eq_false, if_false, hs]
        have h2k : (2 : UInt8).toNat = 2 := rfl
        rw [h2k]
        simp only [beq_iff_eq, decide_eq_decide]
        unfold cmpN
        have hq := k.seq.toNat_lt
        repeat' split
        all_goals omega
end Go.Proofs.YtpjinmiedanebaaDoor

namespace Go.Proofs.YtpjinmiedanebaaDoor
set_option maxRecDepth 20000
open Go.RowKit

/-- the table lies in its variable -/
def Quarter (w : World) : Prop := ∀ i, i < 16 → w.cell? ⟨0, i, none⟩ = some (.int .u32 (quarterL.getD i 0 : Nat))

set_option maxHeartbeats 400000 in
theorem sum_any (w : World) (A : Option Addr) (n c : Nat) (vs : List Value) (ls : List (List UInt8)) (h : Sl w 1 A n c vs) (hp : PartsOf w vs ls) (hq : Quarter w) :
    Calls Tryd.prog 70 #[.slice A n c] w fun e w' => e = .returned (.int .u32 (sumL ls.flatten : Nat)) ∧ w = w' := by
  have hm := h.capm
  have hcap := h.cap
  unfold maxLen at hm
  have hlen := h.len
  have hpl := hp.1
  have Hlen : Hid (ls.length = n) := by unfold Hid; omega
  clear hlen hpl
  go_enter Tryd.func70, Tryd.ntmps70
  go_wp2
  go_loop [3, 10] (fun s i => ∃ k : Nat, k ≤ n ∧ i = .int .i64 k ∧ s = .int .u32 (crcL 4294967295 (ls.take k).flatten : Nat)) (fun _ i => n - (intOf i).toNat)
  case atStart => exact ⟨0, Nat.zero_le _, rfl, rfl⟩
  case round =>
    obtain ⟨k, hk, rfl, rfl⟩ := hrel
    by_cases hlt : k < n
    · obtain ⟨b, o, A', n', c', hkl, rfl, hcell, hsl⟩ := hp.get h hlt
      have Hn' : Hid (ls[k].length = n') := hsl.lenb
      have hm' := hsl.capm
      have hcap' := hsl.cap
      unfold maxLen at hm'
      have hs0 := crcL_lt (c := 4294967295) (by omega) (ls.take k).flatten
      generalize hz : crcL 4294967295 (ls.take k).flatten = z at *
      have Hz := Lib.hid hz
      clear hz
      go_wp2
      go_loop [3, 16] (fun s i => ∃ j : Nat, j ≤ n' ∧ i = .int .i64 j ∧ s = .int .u32 (crcL z (ls[k].take j) : Nat)) (fun _ i => n' - (intOf i).toNat)
      case atStart => exact ⟨0, Nat.zero_le _, rfl, rfl⟩
      case round =>
        obtain ⟨j, hj, rfl, rfl⟩ := hrel
        by_cases hjn : j < n'
        · have hjl : j < ls[k].length := by have := Hn'.out; omega
          obtain ⟨b', o', x, rfl, hxe, hx, hbyte⟩ := hsl.byte hjl
          have hs1 := crcL_lt hs0 (ls[k].take j)
          have Hst := crcL_snoc z (ls[k].take j) ls[k][j]
          rw [← take_snoc _ _ hjl, hxe] at Hst
          clear hxe
          generalize crcL z (ls[k].take j) = y at *
          obtain ⟨t, hte, htl⟩ : ∃ t : Nat, y ^^^ x = t ∧ t < 4294967296 := ⟨_, rfl, Nat.xor_lt_two_pow (n := 32) hs1 (by omega)⟩
          have e1 : bits .xor .u32 (y : Int) (x : Int) = (t : Int) := by rw [u32_xor_nat _ _ hs1 (by omega), hte]
          obtain ⟨t2, hte2, htl2⟩ : ∃ t2 : Nat, nib t = t2 ∧ t2 < 4294967296 := ⟨_, rfl, nib_lt htl⟩
          unfold stepB at Hst
          rw [hte, hte2] at Hst
          have HST := Lib.hid Hst
          clear Hst hte
          have e2 : bits .and .u32 (t : Int) 15 = ((t % 16 : Nat) : Int) := by rw [← nat_mask4]; exact u32_and_nat t 15 htl (by omega)
          have e3 : bits .and .u32 (t2 : Int) 15 = ((t2 % 16 : Nat) : Int) := by rw [← nat_mask4]; exact u32_and_nat t2 15 htl2 (by omega)
          have q1 := hq (t % 16) (by omega)
          have q2 := hq (t2 % 16) (by omega)
          have e4 : bits .xor .u32 ((t : Int) / 16) (quarterL.getD (t % 16) 0 : Nat) = (t2 : Int) := by
            rw [← hte2]; exact u32_xor_nat (t / 16) _ (by omega) (quarter_lt _)
          have e5 : bits .xor .u32 ((t2 : Int) / 16) (quarterL.getD (t2 % 16) 0 : Nat) = (nib t2 : Nat) := by
            exact u32_xor_nat (t2 / 16) _ (by omega) (quarter_lt _)
          clear hte2
          generalize quarterL.getD (t % 16) 0 = qa at *
          generalize quarterL.getD (t2 % 16) 0 = qb at *
          go_wp2
          go_round
          case rel => exact ⟨j + 1, by omega, by go_num, by rw [HST.out]⟩
          case measure => simp [intOf]; omega
        · obtain rfl : j = n' := by omega
          go_wp2
          go_round
          case rel => 
            refine ⟨k + 1, by omega, by go_num, ?_⟩
            rw [take_snoc _ _ hkl, List.flatten_append, crcL_append, Hz.out]
            rw [List.take_of_length_le (show ls[k].length ≤ j by have := Hn'.out; omega)]
            simp
          case measure => simp [intOf]; omega
    · obtain rfl : k = n := by omega
      go_wp2
      go_ret
      have hs := crcL_lt (c := 4294967295) (by omega) ls.flatten
      refine ⟨?_, rfl⟩
      rw [List.take_of_length_le (show ls.length ≤ k by have := Hlen.out; omega)]
      refine ret_int ?_
      unfold sumL
      rw [← xor_ones hs]
      exact u32_xor_nat 4294967295 _ (by omega) hs
set_option maxHeartbeats 400000 in
/-- bits.RotateLeft32 by -15 -/
theorem rot17 (w : World) (x : Nat) (hx : x < 4294967296) :
    Calls Tryd.prog 78 #[.int .u32 (x : Int), .int .i64 (-15)] w fun e w' => e = .returned (.int .u32 (x / 32768 + x % 32768 * 131072 : Nat)) ∧ w = w' := by
  have k1 : bits .and .u64 (IntKind.u64.wrap (-15)) 31 = 17 := by decide +kernel
  go_enter Tryd.func78, Tryd.ntmps78
  go_wp2
  go_ret
  refine ⟨ret_int ?_, rfl⟩
  have e : x / 32768 + x % 32768 * 131072 = (x % 32768 * 131072) ||| (x / 32768) := by
    rw [nat_join 17 _ _ (by omega) (by omega)]; omega
  have h := u32_or_nat (x % 32768 * 131072) (x / 32768) (by omega) (by omega)
  rw [e, ← h]
  congr 1
  omega
set_option maxHeartbeats 400000 in
/-- .. by 15 -/
theorem rot15 (w : World) (x : Nat) (hx : x < 4294967296) :
    Calls Tryd.prog 78 #[.int .u32 (x : Int), .int .i64 15] w fun e w' => e = .returned (.int .u32 (x / 131072 + x % 131072 * 32768 : Nat)) ∧ w = w' := by
  have k1 : bits .and .u64 15 31 = 15 := by decide +kernel
  go_enter Tryd.func78, Tryd.ntmps78
  go_wp2
  go_ret
  refine ⟨ret_int ?_, rfl⟩
  have e : x / 131072 + x % 131072 * 32768 = (x % 131072 * 32768) ||| (x / 131072) := by
    rw [nat_join 15 _ _ (by omega) (by omega)]; omega
  have h := u32_or_nat (x % 131072 * 32768) (x / 131072) (by omega) (by omega)
  rw [e, ← h]
  congr 1
  omega
def maskL (x : Nat) : Nat := (x / 32768 + x % 32768 * 131072 + 2726488792) % 4294967296
def unmaskL (x : Nat) : Nat := (x + 1568478504) % 4294967296 / 131072 + (x + 1568478504) % 4294967296 % 131072 * 32768
theorem maskL_lt (x : Nat) : maskL x < 4294967296 := by unfold maskL; omega
set_option maxHeartbeats 400000 in
theorem mask_any (w : World) (x : Nat) (hx : x < 4294967296) :
    Calls Tryd.prog 69 #[.int .u32 (x : Int)] w fun e w' => e = .returned (.int .u32 (maskL x : Nat)) ∧ w = w' := by
  go_enter Tryd.func69, Tryd.ntmps69
  go_wp2_with ((with_reducible refine (rot17 _ _ hx).mono ?_); rintro e w' ⟨rfl, rfl⟩)
  go_ret
  refine ⟨ret_int ?_, rfl⟩
  unfold maskL
  omega
theorem Quarter.below {w w' : World} (h : Quarter w) (hb : Below w.heap.size w w') : Quarter w' := fun i hi => by
  have := h i hi
  rw [hb.cell (p := ⟨0, i, none⟩) (World.block_lt_of_cell? _ _ this)]
  exact this
/-- a number's four bytes, the least first -/
def le4 (s : Nat) : List UInt8 := [UInt8.ofNat s, UInt8.ofNat (s / 256), UInt8.ofNat (s / 65536), UInt8.ofNat (s / 16777216)]
def closeL (l : List UInt8) : List UInt8 := l ++ le4 (maskL (sumL l))
/-- one text in a list of one -/
theorem one_part (w : World) (A : Option Addr) (n c : Nat) (l : List UInt8) (h : Sl w 1 A n c (bc l)) (e : TypeId) :
    Sl (w.alloc (.cells #[.slice A n c] e)) 1 (some ⟨w.heap.size, 0, none⟩) 1 1 [.slice A n c] ∧ PartsOf (w.alloc (.cells #[.slice A n c] e)) [.slice A n c] [l] := by
  constructor
  · exact (Own.fresh w 0 e 1 1 1 #[.slice A n c] [.slice A n c] (Nat.zero_le _) (Nat.le_refl _) (by unfold maxLen; omega) rfl rfl rfl).sl
  · refine ⟨rfl, fun i v x hv hx => ?_⟩
    rcases i with _ | i
    · simp at hv hx
      subst hv
      subst hx
      exact ⟨A, n, c, rfl, h.below (by omega) ((Below.refl _ _).alloc (Nat.le_refl _) _)⟩
    · simp at hv

theorem u8i (t : Nat) : (((UInt8.ofNat t).toNat : Nat) : Int) = (t : Int) % 256 := by simp
theorem set_le4 (l : List UInt8) (n s k : Nat) (hl : l.length = n) (hk : k < 4) :
    (l ++ ((le4 s).take k ++ List.replicate (4 - k) 0)).set (n + k) (UInt8.ofNat (s / 256 ^ k)) = l ++ ((le4 s).take (k + 1) ++ List.replicate (4 - (k + 1)) 0) := by
  subst hl
  rw [List.set_append_right _ _ (by omega)]
  congr 1
  obtain rfl | rfl | rfl | rfl : k = 0 ∨ k = 1 ∨ k = 2 ∨ k = 3 := by omega
  all_goals simp [le4, List.replicate]

/-- what a call gives back that makes bytes of its own, or none, and an error's number -/
def NewB2 (w : World) (l : List UInt8) (q : Nat) (e : Ending) (w' : World) : Prop :=
  ∃ (A : Option Addr) (n c : Nat), e = .returned (.tuple #[.slice A n c, .int .i64 (q : Int)]) ∧ OwnB w' w.heap.size A n c l ∧ Below w.heap.size w w'
def openL (l : List UInt8) : List UInt8 × Nat :=
  if l.length < 4 then ([], 2) else if closeL (l.take (l.length - 4)) == l then (l.take (l.length - 4), 0) else ([], 5)

end Go.Proofs.YtpjinmiedanebaaDoor

namespace Go.Proofs.YtpjinmiedanebaaDoor
set_option maxRecDepth 20000

def padN (at_ : Nat) : Nat := if 64 - at_ % 64 < 7 then 64 - at_ % 64 else 0
def roomN (at_ : Nat) : Nat := 57 - (at_ + padN at_) % 64
theorem padN_le (a : Nat) : padN a ≤ 6 := by unfold padN; split <;> omega
theorem padN_mod (a : Nat) : padN (a % 64) = padN a := by unfold padN; rw [Nat.mod_mod]
theorem roomN_mod (a : Nat) : roomN (a % 64) = roomN a := by unfold roomN; rw [padN_mod]; congr 1; omega
theorem roomN_le (a : Nat) : roomN a ≤ 57 := by unfold roomN; omega
theorem room_at (a : Nat) : (a + padN a) % 64 + 7 + roomN a = 64 := by
  unfold roomN padN
  split <;> omega
theorem room_zero (a : Nat) (h : roomN a = 0) : a % 64 = 57 := by
  have := room_at a
  unfold padN at this
  split at this <;> omega
theorem room_go (a : Nat) : roomN (a + padN a + 7 + roomN a) = 57 := by
  have h1 := room_at a
  have h3 : (a + padN a + 7 + roomN a) % 64 = 0 := by omega
  generalize a + padN a + 7 + roomN a = x at *
  have h4 : padN x = 0 := by unfold padN; rw [h3]; rfl
  unfold roomN
  rw [h4]
  omega
theorem room_next (a : Nat) (h : roomN a = 0) : roomN (a + padN a + 7 + 0) = 57 := by
  have := room_go a
  rwa [h] at this
def kindN (b e : Bool) : Nat := match b, e with
  | true, true => 1
  | true, false => 2
  | false, true => 4
  | false, false => 3
theorem kindN_lt (b e : Bool) : kindN b e < 256 := by cases b <;> cases e <;> decide
def headL (k : Nat) (p : List UInt8) : List UInt8 := le4 (maskL (sumL (UInt8.ofNat k :: p))) ++ [UInt8.ofNat p.length, UInt8.ofNat (p.length / 256), UInt8.ofNat k]
def pieceL (k : Nat) (p : List UInt8) : List UInt8 := headL k p ++ p
@[simp] theorem headL_length (k : Nat) (p : List UInt8) : (headL k p).length = 7 := by simp [headL, le4]
@[simp] theorem pieceL_length (k : Nat) (p : List UInt8) : (pieceL k p).length = 7 + p.length := by simp [pieceL]

/-- a record's bytes at a place; b: does it begin here? -/
def frameL (a : Nat) (b : Bool) (p : List UInt8) : List UInt8 :=
  if h : p.length ≤ roomN a then List.replicate (padN a) 0 ++ pieceL (kindN b true) p
  else List.replicate (padN a) 0 ++ pieceL (kindN b false) (p.take (roomN a)) ++ frameL (a + padN a + 7 + roomN a) false (p.drop (roomN a))
termination_by 2 * p.length + (if roomN a = 0 then 1 else 0)
decreasing_by
  rw [List.length_drop]
  by_cases h0 : roomN a = 0
  · have := room_next a h0
    rw [h0, this]
    simp
  · rw [if_neg h0]
    split <;> omega
theorem frameL_end (a : Nat) (b : Bool) (p : List UInt8) (h : p.length ≤ roomN a) : frameL a b p = List.replicate (padN a) 0 ++ pieceL (kindN b true) p := by
  rw [frameL, dif_pos h]
theorem frameL_go (a : Nat) (b : Bool) (p : List UInt8) (h : ¬ p.length ≤ roomN a) :
    frameL a b p = List.replicate (padN a) 0 ++ pieceL (kindN b false) (p.take (roomN a)) ++ frameL (a + padN a + 7 + roomN a) false (p.drop (roomN a)) := by
  rw [frameL, dif_neg h]
theorem frameL_mod (a a' : Nat) (b : Bool) (p : List UInt8) (h : a % 64 = a' % 64) : frameL a b p = frameL a' b p := by
  have hp : padN a = padN a' := by rw [← padN_mod a, ← padN_mod a', h]
  have hr : roomN a = roomN a' := by rw [← roomN_mod a, ← roomN_mod a', h]
  by_cases hl : p.length ≤ roomN a
  · rw [frameL_end a b p hl, frameL_end a' b p (by omega), hp]
  · rw [frameL_go a b p hl, frameL_go a' b p (by omega), hp, hr, frameL_mod (a + padN a' + 7 + roomN a') (a' + padN a' + 7 + roomN a') false (p.drop (roomN a')) (by omega)]
termination_by 2 * p.length + (if roomN a = 0 then 1 else 0)
decreasing_by
  rw [List.length_drop, ← hp, ← hr]
  by_cases h0 : roomN a = 0
  · have := room_next a h0
    rw [h0, this]
    simp
  · rw [if_neg h0]
    split <;> omega
theorem frameL_length (a : Nat) (b : Bool) (p : List UInt8) : 7 + p.length ≤ (frameL a b p).length ∧ (frameL a b p).length ≤ 14 * p.length + 13 + (if roomN a = 0 then 7 else 0) := by
  have hpad := padN_le a
  by_cases hl : p.length ≤ roomN a
  · rw [frameL_end a b p hl]
    simp
    omega
  · have ih := frameL_length (a + padN a + 7 + roomN a) false (p.drop (roomN a))
    have hgo := room_go a
    have hz := room_zero a
    have hp0 : roomN a = 0 → padN a = 0 := fun h => by unfold padN; rw [if_neg (by have := hz h; omega)]
    rw [frameL_go a b p hl]
    rw [hgo, List.length_drop] at ih
    simp only [List.length_append, List.length_replicate, pieceL_length, List.length_take]
    generalize (frameL (a + padN a + 7 + roomN a) false (p.drop (roomN a))).length = F at *
    have e : min (roomN a) p.length = roomN a := by omega
    rw [e]
    by_cases h0 : roomN a = 0
    · have := hp0 h0
      rw [if_pos h0]
      rw [if_neg (by omega)] at ih
      omega
    · rw [if_neg h0]
      rw [if_neg (by omega)] at ih
      omega
termination_by 2 * p.length + (if roomN a = 0 then 1 else 0)
decreasing_by
  rw [List.length_drop]
  by_cases h0 : roomN a = 0
  · have := room_next a h0
    rw [h0, this]
    simp
  · rw [if_neg h0]
    split <;> omega
def framed (at_ : Int) (p : List UInt8) : List UInt8 × Nat :=
  if at_ < 0 then ([], 1) else if 65536 < p.length then ([], 3) else (frameL at_.toNat true p, 0)
end Go.Proofs.YtpjinmiedanebaaDoor
