/-
  What bytes.Compare and atom.Less answer: which of two texts stands ahead; and that numbers' bytes rise as they do. No condition but sizes.
-/
import Derived.Test.YtfonincdhjkacaaAtomJoin
import Derived.Lib.BytesEntry
namespace Go.Proofs.Ytfonincdhjkacaa
set_option maxRecDepth 20000
open Go.RowKit

theorem cmp_append (p l m : List UInt8) : Lib.compareBytes (p ++ l) (p ++ m) = Lib.compareBytes l m := by
  induction p with
  | nil => rfl
  | cons a p ih => simp [Lib.compareBytes, ih]
theorem cmp_self (l : List UInt8) : Lib.compareBytes l l = 0 := by
  induction l with
  | nil => rfl
  | cons a l ih => simp [Lib.compareBytes, ih]
theorem cmp_swap : ∀ (l m : List UInt8), Lib.compareBytes m l = - Lib.compareBytes l m
  | [], [] => rfl
  | [], _ :: _ => rfl
  | _ :: _, [] => rfl
  | a :: l, b :: m => by
    have ih := cmp_swap l m
    simp only [Lib.compareBytes]
    by_cases h1 : a < b
    · have h2 : ¬ b < a := fun h => by
        rw [UInt8.lt_iff_toNat_lt] at h1 h
        omega
      simp [h1, h2]
    · by_cases h2 : b < a
      · simp [h1, h2]
      · simp [h1, h2, ih]
theorem cmp_lex : ∀ (l m x y : List UInt8), l.length = m.length → beval l < beval m → Lib.compareBytes (l ++ x) (m ++ y) = -1
  | [], [], _, _, _, h => by simp [beval] at h
  | a :: l, b :: m, x, y, hl, h => by
    have hl' : l.length = m.length := by simpa using hl
    rw [beval_cons, beval_cons, hl'] at h
    have h1 := beval_lt l
    have h2 := beval_lt m
    rw [hl'] at h1
    simp only [List.cons_append, Lib.compareBytes]
    rcases Nat.lt_trichotomy a.toNat b.toNat with h3 | h3 | h3
    · rw [if_pos (UInt8.lt_iff_toNat_lt.2 h3)]
    · have e : a = b := UInt8.toNat_inj.1 h3
      subst e
      rw [if_neg (by rw [UInt8.lt_iff_toNat_lt]; omega), if_neg (by rw [UInt8.lt_iff_toNat_lt]; omega)]
      exact cmp_lex l m x y hl' (by omega)
    · exfalso
      have h4 : (b.toNat + 1) * 256 ^ m.length ≤ a.toNat * 256 ^ m.length := Nat.mul_le_mul_right _ h3
      rw [Nat.succ_mul] at h4
      omega
  | [], _ :: _, _, _, h, _ => by simp at h
  | _ :: _, [], _, _, h, _ => by simp at h
theorem nb_mono {a b : Nat} (h : a ≤ b) : nb a ≤ nb b := by
  unfold nb
  repeat' split
  all_goals omega
/-- a number's first byte, and those behind it -/
def firstN (n : Nat) : Nat := if n < 241 then n else if n < 2288 then 241 + (n - 240) / 256 else if n < 67824 then 249 else 247 + nb n
def restN (n : Nat) : List UInt8 := if n < 241 then [] else if n < 2288 then [UInt8.ofNat (n - 240)] else if n < 67824 then [UInt8.ofNat ((n - 2288) / 256), UInt8.ofNat (n - 2288)] else beK (nb n) n
theorem numL_eq (n : Nat) : numL n = UInt8.ofNat (firstN n) :: restN n := by
  unfold numL firstN restN
  repeat' split
  all_goals first | rfl | omega
theorem firstN_lt (n : Nat) : firstN n < 256 := by
  have := nb_range n
  unfold firstN
  repeat' split
  all_goals omega
theorem firstN_mono {a b : Nat} (h : a ≤ b) : firstN a ≤ firstN b := by
  have h1 := nb_mono h
  have h2 := nb_range a
  have h3 := nb_range b
  unfold firstN
  repeat' split
  all_goals omega
theorem rest_lt {a b : Nat} (hb : b < 18446744073709551616) (h : a < b) (e : firstN a = firstN b) : (restN a).length = (restN b).length ∧ beval (restN a) < beval (restN b) := by
  have h1 := nb_range a
  have h2 := nb_range b
  unfold firstN at e
  unfold restN
  by_cases a1 : a < 241
  · rw [if_pos a1] at e
    exfalso
    by_cases b1 : b < 241
    · rw [if_pos b1] at e; omega
    · rw [if_neg b1] at e
      repeat' split at e
      all_goals omega
  · rw [if_neg a1] at e ⊢
    rw [if_neg (show ¬ b < 241 by omega)] at e ⊢
    by_cases a2 : a < 2288
    · rw [if_pos a2] at e ⊢
      by_cases b2 : b < 2288
      · rw [if_pos b2] at e ⊢
        refine ⟨by simp only [List.length_cons, List.length_nil], ?_⟩
        simp only [beval, List.foldl_cons, List.foldl_nil, UInt8.toNat_ofNat', Nat.zero_mul, Nat.zero_add, Nat.reducePow]
        omega
      · exfalso
        rw [if_neg b2] at e
        split at e <;> omega
    · rw [if_neg a2] at e ⊢
      rw [if_neg (show ¬ b < 2288 by omega)] at e ⊢
      by_cases a3 : a < 67824
      · rw [if_pos a3] at e ⊢
        by_cases b3 : b < 67824
        · rw [if_pos b3]
          refine ⟨by simp only [List.length_cons, List.length_nil], ?_⟩
          simp only [beval, List.foldl_cons, List.foldl_nil, UInt8.toNat_ofNat', Nat.zero_mul, Nat.zero_add, Nat.reducePow]
          omega
        · exfalso
          rw [if_neg b3] at e
          omega
      · rw [if_neg a3] at e ⊢
        rw [if_neg (show ¬ b < 67824 by omega)] at e ⊢
        have hnb : nb a = nb b := by omega
        rw [hnb, length_beK, length_beK, beval_beK, beval_beK, Nat.mod_eq_of_lt (nb_lt hb)]
        refine ⟨by simp only [List.length_cons, List.length_nil], ?_⟩
        exact Nat.lt_of_le_of_lt (Nat.mod_le _ _) h
/-- OF ANY TWO NUMBERS THE LESSER ONE's BYTES ARE LESS -/
theorem num_lt {a b : Nat} (hb : b < 18446744073709551616) (h : a < b) (x y : List UInt8) : Lib.compareBytes (numL a ++ x) (numL b ++ y) = -1 := by
  rw [numL_eq a, numL_eq b]
  have h1 := firstN_mono (Nat.le_of_lt h)
  have h2 := firstN_lt a
  have h3 := firstN_lt b
  simp only [List.cons_append, Lib.compareBytes]
  by_cases e : firstN a = firstN b
  · obtain ⟨e1, e2⟩ := rest_lt hb h e
    rw [e, if_neg (by rw [UInt8.lt_iff_toNat_lt]; omega), if_neg (by rw [UInt8.lt_iff_toNat_lt]; omega)]
    exact cmp_lex _ _ x y e1 e2
  · rw [if_pos (by rw [UInt8.lt_iff_toNat_lt]; simp; omega)]
def ltL (l m : List UInt8) : Bool := decide (Lib.compareBytes l m < 0)
theorem run_bytesOf (w : World) (A : Option Addr) (n c : Nat) (l : List UInt8) (h : Sl w 1 A n c (bc l)) :
    ∃ s : ByteArray, s.data.toList = l ∧ (Extern.Bytes.bytesOf (.slice A n c)).run Try.prog w = .ok s w := by
  have hl := h.lenb
  cases A with
  | none =>
    obtain rfl := h.none_len
    obtain rfl : l = [] := List.eq_nil_of_length_eq_zero hl
    exact ⟨.empty, rfl, rfl⟩
  | some ad =>
    have hm : Lib.bytesOf (l.map fun x => (x.toNat : Int)) = l := by
      unfold Lib.bytesOf
      rw [List.map_map]
      conv => rhs; rw [← List.map_id l]
      apply List.map_congr_left
      intro x _
      simp
    have hr := Lib.run_loadBytesX (P := Try.prog) w (l.map fun x => (x.toNat : Int)) ad .empty (fun j x hj => by
      have hjl : j < l.length := by
        have := (List.getElem?_eq_some_iff.1 hj).1
        simpa using this
      obtain ⟨b, o, e, hc⟩ := h.at_ (by omega)
      obtain rfl := Option.some.inj e
      have h1 := hc j (.int .u8 x) (by rw [bc_get]; simpa using hj)
      rw [Addr.add_lit]
      exact h1)
    rw [List.length_map, hl, hm] at hr
    refine ⟨_, ?_, hr⟩
    show (ByteArray.empty.data ++ l.toArray).toList = l
    simp
theorem run_cmp (w : World) (A : Option Addr) (n c : Nat) (l : List UInt8) (h : Sl w 1 A n c (bc l)) (A2 : Option Addr) (n2 c2 : Nat) (m : List UInt8) (h2 : Sl w 1 A2 n2 c2 (bc m)) :
    (Extern.BytealgCompare.compare #[.slice A n c, .slice A2 n2 c2]).run Try.prog w = .ok (.int .i64 (Lib.compareBytes l m)) w := by
  obtain ⟨s, e1, r1⟩ := run_bytesOf w A n c l h
  obtain ⟨t, e2, r2⟩ := run_bytesOf w A2 n2 c2 m h2
  change Sem.run Try.prog (do pure (goInt (Extern.BytealgCompare.cmp (← Extern.Bytes.bytesOf (.slice A n c)) (← Extern.Bytes.bytesOf (.slice A2 n2 c2))))) w = _
  simp only [Sem.run_bind, Sem.run_pure, r1, r2, Result.andThen]
  rw [Lib.cmp_eq, e1, e2]
  rfl
set_option maxHeartbeats 1000000 in
theorem less_any (w : World) (A : Option Addr) (n c : Nat) (l : List UInt8) (h : Sl w 1 A n c (bc l)) (A2 : Option Addr) (n2 c2 : Nat) (m : List UInt8) (h2 : Sl w 1 A2 n2 c2 (bc m)) :
    Calls Try.prog 77 #[.slice A n c, .slice A2 n2 c2] w fun e w' => e = .returned (.bool (ltL l m)) ∧ w = w' := by
  have hcall : (callFunc 106 #[.slice A n c, .slice A2 n2 c2]).run Try.prog w = .ok (.value (.int .i64 (Lib.compareBytes l m))) w := by
    rw [run_callFunc_extern Try.func106 (by kernel_rfl) (by kernel_rfl) (by kernel_rfl) (e := Extern.BytealgCompare.compare) (by kernel_rfl), run_cmp w A n c l h A2 n2 c2 m h2]
    rfl
  unfold ltL
  generalize Lib.compareBytes l m = z at *
  have hc : Calls Try.prog 74 #[.slice A n c, .slice A2 n2 c2] w fun e w' => e = .returned (.int .i64 z) ∧ w = w' := by
    go_enter Try.func74, Try.ntmps74
    go_wp2
    go_ret
    exact ⟨rfl, rfl⟩
  clear hcall
  have Hc := Lib.hid hc
  clear hc
  go_enter Try.func77, Try.ntmps77
  go_wp2_with fail
  refine Hc.out.mono ?_
  rintro e w' ⟨rfl, rfl⟩
  go_wp2
  go_ret
  exact ⟨rfl, rfl⟩
theorem less_is (w : World) (A : Option Addr) (n c : Nat) (l : List UInt8) (h : Sl w 1 A n c (bc l)) (A2 : Option Addr) (n2 c2 : Nat) (m : List UInt8) (h2 : Sl w 1 A2 n2 c2 (bc m)) (b : Bool) (hb : Hid (ltL l m = b)) :
    Calls Try.prog 77 #[.slice A n c, .slice A2 n2 c2] w fun e w' => e = .returned (.bool b) ∧ w = w' := by
  rw [← hb.out]
  exact less_any w A n c l h A2 n2 c2 m h2
end Go.Proofs.Ytfonincdhjkacaa
