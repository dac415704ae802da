/-
  AtomPlain, AtomWalk, AtomRef, AtomTake, AtomRTake, AtomText in one text. No condition but sizes.
-/
import Derived.Test.YtpffieogkfndaaaGByt
import Derived.Deep.QuietTactic
import Derived.BigQuiet
import Derived.Deep.RegionWith
import Derived.Deep.RegionHeld3
import Derived.Deep.DeepCutAuto
namespace Go.Proofs.Ytpffieogkfndaaa
set_option maxRecDepth 20000

/-- a number's last k bytes, the greatest first -/
def beK : Nat → Nat → List UInt8
  | 0, _ => []
  | k + 1, n => UInt8.ofNat (n / 256 ^ k) :: beK k n
theorem length_beK (k n : Nat) : (beK k n).length = k := by
  induction k with
  | zero => rfl
  | succ k ih => simp [beK, ih]
theorem beK_drop (k m n : Nat) : (beK (m + k) n).drop m = beK k n := by
  induction m with
  | zero => simp
  | succ m ih =>
    rw [show m + 1 + k = (m + k) + 1 by omega]
    simp only [beK, List.drop_succ_cons]
    exact ih
theorem beK_get (k n i : Nat) (h : i < k) : (beK k n)[i]? = some (UInt8.ofNat (n / 256 ^ (k - 1 - i))) := by
  induction k generalizing i with
  | zero => omega
  | succ k ih =>
    rcases i with _ | i
    · simp [beK]
    · simp only [beK, List.getElem?_cons_succ]
      rw [ih i (by omega)]
      congr 4
      omega
/-- what is collected of a number's eight bytes, the noughts in front left out -/
def tailL (n k j : Nat) : List UInt8 := ((beK 8 n).take j).drop (8 - k)
theorem tailL_start (n k : Nat) : tailL n k 0 = [] := by simp [tailL]
theorem tailL_none (n k j : Nat) (h : j ≤ 8 - k) : tailL n k j = [] := by
  unfold tailL
  exact List.drop_eq_nil_of_le (by simp; omega)
theorem tailL_len (n k j : Nat) (hj : j ≤ 8) : (tailL n k j).length = j - (8 - k) := by
  simp [tailL, length_beK]
  omega
theorem tailL_more (n k j : Nat) (hj : j < 8) (h : 8 - k ≤ j) : tailL n k (j + 1) = tailL n k j ++ [UInt8.ofNat (n / 256 ^ (7 - j))] := by
  unfold tailL
  have hl : j < (beK 8 n).length := by rw [length_beK]; omega
  have hg : (beK 8 n)[j] = UInt8.ofNat (n / 256 ^ (7 - j)) := by
    have := beK_get 8 n j hj
    rw [List.getElem?_eq_getElem hl] at this
    rw [Option.some.inj this]
  rw [List.take_succ_eq_append_getElem hl, hg, List.drop_append_of_le_length (by rw [List.length_take, length_beK]; omega)]
theorem tailL_end (n k : Nat) (hk : k ≤ 8) : tailL n k 8 = beK k n := by
  unfold tailL
  rw [List.take_of_length_le (by rw [length_beK]; omega)]
  have := beK_drop k (8 - k) n
  rw [show 8 - k + k = 8 by omega] at this
  exact this
/-- the number of bytes -/
def beval (l : List UInt8) : Nat := l.foldl (fun n b => n * 256 + b.toNat) 0
theorem beval_from (l : List UInt8) (n : Nat) : l.foldl (fun n b => n * 256 + b.toNat) n = n * 256 ^ l.length + beval l := by
  unfold beval
  induction l generalizing n with
  | nil => simp
  | cons b r ih =>
    simp only [List.foldl_cons, List.length_cons]
    rw [ih, ih (0 * 256 + b.toNat), Nat.pow_succ]
    simp only [Nat.zero_mul, Nat.zero_add]
    rw [Nat.add_mul, Nat.mul_assoc, Nat.mul_comm 256, Nat.add_assoc]
theorem beval_cons (b : UInt8) (l : List UInt8) : beval (b :: l) = b.toNat * 256 ^ l.length + beval l := by
  have := beval_from l (0 * 256 + b.toNat)
  simp only [Nat.zero_mul, Nat.zero_add] at this
  rw [← this]
  simp [beval]
theorem beval_snoc (l : List UInt8) (b : UInt8) : beval (l ++ [b]) = beval l * 256 + b.toNat := by simp [beval]
theorem beval_lt (l : List UInt8) : beval l < 256 ^ l.length := by
  induction l with
  | nil => simp [beval]
  | cons b r ih =>
    rw [beval_cons, List.length_cons, Nat.pow_succ]
    have := b.toNat_lt
    have h : b.toNat * 256 ^ r.length + 256 ^ r.length ≤ 256 * 256 ^ r.length := by
      rw [← Nat.succ_mul]
      exact Nat.mul_le_mul_right _ (by omega)
    rw [Nat.mul_comm (256 ^ r.length)]
    omega
theorem beval_beK (k n : Nat) : beval (beK k n) = n % 256 ^ k := by
  induction k with
  | zero => simp [beK, beval, Nat.mod_one]
  | succ k ih =>
    rw [beK, beval_cons, length_beK, ih, Nat.pow_succ, Nat.mod_mul, UInt8.toNat_ofNat']
    have e : (256 : Nat) = 2 ^ 8 := rfl
    rw [← e, Nat.mul_comm (256 ^ k) (n / 256 ^ k % 256), Nat.add_comm]
theorem beval_inj : ∀ (l m : List UInt8), l.length = m.length → beval l = beval m → l = m
  | [], [], _, _ => rfl
  | a :: l, b :: m, h, e => by
    rw [beval_cons, beval_cons] at e
    have hl : l.length = m.length := by simpa using h
    rw [hl] at e
    have h1 := beval_lt l
    have h2 := beval_lt m
    rw [hl] at h1
    have hp : 0 < 256 ^ m.length := Nat.pow_pos (by omega)
    have ea : a.toNat = b.toNat := by
      have e1 : (a.toNat * 256 ^ m.length + beval l) / 256 ^ m.length = a.toNat := by
        rw [Nat.mul_comm, Nat.mul_add_div hp, Nat.div_eq_of_lt h1, Nat.add_zero]
      have e2 : (b.toNat * 256 ^ m.length + beval m) / 256 ^ m.length = b.toNat := by
        rw [Nat.mul_comm, Nat.mul_add_div hp, Nat.div_eq_of_lt h2, Nat.add_zero]
      rw [← e1, e, e2]
    have eb : beval l = beval m := by rw [ea] at e; omega
    rw [UInt8.toNat_inj.1 ea, beval_inj l m hl eb]
  | [], _ :: _, h, _ => by simp at h
  | _ :: _, [], h, _ => by simp at h

/-- how many bytes stand behind the first one of a long number -/
def nb (n : Nat) : Nat := if n < 16777216 then 3 else if n < 4294967296 then 4 else if n < 1099511627776 then 5 else if n < 281474976710656 then 6 else if n < 72057594037927936 then 7 else 8
theorem nb_range (n : Nat) : 3 ≤ nb n ∧ nb n ≤ 8 := by
  unfold nb
  repeat' split
  all_goals omega
theorem nb_lt {n : Nat} (h : n < 18446744073709551616) : n < 256 ^ nb n := by
  unfold nb
  repeat' split
  all_goals simp; omega
theorem nb_le {n : Nat} (h : 3 < nb n) : 256 ^ (nb n - 1) ≤ n := by
  unfold nb at *
  repeat' split at h
  all_goals first | omega | skip
  all_goals simp [*]
  all_goals omega
/-- a number's bytes -/
def numL (n : Nat) : List UInt8 :=
  if n < 241 then [UInt8.ofNat n]
  else if n < 2288 then [UInt8.ofNat (241 + (n - 240) / 256), UInt8.ofNat (n - 240)]
  else if n < 67824 then [249, UInt8.ofNat ((n - 2288) / 256), UInt8.ofNat (n - 2288)]
  else UInt8.ofNat (247 + nb n) :: beK (nb n) n
/-- how many bytes stand behind a first one -/
def lenL (b : Nat) : Nat := if b ≤ 240 then 0 else if b ≤ 248 then 1 else if b = 249 then 2 else b - 247
def valueL (b : Nat) (tail : List UInt8) : Nat := if b ≤ 240 then b else if b ≤ 248 then 240 + (b - 241) * 256 + beval tail else if b = 249 then 2288 + beval tail else beval tail
/-- the number in front, what stands behind, the error's number -/
def takeL (p : List UInt8) : Nat × List UInt8 × Nat :=
  match p with
  | [] => (0, [], 2)
  | b :: r =>
    if (b :: r).length < 1 + lenL b.toNat then (0, [], 2)
    else
      let n := valueL b.toNat (r.take (lenL b.toNat))
      if numL n = b :: r.take (lenL b.toNat) then (n, r.drop (lenL b.toNat), 0) else (0, [], 4)
theorem lenL_le (b : Nat) (h : b < 256) : lenL b ≤ 8 := by
  unfold lenL
  repeat' split
  all_goals omega
/-- a number's bytes say it -/
theorem num_decode (n : Nat) (h : n < 18446744073709551616) : ∃ b t, numL n = b :: t ∧ t.length = lenL b.toNat ∧ valueL b.toNat t = n := by
  by_cases h1 : n < 241
  · refine ⟨UInt8.ofNat n, [], by unfold numL; rw [if_pos h1], ?_, ?_⟩
    · simp [lenL]; omega
    · have : n % 256 = n := by omega
      simp [valueL, this]; omega
  · by_cases h2 : n < 2288
    · have e : (UInt8.ofNat (241 + (n - 240) / 256)).toNat = 241 + (n - 240) / 256 := by simp; omega
      have e2 : (UInt8.ofNat (n - 240)).toNat = (n - 240) % 256 := by simp
      refine ⟨UInt8.ofNat (241 + (n - 240) / 256), [UInt8.ofNat (n - 240)], by unfold numL; rw [if_neg h1, if_pos h2], ?_, ?_⟩
      · rw [e]; unfold lenL; rw [if_neg (by omega), if_pos (by omega)]; rfl
      · rw [e]; unfold valueL; rw [if_neg (by omega), if_pos (by omega)]
        simp only [beval, List.foldl_cons, List.foldl_nil, e2]
        omega
    · by_cases h3 : n < 67824
      · have e : (249 : UInt8).toNat = 249 := rfl
        have e1 : (UInt8.ofNat ((n - 2288) / 256)).toNat = (n - 2288) / 256 := by simp; omega
        have e2 : (UInt8.ofNat (n - 2288)).toNat = (n - 2288) % 256 := by simp
        refine ⟨249, [UInt8.ofNat ((n - 2288) / 256), UInt8.ofNat (n - 2288)], by unfold numL; rw [if_neg h1, if_neg h2, if_pos h3], ?_, ?_⟩
        · rw [e]; rfl
        · rw [e]; unfold valueL; rw [if_neg (by omega), if_neg (by omega), if_pos rfl]
          simp only [beval, List.foldl_cons, List.foldl_nil, e1, e2]
          omega
      · have hr := nb_range n
        have e : (UInt8.ofNat (247 + nb n)).toNat = 247 + nb n := by simp; omega
        refine ⟨UInt8.ofNat (247 + nb n), beK (nb n) n, by unfold numL; rw [if_neg h1, if_neg h2, if_neg h3], ?_, ?_⟩
        · rw [e, length_beK]; unfold lenL; rw [if_neg (by omega), if_neg (by omega), if_neg (by omega)]; omega
        · rw [e]; unfold valueL; rw [if_neg (by omega), if_neg (by omega), if_neg (by omega), beval_beK, Nat.mod_eq_of_lt (nb_lt h)]
theorem value_lt (b : UInt8) (t : List UInt8) (h : t.length = lenL b.toNat) : valueL b.toNat t < 18446744073709551616 := by
  have hb := b.toNat_lt
  have ht := beval_lt t
  unfold valueL
  unfold lenL at h
  by_cases h1 : b.toNat ≤ 240
  · rw [if_pos h1]; omega
  · rw [if_neg h1] at h ⊢
    by_cases h2 : b.toNat ≤ 248
    · rw [if_pos h2] at h ⊢; rw [h] at ht; omega
    · rw [if_neg h2] at h ⊢
      by_cases h3 : b.toNat = 249
      · rw [if_pos h3] at h ⊢; rw [h] at ht; omega
      · rw [if_neg h3] at h ⊢
        have : 256 ^ t.length ≤ 256 ^ 8 := Nat.pow_le_pow_right (by omega) (by omega)
        omega
/-- what has the value has the bytes -/
theorem value_inj (b : UInt8) (t u : List UInt8) (ht : t.length = lenL b.toNat) (hu : u.length = lenL b.toNat) (h : valueL b.toNat t = valueL b.toNat u) : t = u := by
  refine beval_inj t u (by omega) ?_
  unfold valueL at h
  unfold lenL at ht hu
  by_cases h1 : b.toNat ≤ 240
  · rw [if_pos h1] at ht hu
    rw [List.eq_nil_of_length_eq_zero ht, List.eq_nil_of_length_eq_zero hu]
  · rw [if_neg h1, if_neg h1] at h
    by_cases h2 : b.toNat ≤ 248
    · rw [if_pos h2, if_pos h2] at h; omega
    · rw [if_neg h2, if_neg h2] at h
      by_cases h3 : b.toNat = 249
      · rw [if_pos h3, if_pos h3] at h; omega
      · rw [if_neg h3, if_neg h3] at h; exact h
/-- the number of bytes and the first of them tell whether all are right -/
theorem num_check (b : UInt8) (t : List UInt8) (ht : t.length = lenL b.toNat) : numL (valueL b.toNat t) = b :: t ↔ (numL (valueL b.toNat t)).length = 1 + lenL b.toNat ∧ (numL (valueL b.toNat t))[0]? = some b := by
  constructor
  · intro h; rw [h]; simp [ht]; omega
  · rintro ⟨h1, h2⟩
    obtain ⟨b', t', e, hl, hv⟩ := num_decode _ (value_lt b t ht)
    rw [e] at h1 h2
    simp at h2
    subst h2
    rw [e, value_inj b' t' t hl ht hv]
theorem take_num (n : Nat) (h : n < 18446744073709551616) (l : List UInt8) : takeL (numL n ++ l) = (n, l, 0) := by
  obtain ⟨b, t, e, hl, hv⟩ := num_decode n h
  rw [e]
  simp only [List.cons_append, takeL]
  rw [← hl, List.take_left, List.drop_left, hv, if_neg (by simp; omega), if_pos e]
theorem num_len (n : Nat) : 1 ≤ (numL n).length ∧ (numL n).length ≤ 9 := by
  unfold numL
  have := nb_range n
  repeat' split
  all_goals simp [length_beK]
  all_goals omega
end Go.Proofs.Ytpffieogkfndaaa

namespace Go.Proofs.Ytpffieogkfndaaa
set_option maxRecDepth 20000
open Go.RowKit

/-- what a law's literal gives: bytes laid new -/
theorem new_lit (w : World) (cur : Array Value) (l : List UInt8) (n : Nat) (hn : l.length = n) (hm : n ≤ maxLen) (hc : cur.toList = bc l) :
    NewB w l (.returned (.slice (some ⟨w.heap.size, 0, none⟩) n n)) (w.alloc (.cells cur 5)) :=
  ⟨_, n, n, rfl, Own.lit w _ _ n cur _ (Nat.le_refl _) (by simpa using hn) hm hc, (Below.refl _ _).alloc (Nat.le_refl _) _⟩

theorem num_small (n : Nat) (w : World) (h : n < 241) : Calls Try.prog 37 #[.int .u64 (n : Int)] w (NewB w (numL n)) := by
  have e : numL n = [UInt8.ofNat n] := by unfold numL; rw [if_pos h]
  rw [e]
  clear e
  go_enter Try.func37, Try.ntmps37
  go_wp2
  go_ret
  refine new_lit w _ _ 1 rfl (by unfold maxLen; omega) ?_
  simp [bc]
  omega
theorem num_two (n : Nat) (w : World) (h1 : 241 ≤ n) (h2 : n < 2288) : Calls Try.prog 37 #[.int .u64 (n : Int)] w (NewB w (numL n)) := by
  have e : numL n = [UInt8.ofNat (241 + (n - 240) / 256), UInt8.ofNat (n - 240)] := by unfold numL; rw [if_neg (by omega), if_pos h2]
  rw [e]
  clear e
  go_enter Try.func37, Try.ntmps37
  go_wp2
  go_ret
  refine new_lit w _ _ 2 rfl (by unfold maxLen; omega) ?_
  simp [bc]
  omega
theorem num_three (n : Nat) (w : World) (h1 : 2288 ≤ n) (h2 : n < 67824) : Calls Try.prog 37 #[.int .u64 (n : Int)] w (NewB w (numL n)) := by
  have e : numL n = [249, UInt8.ofNat ((n - 2288) / 256), UInt8.ofNat (n - 2288)] := by unfold numL; rw [if_neg (by omega), if_neg (by omega), if_pos h2]
  rw [e]
  clear e
  go_enter Try.func37, Try.ntmps37
  go_wp2
  go_ret
  refine new_lit w _ _ 3 rfl (by unfold maxLen; omega) ?_
  simp [bc]
  omega
set_option maxHeartbeats 1000000 in
theorem num_long (n : Nat) (w : World) (h1 : 67824 ≤ n) (h2 : n < 18446744073709551616) : Calls Try.prog 37 #[.int .u64 (n : Int)] w (NewB w (numL n)) := by
  obtain ⟨k, hk⟩ : ∃ k, nb n = k := ⟨_, rfl⟩
  have hr := nb_range n
  have e : numL n = UInt8.ofNat (247 + k) :: beK k n := by unfold numL; rw [if_neg (by omega), if_neg (by omega), if_neg (by omega), hk]
  rw [e]
  clear e
  have hlt := nb_lt h2
  have hle : 3 < k → 256 ^ (k - 1) ≤ n := fun h => by have := nb_le (n := n) (by omega); rw [hk] at this; exact this
  rw [hk] at hr hlt
  have Hk := Lib.hid hk
  have Hlt := Lib.hid hlt
  have Hle := Lib.hid hle
  clear hk hlt hle
  go_enter Try.func37, Try.ntmps37
  go_wp2
  go_loopw [3, 4] (fun a i wr => ∃ (j : Nat) (z : Int), z = 56 - 8 * (j : Int) ∧ j ≤ 8 ∧ i = .int .i64 z ∧ Below w.heap.size w wr ∧ ∃ (A : Option Addr) (m c : Nat), a = .slice A m c ∧ OwnB wr w.heap.size A m c (tailL n k j)) (fun _ i _ => (intOf i + 8).toNat)
  case atStart => exact ⟨0, 56, by omega, by omega, rfl, Below.refl _ _, none, 0, 0, rfl, by rw [tailL_start]; exact Own.nil _ _ _ _ _⟩
  case round =>
    obtain ⟨j, z, hz, hj, rfl, hbr, A, m, c, rfl, ho⟩ := hrel
    have hm := OwnB.len' ho
    rw [tailL_len n k j hj] at hm
    by_cases hj8 : j < 8
    · obtain ⟨s, hs⟩ : ∃ s : Nat, s = 56 - 8 * j := ⟨_, rfl⟩
      obtain rfl : z = (s : Int) := by omega
      have hp : 2 ^ s = 256 ^ (7 - j) := by
        rw [show (256 : Nat) = 2 ^ 8 from rfl, ← Nat.pow_mul]
        congr 1
        omega
      obtain ⟨b, hb, hbl⟩ : ∃ b, n / 2 ^ s % 256 = b ∧ b < 256 := ⟨_, rfl, Nat.mod_lt _ (by omega)⟩
      have eb : (n : Int) / 2 ^ s % 256 = (b : Int) := by rw [← hb]; simp
      have hs24 : s < 24 ∨ 24 ≤ s := by omega
      rw [hp] at hb
      have Hb := Lib.hid hb
      have Ho := Lib.hid ho
      clear ho hp hb
      by_cases hjk : j < 8 - k
      · have hm0 : m = 0 := by omega
        subst hm0
        have hb0 : b = 0 := by
          rw [← Hb.out, Nat.div_eq_of_lt]
          exact Nat.lt_of_lt_of_le Hlt.out (Nat.pow_le_pow_right (by omega) (by omega))
        subst hb0
        have hs' : 24 ≤ s := by omega
        have hs56 : s ≤ 56 := by omega
        have Hjk := Lib.hid hjk
        have Hs := Lib.hid hs
        clear hm hz hs hs24 hjk
        go_wp2
        go_roundw
        case rel => exact ⟨j + 1, _, by have := Hs.out; omega, by omega, rfl, hbr, A, 0, c, rfl, by have := Hjk.out; rw [tailL_none n k (j + 1) (by omega)]; have h := Ho.out; rw [tailL_none n k j (by omega)] at h; exact h⟩
        case measure => simp [intOf]; omega
      · have hs56 : s ≤ 56 := by omega
        have Hm := Lib.hid hm
        have Hs := Lib.hid hs
        have hm8 : m ≤ 8 := by omega
        have hmore := tailL_more n k j hj8 (by omega)
        rw [show UInt8.ofNat (n / 256 ^ (7 - j)) = UInt8.ofNat b from by rw [← Hb.out]; apply UInt8.toNat_inj.1; simp] at hmore
        have Hmore := Lib.hid hmore
        have hpush : 0 < m ∨ (m ≤ 0 ∧ ((b : Int) != 0) = true) ∨ (m ≤ 0 ∧ ((b : Int) != 0) = false ∧ s < 24) := by
          rcases Nat.eq_zero_or_pos m with h0 | h0
          · rcases Nat.eq_zero_or_pos b with hb0 | hb0
            · refine Or.inr (Or.inr ⟨by omega, by rw [hb0]; rfl, ?_⟩)
              rcases Nat.lt_or_ge 3 k with h3 | h3
              · exfalso
                have h8 := Hle.out h3
                have e7 : 7 - j = k - 1 := by omega
                have h9 := Hb.out
                rw [e7, hb0] at h9
                have hq : n / 256 ^ (k - 1) < 256 := by
                  rw [Nat.div_lt_iff_lt_mul (Nat.pow_pos (by omega)), Nat.mul_comm, ← Nat.pow_succ, show (k - 1).succ = k from by omega]
                  exact Hlt.out
                have hq2 : 1 ≤ n / 256 ^ (k - 1) := (Nat.le_div_iff_mul_le (Nat.pow_pos (by omega))).2 (by omega)
                omega
              · omega
            · exact Or.inr (Or.inl ⟨by omega, bne_iff_ne.2 (by omega)⟩)
          · exact Or.inl h0
        clear hz hs hmore hm hs24 hjk
        have hlit : Sl (wr.alloc (.cells #[.int .u8 (b : Int)] 5)) 1 (some ⟨wr.heap.size, 0, none⟩) 1 1 (bc [UInt8.ofNat b]) :=
          Sl.lit wr _ _ 1 _ _ rfl (by unfold maxLen; omega) (by simp [bc]; omega)
        have hoa : OwnB (wr.alloc (.cells #[.int .u8 (b : Int)] 5)) w.heap.size A m c (tailL n k j) := Own.below Ho.out ((Below.refl wr.heap.size wr).alloc (Nat.le_refl _) _)
        have hsz := hbr.size
        rcases hpush with h0 | ⟨h0, hbn⟩ | ⟨h0, hbn, h24⟩
        all_goals
          go_wp2_with (at_builtin; refine wpList_appB _ rfl (.tmp 54) (.tmp 56) rfl w.heap.size A m c _ rfl hoa _ 1 1 _ rfl hlit ?_ ?_ ?_)
          · omega
          · simp; omega
          intro A2 c2 w2 ho2 hg2 _
          go_wp2
          go_roundw
          case rel =>
            refine ⟨j + 1, _, by have := Hs.out; omega, by omega, rfl, (hbr.alloc hsz _).grown hg2 (by simp; omega) (fun q hq => (Own.lt hoa q hq).1), A2, _, c2, rfl, ?_⟩
            rw [Hmore.out]
            exact ho2
          case measure => simp [intOf]; omega
    · obtain rfl : j = 8 := by omega
      obtain rfl : z = -8 := by omega
      rw [tailL_end n k hr.2] at ho
      have hm' : m = k := by omega
      subst hm'
      have hlit : Own (wr.alloc (.cells #[.int .u8 (247 + (m : Int))] 5)) w.heap.size 5 1 (some ⟨wr.heap.size, 0, none⟩) 1 1 (bc [UInt8.ofNat (247 + m)]) :=
        Own.lit wr _ _ 1 _ _ hbr.size rfl (by unfold maxLen; omega) (by simp [bc]; omega)
      have hoa : OwnB (wr.alloc (.cells #[.int .u8 (247 + (m : Int))] 5)) w.heap.size A m c (beK m n) := Own.below ho ((Below.refl wr.heap.size wr).alloc (Nat.le_refl _) _)
      have hsz := hbr.size
      clear hm hz ho
      go_wp2_with (at_builtin; refine wpList_appB _ rfl (.tmp 62) (.tmp 63) rfl w.heap.size _ 1 1 [UInt8.ofNat (247 + m)] rfl hlit A m c _ rfl hoa.sl ?_ ?_ ?_)
      · omega
      · simp; omega
      intro A2 c2 w2 ho2 hg2 _
      go_wp2
      go_ret
      refine ⟨A2, _, c2, rfl, by simpa using ho2, (hbr.alloc hsz _).grown hg2 (by simp; omega) (fun q hq => (Own.lt hlit q hq).1)⟩
theorem num_any (n : Nat) (w : World) (h : n < 18446744073709551616) : Calls Try.prog 37 #[.int .u64 (n : Int)] w (NewB w (numL n)) := by
  rcases Nat.lt_or_ge n 241 with h1 | h1
  · exact num_small n w h1
  · rcases Nat.lt_or_ge n 2288 with h2 | h2
    · exact num_two n w h1 h2
    · rcases Nat.lt_or_ge n 67824 with h3 | h3
      · exact num_three n w h2 h3
      · exact num_long n w h3 h
end Go.Proofs.Ytpffieogkfndaaa

namespace Go.Proofs.Ytpffieogkfndaaa
set_option maxRecDepth 20000
open Go.RowKit

/-- how long a slice is -/
def lenOfV : Value → Nat
  | .slice _ n _ => n
  | _ => 0
theorem rnum_small (n : Nat) (w : World) (h : n < 241) : Calls Try.prog 31 #[.int .u64 (n : Int)] w (NewB w (numL n)) := by
  have e : numL n = [UInt8.ofNat n] := by unfold numL; rw [if_pos h]
  rw [e]
  clear e
  have hi : (n : Int) < 241 := by omega
  clear h
  go_enter Try.func31, Try.ntmps31
  go_wp2
  go_ret
  refine new_lit w _ _ 1 rfl (by unfold maxLen; omega) ?_
  simp [bc]
  omega
theorem rnum_two (n : Nat) (w : World) (h1 : 241 ≤ n) (h2 : n < 2288) : Calls Try.prog 31 #[.int .u64 (n : Int)] w (NewB w (numL n)) := by
  have e : numL n = [UInt8.ofNat (241 + (n - 240) / 256), UInt8.ofNat (n - 240)] := by unfold numL; rw [if_neg (by omega), if_pos h2]
  rw [e]
  clear e
  have d1 : decide ((n : Int) < 241) = false := by simp; omega
  have d2 : decide ((n : Int) < 2288) = true := by simp; omega
  go_enter Try.func31, Try.ntmps31
  go_wp2
  go_ret
  refine new_lit w _ _ 2 rfl (by unfold maxLen; omega) ?_
  simp [bc]
  omega
theorem rnum_three (n : Nat) (w : World) (h1 : 2288 ≤ n) (h2 : n < 67824) : Calls Try.prog 31 #[.int .u64 (n : Int)] w (NewB w (numL n)) := by
  have e : numL n = [249, UInt8.ofNat ((n - 2288) / 256), UInt8.ofNat (n - 2288)] := by unfold numL; rw [if_neg (by omega), if_neg (by omega), if_pos h2]
  rw [e]
  clear e
  have d1 : decide ((n : Int) < 241) = false := by simp; omega
  have d2 : decide ((n : Int) < 2288) = false := by simp; omega
  have d3 : decide ((n : Int) < 67824) = true := by simp; omega
  go_enter Try.func31, Try.ntmps31
  go_wp2
  go_ret
  refine new_lit w _ _ 3 rfl (by unfold maxLen; omega) ?_
  simp [bc]
  omega
set_option maxHeartbeats 1000000 in
theorem rnum_long (n : Nat) (w : World) (h1 : 67824 ≤ n) (h2 : n < 18446744073709551616) : Calls Try.prog 31 #[.int .u64 (n : Int)] w (NewB w (numL n)) := by
  obtain ⟨k, hk⟩ : ∃ k, nb n = k := ⟨_, rfl⟩
  have hr := nb_range n
  have e : numL n = UInt8.ofNat (247 + k) :: beK k n := by unfold numL; rw [if_neg (by omega), if_neg (by omega), if_neg (by omega), hk]
  rw [e]
  clear e
  have hlt := nb_lt h2
  have hle : 3 < k → 256 ^ (k - 1) ≤ n := fun h => by have := nb_le (n := n) (by omega); rw [hk] at this; exact this
  rw [hk] at hr hlt
  have Hk := Lib.hid hk
  have Hlt := Lib.hid hlt
  have Hle := Lib.hid hle
  clear hk hlt hle
  have d1 : decide ((n : Int) < 241) = false := by simp; omega
  have d2 : decide ((n : Int) < 2288) = false := by simp; omega
  have d3 : decide ((n : Int) < 67824) = false := by simp; omega
  have Hh2 := Lib.hid h2
  clear h1 h2
  go_enter Try.func31, Try.ntmps31
  go_wp2
  go_loopw [0, 3] (fun a b wr => ∃ (j v : Nat), Hid (v = n / 256 ^ j) ∧ j ≤ k ∧ a = .int .u64 (v : Int) ∧ Below w.heap.size w wr ∧ ∃ (A : Option Addr) (c : Nat), b = .slice A j c ∧ OwnB wr w.heap.size A j c (beK j n)) (fun _ b _ => 9 - lenOfV b)
  case atStart => exact ⟨0, n, by unfold Hid; simp, by omega, rfl, Below.refl _ _, none, 0, rfl, Own.nil _ _ _ _ _⟩
  case round =>
    obtain ⟨j, v, Hv, hj, rfl, hbr, A, c, rfl, ho⟩ := hrel
    have hvl : v < 18446744073709551616 := by rw [Hv.out]; exact Nat.lt_of_le_of_lt (Nat.div_le_self _ _) Hh2.out
    have hsz := hbr.size
    have hlit : Own (wr.alloc (.cells #[.int .u8 ((v : Int) % 256)] 5)) w.heap.size 5 1 (some ⟨wr.heap.size, 0, none⟩) 1 1 (bc [UInt8.ofNat v]) :=
      Own.lit wr _ _ 1 _ _ hsz rfl (by unfold maxLen; omega) (by simp [bc])
    have hoa : OwnB (wr.alloc (.cells #[.int .u8 ((v : Int) % 256)] 5)) w.heap.size A j c (beK j n) := Own.below ho ((Below.refl wr.heap.size wr).alloc (Nat.le_refl _) _)
    have go_on : 0 < v ∨ (v ≤ 0 ∧ j < 3) → j < k := by
      rintro (h | ⟨_, h⟩)
      · rcases Nat.lt_or_ge j k with q | q
        · exact q
        · have : n / 256 ^ j = 0 := Nat.div_eq_of_lt (Nat.lt_of_lt_of_le Hlt.out (Nat.pow_le_pow_right (by omega) q))
          have := Hv.out
          omega
      · omega
    have Hgo := Lib.hid go_on
    have Ho := Lib.hid ho
    clear go_on ho
    by_cases hc : 0 < v ∨ (v ≤ 0 ∧ j < 3)
    · have hjk := Hgo.out hc
      have hc' : 0 < v ∨ (v ≤ 0 ∧ decide ((j : Int) < 3) = true) := by
        rcases hc with hc | ⟨hc, hc3⟩
        · exact Or.inl hc
        · exact Or.inr ⟨hc, by simp; omega⟩
      clear hc
      rcases hc' with hc | ⟨hc, hc3⟩
      all_goals
        go_wp2_with (at_builtin; refine wpList_appB _ rfl (.tmp 42) (.tmp 43) rfl w.heap.size _ 1 1 [UInt8.ofNat v] rfl hlit A j c _ rfl hoa.sl ?_ ?_ ?_)
        · omega
        · simp; omega
        intro A2 c2 w2 ho2 hg2 _
        go_wp2
        go_roundw
        case rel =>
          refine ⟨j + 1, v / 256, ?_, by omega, by simp, (hbr.alloc hsz _).grown hg2 (by simp; omega) (fun q hq => (Own.lt hlit q hq).1), A2, c2, by rw [Nat.add_comm], ?_⟩
          · unfold Hid; rw [Hv.out, Nat.div_div_eq_div_mul, Nat.pow_succ]
          · have e : beK (j + 1) n = [UInt8.ofNat v] ++ beK j n := by rw [Hv.out]; rfl
            rw [e, Nat.add_comm]
            exact ho2
        case measure => simp [lenOfV]; omega
    · have hv0 : v = 0 := by omega
      subst hv0
      have hj3 : ¬ j < 3 := by omega
      have hjk : j = k := by
        rcases Nat.lt_or_ge j k with q | q
        · exfalso
          have h8 := Hle.out (by omega)
          have h9 := Hv.out
          have : 256 ^ j ≤ n := Nat.le_trans (Nat.pow_le_pow_right (by omega) (by omega)) h8
          have h10 : 1 ≤ n / 256 ^ j := (Nat.le_div_iff_mul_le (Nat.pow_pos (by omega))).2 (by omega)
          omega
        · omega
      subst hjk
      have ho := Ho.out
      have d4 : decide ((j : Int) < 3) = false := by simp; omega
      have hlit2 : Own (wr.alloc (.cells #[.int .u8 (247 + (j : Int))] 5)) w.heap.size 5 1 (some ⟨wr.heap.size, 0, none⟩) 1 1 (bc [UInt8.ofNat (247 + j)]) :=
        Own.lit wr _ _ 1 _ _ hsz rfl (by unfold maxLen; omega) (by simp [bc]; omega)
      have hoa2 : OwnB (wr.alloc (.cells #[.int .u8 (247 + (j : Int))] 5)) w.heap.size A j c (beK j n) := Own.below ho ((Below.refl wr.heap.size wr).alloc (Nat.le_refl _) _)
      clear hc hj3 hlit hoa ho
      go_wp2_with (at_builtin; refine wpList_appB _ rfl (.tmp 51) (.tmp 52) rfl w.heap.size _ 1 1 [UInt8.ofNat (247 + j)] rfl hlit2 A j c _ rfl hoa2.sl ?_ ?_ ?_)
      · omega
      · simp; omega
      intro A2 c2 w2 ho2 hg2 _
      go_wp2
      go_ret
      refine ⟨A2, _, c2, rfl, by simpa using ho2, (hbr.alloc hsz _).grown hg2 (by simp; omega) (fun q hq => (Own.lt hlit2 q hq).1)⟩
theorem rnum_any (n : Nat) (w : World) (h : n < 18446744073709551616) : Calls Try.prog 31 #[.int .u64 (n : Int)] w (NewB w (numL n)) := by
  rcases Nat.lt_or_ge n 241 with h1 | h1
  · exact rnum_small n w h1
  · rcases Nat.lt_or_ge n 2288 with h2 | h2
    · exact rnum_two n w h1 h2
    · rcases Nat.lt_or_ge n 67824 with h3 | h3
      · exact rnum_three n w h2 h3
      · exact rnum_long n w h3 h
end Go.Proofs.Ytpffieogkfndaaa

namespace Go.Proofs.Ytpffieogkfndaaa
set_option maxRecDepth 20000
open Go.RowKit

theorem below_of_drew {B : Nat} {w w' : World} (h : Below B w.drew w') : Below B w w' := ⟨h.os, h.tape, h.output, h.size, h.block⟩
set_option maxHeartbeats 400000 in
theorem length_any (b : Nat) (w : World) (hb : b < 256) : Calls Try.prog 53 #[.int .u8 (b : Int)] w fun e w' => e = .returned (.int .i64 (lenL b : Nat)) ∧ w = w' := by
  have hl := lenL_le b hb
  by_cases h1 : b ≤ 240
  · have e : lenL b = 0 := by unfold lenL; rw [if_pos h1]
    rw [e]
    clear e hl
    go_enter Try.func53, Try.ntmps53
    go_wp2
    go_ret
    exact ⟨rfl, rfl⟩
  · by_cases h2 : b ≤ 248
    · have e : lenL b = 1 := by unfold lenL; rw [if_neg h1, if_pos h2]
      rw [e]
      clear e hl
      go_enter Try.func53, Try.ntmps53
      go_wp2
      go_ret
      exact ⟨rfl, rfl⟩
    · by_cases h3 : b = 249
      · have e : lenL b = 2 := by unfold lenL; rw [if_neg h1, if_neg h2, if_pos h3]
        rw [e]
        subst h3
        clear e hl h1 h2
        go_enter Try.func53, Try.ntmps53
        go_wp2
        go_ret
        exact ⟨rfl, rfl⟩
      · have e : lenL b = b - 247 := by unfold lenL; rw [if_neg h1, if_neg h2, if_neg h3]
        rw [e]
        have d : ((b : Int) == 249) = false := by simp; omega
        clear e hl h3
        go_enter Try.func53, Try.ntmps53
        go_wp2
        go_ret
        exact ⟨ret_int (by omega), rfl⟩
set_option maxHeartbeats 1000000 in
theorem value_any (b : Nat) (w : World) (hb : b < 256) (A : Option Addr) (n c : Nat) (t : List UInt8) (h : Sl w 1 A n c (bc t)) (ht : t.length = lenL b) :
    Calls Try.prog 54 #[.int .u8 (b : Int), .slice A n c] w fun e w' => e = .returned (.int .u64 (valueL b t : Nat)) ∧ w = w' := by
  have hn := h.lenb
  have hl := lenL_le b hb
  have hbt := beval_lt t
  have hn8 : n ≤ 8 := by omega
  have Hn := Lib.hid hn
  have Ht := Lib.hid ht
  clear hn ht
  go_enter Try.func54, Try.ntmps54
  go_wp2
  go_loop [5, 10] (fun s i => ∃ j : Nat, j ≤ n ∧ i = .int .i64 j ∧ s = .int .u64 (beval (t.take j) : Nat)) (fun _ i => n - (intOf i).toNat)
  case atStart => exact ⟨0, Nat.zero_le _, rfl, rfl⟩
  case round =>
    obtain ⟨j, hj, rfl, rfl⟩ := hrel
    by_cases hjn : j < n
    · have hjt : j < t.length := by have := Hn.out; omega
      obtain ⟨g, o, x, rfl, hx, hxl, hcell⟩ := h.byte hjt
      have hv : beval (t.take j) < 72057594037927936 := by
        have h1 := beval_lt (t.take j)
        have h2 : (256 : Nat) ^ (t.take j).length ≤ 256 ^ 7 := Nat.pow_le_pow_right (by omega) (by rw [List.length_take]; omega)
        have : (256 : Nat) ^ 7 = 72057594037927936 := rfl
        omega
      have hs := beval_snoc (t.take j) t[j]
      rw [← List.take_succ_eq_append_getElem hjt, hx] at hs
      have Hs := Lib.hid hs
      generalize beval (t.take j) = v at *
      have e1 : bits .or .u64 ((v : Int) * 256) (x : Int) = ((v * 256 + x : Nat) : Int) := by
        have h1 := u64_or_nat (v * 256) x (by omega) (by omega)
        rw [nat_join 8 _ _ (by omega) (by omega)] at h1
        rw [← h1]
        simp
      clear hs hx hbt
      go_wp2
      go_round
      case rel => exact ⟨j + 1, by omega, by go_num, by rw [Hs.out]; simp⟩
      case measure => simp [intOf]; omega
    · obtain rfl : j = n := by omega
      have e0 : t.take j = t := List.take_of_length_le (by have := Hn.out; omega)
      rw [e0]
      clear e0 hjn hj
      have hlen := Ht.out
      by_cases h1 : b ≤ 240
      · have e : valueL b t = b := by unfold valueL; rw [if_pos h1]
        have E := Lib.hid e
        clear e hbt hlen
        go_wp2
        go_ret
        exact ⟨ret_int (by rw [E.out]), rfl⟩
      · by_cases h2 : b ≤ 248
        · have e : valueL b t = 240 + (b - 241) * 256 + beval t := by unfold valueL; rw [if_neg h1, if_pos h2]
          have h3 : lenL b = 1 := by unfold lenL; rw [if_neg h1, if_pos h2]
          rw [hlen, h3] at hbt
          have E := Lib.hid e
          generalize beval t = v at *
          have hv : v < 256 := by simpa using hbt
          clear e hbt hlen h3
          go_wp2
          go_ret
          refine ⟨ret_int ?_, rfl⟩
          rw [E.out]
          omega
        · by_cases h3 : b = 249
          · have e : valueL b t = 2288 + beval t := by unfold valueL; rw [if_neg h1, if_neg h2, if_pos h3]
            have h4 : lenL b = 2 := by unfold lenL; rw [if_neg h1, if_neg h2, if_pos h3]
            rw [hlen, h4] at hbt
            have E := Lib.hid e
            generalize beval t = v at *
            have hv : v < 65536 := by simpa using hbt
            have d : ((b : Int) == 249) = true := by simp; omega
            clear e hbt hlen h4 h3
            go_wp2
            go_ret
            refine ⟨ret_int ?_, rfl⟩
            rw [E.out]
            omega
          · have e : valueL b t = beval t := by unfold valueL; rw [if_neg h1, if_neg h2, if_neg h3]
            have E := Lib.hid e
            have d : ((b : Int) == 249) = false := by simp; omega
            clear e hbt hlen h3
            go_wp2
            go_ret
            exact ⟨ret_int (by rw [E.out]), rfl⟩
/-- what Take gives back -/
def TookB (w : World) (r : Nat × List UInt8 × Nat) (e : Ending) (w' : World) : Prop :=
  ∃ (A : Option Addr) (n c : Nat), e = .returned (.tuple #[.int .u64 (r.1 : Nat), .slice A n c, .int .i64 (r.2.2 : Nat)]) ∧ OwnB w' w.heap.size A n c r.2.1 ∧ Below w.heap.size w w'
set_option maxHeartbeats 2000000 in
theorem take_any (w : World) (A : Option Addr) (n c : Nat) (p : List UInt8) (h : Sl w 1 A n c (bc p)) (hn : n ≤ 70368744177664) :
    Calls Try.prog 47 #[.slice A n c] w (TookB w (takeL p)) := by
  cases p with
  | nil =>
    obtain rfl : n = 0 := by have := h.lenb; simpa using this.symm
    have e : takeL [] = (0, [], 2) := rfl
    rw [e]
    clear e
    go_enter Try.func47, Try.ntmps47
    go_wp2
    go_ret3
    exact ⟨none, 0, 0, rfl, Own.nil _ _ _ _ _, Below.refl _ _⟩
  | cons b r =>
    have hl := h.lenb
    simp only [List.length_cons] at hl
    obtain ⟨g, o, x, rfl, hx, hxl, hcell⟩ := h.byte (k := 0) (by simp)
    simp only [List.getElem_cons_zero, Nat.add_zero] at hx hcell
    have hlen := lenL_le x hxl
    have hn0 : ((n : Int) == 0) = false := by simp; omega
    have hn1 : 0 < n := by omega
    by_cases hs : n < 1 + lenL x
    · have e : takeL (b :: r) = (0, [], 2) := by simp only [takeL, List.length_cons]; rw [hx, if_pos (by omega)]
      rw [e]
      clear e hl hx
      generalize hk : lenL x = k at *
      have Hk := Lib.hid hk
      clear hk
      go_enter Try.func47, Try.ntmps47
      go_wp2_with fail
      refine (length_any x w hxl).mono ?_
      rw [Hk.out]
      rintro e w' ⟨rfl, rfl⟩
      go_wp2
      go_ret3
      exact ⟨none, 0, 0, rfl, Own.nil _ _ _ _ _, Below.refl _ _⟩
    · obtain ⟨k, hk⟩ : ∃ k, lenL x = k := ⟨_, rfl⟩
      have hcap := h.cap
      have hcm := h.capm
      unfold maxLen at hcm
      rw [hk] at hlen hs
      obtain ⟨A1, r1, s1, _⟩ := cutLH h .i64 .i64 1 ((1 : Int) + k) 1 (1 + k) rfl (by omega) (by omega) (by omega)
      have e1 : (List.drop 1 (b :: r)).take (1 + k - 1) = r.take k := by rw [Nat.add_sub_cancel_left]; rfl
      have ek : 1 + k - 1 = k := by omega
      rw [e1, ek] at s1
      simp only [ek] at r1
      clear ek
      have ht : (r.take k).length = lenL x := by rw [hk]; simp; omega
      have hv := fun (w' : World) (hh : Sl w' 1 A1 k (c - 1) (bc (r.take k))) => value_any x w' hxl A1 k (c - 1) (r.take k) hh ht
      have hvl := value_lt b (r.take k) (by rw [hx]; exact ht)
      rw [hx] at hvl
      obtain ⟨A2, r2, s2, _⟩ := cutL h .i64 ((1 : Int) + k) (1 + k) (by omega) (by omega)
      have e2 : (b :: r).drop (1 + k) = r.drop k := by rw [Nat.add_comm]; rfl
      rw [e2] at s2
      have htk : takeL (b :: r) = if numL (valueL x (r.take k)) = b :: r.take k then (valueL x (r.take k), r.drop k, 0) else (0, [], 4) := by
        simp only [takeL, List.length_cons]
        rw [hx, hk, if_neg (by omega)]
      have hck := num_check b (r.take k) (by rw [hx]; exact ht)
      rw [hx, hk] at hck
      have Hck := Lib.hid hck
      have Htk := Lib.hid htk
      have Hk := Lib.hid hk
      have Hx := Lib.hid hx
      have Ht := Lib.hid ht
      generalize valueL x (r.take k) = v at *
      have HV := Lib.hid hv
      clear htk hck hk hx ht hl hv e1 e2
      go_enter Try.func47, Try.ntmps47
      go_wp2_with fail
      refine (length_any x w hxl).mono ?_
      rw [Hk.out]
      rintro e w' ⟨rfl, rfl⟩
      go_wp2_with fail
      go_quiet ((go_at_call 54; exact quiet_left (HV.out _ (s1.drewN _))))
      go_wp2_with fail
      have hcd : (w.drewN nq).cell? ⟨g, o, none⟩ = some (.int .u8 (x : Int)) := hcell
      have hbd := below_drewN (Below.refl w.heap.size w) nq
      have hsd : (w.drewN nq).heap.size = w.heap.size := rfl
      generalize w.drewN nq = wd at *
      by_cases hlk : (numL v).length = 1 + k
      · obtain ⟨y, hfst, hbb⟩ : ∃ y : Nat, (∀ h : 0 < (numL v).length, ((numL v)[0]'h).toNat = y) ∧ (y = x ↔ (numL v)[0]? = some b) := by
          have h0 : 0 < (numL v).length := by omega
          refine ⟨((numL v)[0]'h0).toNat, fun _ => rfl, ?_⟩
          rw [List.getElem?_eq_getElem h0, Option.some.injEq, ← UInt8.toNat_inj, Hx.out]
        have Hlk := Lib.hid hlk
        have Hbb := Lib.hid hbb
        clear hbb
        clear hlk
        refine wp_region_any (by kernel_rfl) ?_
        try (change wpAny _ _ _ _ _ _ _ (World.drew _))
        refine wpAny_take (i := 0) (v := ?_) rfl (by kernel_rfl) (by kernel_rfl) (by kernel_rfl) (fun _ _ _ h => h) (Or.inl ⟨by kernel_rfl, ?_⟩) ?_
        case refine_2 => ((intro w; go_simp); try with_reducible rfl)
        refine wpAny_take (i := 3) (v := ?_) rfl (by kernel_rfl) (by kernel_rfl) (by kernel_rfl) (fun _ _ _ h => h) (Or.inl ⟨by kernel_rfl, ?_⟩) ?_
        case refine_2 => ((intro w; go_simp); try with_reducible rfl)
        refine wpAny_ready (rs := [1]) (by kernel_rfl) (by simp) ?_
        refine AllReady.cons rfl (fun K hK => ?_) AllReady.nil
        go_simp
        go_at_call 37
        refine (num_any v _ hvl).mono ?_
        rintro e w3 ⟨A3, n3, c3, rfl, ho3, hb3⟩
        have hn3 := Lib.hid (OwnB.len' ho3)
        obtain rfl : n3 = 1 + k := by have h1 := hn3.out; have h2 := Hlk.out; omega
        clear hn3
        have hcw := (hb3.cell (p := ⟨g, o, none⟩) (World.block_lt_of_cell? _ _ hcd)).trans hcd
        go_simp
        refine hK _ _ ?_
        clear hK K
        refine wpAny_take (i := 2) (v := ?_) rfl (by kernel_rfl) (by kernel_rfl) (by kernel_rfl) (fun _ _ _ h => h) (Or.inl ⟨by kernel_rfl, ?_⟩) ?_
        case refine_2 => ((intro w; go_simp); try with_reducible rfl)
        have d4 : ((1 : Int) + (k : Int) != 1 + (k : Int)) = false := by simp
        refine wpAny_take (i := 4) (v := ?_) rfl (by kernel_rfl) (by kernel_rfl) (by kernel_rfl) (fun _ _ _ h => h) (Or.inl ⟨by kernel_rfl, ?_⟩) ?_
        case refine_2 => ((intro w; go_simp); try with_reducible rfl)
        refine wpAny_take (i := 5) (v := ?_) rfl (by kernel_rfl) (by kernel_rfl) (by kernel_rfl) (fun _ _ _ h => h) (Or.inl ⟨by kernel_rfl, ?_⟩) ?_
        case refine_2 => ((intro w; go_simp); try with_reducible rfl)
        refine wpAny_take (i := 6) (v := ?_) rfl (by kernel_rfl) (by kernel_rfl) (by kernel_rfl) (fun _ _ _ h => h) (Or.inl ⟨by kernel_rfl, ?_⟩) ?_
        case refine_2 => ((intro w; go_simp); try with_reducible rfl)
        refine wpAny_take (i := 10) (v := ?_) rfl (by kernel_rfl) (by kernel_rfl) (by kernel_rfl) (fun _ _ _ h => h) (Or.inl ⟨by kernel_rfl, ?_⟩) ?_
        case refine_2 => ((intro w; go_simp); try with_reducible rfl)
        refine wpAny_take (i := 11) (v := ?_) rfl (by kernel_rfl) (by kernel_rfl) (by kernel_rfl) (fun _ _ _ h => h) (Or.inl ⟨by kernel_rfl, ?_⟩) ?_
        case refine_2 => ((intro w; go_simp); try with_reducible rfl)
        refine wpAny_ready (rs := [7, 12]) (by kernel_rfl) (by simp) ?_
        refine AllReady.cons rfl (fun K hK => ?_) ?_
        · go_simp
          go_at_call 37
          refine (num_any v _ hvl).mono ?_
          rintro e w4 ⟨A4, n4, c4, rfl, ho4, hb4⟩
          have hbw : Below w.heap.size w w4 := ((hbd.drew).trans (hb3.mono hbd.size)).trans (hb4.mono (Nat.le_trans hbd.size hb3.size))
          have hn4 := OwnB.len' ho4
          obtain rfl : n4 = 1 + k := by have h2 := Hlk.out; omega
          clear hn4
          obtain ⟨g4, o4, x4, rfl, hx4, hx4l, hc4⟩ := (OwnB.sl ho4).byte (k := 0) (by have h2 := Hlk.out; omega)
          rw [hfst] at hx4
          obtain rfl : x4 = y := hx4.symm
          clear hx4
          rw [Nat.add_zero] at hc4
          have hk0 : (0 : Int) < 1 + (k : Int) := by omega
          have hcp := (hb4.cell (p := ⟨g, o, none⟩) (World.block_lt_of_cell? _ _ hcw)).trans hcw
          go_simp
          refine hK _ _ ?_
          clear hK K
          refine wpAny_take (i := 8) (v := ?_) rfl (by kernel_rfl) (by kernel_rfl) (by kernel_rfl) (fun _ _ _ h => h) (Or.inl ⟨by kernel_rfl, ?_⟩) ?_
          case refine_2 => ((intro w; go_simp); try with_reducible rfl)
          refine wpAny_ready (rs := [9, 12]) (by kernel_rfl) (by simp) ?_
          refine AllReady.cons rfl (fun K hK => ?_) ?_
          · go_simp
            refine hK _ _ ?_
            clear hK K
            refine wpAny_ready (rs := [12]) (by kernel_rfl) (by simp) ?_
            refine AllReady.cons rfl (fun K hK => ?_) AllReady.nil
            go_simp
            refine hK _ _ ?_
            clear hK K
            refine wpAny_take (i := 13) (v := ?_) rfl (by kernel_rfl) (by kernel_rfl) (by kernel_rfl) (fun _ _ _ h => h) (Or.inl ⟨by kernel_rfl, ?_⟩) ?_
            case refine_2 => ((intro w; go_simp); try with_reducible rfl)
            refine wpAny_take (i := 14) (v := ?_) rfl (by kernel_rfl) (by kernel_rfl) (by kernel_rfl) (fun _ _ _ h => h) (Or.inl ⟨by kernel_rfl, ?_⟩) ?_
            case refine_2 => ((intro w; go_simp); try with_reducible rfl)
            refine wpAny_done (by kernel_rfl) ?_ _
            by_cases hxx : x4 = x
            · have htk : takeL (b :: r) = (v, r.drop k, 0) := by rw [Htk.out, if_pos ((Hck.out).2 ⟨Hlk.out, (Hbb.out).1 hxx⟩)]
              have HT := Lib.hid htk
              have d5 : ((x4 : Int) != (x : Int)) = false := by simp [hxx]
              have s4 := s2.below (by omega) hbw
              have e1 : (w.heap.size) ≤ w4.heap.size := hbw.size
              clear hxx htk
              go_wp2_with fail
              refine (clone_any w4 A2 _ _ _ s4 (by omega)).mono ?_
              rintro e w6 ⟨A6, n6, c6, rfl, ho6, hb6⟩
              go_wp2
              go_ret3
              rw [HT.out]
              exact ⟨A6, n6, c6, rfl, Own.mono ho6 e1, hbw.trans (hb6.mono e1)⟩
            · have htk : takeL (b :: r) = (0, [], 4) := by
                rw [Htk.out, if_neg (fun h => hxx ((Hbb.out).2 (((Hck.out).1 h).2)))]
              have HT := Lib.hid htk
              have d5 : ((x4 : Int) != (x : Int)) = true := by simp; omega
              clear hxx htk
              go_wp2
              go_ret3
              rw [HT.out]
              exact ⟨none, 0, 0, rfl, Own.nil _ _ _ _ _, hbw⟩
          refine AllReady.cons rfl (fun K hK => ?_) ?_
          · go_simp
            refine hK _ _ ?_
            clear hK K
            refine wpAny_ready (rs := [9]) (by kernel_rfl) (by simp) ?_
            refine AllReady.cons rfl (fun K hK => ?_) AllReady.nil
            go_simp
            refine hK _ _ ?_
            clear hK K
            refine wpAny_take (i := 13) (v := ?_) rfl (by kernel_rfl) (by kernel_rfl) (by kernel_rfl) (fun _ _ _ h => h) (Or.inl ⟨by kernel_rfl, ?_⟩) ?_
            case refine_2 => ((intro w; go_simp); try with_reducible rfl)
            refine wpAny_take (i := 14) (v := ?_) rfl (by kernel_rfl) (by kernel_rfl) (by kernel_rfl) (fun _ _ _ h => h) (Or.inl ⟨by kernel_rfl, ?_⟩) ?_
            case refine_2 => ((intro w; go_simp); try with_reducible rfl)
            refine wpAny_done (by kernel_rfl) ?_ _
            by_cases hxx : x4 = x
            · have htk : takeL (b :: r) = (v, r.drop k, 0) := by rw [Htk.out, if_pos ((Hck.out).2 ⟨Hlk.out, (Hbb.out).1 hxx⟩)]
              have HT := Lib.hid htk
              have d5 : ((x4 : Int) != (x : Int)) = false := by simp [hxx]
              have s4 := s2.below (by omega) hbw
              have e1 : (w.heap.size) ≤ w4.heap.size := hbw.size
              clear hxx htk
              go_wp2_with fail
              refine (clone_any w4 A2 _ _ _ s4 (by omega)).mono ?_
              rintro e w6 ⟨A6, n6, c6, rfl, ho6, hb6⟩
              go_wp2
              go_ret3
              rw [HT.out]
              exact ⟨A6, n6, c6, rfl, Own.mono ho6 e1, hbw.trans (hb6.mono e1)⟩
            · have htk : takeL (b :: r) = (0, [], 4) := by
                rw [Htk.out, if_neg (fun h => hxx ((Hbb.out).2 (((Hck.out).1 h).2)))]
              have HT := Lib.hid htk
              have d5 : ((x4 : Int) != (x : Int)) = true := by simp; omega
              clear hxx htk
              go_wp2
              go_ret3
              rw [HT.out]
              exact ⟨none, 0, 0, rfl, Own.nil _ _ _ _ _, hbw⟩
          exact AllReady.nil
        refine AllReady.cons rfl (fun K hK => ?_) ?_
        · go_simp
          refine hK _ _ ?_
          clear hK K
          refine wpAny_ready (rs := [7]) (by kernel_rfl) (by simp) ?_
          refine AllReady.cons rfl (fun K hK => ?_) AllReady.nil
          go_simp
          go_at_call 37
          refine (num_any v _ hvl).mono ?_
          rintro e w4 ⟨A4, n4, c4, rfl, ho4, hb4⟩
          have hbw : Below w.heap.size w w4 := ((hbd.drew).trans (hb3.mono hbd.size)).trans (hb4.mono (Nat.le_trans hbd.size hb3.size))
          have hn4 := OwnB.len' ho4
          obtain rfl : n4 = 1 + k := by have h2 := Hlk.out; omega
          clear hn4
          obtain ⟨g4, o4, x4, rfl, hx4, hx4l, hc4⟩ := (OwnB.sl ho4).byte (k := 0) (by have h2 := Hlk.out; omega)
          rw [hfst] at hx4
          obtain rfl : x4 = y := hx4.symm
          clear hx4
          rw [Nat.add_zero] at hc4
          have hk0 : (0 : Int) < 1 + (k : Int) := by omega
          have hcp := (hb4.cell (p := ⟨g, o, none⟩) (World.block_lt_of_cell? _ _ hcw)).trans hcw
          go_simp
          refine hK _ _ ?_
          clear hK K
          refine wpAny_take (i := 8) (v := ?_) rfl (by kernel_rfl) (by kernel_rfl) (by kernel_rfl) (fun _ _ _ h => h) (Or.inl ⟨by kernel_rfl, ?_⟩) ?_
          case refine_2 => ((intro w; go_simp); try with_reducible rfl)
          refine wpAny_ready (rs := [9]) (by kernel_rfl) (by simp) ?_
          refine AllReady.cons rfl (fun K hK => ?_) AllReady.nil
          go_simp
          refine hK _ _ ?_
          clear hK K
          refine wpAny_take (i := 13) (v := ?_) rfl (by kernel_rfl) (by kernel_rfl) (by kernel_rfl) (fun _ _ _ h => h) (Or.inl ⟨by kernel_rfl, ?_⟩) ?_
          case refine_2 => ((intro w; go_simp); try with_reducible rfl)
          refine wpAny_take (i := 14) (v := ?_) rfl (by kernel_rfl) (by kernel_rfl) (by kernel_rfl) (fun _ _ _ h => h) (Or.inl ⟨by kernel_rfl, ?_⟩) ?_
          case refine_2 => ((intro w; go_simp); try with_reducible rfl)
          refine wpAny_done (by kernel_rfl) ?_ _
          by_cases hxx : x4 = x
          · have htk : takeL (b :: r) = (v, r.drop k, 0) := by rw [Htk.out, if_pos ((Hck.out).2 ⟨Hlk.out, (Hbb.out).1 hxx⟩)]
            have HT := Lib.hid htk
            have d5 : ((x4 : Int) != (x : Int)) = false := by simp [hxx]
            have s4 := s2.below (by omega) hbw
            have e1 : (w.heap.size) ≤ w4.heap.size := hbw.size
            clear hxx htk
            go_wp2_with fail
            refine (clone_any w4 A2 _ _ _ s4 (by omega)).mono ?_
            rintro e w6 ⟨A6, n6, c6, rfl, ho6, hb6⟩
            go_wp2
            go_ret3
            rw [HT.out]
            exact ⟨A6, n6, c6, rfl, Own.mono ho6 e1, hbw.trans (hb6.mono e1)⟩
          · have htk : takeL (b :: r) = (0, [], 4) := by
              rw [Htk.out, if_neg (fun h => hxx ((Hbb.out).2 (((Hck.out).1 h).2)))]
            have HT := Lib.hid htk
            have d5 : ((x4 : Int) != (x : Int)) = true := by simp; omega
            clear hxx htk
            go_wp2
            go_ret3
            rw [HT.out]
            exact ⟨none, 0, 0, rfl, Own.nil _ _ _ _ _, hbw⟩
        exact AllReady.nil
      · have Hlk := Lib.hid hlk
        clear hlk
        refine wp_region_any (by kernel_rfl) ?_
        try (change wpAny _ _ _ _ _ _ _ (World.drew _))
        refine wpAny_take (i := 0) (v := ?_) rfl (by kernel_rfl) (by kernel_rfl) (by kernel_rfl) (fun _ _ _ h => h) (Or.inl ⟨by kernel_rfl, ?_⟩) ?_
        case refine_2 => ((intro w; go_simp); try with_reducible rfl)
        refine wpAny_take (i := 3) (v := ?_) rfl (by kernel_rfl) (by kernel_rfl) (by kernel_rfl) (fun _ _ _ h => h) (Or.inl ⟨by kernel_rfl, ?_⟩) ?_
        case refine_2 => ((intro w; go_simp); try with_reducible rfl)
        refine wpAny_ready (rs := [1]) (by kernel_rfl) (by simp) ?_
        refine AllReady.cons rfl (fun K hK => ?_) AllReady.nil
        go_simp
        go_at_call 37
        refine (num_any v _ hvl).mono ?_
        rintro e w3 ⟨A3, n3, c3, rfl, ho3, hb3⟩
        have hn3 := Lib.hid (OwnB.len' ho3)
        have d4 : ((n3 : Int) != 1 + (k : Int)) = true := bne_iff_ne.2 (by have h1 := hn3.out; have h2 := Hlk.out; omega)
        clear hn3
        go_simp
        refine hK _ _ ?_
        clear hK K
        refine wpAny_take (i := 2) (v := ?_) rfl (by kernel_rfl) (by kernel_rfl) (by kernel_rfl) (fun _ _ _ h => h) (Or.inl ⟨by kernel_rfl, ?_⟩) ?_
        case refine_2 => ((intro w; go_simp); try with_reducible rfl)
        refine wpAny_take (i := 4) (v := ?_) rfl (by kernel_rfl) (by kernel_rfl) (by kernel_rfl) (fun _ _ _ h => h) (Or.inl ⟨by kernel_rfl, ?_⟩) ?_
        case refine_2 => ((intro w; go_simp); try with_reducible rfl)
        refine wpAny_take (i := 5) (v := ?_) rfl (by kernel_rfl) (by kernel_rfl) (by kernel_rfl) (fun _ _ _ h => h) (Or.inl ⟨by kernel_rfl, ?_⟩) ?_
        case refine_2 => ((intro w; go_simp); try with_reducible rfl)
        refine wpAny_take (i := 6) (v := undef) rfl (by kernel_rfl) (by kernel_rfl) (by kernel_rfl) (fun _ _ _ h => h) (Or.inr ⟨by kernel_rfl, rfl⟩) ?_
        refine wpAny_take (i := 7) (v := undef) rfl (by kernel_rfl) (by kernel_rfl) (by kernel_rfl) (fun _ _ _ h => h) (Or.inr ⟨by kernel_rfl, rfl⟩) ?_
        refine wpAny_take (i := 8) (v := undef) rfl (by kernel_rfl) (by kernel_rfl) (by kernel_rfl) (fun _ _ _ h => h) (Or.inr ⟨by kernel_rfl, rfl⟩) ?_
        refine wpAny_take (i := 9) (v := undef) rfl (by kernel_rfl) (by kernel_rfl) (by kernel_rfl) (fun _ _ _ h => h) (Or.inr ⟨by kernel_rfl, rfl⟩) ?_
        refine wpAny_take (i := 10) (v := undef) rfl (by kernel_rfl) (by kernel_rfl) (by kernel_rfl) (fun _ _ _ h => h) (Or.inr ⟨by kernel_rfl, rfl⟩) ?_
        refine wpAny_take (i := 11) (v := undef) rfl (by kernel_rfl) (by kernel_rfl) (by kernel_rfl) (fun _ _ _ h => h) (Or.inr ⟨by kernel_rfl, rfl⟩) ?_
        refine wpAny_take (i := 12) (v := undef) rfl (by kernel_rfl) (by kernel_rfl) (by kernel_rfl) (fun _ _ _ h => h) (Or.inr ⟨by kernel_rfl, rfl⟩) ?_
        refine wpAny_take (i := 13) (v := undef) rfl (by kernel_rfl) (by kernel_rfl) (by kernel_rfl) (fun _ _ _ h => h) (Or.inr ⟨by kernel_rfl, rfl⟩) ?_
        refine wpAny_ready (rs := [14]) (by kernel_rfl) (by simp) ?_
        refine AllReady.cons rfl (fun K hK => ?_) AllReady.nil
        go_simp
        refine hK _ _ ?_
        clear hK K
        refine wpAny_done (by kernel_rfl) ?_ _
        have htk : takeL (b :: r) = (0, [], 4) := by rw [Htk.out, if_neg (fun h => Hlk.out (((Hck.out).1 h).1))]
        have HT := Lib.hid htk
        clear htk
        go_wp2
        go_ret3
        rw [HT.out]
        exact ⟨none, 0, 0, rfl, Own.nil _ _ _ _ _, (hbd.drew).trans (hb3.mono hbd.size)⟩
end Go.Proofs.Ytpffieogkfndaaa

namespace Go.Proofs.Ytpffieogkfndaaa
set_option maxRecDepth 20000
open Go.RowKit

theorem value_one (b : Nat) (t : List UInt8) (h : b ≤ 240) : valueL b t = b := by unfold valueL; rw [if_pos h]
theorem take_first (b : UInt8) (r : List UInt8) (h : b.toNat ≤ 240) : takeL (b :: r) = (b.toNat, r, 0) := by
  have h0 : lenL b.toNat = 0 := by unfold lenL; rw [if_pos h]
  have h1 : numL b.toNat = [b] := by
    unfold numL
    rw [if_pos (by omega)]
    simp
  simp only [takeL, h0, List.take_zero, List.drop_zero, value_one _ _ h, h1]
  rw [if_neg (by simp)]
  simp
set_option maxHeartbeats 8000000 in
theorem rtake_any (w : World) (A : Option Addr) (n c : Nat) (p : List UInt8) (h : Sl w 1 A n c (bc p)) (hn : n ≤ 70368744177664) :
    Calls Try.prog 24 #[.slice A n c] w (TookB w (takeL p)) := by
  cases p with
  | nil =>
    obtain rfl : n = 0 := by have := h.lenb; simpa using this.symm
    have e : takeL [] = (0, [], 2) := rfl
    rw [e]
    clear e
    go_enter Try.func24, Try.ntmps24
    go_wp2
    go_ret3
    exact ⟨none, 0, 0, rfl, Own.nil _ _ _ _ _, Below.refl _ _⟩
  | cons b r =>
    have hl := h.lenb
    simp only [List.length_cons] at hl
    obtain ⟨g, o, x, rfl, hx, hxl, hcell⟩ := h.byte (k := 0) (by simp)
    simp only [List.getElem_cons_zero, Nat.add_zero] at hx hcell
    have hlen := lenL_le x hxl
    have hn0 : ((n : Int) == 0) = false := by simp; omega
    have hn1 : 0 < n := by omega
    have hcap := h.cap
    have hcm := h.capm
    unfold maxLen at hcm
    by_cases h240 : x ≤ 240
    · have e := take_first b r (by omega)
      rw [hx] at e
      rw [e]
      obtain ⟨A2, r2, s2, _⟩ := cutL h .i64 (1 : Int) 1 rfl (by omega)
      have e2 : (b :: r).drop 1 = r := rfl
      rw [e2] at s2
      have s2' := s2.below (by omega) ((Below.refl w.heap.size w).alloc (Nat.le_refl _) (.cells #[] 5))
      clear e e2 hl hx hlen
      go_enter Try.func24, Try.ntmps24
      go_wp2_with (at_builtin; refine wpList_appB _ rfl (.tmp 24) (.tmp 26) rfl w.heap.size _ 0 0 [] rfl (Own.nil _ _ _ _ _) A2 _ _ r rfl s2' ?_ ?_ ?_)
      · omega
      · simp
      · intro A3 c3 w3 ho3 hg3 _
        go_wp2
        go_ret3
        exact ⟨A3, _, c3, rfl, by simpa using ho3, ((Below.refl w.heap.size w).alloc (Nat.le_refl _) _).grown hg3 (by simp) (by simp [blk])⟩
    · obtain ⟨k, hk⟩ : ∃ k, lenL x = k := ⟨_, rfl⟩
      have hkx : (x ≤ 248 → k = 1) ∧ (x = 249 → k = 2) ∧ (250 ≤ x → k + 247 = x) := by
        rw [← hk]
        unfold lenL
        rw [if_neg h240]
        refine ⟨fun q => by rw [if_pos q], fun q => by rw [if_neg (by omega), if_pos q], fun q => by rw [if_neg (by omega), if_neg (by omega)]; omega⟩
      rw [hk] at hlen
      by_cases hs : n < 1 + k
      · have e : takeL (b :: r) = (0, [], 2) := by simp only [takeL, List.length_cons]; rw [hx, hk, if_pos (by omega)]
        rw [e]
        clear e hl hx hk
        rcases Nat.lt_or_ge 248 x with h248 | h248
        · by_cases h249 : x = 249
          · subst h249
            obtain rfl : k = 2 := hkx.2.1 rfl
            clear hkx
            go_enter Try.func24, Try.ntmps24
            go_wp2
            go_ret3
            exact ⟨none, 0, 0, rfl, Own.nil _ _ _ _ _, Below.refl _ _⟩
          · have hk3 := hkx.2.2 (by omega)
            have d1 : ((x : Int) == 249) = false := by simp; omega
            clear hkx
            go_enter Try.func24, Try.ntmps24
            go_wp2
            go_ret3
            exact ⟨none, 0, 0, rfl, Own.nil _ _ _ _ _, Below.refl _ _⟩
        · obtain rfl : k = 1 := hkx.1 h248
          clear hkx
          go_enter Try.func24, Try.ntmps24
          go_wp2
          go_ret3
          exact ⟨none, 0, 0, rfl, Own.nil _ _ _ _ _, Below.refl _ _⟩
      · rcases Nat.lt_or_ge 248 x with h248 | h248
        · by_cases h249 : x = 249
          · have d1 : ((x : Int) == 249) = true := by simp; omega
            obtain rfl : k = 2 := hkx.2.1 h249
            obtain ⟨A1, r1, s1, _⟩ := cutLH h .i64 .i64 1 (3) 1 (1 + 2) rfl (by omega) (by omega) (by omega)
            have e1 : (List.drop 1 (b :: r)).take (1 + 2 - 1) = r.take 2 := by rw [Nat.add_sub_cancel_left]; rfl
            have ek : 1 + 2 - 1 = 2 := by omega
            rw [e1, ek] at s1
            simp only [ek] at r1
            clear ek e1
            have ht : (r.take 2).length = lenL x := by rw [hk]; simp; omega
            have hvl := value_lt b (r.take 2) (by rw [hx]; exact ht)
            rw [hx] at hvl
            obtain ⟨A2, r2, s2, _⟩ := cutL h .i64 (3) (1 + 2) (by omega) (by omega)
            have e2 : (b :: r).drop (1 + 2) = r.drop 2 := by rw [Nat.add_comm]; rfl
            rw [e2] at s2
            obtain ⟨r3, s3⟩ := cutH h .i64 (3) (1 + 2) (by omega) (by omega)
            have e3 : (b :: r).take (1 + 2) = b :: r.take 2 := by rw [Nat.add_comm]; rfl
            rw [e3] at s3
            have htk : takeL (b :: r) = if numL (valueL x (r.take 2)) = b :: r.take 2 then (valueL x (r.take 2), r.drop 2, 0) else (0, [], 4) := by
              simp only [takeL, List.length_cons]
              rw [hx, hk, if_neg (by omega)]
            have hval : valueL x (r.take 2) = 2288 + beval (r.take 2) := by
              unfold valueL
              first | rw [if_neg h240, if_pos h248] | (rw [if_neg h240, if_neg (by omega), if_pos h249]) | (rw [if_neg h240, if_neg (by omega), if_neg (by omega)])
            have hbt := beval_lt (r.take 2)
            have hkl : (r.take 2).length = 2 := by simp; omega
            have Hx := Lib.hid hx
            have Hkl := Lib.hid hkl
            have Hval := Lib.hid hval
            have Htk := Lib.hid htk
            rw [hkl] at hbt
            obtain ⟨t, hte⟩ : ∃ t, r.take 2 = t := ⟨_, rfl⟩
            rw [hte] at s1 s3 Htk Hval Hkl hbt hvl
            have Hte := Lib.hid hte
            obtain ⟨v, hv⟩ : ∃ v, valueL x t = v := ⟨_, rfl⟩
            rw [hv] at Htk Hval hvl
            clear hte ht hx hk e2 e3 htk hval hkl hv hkx hl
            have hnum : ∀ (w' : World) (I : Int), I = (v : Int) → Calls Try.prog 31 #[.int .u64 I] w' (NewB w' (numL v)) := by
              rintro w' I rfl
              exact rnum_any v w' hvl
            have Hnum := Lib.hid hnum
            clear hnum
            go_enter Try.func24, Try.ntmps24
            go_wp2
            go_loop [6, 42] (fun s i => ∃ j : Nat, j ≤ 2 ∧ i = .int .i64 j ∧ s = .int .u64 (beval (t.take j) : Nat)) (fun _ i => 2 - (intOf i).toNat)
            case atStart => exact ⟨0, Nat.zero_le _, rfl, rfl⟩
            case round =>
              obtain ⟨j, hj, rfl, rfl⟩ := hrel
              by_cases hjn : j < 2
              · have hjt : j < t.length := by have := Hkl.out; omega
                obtain ⟨g1, o1, y, rfl, hy, hyl, hycell⟩ := s1.byte hjt
                have hv : beval (t.take j) < 72057594037927936 := by
                  have h1 := beval_lt (t.take j)
                  have h2 : (256 : Nat) ^ (t.take j).length ≤ 256 ^ 7 := Nat.pow_le_pow_right (by omega) (by rw [List.length_take]; omega)
                  have : (256 : Nat) ^ 7 = 72057594037927936 := rfl
                  omega
                have hs2 := beval_snoc (t.take j) t[j]
                rw [← List.take_succ_eq_append_getElem hjt, hy] at hs2
                have Hs2 := Lib.hid hs2
                generalize beval (t.take j) = z at *
                clear hs2 hy hbt
                go_wp2
                go_round
                case rel => exact ⟨j + 1, by omega, by go_num, by rw [Hs2.out]; go_num⟩
                case measure => simp [intOf]; omega
              · rw [List.take_of_length_le (show t.length ≤ j by have := Hkl.out; omega)]
                obtain ⟨z, hz⟩ : ∃ z, beval t = z := ⟨_, rfl⟩
                rw [hz] at hbt Hval
                rw [hz]
                clear hz
                have hzl : z < 18446744073709551616 := by have := Hval.out; omega
                try simp only [Nat.reducePow] at hbt
                obtain ⟨bb, hbb⟩ : ∃ bb, (numL v == b :: t) = bb := ⟨_, rfl⟩
                have Hbb := Lib.hid hbb
                clear hbb
                go_wp2
                refine wp_region_any (by kernel_rfl) ?_
                try (change wpAny _ _ _ _ _ _ _ (World.drew _))
                refine wpAny_take (i := 0) (v := ?_) rfl (by kernel_rfl) (by kernel_rfl) (by kernel_rfl) (fun _ _ _ h => h) (Or.inl ⟨by kernel_rfl, ?_⟩) ?_
                case refine_2 => ((intro w; go_simp); try with_reducible rfl)
                refine wpAny_take (i := 2) (v := ?_) rfl (by kernel_rfl) (by kernel_rfl) (by kernel_rfl) (fun _ _ _ h => h) (Or.inl ⟨by kernel_rfl, ?_⟩) ?_
                case refine_2 => ((intro w; go_simp); try with_reducible rfl)
                refine wpAny_take (i := 3) (v := ?_) rfl (by kernel_rfl) (by kernel_rfl) (by kernel_rfl) (fun _ _ _ h => h) (Or.inl ⟨by kernel_rfl, ?_⟩) ?_
                case refine_2 => ((intro w; go_simp); try with_reducible rfl)
                refine wpAny_take (i := 4) (v := ?_) rfl (by kernel_rfl) (by kernel_rfl) (by kernel_rfl) (fun _ _ _ h => h) (Or.inl ⟨by kernel_rfl, ?_⟩) ?_
                case refine_2 => ((intro w; go_simp); try with_reducible rfl)
                refine wpAny_ready (rs := [1]) (by kernel_rfl) (by simp) ?_
                refine AllReady.cons rfl (fun K hK => ?_) AllReady.nil
                go_simp
                refine (Hnum.out _ _ (by have := Hval.out; omega)).mono ?_
                rintro e w3 ⟨A3, n3, c3, rfl, ho3, hb3⟩
                go_simp
                refine hK _ _ ?_
                clear hK K
                refine wpAny_ready (rs := [5]) (by kernel_rfl) (by simp) ?_
                refine AllReady.cons rfl (fun K hK => ?_) AllReady.nil
                go_simp
                refine (same_is _ A3 n3 c3 _ _ _ _ _ bb Hbb (OwnB.sl ho3) ((Sl.drew s3).below (by omega) hb3)).mono ?_
                rintro e w' ⟨rfl, rfl⟩
                go_simp
                refine hK _ _ ?_
                clear hK K
                refine wpAny_take (i := 6) (v := ?_) rfl (by kernel_rfl) (by kernel_rfl) (by kernel_rfl) (fun _ _ _ h => h) (Or.inl ⟨by kernel_rfl, ?_⟩) ?_
                case refine_2 => ((intro w; go_simp); try with_reducible rfl)
                refine wpAny_done (by kernel_rfl) ?_ _
                have hb1 := Below.trans (Below.drew (Below.refl w.heap.size w)) hb3
                cases bb with
                | true =>
                  have he : takeL (b :: r) = (v, r.drop 2, 0) := by
                    have h1 := Htk.out
                    rw [h1, if_pos (eq_of_beq Hbb.out)]
                  have He := Lib.hid he
                  clear he
                  have s2' := (s2.below (by omega) hb1).below (by omega) ((Below.refl w3.heap.size w3).alloc (Nat.le_refl _) (.cells #[] 5))
                  have hbz := hb1.alloc hb1.size (.cells #[] 5)
                  go_wp2_with (at_builtin; refine wpList_appB _ rfl (.tmp 75) (.tmp 78) rfl w.heap.size _ 0 0 [] rfl (Own.nil _ _ _ _ _) A2 _ _ _ rfl s2' ?_ ?_ ?_)
                  · omega
                  · exact hbz.size
                  · intro A4 c4 w4 ho4 hg4 _
                    go_wp2
                    go_ret3
                    rw [He.out]
                    refine ⟨A4, _, c4, ?_, by simpa using ho4, hbz.grown hg4 hbz.size (by simp [blk])⟩
                    have h1 := Hval.out
                    first | rfl | (refine congrArg (fun q => Ending.returned (Value.tuple #[Value.int .u64 q, _, _])) ?_; omega)
                | false =>
                  have he : takeL (b :: r) = (0, [], 4) := by
                    have h1 := Htk.out
                    rw [h1, if_neg (by intro q; have h3 := Hbb.out; rw [q] at h3; simp at h3)]
                  have He := Lib.hid he
                  clear he
                  go_wp2
                  go_ret3
                  rw [He.out]
                  exact ⟨none, 0, 0, rfl, Own.nil _ _ _ _ _, hb1⟩
          · have hk3 := hkx.2.2 (by omega)
            have d1 : ((x : Int) == 249) = false := by simp; omega
            obtain ⟨A1, r1, s1, _⟩ := cutLH h .i64 .i64 1 ((x : Int) - 246) 1 (1 + k) rfl (by omega) (by omega) (by omega)
            have e1 : (List.drop 1 (b :: r)).take (1 + k - 1) = r.take k := by rw [Nat.add_sub_cancel_left]; rfl
            have ek : 1 + k - 1 = k := by omega
            rw [e1, ek] at s1
            simp only [ek] at r1
            clear ek e1
            have ht : (r.take k).length = lenL x := by rw [hk]; simp; omega
            have hvl := value_lt b (r.take k) (by rw [hx]; exact ht)
            rw [hx] at hvl
            obtain ⟨A2, r2, s2, _⟩ := cutL h .i64 ((x : Int) - 246) (1 + k) (by omega) (by omega)
            have e2 : (b :: r).drop (1 + k) = r.drop k := by rw [Nat.add_comm]; rfl
            rw [e2] at s2
            obtain ⟨r3, s3⟩ := cutH h .i64 ((x : Int) - 246) (1 + k) (by omega) (by omega)
            have e3 : (b :: r).take (1 + k) = b :: r.take k := by rw [Nat.add_comm]; rfl
            rw [e3] at s3
            have htk : takeL (b :: r) = if numL (valueL x (r.take k)) = b :: r.take k then (valueL x (r.take k), r.drop k, 0) else (0, [], 4) := by
              simp only [takeL, List.length_cons]
              rw [hx, hk, if_neg (by omega)]
            have hval : valueL x (r.take k) = beval (r.take k) := by
              unfold valueL
              first | rw [if_neg h240, if_pos h248] | (rw [if_neg h240, if_neg (by omega), if_pos h249]) | (rw [if_neg h240, if_neg (by omega), if_neg (by omega)])
            have hbt := beval_lt (r.take k)
            have hkl : (r.take k).length = k := by simp; omega
            have Hx := Lib.hid hx
            have Hkl := Lib.hid hkl
            have Hval := Lib.hid hval
            have Htk := Lib.hid htk
            rw [hkl] at hbt
            obtain ⟨t, hte⟩ : ∃ t, r.take k = t := ⟨_, rfl⟩
            rw [hte] at s1 s3 Htk Hval Hkl hbt hvl
            have Hte := Lib.hid hte
            obtain ⟨v, hv⟩ : ∃ v, valueL x t = v := ⟨_, rfl⟩
            rw [hv] at Htk Hval hvl
            clear hte ht hx hk e2 e3 htk hval hkl hv hkx hl
            have hnum : ∀ (w' : World) (I : Int), I = (v : Int) → Calls Try.prog 31 #[.int .u64 I] w' (NewB w' (numL v)) := by
              rintro w' I rfl
              exact rnum_any v w' hvl
            have Hnum := Lib.hid hnum
            clear hnum
            go_enter Try.func24, Try.ntmps24
            go_wp2
            go_loop [6, 42] (fun s i => ∃ j : Nat, j ≤ k ∧ i = .int .i64 j ∧ s = .int .u64 (beval (t.take j) : Nat)) (fun _ i => k - (intOf i).toNat)
            case atStart => exact ⟨0, Nat.zero_le _, rfl, rfl⟩
            case round =>
              obtain ⟨j, hj, rfl, rfl⟩ := hrel
              by_cases hjn : j < k
              · have hjt : j < t.length := by have := Hkl.out; omega
                obtain ⟨g1, o1, y, rfl, hy, hyl, hycell⟩ := s1.byte hjt
                have hv : beval (t.take j) < 72057594037927936 := by
                  have h1 := beval_lt (t.take j)
                  have h2 : (256 : Nat) ^ (t.take j).length ≤ 256 ^ 7 := Nat.pow_le_pow_right (by omega) (by rw [List.length_take]; omega)
                  have : (256 : Nat) ^ 7 = 72057594037927936 := rfl
                  omega
                have hs2 := beval_snoc (t.take j) t[j]
                rw [← List.take_succ_eq_append_getElem hjt, hy] at hs2
                have Hs2 := Lib.hid hs2
                generalize beval (t.take j) = z at *
                clear hs2 hy hbt
                go_wp2
                go_round
                case rel => exact ⟨j + 1, by omega, by go_num, by rw [Hs2.out]; go_num⟩
                case measure => simp [intOf]; omega
              · rw [List.take_of_length_le (show t.length ≤ j by have := Hkl.out; omega)]
                obtain ⟨z, hz⟩ : ∃ z, beval t = z := ⟨_, rfl⟩
                rw [hz] at hbt Hval
                rw [hz]
                clear hz
                have hzl : z < 18446744073709551616 := by have := Hval.out; omega
                try simp only [Nat.reducePow] at hbt
                obtain ⟨bb, hbb⟩ : ∃ bb, (numL v == b :: t) = bb := ⟨_, rfl⟩
                have Hbb := Lib.hid hbb
                clear hbb
                go_wp2
                refine wp_region_any (by kernel_rfl) ?_
                try (change wpAny _ _ _ _ _ _ _ (World.drew _))
                refine wpAny_take (i := 0) (v := ?_) rfl (by kernel_rfl) (by kernel_rfl) (by kernel_rfl) (fun _ _ _ h => h) (Or.inl ⟨by kernel_rfl, ?_⟩) ?_
                case refine_2 => ((intro w; go_simp); try with_reducible rfl)
                refine wpAny_take (i := 2) (v := ?_) rfl (by kernel_rfl) (by kernel_rfl) (by kernel_rfl) (fun _ _ _ h => h) (Or.inl ⟨by kernel_rfl, ?_⟩) ?_
                case refine_2 => ((intro w; go_simp); try with_reducible rfl)
                refine wpAny_take (i := 3) (v := ?_) rfl (by kernel_rfl) (by kernel_rfl) (by kernel_rfl) (fun _ _ _ h => h) (Or.inl ⟨by kernel_rfl, ?_⟩) ?_
                case refine_2 => ((intro w; go_simp); try with_reducible rfl)
                refine wpAny_take (i := 4) (v := ?_) rfl (by kernel_rfl) (by kernel_rfl) (by kernel_rfl) (fun _ _ _ h => h) (Or.inl ⟨by kernel_rfl, ?_⟩) ?_
                case refine_2 => ((intro w; go_simp); try with_reducible rfl)
                refine wpAny_ready (rs := [1]) (by kernel_rfl) (by simp) ?_
                refine AllReady.cons rfl (fun K hK => ?_) AllReady.nil
                go_simp
                refine (Hnum.out _ _ (by have := Hval.out; omega)).mono ?_
                rintro e w3 ⟨A3, n3, c3, rfl, ho3, hb3⟩
                go_simp
                refine hK _ _ ?_
                clear hK K
                refine wpAny_ready (rs := [5]) (by kernel_rfl) (by simp) ?_
                refine AllReady.cons rfl (fun K hK => ?_) AllReady.nil
                go_simp
                refine (same_is _ A3 n3 c3 _ _ _ _ _ bb Hbb (OwnB.sl ho3) ((Sl.drew s3).below (by omega) hb3)).mono ?_
                rintro e w' ⟨rfl, rfl⟩
                go_simp
                refine hK _ _ ?_
                clear hK K
                refine wpAny_take (i := 6) (v := ?_) rfl (by kernel_rfl) (by kernel_rfl) (by kernel_rfl) (fun _ _ _ h => h) (Or.inl ⟨by kernel_rfl, ?_⟩) ?_
                case refine_2 => ((intro w; go_simp); try with_reducible rfl)
                refine wpAny_done (by kernel_rfl) ?_ _
                have hb1 := Below.trans (Below.drew (Below.refl w.heap.size w)) hb3
                cases bb with
                | true =>
                  have he : takeL (b :: r) = (v, r.drop k, 0) := by
                    have h1 := Htk.out
                    rw [h1, if_pos (eq_of_beq Hbb.out)]
                  have He := Lib.hid he
                  clear he
                  have s2' := (s2.below (by omega) hb1).below (by omega) ((Below.refl w3.heap.size w3).alloc (Nat.le_refl _) (.cells #[] 5))
                  have hbz := hb1.alloc hb1.size (.cells #[] 5)
                  go_wp2_with (at_builtin; refine wpList_appB _ rfl (.tmp 75) (.tmp 78) rfl w.heap.size _ 0 0 [] rfl (Own.nil _ _ _ _ _) A2 _ _ _ rfl s2' ?_ ?_ ?_)
                  · omega
                  · exact hbz.size
                  · intro A4 c4 w4 ho4 hg4 _
                    go_wp2
                    go_ret3
                    rw [He.out]
                    refine ⟨A4, _, c4, ?_, by simpa using ho4, hbz.grown hg4 hbz.size (by simp [blk])⟩
                    have h1 := Hval.out
                    first | rfl | (refine congrArg (fun q => Ending.returned (Value.tuple #[Value.int .u64 q, _, _])) ?_; omega)
                | false =>
                  have he : takeL (b :: r) = (0, [], 4) := by
                    have h1 := Htk.out
                    rw [h1, if_neg (by intro q; have h3 := Hbb.out; rw [q] at h3; simp at h3)]
                  have He := Lib.hid he
                  clear he
                  go_wp2
                  go_ret3
                  rw [He.out]
                  exact ⟨none, 0, 0, rfl, Own.nil _ _ _ _ _, hb1⟩
        · have h248' := h248
          obtain rfl : k = 1 := hkx.1 h248
          obtain ⟨A1, r1, s1, _⟩ := cutLH h .i64 .i64 1 (2) 1 (1 + 1) rfl (by omega) (by omega) (by omega)
          have e1 : (List.drop 1 (b :: r)).take (1 + 1 - 1) = r.take 1 := by rw [Nat.add_sub_cancel_left]; rfl
          have ek : 1 + 1 - 1 = 1 := by omega
          rw [e1, ek] at s1
          simp only [ek] at r1
          clear ek e1
          have ht : (r.take 1).length = lenL x := by rw [hk]; simp; omega
          have hvl := value_lt b (r.take 1) (by rw [hx]; exact ht)
          rw [hx] at hvl
          obtain ⟨A2, r2, s2, _⟩ := cutL h .i64 (2) (1 + 1) (by omega) (by omega)
          have e2 : (b :: r).drop (1 + 1) = r.drop 1 := by rw [Nat.add_comm]; rfl
          rw [e2] at s2
          obtain ⟨r3, s3⟩ := cutH h .i64 (2) (1 + 1) (by omega) (by omega)
          have e3 : (b :: r).take (1 + 1) = b :: r.take 1 := by rw [Nat.add_comm]; rfl
          rw [e3] at s3
          have htk : takeL (b :: r) = if numL (valueL x (r.take 1)) = b :: r.take 1 then (valueL x (r.take 1), r.drop 1, 0) else (0, [], 4) := by
            simp only [takeL, List.length_cons]
            rw [hx, hk, if_neg (by omega)]
          have hval : valueL x (r.take 1) = 240 + (x - 241) * 256 + beval (r.take 1) := by
            unfold valueL
            first | rw [if_neg h240, if_pos h248] | (rw [if_neg h240, if_neg (by omega), if_pos h249]) | (rw [if_neg h240, if_neg (by omega), if_neg (by omega)])
          have hbt := beval_lt (r.take 1)
          have hkl : (r.take 1).length = 1 := by simp; omega
          have Hx := Lib.hid hx
          have Hkl := Lib.hid hkl
          have Hval := Lib.hid hval
          have Htk := Lib.hid htk
          rw [hkl] at hbt
          obtain ⟨t, hte⟩ : ∃ t, r.take 1 = t := ⟨_, rfl⟩
          rw [hte] at s1 s3 Htk Hval Hkl hbt hvl
          have Hte := Lib.hid hte
          obtain ⟨v, hv⟩ : ∃ v, valueL x t = v := ⟨_, rfl⟩
          rw [hv] at Htk Hval hvl
          clear hte ht hx hk e2 e3 htk hval hkl hv hkx hl
          have hnum : ∀ (w' : World) (I : Int), I = (v : Int) → Calls Try.prog 31 #[.int .u64 I] w' (NewB w' (numL v)) := by
            rintro w' I rfl
            exact rnum_any v w' hvl
          have Hnum := Lib.hid hnum
          clear hnum
          go_enter Try.func24, Try.ntmps24
          go_wp2
          go_loop [6, 42] (fun s i => ∃ j : Nat, j ≤ 1 ∧ i = .int .i64 j ∧ s = .int .u64 (beval (t.take j) : Nat)) (fun _ i => 1 - (intOf i).toNat)
          case atStart => exact ⟨0, Nat.zero_le _, rfl, rfl⟩
          case round =>
            obtain ⟨j, hj, rfl, rfl⟩ := hrel
            by_cases hjn : j < 1
            · have hjt : j < t.length := by have := Hkl.out; omega
              obtain ⟨g1, o1, y, rfl, hy, hyl, hycell⟩ := s1.byte hjt
              have hv : beval (t.take j) < 72057594037927936 := by
                have h1 := beval_lt (t.take j)
                have h2 : (256 : Nat) ^ (t.take j).length ≤ 256 ^ 7 := Nat.pow_le_pow_right (by omega) (by rw [List.length_take]; omega)
                have : (256 : Nat) ^ 7 = 72057594037927936 := rfl
                omega
              have hs2 := beval_snoc (t.take j) t[j]
              rw [← List.take_succ_eq_append_getElem hjt, hy] at hs2
              have Hs2 := Lib.hid hs2
              generalize beval (t.take j) = z at *
              clear hs2 hy hbt
              go_wp2
              go_round
              case rel => exact ⟨j + 1, by omega, by go_num, by rw [Hs2.out]; go_num⟩
              case measure => simp [intOf]; omega
            · rw [List.take_of_length_le (show t.length ≤ j by have := Hkl.out; omega)]
              obtain ⟨z, hz⟩ : ∃ z, beval t = z := ⟨_, rfl⟩
              rw [hz] at hbt Hval
              rw [hz]
              clear hz
              have hzl : z < 18446744073709551616 := by have := Hval.out; omega
              try simp only [Nat.reducePow] at hbt
              obtain ⟨bb, hbb⟩ : ∃ bb, (numL v == b :: t) = bb := ⟨_, rfl⟩
              have Hbb := Lib.hid hbb
              clear hbb
              go_wp2
              refine wp_region_any (by kernel_rfl) ?_
              try (change wpAny _ _ _ _ _ _ _ (World.drew _))
              refine wpAny_take (i := 0) (v := ?_) rfl (by kernel_rfl) (by kernel_rfl) (by kernel_rfl) (fun _ _ _ h => h) (Or.inl ⟨by kernel_rfl, ?_⟩) ?_
              case refine_2 => ((intro w; go_simp); try with_reducible rfl)
              refine wpAny_take (i := 2) (v := ?_) rfl (by kernel_rfl) (by kernel_rfl) (by kernel_rfl) (fun _ _ _ h => h) (Or.inl ⟨by kernel_rfl, ?_⟩) ?_
              case refine_2 => ((intro w; go_simp); try with_reducible rfl)
              refine wpAny_take (i := 3) (v := ?_) rfl (by kernel_rfl) (by kernel_rfl) (by kernel_rfl) (fun _ _ _ h => h) (Or.inl ⟨by kernel_rfl, ?_⟩) ?_
              case refine_2 => ((intro w; go_simp); try with_reducible rfl)
              refine wpAny_take (i := 4) (v := ?_) rfl (by kernel_rfl) (by kernel_rfl) (by kernel_rfl) (fun _ _ _ h => h) (Or.inl ⟨by kernel_rfl, ?_⟩) ?_
              case refine_2 => ((intro w; go_simp); try with_reducible rfl)
              refine wpAny_ready (rs := [1]) (by kernel_rfl) (by simp) ?_
              refine AllReady.cons rfl (fun K hK => ?_) AllReady.nil
              go_simp
              refine (Hnum.out _ _ (by have := Hval.out; omega)).mono ?_
              rintro e w3 ⟨A3, n3, c3, rfl, ho3, hb3⟩
              go_simp
              refine hK _ _ ?_
              clear hK K
              refine wpAny_ready (rs := [5]) (by kernel_rfl) (by simp) ?_
              refine AllReady.cons rfl (fun K hK => ?_) AllReady.nil
              go_simp
              refine (same_is _ A3 n3 c3 _ _ _ _ _ bb Hbb (OwnB.sl ho3) ((Sl.drew s3).below (by omega) hb3)).mono ?_
              rintro e w' ⟨rfl, rfl⟩
              go_simp
              refine hK _ _ ?_
              clear hK K
              refine wpAny_take (i := 6) (v := ?_) rfl (by kernel_rfl) (by kernel_rfl) (by kernel_rfl) (fun _ _ _ h => h) (Or.inl ⟨by kernel_rfl, ?_⟩) ?_
              case refine_2 => ((intro w; go_simp); try with_reducible rfl)
              refine wpAny_done (by kernel_rfl) ?_ _
              have hb1 := Below.trans (Below.drew (Below.refl w.heap.size w)) hb3
              cases bb with
              | true =>
                have he : takeL (b :: r) = (v, r.drop 1, 0) := by
                  have h1 := Htk.out
                  rw [h1, if_pos (eq_of_beq Hbb.out)]
                have He := Lib.hid he
                clear he
                have s2' := (s2.below (by omega) hb1).below (by omega) ((Below.refl w3.heap.size w3).alloc (Nat.le_refl _) (.cells #[] 5))
                have hbz := hb1.alloc hb1.size (.cells #[] 5)
                go_wp2_with (at_builtin; refine wpList_appB _ rfl (.tmp 75) (.tmp 78) rfl w.heap.size _ 0 0 [] rfl (Own.nil _ _ _ _ _) A2 _ _ _ rfl s2' ?_ ?_ ?_)
                · omega
                · exact hbz.size
                · intro A4 c4 w4 ho4 hg4 _
                  go_wp2
                  go_ret3
                  rw [He.out]
                  refine ⟨A4, _, c4, ?_, by simpa using ho4, hbz.grown hg4 hbz.size (by simp [blk])⟩
                  have h1 := Hval.out
                  first | rfl | (refine congrArg (fun q => Ending.returned (Value.tuple #[Value.int .u64 q, _, _])) ?_; omega)
              | false =>
                have he : takeL (b :: r) = (0, [], 4) := by
                  have h1 := Htk.out
                  rw [h1, if_neg (by intro q; have h3 := Hbb.out; rw [q] at h3; simp at h3)]
                have He := Lib.hid he
                clear he
                go_wp2
                go_ret3
                rw [He.out]
                exact ⟨none, 0, 0, rfl, Own.nil _ _ _ _ _, hb1⟩
end Go.Proofs.Ytpffieogkfndaaa

namespace Go.Proofs.Ytpffieogkfndaaa
set_option maxRecDepth 20000
open Go.RowKit

def takeTextL (p : List UInt8) (most : Int) : List UInt8 × List UInt8 × Nat :=
  if (takeL p).2.2 ≠ 0 then ([], [], (takeL p).2.2) else if most < 0 ∨ most < (takeL p).1 then ([], [], 3) else if (takeL p).2.1.length < (takeL p).1 then ([], [], 2)
  else ((takeL p).2.1.take (takeL p).1, (takeL p).2.1.drop (takeL p).1, 0)
theorem takeL_lt (p : List UInt8) : (takeL p).1 < 18446744073709551616 := by
  cases p with
  | nil => decide
  | cons b r =>
    simp only [takeL]
    split
    · decide
    · rename_i h
      split
      · refine value_lt b _ ?_
        simp at h ⊢
        omega
      · decide
theorem takeL_len (p : List UInt8) : (takeL p).2.1.length ≤ p.length := by
  cases p with
  | nil => decide
  | cons b r =>
    simp only [takeL]
    split
    · simp
    · split
      · simp; omega
      · simp
/-- what TakeText gives back -/
def TookT (w : World) (r : List UInt8 × List UInt8 × Nat) (e : Ending) (w' : World) : Prop :=
  ∃ (A : Option Addr) (n c : Nat) (A' : Option Addr) (n' c' : Nat), e = .returned (.tuple #[.slice A n c, .slice A' n' c', .int .i64 (r.2.2 : Nat)]) ∧ Sl w' 1 A n c (bc r.1) ∧ Sl w' 1 A' n' c' (bc r.2.1) ∧ Below w.heap.size w w'
/-- .. its two texts lie in new memory -/
def NewAt (w : World) (A : Option Addr) (n : Nat) : Prop := ∀ b, 0 < n → A.map (·.block) = some b → w.heap.size ≤ b
def TookN (w : World) (r : List UInt8 × List UInt8 × Nat) (e : Ending) (w' : World) : Prop :=
  ∃ (A : Option Addr) (n c : Nat) (A' : Option Addr) (n' c' : Nat), e = .returned (.tuple #[.slice A n c, .slice A' n' c', .int .i64 (r.2.2 : Nat)]) ∧ Sl w' 1 A n c (bc r.1) ∧ Sl w' 1 A' n' c' (bc r.2.1) ∧ Below w.heap.size w w' ∧ NewAt w A n ∧ NewAt w A' n'
theorem TookN.took {w w' : World} {r : List UInt8 × List UInt8 × Nat} {e : Ending} (h : TookN w r e w') : TookT w r e w' := by
  obtain ⟨A, n, c, A', n', c', h1, h2, h3, h4, _⟩ := h
  exact ⟨A, n, c, A', n', c', h1, h2, h3, h4⟩
theorem own_new {w w' : World} {B : Nat} {e : TypeId} {A : Option Addr} {n c : Nat} {xs : List Value} (ho : Own w' B e 1 A n c xs) (hB : w.heap.size ≤ B) : NewAt w A n := fun b hn q => by
  have := (ho.lt b (by have := ho.cap; unfold blk; rw [if_neg (by omega)]; exact q)).1
  omega
theorem none_new (w : World) : NewAt w none 0 := fun b h => absurd h (by omega)
theorem sl_none (w : World) : Sl w 1 none 0 0 (bc []) := Sl.nil _ _ _ _ (Nat.zero_le _)
end Go.Proofs.Ytpffieogkfndaaa
