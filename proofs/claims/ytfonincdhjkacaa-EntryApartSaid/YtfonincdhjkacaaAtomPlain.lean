/-
  Numbers as bytes that rise as they do: plain lists and numbers. Nothing of the program. No condition.
-/
namespace Go.Proofs.Ytfonincdhjkacaa
set_option maxRecDepth 20000

/-- a number's last k bytes, the greatest first -/
def beK : Nat → Nat → List UInt8
  | 0, _ => []
  | k + 1, n => UInt8.ofNat (n / 256 ^ k) :: beK k n
theorem length_beK (k n : Nat) : (beK k n).length = k := by
  induction k with
  | zero => rfl
  | succ k ih => simp [beK, ih]
theorem beK_drop (k m n : Nat) : (beK (m + k) n).drop m = beK k n := by
  induction m with
  | zero => simp
  | succ m ih =>
    rw [show m + 1 + k = (m + k) + 1 by omega]
    simp only [beK, List.drop_succ_cons]
    exact ih
theorem beK_get (k n i : Nat) (h : i < k) : (beK k n)[i]? = some (UInt8.ofNat (n / 256 ^ (k - 1 - i))) := by
  induction k generalizing i with
  | zero => omega
  | succ k ih =>
    rcases i with _ | i
    · simp [beK]
    · simp only [beK, List.getElem?_cons_succ]
      rw [ih i (by omega)]
      congr 4
      omega
/-- what is collected of a number's eight bytes, the noughts in front left out -/
def tailL (n k j : Nat) : List UInt8 := ((beK 8 n).take j).drop (8 - k)
theorem tailL_start (n k : Nat) : tailL n k 0 = [] := by simp [tailL]
theorem tailL_none (n k j : Nat) (h : j ≤ 8 - k) : tailL n k j = [] := by
  unfold tailL
  exact List.drop_eq_nil_of_le (by simp; omega)
theorem tailL_len (n k j : Nat) (hj : j ≤ 8) : (tailL n k j).length = j - (8 - k) := by
  simp [tailL, length_beK]
  omega
theorem tailL_more (n k j : Nat) (hj : j < 8) (h : 8 - k ≤ j) : tailL n k (j + 1) = tailL n k j ++ [UInt8.ofNat (n / 256 ^ (7 - j))] := by
  unfold tailL
  have hl : j < (beK 8 n).length := by rw [length_beK]; omega
  have hg : (beK 8 n)[j] = UInt8.ofNat (n / 256 ^ (7 - j)) := by
    have := beK_get 8 n j hj
    rw [List.getElem?_eq_getElem hl] at this
    rw [Option.some.inj this]
  rw [List.take_succ_eq_append_getElem hl, hg, List.drop_append_of_le_length (by rw [List.length_take, length_beK]; omega)]
theorem tailL_end (n k : Nat) (hk : k ≤ 8) : tailL n k 8 = beK k n := by
  unfold tailL
  rw [List.take_of_length_le (by rw [length_beK]; omega)]
  have := beK_drop k (8 - k) n
  rw [show 8 - k + k = 8 by omega] at this
  exact this
/-- the number of bytes -/
def beval (l : List UInt8) : Nat := l.foldl (fun n b => n * 256 + b.toNat) 0
theorem beval_from (l : List UInt8) (n : Nat) : l.foldl (fun n b => n * 256 + b.toNat) n = n * 256 ^ l.length + beval l := by
  unfold beval
  induction l generalizing n with
  | nil => simp
  | cons b r ih =>
    simp only [List.foldl_cons, List.length_cons]
    rw [ih, ih (0 * 256 + b.toNat), Nat.pow_succ]
    simp only [Nat.zero_mul, Nat.zero_add]
    rw [Nat.add_mul, Nat.mul_assoc, Nat.mul_comm 256, Nat.add_assoc]
theorem beval_cons (b : UInt8) (l : List UInt8) : beval (b :: l) = b.toNat * 256 ^ l.length + beval l := by
  have := beval_from l (0 * 256 + b.toNat)
  simp only [Nat.zero_mul, Nat.zero_add] at this
  rw [← this]
  simp [beval]
theorem beval_snoc (l : List UInt8) (b : UInt8) : beval (l ++ [b]) = beval l * 256 + b.toNat := by simp [beval]
theorem beval_lt (l : List UInt8) : beval l < 256 ^ l.length := by
  induction l with
  | nil => simp [beval]
  | cons b r ih =>
    rw [beval_cons, List.length_cons, Nat.pow_succ]
    have := b.toNat_lt
    have h : b.toNat * 256 ^ r.length + 256 ^ r.length ≤ 256 * 256 ^ r.length := by
      rw [← Nat.succ_mul]
      exact Nat.mul_le_mul_right _ (by omega)
    rw [Nat.mul_comm (256 ^ r.length)]
    omega
theorem beval_beK (k n : Nat) : beval (beK k n) = n % 256 ^ k := by
  induction k with
  | zero => simp [beK, beval, Nat.mod_one]
  | succ k ih =>
    rw [beK, beval_cons, length_beK, ih, Nat.pow_succ, Nat.mod_mul, UInt8.toNat_ofNat']
    have e : (256 : Nat) = 2 ^ 8 := rfl
    rw [← e, Nat.mul_comm (256 ^ k) (n / 256 ^ k % 256), Nat.add_comm]
theorem beval_inj : ∀ (l m : List UInt8), l.length = m.length → beval l = beval m → l = m
  | [], [], _, _ => rfl
  | a :: l, b :: m, h, e => by
    rw [beval_cons, beval_cons] at e
    have hl : l.length = m.length := by simpa using h
    rw [hl] at e
    have h1 := beval_lt l
    have h2 := beval_lt m
    rw [hl] at h1
    have hp : 0 < 256 ^ m.length := Nat.pow_pos (by omega)
    have ea : a.toNat = b.toNat := by
      have e1 : (a.toNat * 256 ^ m.length + beval l) / 256 ^ m.length = a.toNat := by
        rw [Nat.mul_comm, Nat.mul_add_div hp, Nat.div_eq_of_lt h1, Nat.add_zero]
      have e2 : (b.toNat * 256 ^ m.length + beval m) / 256 ^ m.length = b.toNat := by
        rw [Nat.mul_comm, Nat.mul_add_div hp, Nat.div_eq_of_lt h2, Nat.add_zero]
      rw [← e1, e, e2]
    have eb : beval l = beval m := by rw [ea] at e; omega
    rw [UInt8.toNat_inj.1 ea, beval_inj l m hl eb]
  | [], _ :: _, h, _ => by simp at h
  | _ :: _, [], h, _ => by simp at h

/-- how many bytes stand behind the first one of a long number -/
def nb (n : Nat) : Nat := if n < 16777216 then 3 else if n < 4294967296 then 4 else if n < 1099511627776 then 5 else if n < 281474976710656 then 6 else if n < 72057594037927936 then 7 else 8
theorem nb_range (n : Nat) : 3 ≤ nb n ∧ nb n ≤ 8 := by
  unfold nb
  repeat' split
  all_goals omega
theorem nb_lt {n : Nat} (h : n < 18446744073709551616) : n < 256 ^ nb n := by
  unfold nb
  repeat' split
  all_goals simp; omega
theorem nb_le {n : Nat} (h : 3 < nb n) : 256 ^ (nb n - 1) ≤ n := by
  unfold nb at *
  repeat' split at h
  all_goals first | omega | skip
  all_goals simp [*]
  all_goals omega
/-- a number's bytes -/
def numL (n : Nat) : List UInt8 :=
  if n < 241 then [UInt8.ofNat n]
  else if n < 2288 then [UInt8.ofNat (241 + (n - 240) / 256), UInt8.ofNat (n - 240)]
  else if n < 67824 then [249, UInt8.ofNat ((n - 2288) / 256), UInt8.ofNat (n - 2288)]
  else UInt8.ofNat (247 + nb n) :: beK (nb n) n
/-- how many bytes stand behind a first one -/
def lenL (b : Nat) : Nat := if b ≤ 240 then 0 else if b ≤ 248 then 1 else if b = 249 then 2 else b - 247
def valueL (b : Nat) (tail : List UInt8) : Nat := if b ≤ 240 then b else if b ≤ 248 then 240 + (b - 241) * 256 + beval tail else if b = 249 then 2288 + beval tail else beval tail
/-- the number in front, what stands behind, the error's number -/
def takeL (p : List UInt8) : Nat × List UInt8 × Nat :=
  match p with
  | [] => (0, [], 2)
  | b :: r =>
    if (b :: r).length < 1 + lenL b.toNat then (0, [], 2)
    else
      let n := valueL b.toNat (r.take (lenL b.toNat))
      if numL n = b :: r.take (lenL b.toNat) then (n, r.drop (lenL b.toNat), 0) else (0, [], 4)
theorem lenL_le (b : Nat) (h : b < 256) : lenL b ≤ 8 := by
  unfold lenL
  repeat' split
  all_goals omega
/-- a number's bytes say it -/
theorem num_decode (n : Nat) (h : n < 18446744073709551616) : ∃ b t, numL n = b :: t ∧ t.length = lenL b.toNat ∧ valueL b.toNat t = n := by
  by_cases h1 : n < 241
  · refine ⟨UInt8.ofNat n, [], by unfold numL; rw [if_pos h1], ?_, ?_⟩
    · simp [lenL]; omega
    · have : n % 256 = n := by omega
      simp [valueL, this]; omega
  · by_cases h2 : n < 2288
    · have e : (UInt8.ofNat (241 + (n - 240) / 256)).toNat = 241 + (n - 240) / 256 := by simp; omega
      have e2 : (UInt8.ofNat (n - 240)).toNat = (n - 240) % 256 := by simp
      refine ⟨UInt8.ofNat (241 + (n - 240) / 256), [UInt8.ofNat (n - 240)], by unfold numL; rw [if_neg h1, if_pos h2], ?_, ?_⟩
      · rw [e]; unfold lenL; rw [if_neg (by omega), if_pos (by omega)]; rfl
      · rw [e]; unfold valueL; rw [if_neg (by omega), if_pos (by omega)]
        simp only [beval, List.foldl_cons, List.foldl_nil, e2]
        omega
    · by_cases h3 : n < 67824
      · have e : (249 : UInt8).toNat = 249 := rfl
        have e1 : (UInt8.ofNat ((n - 2288) / 256)).toNat = (n - 2288) / 256 := by simp; omega
        have e2 : (UInt8.ofNat (n - 2288)).toNat = (n - 2288) % 256 := by simp
        refine ⟨249, [UInt8.ofNat ((n - 2288) / 256), UInt8.ofNat (n - 2288)], by unfold numL; rw [if_neg h1, if_neg h2, if_pos h3], ?_, ?_⟩
        · rw [e]; rfl
        · rw [e]; unfold valueL; rw [if_neg (by omega), if_neg (by omega), if_pos rfl]
          simp only [beval, List.foldl_cons, List.foldl_nil, e1, e2]
          omega
      · have hr := nb_range n
        have e : (UInt8.ofNat (247 + nb n)).toNat = 247 + nb n := by simp; omega
        refine ⟨UInt8.ofNat (247 + nb n), beK (nb n) n, by unfold numL; rw [if_neg h1, if_neg h2, if_neg h3], ?_, ?_⟩
        · rw [e, length_beK]; unfold lenL; rw [if_neg (by omega), if_neg (by omega), if_neg (by omega)]; omega
        · rw [e]; unfold valueL; rw [if_neg (by omega), if_neg (by omega), if_neg (by omega), beval_beK, Nat.mod_eq_of_lt (nb_lt h)]
theorem value_lt (b : UInt8) (t : List UInt8) (h : t.length = lenL b.toNat) : valueL b.toNat t < 18446744073709551616 := by
  have hb := b.toNat_lt
  have ht := beval_lt t
  unfold valueL
  unfold lenL at h
  by_cases h1 : b.toNat ≤ 240
  · rw [if_pos h1]; omega
  · rw [if_neg h1] at h ⊢
    by_cases h2 : b.toNat ≤ 248
    · rw [if_pos h2] at h ⊢; rw [h] at ht; omega
    · rw [if_neg h2] at h ⊢
      by_cases h3 : b.toNat = 249
      · rw [if_pos h3] at h ⊢; rw [h] at ht; omega
      · rw [if_neg h3] at h ⊢
        have : 256 ^ t.length ≤ 256 ^ 8 := Nat.pow_le_pow_right (by omega) (by omega)
        omega
/-- what has the value has the bytes -/
theorem value_inj (b : UInt8) (t u : List UInt8) (ht : t.length = lenL b.toNat) (hu : u.length = lenL b.toNat) (h : valueL b.toNat t = valueL b.toNat u) : t = u := by
  refine beval_inj t u (by omega) ?_
  unfold valueL at h
  unfold lenL at ht hu
  by_cases h1 : b.toNat ≤ 240
  · rw [if_pos h1] at ht hu
    rw [List.eq_nil_of_length_eq_zero ht, List.eq_nil_of_length_eq_zero hu]
  · rw [if_neg h1, if_neg h1] at h
    by_cases h2 : b.toNat ≤ 248
    · rw [if_pos h2, if_pos h2] at h; omega
    · rw [if_neg h2, if_neg h2] at h
      by_cases h3 : b.toNat = 249
      · rw [if_pos h3, if_pos h3] at h; omega
      · rw [if_neg h3, if_neg h3] at h; exact h
/-- the number of bytes and the first of them tell whether all are right -/
theorem num_check (b : UInt8) (t : List UInt8) (ht : t.length = lenL b.toNat) : numL (valueL b.toNat t) = b :: t ↔ (numL (valueL b.toNat t)).length = 1 + lenL b.toNat ∧ (numL (valueL b.toNat t))[0]? = some b := by
  constructor
  · intro h; rw [h]; simp [ht]; omega
  · rintro ⟨h1, h2⟩
    obtain ⟨b', t', e, hl, hv⟩ := num_decode _ (value_lt b t ht)
    rw [e] at h1 h2
    simp at h2
    subst h2
    rw [e, value_inj b' t' t hl ht hv]
theorem take_num (n : Nat) (h : n < 18446744073709551616) (l : List UInt8) : takeL (numL n ++ l) = (n, l, 0) := by
  obtain ⟨b, t, e, hl, hv⟩ := num_decode n h
  rw [e]
  simp only [List.cons_append, takeL]
  rw [← hl, List.take_left, List.drop_left, hv, if_neg (by simp; omega), if_pos e]
theorem num_len (n : Nat) : 1 ≤ (numL n).length ∧ (numL n).length ≤ 9 := by
  unfold numL
  have := nb_range n
  repeat' split
  all_goals simp [length_beK]
  all_goals omega
end Go.Proofs.Ytfonincdhjkacaa
