/-
  AtomPlain, BytesEq, StepX, SealBits, SealApartPlain, Few, FrameR in one text. No condition but sizes.
-/
import Derived.Test.YtpjinmiedanebaaDoorJRecs
import Derived.Test.YtpjinmiedanebaaDoorJOpen
import Derived.Test.YtpjinmiedanebaaDoorJRowsL
namespace Go.Proofs.YtpjinmiedanebaaDoor
set_option maxRecDepth 20000

/-- a number's last k bytes, the greatest first -/
def beK : Nat → Nat → List UInt8
  | 0, _ => []
  | k + 1, n => UInt8.ofNat (n / 256 ^ k) :: beK k n
theorem length_beK (k n : Nat) : (beK k n).length = k := by
  induction k with
  | zero => rfl
  | succ k ih => simp [beK, ih]
theorem beK_drop (k m n : Nat) : (beK (m + k) n).drop m = beK k n := by
  induction m with
  | zero => simp
  | succ m ih =>
    rw [show m + 1 + k = (m + k) + 1 by omega]
    simp only [beK, List.drop_succ_cons]
    exact ih
theorem beK_get (k n i : Nat) (h : i < k) : (beK k n)[i]? = some (UInt8.ofNat (n / 256 ^ (k - 1 - i))) := by
  induction k generalizing i with
  | zero => omega
  | succ k ih =>
    rcases i with _ | i
    · simp [beK]
    · simp only [beK, List.getElem?_cons_succ]
      rw [ih i (by omega)]
      congr 4
      omega
/-- what is collected of a number's eight bytes, the noughts in front left out -/
def tailL (n k j : Nat) : List UInt8 := ((beK 8 n).take j).drop (8 - k)
theorem tailL_start (n k : Nat) : tailL n k 0 = [] := by simp [tailL]
theorem tailL_none (n k j : Nat) (h : j ≤ 8 - k) : tailL n k j = [] := by
  unfold tailL
  exact List.drop_eq_nil_of_le (by simp; omega)
theorem tailL_len (n k j : Nat) (hj : j ≤ 8) : (tailL n k j).length = j - (8 - k) := by
  simp [tailL, length_beK]
  omega
theorem tailL_more (n k j : Nat) (hj : j < 8) (h : 8 - k ≤ j) : tailL n k (j + 1) = tailL n k j ++ [UInt8.ofNat (n / 256 ^ (7 - j))] := by
  unfold tailL
  have hl : j < (beK 8 n).length := by rw [length_beK]; omega
  have hg : (beK 8 n)[j] = UInt8.ofNat (n / 256 ^ (7 - j)) := by
    have := beK_get 8 n j hj
    rw [List.getElem?_eq_getElem hl] at this
    rw [Option.some.inj this]
  rw [List.take_succ_eq_append_getElem hl, hg, List.drop_append_of_le_length (by rw [List.length_take, length_beK]; omega)]
theorem tailL_end (n k : Nat) (hk : k ≤ 8) : tailL n k 8 = beK k n := by
  unfold tailL
  rw [List.take_of_length_le (by rw [length_beK]; omega)]
  have := beK_drop k (8 - k) n
  rw [show 8 - k + k = 8 by omega] at this
  exact this
/-- the number of bytes -/
def beval (l : List UInt8) : Nat := l.foldl (fun n b => n * 256 + b.toNat) 0
theorem beval_from (l : List UInt8) (n : Nat) : l.foldl (fun n b => n * 256 + b.toNat) n = n * 256 ^ l.length + beval l := by
  unfold beval
  induction l generalizing n with
  | nil => simp
  | cons b r ih =>
    simp only [List.foldl_cons, List.length_cons]
    rw [ih, ih (0 * 256 + b.toNat), Nat.pow_succ]
    simp only [Nat.zero_mul, Nat.zero_add]
    rw [Nat.add_mul, Nat.mul_assoc, Nat.mul_comm 256, Nat.add_assoc]
theorem beval_cons (b : UInt8) (l : List UInt8) : beval (b :: l) = b.toNat * 256 ^ l.length + beval l := by
  have := beval_from l (0 * 256 + b.toNat)
  simp only [Nat.zero_mul, Nat.zero_add] at this
  rw [← this]
  simp [beval]
theorem beval_snoc (l : List UInt8) (b : UInt8) : beval (l ++ [b]) = beval l * 256 + b.toNat := by simp [beval]
theorem beval_lt (l : List UInt8) : beval l < 256 ^ l.length := by
  induction l with
  | nil => simp [beval]
  | cons b r ih =>
    rw [beval_cons, List.length_cons, Nat.pow_succ]
    have := b.toNat_lt
    have h : b.toNat * 256 ^ r.length + 256 ^ r.length ≤ 256 * 256 ^ r.length := by
      rw [← Nat.succ_mul]
      exact Nat.mul_le_mul_right _ (by omega)
    rw [Nat.mul_comm (256 ^ r.length)]
    omega
theorem beval_beK (k n : Nat) : beval (beK k n) = n % 256 ^ k := by
  induction k with
  | zero => simp [beK, beval, Nat.mod_one]
  | succ k ih =>
    rw [beK, beval_cons, length_beK, ih, Nat.pow_succ, Nat.mod_mul, UInt8.toNat_ofNat']
    have e : (256 : Nat) = 2 ^ 8 := rfl
    rw [← e, Nat.mul_comm (256 ^ k) (n / 256 ^ k % 256), Nat.add_comm]
theorem beval_inj : ∀ (l m : List UInt8), l.length = m.length → beval l = beval m → l = m
  | [], [], _, _ => rfl
  | a :: l, b :: m, h, e => by
    rw [beval_cons, beval_cons] at e
    have hl : l.length = m.length := by simpa using h
    rw [hl] at e
    have h1 := beval_lt l
    have h2 := beval_lt m
    rw [hl] at h1
    have hp : 0 < 256 ^ m.length := Nat.pow_pos (by omega)
    have ea : a.toNat = b.toNat := by
      have e1 : (a.toNat * 256 ^ m.length + beval l) / 256 ^ m.length = a.toNat := by
        rw [Nat.mul_comm, Nat.mul_add_div hp, Nat.div_eq_of_lt h1, Nat.add_zero]
      have e2 : (b.toNat * 256 ^ m.length + beval m) / 256 ^ m.length = b.toNat := by
        rw [Nat.mul_comm, Nat.mul_add_div hp, Nat.div_eq_of_lt h2, Nat.add_zero]
      rw [← e1, e, e2]
    have eb : beval l = beval m := by rw [ea] at e; omega
    rw [UInt8.toNat_inj.1 ea, beval_inj l m hl eb]
  | [], _ :: _, h, _ => by simp at h
  | _ :: _, [], h, _ => by simp at h

/-- how many bytes stand behind the first one of a long number -/
def nb (n : Nat) : Nat := if n < 16777216 then 3 else if n < 4294967296 then 4 else if n < 1099511627776 then 5 else if n < 281474976710656 then 6 else if n < 72057594037927936 then 7 else 8
theorem nb_range (n : Nat) : 3 ≤ nb n ∧ nb n ≤ 8 := by
  unfold nb
  repeat' split
  all_goals omega
theorem nb_lt {n : Nat} (h : n < 18446744073709551616) : n < 256 ^ nb n := by
  unfold nb
  repeat' split
  all_goals simp; omega
theorem nb_le {n : Nat} (h : 3 < nb n) : 256 ^ (nb n - 1) ≤ n := by
  unfold nb at *
  repeat' split at h
  all_goals first | omega | skip
  all_goals simp [*]
  all_goals omega
/-- a number's bytes -/
def numL (n : Nat) : List UInt8 :=
  if n < 241 then [UInt8.ofNat n]
  else if n < 2288 then [UInt8.ofNat (241 + (n - 240) / 256), UInt8.ofNat (n - 240)]
  else if n < 67824 then [249, UInt8.ofNat ((n - 2288) / 256), UInt8.ofNat (n - 2288)]
  else UInt8.ofNat (247 + nb n) :: beK (nb n) n
/-- how many bytes stand behind a first one -/
def lenL (b : Nat) : Nat := if b ≤ 240 then 0 else if b ≤ 248 then 1 else if b = 249 then 2 else b - 247
def valueL (b : Nat) (tail : List UInt8) : Nat := if b ≤ 240 then b else if b ≤ 248 then 240 + (b - 241) * 256 + beval tail else if b = 249 then 2288 + beval tail else beval tail
/-- the number in front, what stands behind, the error's number -/
def takeL (p : List UInt8) : Nat × List UInt8 × Nat :=
  match p with
  | [] => (0, [], 2)
  | b :: r =>
    if (b :: r).length < 1 + lenL b.toNat then (0, [], 2)
    else
      let n := valueL b.toNat (r.take (lenL b.toNat))
      if numL n = b :: r.take (lenL b.toNat) then (n, r.drop (lenL b.toNat), 0) else (0, [], 4)
theorem lenL_le (b : Nat) (h : b < 256) : lenL b ≤ 8 := by
  unfold lenL
  repeat' split
  all_goals omega
/-- a number's bytes say it -/
theorem num_decode (n : Nat) (h : n < 18446744073709551616) : ∃ b t, numL n = b :: t ∧ t.length = lenL b.toNat ∧ valueL b.toNat t = n := by
  by_cases h1 : n < 241
  · refine ⟨UInt8.ofNat n, [], by unfold numL; rw [if_pos h1], ?_, ?_⟩
    · simp [lenL]; omega
    · have : n % 256 = n := by omega
      simp [valueL, this]; omega
  · by_cases h2 : n < 2288
    · have e : (UInt8.ofNat (241 + (n - 240) / 256)).toNat = 241 + (n - 240) / 256 := by simp; omega
      have e2 : (UInt8.ofNat (n - 240)).toNat = (n - 240) % 256 := by simp
      refine ⟨UInt8.ofNat (241 + (n - 240) / 256), [UInt8.ofNat (n - 240)], by unfold numL; rw [if_neg h1, if_pos h2], ?_, ?_⟩
      · rw [e]; unfold lenL; rw [if_neg (by omega), if_pos (by omega)]; rfl
      · rw [e]; unfold valueL; rw [if_neg (by omega), if_pos (by omega)]
        simp only [beval, List.foldl_cons, List.foldl_nil, e2]
        omega
    · by_cases h3 : n < 67824
      · have e : (249 : UInt8).toNat = 249 := rfl
        have e1 : (UInt8.ofNat ((n - 2288) / 256)).toNat = (n - 2288) / 256 := by simp; omega
        have e2 : (UInt8.ofNat (n - 2288)).toNat = (n - 2288) % 256 := by simp
        refine ⟨249, [UInt8.ofNat ((n - 2288) / 256), UInt8.ofNat (n - 2288)], by unfold numL; rw [if_neg h1, if_neg h2, if_pos h3], ?_, ?_⟩
        · rw [e]; rfl
        · rw [e]; unfold valueL; rw [if_neg (by omega), if_neg (by omega), if_pos rfl]
          simp only [beval, List.foldl_cons, List.foldl_nil, e1, e2]
          omega
      · have hr := nb_range n
        have e : (UInt8.ofNat (247 + nb n)).toNat = 247 + nb n := by simp; omega
        refine ⟨UInt8.ofNat (247 + nb n), beK (nb n) n, by unfold numL; rw [if_neg h1, if_neg h2, if_neg h3], ?_, ?_⟩
        · rw [e, length_beK]; unfold lenL; rw [if_neg (by omega), if_neg (by omega), if_neg (by omega)]; omega
        · rw [e]; unfold valueL; rw [if_neg (by omega), if_neg (by omega), if_neg (by omega), beval_beK, Nat.mod_eq_of_lt (nb_lt h)]
theorem value_lt (b : UInt8) (t : List UInt8) (h : t.length = lenL b.toNat) : valueL b.toNat t < 18446744073709551616 := by
  have hb := b.toNat_lt
  have ht := beval_lt t
  unfold valueL
  unfold lenL at h
  by_cases h1 : b.toNat ≤ 240
  · rw [if_pos h1]; omega
  · rw [if_neg h1] at h ⊢
    by_cases h2 : b.toNat ≤ 248
    · rw [if_pos h2] at h ⊢; rw [h] at ht; omega
    · rw [if_neg h2] at h ⊢
      by_cases h3 : b.toNat = 249
      · rw [if_pos h3] at h ⊢; rw [h] at ht; omega
      · rw [if_neg h3] at h ⊢
        have : 256 ^ t.length ≤ 256 ^ 8 := Nat.pow_le_pow_right (by omega) (by omega)
        omega
/-- what has the value has the bytes -/
theorem value_inj (b : UInt8) (t u : List UInt8) (ht : t.length = lenL b.toNat) (hu : u.length = lenL b.toNat) (h : valueL b.toNat t = valueL b.toNat u) : t = u := by
  refine beval_inj t u (by omega) ?_
  unfold valueL at h
  unfold lenL at ht hu
  by_cases h1 : b.toNat ≤ 240
  · rw [if_pos h1] at ht hu
    rw [List.eq_nil_of_length_eq_zero ht, List.eq_nil_of_length_eq_zero hu]
  · rw [if_neg h1, if_neg h1] at h
    by_cases h2 : b.toNat ≤ 248
    · rw [if_pos h2, if_pos h2] at h; omega
    · rw [if_neg h2, if_neg h2] at h
      by_cases h3 : b.toNat = 249
      · rw [if_pos h3, if_pos h3] at h; omega
      · rw [if_neg h3, if_neg h3] at h; exact h
/-- the number of bytes and the first of them tell whether all are right -/
theorem num_check (b : UInt8) (t : List UInt8) (ht : t.length = lenL b.toNat) : numL (valueL b.toNat t) = b :: t ↔ (numL (valueL b.toNat t)).length = 1 + lenL b.toNat ∧ (numL (valueL b.toNat t))[0]? = some b := by
  constructor
  · intro h; rw [h]; simp [ht]; omega
  · rintro ⟨h1, h2⟩
    obtain ⟨b', t', e, hl, hv⟩ := num_decode _ (value_lt b t ht)
    rw [e] at h1 h2
    simp at h2
    subst h2
    rw [e, value_inj b' t' t hl ht hv]
theorem take_num (n : Nat) (h : n < 18446744073709551616) (l : List UInt8) : takeL (numL n ++ l) = (n, l, 0) := by
  obtain ⟨b, t, e, hl, hv⟩ := num_decode n h
  rw [e]
  simp only [List.cons_append, takeL]
  rw [← hl, List.take_left, List.drop_left, hv, if_neg (by simp; omega), if_pos e]
theorem num_len (n : Nat) : 1 ≤ (numL n).length ∧ (numL n).length ≤ 9 := by
  unfold numL
  have := nb_range n
  repeat' split
  all_goals simp [length_beK]
  all_goals omega
end Go.Proofs.YtpjinmiedanebaaDoor

namespace Go.Proofs.YtpjinmiedanebaaDoor
set_option maxRecDepth 20000
open Go.RowKit

set_option maxHeartbeats 400000 in
/-- bytes.Equal: of two -/
theorem equal_any (w : World) (A1 : Option Addr) (n1 c1 : Nat) (l1 : List UInt8) (A2 : Option Addr) (n2 c2 : Nat) (l2 : List UInt8) (h1 : Sl w 1 A1 n1 c1 (bc l1)) (h2 : Sl w 1 A2 n2 c2 (bc l2)) :
    Calls Tryd.prog 44 #[.slice A1 n1 c1, .slice A2 n2 c2] w fun e w' => e = .returned (.bool (l1 == l2)) ∧ w = w' := by
  obtain ⟨s1, e1, r1⟩ := run_conv w A1 n1 c1 l1 h1
  obtain ⟨s2, e2, r2⟩ := run_conv w A2 n2 c2 l2 h2
  have E1 := Lib.hid e1
  have E2 := Lib.hid e2
  clear e1 e2 h1 h2
  go_enter Tryd.func44, Tryd.ntmps44
  go_wp2
  go_ret
  refine ⟨ret_bool ?_, rfl⟩
  rw [E1.out, E2.out]

theorem equal_is (w : World) (A1 : Option Addr) (n1 c1 : Nat) (l1 : List UInt8) (A2 : Option Addr) (n2 c2 : Nat) (l2 : List UInt8) (b : Bool) (hb : Hid ((l1 == l2) = b)) (h1 : Sl w 1 A1 n1 c1 (bc l1)) (h2 : Sl w 1 A2 n2 c2 (bc l2)) :
    Calls Tryd.prog 44 #[.slice A1 n1 c1, .slice A2 n2 c2] w fun e w' => e = .returned (.bool b) ∧ w = w' := by
  rw [← hb.out]
  exact equal_any w A1 n1 c1 l1 A2 n2 c2 l2 h1 h2
end Go.Proofs.YtpjinmiedanebaaDoor

namespace Go.Proofs.YtpjinmiedanebaaDoor
open Go.RowKit
set_option maxRecDepth 20000
theorem step_appX {α : Type} [Rep α] {ops : Array Oper} {o : Oper} {a : Act} {w : World} {K : Act → World → Prop} {Q : Exit → Act → World → Prop} {E : Prop} (hgd : o.guard = none) (s x : Operand) (t : TypeId)
    (ho : o.op = .call { callee := .builtin .append, args := #[s, x], argTypes := #[t, t] })
    (B : Nat) (e : TypeId) (z : Value) (bytes : Nat) (ht : Tryd.prog.underlying t = some (.slice e)) (hi : (Tryd.prog.info? e).map (fun i => (i.zero, i.size, i.bytes)) = some (some z, Rep.size α, bytes))
    (hzs : z.cells.size = Rep.size α)
    (A : Option Addr) (n c : Nat) (ls : List α) (hsv : a.eval s = .slice A n c) (hown : OwnX w B e A n c ls)
    (A2 : Option Addr) (m c2 : Nat) (ms : List α) (hx : a.eval x = .slice A2 m c2) (hs : ∃ xs, Sl w (Rep.size α) A2 m c2 xs ∧ RowC w (fun b => blk A c ≠ some b) xs ms)
    (h63 : n + m ≤ maxLen) (hbytes : (n + m) * bytes ≤ 140737488355328) (hB : B ≤ w.heap.size)
    (h : ∀ A' c' w', OwnX w' B e A' (n + m) c' (ls ++ ms) → w.grownBy w' (blk A c) → (blk A' c' = blk A c ∨ blk A' c' = some w.heap.size) → K (a.put o.dst (.slice A' (n + m) c')) w') :
    if Region.wanted o (yielded ops a.tmps) = true then Oper.wp Tryd.prog o a w K Q else E := by
  have hw : Region.wanted o (yielded ops a.tmps) = true := by simp [Region.wanted, hgd]
  rw [if_pos hw]
  obtain ⟨A', c', w', hrun, h2, h3, h4⟩ := row_app Tryd.prog w t o.type z bytes ht hi hzs hown A2 m c2 ms hs h63 hbytes hB
  unfold Oper.wp execOp
  simp only [ho, resolve, invoke, builtin, Sem.run_bind, Sem.run_pure, Result.andThen_ok, List.map_toArray, List.map_cons, List.map_nil, hsv, hx, hrun]
  exact h A' c' w' h2 h3 h4
end Go.Proofs.YtpjinmiedanebaaDoor

namespace Go.Proofs.YtpjinmiedanebaaDoor
set_option maxRecDepth 20000

/-- the polynomial, turned -/
def polyN : Nat := 0x82f63b78
def step0 (c : Nat) : Nat := (c / 2) ^^^ (if c % 2 = 1 then polyN else 0)

theorem testBit_half (c j : Nat) : (c / 2).testBit j = c.testBit (j + 1) := by
  rw [Nat.testBit_succ]
theorem testBit_step0 (c j : Nat) : (step0 c).testBit j = (c.testBit (j + 1) ^^ (c.testBit 0 && polyN.testBit j)) := by
  unfold step0
  rw [Nat.testBit_xor, testBit_half, Nat.testBit_zero]
  by_cases h : c % 2 = 1 <;> simp [h]
theorem step0_xor (a b : Nat) : step0 (a ^^^ b) = step0 a ^^^ step0 b := by
  apply Nat.eq_of_testBit_eq
  intro j
  simp only [testBit_step0, Nat.testBit_xor]
  cases a.testBit (j + 1) <;> cases b.testBit (j + 1) <;> cases a.testBit 0 <;> cases b.testBit 0 <;> cases polyN.testBit j <;> rfl
theorem step0_double (y : Nat) : step0 (2 * y) = y := by
  unfold step0
  have h1 : 2 * y / 2 = y := by omega
  have h2 : 2 * y % 2 = 0 := by omega
  rw [h1, h2]
  simp
theorem step0_lt {c : Nat} (h : c < 4294967296) : step0 c < 4294967296 := by
  unfold step0
  refine Nat.xor_lt_two_pow (n := 32) (by omega) ?_
  split <;> decide
theorem four_zero (h : Nat) : step0 (step0 (step0 (step0 (16 * h)))) = h := by
  have e : 16 * h = 2 * (2 * (2 * (2 * h))) := by omega
  rw [e, step0_double, step0_double, step0_double, step0_double]
theorem four_low : ∀ i : Fin 16, step0 (step0 (step0 (step0 i.val))) = quarterL.getD i.val 0 := by decide
theorem split16 (c : Nat) : c = (16 * (c / 16)) ^^^ (c % 16) := by
  have h1 : 16 * (c / 16) = (c / 16) <<< 4 := by rw [Nat.shiftLeft_eq]; omega
  apply Nat.eq_of_testBit_eq
  intro j
  rw [Nat.testBit_xor, h1, Nat.testBit_shiftLeft, show c % 16 = c % 2 ^ 4 from rfl, Nat.testBit_mod_two_pow, show c / 16 = c / 2 ^ 4 from rfl, Nat.testBit_div_two_pow]
  by_cases h : 4 ≤ j
  · simp [h, show ¬ j < 4 by omega, show j - 4 + 4 = j by omega]
  · simp [h, show j < 4 by omega]
/-- four bits off the table are four steps -/
theorem nib_steps (c : Nat) : nib c = step0 (step0 (step0 (step0 c))) := by
  conv => rhs; rw [split16 c]
  simp only [step0_xor]
  rw [four_zero]
  have := four_low ⟨c % 16, Nat.mod_lt _ (by omega)⟩
  simp only at this
  rw [this]
  rfl

/-- bit i of bytes -/
def mbit (p : List UInt8) (i : Nat) : Bool := (p.getD (i / 8) 0).toNat.testBit (i % 8)
/-- the register behind i bits -/
def reg (c : Nat) (m : Nat → Bool) : Nat → Nat
  | 0 => c
  | i + 1 => step0 (reg c m i ^^^ (m i).toNat)
theorem reg_lt {c : Nat} (h : c < 4294967296) (m : Nat → Bool) (i : Nat) : reg c m i < 4294967296 := by
  induction i with
  | zero => exact h
  | succ i ih => exact step0_lt (Nat.xor_lt_two_pow (n := 32) ih (by cases m i <;> decide))
theorem reg_add (c : Nat) (m : Nat → Bool) (i j : Nat) : reg c m (i + j) = reg (reg c m i) (fun k => m (i + k)) j := by
  induction j with
  | zero => rfl
  | succ j ih => rw [← Nat.add_assoc]; simp only [reg]; rw [ih]
theorem reg_congr (c : Nat) {m m' : Nat → Bool} (n : Nat) (h : ∀ i, i < n → m i = m' i) : reg c m n = reg c m' n := by
  induction n with
  | zero => rfl
  | succ n ih => simp only [reg]; rw [ih fun i hi => h i (by omega), h n (by omega)]
/-- a number's bits are taken in one by one -/
theorem bits_in (c x : Nat) : c ^^^ x = (c ^^^ (x.testBit 0).toNat) ^^^ (2 * (x / 2)) := by
  apply Nat.eq_of_testBit_eq
  intro j
  rw [Nat.testBit_xor, Nat.testBit_xor, Nat.testBit_xor]
  rcases j with _ | j
  · have h1 : (2 * (x / 2)).testBit 0 = false := by rw [Nat.testBit_zero]; simp
    rw [h1]
    cases hx : x.testBit 0 <;> simp
  · have h1 : (2 * (x / 2)).testBit (j + 1) = x.testBit (j + 1) := by
      rw [Nat.testBit_succ, Nat.testBit_succ]; congr 1; omega
    rw [h1]
    cases hx : x.testBit 0 <;> simp [Nat.testBit_succ]
theorem reg_bits (n : Nat) : ∀ c x, x < 2 ^ n → reg c (fun i => x.testBit i) n = Nat.rec (c ^^^ x) (fun _ r => step0 r) n := by
  induction n with
  | zero =>
    intro c x hx
    have : x = 0 := by simpa using hx
    subst this
    show c = c ^^^ 0
    simp
  | succ n ih =>
    intro c x hx
    have e : n + 1 = 1 + n := by omega
    have h1 := reg_add c (fun i => x.testBit i) 1 n
    rw [← e] at h1
    rw [h1]
    have h2 : (fun k => x.testBit (1 + k)) = fun k => (x / 2).testBit k := by
      funext k
      rw [testBit_half, Nat.add_comm]
    rw [h2, ih _ _ (by rw [Nat.pow_succ] at hx; omega)]
    have h3 : reg c (fun i => x.testBit i) 1 ^^^ (x / 2) = step0 (c ^^^ x) := by
      rw [bits_in c x, step0_xor, step0_double]
      rfl
    rw [h3]
    have shift : ∀ k (r : Nat), (Nat.rec (step0 r) (fun _ r => step0 r) k : Nat) = step0 (Nat.rec r (fun _ r => step0 r) k) := by
      intro k r
      induction k with
      | zero => rfl
      | succ k ihk => simp only; rw [ihk]
    rw [shift]
theorem reg_byte (c x : Nat) (hx : x < 256) : reg c (fun i => x.testBit i) 8 = stepB c x := by
  rw [reg_bits 8 c x (by omega)]
  unfold stepB
  rw [nib_steps, nib_steps]
  rfl
/-- THE TWO WAYS MEET -/
theorem reg_crc (c : Nat) (p : List UInt8) : reg c (mbit p) (8 * p.length) = crcL c p := by
  induction p generalizing c with
  | nil => rfl
  | cons b r ih =>
    have e : 8 * (b :: r).length = 8 + 8 * r.length := by simp; omega
    rw [e, reg_add]
    have h1 : reg c (mbit (b :: r)) 8 = stepB c b.toNat := by
      rw [← reg_byte c b.toNat b.toNat_lt]
      apply reg_congr
      intro i hi
      simp [mbit, show i / 8 = 0 by omega, show i % 8 = i by omega]
    have h2 : (fun k => mbit (b :: r) (8 + k)) = mbit r := by
      funext k
      simp [mbit, show (8 + k) / 8 = k / 8 + 1 by omega, show (8 + k) % 8 = k % 8 by omega]
    rw [h1, h2, ih]
    rfl
/-- the powers, as the reference lists them -/
def byL : List Nat := [0, 6, 8, 9, 10, 11, 13, 14, 18, 19, 20, 22, 23, 25, 26, 27, 28]
/-- how often, odd or even -/
def hits (l : List Nat) (p : Nat → Bool) : Bool := l.foldr (fun k b => p k ^^ b) false
theorem hits_snoc (l : List Nat) (x : Nat) (p : Nat → Bool) : hits (l ++ [x]) p = (hits l p ^^ p x) := by
  induction l with
  | nil => simp [hits]
  | cons y r ih =>
    have h : hits (y :: r ++ [x]) p = (p y ^^ hits (r ++ [x]) p) := rfl
    have h' : hits (y :: r) p = (p y ^^ hits r p) := rfl
    rw [h, h', ih, Bool.xor_assoc]
theorem by_poly : ∀ j : Fin 32, hits byL (fun k => decide (31 - k = j.val)) = polyN.testBit j.val := by decide
theorem by_small : ∀ k ∈ byL, k ≤ 28 := by decide
theorem any_same {p q : Nat → Bool} (l : List Nat) (h : ∀ x ∈ l, p x = q x) : hits l p = hits l q := by
  induction l with
  | nil => rfl
  | cons x r ih =>
    have e : ∀ p, hits (x :: r) p = (p x ^^ hits r p) := fun _ => rfl
    rw [e, e, h x (by simp), ih fun y hy => h y (by simp [hy])]
theorem hits_none (l : List Nat) : hits l (fun _ => false) = false := by
  induction l with
  | nil => rfl
  | cons x r ih => show (false ^^ hits r _) = false; rw [ih]; rfl
/-- what the division's list of bits holds when the first i of them are done -/
def Win (N : Nat) (m : Nat → Bool) (i : Nat) (f : Nat → Bool) : Prop :=
  (∀ j, j < 32 → f (i + j) = ((reg 4294967295 m i).testBit j ^^ m (i + j))) ∧ ∀ j, i + 32 ≤ j → j < N → f j = m j
theorem Win.start (N : Nat) (m f : Nat → Bool) (h : ∀ j, j < N → f j = (m j ^^ decide (j < 32))) (hN : 32 ≤ N) : Win N m 0 f := by
  constructor
  · intro j hj
    rw [Nat.zero_add, h j (by omega)]
    have : (4294967295 : Nat).testBit j = true := by
      have := Nat.testBit_two_pow_sub_one 32 j
      simp at this
      rw [this]
      simpa using hj
    simp only [reg]
    rw [this]
    simp [hj, Bool.xor_comm]
  · intro j h1 h2
    rw [h j h2]
    simp [show ¬ j < 32 by omega]
/-- a bit that is set: the polynomial goes off -/
theorem Win.one {N : Nat} {m : Nat → Bool} {i : Nat} {f f' : Nat → Bool} (h : Win N m i f) (hi : f i = true) (hf : ∀ j, j < N → f' j = (f j ^^ hits byL (fun k => decide (i + 32 - k = j)))) (hN : i + 32 < N) : Win N m (i + 1) f' := by
  have h0 := h.1 0 (by omega)
  rw [Nat.add_zero, hi] at h0
  have hx : ((reg 4294967295 m i ^^^ (m i).toNat).testBit 0) = true := by
    rw [Nat.testBit_xor, h0]
    cases m i <;> rfl
  have hb : ∀ j, j < 32 → hits byL (fun k => decide (i + 32 - k = i + 1 + j)) = polyN.testBit j := by
    intro j hj
    rw [← by_poly ⟨j, hj⟩]
    apply any_same
    intro k hk
    have := by_small k hk
    simp only [decide_eq_decide]
    omega
  constructor
  · intro j hj
    rw [hf _ (by omega), hb j hj]
    simp only [reg, testBit_step0]
    rw [hx]
    rcases Nat.lt_or_ge j 31 with hj1 | hj1
    · have := h.1 (j + 1) (by omega)
      rw [show i + 1 + j = i + (j + 1) by omega, this, Nat.testBit_xor]
      have : ((m i).toNat).testBit (j + 1) = false := by cases m i <;> simp [Nat.testBit_succ]
      rw [this]
      cases (reg 4294967295 m i).testBit (j + 1) <;> cases m (i + (j + 1)) <;> cases polyN.testBit j <;> rfl
    · obtain rfl : j = 31 := by omega
      have := h.2 (i + 1 + 31) (by omega) (by omega)
      rw [this]
      have : (reg 4294967295 m i ^^^ (m i).toNat).testBit (31 + 1) = false := by
        apply Nat.testBit_lt_two_pow
        exact Nat.xor_lt_two_pow (n := 32) (reg_lt (by omega) m i) (by cases m i <;> decide)
      rw [this]
      cases m (i + 1 + 31) <;> cases polyN.testBit 31 <;> rfl
  · intro j h1 h2
    rw [hf j h2, h.2 j (by omega) h2]
    have : hits byL (fun k => decide (i + 32 - k = j)) = false := by
      rw [any_same byL (q := fun _ => false) (fun k _ => by simp; omega), hits_none]
    rw [this]
    simp
/-- one that is not -/
theorem Win.zero {N : Nat} {m : Nat → Bool} {i : Nat} {f : Nat → Bool} (h : Win N m i f) (hi : f i = false) (hN : i + 32 < N) : Win N m (i + 1) f := by
  have h0 := h.1 0 (by omega)
  rw [Nat.add_zero, hi] at h0
  have hx : ((reg 4294967295 m i ^^^ (m i).toNat).testBit 0) = false := by
    rw [Nat.testBit_xor]
    cases hm : m i <;> rw [hm] at h0 <;> simp at h0 <;> simp [h0]
  constructor
  · intro j hj
    simp only [reg, testBit_step0]
    rw [hx]
    rcases Nat.lt_or_ge j 31 with hj1 | hj1
    · have := h.1 (j + 1) (by omega)
      rw [show i + 1 + j = i + (j + 1) by omega, this, Nat.testBit_xor]
      have : ((m i).toNat).testBit (j + 1) = false := by cases m i <;> simp [Nat.testBit_succ]
      rw [this]
      simp
    · obtain rfl : j = 31 := by omega
      have := h.2 (i + 1 + 31) (by omega) (by omega)
      rw [this]
      have : (reg 4294967295 m i ^^^ (m i).toNat).testBit (31 + 1) = false := by
        apply Nat.testBit_lt_two_pow
        exact Nat.xor_lt_two_pow (n := 32) (reg_lt (by omega) m i) (by cases m i <;> decide)
      rw [this]
      simp
  · intro j h1 h2
    exact h.2 j (by omega) h2
/-- the bits that are left are the sum's, turned -/
theorem Win.last {m : Nat → Bool} {i : Nat} {f : Nat → Bool} (h : Win (i + 32) m i f) (hm : ∀ j, i ≤ j → m j = false) (j : Nat) (hj : j < 32) : (!f (i + j)) = (4294967295 - reg 4294967295 m i).testBit j := by
  rw [h.1 j hj, hm _ (by omega), ← xor_ones (reg_lt (by omega) m i), Nat.testBit_xor]
  have : (4294967295 : Nat).testBit j = true := by
    have := Nat.testBit_two_pow_sub_one 32 j
    simp at this
    rw [this]
    simpa using hj
  rw [this]
  simp
theorem mbit_past (p : List UInt8) (j : Nat) (h : 8 * p.length ≤ j) : mbit p j = false := by
  have : p.length ≤ j / 8 := by omega
  simp [mbit, List.getD_eq_getElem?_getD, List.getElem?_eq_none this]
/-- the number of the bits from place i up, bit by bit from above -/
theorem high_step (s i : Nat) : s / 2 ^ i = 2 * (s / 2 ^ (i + 1)) + (s.testBit i).toNat := by
  rw [Nat.testBit, Nat.shiftRight_eq_div_pow, Nat.pow_succ, ← Nat.div_div_eq_div_mul]
  have h : 1 &&& s / 2 ^ i = s / 2 ^ i % 2 := by rw [Nat.and_comm]; exact Nat.and_two_pow_sub_one_eq_mod _ 1
  rw [h]
  have : s / 2 ^ i % 2 = 0 ∨ s / 2 ^ i % 2 = 1 := by omega
  rcases this with e | e <;> rw [e] <;> simp <;> omega
theorem sum_reg (p : List UInt8) : 4294967295 - reg 4294967295 (mbit p) (8 * p.length) = sumL p := by rw [reg_crc]; rfl
/-- a bit as the walk spells it -/
theorem bit_spelt (x i : Nat) : ((((x : Nat) : Int) / 2 ^ i).tmod 2 == 1) = x.testBit i := by
  have e : ((x : Nat) : Int) / 2 ^ i = ((x / 2 ^ i : Nat) : Int) := by simp
  rw [e, Nat.testBit_eq_decide_div_mod_eq]
  have e2 : (((x / 2 ^ i : Nat) : Int)).tmod 2 = ((x / 2 ^ i % 2 : Nat) : Int) := by
    rw [Int.tmod_eq_emod_of_nonneg (Int.natCast_nonneg _)]; rfl
  rw [e2, Bool.eq_iff_iff]
  simp only [beq_iff_eq, decide_eq_true_eq]
  omega
end Go.Proofs.YtpjinmiedanebaaDoor

namespace Go.Proofs.YtpjinmiedanebaaDoor
set_option maxRecDepth 20000

theorem toNat_xor (a b : Bool) : (a ^^ b).toNat = a.toNat ^^^ b.toNat := by cases a <;> cases b <;> rfl
theorem xor_swap (a b c d : Nat) : (a ^^^ b) ^^^ (c ^^^ d) = (a ^^^ c) ^^^ (b ^^^ d) := by
  rw [Nat.xor_assoc, Nat.xor_assoc, ← Nat.xor_assoc b c d, Nat.xor_comm b c, Nat.xor_assoc]
theorem reg_xor (c c' : Nat) (m m' : Nat → Bool) (n : Nat) : reg (c ^^^ c') (fun i => m i ^^ m' i) n = reg c m n ^^^ reg c' m' n := by
  induction n with
  | zero => rfl
  | succ n ih =>
    simp only [reg]
    rw [ih, toNat_xor, xor_swap, step0_xor]
theorem step0_back {v r : Nat} (hr : r < 4294967296) (h : step0 r = v) (hv : v < 2147483648) : r = 2 * v := by
  have hb := testBit_step0 r 31
  rw [h] at hb
  have h1 : v.testBit 31 = false := Nat.testBit_lt_two_pow hv
  have h2 : r.testBit (31 + 1) = false := Nat.testBit_lt_two_pow hr
  have h3 : polyN.testBit 31 = true := by decide
  rw [h1, h2, h3, Nat.testBit_zero] at hb
  have h4 : r % 2 = 0 := by
    have : ¬ r % 2 = 1 := by intro e; rw [e] at hb; simp at hb
    omega
  unfold step0 at h
  rw [h4] at h
  simp at h
  omega
theorem xor_bit_lt {x j : Nat} {b : Bool} {v : Nat} (h : x ^^^ b.toNat = 2 * v) (hv : v < 2 ^ j) : x < 2 ^ (j + 1) ∧ x % 2 = b.toNat := by
  have e : x = 2 * v ^^^ b.toNat := by rw [← h, Nat.xor_assoc, Nat.xor_self, Nat.xor_zero]
  cases b
  · simp at e
    subst e
    rw [Nat.pow_succ]
    simp
    omega
  · have e2 : 2 * v ^^^ true.toNat = 2 * v + 1 := by
      apply Nat.eq_of_testBit_eq
      intro i
      rcases i with _ | i
      · rw [Nat.testBit_xor, Nat.testBit_zero, Nat.testBit_zero, Nat.testBit_zero]
        simp [Nat.add_mod]
      · rw [Nat.testBit_xor, Nat.testBit_succ, Nat.testBit_succ, Nat.testBit_succ]
        have h1 : 2 * v / 2 = v := by omega
        have h2 : (2 * v + 1) / 2 = v := by omega
        rw [h1, h2]
        simp
    rw [e2] at e
    subst e
    rw [Nat.pow_succ]
    simp
    omega
theorem reg_back (d : Nat → Bool) (n : Nat) (h : reg 0 d n = 0) : ∀ j, j ≤ n → j ≤ 32 → reg 0 d (n - j) < 2 ^ j ∧ (0 < j → reg 0 d (n - j) % 2 = (d (n - j)).toNat) := by
  intro j
  induction j with
  | zero => intro _ _; rw [Nat.sub_zero, h]; simp
  | succ j ih =>
    intro h1 h2
    have h3 := (ih (by omega) (by omega)).1
    have e : n - j = (n - (j + 1)) + 1 := by omega
    rw [e] at h3
    simp only [reg] at h3
    have hlt : reg 0 d (n - (j + 1)) ^^^ (d (n - (j + 1))).toNat < 4294967296 :=
      Nat.xor_lt_two_pow (n := 32) (reg_lt (by omega) d _) (by cases d (n - (j + 1)) <;> decide)
    have hj : 2 ^ j ≤ 2147483648 := Nat.pow_le_pow_right (n := 2) (by omega) (show j ≤ 31 by omega)
    have hb := step0_back hlt rfl (Nat.lt_of_lt_of_le h3 hj)
    have := xor_bit_lt hb h3
    exact ⟨this.1, fun _ => this.2⟩
theorem reg_zero (d : Nat → Bool) (f : Nat) (h : ∀ i, i < f → d i = false) : reg 0 d f = 0 := by
  induction f with
  | zero => rfl
  | succ f ih =>
    simp only [reg]
    rw [ih fun i hi => h i (by omega), h f (by omega)]
    rfl
theorem reg_tail (d : Nat → Bool) (a k : Nat) (h : ∀ i, a ≤ i → i < a + k → d i = false) (hz : reg 0 d (a + k) = 0) : reg 0 d a = 0 := by
  induction k with
  | zero => exact hz
  | succ k ih =>
    rw [← Nat.add_assoc] at hz
    simp only [reg] at hz
    rw [h (a + k) (by omega) (by omega)] at hz
    have := step0_back (Nat.xor_lt_two_pow (n := 32) (reg_lt (by omega) d _) (by decide)) hz (by omega)
    simp at this
    exact ih (fun i h1 h2 => h i h1 (by omega)) this
/-- a difference within 32 bits is seen -/
theorem reg_apart (d : Nat → Bool) (n f : Nat) (hf : f < n) (h0 : ∀ i, i < f → d i = false) (h1 : d f = true) (h2 : ∀ i, f + 32 ≤ i → i < n → d i = false) : reg 0 d n ≠ 0 := by
  intro hz
  obtain ⟨L, hL1, hL2, hL3, hz'⟩ : ∃ L, 0 < L ∧ L ≤ 32 ∧ f + L ≤ n ∧ reg 0 d (f + L) = 0 := by
    rcases Nat.lt_or_ge n (f + 32) with h | h
    · exact ⟨n - f, by omega, by omega, by omega, by rw [show f + (n - f) = n by omega]; exact hz⟩
    · refine ⟨32, by omega, by omega, h, reg_tail d (f + 32) (n - (f + 32)) (fun i a b => h2 i a (by omega)) ?_⟩
      rw [show f + 32 + (n - (f + 32)) = n by omega]
      exact hz
  have := (reg_back d (f + L) hz' L (by omega) hL2).2 hL1
  rw [Nat.add_sub_cancel, reg_zero d f h0, h1] at this
  simp at this
/-- TEXTS THAT ARE APART WITHIN 32 BITS HAVE UNLIKE SUMS -/
theorem sum_apart (t u : List UInt8) (hl : u.length = t.length) (f : Nat) (hf : f < 8 * t.length) (h0 : ∀ i, i < f → mbit u i = mbit t i) (h1 : mbit u f ≠ mbit t f) (h2 : ∀ i, f + 32 ≤ i → mbit u i = mbit t i) : sumL u ≠ sumL t := by
  intro e
  have e1 : reg 4294967295 (mbit u) (8 * t.length) = reg 4294967295 (mbit t) (8 * t.length) := by
    have r1 := sum_reg u
    have r2 := sum_reg t
    rw [hl] at r1
    have b1 := reg_lt (c := 4294967295) (by omega) (mbit u) (8 * t.length)
    have b2 := reg_lt (c := 4294967295) (by omega) (mbit t) (8 * t.length)
    omega
  have e2 := reg_xor 4294967295 4294967295 (mbit u) (mbit t) (8 * t.length)
  rw [e1, Nat.xor_self, Nat.xor_self] at e2
  refine reg_apart _ _ f hf (fun i hi => ?_) ?_ (fun i hi _ => ?_) e2
  · rw [h0 i hi]; cases mbit t i <;> rfl
  · revert h1; cases mbit u f <;> cases mbit t f <;> simp
  · rw [h2 i hi]; cases mbit t i <;> rfl

/-- one bit of a text, turned -/
theorem mbit_flip (u : List UInt8) (k j : Nat) (hk : k / 8 < u.length) : mbit (u.set (k / 8) (UInt8.ofNat (u[k / 8].toNat ^^^ 2 ^ (k % 8)))) j = (mbit u j ^^ decide (j = k)) := by
  have hx := u[k / 8].toNat_lt
  have hp : 2 ^ (k % 8) < 2 ^ 8 := Nat.pow_lt_pow_right (by omega) (by omega)
  have hv : u[k / 8].toNat ^^^ 2 ^ (k % 8) < 256 := Nat.xor_lt_two_pow (n := 8) (by omega) hp
  unfold mbit
  simp only [List.getD_eq_getElem?_getD, List.getElem?_set]
  by_cases e : k / 8 = j / 8
  · rw [← e]
    simp only [hk, ↓reduceIte, Option.getD_some, List.getElem?_eq_getElem hk]
    rw [UInt8.toNat_ofNat_of_lt' (by simpa using hv), Nat.testBit_xor, Nat.testBit_two_pow]
    congr 1
    simp only [decide_eq_decide]
    omega
  · rw [if_neg e]
    have : ¬ j = k := by intro h; subst h; exact e rfl
    simp [this]
/-- a byte that is another one -/
theorem mbit_set (u : List UInt8) (i : Nat) (x : UInt8) (j : Nat) (h : j / 8 ≠ i) : mbit (u.set i x) j = mbit u j := by
  unfold mbit
  simp only [List.getD_eq_getElem?_getD, List.getElem?_set]
  rw [if_neg (Ne.symm h)]
theorem sum_byte (t : List UInt8) (i : Nat) (x : UInt8) (hi : i < t.length) (hx : x ≠ t[i]) : sumL (t.set i x) ≠ sumL t := by
  have hd : ∃ b, b < 8 ∧ x.toNat.testBit b ≠ t[i].toNat.testBit b := by
    refine Classical.byContradiction fun hn => hx ?_
    apply UInt8.toNat_inj.1
    apply Nat.eq_of_testBit_eq
    intro b
    rcases Nat.lt_or_ge b 8 with hb | hb
    · exact Classical.byContradiction fun h => hn ⟨b, hb, h⟩
    · rw [Nat.testBit_lt_two_pow (Nat.lt_of_lt_of_le x.toNat_lt (Nat.pow_le_pow_right (by omega) hb)), Nat.testBit_lt_two_pow (Nat.lt_of_lt_of_le t[i].toNat_lt (Nat.pow_le_pow_right (by omega) hb))]
  have hfind : ∃ b, (b < 8 ∧ x.toNat.testBit b ≠ t[i].toNat.testBit b) ∧ ∀ a, a < b → ¬ (a < 8 ∧ x.toNat.testBit a ≠ t[i].toNat.testBit a) := by
    obtain ⟨b, hb⟩ := hd
    induction b using Nat.strongRecOn with
    | _ b ih =>
      by_cases h : ∃ a, a < b ∧ (a < 8 ∧ x.toNat.testBit a ≠ t[i].toNat.testBit a)
      · obtain ⟨a, ha, hq⟩ := h
        exact ih a ha hq
      · exact ⟨b, hb, fun a ha hq => h ⟨a, ha, hq⟩⟩
  obtain ⟨b, ⟨hb8, hb⟩, hmin⟩ := hfind
  have hin : ∀ c, c < 8 → mbit (t.set i x) (8 * i + c) = x.toNat.testBit c ∧ mbit t (8 * i + c) = t[i].toNat.testBit c := by
    intro c hc
    unfold mbit
    rw [show (8 * i + c) / 8 = i by omega, show (8 * i + c) % 8 = c by omega]
    simp [List.getD_eq_getElem?_getD, hi]
  have hout : ∀ j, (j < 8 * i ∨ 8 * i + 8 ≤ j) → mbit (t.set i x) j = mbit t j := fun j hj => mbit_set t i x j (by omega)
  refine sum_apart t (t.set i x) (by simp) (8 * i + b) (by omega) (fun j hj => ?_) ?_ (fun j hj => hout j (by omega))
  · rcases Nat.lt_or_ge j (8 * i) with h | h
    · exact hout j (Or.inl h)
    · obtain ⟨c, rfl⟩ : ∃ c, j = 8 * i + c := ⟨j - 8 * i, by omega⟩
      rw [(hin c (by omega)).1, (hin c (by omega)).2]
      exact Classical.byContradiction fun h => hmin c (by omega) ⟨by omega, h⟩
  · rw [(hin b hb8).1, (hin b hb8).2]
    exact hb
end Go.Proofs.YtpjinmiedanebaaDoor

namespace Go.Proofs.YtpjinmiedanebaaDoor
set_option maxRecDepth 20000
open Go.RowKit

/-- not too many, nor too long -/
def fewL (ls : List (List UInt8)) (k long : Nat) : List (List UInt8) := (ls.take k).map fun l => l.take long
theorem fewL_length (ls : List (List UInt8)) (k long : Nat) : (fewL ls k long).length = min k ls.length := by simp [fewL]
theorem fewL_mem {ls : List (List UInt8)} {k long : Nat} {l : List UInt8} (h : l ∈ fewL ls k long) : l.length ≤ long := by
  unfold fewL at h
  obtain ⟨x, _, rfl⟩ := List.mem_map.1 h
  simp
  omega
/-- a list of texts in memory of the call's own -/
def NewP (w : World) (ls : List (List UInt8)) (e : Ending) (w' : World) : Prop :=
  ∃ (A : Option Addr) (n c : Nat) (vs : List Value), e = .returned (.slice A n c) ∧ OwnP w' w.heap.size A n c vs ∧ OwnParts w' w.heap.size none vs ls ∧ Below w.heap.size w w'
end Go.Proofs.YtpjinmiedanebaaDoor

namespace Go.Proofs.YtpjinmiedanebaaDoor
set_option maxRecDepth 20000
open Go.ChangeShapes Go.WideShapes Go.ChangeAt Go.RowKit

theorem opensOp : Opens Tryd.prog 88 OpL :=
  opens_op (tb := 22) (u8 := 5) Tryd.underlying88 (by kernel_rfl) ⟨by kernel_rfl, by kernel_rfl, by kernel_rfl⟩ Tryd.underlying22 Tryd.underlying5
theorem cellsOp : Tryd.prog.cellsOf 88 = Rep.size OpL := by kernel_rfl
theorem opensNote : Opens Tryd.prog 41 NoteL :=
  opens_note (tb := 22) (to := 39) (top := 88) (u64 := 38) (u8 := 5) Tryd.underlying41 (by kernel_rfl) Tryd.underlying39 Tryd.underlying88 (by kernel_rfl) ⟨by kernel_rfl, by kernel_rfl, by kernel_rfl, by kernel_rfl, by kernel_rfl, by kernel_rfl⟩ Tryd.underlying22 Tryd.underlying38 Tryd.underlying5
theorem opensU64 : Opens Tryd.prog 38 UInt64 := opens_u64 Tryd.underlying38
theorem cellsU64 : Tryd.prog.cellsOf 38 = Rep.size UInt64 := by kernel_rfl
end Go.Proofs.YtpjinmiedanebaaDoor
