/-
  Leaves, plain: the forms of versions, what two have in common, a leaf's bytes, its check, and how bytes are read as a leaf. No program stands here. No condition.
-/
import Derived.Test.YtpffieogkfndaaaGKey
import Derived.Test.YtpffieogkfndaaaGBat
namespace Go.Proofs.Ytpffieogkfndaaa
open Go.RowKit
set_option maxRecDepth 20000

/-- a version's form -/
def fullL (k : KeyL) : List UInt8 := k.user ++ le8 (keyN k)
theorem fullL_len (k : KeyL) : (fullL k).length = k.user.length + 8 := by simp [fullL, le8_len]
/-- how many first bytes two have in common -/
def commonL : List UInt8 → List UInt8 → Nat
  | a :: l, b :: m => if a = b then commonL l m + 1 else 0
  | [], _ => 0
  | _ :: _, [] => 0
theorem commonL_le : ∀ a b : List UInt8, commonL a b ≤ a.length ∧ commonL a b ≤ b.length
  | [], _ => by simp [commonL]
  | _ :: _, [] => by simp [commonL]
  | a :: l, b :: m => by
    have ih := commonL_le l m
    unfold commonL
    split <;> simp <;> omega
theorem commonL_take : ∀ a b : List UInt8, a.take (commonL a b) = b.take (commonL a b)
  | [], _ => by simp [commonL]
  | _ :: _, [] => by simp [commonL]
  | a :: l, b :: m => by
    have ih := commonL_take l m
    unfold commonL
    split
    · rename_i h
      subst h
      simp [ih]
    · simp
theorem commonL_step (a b : List UInt8) (n : Nat) (ha : n < a.length) (hb : n < b.length) :
    commonL (a.drop n) (b.drop n) = if a[n] = b[n] then commonL (a.drop (n + 1)) (b.drop (n + 1)) + 1 else 0 := by
  rw [List.drop_eq_getElem_cons ha, List.drop_eq_getElem_cons hb]
  rfl
theorem commonL_nil (a b : List UInt8) (n : Nat) (h : a.length ≤ n ∨ b.length ≤ n) : commonL (a.drop n) (b.drop n) = 0 := by
  rcases h with h | h
  · rw [List.drop_eq_nil_of_le h]
    simp [commonL]
  · rw [List.drop_eq_nil_of_le h]
    cases a.drop n <;> simp [commonL]
/-- how many bytes of the form ahead entry number i takes over -/
def leafN (i : Nat) (a f : List UInt8) : Nat := if i % 4 = 0 then 0 else commonL a f
theorem leafN_le (i : Nat) (a f : List UInt8) : leafN i a f ≤ a.length ∧ leafN i a f ≤ f.length := by
  unfold leafN
  split
  · omega
  · exact commonL_le a f
theorem leafN_take (i : Nat) (a f : List UInt8) : a.take (leafN i a f) = f.take (leafN i a f) := by
  unfold leafN
  split
  · simp
  · exact commonL_take a f
def leafEntL (n : Nat) (f v : List UInt8) : List UInt8 := numL n ++ (numL (f.length - n) ++ (numL v.length ++ (f.drop n ++ v)))
def leafBodyL : Nat → List UInt8 → List EntL → List UInt8
  | _, _, [] => []
  | i, a, e :: l => leafEntL (leafN i a (fullL e.key)) (fullL e.key) e.value ++ leafBodyL (i + 1) (fullL e.key) l
/-- the form of the last one -/
def lastF (a : List UInt8) : List EntL → List UInt8
  | [] => a
  | e :: l => lastF (fullL e.key) l
theorem lastF_snoc (e : EntL) : ∀ (l : List EntL) (a : List UInt8), lastF a (l ++ [e]) = fullL e.key
  | [], _ => rfl
  | x :: l, _ => lastF_snoc e l (fullL x.key)
theorem leafBody_app (m : List EntL) : ∀ (l : List EntL) (i : Nat) (a : List UInt8), leafBodyL i a (l ++ m) = leafBodyL i a l ++ leafBodyL (i + l.length) (lastF a l) m
  | [], i, a => by simp [leafBodyL, lastF]
  | e :: l, i, a => by
    have ih := leafBody_app m l (i + 1) (fullL e.key)
    simp only [List.cons_append, leafBodyL, lastF, List.length_cons, List.append_assoc]
    rw [ih, show i + 1 + l.length = i + (l.length + 1) by omega]
theorem leafBody_snoc (l : List EntL) (e : EntL) (i : Nat) (a : List UInt8) : leafBodyL i a (l ++ [e]) = leafBodyL i a l ++ leafEntL (leafN (i + l.length) (lastF a l) (fullL e.key)) (fullL e.key) e.value := by
  rw [leafBody_app]
  simp [leafBodyL]
/-- where the entries stand that are written whole -/
def startsL (l : List EntL) : List Nat := ((List.range l.length).filter fun i => decide (i % 4 = 0)).map fun i => (leafBodyL 0 [] (l.take i)).length
def twoL (n : Nat) : List UInt8 := [UInt8.ofNat n, UInt8.ofNat (n / 256)]
def twosL (l : List Nat) : List UInt8 := (l.map twoL).flatten
theorem twosL_snoc (l : List Nat) (n : Nat) : twosL (l ++ [n]) = twosL l ++ twoL n := by simp [twosL]
theorem twosL_len (l : List Nat) : (twosL l).length = 2 * l.length := by
  unfold twosL
  induction l with
  | nil => rfl
  | cons a l ih => simp [ih, twoL]; omega
def leafBytesL (l : List EntL) : List UInt8 := leafBodyL 0 [] l ++ (twosL (startsL l) ++ twoL (startsL l).length)
theorem starts_step (l : List EntL) (j : Nat) (hj : j < l.length) : startsL (l.take (j + 1)) = startsL (l.take j) ++ (if j % 4 = 0 then [(leafBodyL 0 [] (l.take j)).length] else []) := by
  unfold startsL
  rw [List.length_take, List.length_take, Nat.min_eq_left (by omega), Nat.min_eq_left (by omega), List.range_succ, List.filter_append, List.map_append]
  congr 1
  · apply List.map_congr_left
    intro i hi
    have : i < j := by simpa using (List.mem_filter.1 hi).1
    rw [List.take_take, List.take_take, Nat.min_eq_left (by omega), Nat.min_eq_left (by omega)]
  · by_cases h : j % 4 = 0
    · rw [if_pos h]
      simp [h, List.take_take]
    · rw [if_neg h]
      simp [h]
theorem starts_len' (l : List EntL) : ∀ j : Nat, j ≤ l.length → (startsL (l.take j)).length = (j + 3) / 4
  | 0, _ => by simp [startsL]
  | j + 1, h => by
    rw [starts_step l j (by omega), List.length_append, starts_len' l j (by omega)]
    split
    · simp; omega
    · simp; omega
theorem starts_len (l : List EntL) : (startsL l).length = (l.length + 3) / 4 := by
  have := starts_len' l l.length (Nat.le_refl _)
  rwa [List.take_length] at this

def checkEntL (e : EntL) : Nat := if checkKey e.key ≠ 0 then checkKey e.key else if 512 < e.value.length then 3 else 0
def risesL : List EntL → Bool
  | [] => true
  | [_] => true
  | a :: b :: l => lessKey a.key b.key && risesL (b :: l)
theorem risesL_iff : ∀ l : List EntL, risesL l = true ↔ ∀ (i : Nat) (h : i + 1 < l.length), lessKey l[i].key l[i + 1].key = true
  | [] => by simp [risesL]
  | [a] => by simp [risesL]
  | a :: b :: l => by
    have ih := risesL_iff (b :: l)
    simp only [risesL, Bool.and_eq_true]
    rw [ih]
    constructor
    · rintro ⟨h1, h2⟩ i hi
      cases i with
      | zero => exact h1
      | succ i => exact h2 i (by simpa using hi)
    · intro h
      refine ⟨h 0 (by simp), fun i hi => ?_⟩
      exact h (i + 1) (by simpa using hi)
def checkLeafL (l : List EntL) : Nat := if 64 < l.length then 3 else if firstErr checkEntL l ≠ 0 then firstErr checkEntL l else if risesL l = true then 0 else 10
theorem checkEnt_zero {e : EntL} (h : checkEntL e = 0) : checkKey e.key = 0 ∧ e.value.length ≤ 512 := by
  unfold checkEntL at h
  repeat' split at h
  all_goals omega
theorem checkKey_bounds {k : KeyL} (h : checkKey k = 0) : k.seq.toNat < 72057594037927936 ∧ 1 ≤ k.user.length ∧ k.user.length ≤ 64 ∧ 1 ≤ k.kind.toNat ∧ k.kind.toNat ≤ 2 := by
  unfold checkKey at h
  repeat' split at h
  all_goals omega
theorem checkLeaf_zero {l : List EntL} (h : checkLeafL l = 0) : l.length ≤ 64 ∧ (∀ e ∈ l, checkKey e.key = 0 ∧ e.value.length ≤ 512) ∧ risesL l = true := by
  unfold checkLeafL at h
  split at h
  · omega
  · split at h
    · omega
    · rename_i h1 h2
      split at h
      · rename_i h3
        exact ⟨by omega, fun e he => checkEnt_zero ((firstErr_zero _ _).1 (by omega) e he), h3⟩
      · omega
theorem leafEnt_len (n : Nat) (f v : List UInt8) : (leafEntL n f v).length ≤ 27 + f.length + v.length ∧ 0 < (leafEntL n f v).length := by
  unfold leafEntL
  have h1 := num_len n
  have h2 := num_len (f.length - n)
  have h3 := num_len v.length
  simp only [List.length_append, List.length_drop]
  omega
theorem leafBody_len : ∀ (l : List EntL) (i : Nat) (a : List UInt8), (∀ e ∈ l, checkKey e.key = 0 ∧ e.value.length ≤ 512) → (leafBodyL i a l).length ≤ 611 * l.length
  | [], _, _, _ => by simp [leafBodyL]
  | e :: l, i, a, h => by
    have ih := leafBody_len l (i + 1) (fullL e.key) fun x hx => h x (by simp [hx])
    have h1 := h e (by simp)
    have h2 := checkKey_bounds h1.1
    have h3 := leafEnt_len (leafN i a (fullL e.key)) (fullL e.key) e.value
    rw [fullL_len] at h3
    simp only [leafBodyL, List.length_append, List.length_cons]
    omega
/-- the version of a form -/
def verL (f : List UInt8) : KeyL := keyOfN (f.take (f.length - 8)) (leval (f.drop (f.length - 8)))
theorem key_ofN (k : KeyL) : keyOfN k.user (keyN k) = k := by
  have hd := k.kind.toNat_lt
  unfold keyOfN keyN
  cases k with | mk u s d =>
  simp only [KeyL.mk.injEq, true_and]
  simp only at hd
  constructor
  · apply UInt64.toNat_inj.1
    rw [UInt64.toNat_ofNat', show (s.toNat * 256 + d.toNat) / 256 = s.toNat by omega]
    exact Nat.mod_eq_of_lt s.toNat_lt
  · apply UInt8.toNat_inj.1
    rw [UInt8.toNat_ofNat']
    omega
theorem ver_full (k : KeyL) (h : k.seq.toNat < 72057594037927936) : verL (fullL k) = k := by
  have hd := k.kind.toNat_lt
  unfold verL
  rw [fullL_len, Nat.add_sub_cancel]
  unfold fullL
  rw [List.take_left' rfl, List.drop_left' rfl, leval_le8 _ (by unfold keyN; omega), key_ofN]
/-- the entry in front, behind a form; its own form, and what stands behind -/
def entryL (a p : List UInt8) : Option (EntL × List UInt8 × List UInt8) :=
  let x := takeL p
  let y := takeL x.2.1
  let z := takeL y.2.1
  if x.2.2 = 0 ∧ y.2.2 = 0 ∧ z.2.2 = 0 ∧ x.1 ≤ a.length ∧ y.1 + z.1 ≤ z.2.1.length ∧ 8 ≤ x.1 + y.1 then
    some (⟨verL (a.take x.1 ++ z.2.1.take y.1), (z.2.1.drop y.1).take z.1⟩, a.take x.1 ++ z.2.1.take y.1, z.2.1.drop (y.1 + z.1))
  else none
theorem entry_of (i : Nat) (a rest : List UInt8) (e : EntL) (h1 : checkKey e.key = 0) (h2 : e.value.length ≤ 512) :
    entryL a (leafEntL (leafN i a (fullL e.key)) (fullL e.key) e.value ++ rest) = some (e, fullL e.key, rest) := by
  have hb := checkKey_bounds h1
  have hl := fullL_len e.key
  have hn := leafN_le i a (fullL e.key)
  have ht := leafN_take i a (fullL e.key)
  have hv := ver_full e.key hb.1
  generalize leafN i a (fullL e.key) = n at *
  generalize fullL e.key = f at *
  have e1 : takeL (leafEntL n f e.value ++ rest) = (n, numL (f.length - n) ++ (numL e.value.length ++ (f.drop n ++ (e.value ++ rest))), 0) := by
    unfold leafEntL
    simp only [List.append_assoc]
    exact take_num n (by omega) _
  have e2 : takeL (numL (f.length - n) ++ (numL e.value.length ++ (f.drop n ++ (e.value ++ rest)))) = (f.length - n, numL e.value.length ++ (f.drop n ++ (e.value ++ rest)), 0) := take_num _ (by omega) _
  have e3 : takeL (numL e.value.length ++ (f.drop n ++ (e.value ++ rest))) = (e.value.length, f.drop n ++ (e.value ++ rest), 0) := take_num _ (by omega) _
  have hd : (f.drop n).length = f.length - n := by simp
  unfold entryL
  simp only [e1, e2, e3]
  rw [if_pos ⟨trivial, trivial, trivial, hn.1, by simp only [List.length_append, hd]; omega, by omega⟩]
  rw [List.take_left' hd, List.drop_left' hd, ht, List.take_append_drop, hv, List.take_left, ← List.drop_drop, List.drop_left' hd, List.drop_left]
theorem entry_len {a p f q : List UInt8} {e : EntL} (h : entryL a p = some (e, f, q)) : q.length < p.length ∧ f.length + q.length ≤ a.length + p.length := by
  unfold entryL at h
  simp only at h
  split at h
  · rename_i hc
    obtain ⟨c1, c2, c3, c4, c5, c6⟩ := hc
    simp only [Option.some.injEq, Prod.mk.injEq] at h
    obtain ⟨_, rfl, rfl⟩ := h
    have h1 := takeL_len p
    have h2 := takeL_len (takeL p).2.1
    have h3 := takeL_len (takeL (takeL p).2.1).2.1
    have i1 := congrArg List.length (take_inv p c1)
    have n1 := num_len (takeL p).1
    simp only [List.length_append] at i1
    simp only [List.length_drop, List.length_append, List.length_take]
    omega
  · cases h
def parseL (d : Bool) : Nat → List UInt8 → List UInt8 → Option (List EntL)
  | 0, _, p => if p.length = 0 ∨ d = true then some [] else none
  | m + 1, a, p => if p.length = 0 then some [] else match entryL a p with
    | none => none
    | some (e, f, q) => (parseL d m f q).map (e :: ·)
theorem parse_of (d : Bool) : ∀ (l : List EntL) (m i : Nat) (a : List UInt8), l.length ≤ m → (∀ e ∈ l, checkKey e.key = 0 ∧ e.value.length ≤ 512) → parseL d m a (leafBodyL i a l) = some l
  | [], m, i, a, _, _ => by cases m <;> simp [parseL, leafBodyL]
  | e :: l, 0, i, a, h, _ => by simp at h
  | e :: l, m + 1, i, a, h, hc => by
    have ih := parse_of d l m (i + 1) (fullL e.key) (by simpa using h) fun x hx => hc x (by simp [hx])
    have h1 := hc e (by simp)
    have h2 := leafEnt_len (leafN i a (fullL e.key)) (fullL e.key) e.value
    rw [show leafBodyL i a (e :: l) = leafEntL (leafN i a (fullL e.key)) (fullL e.key) e.value ++ leafBodyL (i + 1) (fullL e.key) l from rfl]
    unfold parseL
    rw [if_neg (by rw [List.length_append]; omega), entry_of i a _ e h1.1 h1.2]
    simp only [ih, Option.map_some]
def endN (p : List UInt8) : Nat := (p.getD (p.length - 2) 0).toNat + 256 * (p.getD (p.length - 1) 0).toNat
/-- the leaf of bytes: what stands there, if it makes just these bytes -/
def readLeafX (d : Bool) (m : Nat) (p : List UInt8) : Option (List EntL) :=
  if p.length < 2 ∨ p.length < 2 + 2 * endN p ∨ 16 < endN p then none
  else match parseL d m [] (p.take (p.length - 2 - 2 * endN p)) with
    | none => none
    | some l => if checkLeafL l = 0 ∧ leafBytesL l = p then some l else none
theorem readLeafX_iff (d : Bool) (m : Nat) (hm : 64 ≤ m) (p : List UInt8) (l : List EntL) : readLeafX d m p = some l ↔ checkLeafL l = 0 ∧ leafBytesL l = p := by
  constructor
  · intro h
    unfold readLeafX at h
    split at h
    · cases h
    · split at h
      · cases h
      · split at h
        · rename_i hc
          obtain rfl := Option.some.inj h
          exact hc
        · cases h
  · rintro ⟨h1, rfl⟩
    obtain ⟨hb1, hb2, hb3⟩ := checkLeaf_zero h1
    have hk : (startsL l).length ≤ 16 := by rw [starts_len]; omega
    have ht := twosL_len (startsL l)
    have hp := parse_of d l m 0 [] (by omega) hb2
    generalize hB : leafBodyL 0 [] l = B at *
    generalize hS : startsL l = S at *
    have eq : leafBytesL l = B ++ (twosL S ++ twoL S.length) := by unfold leafBytesL; rw [hB, hS]
    have hlen : (leafBytesL l).length = B.length + 2 * S.length + 2 := by rw [eq]; simp [ht, twoL]; omega
    have g1 : (leafBytesL l).getD ((leafBytesL l).length - 2) 0 = UInt8.ofNat S.length := by
      rw [hlen, eq, ← List.append_assoc, List.getD_eq_getElem?_getD, List.getElem?_append_right (by simp [ht])]
      have e0 : B.length + 2 * S.length + 2 - 2 - (B ++ twosL S).length = 0 := by simp [ht]
      rw [e0]
      rfl
    have g2 : (leafBytesL l).getD ((leafBytesL l).length - 1) 0 = UInt8.ofNat (S.length / 256) := by
      rw [hlen, eq, ← List.append_assoc, List.getD_eq_getElem?_getD, List.getElem?_append_right (by simp [ht])]
      have e0 : B.length + 2 * S.length + 2 - 1 - (B ++ twosL S).length = 1 := by simp [ht]
      rw [e0]
      rfl
    have hn : endN (leafBytesL l) = S.length := by
      unfold endN
      rw [g1, g2, UInt8.toNat_ofNat', UInt8.toNat_ofNat']
      omega
    have htk : (leafBytesL l).take ((leafBytesL l).length - 2 - 2 * S.length) = B := by
      rw [hlen, eq, show B.length + 2 * S.length + 2 - 2 - 2 * S.length = B.length by omega, List.take_left]
    unfold readLeafX
    rw [hn, if_neg (by rw [hlen]; omega), htk, hp]
    simp only [h1, true_and, if_true]
def readLeafL (p : List UInt8) : Option (List EntL) := readLeafX false 64 p
theorem readLeaf_iff (p : List UInt8) (l : List EntL) : readLeafL p = some l ↔ checkLeafL l = 0 ∧ leafBytesL l = p := readLeafX_iff false 64 (Nat.le_refl _) p l
theorem readLeaf_same (p : List UInt8) : readLeafX true 65 p = readLeafL p := by
  rcases h : readLeafL p with _ | l
  · rcases h2 : readLeafX true 65 p with _ | l
    · rfl
    · rw [(readLeaf_iff p l).2 ((readLeafX_iff true 65 (by omega) p l).1 h2)] at h
      cases h
  · exact (readLeafX_iff true 65 (by omega) p l).2 ((readLeaf_iff p l).1 h)
/-- a leaf's bytes, or the error's number -/
def leafBE (l : List EntL) : List UInt8 × Nat := if checkLeafL l = 0 then (leafBytesL l, 0) else ([], checkLeafL l)
end Go.Proofs.Ytpffieogkfndaaa
