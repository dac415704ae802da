/-
  LeafPlain, TabPlain in one text. No condition but sizes.
-/
import Derived.Test.YtpffieogkfndaaaGreatDoorJBloomRef
import Derived.Test.YtpffieogkfndaaaGreatDoorJKeyAfterW
import Derived.Test.YtpffieogkfndaaaGreatDoorJSealRef
import Derived.Test.YtpffieogkfndaaaGreatDoorJBloomPlain
namespace Go.Proofs.YtpffieogkfndaaaGreatDoor
open Go.RowKit
set_option maxRecDepth 20000
set_option linter.unusedVariables false
set_option linter.unusedSimpArgs false

/-- a version's form -/
def fullL (k : KeyL) : List UInt8 := k.user ++ le8 (keyN k)
theorem fullL_len (k : KeyL) : (fullL k).length = k.user.length + 8 := by simp [fullL, le8_len]
/-- how many first bytes two have in common -/
def commonL : List UInt8 → List UInt8 → Nat
  | a :: l, b :: m => if a = b then commonL l m + 1 else 0
  | [], _ => 0
  | _ :: _, [] => 0
theorem commonL_le : ∀ a b : List UInt8, commonL a b ≤ a.length ∧ commonL a b ≤ b.length
  | [], _ => by simp [commonL]
  | _ :: _, [] => by simp [commonL]
  | a :: l, b :: m => by
    have ih := commonL_le l m
    unfold commonL
    split <;> simp <;> omega
theorem commonL_take : ∀ a b : List UInt8, a.take (commonL a b) = b.take (commonL a b)
  | [], _ => by simp [commonL]
  | _ :: _, [] => by simp [commonL]
  | a :: l, b :: m => by
    have ih := commonL_take l m
    unfold commonL
    split
    · rename_i h
      subst h
      simp [ih]
    · simp
theorem commonL_step (a b : List UInt8) (n : Nat) (ha : n < a.length) (hb : n < b.length) :
    commonL (a.drop n) (b.drop n) = if a[n] = b[n] then commonL (a.drop (n + 1)) (b.drop (n + 1)) + 1 else 0 := by
  rw [List.drop_eq_getElem_cons ha, List.drop_eq_getElem_cons hb]
  rfl
theorem commonL_nil (a b : List UInt8) (n : Nat) (h : a.length ≤ n ∨ b.length ≤ n) : commonL (a.drop n) (b.drop n) = 0 := by
  rcases h with h | h
  · rw [List.drop_eq_nil_of_le h]
    simp [commonL]
  · rw [List.drop_eq_nil_of_le h]
    cases a.drop n <;> simp [commonL]
/-- how many bytes of the form ahead entry number i takes over -/
def leafN (i : Nat) (a f : List UInt8) : Nat := if i % 4 = 0 then 0 else commonL a f
theorem leafN_le (i : Nat) (a f : List UInt8) : leafN i a f ≤ a.length ∧ leafN i a f ≤ f.length := by
  unfold leafN
  split
  · omega
  · exact commonL_le a f
theorem leafN_take (i : Nat) (a f : List UInt8) : a.take (leafN i a f) = f.take (leafN i a f) := by
  unfold leafN
  split
  · simp
  · exact commonL_take a f
def leafEntL (n : Nat) (f v : List UInt8) : List UInt8 := numL n ++ (numL (f.length - n) ++ (numL v.length ++ (f.drop n ++ v)))
def leafBodyL : Nat → List UInt8 → List EntL → List UInt8
  | _, _, [] => []
  | i, a, e :: l => leafEntL (leafN i a (fullL e.key)) (fullL e.key) e.value ++ leafBodyL (i + 1) (fullL e.key) l
/-- the form of the last one -/
def lastF (a : List UInt8) : List EntL → List UInt8
  | [] => a
  | e :: l => lastF (fullL e.key) l
theorem lastF_snoc (e : EntL) : ∀ (l : List EntL) (a : List UInt8), lastF a (l ++ [e]) = fullL e.key
  | [], _ => rfl
  | x :: l, _ => lastF_snoc e l (fullL x.key)
theorem leafBody_app (m : List EntL) : ∀ (l : List EntL) (i : Nat) (a : List UInt8), leafBodyL i a (l ++ m) = leafBodyL i a l ++ leafBodyL (i + l.length) (lastF a l) m
  | [], i, a => by simp [leafBodyL, lastF]
  | e :: l, i, a => by
    have ih := leafBody_app m l (i + 1) (fullL e.key)
    simp only [List.cons_append, leafBodyL, lastF, List.length_cons, List.append_assoc]
    rw [ih, show i + 1 + l.length = i + (l.length + 1) by omega]
theorem leafBody_snoc (l : List EntL) (e : EntL) (i : Nat) (a : List UInt8) : leafBodyL i a (l ++ [e]) = leafBodyL i a l ++ leafEntL (leafN (i + l.length) (lastF a l) (fullL e.key)) (fullL e.key) e.value := by
  rw [leafBody_app]
  simp [leafBodyL]
/-- where the entries stand that are written whole -/
def startsL (l : List EntL) : List Nat := ((List.range l.length).filter fun i => decide (i % 4 = 0)).map fun i => (leafBodyL 0 [] (l.take i)).length
def twoL (n : Nat) : List UInt8 := [UInt8.ofNat n, UInt8.ofNat (n / 256)]
def twosL (l : List Nat) : List UInt8 := (l.map twoL).flatten
theorem twosL_snoc (l : List Nat) (n : Nat) : twosL (l ++ [n]) = twosL l ++ twoL n := by simp [twosL]
theorem twosL_len (l : List Nat) : (twosL l).length = 2 * l.length := by
  unfold twosL
  induction l with
  | nil => rfl
  | cons a l ih => simp [ih, twoL]; omega
def leafBytesL (l : List EntL) : List UInt8 := leafBodyL 0 [] l ++ (twosL (startsL l) ++ twoL (startsL l).length)
theorem starts_step (l : List EntL) (j : Nat) (hj : j < l.length) : startsL (l.take (j + 1)) = startsL (l.take j) ++ (if j % 4 = 0 then [(leafBodyL 0 [] (l.take j)).length] else []) := by
  unfold startsL
  rw [List.length_take, List.length_take, Nat.min_eq_left (by omega), Nat.min_eq_left (by omega), List.range_succ, List.filter_append, List.map_append]
  congr 1
  · apply List.map_congr_left
    intro i hi
    have : i < j := by simpa using (List.mem_filter.1 hi).1
    rw [List.take_take, List.take_take, Nat.min_eq_left (by omega), Nat.min_eq_left (by omega)]
  · by_cases h : j % 4 = 0
    · rw [if_pos h]
      simp [h, List.take_take]
    · rw [if_neg h]
      simp [h]
theorem starts_len' (l : List EntL) : ∀ j : Nat, j ≤ l.length → (startsL (l.take j)).length = (j + 3) / 4
  | 0, _ => by simp [startsL]
  | j + 1, h => by
    rw [starts_step l j (by omega), List.length_append, starts_len' l j (by omega)]
    split
    · simp; omega
    · simp; omega
theorem starts_len (l : List EntL) : (startsL l).length = (l.length + 3) / 4 := by
  have := starts_len' l l.length (Nat.le_refl _)
  rwa [List.take_length] at this

def checkEntL (e : EntL) : Nat := if checkKey e.key ≠ 0 then checkKey e.key else if 512 < e.value.length then 3 else 0
def risesL : List EntL → Bool
  | [] => true
  | [_] => true
  | a :: b :: l => lessKey a.key b.key && risesL (b :: l)
theorem risesL_iff : ∀ l : List EntL, risesL l = true ↔ ∀ (i : Nat) (h : i + 1 < l.length), lessKey l[i].key l[i + 1].key = true
  | [] => by simp [risesL]
  | [a] => by simp [risesL]
  | a :: b :: l => by
    have ih := risesL_iff (b :: l)
    simp only [risesL, Bool.and_eq_true]
    rw [ih]
    constructor
    · rintro ⟨h1, h2⟩ i hi
      cases i with
      | zero => exact h1
      | succ i => exact h2 i (by simpa using hi)
    · intro h
      refine ⟨h 0 (by simp), fun i hi => ?_⟩
      exact h (i + 1) (by simpa using hi)
def checkLeafL (l : List EntL) : Nat := if 64 < l.length then 3 else if firstErr checkEntL l ≠ 0 then firstErr checkEntL l else if risesL l = true then 0 else 10
theorem checkEnt_zero {e : EntL} (h : checkEntL e = 0) : checkKey e.key = 0 ∧ e.value.length ≤ 512 := by
  unfold checkEntL at h
  repeat' split at h
  all_goals omega
theorem checkKey_bounds {k : KeyL} (h : checkKey k = 0) : k.seq.toNat < 72057594037927936 ∧ 1 ≤ k.user.length ∧ k.user.length ≤ 64 ∧ 1 ≤ k.kind.toNat ∧ k.kind.toNat ≤ 2 := by
  unfold checkKey at h
  repeat' split at h
  all_goals omega
theorem checkLeaf_zero {l : List EntL} (h : checkLeafL l = 0) : l.length ≤ 64 ∧ (∀ e ∈ l, checkKey e.key = 0 ∧ e.value.length ≤ 512) ∧ risesL l = true := by
  unfold checkLeafL at h
  split at h
  · omega
  · split at h
    · omega
    · rename_i h1 h2
      split at h
      · rename_i h3
        exact ⟨by omega, fun e he => checkEnt_zero ((firstErr_zero _ _).1 (by omega) e he), h3⟩
      · omega
theorem leafEnt_len (n : Nat) (f v : List UInt8) : (leafEntL n f v).length ≤ 27 + f.length + v.length ∧ 0 < (leafEntL n f v).length := by
  unfold leafEntL
  have h1 := num_len n
  have h2 := num_len (f.length - n)
  have h3 := num_len v.length
  simp only [List.length_append, List.length_drop]
  omega
theorem leafBody_len : ∀ (l : List EntL) (i : Nat) (a : List UInt8), (∀ e ∈ l, checkKey e.key = 0 ∧ e.value.length ≤ 512) → (leafBodyL i a l).length ≤ 611 * l.length
  | [], _, _, _ => by simp [leafBodyL]
  | e :: l, i, a, h => by
    have ih := leafBody_len l (i + 1) (fullL e.key) fun x hx => h x (by simp [hx])
    have h1 := h e (by simp)
    have h2 := checkKey_bounds h1.1
    have h3 := leafEnt_len (leafN i a (fullL e.key)) (fullL e.key) e.value
    rw [fullL_len] at h3
    simp only [leafBodyL, List.length_append, List.length_cons]
    omega
/-- the version of a form -/
def verL (f : List UInt8) : KeyL := keyOfN (f.take (f.length - 8)) (leval (f.drop (f.length - 8)))
theorem key_ofN (k : KeyL) : keyOfN k.user (keyN k) = k := by
  have hd := k.kind.toNat_lt
  unfold keyOfN keyN
  cases k with | mk u s d =>
  simp only [KeyL.mk.injEq, true_and]
  simp only at hd
  constructor
  · apply UInt64.toNat_inj.1
    rw [UInt64.toNat_ofNat', show (s.toNat * 256 + d.toNat) / 256 = s.toNat by omega]
    exact Nat.mod_eq_of_lt s.toNat_lt
  · apply UInt8.toNat_inj.1
    rw [UInt8.toNat_ofNat']
    omega
theorem ver_full (k : KeyL) (h : k.seq.toNat < 72057594037927936) : verL (fullL k) = k := by
  have hd := k.kind.toNat_lt
  unfold verL
  rw [fullL_len, Nat.add_sub_cancel]
  unfold fullL
  rw [List.take_left' rfl, List.drop_left' rfl, leval_le8 _ (by unfold keyN; omega), key_ofN]
/-- the entry in front, behind a form; its own form, and what stands behind -/
def entryL (a p : List UInt8) : Option (EntL × List UInt8 × List UInt8) :=
  let x := takeL p
  let y := takeL x.2.1
  let z := takeL y.2.1
  if x.2.2 = 0 ∧ y.2.2 = 0 ∧ z.2.2 = 0 ∧ x.1 ≤ a.length ∧ y.1 + z.1 ≤ z.2.1.length ∧ 8 ≤ x.1 + y.1 then
    some (⟨verL (a.take x.1 ++ z.2.1.take y.1), (z.2.1.drop y.1).take z.1⟩, a.take x.1 ++ z.2.1.take y.1, z.2.1.drop (y.1 + z.1))
  else none
theorem entry_of (i : Nat) (a rest : List UInt8) (e : EntL) (h1 : checkKey e.key = 0) (h2 : e.value.length ≤ 512) :
    entryL a (leafEntL (leafN i a (fullL e.key)) (fullL e.key) e.value ++ rest) = some (e, fullL e.key, rest) := by
  have hb := checkKey_bounds h1
  have hl := fullL_len e.key
  have hn := leafN_le i a (fullL e.key)
  have ht := leafN_take i a (fullL e.key)
  have hv := ver_full e.key hb.1
  generalize leafN i a (fullL e.key) = n at *
  generalize fullL e.key = f at *
  have e1 : takeL (leafEntL n f e.value ++ rest) = (n, numL (f.length - n) ++ (numL e.value.length ++ (f.drop n ++ (e.value ++ rest))), 0) := by
    unfold leafEntL
    simp only [List.append_assoc]
    exact take_num n (by omega) _
  have e2 : takeL (numL (f.length - n) ++ (numL e.value.length ++ (f.drop n ++ (e.value ++ rest)))) = (f.length - n, numL e.value.length ++ (f.drop n ++ (e.value ++ rest)), 0) := take_num _ (by omega) _
  have e3 : takeL (numL e.value.length ++ (f.drop n ++ (e.value ++ rest))) = (e.value.length, f.drop n ++ (e.value ++ rest), 0) := take_num _ (by omega) _
  have hd : (f.drop n).length = f.length - n := by simp
  unfold entryL
  simp only [e1, e2, e3]
  rw [if_pos ⟨trivial, trivial, trivial, hn.1, by simp only [List.length_append, hd]; omega, by omega⟩]
  rw [List.take_left' hd, List.drop_left' hd, ht, List.take_append_drop, hv, List.take_left, ← List.drop_drop, List.drop_left' hd, List.drop_left]
theorem entry_len {a p f q : List UInt8} {e : EntL} (h : entryL a p = some (e, f, q)) : q.length < p.length ∧ f.length + q.length ≤ a.length + p.length := by
  unfold entryL at h
  simp only at h
  split at h
  · rename_i hc
    obtain ⟨c1, c2, c3, c4, c5, c6⟩ := hc
    simp only [Option.some.injEq, Prod.mk.injEq] at h
    obtain ⟨_, rfl, rfl⟩ := h
    have h1 := takeL_len p
    have h2 := takeL_len (takeL p).2.1
    have h3 := takeL_len (takeL (takeL p).2.1).2.1
    have i1 := congrArg List.length (take_inv p c1)
    have n1 := num_len (takeL p).1
    simp only [List.length_append] at i1
    simp only [List.length_drop, List.length_append, List.length_take]
    omega
  · cases h
def parseL (d : Bool) : Nat → List UInt8 → List UInt8 → Option (List EntL)
  | 0, _, p => if p.length = 0 ∨ d = true then some [] else none
  | m + 1, a, p => if p.length = 0 then some [] else match entryL a p with
    | none => none
    | some (e, f, q) => (parseL d m f q).map (e :: ·)
theorem parse_of (d : Bool) : ∀ (l : List EntL) (m i : Nat) (a : List UInt8), l.length ≤ m → (∀ e ∈ l, checkKey e.key = 0 ∧ e.value.length ≤ 512) → parseL d m a (leafBodyL i a l) = some l
  | [], m, i, a, _, _ => by cases m <;> simp [parseL, leafBodyL]
  | e :: l, 0, i, a, h, _ => by simp at h
  | e :: l, m + 1, i, a, h, hc => by
    have ih := parse_of d l m (i + 1) (fullL e.key) (by simpa using h) fun x hx => hc x (by simp [hx])
    have h1 := hc e (by simp)
    have h2 := leafEnt_len (leafN i a (fullL e.key)) (fullL e.key) e.value
    rw [show leafBodyL i a (e :: l) = leafEntL (leafN i a (fullL e.key)) (fullL e.key) e.value ++ leafBodyL (i + 1) (fullL e.key) l from rfl]
    unfold parseL
    rw [if_neg (by rw [List.length_append]; omega), entry_of i a _ e h1.1 h1.2]
    simp only [ih, Option.map_some]
def endN (p : List UInt8) : Nat := (p.getD (p.length - 2) 0).toNat + 256 * (p.getD (p.length - 1) 0).toNat
/-- the leaf of bytes: what stands there, if it makes just these bytes -/
def readLeafX (d : Bool) (m : Nat) (p : List UInt8) : Option (List EntL) :=
  if p.length < 2 ∨ p.length < 2 + 2 * endN p ∨ 16 < endN p then none
  else match parseL d m [] (p.take (p.length - 2 - 2 * endN p)) with
    | none => none
    | some l => if checkLeafL l = 0 ∧ leafBytesL l = p then some l else none
theorem readLeafX_iff (d : Bool) (m : Nat) (hm : 64 ≤ m) (p : List UInt8) (l : List EntL) : readLeafX d m p = some l ↔ checkLeafL l = 0 ∧ leafBytesL l = p := by
  constructor
  · intro h
    unfold readLeafX at h
    split at h
    · cases h
    · split at h
      · cases h
      · split at h
        · rename_i hc
          obtain rfl := Option.some.inj h
          exact hc
        · cases h
  · rintro ⟨h1, rfl⟩
    obtain ⟨hb1, hb2, hb3⟩ := checkLeaf_zero h1
    have hk : (startsL l).length ≤ 16 := by rw [starts_len]; omega
    have ht := twosL_len (startsL l)
    have hp := parse_of d l m 0 [] (by omega) hb2
    generalize hB : leafBodyL 0 [] l = B at *
    generalize hS : startsL l = S at *
    have eq : leafBytesL l = B ++ (twosL S ++ twoL S.length) := by unfold leafBytesL; rw [hB, hS]
    have hlen : (leafBytesL l).length = B.length + 2 * S.length + 2 := by rw [eq]; simp [ht, twoL]; omega
    have g1 : (leafBytesL l).getD ((leafBytesL l).length - 2) 0 = UInt8.ofNat S.length := by
      rw [hlen, eq, ← List.append_assoc, List.getD_eq_getElem?_getD, List.getElem?_append_right (by simp [ht])]
      have e0 : B.length + 2 * S.length + 2 - 2 - (B ++ twosL S).length = 0 := by simp [ht]
      rw [e0]
      rfl
    have g2 : (leafBytesL l).getD ((leafBytesL l).length - 1) 0 = UInt8.ofNat (S.length / 256) := by
      rw [hlen, eq, ← List.append_assoc, List.getD_eq_getElem?_getD, List.getElem?_append_right (by simp [ht])]
      have e0 : B.length + 2 * S.length + 2 - 1 - (B ++ twosL S).length = 1 := by simp [ht]
      rw [e0]
      rfl
    have hn : endN (leafBytesL l) = S.length := by
      unfold endN
      rw [g1, g2, UInt8.toNat_ofNat', UInt8.toNat_ofNat']
      omega
    have htk : (leafBytesL l).take ((leafBytesL l).length - 2 - 2 * S.length) = B := by
      rw [hlen, eq, show B.length + 2 * S.length + 2 - 2 - 2 * S.length = B.length by omega, List.take_left]
    unfold readLeafX
    rw [hn, if_neg (by rw [hlen]; omega), htk, hp]
    simp only [h1, true_and, if_true]
def readLeafL (p : List UInt8) : Option (List EntL) := readLeafX false 64 p
theorem readLeaf_iff (p : List UInt8) (l : List EntL) : readLeafL p = some l ↔ checkLeafL l = 0 ∧ leafBytesL l = p := readLeafX_iff false 64 (Nat.le_refl _) p l
theorem readLeaf_same (p : List UInt8) : readLeafX true 65 p = readLeafL p := by
  rcases h : readLeafL p with _ | l
  · rcases h2 : readLeafX true 65 p with _ | l
    · rfl
    · rw [(readLeaf_iff p l).2 ((readLeafX_iff true 65 (by omega) p l).1 h2)] at h
      cases h
  · exact (readLeafX_iff true 65 (by omega) p l).2 ((readLeaf_iff p l).1 h)
/-- a leaf's bytes, or the error's number -/
def leafBE (l : List EntL) : List UInt8 × Nat := if checkLeafL l = 0 then (leafBytesL l, 0) else ([], checkLeafL l)
end Go.Proofs.YtpffieogkfndaaaGreatDoor

namespace Go.Proofs.YtpffieogkfndaaaGreatDoor
set_option maxRecDepth 20000
set_option linter.unusedVariables false
set_option linter.unusedSimpArgs false
def checkSpanL (s : SpanL) : Nat := if 1 ≤ s.lo.length ∧ s.lo.length ≤ 64 ∧ s.hi.length ≤ 64 ∧ ltL s.lo s.hi = true ∧ 1 ≤ s.seq.toNat ∧ s.seq.toNat < 72057594037927936 then 0 else 4
theorem checkSpan_zero {s : SpanL} (h : checkSpanL s = 0) : 1 ≤ s.lo.length ∧ s.lo.length ≤ 64 ∧ s.hi.length ≤ 64 ∧ ltL s.lo s.hi = true ∧ 1 ≤ s.seq.toNat ∧ s.seq.toNat < 72057594037927936 := by
  unfold checkSpanL at h
  split at h
  · assumption
  · omega
def coversS (s : SpanL) (key : List UInt8) : Bool := !ltL key s.lo && ltL key s.hi
def covStep (key : List UInt8) (seq : Nat) (best : Nat) (s : SpanL) : Nat := if s.seq.toNat ≤ seq ∧ coversS s key = true then max best s.seq.toNat else best
def coverL (sp : List SpanL) (key : List UInt8) (seq : Nat) : Nat := sp.foldl (covStep key seq) 0
def checkTabL (l : List EntL) (sp : List SpanL) : Nat :=
  if 1000 < l.length ∨ 1000 < sp.length then 3 else if l.length + sp.length = 0 then 2 else if firstErr checkEntL l ≠ 0 then firstErr checkEntL l else if risesL l = true then firstErr checkSpanL sp else 10
theorem checkTab_zero {l : List EntL} {sp : List SpanL} (h : checkTabL l sp = 0) : l.length ≤ 1000 ∧ sp.length ≤ 1000 ∧ 0 < l.length + sp.length ∧ (∀ e ∈ l, checkKey e.key = 0 ∧ e.value.length ≤ 512) ∧ risesL l = true ∧ ∀ s ∈ sp, checkSpanL s = 0 := by
  unfold checkTabL at h
  split at h
  · omega
  · rename_i h1
    split at h
    · omega
    · rename_i h2
      split at h
      · rename_i h3; exact absurd h h3
      · rename_i h3
        split at h
        · rename_i h4
          refine ⟨by omega, by omega, by omega, fun e he => checkEnt_zero ((firstErr_zero checkEntL l).1 (by omega) e he), h4, (firstErr_zero checkSpanL sp).1 h⟩
        · omega
/-- the entries of leaf i -/
def chunkL (l : List EntL) (i : Nat) : List EntL := (l.drop (8 * i)).take 8
def lastKey (c : List EntL) : KeyL := ((c[c.length - 1]?).map (·.key)).getD noKey
def sealedL (l : List EntL) (i : Nat) : List UInt8 := closeL (leafBytesL (chunkL l i))
/-- of the first j leaves: their bytes, their lines of the index, their pages -/
def leavesN (l : List EntL) (j : Nat) : List UInt8 := (List.range j).flatMap (sealedL l)
def lineL (l : List EntL) (i : Nat) : List UInt8 := keyBytesL (lastKey (chunkL l i)) ++ numL (sealedL l i).length
def indexN (l : List EntL) (j : Nat) : List UInt8 := (List.range j).flatMap (lineL l)
structure PageL where
  last : KeyL
  lo : Nat
  hi : Nat
def pageL (l : List EntL) (i : Nat) : PageL := ⟨lastKey (chunkL l i), (leavesN l i).length, (leavesN l (i + 1)).length⟩
def pagesN (l : List EntL) (j : Nat) : List PageL := (List.range j).map (pageL l)
def leafCount (l : List EntL) : Nat := (l.length + 7) / 8
def rangeL (s : SpanL) : List UInt8 := textL s.lo ++ (textL s.hi ++ numL s.seq.toNat)
def rangesL (sp : List SpanL) : List UInt8 := sp.flatMap rangeL
def usersL (l : List EntL) : List (List UInt8) := l.map (·.key.user)
def partsL (l : List EntL) (sp : List SpanL) : List (List UInt8) := [leavesN l (leafCount l), closeL (indexN l (leafCount l)), closeL (buildL 10 (usersL l)), closeL (rangesL sp)]
def footL (ps : List (List UInt8)) : List UInt8 := closeL (ps.flatMap (fun p => le4 p.length) ++ [26, 177, 229])
def tabBytesL (l : List EntL) (sp : List SpanL) : List UInt8 := (partsL l sp).flatten ++ footL (partsL l sp)
def tabBE (l : List EntL) (sp : List SpanL) : List UInt8 × Nat := if checkTabL l sp = 0 then (tabBytesL l sp, 0) else ([], checkTabL l sp)
theorem leavesN_succ (l : List EntL) (j : Nat) : leavesN l (j + 1) = leavesN l j ++ sealedL l j := by simp [leavesN, List.range_succ]
theorem indexN_succ (l : List EntL) (j : Nat) : indexN l (j + 1) = indexN l j ++ lineL l j := by simp [indexN, List.range_succ]
theorem closeL_len (p : List UInt8) : (closeL p).length = p.length + 4 := by simp [closeL, le4]
theorem open_shut (p : List UInt8) : openL (closeL p) = (p, 0) := by
  unfold openL
  have h : (closeL p).take ((closeL p).length - 4) = p := by
    rw [closeL_len, Nat.add_sub_cancel]
    unfold closeL
    exact List.take_left
  rw [if_neg (by rw [closeL_len]; omega), h, if_pos (by simp)]
theorem open_inv {p q : List UInt8} (h : openL p = (q, 0)) : p = closeL q := by
  unfold openL at h
  split at h
  · simp at h
  · split at h
    · rename_i h2
      obtain ⟨rfl, -⟩ := Prod.mk.inj h
      exact (eq_of_beq h2).symm
    · simp at h
/-- a leaf of right entries is right -/
theorem rises_chunk (l : List EntL) (h : risesL l = true) (i : Nat) : risesL (chunkL l i) = true := by
  rw [risesL_iff] at h ⊢
  intro k hk
  unfold chunkL at hk ⊢
  simp only [List.length_take, List.length_drop] at hk
  simp only [List.getElem_take, List.getElem_drop]
  exact h (8 * i + k) (by omega)
theorem chunk_check {l : List EntL} (h1 : ∀ e ∈ l, checkKey e.key = 0 ∧ e.value.length ≤ 512) (h2 : risesL l = true) (i : Nat) : checkLeafL (chunkL l i) = 0 := by
  have hl : (chunkL l i).length ≤ 8 := by unfold chunkL; simp; omega
  have hf : firstErr checkEntL (chunkL l i) = 0 := (firstErr_zero _ _).2 fun e he => by
    obtain ⟨g1, g2⟩ := h1 e (List.mem_of_mem_drop (List.mem_of_mem_take he))
    unfold checkEntL
    rw [if_neg (by omega), if_neg (by omega)]
  unfold checkLeafL
  rw [if_neg (by omega), hf, if_neg (by omega), if_pos (rises_chunk l h2 i)]
theorem chunk_len (l : List EntL) (i : Nat) : (chunkL l i).length = min 8 (l.length - 8 * i) := by unfold chunkL; simp
theorem lastKey_mem {l : List EntL} {i : Nat} (h : i < leafCount l) : ∃ e ∈ l, e.key = lastKey (chunkL l i) := by
  have hl := chunk_len l i
  unfold leafCount at h
  have h0 : (chunkL l i).length - 1 < (chunkL l i).length := by omega
  refine ⟨(chunkL l i)[(chunkL l i).length - 1], List.mem_of_mem_drop (List.mem_of_mem_take (List.getElem_mem h0)), ?_⟩
  unfold lastKey
  rw [List.getElem?_eq_getElem h0]
  rfl
theorem chunks_all (l : List EntL) : (List.range (leafCount l)).flatMap (chunkL l) = l := by
  have : ∀ j, j ≤ leafCount l → (List.range j).flatMap (chunkL l) = l.take (8 * j) := by
    intro j
    induction j with
    | zero => intro _; simp
    | succ j ih =>
      intro hj
      rw [List.range_succ, List.flatMap_append, ih (by omega)]
      simp only [List.flatMap_cons, List.flatMap_nil, List.append_nil]
      unfold chunkL
      rw [show 8 * (j + 1) = 8 * j + 8 by omega, List.take_add]
  rw [this _ (Nat.le_refl _)]
  unfold leafCount
  rw [List.take_of_length_le (by omega)]
-- WHAT THE PARTS SAY
/-- the pages of an index -/
def parseP : Nat → Nat → List UInt8 → Option (List PageL)
  | 0, _, p => if p = [] then some [] else none
  | m + 1, at_, p => if p = [] then some [] else
      if (keyReadL p).2.2 ≠ 0 ∨ (takeL (keyReadL p).2.1).2.2 ≠ 0 ∨ 1048576 < (takeL (keyReadL p).2.1).1 then none
      else (parseP m (at_ + (takeL (keyReadL p).2.1).1) (takeL (keyReadL p).2.1).2.1).map (⟨(keyReadL p).1, at_, at_ + (takeL (keyReadL p).2.1).1⟩ :: ·)
def pagesL (p : List UInt8) : Option (List PageL) := parseP p.length 0 p
/-- the spans of a part -/
def parseS : Nat → List UInt8 → Option (List SpanL)
  | 0, p => if p = [] then some [] else none
  | m + 1, p => if p = [] then some [] else
      if (takeTextL p 64).2.2 ≠ 0 ∨ (takeTextL (takeTextL p 64).2.1 64).2.2 ≠ 0 ∨ (takeL (takeTextL (takeTextL p 64).2.1 64).2.1).2.2 ≠ 0 then none
      else (parseS m (takeL (takeTextL (takeTextL p 64).2.1 64).2.1).2.1).map (⟨(takeTextL p 64).1, (takeTextL (takeTextL p 64).2.1 64).1, UInt64.ofNat (takeL (takeTextL (takeTextL p 64).2.1 64).2.1).1⟩ :: ·)
def spansL (p : List UInt8) : Option (List SpanL) := parseS p.length p
/-- the entries of one leaf, of some leaves -/
def leafAtL (p : List UInt8) (x : PageL) : Option (List EntL) :=
  if p.length < x.hi then none else if (openL ((p.drop x.lo).take (x.hi - x.lo))).2 ≠ 0 then none else readLeafL (openL ((p.drop x.lo).take (x.hi - x.lo))).1
def entriesL (p : List UInt8) : List PageL → Option (List EntL)
  | [] => some []
  | x :: xs => match leafAtL p x with
    | none => none
    | some l => (entriesL p xs).map (l ++ ·)
/-- a section's length in the foot -/
def secN (e : List UInt8) (i : Nat) : Nat := (e.getD (4 * i) 0).toNat + 256 * (e.getD (4 * i + 1) 0).toNat + 65536 * (e.getD (4 * i + 2) 0).toNat + 16777216 * (e.getD (4 * i + 3) 0).toNat
def secAt (e : List UInt8) (i : Nat) : Nat := ((List.range i).map (secN e)).sum
def sectionsL (p : List UInt8) : Option (List (List UInt8)) :=
  if p.length < 23 then none else
  if (openL (p.drop (p.length - 23))).2 ≠ 0 then none else
  if secAt (openL (p.drop (p.length - 23))).1 4 = p.length - 23 then
    some ((List.range 4).map fun i => (p.drop (secAt (openL (p.drop (p.length - 23))).1 i)).take (secN (openL (p.drop (p.length - 23))).1 i)) else none
theorem secAt_succ (e : List UInt8) (i : Nat) : secAt e (i + 1) = secAt e i + secN e i := by simp [secAt, List.range_succ]
theorem le4_val (n : Nat) (h : n < 4294967296) : (UInt8.ofNat n).toNat + 256 * (UInt8.ofNat (n / 256)).toNat + 65536 * (UInt8.ofNat (n / 65536)).toNat + 16777216 * (UInt8.ofNat (n / 16777216)).toNat = n := by
  simp only [UInt8.toNat_ofNat']
  omega
theorem footL_len (a b c d : List UInt8) : (footL [a, b, c, d]).length = 23 := by simp [footL, closeL_len, le4]
theorem secN_foot (a b c d : List UInt8) (ha : a.length < 4294967296) (hb : b.length < 4294967296) (hc : c.length < 4294967296) (hd : d.length < 4294967296) :
    secN (([a, b, c, d].flatMap (fun p => le4 p.length)) ++ [26, 177, 229]) 0 = a.length ∧ secN (([a, b, c, d].flatMap (fun p => le4 p.length)) ++ [26, 177, 229]) 1 = b.length ∧
    secN (([a, b, c, d].flatMap (fun p => le4 p.length)) ++ [26, 177, 229]) 2 = c.length ∧ secN (([a, b, c, d].flatMap (fun p => le4 p.length)) ++ [26, 177, 229]) 3 = d.length := by
  refine ⟨le4_val _ ha, le4_val _ hb, le4_val _ hc, le4_val _ hd⟩
theorem sections_of (a b c d : List UInt8) (ha : a.length < 4294967296) (hb : b.length < 4294967296) (hc : c.length < 4294967296) (hd : d.length < 4294967296) :
    sectionsL ([a, b, c, d].flatten ++ footL [a, b, c, d]) = some [a, b, c, d] := by
  have hf := footL_len a b c d
  have hl : ([a, b, c, d].flatten ++ footL [a, b, c, d]).length - 23 = [a, b, c, d].flatten.length := by rw [List.length_append, hf]; omega
  have hdr : ([a, b, c, d].flatten ++ footL [a, b, c, d]).drop (([a, b, c, d].flatten ++ footL [a, b, c, d]).length - 23) = footL [a, b, c, d] := by rw [hl]; exact List.drop_left
  have ho : openL (([a, b, c, d].flatten ++ footL [a, b, c, d]).drop (([a, b, c, d].flatten ++ footL [a, b, c, d]).length - 23)) = (([a, b, c, d].flatMap (fun p => le4 p.length)) ++ [26, 177, 229], 0) := by
    rw [hdr]
    exact open_shut _
  obtain ⟨s0, s1, s2, s3⟩ := secN_foot a b c d ha hb hc hd
  unfold sectionsL
  rw [if_neg (by rw [List.length_append, hf]; omega), ho, hl]
  simp only [ne_eq, not_true_eq_false, if_false]
  generalize ([a, b, c, d].flatMap (fun p => le4 p.length)) ++ [26, 177, 229] = E at *
  have t0 : secAt E 0 = 0 := rfl
  have t1 : secAt E 1 = a.length := by rw [secAt_succ, t0, s0]; omega
  have t2 : secAt E 2 = a.length + b.length := by rw [secAt_succ, t1, s1]
  have t3 : secAt E 3 = a.length + b.length + c.length := by rw [secAt_succ, t2, s2]
  have t4 : secAt E 4 = a.length + b.length + c.length + d.length := by rw [secAt_succ, t3, s3]
  have hall : [a, b, c, d].flatten.length = a.length + b.length + c.length + d.length := by simp; omega
  rw [if_pos (by rw [hall]; exact t4)]
  have hF : [a, b, c, d].flatten = a ++ (b ++ (c ++ d)) := by simp
  rw [show List.range 4 = [0, 1, 2, 3] from rfl]
  simp only [List.map_cons, List.map_nil, t0, t1, t2, t3, s0, s1, s2, s3, hF, List.append_assoc]
  congr 1
  refine List.cons_eq_cons.2 ⟨?_, List.cons_eq_cons.2 ⟨?_, List.cons_eq_cons.2 ⟨?_, List.cons_eq_cons.2 ⟨?_, rfl⟩⟩⟩⟩
  · rw [List.drop_zero, List.take_left]
  · rw [List.drop_left, List.take_left]
  · rw [← List.append_assoc a b, List.drop_left' (by simp), List.take_left]
  · rw [← List.append_assoc b c, ← List.append_assoc a (b ++ c), List.drop_left' (by simp; omega), List.take_left]
theorem sealed_len (l : List EntL) (h : ∀ e ∈ l, checkKey e.key = 0 ∧ e.value.length ≤ 512) (i : Nat) : (sealedL l i).length ≤ 5000 := by
  have h1 := leafBody_len (chunkL l i) 0 [] fun e he => h e (List.mem_of_mem_drop (List.mem_of_mem_take he))
  have h2 := chunk_len l i
  unfold sealedL
  rw [closeL_len]
  unfold leafBytesL
  simp only [List.length_append, twosL_len, starts_len]
  have h3 : (twoL ((chunkL l i).length + 3) ).length = 2 := rfl
  have : (twoL (((chunkL l i).length + 3) / 4)).length = 2 := rfl
  omega
theorem parseP_of {l : List EntL} (h1 : ∀ e ∈ l, checkKey e.key = 0 ∧ e.value.length ≤ 512) : ∀ (d j m : Nat), j + d = leafCount l → d ≤ m →
    parseP m (leavesN l j).length ((List.range' j d).flatMap (lineL l)) = some ((List.range' j d).map (pageL l))
  | 0, j, m, _, _ => by cases m <;> simp [parseP]
  | d + 1, j, 0, _, h => by omega
  | d + 1, j, m + 1, hj, hm => by
    have ih := parseP_of h1 d (j + 1) m (by omega) (by omega)
    obtain ⟨e, he, hk⟩ := lastKey_mem (l := l) (i := j) (by omega)
    have hck : checkKey (lastKey (chunkL l j)) = 0 := by rw [← hk]; exact (h1 e he).1
    rw [List.range'_succ, List.flatMap_cons, List.map_cons]
    unfold parseP
    have hs := sealed_len l h1 j
    have e1 : keyReadL (lineL l j ++ (List.range' (j + 1) d).flatMap (lineL l)) = (lastKey (chunkL l j), numL (sealedL l j).length ++ (List.range' (j + 1) d).flatMap (lineL l), 0) := by
      unfold lineL
      rw [List.append_assoc]
      exact keyRead_bytes _ hck _
    have e2 := take_num (sealedL l j).length (by omega) ((List.range' (j + 1) d).flatMap (lineL l))
    have hne : lineL l j ++ (List.range' (j + 1) d).flatMap (lineL l) ≠ [] := by
      intro q
      have := congrArg List.length q
      simp only [List.length_append, List.length_nil] at this
      have h3 := num_len (sealedL l j).length
      unfold lineL at this
      simp only [List.length_append] at this
      omega
    rw [if_neg hne, e1]
    simp only [e2]
    rw [if_neg (by omega)]
    have e3 : (leavesN l j).length + (sealedL l j).length = (leavesN l (j + 1)).length := by rw [leavesN_succ, List.length_append]
    rw [e3, ih]
    simp [pageL]
theorem line_pos (l : List EntL) (i : Nat) : 1 ≤ (lineL l i).length := by
  have := num_len (sealedL l i).length
  unfold lineL
  rw [List.length_append]
  omega
theorem flat_ge {f : Nat → List UInt8} (h : ∀ i, 1 ≤ (f i).length) : ∀ (d j : Nat), d ≤ ((List.range' j d).flatMap f).length
  | 0, _ => by simp
  | d + 1, j => by
    have := flat_ge h d (j + 1)
    rw [List.range'_succ, List.flatMap_cons, List.length_append]
    have := h j
    omega
theorem pages_of {l : List EntL} (h1 : ∀ e ∈ l, checkKey e.key = 0 ∧ e.value.length ≤ 512) : pagesL (indexN l (leafCount l)) = some (pagesN l (leafCount l)) := by
  have h := parseP_of h1 (leafCount l) 0 (indexN l (leafCount l)).length (by omega) (by
    have := flat_ge (line_pos l) (leafCount l) 0
    unfold indexN
    rw [List.range_eq_range']
    exact this)
  unfold pagesL
  unfold indexN pagesN at *
  rw [List.range_eq_range']
  simpa [leavesN, List.range_eq_range'] using h
theorem text_span (t : List UInt8) (h : t.length ≤ 64) (rest : List UInt8) : takeTextL (textL t ++ rest) 64 = (t, rest, 0) := by
  unfold takeTextL textL
  rw [List.append_assoc, take_num t.length (by omega)]
  simp only [ne_eq, not_true_eq_false, if_false]
  rw [if_neg (by omega), if_neg (by simp), List.take_left, List.drop_left]
theorem parseS_of : ∀ (sp : List SpanL) (m : Nat), sp.length ≤ m → (∀ s ∈ sp, checkSpanL s = 0) → parseS m (rangesL sp) = some sp
  | [], m, _, _ => by cases m <;> simp [parseS, rangesL]
  | s :: sp, 0, h, _ => by simp at h
  | s :: sp, m + 1, h, hc => by
    have ih := parseS_of sp m (by simpa using h) fun x hx => hc x (List.mem_cons_of_mem _ hx)
    obtain ⟨g1, g2, g3, g4, g5, g6⟩ := checkSpan_zero (hc s (List.mem_cons_self ..))
    unfold parseS
    have e0 : rangesL (s :: sp) = textL s.lo ++ (textL s.hi ++ (numL s.seq.toNat ++ rangesL sp)) := by simp [rangesL, rangeL]
    have hne : rangesL (s :: sp) ≠ [] := by
      intro q
      have := congrArg List.length q
      rw [e0] at this
      have h3 := num_len s.seq.toNat
      simp only [List.length_append, List.length_nil] at this
      omega
    rw [if_neg hne, e0, text_span _ g2]
    simp only [text_span _ g3, take_num s.seq.toNat (by omega)]
    rw [if_neg (by omega), ih]
    have : UInt64.ofNat s.seq.toNat = s.seq := UInt64.ofNat_toNat
    simp [this]
theorem spans_of (sp : List SpanL) (h : ∀ s ∈ sp, checkSpanL s = 0) : spansL (rangesL sp) = some sp := by
  refine parseS_of sp _ ?_ h
  clear h
  induction sp with
  | nil => simp
  | cons s sp ih =>
    have e0 : rangesL (s :: sp) = rangeL s ++ rangesL sp := by simp [rangesL]
    have h3 := num_len s.seq.toNat
    rw [e0]
    unfold rangeL
    simp only [List.length_append, List.length_cons]
    omega
/-- leaf i of a table's bytes -/
theorem leafAt_of {l : List EntL} (h1 : ∀ e ∈ l, checkKey e.key = 0 ∧ e.value.length ≤ 512) (h2 : risesL l = true) (rest : List UInt8) (i : Nat) (hi : i < leafCount l) : leafAtL (leavesN l (leafCount l) ++ rest) (pageL l i) = some (chunkL l i) := by
  have hle : ∀ d, (leavesN l (i + 1)).length ≤ (leavesN l (i + 1 + d)).length := by
    intro d
    induction d with
    | zero => exact Nat.le_refl _
    | succ d ih => rw [← Nat.add_assoc, leavesN_succ l (i + 1 + d), List.length_append]; omega
  have hpre : ∀ d, leavesN l (i + 1) <+: leavesN l (i + 1 + d) := by
    intro d
    induction d with
    | zero => exact List.prefix_rfl
    | succ d ih => rw [← Nat.add_assoc, leavesN_succ l (i + 1 + d)]; exact ih.trans (List.prefix_append _ _)
  have hd : i + 1 + (leafCount l - (i + 1)) = leafCount l := by omega
  have h3 := hle (leafCount l - (i + 1))
  obtain ⟨t, ht⟩ := hpre (leafCount l - (i + 1))
  rw [hd] at h3 ht
  unfold leafAtL
  have e1 : ((leavesN l (leafCount l) ++ rest).drop (pageL l i).lo).take ((pageL l i).hi - (pageL l i).lo) = sealedL l i := by
    show ((leavesN l (leafCount l) ++ rest).drop (leavesN l i).length).take ((leavesN l (i + 1)).length - (leavesN l i).length) = sealedL l i
    rw [← ht, leavesN_succ, List.append_assoc, List.append_assoc, List.drop_left, List.length_append, Nat.add_sub_cancel_left, List.take_left]
  rw [if_neg (by show ¬ (leavesN l (leafCount l) ++ rest).length < (leavesN l (i + 1)).length; rw [List.length_append]; omega), e1]
  unfold sealedL
  rw [open_shut]
  simp only [ne_eq, not_true_eq_false, if_false]
  exact (readLeaf_iff _ _).2 ⟨chunk_check h1 h2 i, rfl⟩
theorem entries_of {l : List EntL} (h1 : ∀ e ∈ l, checkKey e.key = 0 ∧ e.value.length ≤ 512) (h2 : risesL l = true) (rest : List UInt8) : entriesL (leavesN l (leafCount l) ++ rest) (pagesN l (leafCount l)) = some l := by
  have : ∀ (d j : Nat), j + d = leafCount l → entriesL (leavesN l (leafCount l) ++ rest) ((List.range' j d).map (pageL l)) = some ((List.range' j d).flatMap (chunkL l)) := by
    intro d
    induction d with
    | zero => intro j _; simp [entriesL]
    | succ d ih =>
      intro j hj
      rw [List.range'_succ, List.map_cons, List.flatMap_cons]
      unfold entriesL
      rw [leafAt_of h1 h2 rest j (by omega)]
      simp only [ih (j + 1) (by omega), Option.map_some]
  have h := this (leafCount l) 0 (by omega)
  rw [← List.range_eq_range', chunks_all] at h
  exact h
theorem build_len (keys : List (List UInt8)) : (buildL 10 keys).length ≤ 2 * keys.length + 20 := by
  unfold buildL bytesN sizeN
  have : takeN 10 = 10 := by decide
  simp only [List.length_append, List.length_map, List.length_range, List.length_cons, List.length_nil, this]
  omega
theorem flat_len {α : Type} (f : α → List UInt8) (m : Nat) : ∀ l : List α, (∀ x ∈ l, (f x).length ≤ m) → (l.flatMap f).length ≤ m * l.length
  | [], _ => by simp
  | x :: l, h => by
    have := flat_len f m l fun y hy => h y (List.mem_cons_of_mem _ hy)
    have := h x (List.mem_cons_self ..)
    rw [List.flatMap_cons, List.length_append, List.length_cons, Nat.mul_add]
    omega
theorem leaves_len {l : List EntL} (h1 : ∀ e ∈ l, checkKey e.key = 0 ∧ e.value.length ≤ 512) (j : Nat) : (leavesN l j).length ≤ 5000 * j := by
  have := flat_len (sealedL l) 5000 (List.range j) fun i _ => sealed_len l h1 i
  rw [List.length_range] at this
  exact this
theorem index_len {l : List EntL} (h1 : ∀ e ∈ l, checkKey e.key = 0 ∧ e.value.length ≤ 512) (j : Nat) (hj : j ≤ leafCount l) : (indexN l j).length ≤ 90 * j := by
  have := flat_len (lineL l) 90 (List.range j) fun i hi => by
    obtain ⟨e, he, hk⟩ := lastKey_mem (l := l) (i := i) (by have := List.mem_range.1 hi; omega)
    have h2 := checkKey_bounds (h1 e he).1
    rw [hk] at h2
    have h3 := num_len (sealedL l i).length
    have h4 := num_len (lastKey (chunkL l i)).user.length
    unfold lineL keyBytesL textL
    simp only [List.length_append, le8_len]
    omega
  rw [List.length_range] at this
  exact this
theorem ranges_len {sp : List SpanL} (h : ∀ s ∈ sp, checkSpanL s = 0) : (rangesL sp).length ≤ 160 * sp.length :=
  flat_len rangeL 160 sp fun s hs => by
    have h2 := checkSpan_zero (h s hs)
    have h3 := num_len s.lo.length
    have h4 := num_len s.hi.length
    have h5 := num_len s.seq.toNat
    unfold rangeL textL
    simp only [List.length_append]
    omega
/-- WHAT A TABLE's BYTES SAY -/
theorem tab_fwd {l : List EntL} {sp : List SpanL} {p : List UInt8} (hc : checkTabL l sp = 0) (hp : tabBytesL l sp = p) :
    ∃ a b c d, sectionsL p = some [a, b, c, d] ∧ openL b = (indexN l (leafCount l), 0) ∧ openL c = (buildL 10 (usersL l), 0) ∧ openL d = (rangesL sp, 0) ∧
      pagesL (indexN l (leafCount l)) = some (pagesN l (leafCount l)) ∧ spansL (rangesL sp) = some sp ∧ entriesL p (pagesN l (leafCount l)) = some l := by
  obtain ⟨c1, c2, c3, c4, c5, c6⟩ := checkTab_zero hc
  have hn : leafCount l ≤ 126 := by unfold leafCount; omega
  have b1 := leaves_len c4 (leafCount l)
  have b2 := index_len c4 (leafCount l) (Nat.le_refl _)
  have b3 := build_len (usersL l)
  have b4 := ranges_len c6
  have b5 : (usersL l).length = l.length := by simp [usersL]
  refine ⟨leavesN l (leafCount l), closeL (indexN l (leafCount l)), closeL (buildL 10 (usersL l)), closeL (rangesL sp), ?_, open_shut _, open_shut _, open_shut _, pages_of c4, spans_of sp c6, ?_⟩
  · rw [← hp]
    exact sections_of _ _ _ _ (by omega) (by rw [closeL_len]; omega) (by rw [closeL_len]; omega) (by rw [closeL_len]; omega)
  · rw [← hp]
    have : tabBytesL l sp = leavesN l (leafCount l) ++ ([closeL (indexN l (leafCount l)), closeL (buildL 10 (usersL l)), closeL (rangesL sp)].flatten ++ footL (partsL l sp)) := by
      unfold tabBytesL partsL
      rw [List.flatten_cons, List.append_assoc]
    rw [this]
    exact entries_of c4 c5 _
/-- two tables with the same bytes are one -/
theorem tab_one {l l' : List EntL} {sp sp' : List SpanL} (hc : checkTabL l sp = 0) (hc' : checkTabL l' sp' = 0) (h : tabBytesL l' sp' = tabBytesL l sp) : l' = l ∧ sp' = sp := by
  obtain ⟨a, b, c, d, h1, h2, h3, h4, h5, h6, h7⟩ := tab_fwd hc rfl
  obtain ⟨a', b', c', d', g1, g2, g3, g4, g5, g6, g7⟩ := tab_fwd hc' h
  rw [h1] at g1
  injection g1 with g1
  injection g1 with e1 g1
  injection g1 with e2 g1
  injection g1 with e3 g1
  injection g1 with e4 _
  subst e1 e2 e3 e4
  rw [h2] at g2
  rw [h4] at g4
  have i2 := (Prod.mk.inj g2).1
  have i4 := (Prod.mk.inj g4).1
  rw [← i2, h5] at g5
  rw [← i4, h6] at g6
  have j5 := Option.some.inj g5
  rw [← j5, h7] at g7
  exact ⟨(Option.some.inj g7).symm, (Option.some.inj g6).symm⟩
end Go.Proofs.YtpffieogkfndaaaGreatDoor
