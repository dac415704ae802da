/-
  KeyWalk, KeyRef, RowsStep, BatchParts, NotePlain, RowsY, RowsZ, ReelPieceL, ReelChain, SealRef2, SealAwake, Frame in one text. No condition but sizes.
-/
import Derived.Test.YtpjinmiedanebaaDoorJReelPlain
import Derived.Test.YtpjinmiedanebaaDoorJOpen
import Derived.StillTailTactics
import Derived.Deep.Light
import Derived.Test.YtpjinmiedanebaaDoorJRecs
import Derived.Test.YtpjinmiedanebaaDoorJRowsL
import Derived.Test.YtpjinmiedanebaaDoorJReelWalk
import Derived.Test.YtpjinmiedanebaaDoorAtomWalk
import Derived.Test.YtpjinmiedanebaaDoorSealRef
import Derived.Lib.SlBytesConst
import Derived.Test.YtpjinmiedanebaaDoorCards
import Derived.Test.YtpjinmiedanebaaDoorTie
import Derived.WalkKit
import Derived.ProofKit
import Derived.OpenShut
import Derived.Deep.DeepHandedRow
import Derived.Deep.DeepWitnessRowRef
import Derived.Lib.LaidTab
namespace Go.Proofs.YtpjinmiedanebaaDoor
open Go.RowKit
theorem below_drew {B : Nat} {w w' : World} (h : Below B w w') : Below B w w'.drew := ⟨h.os, h.tape, h.output, h.size, h.block⟩
set_option maxRecDepth 20000

/-- three numbers in a row: the first that is no nought -/
def orL (x y z : Int) : Int := if x ≠ 0 then x else if y ≠ 0 then y else z
theorem cmp_bytes (w : World) (A : Option Addr) (n c : Nat) (l : List UInt8) (h : Sl w 1 A n c (bc l)) (A2 : Option Addr) (n2 c2 : Nat) (m : List UInt8) (h2 : Sl w 1 A2 n2 c2 (bc m)) :
    Calls Tryd.prog 82 #[.slice A n c, .slice A2 n2 c2] w fun e w' => e = .returned (.int .i64 (Lib.compareBytes l m)) ∧ w = w' := by
  have hcall : (callFunc 83 #[.slice A n c, .slice A2 n2 c2]).run Tryd.prog w = .ok (.value (.int .i64 (Lib.compareBytes l m))) w := by
    rw [run_callFunc_extern Tryd.func83 (by kernel_rfl) (by kernel_rfl) (by kernel_rfl) (e := Extern.BytealgCompare.compare) (by kernel_rfl), run_cmp w A n c l h A2 n2 c2 m h2]
    rfl
  generalize Lib.compareBytes l m = z at *
  go_enter Tryd.func82, Tryd.ntmps82
  go_wp2
  go_ret
  exact ⟨rfl, rfl⟩
theorem orL_key (a b : KeyL) : orL (Lib.compareBytes a.user b.user) (cmpN b.seq.toNat a.seq.toNat) (cmpN b.kind.toNat a.kind.toNat) = cmpKey a b := rfl
end Go.Proofs.YtpjinmiedanebaaDoor

namespace Go.Proofs.YtpjinmiedanebaaDoor
open Go.RowKit
set_option maxRecDepth 20000

theorem beq_cast (a b : Nat) : ((a : Int) == (b : Int)) = (a == b) := by
  rw [Bool.eq_iff_iff, beq_iff_eq, beq_iff_eq]
  omega
theorem bytesLess_eq : ∀ l m : List UInt8, Op.bytesLess l m = ltL l m
  | [], [] => rfl
  | [], _ :: _ => rfl
  | _ :: _, [] => rfl
  | a :: l, b :: m => by
    have ih := bytesLess_eq l m
    rw [Bool.eq_iff_iff] at ih ⊢
    unfold ltL at *
    rw [decide_eq_true_eq] at ih ⊢
    simp only [Op.bytesLess, Lib.compareBytes, Bool.or_eq_true, decide_eq_true_eq, Bool.and_eq_true, beq_iff_eq]
    by_cases h1 : a < b
    · simp [h1]
    · rw [if_neg h1]
      by_cases h2 : b < a
      · rw [if_pos h2]
        have : a ≠ b := fun e => by subst e; exact absurd h2 (by simp)
        simp [h1, this]
      · rw [if_neg h2]
        have : a = b := UInt8.toNat_inj.1 (by rw [UInt8.lt_iff_toNat_lt] at h1 h2; omega)
        subst this
        simp [ih]
set_option maxHeartbeats 400000 in
theorem rless_any (w : World) (A1 : Option Addr) (n1 c1 : Nat) (l1 : List UInt8) (h1 : Sl w 1 A1 n1 c1 (bc l1)) (A2 : Option Addr) (n2 c2 : Nat) (l2 : List UInt8) (h2 : Sl w 1 A2 n2 c2 (bc l2)) :
    Calls Tryd.prog 77 #[.slice A1 n1 c1, .slice A2 n2 c2] w fun e w' => e = .returned (.bool (ltL l1 l2)) ∧ w = w' := by
  obtain ⟨s1, e1, r1⟩ := run_conv w A1 n1 c1 l1 h1
  obtain ⟨s2, e2, r2⟩ := run_conv w A2 n2 c2 l2 h2
  have E1 := Lib.hid e1
  have E2 := Lib.hid e2
  clear e1 e2 h1 h2
  go_enter Tryd.func77, Tryd.ntmps77
  go_wp2
  go_ret
  refine ⟨ret_bool ?_, rfl⟩
  rw [E1.out, E2.out, bytesLess_eq]
theorem rless_is (w : World) (A1 : Option Addr) (n1 c1 : Nat) (l1 : List UInt8) (h1 : Sl w 1 A1 n1 c1 (bc l1)) (A2 : Option Addr) (n2 c2 : Nat) (l2 : List UInt8) (h2 : Sl w 1 A2 n2 c2 (bc l2)) (b : Bool) (hb : Hid (ltL l1 l2 = b)) :
    Calls Tryd.prog 77 #[.slice A1 n1 c1, .slice A2 n2 c2] w fun e w' => e = .returned (.bool b) ∧ w = w' := by
  rw [← hb.out]
  exact rless_any w A1 n1 c1 l1 h1 A2 n2 c2 l2 h2
/-- a version that a call gives back, its key in memory of its own -/
def GotKey (w : World) (k : KeyL) (e : Ending) (w' : World) : Prop :=
  ∃ (A : Option Addr) (n c : Nat), e = .returned (.agg #[.slice A n c, .int .u64 (k.seq.toNat : Int), .int .u8 (k.kind.toNat : Int)]) ∧ OwnB w' w.heap.size A n c k.user ∧ Below w.heap.size w w'
end Go.Proofs.YtpjinmiedanebaaDoor

namespace Go.Proofs.YtpjinmiedanebaaDoor
open Go.RowKit
set_option maxRecDepth 20000
theorem step_appR {α : Type} [Rep α] {ops : Array Oper} {o : Oper} {a : Act} {w : World} {K : Act → World → Prop} {Q : Exit → Act → World → Prop} {E : Prop} (hgd : o.guard = none) (s x : Operand) (t : TypeId)
    (ho : o.op = .call { callee := .builtin .append, args := #[s, x], argTypes := #[t, t] })
    (B : Nat) (e : TypeId) (z : Value) (bytes : Nat) (ht : Tryd.prog.underlying t = some (.slice e)) (hi : (Tryd.prog.info? e).map (fun i => (i.zero, i.size, i.bytes)) = some (some z, Rep.size α, bytes))
    (hzs : z.cells.size = Rep.size α)
    (A : Option Addr) (n c : Nat) (ls : List α) (hsv : a.eval s = .slice A n c) (hown : OwnR w B e A n c ls)
    (p : Nat → Prop) (A2 : Option Addr) (m c2 : Nat) (ms : List α) (hx : a.eval x = .slice A2 m c2) (hs : ∃ xs, Sl w (Rep.size α) A2 m c2 xs ∧ RowC w p xs ms) (hp : ∀ b, b < w.heap.size → p b → b < B ∨ NotTy w e b)
    (h63 : n + m ≤ maxLen) (hbytes : (n + m) * bytes ≤ 140737488355328) (hB : B ≤ w.heap.size)
    (h : ∀ A' c' w', OwnR w' B e A' (n + m) c' (ls ++ ms) → w.grownBy w' (blk A c) → (blk A' c' = blk A c ∨ blk A' c' = some w.heap.size) → K (a.put o.dst (.slice A' (n + m) c')) w') :
    if Region.wanted o (yielded ops a.tmps) = true then Oper.wp Tryd.prog o a w K Q else E := by
  have hw : Region.wanted o (yielded ops a.tmps) = true := by simp [Region.wanted, hgd]
  rw [if_pos hw]
  obtain ⟨i, hi1, hz, hs1, hb1⟩ := info_parts hi
  obtain ⟨xs, hO, hR⟩ := hown
  obtain ⟨ys, hS, hR2⟩ := hs
  obtain ⟨A', c', w', hrun, h2, h3, h4⟩ := run_append_own2 (P := Tryd.prog) w B t o.type e i _ (Rep.size α) bytes ht hi1 hz hs1 hb1 hzs A n c xs hO A2 m c2 ys hS hR2.one h63 hbytes hB
  unfold Oper.wp execOp
  simp only [ho, resolve, invoke, builtin, Sem.run_bind, Sem.run_pure, Result.andThen_ok, List.map_toArray, List.map_cons, List.map_nil, hsv, hx, hrun]
  exact h A' c' w' ⟨_, h2, (hR.move (grown_apart hO h3)).append (hR2.move fun b hl hpb => grown_apart hO h3 b hl (hp b hl hpb))⟩ h3 h4
end Go.Proofs.YtpjinmiedanebaaDoor

namespace Go.Proofs.YtpjinmiedanebaaDoor
open Go.RowKit
set_option maxRecDepth 20000
def opsBE (l : List OpL) : List UInt8 × Nat := if checkOpsL l = 0 then (opsBytesL l, 0) else ([], checkOpsL l)
def partsL (N : Nat) (ls : List OpL) : List (List UInt8) := numL N :: (ls.map fun o => [numL o.kind.toNat, textL o.key, textL o.value]).flatten
theorem partsL_snoc (N : Nat) (ls : List OpL) (o : OpL) : partsL N (ls ++ [o]) = partsL N ls ++ [numL o.kind.toNat, textL o.key, textL o.value] := by simp [partsL]
theorem partsL_len (N : Nat) : ∀ ls : List OpL, (partsL N ls).length = 1 + 3 * ls.length
  | [] => rfl
  | o :: ls => by
    have ih := partsL_len N ls
    unfold partsL at ih ⊢
    simp only [List.length_cons, List.map_cons, List.flatten_cons, List.length_append, List.length_nil] at ih ⊢
    omega
theorem partsL_flat (N : Nat) (ls : List OpL) : (partsL N ls).flatten = numL N ++ (ls.map opBytesL).flatten := by
  unfold partsL
  rw [List.flatten_cons]
  congr 1
  induction ls with
  | nil => rfl
  | cons o ls ih =>
    simp only [List.map_cons, List.flatten_cons, List.cons_append, List.nil_append, ih, opBytesL, List.append_assoc]
theorem numL_le (n : Nat) : (numL n).length ≤ 9 := (num_len n).2
theorem textL_le (t : List UInt8) : (textL t).length ≤ t.length + 9 := by
  unfold textL
  rw [List.length_append]
  have := numL_le t.length
  omega
theorem opFlat_le : ∀ ls : List OpL, (∀ o ∈ ls, o.key.length ≤ 64 ∧ o.value.length ≤ 512 ∧ o.kind.toNat ≤ 3) → (ls.map opBytesL).flatten.length ≤ 700 * ls.length
  | [], _ => by simp
  | o :: ls, h => by
    have ih := opFlat_le ls (fun x hx => h x (by simp [hx]))
    have ho := h o (by simp)
    have h1 := numL_le o.kind.toNat
    have h2 := textL_le o.key
    have h3 := textL_le o.value
    simp only [List.map_cons, List.flatten_cons, List.length_append, opBytesL, List.length_cons]
    omega
end Go.Proofs.YtpjinmiedanebaaDoor

namespace Go.Proofs.YtpjinmiedanebaaDoor
set_option maxRecDepth 20000
open Go.RowKit

/-- may it be noted? -/
def formL (n : NoteL) : Bool :=
  if checkOpsL n.ops ≠ 0 ∨ 72057594037927936 ≤ n.seq.toNat ∨ 32 < n.name.length then false
  else if n.kind.toNat = 1 then decide (n.seq.toNat ≠ 0 ∧ n.name.length = 0)
  else if n.kind.toNat = 2 then decide (n.seq.toNat = 0 ∧ n.name.length ≠ 0)
  else if n.kind.toNat = 3 then decide (n.seq.toNat ≠ 0 ∧ n.name.length ≠ 0 ∧ n.ops.length = 0)
  else if n.kind.toNat = 4 then decide (n.seq.toNat = 0 ∧ n.name.length ≠ 0 ∧ n.ops.length = 0)
  else false
def noteBytesL (n : NoteL) : List UInt8 := numL n.kind.toNat ++ (numL n.seq.toNat ++ (textL n.name ++ opsBytesL n.ops))
theorem form_bounds {n : NoteL} (h : formL n = true) : checkOpsL n.ops = 0 ∧ n.seq.toNat < 72057594037927936 ∧ n.name.length ≤ 32 ∧ 1 ≤ n.kind.toNat ∧ n.kind.toNat ≤ 4 := by
  unfold formL at h
  split at h
  · cases h
  · rename_i h1
    refine ⟨by omega, by omega, by omega, ?_⟩
    repeat' split at h
    all_goals first | omega | cases h
/-- what notes' bytes say: kind, number, name, what is behind -/
def notePartsL (p : List UInt8) : Option (Nat × Nat × List UInt8 × List UInt8) :=
  let a := takeL p
  let b := takeL a.2.1
  let c := takeTextL b.2.1 32
  if a.2.2 = 0 ∧ b.2.2 = 0 ∧ c.2.2 = 0 then some (a.1, b.1, c.1, c.2.1) else none
/-- the note of bytes -/
def readNoteL (p : List UInt8) : Option NoteL :=
  match notePartsL p with
  | none => none
  | some (k, s, name, q) => match readOpsL q with
    | none => none
    | some ops => if k ≤ 4 ∧ formL ⟨UInt8.ofNat k, UInt64.ofNat s, name, ops⟩ = true ∧ noteBytesL ⟨UInt8.ofNat k, UInt64.ofNat s, name, ops⟩ = p then some ⟨UInt8.ofNat k, UInt64.ofNat s, name, ops⟩ else none
theorem noteParts_of (n : NoteL) (h : formL n = true) : notePartsL (noteBytesL n) = some (n.kind.toNat, n.seq.toNat, n.name, opsBytesL n.ops) := by
  obtain ⟨_, h2, h3, _, _⟩ := form_bounds h
  have hk := n.kind.toNat_lt
  have e1 : takeL (noteBytesL n) = (n.kind.toNat, numL n.seq.toNat ++ (textL n.name ++ opsBytesL n.ops), 0) := take_num _ (by omega) _
  have e2 : takeL (numL n.seq.toNat ++ (textL n.name ++ opsBytesL n.ops)) = (n.seq.toNat, textL n.name ++ opsBytesL n.ops, 0) := take_num _ (by omega) _
  have e3 := take_text n.name (opsBytesL n.ops) (by omega) 32
  rw [if_pos h3] at e3
  unfold notePartsL
  have e3' : takeTextL (textL n.name ++ opsBytesL n.ops) 32 = (n.name, opsBytesL n.ops, 0) := e3
  simp only [e1, e2, e3']
  rfl
theorem readNote_iff (p : List UInt8) (n : NoteL) : readNoteL p = some n ↔ formL n = true ∧ noteBytesL n = p := by
  constructor
  · intro h
    unfold readNoteL at h
    split at h
    · cases h
    · split at h
      · cases h
      · split at h
        · rename_i h1
          obtain rfl := Option.some.inj h
          exact h1.2
        · cases h
  · rintro ⟨h1, rfl⟩
    obtain ⟨hc, _, _, hk1, hk4⟩ := form_bounds h1
    unfold readNoteL
    rw [noteParts_of n h1]
    simp only
    rw [(readOps_iff _ _).2 ⟨hc, rfl⟩]
    simp only
    have hk : UInt8.ofNat n.kind.toNat = n.kind := by simp
    have hs : UInt64.ofNat n.seq.toNat = n.seq := by simp
    rw [hk, hs]
    have e : (⟨n.kind, n.seq, n.name, n.ops⟩ : NoteL) = n := by cases n; rfl
    rw [e, if_pos ⟨hk4, h1, rfl⟩]
/-- TWO NOTES WITH THE SAME BYTES ARE ONE -/
theorem note_inj {a b : NoteL} (ha : formL a = true) (hb : formL b = true) (h : noteBytesL a = noteBytesL b) : a = b := by
  have h1 := (readNote_iff (noteBytesL a) a).2 ⟨ha, rfl⟩
  have h2 := (readNote_iff (noteBytesL a) b).2 ⟨hb, h.symm⟩
  rw [h1] at h2
  exact Option.some.inj h2
def cutNote (n : NoteL) : NoteL := { n with name := n.name.take 40, ops := fewOps n.ops 66 }
def fewNotes (l : List NoteL) (n : Nat) : List NoteL := (l.take n).map cutNote
end Go.Proofs.YtpjinmiedanebaaDoor

namespace Go.Proofs.YtpjinmiedanebaaDoor
open Go.RowKit
set_option maxRecDepth 20000
section
variable {α : Type} [Rep α] {w w' : World} {B : Nat} {e t8 : TypeId} {A : Option Addr} {n c : Nat} {ls : List α}
/-- block b is the call's own, a row of t8 that nothing has frozen -/
def OwnU (w : World) (B : Nat) (t8 : TypeId) (b : Nat) : Prop := B ≤ b ∧ ∃ cur, w.heap[b]? = some (.cells cur t8 (0, 0))
theorem OwnU.move {b : Nat} (h : OwnU w B t8 b) (e : w'.heap[b]? = w.heap[b]?) : OwnU w' B t8 b := by
  obtain ⟨h1, cur, h2⟩ := h
  exact ⟨h1, cur, e.trans h2⟩
theorem Own.ownU {size : Nat} {xs : List Value} (h : Own w B t8 size A n c xs) : ∀ b, 0 < n → A.map (·.block) = some b → OwnU w B t8 b := by
  intro b hn hb
  obtain ⟨g, o, cur, rfl, hg, hh, _⟩ := h.row (by have := h.cap; omega)
  simp at hb
  subst hb
  exact ⟨hg, cur, hh⟩
def OwnY (w : World) (B : Nat) (e t8 : TypeId) (A : Option Addr) (n c : Nat) (ls : List α) : Prop :=
  ∃ xs, Own w B e (Rep.size α) A n c xs ∧ RowC w (fun b => blk A c ≠ some b ∧ OwnU w B t8 b) xs ls
theorem OwnY.nil (w : World) (B : Nat) (e t8 : TypeId) (A : Option Addr) : OwnY w B e t8 A 0 0 ([] : List α) := ⟨[], Own.nil _ _ _ _ _, rfl⟩
theorem OwnY.sl (h : OwnY w B e t8 A n c ls) : SlR w (fun _ => True) A n c ls := by
  obtain ⟨xs, ho, hr⟩ := h
  exact ⟨xs, ho.sl, hr.move fun _ _ _ => ⟨rfl, trivial⟩, fun _ _ _ => trivial⟩
theorem OwnY.lenR (h : OwnY w B e t8 A n c ls) : ls.length = n := h.sl.lenR
theorem OwnY.lt (h : OwnY w B e t8 A n c ls) : ∀ b, blk A c = some b → B ≤ b ∧ b < w.heap.size := by
  obtain ⟨xs, ho, _⟩ := h
  exact fun b hb => Own.lt ho b hb
theorem OwnY.below (h : OwnY w B e t8 A n c ls) (hb : Below w.heap.size w w') : OwnY w' B e t8 A n c ls := by
  obtain ⟨xs, ho, hr⟩ := h
  exact ⟨xs, ho.below hb, hr.move fun b hl hp => ⟨hb.block b hl, hp.1, hp.2.move (hb.block b hl)⟩⟩
theorem OwnY.mono {B' : Nat} (h : OwnY w B e t8 A n c ls) (hB : B' ≤ B) : OwnY w B' e t8 A n c ls := by
  obtain ⟨xs, ho, hr⟩ := h
  exact ⟨xs, ho.mono hB, hr.move fun b _ hp => ⟨rfl, hp.1, Nat.le_trans hB hp.2.1, hp.2.2⟩⟩
/-- another block was written -/
theorem OwnY.grown {g : Nat} {row : Option Nat} (h : OwnY w B e t8 A n c ls) (hg : w.grownBy w' row) (h1 : ∀ b, row = some b → g ≤ b) (h2 : w.heap.size ≤ g) : OwnY w' B e t8 A n c ls := by
  obtain ⟨xs, ho, hr⟩ := h
  refine ⟨xs, ho.grown hg fun b hb q => ?_, hr.move fun b hl hp => ?_⟩
  · have := (ho.lt b hb).2
    have := h1 b q
    omega
  · have e := hg.block b hl fun q => by have := h1 b q.symm; omega
    exact ⟨e, hp.1, hp.2.move e⟩
theorem row_appY (P : Program) (w : World) (t ty t8 : TypeId) (z : Value) (bytes : Nat) (ht : P.underlying t = some (.slice e)) (hi : (P.info? e).map (fun i => (i.zero, i.size, i.bytes)) = some (some z, Rep.size α, bytes))
    (hzs : z.cells.size = Rep.size α) (hown : OwnY w B e t8 A n c ls)
    (A2 : Option Addr) (m c2 : Nat) (ms : List α) (hs : ∃ xs, Sl w (Rep.size α) A2 m c2 xs ∧ RowC w (fun b => blk A c ≠ some b ∧ OwnU w B t8 b) xs ms)
    (h63 : n + m ≤ maxLen) (hbytes : (n + m) * bytes ≤ 140737488355328) (hB : B ≤ w.heap.size) :
    ∃ A' c' w', (Builtin.append_ #[t, t] ty #[.slice A n c, .slice A2 m c2]).run P w = .ok (.slice A' (n + m) c') w' ∧ OwnY w' B e t8 A' (n + m) c' (ls ++ ms) ∧ w.grownBy w' (blk A c) ∧ (blk A' c' = blk A c ∨ blk A' c' = some w.heap.size) := by
  obtain ⟨i, hi1, hz, hs1, hb1⟩ := info_parts hi
  obtain ⟨xs, hO, hR⟩ := hown
  obtain ⟨ys, hS, hR2⟩ := hs
  obtain ⟨A', c', w', hrun, h2, h3, h4⟩ := run_append_own2 (P := P) w B t ty e i z (Rep.size α) bytes ht hi1 hz hs1 hb1 hzs A n c xs hO A2 m c2 ys hS hR2.one h63 hbytes hB
  have mv : ∀ b, b < w.heap.size → (blk A c ≠ some b ∧ OwnU w B t8 b) → w'.heap[b]? = w.heap[b]? ∧ blk A' c' ≠ some b ∧ OwnU w' B t8 b := fun b hl hp2 => by
    obtain ⟨hp, hu⟩ := hp2
    have eb := h3.block b hl (fun q => hp q.symm)
    refine ⟨eb, ?_, hu.move eb⟩
    rcases h4 with q | q
    · rw [q]; exact hp
    · rw [q]
      intro r
      simp at r
      omega
  exact ⟨A', c', w', hrun, ⟨_, h2, (hR.move mv).append (hR2.move mv)⟩, h3, h4⟩
theorem wpList_appY {P : Program} (w : World) {ops : Array Oper} {rest : List Oper} {o : Oper} {a : Act} {Q : Exit → Act → World → Prop} (hgd : o.guard = none) (s x : Operand) (t : TypeId)
    (ho : o.op = .call { callee := .builtin .append, args := #[s, x], argTypes := #[t, t] })
    (B : Nat) (e t8 : TypeId) (z : Value) (bytes : Nat) (ht : P.underlying t = some (.slice e)) (hi : (P.info? e).map (fun i => (i.zero, i.size, i.bytes)) = some (some z, Rep.size α, bytes))
    (hzs : z.cells.size = Rep.size α)
    (A : Option Addr) (n c : Nat) (ls : List α) (hsv : a.eval s = .slice A n c) (hown : OwnY w B e t8 A n c ls)
    (A2 : Option Addr) (m c2 : Nat) (ms : List α) (hx : a.eval x = .slice A2 m c2) (hs : ∃ xs, Sl w (Rep.size α) A2 m c2 xs ∧ RowC w (fun b => blk A c ≠ some b ∧ OwnU w B t8 b) xs ms)
    (h63 : n + m ≤ maxLen) (hbytes : (n + m) * bytes ≤ 140737488355328) (hB : B ≤ w.heap.size)
    (h : ∀ A' c' w', OwnY w' B e t8 A' (n + m) c' (ls ++ ms) → w.grownBy w' (blk A c) → (blk A' c' = blk A c ∨ blk A' c' = some w.heap.size) → wpList P ops Q rest (a.put o.dst (.slice A' (n + m) c')) w') : wpList P ops Q (o :: rest) a w := by
  obtain ⟨A', c', w', hrun, h2, h3, h4⟩ := row_appY P w t o.type t8 z bytes ht hi hzs hown A2 m c2 ms hs h63 hbytes hB
  refine wpList_plain hgd fun _ hK => ?_
  unfold Oper.wp execOp
  simp only [ho, resolve, invoke, builtin, Sem.run_bind, Sem.run_pure, Result.andThen_ok, List.map_toArray, List.map_cons, List.map_nil, hsv, hx, hrun]
  exact hK _ _ (h A' c' w' h2 h3 h4)
end
end Go.Proofs.YtpjinmiedanebaaDoor

namespace Go.Proofs.YtpjinmiedanebaaDoor
open Go.RowKit
set_option maxRecDepth 20000
section
variable {α : Type} [Rep α] {w w' : World} {B : Nat} {e : TypeId} {A : Option Addr} {n c : Nat} {ls : List α}
def OwnZ (w : World) (B : Nat) (e : TypeId) (A : Option Addr) (n c : Nat) (ls : List α) : Prop :=
  ∃ xs, Own w B e (Rep.size α) A n c xs ∧ RowC w (fun b => blk A c ≠ some b ∧ B ≤ b) xs ls
theorem OwnZ.nil (w : World) (B : Nat) (e : TypeId) (A : Option Addr) : OwnZ w B e A 0 0 ([] : List α) := ⟨[], Own.nil _ _ _ _ _, rfl⟩
theorem OwnZ.slB (h : OwnZ w B e A n c ls) : SlR w (fun b => B ≤ b) A n c ls := by
  obtain ⟨xs, ho, hr⟩ := h
  refine ⟨xs, ho.sl, hr.move fun _ _ h => ⟨rfl, h.2⟩, fun b hn e => (ho.lt b ?_).1⟩
  have := ho.cap
  unfold blk
  rw [if_neg (by omega)]
  exact e
theorem OwnZ.sl (h : OwnZ w B e A n c ls) : SlR w (fun _ => True) A n c ls := h.slB.mono fun _ _ _ => trivial
theorem OwnZ.lenR (h : OwnZ w B e A n c ls) : ls.length = n := h.sl.lenR
theorem OwnZ.lt (h : OwnZ w B e A n c ls) : ∀ b, blk A c = some b → B ≤ b ∧ b < w.heap.size := by
  obtain ⟨xs, ho, _⟩ := h
  exact fun b hb => Own.lt ho b hb
theorem OwnZ.below (h : OwnZ w B e A n c ls) (hb : Below w.heap.size w w') : OwnZ w' B e A n c ls := by
  obtain ⟨xs, ho, hr⟩ := h
  exact ⟨xs, ho.below hb, hr.move fun b hl hp => ⟨hb.block b hl, hp⟩⟩
theorem OwnZ.mono {B' : Nat} (h : OwnZ w B e A n c ls) (hB : B' ≤ B) : OwnZ w B' e A n c ls := by
  obtain ⟨xs, ho, hr⟩ := h
  exact ⟨xs, ho.mono hB, hr.move fun b _ hp => ⟨rfl, hp.1, Nat.le_trans hB hp.2⟩⟩
/-- another block was written -/
theorem OwnZ.grown {g : Nat} {row : Option Nat} (h : OwnZ w B e A n c ls) (hg : w.grownBy w' row) (h1 : ∀ b, row = some b → g ≤ b) (h2 : w.heap.size ≤ g) : OwnZ w' B e A n c ls := by
  obtain ⟨xs, ho, hr⟩ := h
  refine ⟨xs, ho.grown hg fun b hb q => ?_, hr.move fun b hl hp => ⟨hg.block b hl fun q => ?_, hp⟩⟩
  · have := (ho.lt b hb).2
    have := h1 b q
    omega
  · have := h1 b q.symm
    omega
theorem row_appZ (P : Program) (w : World) (t ty : TypeId) (z : Value) (bytes : Nat) (ht : P.underlying t = some (.slice e)) (hi : (P.info? e).map (fun i => (i.zero, i.size, i.bytes)) = some (some z, Rep.size α, bytes))
    (hzs : z.cells.size = Rep.size α) (hown : OwnZ w B e A n c ls)
    (A2 : Option Addr) (m c2 : Nat) (ms : List α) (hs : ∃ xs, Sl w (Rep.size α) A2 m c2 xs ∧ RowC w (fun b => blk A c ≠ some b ∧ B ≤ b) xs ms)
    (h63 : n + m ≤ maxLen) (hbytes : (n + m) * bytes ≤ 140737488355328) (hB : B ≤ w.heap.size) :
    ∃ A' c' w', (Builtin.append_ #[t, t] ty #[.slice A n c, .slice A2 m c2]).run P w = .ok (.slice A' (n + m) c') w' ∧ OwnZ w' B e A' (n + m) c' (ls ++ ms) ∧ w.grownBy w' (blk A c) ∧ (blk A' c' = blk A c ∨ blk A' c' = some w.heap.size) := by
  obtain ⟨i, hi1, hz, hs1, hb1⟩ := info_parts hi
  obtain ⟨xs, hO, hR⟩ := hown
  obtain ⟨ys, hS, hR2⟩ := hs
  obtain ⟨A', c', w', hrun, h2, h3, h4⟩ := run_append_own2 (P := P) w B t ty e i z (Rep.size α) bytes ht hi1 hz hs1 hb1 hzs A n c xs hO A2 m c2 ys hS hR2.one h63 hbytes hB
  have mv : ∀ b, b < w.heap.size → (blk A c ≠ some b ∧ B ≤ b) → w'.heap[b]? = w.heap[b]? ∧ blk A' c' ≠ some b ∧ B ≤ b := fun b hl hp2 => by
    obtain ⟨hp, hBb⟩ := hp2
    refine ⟨h3.block b hl (fun q => hp q.symm), ?_, hBb⟩
    rcases h4 with q | q
    · rw [q]; exact hp
    · rw [q]
      intro r
      simp at r
      omega
  exact ⟨A', c', w', hrun, ⟨_, h2, (hR.move mv).append (hR2.move mv)⟩, h3, h4⟩
theorem wpList_appZ {P : Program} (w : World) {ops : Array Oper} {rest : List Oper} {o : Oper} {a : Act} {Q : Exit → Act → World → Prop} (hgd : o.guard = none) (s x : Operand) (t : TypeId)
    (ho : o.op = .call { callee := .builtin .append, args := #[s, x], argTypes := #[t, t] })
    (B : Nat) (e : TypeId) (z : Value) (bytes : Nat) (ht : P.underlying t = some (.slice e)) (hi : (P.info? e).map (fun i => (i.zero, i.size, i.bytes)) = some (some z, Rep.size α, bytes))
    (hzs : z.cells.size = Rep.size α)
    (A : Option Addr) (n c : Nat) (ls : List α) (hsv : a.eval s = .slice A n c) (hown : OwnZ w B e A n c ls)
    (A2 : Option Addr) (m c2 : Nat) (ms : List α) (hx : a.eval x = .slice A2 m c2) (hs : ∃ xs, Sl w (Rep.size α) A2 m c2 xs ∧ RowC w (fun b => blk A c ≠ some b ∧ B ≤ b) xs ms)
    (h63 : n + m ≤ maxLen) (hbytes : (n + m) * bytes ≤ 140737488355328) (hB : B ≤ w.heap.size)
    (h : ∀ A' c' w', OwnZ w' B e A' (n + m) c' (ls ++ ms) → w.grownBy w' (blk A c) → (blk A' c' = blk A c ∨ blk A' c' = some w.heap.size) → wpList P ops Q rest (a.put o.dst (.slice A' (n + m) c')) w') : wpList P ops Q (o :: rest) a w := by
  obtain ⟨A', c', w', hrun, h2, h3, h4⟩ := row_appZ P w t o.type z bytes ht hi hzs hown A2 m c2 ms hs h63 hbytes hB
  refine wpList_plain hgd fun _ hK => ?_
  unfold Oper.wp execOp
  simp only [ho, resolve, invoke, builtin, Sem.run_bind, Sem.run_pure, Result.andThen_ok, List.map_toArray, List.map_cons, List.map_nil, hsv, hx, hrun]
  exact hK _ _ (h A' c' w' h2 h3 h4)
end
end Go.Proofs.YtpjinmiedanebaaDoor

namespace Go.Proofs.YtpjinmiedanebaaDoor
set_option maxRecDepth 20000

theorem headL_get4 (k : Nat) (b : List UInt8) : (headL k b)[4]? = some (UInt8.ofNat b.length) := rfl
theorem headL_get5 (k : Nat) (b : List UInt8) : (headL k b)[5]? = some (UInt8.ofNat (b.length / 256)) := rfl
theorem headL_get6 (k : Nat) (b : List UInt8) : (headL k b)[6]? = some (UInt8.ofNat k) := rfl
theorem pieceL_get (k : Nat) (b : List UInt8) (i : Nat) (h : i < 7) : (pieceL k b)[i]? = (headL k b)[i]? := by
  unfold pieceL
  exact List.getElem?_append_left (by simpa using h)
/-- what stands where a piece does -/
theorem PieceAt.read {P : List UInt8} {a k e : Nat} {b : List UInt8} (h : PieceAt P a k b e) :
    a + 7 + b.length ≤ P.length ∧ P[a + 4]? = some (UInt8.ofNat b.length) ∧ P[a + 5]? = some (UInt8.ofNat (b.length / 256)) ∧ P[a + 6]? = some (UInt8.ofNat k) ∧
      (P.drop (a + 7)).take b.length = b ∧ (P.drop a).take (7 + b.length) = pieceL k b := by
  have hle := h.le
  obtain ⟨h1, h2, h3, h4, t, ht⟩ := h
  have g : ∀ i, i < 7 → P[a + i]? = (headL k b)[i]? := fun i hi => by
    rw [← List.getElem?_drop, ← ht, List.getElem?_append_left (by simp; omega), pieceL_get k b i hi]
  refine ⟨by omega, ?_, ?_, ?_, ?_, ?_⟩
  · rw [g 4 (by omega), headL_get4]
  · rw [g 5 (by omega), headL_get5]
  · rw [g 6 (by omega), headL_get6]
  · have e : P.drop (a + 7) = b ++ t := by
      rw [← List.drop_drop, ← ht]
      unfold pieceL
      rw [List.append_assoc, List.drop_left' (by simp)]
    rw [e, List.take_left]
  · rw [← ht, List.take_left' (by simp)]
/-- .. and the other way: N: what the bytes 4 and 5 say -/
theorem pieceAt_of {P : List UInt8} {a k N : Nat} (hk1 : 1 ≤ k) (hk4 : k ≤ 4) (h1 : a % 64 + 7 + N ≤ 64) (h2 : a + 7 + N ≤ P.length) (h3 : pieceL k ((P.drop (a + 7)).take N) = (P.drop a).take (7 + N)) :
    PieceAt P a k ((P.drop (a + 7)).take N) (a + 7 + N) := by
  have hl : ((P.drop (a + 7)).take N).length = N := by simp; omega
  refine ⟨hk1, hk4, by rw [hl]; exact h1, by rw [hl], ?_⟩
  rw [h3]
  exact List.take_prefix _ _
theorem len_bytes {x y n : Nat} (hn : n ≤ 57) (h1 : (UInt8.ofNat n).toNat = x) (h2 : (UInt8.ofNat (n / 256)).toNat = y) : x + 256 * y = n := by
  simp at h1 h2
  omega
end Go.Proofs.YtpjinmiedanebaaDoor

namespace Go.Proofs.YtpjinmiedanebaaDoor
set_option maxRecDepth 20000

/-- from a on there are frames, to the end -/
inductive Chain (P : List UInt8) : Nat → Prop
  | done : Chain P P.length
  | frame (a : Nat) (b : Bool) (r : List UInt8) : frameL a b r <+: P.drop a → Chain P (a + (frameL a b r).length) → Chain P a
theorem Chain.le {P : List UInt8} {a : Nat} (h : Chain P a) : a ≤ P.length := by
  cases h with
  | done => exact Nat.le_refl _
  | frame _ b r h1 h2 =>
    have h3 := h1.length_le
    have h4 := frameL_pos a b r
    simp at h3
    omega
theorem Chain.step {P : List UInt8} {a : Nat} (h : Chain P a) (ha : a < P.length) : ∃ k x e, PieceAt P (a + padN a) k x e ∧ (P.drop a).take (padN a) = List.replicate (padN a) 0 ∧ Chain P e := by
  cases h with
  | done => exact absurd ha (Nat.lt_irrefl _)
  | frame _ b r h1 h2 =>
    obtain ⟨f1, f2⟩ := frame_piece h1
    refine ⟨_, _, _, f1, ?_, ?_⟩
    · obtain ⟨t, ht⟩ := h1
      rw [← ht, frameL_eq, List.append_assoc]
      exact List.take_left' (by simp)
    · cases he : endsAt a r with
      | true =>
        have hr : r.length ≤ roomN a := by simpa [endsAt] using he
        rw [frameL_end a b r hr] at h2
        rw [List.take_of_length_le hr]
        have e : a + (List.replicate (padN a) 0 ++ pieceL (kindN b true) r).length = a + padN a + 7 + r.length := by simp; omega
        rwa [e] at h2
      | false =>
        have hr : ¬ r.length ≤ roomN a := by simpa [endsAt] using he
        have hl : (r.take (roomN a)).length = roomN a := by simp; omega
        rw [hl]
        refine .frame _ false (r.drop (roomN a)) (f2 he) ?_
        rw [frameL_go a b r hr] at h2
        have e : a + (List.replicate (padN a) 0 ++ pieceL (kindN b false) (r.take (roomN a)) ++ frameL (a + padN a + 7 + roomN a) false (r.drop (roomN a))).length = a + padN a + 7 + roomN a + (frameL (a + padN a + 7 + roomN a) false (r.drop (roomN a))).length := by simp [hl]; omega
        rwa [e] at h2
theorem chain_from (ls : List (List UInt8)) : ∀ k, k ≤ ls.length → Chain (allL ls) (allL (ls.take (ls.length - k))).length
  | 0, _ => by
    rw [Nat.sub_zero, List.take_length]
    exact .done
  | k + 1, hk => by
    have ih := chain_from ls k (by omega)
    have hi : ls.length - (k + 1) < ls.length := by omega
    have e1 := allL_step ls (ls.length - (k + 1)) hi
    rw [show ls.length - (k + 1) + 1 = ls.length - k by omega] at e1
    refine .frame _ true ls[ls.length - (k + 1)] ?_ ?_
    · obtain ⟨t, ht⟩ := allL_take_le ls (ls.length - k)
      rw [e1, List.append_assoc] at ht
      rw [← ht, List.drop_left]
      exact List.prefix_append _ _
    · rw [e1, List.length_append] at ih
      exact ih
theorem chain_all (ls : List (List UInt8)) : Chain (allL ls) 0 := by
  have h := chain_from ls ls.length (Nat.le_refl _)
  rw [Nat.sub_self, List.take_zero] at h
  exact h
theorem allL_le (m : Nat) (ls : List (List UInt8)) (h : ∀ l ∈ ls, l.length ≤ m) : ∀ k, (allL (ls.take k)).length ≤ (14 * m + 20) * k
  | 0 => by simp [allL]
  | k + 1 => by
    have ih := allL_le m ls h k
    by_cases hk : k < ls.length
    · rw [allL_step ls k hk, List.length_append]
      have h1 := (frameL_length (allL (ls.take k)).length true ls[k]).2
      have h2 := h ls[k] (List.getElem_mem hk)
      rw [Nat.mul_add, Nat.mul_one]
      split at h1 <;> omega
    · rw [List.take_of_length_le (by omega)] at ih ⊢
      rw [Nat.mul_add]
      omega
end Go.Proofs.YtpjinmiedanebaaDoor

namespace Go.Proofs.YtpjinmiedanebaaDoor
set_option maxRecDepth 20000
open Go.RowKit

set_option maxHeartbeats 400000 in
theorem rmask_any (w : World) (x : Nat) (hx : x < 4294967296) :
    Calls Tryd.prog 49 #[.int .u32 (x : Int)] w fun e w' => e = .returned (.int .u32 (maskL x : Nat)) ∧ w = w' := by
  go_enter Tryd.func49, Tryd.ntmps49
  go_wp2
  go_ret
  refine ⟨ret_int ?_, rfl⟩
  unfold maskL
  omega
end Go.Proofs.YtpjinmiedanebaaDoor

namespace Go.Proofs.YtpjinmiedanebaaDoor
set_option maxRecDepth 20000
open Go.RowKit
def s9 : List UInt8 := [49, 50, 51, 52, 53, 54, 55, 56, 57]
theorem sum9 : sumL [s9].flatten = 3808858755 := by decide +kernel
theorem close0 : closeL [] = [216, 234, 130, 162] := by decide +kernel
end Go.Proofs.YtpjinmiedanebaaDoor

namespace Go.Proofs.YtpjinmiedanebaaDoor
set_option maxRecDepth 20000
open Go.ChangeShapes Go.WideShapes Go.ChangeAt Go.RowKit

theorem own : ownKnob Tryd.prog.godebug = none := by kernel_rfl
theorem cellsU8 : Tryd.prog.cellsOf 5 = 1 := by kernel_rfl
theorem cellsB : Tryd.prog.cellsOf 22 = 1 := by kernel_rfl
theorem laidOut : laidOutB Tryd.prog = true := by kernel_rfl
theorem gTab : Tryd.prog.globalNamed "bartizan/seal.quarter" = some 0 := by kernel_rfl
theorem gTabType : (Tryd.prog.globals[0]?).map (·.type) = some 120 := by kernel_rfl
theorem cellsTab : Tryd.prog.cellsOf 120 = 16 := by kernel_rfl
theorem cellsU32 : Tryd.prog.cellsOf 90 = 1 := by kernel_rfl
/-- the table's numbers, as integers -/
def quarterZ : List Int := quarterL.map fun (n : Nat) => (n : Int)
/-- WHAT THE ROW's LIST GIVES -/
theorem quarter_laid {W : World} {rest : List (String × DataW Unit)} (h : laidMet Tryd.prog (("bartizan/seal.quarter", Rows.laid_bartizan_seal_quarter) :: rest) W) : Quarter W := by
  have ht : Lib.TabIs Tryd.prog W "bartizan/seal.quarter" .u32 quarterZ :=
    Lib.tabIs_of_head (rest := rest) gTab gTabType Tryd.underlying120 Tryd.underlying90 cellsU32 cellsTab h
  intro i hi
  have := ht.cell gTab i (by simpa [quarterZ, quarterL] using hi)
  rw [this]
  congr 2
  rcases Nat.lt_or_ge i 16 with h | h
  · have : ∀ i : Fin 16, quarterZ.getD i.val 0 = ((quarterL.getD i.val 0 : Nat) : Int) := by decide
    exact this ⟨i, h⟩
  · omega
/-- A WORLD FOR THE WITNESS: the table holding what its initialiser lays -/
noncomputable def laidWorld (os : Os) : World :=
  { World.holding Tryd.prog os ⟨#[], #[], []⟩ with heap := (World.holding Tryd.prog os ⟨#[], #[], []⟩).heap.modify 0 fun
      | .cells _ t frozen => .cells (quarterZ.map (Value.int .u32)).toArray t frozen
      | o => o }
end Go.Proofs.YtpjinmiedanebaaDoor
