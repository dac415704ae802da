/-
  Compare, RowsZ in one text. No condition but sizes.
-/
import Derived.Test.YtpffieogkfndaaaGreatDoorJRowsL
import Derived.Lib.BytesEntry
import Derived.Test.YtpffieogkfndaaaGreatDoorJRowsX
namespace Go.Proofs.YtpffieogkfndaaaGreatDoor
set_option maxRecDepth 20000
set_option linter.unusedVariables false
set_option linter.unusedSimpArgs false
open Go.RowKit

theorem cmp_self (l : List UInt8) : Lib.compareBytes l l = 0 := by
  induction l with
  | nil => rfl
  | cons a l ih => simp [Lib.compareBytes, ih]
theorem cmp_swap : ∀ (l m : List UInt8), Lib.compareBytes m l = - Lib.compareBytes l m
  | [], [] => rfl
  | [], _ :: _ => rfl
  | _ :: _, [] => rfl
  | a :: l, b :: m => by
    have ih := cmp_swap l m
    simp only [Lib.compareBytes]
    by_cases h1 : a < b
    · have h2 : ¬ b < a := fun h => by
        rw [UInt8.lt_iff_toNat_lt] at h1 h
        omega
      simp [h1, h2]
    · by_cases h2 : b < a
      · simp [h1, h2]
      · simp [h1, h2, ih]
def ltL (l m : List UInt8) : Bool := decide (Lib.compareBytes l m < 0)
theorem run_bytesOf (w : World) (A : Option Addr) (n c : Nat) (l : List UInt8) (h : Sl w 1 A n c (bc l)) :
    ∃ s : ByteArray, s.data.toList = l ∧ (Extern.Bytes.bytesOf (.slice A n c)).run Tryz.prog w = .ok s w := by
  have hl := h.lenb
  cases A with
  | none =>
    obtain rfl := h.none_len
    obtain rfl : l = [] := List.eq_nil_of_length_eq_zero hl
    exact ⟨.empty, rfl, rfl⟩
  | some ad =>
    have hm : Lib.bytesOf (l.map fun x => (x.toNat : Int)) = l := by
      unfold Lib.bytesOf
      rw [List.map_map]
      conv => rhs; rw [← List.map_id l]
      apply List.map_congr_left
      intro x _
      simp
    have hr := Lib.run_loadBytesX (P := Tryz.prog) w (l.map fun x => (x.toNat : Int)) ad .empty (fun j x hj => by
      have hjl : j < l.length := by
        have := (List.getElem?_eq_some_iff.1 hj).1
        simpa using this
      obtain ⟨b, o, e, hc⟩ := h.at_ (by omega)
      obtain rfl := Option.some.inj e
      have h1 := hc j (.int .u8 x) (by rw [bc_get]; simpa using hj)
      rw [Addr.add_lit]
      exact h1)
    rw [List.length_map, hl, hm] at hr
    refine ⟨_, ?_, hr⟩
    show (ByteArray.empty.data ++ l.toArray).toList = l
    simp
theorem run_cmp (w : World) (A : Option Addr) (n c : Nat) (l : List UInt8) (h : Sl w 1 A n c (bc l)) (A2 : Option Addr) (n2 c2 : Nat) (m : List UInt8) (h2 : Sl w 1 A2 n2 c2 (bc m)) :
    (Extern.BytealgCompare.compare #[.slice A n c, .slice A2 n2 c2]).run Tryz.prog w = .ok (.int .i64 (Lib.compareBytes l m)) w := by
  obtain ⟨s, e1, r1⟩ := run_bytesOf w A n c l h
  obtain ⟨t, e2, r2⟩ := run_bytesOf w A2 n2 c2 m h2
  change Sem.run Tryz.prog (do pure (goInt (Extern.BytealgCompare.cmp (← Extern.Bytes.bytesOf (.slice A n c)) (← Extern.Bytes.bytesOf (.slice A2 n2 c2))))) w = _
  simp only [Sem.run_bind, Sem.run_pure, r1, r2, Result.andThen]
  rw [Lib.cmp_eq, e1, e2]
  rfl
set_option maxHeartbeats 1000000 in
theorem less_any (w : World) (A : Option Addr) (n c : Nat) (l : List UInt8) (h : Sl w 1 A n c (bc l)) (A2 : Option Addr) (n2 c2 : Nat) (m : List UInt8) (h2 : Sl w 1 A2 n2 c2 (bc m)) :
    Calls Tryz.prog 58 #[.slice A n c, .slice A2 n2 c2] w fun e w' => e = .returned (.bool (ltL l m)) ∧ w = w' := by
  have hcall : (callFunc 115 #[.slice A n c, .slice A2 n2 c2]).run Tryz.prog w = .ok (.value (.int .i64 (Lib.compareBytes l m))) w := by
    rw [run_callFunc_extern Tryz.func115 (by kernel_rfl) (by kernel_rfl) (by kernel_rfl) (e := Extern.BytealgCompare.compare) (by kernel_rfl), run_cmp w A n c l h A2 n2 c2 m h2]
    rfl
  unfold ltL
  generalize Lib.compareBytes l m = z at *
  have hc : Calls Tryz.prog 97 #[.slice A n c, .slice A2 n2 c2] w fun e w' => e = .returned (.int .i64 z) ∧ w = w' := by
    go_enter Tryz.func97, Tryz.ntmps97
    go_wp2
    go_ret
    exact ⟨rfl, rfl⟩
  clear hcall
  have Hc := Lib.hid hc
  clear hc
  go_enter Tryz.func58, Tryz.ntmps58
  go_wp2_with fail
  refine Hc.out.mono ?_
  rintro e w' ⟨rfl, rfl⟩
  go_wp2
  go_ret
  exact ⟨rfl, rfl⟩
theorem less_is (w : World) (A : Option Addr) (n c : Nat) (l : List UInt8) (h : Sl w 1 A n c (bc l)) (A2 : Option Addr) (n2 c2 : Nat) (m : List UInt8) (h2 : Sl w 1 A2 n2 c2 (bc m)) (b : Bool) (hb : Hid (ltL l m = b)) :
    Calls Tryz.prog 58 #[.slice A n c, .slice A2 n2 c2] w fun e w' => e = .returned (.bool b) ∧ w = w' := by
  rw [← hb.out]
  exact less_any w A n c l h A2 n2 c2 m h2
end Go.Proofs.YtpffieogkfndaaaGreatDoor

namespace Go.Proofs.YtpffieogkfndaaaGreatDoor
open Go.RowKit
set_option maxRecDepth 20000
set_option linter.unusedVariables false
set_option linter.unusedSimpArgs false
section
variable {α : Type} [Rep α] {w w' : World} {B : Nat} {e : TypeId} {A : Option Addr} {n c : Nat} {ls : List α}
def OwnZ (w : World) (B : Nat) (e : TypeId) (A : Option Addr) (n c : Nat) (ls : List α) : Prop :=
  ∃ xs, Own w B e (Rep.size α) A n c xs ∧ RowC w (fun b => blk A c ≠ some b ∧ B ≤ b) xs ls
theorem OwnZ.nil (w : World) (B : Nat) (e : TypeId) (A : Option Addr) : OwnZ w B e A 0 0 ([] : List α) := ⟨[], Own.nil _ _ _ _ _, rfl⟩
theorem OwnZ.slB (h : OwnZ w B e A n c ls) : SlR w (fun b => B ≤ b) A n c ls := by
  obtain ⟨xs, ho, hr⟩ := h
  refine ⟨xs, ho.sl, hr.move fun _ _ h => ⟨rfl, h.2⟩, fun b hn e => (ho.lt b ?_).1⟩
  have := ho.cap
  unfold blk
  rw [if_neg (by omega)]
  exact e
theorem OwnZ.sl (h : OwnZ w B e A n c ls) : SlR w (fun _ => True) A n c ls := h.slB.mono fun _ _ _ => trivial
theorem OwnZ.lenR (h : OwnZ w B e A n c ls) : ls.length = n := h.sl.lenR
theorem OwnZ.lt (h : OwnZ w B e A n c ls) : ∀ b, blk A c = some b → B ≤ b ∧ b < w.heap.size := by
  obtain ⟨xs, ho, _⟩ := h
  exact fun b hb => Own.lt ho b hb
theorem OwnZ.below (h : OwnZ w B e A n c ls) (hb : Below w.heap.size w w') : OwnZ w' B e A n c ls := by
  obtain ⟨xs, ho, hr⟩ := h
  exact ⟨xs, ho.below hb, hr.move fun b hl hp => ⟨hb.block b hl, hp⟩⟩
theorem OwnZ.mono {B' : Nat} (h : OwnZ w B e A n c ls) (hB : B' ≤ B) : OwnZ w B' e A n c ls := by
  obtain ⟨xs, ho, hr⟩ := h
  exact ⟨xs, ho.mono hB, hr.move fun b _ hp => ⟨rfl, hp.1, Nat.le_trans hB hp.2⟩⟩
/-- another block was written -/
theorem OwnZ.grown {g : Nat} {row : Option Nat} (h : OwnZ w B e A n c ls) (hg : w.grownBy w' row) (h1 : ∀ b, row = some b → g ≤ b) (h2 : w.heap.size ≤ g) : OwnZ w' B e A n c ls := by
  obtain ⟨xs, ho, hr⟩ := h
  refine ⟨xs, ho.grown hg fun b hb q => ?_, hr.move fun b hl hp => ⟨hg.block b hl fun q => ?_, hp⟩⟩
  · have := (ho.lt b hb).2
    have := h1 b q
    omega
  · have := h1 b q.symm
    omega
theorem row_appZ (P : Program) (w : World) (t ty : TypeId) (z : Value) (bytes : Nat) (ht : P.underlying t = some (.slice e)) (hi : (P.info? e).map (fun i => (i.zero, i.size, i.bytes)) = some (some z, Rep.size α, bytes))
    (hzs : z.cells.size = Rep.size α) (hown : OwnZ w B e A n c ls)
    (A2 : Option Addr) (m c2 : Nat) (ms : List α) (hs : ∃ xs, Sl w (Rep.size α) A2 m c2 xs ∧ RowC w (fun b => blk A c ≠ some b ∧ B ≤ b) xs ms)
    (h63 : n + m ≤ maxLen) (hbytes : (n + m) * bytes ≤ 140737488355328) (hB : B ≤ w.heap.size) :
    ∃ A' c' w', (Builtin.append_ #[t, t] ty #[.slice A n c, .slice A2 m c2]).run P w = .ok (.slice A' (n + m) c') w' ∧ OwnZ w' B e A' (n + m) c' (ls ++ ms) ∧ w.grownBy w' (blk A c) ∧ (blk A' c' = blk A c ∨ blk A' c' = some w.heap.size) := by
  obtain ⟨i, hi1, hz, hs1, hb1⟩ := info_parts hi
  obtain ⟨xs, hO, hR⟩ := hown
  obtain ⟨ys, hS, hR2⟩ := hs
  obtain ⟨A', c', w', hrun, h2, h3, h4⟩ := run_append_own2 (P := P) w B t ty e i z (Rep.size α) bytes ht hi1 hz hs1 hb1 hzs A n c xs hO A2 m c2 ys hS hR2.one h63 hbytes hB
  have mv : ∀ b, b < w.heap.size → (blk A c ≠ some b ∧ B ≤ b) → w'.heap[b]? = w.heap[b]? ∧ blk A' c' ≠ some b ∧ B ≤ b := fun b hl hp2 => by
    obtain ⟨hp, hBb⟩ := hp2
    refine ⟨h3.block b hl (fun q => hp q.symm), ?_, hBb⟩
    rcases h4 with q | q
    · rw [q]; exact hp
    · rw [q]
      intro r
      simp at r
      omega
  exact ⟨A', c', w', hrun, ⟨_, h2, (hR.move mv).append (hR2.move mv)⟩, h3, h4⟩
theorem wpList_appZ {P : Program} (w : World) {ops : Array Oper} {rest : List Oper} {o : Oper} {a : Act} {Q : Exit → Act → World → Prop} (hgd : o.guard = none) (s x : Operand) (t : TypeId)
    (ho : o.op = .call { callee := .builtin .append, args := #[s, x], argTypes := #[t, t] })
    (B : Nat) (e : TypeId) (z : Value) (bytes : Nat) (ht : P.underlying t = some (.slice e)) (hi : (P.info? e).map (fun i => (i.zero, i.size, i.bytes)) = some (some z, Rep.size α, bytes))
    (hzs : z.cells.size = Rep.size α)
    (A : Option Addr) (n c : Nat) (ls : List α) (hsv : a.eval s = .slice A n c) (hown : OwnZ w B e A n c ls)
    (A2 : Option Addr) (m c2 : Nat) (ms : List α) (hx : a.eval x = .slice A2 m c2) (hs : ∃ xs, Sl w (Rep.size α) A2 m c2 xs ∧ RowC w (fun b => blk A c ≠ some b ∧ B ≤ b) xs ms)
    (h63 : n + m ≤ maxLen) (hbytes : (n + m) * bytes ≤ 140737488355328) (hB : B ≤ w.heap.size)
    (h : ∀ A' c' w', OwnZ w' B e A' (n + m) c' (ls ++ ms) → w.grownBy w' (blk A c) → (blk A' c' = blk A c ∨ blk A' c' = some w.heap.size) → wpList P ops Q rest (a.put o.dst (.slice A' (n + m) c')) w') : wpList P ops Q (o :: rest) a w := by
  obtain ⟨A', c', w', hrun, h2, h3, h4⟩ := row_appZ P w t o.type z bytes ht hi hzs hown A2 m c2 ms hs h63 hbytes hB
  refine wpList_plain hgd fun _ hK => ?_
  unfold Oper.wp execOp
  simp only [ho, resolve, invoke, builtin, Sem.run_bind, Sem.run_pure, Result.andThen_ok, List.map_toArray, List.map_cons, List.map_nil, hsv, hx, hrun]
  exact hK _ _ (h A' c' w' h2 h3 h4)
end
end Go.Proofs.YtpffieogkfndaaaGreatDoor
