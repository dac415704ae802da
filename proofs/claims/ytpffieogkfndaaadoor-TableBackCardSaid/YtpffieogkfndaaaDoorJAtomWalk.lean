/-
  Bytes, Parts, Ops, AtomPlain, AtomWalk in one text. No condition but sizes.
-/
import Derived.Test.YtpffieogkfndaaaDoorJHeldF
import Derived.Test.YtpffieogkfndaaaDoorProg
namespace Go.Proofs.YtpffieogkfndaaaDoor
set_option maxRecDepth 20000
set_option linter.unusedVariables false
set_option linter.unusedSimpArgs false
open Go.RowKit

theorem ret_int {k : IntKind} {a b : Int} (h : a = b) : Ending.returned (.int k a) = .returned (.int k b) := by rw [h]
theorem ret_bool {a b : Bool} (h : a = b) : Ending.returned (.bool a) = .returned (.bool b) := by rw [h]
theorem infoB : (Tryd.prog.info? 5).map (fun i => (i.zero, i.size, i.bytes)) = some (some (.int .u8 0), 1, 1) := by kernel_rfl

/-- a slice of bytes that lies in memory of the call's own -/
def OwnB (w : World) (B : Nat) (A : Option Addr) (n c : Nat) (l : List UInt8) : Prop := Own w B 5 1 A n c (bc l)
theorem OwnB.sl {w : World} {B : Nat} {A : Option Addr} {n c : Nat} {l : List UInt8} (h : OwnB w B A n c l) : Sl w 1 A n c (bc l) := Own.sl h
theorem OwnB.len' {w : World} {B : Nat} {A : Option Addr} {n c : Nat} {l : List UInt8} (h : OwnB w B A n c l) : l.length = n := h.sl.lenb

/-- append of bytes to bytes of the call's own -/
theorem wpList_appB (w : World) {ops : Array Oper} {rest : List Oper} {o : Oper} {a : Act} {Q : Exit → Act → World → Prop} (hgd : o.guard = none) (s x : Operand)
    (ho : o.op = .call { callee := .builtin .append, args := #[s, x], argTypes := #[29, 29] })
    (B : Nat) (A : Option Addr) (n c : Nat) (l : List UInt8) (hsv : a.eval s = .slice A n c) (hown : OwnB w B A n c l)
    (A2 : Option Addr) (m c2 : Nat) (l2 : List UInt8) (hx : a.eval x = .slice A2 m c2) (hs : Sl w 1 A2 m c2 (bc l2))
    (hbytes : n + m ≤ 140737488355328) (hB : B ≤ w.heap.size)
    (h : ∀ A' c' w', OwnB w' B A' (n + m) c' (l ++ l2) → w.grownBy w' (blk A c) → (blk A' c' = blk A c ∨ blk A' c' = some w.heap.size) → wpList Tryd.prog ops Q rest (a.put o.dst (.slice A' (n + m) c')) w') : wpList Tryd.prog ops Q (o :: rest) a w := by
  obtain ⟨i, hi, hz, hs1, hb1⟩ := info_parts infoB
  refine wpList_app w hgd s x _ ho B _ i _ 1 1 Tryd.underlying29 hi hz hs1 hb1 rfl A n c (bc l) hsv hown A2 m c2 (bc l2) hx hs (bc_one _) (by unfold maxLen; omega) (by omega) hB ?_
  intro A' c' w' h1 h2 h3
  exact h A' c' w' (by unfold OwnB; rw [bc_append]; exact h1) h2 h3

/-- a slice of bytes as a string -/
theorem run_conv (w : World) (A : Option Addr) (n c : Nat) (l : List UInt8) (h : Sl w 1 A n c (bc l)) :
    ∃ s : ByteArray, s.toList = l ∧ (convert 29 9 (.slice A n c)).run Tryd.prog w = .ok (.string s) w := by
  have hl := h.lenb
  refine ⟨⟨l.toArray⟩, by rw [ByteArray.toList_eq], ?_⟩
  rcases Nat.eq_zero_or_pos n with h0 | h0
  · subst h0
    have e : l = [] := List.eq_nil_of_length_eq_zero hl
    subst e
    rw [run_convert_bytes_string w 29 9 5 A 0 c Tryd.underlying29 Tryd.underlying5 Tryd.underlying9]
    cases A with
    | none => simp [Conv.bytesToString]; rfl
    | some ad => simp [Conv.bytesToString, loadCells, loadCellsFrom]; rfl
  · obtain ⟨b, o, rfl, hc⟩ := h.at_ h0
    have hr := run_convert_bytes_arg (P := Tryd.prog) w 29 5 Tryd.underlying29 Tryd.underlying5 b o n c (l.map fun x => (x.toNat : Int)) (by simpa using hl) (fun i hi => by
      have hil : i < l.length := by omega
      have := hc i _ (by rw [bc_get, List.getElem?_eq_getElem hil]; rfl)
      rw [this]
      simp [List.getD, List.getElem?_eq_getElem hil]) 9 Tryd.underlying9
    rw [hr]
    congr 2
    simp only [strOfNums]
    congr 1
    simp only [List.map_map]
    congr 1
    conv => rhs; rw [← List.map_id l]
    apply List.map_congr_left
    intro x _
    simp

theorem run_sizeB (w : World) : (sizeOf 5).run Tryd.prog w = .ok 1 w := by
  obtain ⟨i, hi, _, hs, _⟩ := info_parts infoB
  simp [sizeOf, typeInfo, hi, hs]

theorem addr0 (c : Nat) (A : Option Addr) : (if c = 0 then A else A.map fun x => x.add 0) = A := by
  split
  · rfl
  · cases A <;> simp [Addr.add]
/-- p[:k] -/
theorem cutH {w : World} {A : Option Addr} {n c : Nat} {l : List UInt8} (h : Sl w 1 A n c (bc l)) (q : IntKind) (i : Int) (k : Nat) (hi : i = k) (hk : k ≤ n) :
    (∀ w' : World, (Instr.slice 29 (.slice A n c) none (some (.int q i)) none).run Tryd.prog w' = .ok (.slice A k c) w') ∧ Sl w 1 A k c (bc (l.take k)) := by
  have hcap := h.cap
  constructor
  · intro w'
    subst hi
    have := run_slice_h (P := Tryd.prog) w' 29 A n c Tryd.underlying29 q k (by omega) (by omega)
    rw [this]
    show ((sizeOf 5).run Tryd.prog w').andThen _ = _
    rw [run_sizeB]
    simp only [Result.andThen, sliced, Int.toNat_natCast, Nat.sub_zero, Nat.zero_mul]
    rw [addr0]
  · have := h.cut (lo := 0) (hi := k) (m := c) (Nat.zero_le _) hk (by omega) (Nat.le_refl _)
    simp only [List.drop_zero, Nat.sub_zero, Nat.mul_one] at this
    rw [bc_take]
    rw [addr0] at this
    exact this
/-- p[lo:hi] -/
theorem cutLH {w : World} {A : Option Addr} {n c : Nat} {l : List UInt8} (h : Sl w 1 A n c (bc l)) (q q' : IntKind) (i j : Int) (lo hi : Nat) (ei : i = lo) (ej : j = hi) (h1 : lo ≤ hi) (h2 : hi ≤ n) :
    ∃ A', (∀ w' : World, (Instr.slice 29 (.slice A n c) (some (.int q i)) (some (.int q' j)) none).run Tryd.prog w' = .ok (.slice A' (hi - lo) (c - lo)) w') ∧
      Sl w 1 A' (hi - lo) (c - lo) (bc ((l.drop lo).take (hi - lo))) ∧ ∀ B, OwnB w B A n c l → OwnB w B A' (hi - lo) (c - lo) ((l.drop lo).take (hi - lo)) := by
  have hcap := h.cap
  subst ei
  subst ej
  refine ⟨if c = lo then A else A.map (·.add (lo * 1)), fun w' => ?_, ?_, ?_⟩
  · have := run_slice_lh (P := Tryd.prog) w' 29 A n c Tryd.underlying29 q q' lo hi (by omega) (by omega) (by omega)
    rw [this]
    show ((sizeOf 5).run Tryd.prog w').andThen _ = _
    rw [run_sizeB]
    simp only [Result.andThen, sliced, Int.toNat_natCast]
  · have := h.cut (lo := lo) (hi := hi) (m := c) h1 h2 (by omega) (Nat.le_refl _)
    simp only [Nat.mul_one] at this
    rw [bc_take, bc_drop, Nat.mul_one]
    exact this
  · intro B ho
    have := Own.cut ho (lo := lo) (hi := hi) (m := c) h1 h2 (by omega) (Nat.le_refl _)
    simp only [Nat.mul_one] at this
    unfold OwnB
    rw [bc_take, bc_drop, Nat.mul_one]
    exact this
/-- p[lo:] -/
theorem cutL {w : World} {A : Option Addr} {n c : Nat} {l : List UInt8} (h : Sl w 1 A n c (bc l)) (q : IntKind) (i : Int) (lo : Nat) (ei : i = lo) (h2 : lo ≤ n) :
    ∃ A', (∀ w' : World, (Instr.slice 29 (.slice A n c) (some (.int q i)) none none).run Tryd.prog w' = .ok (.slice A' (n - lo) (c - lo)) w') ∧
      Sl w 1 A' (n - lo) (c - lo) (bc (l.drop lo)) ∧ ∀ B, OwnB w B A n c l → OwnB w B A' (n - lo) (c - lo) (l.drop lo) := by
  have hcap := h.cap
  have hl := h.lenb
  subst ei
  have e : (l.drop lo).take (n - lo) = l.drop lo := List.take_of_length_le (by simp; omega)
  obtain ⟨A', hr, h3, h4⟩ := cutLH h q q lo n lo n rfl rfl h2 (Nat.le_refl _)
  rw [e] at h3 h4
  refine ⟨A', fun w' => ?_, h3, h4⟩
  rw [← hr w', run_slice_lh (P := Tryd.prog) w' 29 A n c Tryd.underlying29 q q lo n (by omega) (by omega) (by omega),
    run_slice_l (P := Tryd.prog) w' 29 A n c Tryd.underlying29 q lo (by omega) (by omega)]
  simp only [Int.toNat_natCast]
set_option maxHeartbeats 400000 in
/-- Same: of two -/
theorem same_any (w : World) (A1 : Option Addr) (n1 c1 : Nat) (l1 : List UInt8) (A2 : Option Addr) (n2 c2 : Nat) (l2 : List UInt8) (h1 : Sl w 1 A1 n1 c1 (bc l1)) (h2 : Sl w 1 A2 n2 c2 (bc l2)) :
    Calls Tryd.prog 42 #[.slice A1 n1 c1, .slice A2 n2 c2] w fun e w' => e = .returned (.bool (l1 == l2)) ∧ w = w' := by
  obtain ⟨s1, e1, r1⟩ := run_conv w A1 n1 c1 l1 h1
  obtain ⟨s2, e2, r2⟩ := run_conv w A2 n2 c2 l2 h2
  have E1 := Lib.hid e1
  have E2 := Lib.hid e2
  clear e1 e2 h1 h2
  go_enter Tryd.func42, Tryd.ntmps42
  go_wp2
  go_ret
  refine ⟨ret_bool ?_, rfl⟩
  rw [E1.out, E2.out]
theorem same_is (w : World) (A1 : Option Addr) (n1 c1 : Nat) (l1 : List UInt8) (A2 : Option Addr) (n2 c2 : Nat) (l2 : List UInt8) (b : Bool) (hb : Hid ((l1 == l2) = b)) (h1 : Sl w 1 A1 n1 c1 (bc l1)) (h2 : Sl w 1 A2 n2 c2 (bc l2)) :
    Calls Tryd.prog 42 #[.slice A1 n1 c1, .slice A2 n2 c2] w fun e w' => e = .returned (.bool b) ∧ w = w' := by
  rw [← hb.out]
  exact same_any w A1 n1 c1 l1 A2 n2 c2 l2 h1 h2
/-- what a call that makes bytes of its own gives back: l, in memory of its own; nothing else has turned -/
def NewB (w : World) (l : List UInt8) (e : Ending) (w' : World) : Prop :=
  ∃ (A : Option Addr) (n c : Nat), e = .returned (.slice A n c) ∧ OwnB w' w.heap.size A n c l ∧ Below w.heap.size w w'

set_option maxHeartbeats 400000 in
/-- bytes.Clone -/
theorem clone_any (w : World) (A : Option Addr) (n c : Nat) (l : List UInt8) (h : Sl w 1 A n c (bc l)) (hn : n ≤ 140737488355328) :
    Calls Tryd.prog 35 #[.slice A n c] w (NewB w l) := by
  have q : ∀ (w : World) (a : Option Addr) (n c n' c' : Nat), (binOp .eql 29 (.slice a n c) (.slice none n' c')).run Tryd.prog w = .ok (.bool a.isNone) w := fun w a n c n' c' => Lib.run_eql_slice_nil w _ _ a n c n' c' Tryd.underlying29
  go_enter Tryd.func35, Tryd.ntmps35
  cases A with
  | none =>
    obtain rfl := h.none_len
    obtain rfl : l = [] := List.eq_nil_of_length_eq_zero h.lenb
    go_wp2
    go_ret
    exact ⟨none, 0, 0, rfl, Own.nil _ _ _ _ _, Below.refl _ _⟩
  | some ad =>
    have h1 := h.below (by omega) ((Below.refl w.heap.size w).alloc (Nat.le_refl _) (.cells #[] 5))
    go_wp2_with (at_builtin; refine wpList_appB _ rfl (.tmp 5) (.tmp 6) rfl w.heap.size _ 0 0 [] rfl (Own.nil _ _ _ _ _) _ n c l rfl h1 ?_ ?_ ?_)
    · omega
    · simp
    · intro A' c' w1 hown hg _
      go_wp2
      go_ret
      exact ⟨A', _, c', rfl, by simpa using hown, ((Below.refl w.heap.size w).alloc (Nat.le_refl _) _).grown hg (by simp) (by simp [blk])⟩

set_option maxHeartbeats 400000 in
/-- Cut of the references -/
theorem cut_any (w : World) (A : Option Addr) (n c : Nat) (l : List UInt8) (k : Nat) (h : Sl w 1 A n c (bc l)) (hk : k ≤ 140737488355328) :
    Calls Tryd.prog 22 #[.slice A n c, .int .i64 (k : Int)] w (NewB w (l.take k)) := by
  have h1 := h.below (by omega) ((Below.refl w.heap.size w).alloc (Nat.le_refl _) (.cells #[] 5))
  have hl := h.lenb
  have hcap := h.cap
  have hcm := h.capm
  unfold maxLen at hcm
  have Hl := Lib.hid hl
  clear hl
  by_cases hkn : k < n
  · obtain ⟨hr, hs⟩ := cutH h1 .i64 k k rfl (by omega)
    go_enter Tryd.func22, Tryd.ntmps22
    go_wp2_with (at_builtin; refine wpList_appB _ rfl (.tmp 5) (.tmp 11) rfl w.heap.size _ 0 0 [] rfl (Own.nil _ _ _ _ _) _ k c _ rfl hs ?_ ?_ ?_)
    · omega
    · simp
    · intro A' c' w1 hown hg _
      go_wp2
      go_ret
      exact ⟨A', _, c', rfl, by simpa using hown, ((Below.refl w.heap.size w).alloc (Nat.le_refl _) _).grown hg (by simp) (by simp [blk])⟩
  · obtain ⟨hr, hs⟩ := cutH h1 .i64 n n rfl (Nat.le_refl _)
    rw [List.take_of_length_le (show l.length ≤ n by have := Hl.out; omega)] at hs
    have e : l.take k = l := List.take_of_length_le (by have := Hl.out; omega)
    rw [e]
    clear e
    go_enter Tryd.func22, Tryd.ntmps22
    go_wp2_with (at_builtin; refine wpList_appB _ rfl (.tmp 5) (.tmp 11) rfl w.heap.size _ 0 0 [] rfl (Own.nil _ _ _ _ _) _ n c _ rfl hs ?_ ?_ ?_)
    · omega
    · simp
    · intro A' c' w1 hown hg _
      go_wp2
      go_ret
      exact ⟨A', _, c', rfl, by simpa using hown, ((Below.refl w.heap.size w).alloc (Nat.le_refl _) _).grown hg (by simp) (by simp [blk])⟩

/-- copy of bytes onto bytes of the call's own -/
theorem wpList_cpyB (w : World) {ops : Array Oper} {rest : List Oper} {o : Oper} {a : Act} {Q : Exit → Act → World → Prop} (hgd : o.guard = none) (s x : Operand)
    (ho : o.op = .call { callee := .builtin .copy, args := #[s, x], argTypes := #[29, 29] })
    (B : Nat) (A : Option Addr) (n c : Nat) (l : List UInt8) (hsv : a.eval s = .slice A n c) (hown : OwnB w B A n c l)
    (A2 : Option Addr) (m c2 : Nat) (l2 : List UInt8) (hx : a.eval x = .slice A2 m c2) (hs : Sl w 1 A2 m c2 (bc l2)) (hmn : m ≤ n)
    (h : ∀ w', OwnB w' B A n c (l2 ++ l.drop m) → w.grownBy w' (blk A c) → wpList Tryd.prog ops Q rest (a.put o.dst (goInt m)) w') : wpList Tryd.prog ops Q (o :: rest) a w := by
  obtain ⟨i, hi, hz, hs1, hb1⟩ := info_parts infoB
  refine wpList_cpy w hgd s x _ ho B _ i Tryd.underlying29 hi hs1 A n c (bc l) hsv hown A2 m c2 (bc l2) hx hs (bc_one _) hmn ?_
  intro w' h1 h2
  exact h w' (by unfold OwnB; rw [bc_append, bc_drop]; exact h1) h2
/-- make([]byte, n) -/
theorem wpList_mkB (w : World) {ops : Array Oper} {rest : List Oper} {o : Oper} {a : Act} {Q : Exit → Act → World → Prop} (hgd : o.guard = none) (l c : Operand) (ho : o.op = Op.makeSlice 29 l c)
    (B : Nat) (kl kc : IntKind) (L C : Int) (n : Nat) (hl : a.eval l = .int kl L) (hc : a.eval c = .int kc C) (hL : L = (n : Int)) (hC : C = (n : Int)) (b2 : n ≤ 281474976710656) (b4 : B ≤ w.heap.size)
    (h : ∀ w', OwnB w' B (some ⟨w.heap.size, 0, none⟩) n n (List.replicate n 0) → Below w.heap.size w w' → w'.heap.size = w.heap.size + 1 → wpList Tryd.prog ops Q rest (a.put o.dst (.slice (some ⟨w.heap.size, 0, none⟩) n n)) w') :
    wpList Tryd.prog ops Q (o :: rest) a w := by
  obtain ⟨i, hi, hz, hs1, hb1⟩ := info_parts infoB
  refine wpList_mk w hgd l c _ ho B _ i _ 1 Tryd.underlying29 hi hz hs1 hb1 rfl kl kc L C n hl hc hL hC (by omega) (by unfold maxLen; omega) b4 ?_
  intro w' h1 h2 h3
  refine h w' ?_ h2 h3
  unfold OwnB
  have e : bc (List.replicate n 0) = List.replicate n (.int .u8 0) := by simp [bc]
  rw [e]
  exact h1
/-- a byte of one's own, written -/
theorem OwnB.stored {w : World} {B : Nat} {g o n c : Nat} {l : List UInt8} (h : OwnB w B (some ⟨g, o, none⟩) n c l) {k : Nat} (hk : k < n) (x : UInt8) :
    OwnB (w.setCell ⟨g, o + k, none⟩ (.int .u8 (x.toNat : Int))) B (some ⟨g, o, none⟩) n c (l.set k x) := by
  have := Own.stored h hk (.int .u8 (x.toNat : Int))
  unfold OwnB
  have e : bc (l.set k x) = (bc l).set k (.int .u8 (x.toNat : Int)) := by simp [bc, List.map_set]
  rw [e]
  exact this
theorem OwnB.place {w : World} {B : Nat} {A : Option Addr} {n c : Nat} {l : List UInt8} (h : OwnB w B A n c l) {k : Nat} (hk : k < n) :
    ∃ (g o : Nat) (x : UInt8), A = some ⟨g, o, none⟩ ∧ B ≤ g ∧ g < w.heap.size ∧ l[k]? = some x ∧ w.cell? ⟨g, o + k, none⟩ = some (.int .u8 (x.toNat : Int)) ∧ w.frozen? ⟨g, o + k, none⟩ = false := by
  obtain ⟨g, o, u, h1, h2, h3, h4, h5, h6⟩ := Own.place h hk
  rw [bc_get] at h4
  obtain ⟨x, hx, rfl⟩ := Option.map_eq_some_iff.1 h4
  exact ⟨g, o, x, h1, h2, h3, hx, h5, h6⟩

end Go.Proofs.YtpffieogkfndaaaDoor

namespace Go.Proofs.YtpffieogkfndaaaDoor
set_option maxRecDepth 20000
set_option linter.unusedVariables false
set_option linter.unusedSimpArgs false
open Go.RowKit

theorem infoP : (Tryd.prog.info? 29).map (fun i => (i.zero, i.size, i.bytes)) = some (some (.slice none 0 0), 1, 24) := by kernel_rfl

/-- rows of unlike element types lie apart -/
theorem own_apart {w : World} {B B' e e' size size' n n' c c' : Nat} {A A' : Option Addr} {xs xs' : List Value} (h : Own w B e size A n c xs) (h' : Own w B' e' size' A' n' c' xs') (he : e ≠ e') : ∀ b, blk A c = some b → blk A' c' ≠ some b := by
  intro b hb hb'
  unfold blk at hb hb'
  split at hb
  · cases hb
  · split at hb'
    · cases hb'
    · obtain ⟨g, o, cur, rfl, _, hh, _⟩ := h.row (by omega)
      obtain ⟨g', o', cur', rfl, _, hh', _⟩ := h'.row (by omega)
      simp at hb hb'
      subst hb
      subst hb'
      rw [hh] at hh'
      injection hh' with hh'
      injection hh' with _ hh' _
      exact he hh'
/-- the values vs are byte slices of the texts ls, each in memory of the call's own from block B on, none in block X -/
def OwnParts (w : World) (B : Nat) (X : Option Nat) (vs : List Value) (ls : List (List UInt8)) : Prop :=
  vs.length = ls.length ∧ ∀ (i : Nat) (v : Value) (l : List UInt8), vs[i]? = some v → ls[i]? = some l → ∃ (A : Option Addr) (n c : Nat), v = Value.slice A n c ∧ OwnB w B A n c l ∧ ∀ b, blk A c = some b → X ≠ some b
section
variable {w w' : World} {B B' : Nat} {X X' : Option Nat} {vs : List Value} {ls : List (List UInt8)}
theorem OwnParts.nil (w : World) (B : Nat) (X : Option Nat) : OwnParts w B X [] [] := ⟨rfl, fun i v l hv => by simp at hv⟩
theorem OwnParts.parts (h : OwnParts w B X vs ls) : PartsOf w vs ls :=
  ⟨h.1, fun i v l hv hl => by
    obtain ⟨A, n, c, e, ho, _⟩ := h.2 i v l hv hl
    exact ⟨A, n, c, e, ho.sl⟩⟩
theorem OwnParts.below (h : OwnParts w B X vs ls) (hb : Below w.heap.size w w') : OwnParts w' B X vs ls :=
  ⟨h.1, fun i v l hv hl => by
    obtain ⟨A, n, c, e, ho, hx⟩ := h.2 i v l hv hl
    exact ⟨A, n, c, e, Own.below ho hb, hx⟩⟩
theorem OwnParts.mono (h : OwnParts w B X vs ls) (hB : B' ≤ B) : OwnParts w B' X vs ls :=
  ⟨h.1, fun i v l hv hl => by
    obtain ⟨A, n, c, e, ho, hx⟩ := h.2 i v l hv hl
    exact ⟨A, n, c, e, Own.mono ho hB, hx⟩⟩
end

end Go.Proofs.YtpffieogkfndaaaDoor

namespace Go.Proofs.YtpffieogkfndaaaDoor
open Go.RowKit
set_option maxRecDepth 20000
set_option linter.unusedVariables false
set_option linter.unusedSimpArgs false
section
variable {w w' : World} {p : Nat → Prop} {A : Option Addr} {n c : Nat}
/-- a row of lists of bytes, as parts -/
theorem RowC.parts : ∀ {xs : List Value} {ls : List (List UInt8)}, RowC w p xs ls → PartsOf w xs ls
  | _, [], h => by
    obtain rfl : _ = [] := h
    exact ⟨rfl, fun i v l hv => by simp at hv⟩
  | _, a :: ls, h => by
    obtain ⟨cs, ys, rfl, ⟨v, rfl, A, n, c, rfl, hs, _⟩, hr⟩ := h
    have ih := hr.parts
    refine ⟨by simp [ih.1], fun i u l hu hl => ?_⟩
    cases i with
    | zero =>
      simp at hu hl
      subst hu
      subst hl
      exact ⟨A, n, c, rfl, hs⟩
    | succ i =>
      simp at hu hl
      exact ih.2 i u l hu hl
theorem OwnR.parts {B : Nat} {e : TypeId} {ls : List (List UInt8)} (h : OwnR w B e A n c ls) : ∃ vs, Sl w 1 A n c vs ∧ PartsOf w vs ls := by
  obtain ⟨xs, ho, hr⟩ := h
  exact ⟨xs, ho.sl, hr.parts⟩
/-- what lies at a variable of two cells that the call has boxed in block g -/
structure Bx2 (w : World) (g : Nat) (u0 u1 : Value) : Prop where
  c0 : w.cell? ⟨g, 0, none⟩ = some u0
  c1 : w.cell? ⟨g, 1, none⟩ = some u1
theorem Bx2.below {g : Nat} {u0 u1 : Value} (h : Bx2 w g u0 u1) (hb : Below w.heap.size w w') : Bx2 w' g u0 u1 := ⟨stays hb h.c0, stays hb h.c1⟩
theorem Bx2.fresh (w : World) (u0 u1 : Value) (e : TypeId) : Bx2 (w.alloc (.cells #[u0, u1] e)) w.heap.size u0 u1 := by
  have h := boxed (Below.refl _ _) (box1 w (.cells #[u0, u1] e))
  exact ⟨h.1 0 _ rfl, h.1 1 _ rfl⟩
theorem Bx2.lt {g : Nat} {u0 u1 : Value} (h : Bx2 w g u0 u1) : g < w.heap.size := World.block_lt_of_cell? _ _ h.c0
theorem Bx2.grownO {g : Nat} {row : Option Nat} {u0 u1 : Value} (h : Bx2 w g u0 u1) (hg : w.grownBy w' row) (hne : row ≠ some g) : Bx2 w' g u0 u1 := by
  have hh : w'.heap[g]? = w.heap[g]? := hg.block g h.lt (fun e => hne e.symm)
  have hc : ∀ j : Nat, w'.cell? ⟨g, j, none⟩ = w.cell? ⟨g, j, none⟩ := fun j => World.cell?_of_block (a := ⟨g, j, none⟩) hh
  exact ⟨(hc 0).trans h.c0, (hc 1).trans h.c1⟩
end
end Go.Proofs.YtpffieogkfndaaaDoor

namespace Go.Proofs.YtpffieogkfndaaaDoor
set_option maxRecDepth 20000
set_option linter.unusedVariables false
set_option linter.unusedSimpArgs false

/-- a number's last k bytes, the greatest first -/
def beK : Nat → Nat → List UInt8
  | 0, _ => []
  | k + 1, n => UInt8.ofNat (n / 256 ^ k) :: beK k n
theorem length_beK (k n : Nat) : (beK k n).length = k := by
  induction k with
  | zero => rfl
  | succ k ih => simp [beK, ih]
theorem beK_drop (k m n : Nat) : (beK (m + k) n).drop m = beK k n := by
  induction m with
  | zero => simp
  | succ m ih =>
    rw [show m + 1 + k = (m + k) + 1 by omega]
    simp only [beK, List.drop_succ_cons]
    exact ih
theorem beK_get (k n i : Nat) (h : i < k) : (beK k n)[i]? = some (UInt8.ofNat (n / 256 ^ (k - 1 - i))) := by
  induction k generalizing i with
  | zero => omega
  | succ k ih =>
    rcases i with _ | i
    · simp [beK]
    · simp only [beK, List.getElem?_cons_succ]
      rw [ih i (by omega)]
      congr 4
      omega
/-- what is collected of a number's eight bytes, the noughts in front left out -/
def tailL (n k j : Nat) : List UInt8 := ((beK 8 n).take j).drop (8 - k)
theorem tailL_start (n k : Nat) : tailL n k 0 = [] := by simp [tailL]
theorem tailL_none (n k j : Nat) (h : j ≤ 8 - k) : tailL n k j = [] := by
  unfold tailL
  exact List.drop_eq_nil_of_le (by simp; omega)
theorem tailL_len (n k j : Nat) (hj : j ≤ 8) : (tailL n k j).length = j - (8 - k) := by
  simp [tailL, length_beK]
  omega
theorem tailL_more (n k j : Nat) (hj : j < 8) (h : 8 - k ≤ j) : tailL n k (j + 1) = tailL n k j ++ [UInt8.ofNat (n / 256 ^ (7 - j))] := by
  unfold tailL
  have hl : j < (beK 8 n).length := by rw [length_beK]; omega
  have hg : (beK 8 n)[j] = UInt8.ofNat (n / 256 ^ (7 - j)) := by
    have := beK_get 8 n j hj
    rw [List.getElem?_eq_getElem hl] at this
    rw [Option.some.inj this]
  rw [List.take_succ_eq_append_getElem hl, hg, List.drop_append_of_le_length (by rw [List.length_take, length_beK]; omega)]
theorem tailL_end (n k : Nat) (hk : k ≤ 8) : tailL n k 8 = beK k n := by
  unfold tailL
  rw [List.take_of_length_le (by rw [length_beK]; omega)]
  have := beK_drop k (8 - k) n
  rw [show 8 - k + k = 8 by omega] at this
  exact this
/-- the number of bytes -/
def beval (l : List UInt8) : Nat := l.foldl (fun n b => n * 256 + b.toNat) 0
theorem beval_from (l : List UInt8) (n : Nat) : l.foldl (fun n b => n * 256 + b.toNat) n = n * 256 ^ l.length + beval l := by
  unfold beval
  induction l generalizing n with
  | nil => simp
  | cons b r ih =>
    simp only [List.foldl_cons, List.length_cons]
    rw [ih, ih (0 * 256 + b.toNat), Nat.pow_succ]
    simp only [Nat.zero_mul, Nat.zero_add]
    rw [Nat.add_mul, Nat.mul_assoc, Nat.mul_comm 256, Nat.add_assoc]
theorem beval_cons (b : UInt8) (l : List UInt8) : beval (b :: l) = b.toNat * 256 ^ l.length + beval l := by
  have := beval_from l (0 * 256 + b.toNat)
  simp only [Nat.zero_mul, Nat.zero_add] at this
  rw [← this]
  simp [beval]
theorem beval_snoc (l : List UInt8) (b : UInt8) : beval (l ++ [b]) = beval l * 256 + b.toNat := by simp [beval]
theorem beval_lt (l : List UInt8) : beval l < 256 ^ l.length := by
  induction l with
  | nil => simp [beval]
  | cons b r ih =>
    rw [beval_cons, List.length_cons, Nat.pow_succ]
    have := b.toNat_lt
    have h : b.toNat * 256 ^ r.length + 256 ^ r.length ≤ 256 * 256 ^ r.length := by
      rw [← Nat.succ_mul]
      exact Nat.mul_le_mul_right _ (by omega)
    rw [Nat.mul_comm (256 ^ r.length)]
    omega
theorem beval_beK (k n : Nat) : beval (beK k n) = n % 256 ^ k := by
  induction k with
  | zero => simp [beK, beval, Nat.mod_one]
  | succ k ih =>
    rw [beK, beval_cons, length_beK, ih, Nat.pow_succ, Nat.mod_mul, UInt8.toNat_ofNat']
    have e : (256 : Nat) = 2 ^ 8 := rfl
    rw [← e, Nat.mul_comm (256 ^ k) (n / 256 ^ k % 256), Nat.add_comm]
theorem beval_inj : ∀ (l m : List UInt8), l.length = m.length → beval l = beval m → l = m
  | [], [], _, _ => rfl
  | a :: l, b :: m, h, e => by
    rw [beval_cons, beval_cons] at e
    have hl : l.length = m.length := by simpa using h
    rw [hl] at e
    have h1 := beval_lt l
    have h2 := beval_lt m
    rw [hl] at h1
    have hp : 0 < 256 ^ m.length := Nat.pow_pos (by omega)
    have ea : a.toNat = b.toNat := by
      have e1 : (a.toNat * 256 ^ m.length + beval l) / 256 ^ m.length = a.toNat := by
        rw [Nat.mul_comm, Nat.mul_add_div hp, Nat.div_eq_of_lt h1, Nat.add_zero]
      have e2 : (b.toNat * 256 ^ m.length + beval m) / 256 ^ m.length = b.toNat := by
        rw [Nat.mul_comm, Nat.mul_add_div hp, Nat.div_eq_of_lt h2, Nat.add_zero]
      rw [← e1, e, e2]
    have eb : beval l = beval m := by rw [ea] at e; omega
    rw [UInt8.toNat_inj.1 ea, beval_inj l m hl eb]
  | [], _ :: _, h, _ => by simp at h
  | _ :: _, [], h, _ => by simp at h

/-- how many bytes stand behind the first one of a long number -/
def nb (n : Nat) : Nat := if n < 16777216 then 3 else if n < 4294967296 then 4 else if n < 1099511627776 then 5 else if n < 281474976710656 then 6 else if n < 72057594037927936 then 7 else 8
theorem nb_range (n : Nat) : 3 ≤ nb n ∧ nb n ≤ 8 := by
  unfold nb
  repeat' split
  all_goals omega
theorem nb_lt {n : Nat} (h : n < 18446744073709551616) : n < 256 ^ nb n := by
  unfold nb
  repeat' split
  all_goals simp; omega
theorem nb_le {n : Nat} (h : 3 < nb n) : 256 ^ (nb n - 1) ≤ n := by
  unfold nb at *
  repeat' split at h
  all_goals first | omega | skip
  all_goals simp [*]
  all_goals omega
/-- a number's bytes -/
def numL (n : Nat) : List UInt8 :=
  if n < 241 then [UInt8.ofNat n]
  else if n < 2288 then [UInt8.ofNat (241 + (n - 240) / 256), UInt8.ofNat (n - 240)]
  else if n < 67824 then [249, UInt8.ofNat ((n - 2288) / 256), UInt8.ofNat (n - 2288)]
  else UInt8.ofNat (247 + nb n) :: beK (nb n) n
/-- how many bytes stand behind a first one -/
def lenL (b : Nat) : Nat := if b ≤ 240 then 0 else if b ≤ 248 then 1 else if b = 249 then 2 else b - 247
def valueL (b : Nat) (tail : List UInt8) : Nat := if b ≤ 240 then b else if b ≤ 248 then 240 + (b - 241) * 256 + beval tail else if b = 249 then 2288 + beval tail else beval tail
/-- the number in front, what stands behind, the error's number -/
def takeL (p : List UInt8) : Nat × List UInt8 × Nat :=
  match p with
  | [] => (0, [], 2)
  | b :: r =>
    if (b :: r).length < 1 + lenL b.toNat then (0, [], 2)
    else
      let n := valueL b.toNat (r.take (lenL b.toNat))
      if numL n = b :: r.take (lenL b.toNat) then (n, r.drop (lenL b.toNat), 0) else (0, [], 4)
theorem lenL_le (b : Nat) (h : b < 256) : lenL b ≤ 8 := by
  unfold lenL
  repeat' split
  all_goals omega
/-- a number's bytes say it -/
theorem num_decode (n : Nat) (h : n < 18446744073709551616) : ∃ b t, numL n = b :: t ∧ t.length = lenL b.toNat ∧ valueL b.toNat t = n := by
  by_cases h1 : n < 241
  · refine ⟨UInt8.ofNat n, [], by unfold numL; rw [if_pos h1], ?_, ?_⟩
    · simp [lenL]; omega
    · have : n % 256 = n := by omega
      simp [valueL, this]; omega
  · by_cases h2 : n < 2288
    · have e : (UInt8.ofNat (241 + (n - 240) / 256)).toNat = 241 + (n - 240) / 256 := by simp; omega
      have e2 : (UInt8.ofNat (n - 240)).toNat = (n - 240) % 256 := by simp
      refine ⟨UInt8.ofNat (241 + (n - 240) / 256), [UInt8.ofNat (n - 240)], by unfold numL; rw [if_neg h1, if_pos h2], ?_, ?_⟩
      · rw [e]; unfold lenL; rw [if_neg (by omega), if_pos (by omega)]; rfl
      · rw [e]; unfold valueL; rw [if_neg (by omega), if_pos (by omega)]
        simp only [beval, List.foldl_cons, List.foldl_nil, e2]
        omega
    · by_cases h3 : n < 67824
      · have e : (249 : UInt8).toNat = 249 := rfl
        have e1 : (UInt8.ofNat ((n - 2288) / 256)).toNat = (n - 2288) / 256 := by simp; omega
        have e2 : (UInt8.ofNat (n - 2288)).toNat = (n - 2288) % 256 := by simp
        refine ⟨249, [UInt8.ofNat ((n - 2288) / 256), UInt8.ofNat (n - 2288)], by unfold numL; rw [if_neg h1, if_neg h2, if_pos h3], ?_, ?_⟩
        · rw [e]; rfl
        · rw [e]; unfold valueL; rw [if_neg (by omega), if_neg (by omega), if_pos rfl]
          simp only [beval, List.foldl_cons, List.foldl_nil, e1, e2]
          omega
      · have hr := nb_range n
        have e : (UInt8.ofNat (247 + nb n)).toNat = 247 + nb n := by simp; omega
        refine ⟨UInt8.ofNat (247 + nb n), beK (nb n) n, by unfold numL; rw [if_neg h1, if_neg h2, if_neg h3], ?_, ?_⟩
        · rw [e, length_beK]; unfold lenL; rw [if_neg (by omega), if_neg (by omega), if_neg (by omega)]; omega
        · rw [e]; unfold valueL; rw [if_neg (by omega), if_neg (by omega), if_neg (by omega), beval_beK, Nat.mod_eq_of_lt (nb_lt h)]
theorem value_lt (b : UInt8) (t : List UInt8) (h : t.length = lenL b.toNat) : valueL b.toNat t < 18446744073709551616 := by
  have hb := b.toNat_lt
  have ht := beval_lt t
  unfold valueL
  unfold lenL at h
  by_cases h1 : b.toNat ≤ 240
  · rw [if_pos h1]; omega
  · rw [if_neg h1] at h ⊢
    by_cases h2 : b.toNat ≤ 248
    · rw [if_pos h2] at h ⊢; rw [h] at ht; omega
    · rw [if_neg h2] at h ⊢
      by_cases h3 : b.toNat = 249
      · rw [if_pos h3] at h ⊢; rw [h] at ht; omega
      · rw [if_neg h3] at h ⊢
        have : 256 ^ t.length ≤ 256 ^ 8 := Nat.pow_le_pow_right (by omega) (by omega)
        omega
/-- what has the value has the bytes -/
theorem value_inj (b : UInt8) (t u : List UInt8) (ht : t.length = lenL b.toNat) (hu : u.length = lenL b.toNat) (h : valueL b.toNat t = valueL b.toNat u) : t = u := by
  refine beval_inj t u (by omega) ?_
  unfold valueL at h
  unfold lenL at ht hu
  by_cases h1 : b.toNat ≤ 240
  · rw [if_pos h1] at ht hu
    rw [List.eq_nil_of_length_eq_zero ht, List.eq_nil_of_length_eq_zero hu]
  · rw [if_neg h1, if_neg h1] at h
    by_cases h2 : b.toNat ≤ 248
    · rw [if_pos h2, if_pos h2] at h; omega
    · rw [if_neg h2, if_neg h2] at h
      by_cases h3 : b.toNat = 249
      · rw [if_pos h3, if_pos h3] at h; omega
      · rw [if_neg h3, if_neg h3] at h; exact h
/-- the number of bytes and the first of them tell whether all are right -/
theorem num_check (b : UInt8) (t : List UInt8) (ht : t.length = lenL b.toNat) : numL (valueL b.toNat t) = b :: t ↔ (numL (valueL b.toNat t)).length = 1 + lenL b.toNat ∧ (numL (valueL b.toNat t))[0]? = some b := by
  constructor
  · intro h; rw [h]; simp [ht]; omega
  · rintro ⟨h1, h2⟩
    obtain ⟨b', t', e, hl, hv⟩ := num_decode _ (value_lt b t ht)
    rw [e] at h1 h2
    simp at h2
    subst h2
    rw [e, value_inj b' t' t hl ht hv]
theorem take_num (n : Nat) (h : n < 18446744073709551616) (l : List UInt8) : takeL (numL n ++ l) = (n, l, 0) := by
  obtain ⟨b, t, e, hl, hv⟩ := num_decode n h
  rw [e]
  simp only [List.cons_append, takeL]
  rw [← hl, List.take_left, List.drop_left, hv, if_neg (by simp; omega), if_pos e]
theorem num_len (n : Nat) : 1 ≤ (numL n).length ∧ (numL n).length ≤ 9 := by
  unfold numL
  have := nb_range n
  repeat' split
  all_goals simp [length_beK]
  all_goals omega
end Go.Proofs.YtpffieogkfndaaaDoor

namespace Go.Proofs.YtpffieogkfndaaaDoor
set_option maxRecDepth 20000
set_option linter.unusedVariables false
set_option linter.unusedSimpArgs false
open Go.RowKit

/-- what a law's literal gives: bytes laid new -/
theorem new_lit (w : World) (cur : Array Value) (l : List UInt8) (n : Nat) (hn : l.length = n) (hm : n ≤ maxLen) (hc : cur.toList = bc l) :
    NewB w l (.returned (.slice (some ⟨w.heap.size, 0, none⟩) n n)) (w.alloc (.cells cur 5)) :=
  ⟨_, n, n, rfl, Own.lit w _ _ n cur _ (Nat.le_refl _) (by simpa using hn) hm hc, (Below.refl _ _).alloc (Nat.le_refl _) _⟩

theorem num_small (n : Nat) (w : World) (h : n < 241) : Calls Tryd.prog 30 #[.int .u64 (n : Int)] w (NewB w (numL n)) := by
  have e : numL n = [UInt8.ofNat n] := by unfold numL; rw [if_pos h]
  rw [e]
  clear e
  go_enter Tryd.func30, Tryd.ntmps30
  go_wp2
  go_ret
  refine new_lit w _ _ 1 rfl (by unfold maxLen; omega) ?_
  simp [bc]
  omega
theorem num_two (n : Nat) (w : World) (h1 : 241 ≤ n) (h2 : n < 2288) : Calls Tryd.prog 30 #[.int .u64 (n : Int)] w (NewB w (numL n)) := by
  have e : numL n = [UInt8.ofNat (241 + (n - 240) / 256), UInt8.ofNat (n - 240)] := by unfold numL; rw [if_neg (by omega), if_pos h2]
  rw [e]
  clear e
  go_enter Tryd.func30, Tryd.ntmps30
  go_wp2
  go_ret
  refine new_lit w _ _ 2 rfl (by unfold maxLen; omega) ?_
  simp [bc]
  omega
theorem num_three (n : Nat) (w : World) (h1 : 2288 ≤ n) (h2 : n < 67824) : Calls Tryd.prog 30 #[.int .u64 (n : Int)] w (NewB w (numL n)) := by
  have e : numL n = [249, UInt8.ofNat ((n - 2288) / 256), UInt8.ofNat (n - 2288)] := by unfold numL; rw [if_neg (by omega), if_neg (by omega), if_pos h2]
  rw [e]
  clear e
  go_enter Tryd.func30, Tryd.ntmps30
  go_wp2
  go_ret
  refine new_lit w _ _ 3 rfl (by unfold maxLen; omega) ?_
  simp [bc]
  omega
set_option maxHeartbeats 1000000 in
theorem num_long (n : Nat) (w : World) (h1 : 67824 ≤ n) (h2 : n < 18446744073709551616) : Calls Tryd.prog 30 #[.int .u64 (n : Int)] w (NewB w (numL n)) := by
  obtain ⟨k, hk⟩ : ∃ k, nb n = k := ⟨_, rfl⟩
  have hr := nb_range n
  have e : numL n = UInt8.ofNat (247 + k) :: beK k n := by unfold numL; rw [if_neg (by omega), if_neg (by omega), if_neg (by omega), hk]
  rw [e]
  clear e
  have hlt := nb_lt h2
  have hle : 3 < k → 256 ^ (k - 1) ≤ n := fun h => by have := nb_le (n := n) (by omega); rw [hk] at this; exact this
  rw [hk] at hr hlt
  have Hk := Lib.hid hk
  have Hlt := Lib.hid hlt
  have Hle := Lib.hid hle
  clear hk hlt hle
  go_enter Tryd.func30, Tryd.ntmps30
  go_wp2
  go_loopw [3, 4] (fun a i wr => ∃ (j : Nat) (z : Int), z = 56 - 8 * (j : Int) ∧ j ≤ 8 ∧ i = .int .i64 z ∧ Below w.heap.size w wr ∧ ∃ (A : Option Addr) (m c : Nat), a = .slice A m c ∧ OwnB wr w.heap.size A m c (tailL n k j)) (fun _ i _ => (intOf i + 8).toNat)
  case atStart => exact ⟨0, 56, by omega, by omega, rfl, Below.refl _ _, none, 0, 0, rfl, by rw [tailL_start]; exact Own.nil _ _ _ _ _⟩
  case round =>
    obtain ⟨j, z, hz, hj, rfl, hbr, A, m, c, rfl, ho⟩ := hrel
    have hm := OwnB.len' ho
    rw [tailL_len n k j hj] at hm
    by_cases hj8 : j < 8
    · obtain ⟨s, hs⟩ : ∃ s : Nat, s = 56 - 8 * j := ⟨_, rfl⟩
      obtain rfl : z = (s : Int) := by omega
      have hp : 2 ^ s = 256 ^ (7 - j) := by
        rw [show (256 : Nat) = 2 ^ 8 from rfl, ← Nat.pow_mul]
        congr 1
        omega
      obtain ⟨b, hb, hbl⟩ : ∃ b, n / 2 ^ s % 256 = b ∧ b < 256 := ⟨_, rfl, Nat.mod_lt _ (by omega)⟩
      have eb : (n : Int) / 2 ^ s % 256 = (b : Int) := by rw [← hb]; simp
      have hs24 : s < 24 ∨ 24 ≤ s := by omega
      rw [hp] at hb
      have Hb := Lib.hid hb
      have Ho := Lib.hid ho
      clear ho hp hb
      by_cases hjk : j < 8 - k
      · have hm0 : m = 0 := by omega
        subst hm0
        have hb0 : b = 0 := by
          rw [← Hb.out, Nat.div_eq_of_lt]
          exact Nat.lt_of_lt_of_le Hlt.out (Nat.pow_le_pow_right (by omega) (by omega))
        subst hb0
        have hs' : 24 ≤ s := by omega
        have hs56 : s ≤ 56 := by omega
        have Hjk := Lib.hid hjk
        have Hs := Lib.hid hs
        clear hm hz hs hs24 hjk
        go_wp2
        go_roundw
        case rel => exact ⟨j + 1, _, by have := Hs.out; omega, by omega, rfl, hbr, A, 0, c, rfl, by have := Hjk.out; rw [tailL_none n k (j + 1) (by omega)]; have h := Ho.out; rw [tailL_none n k j (by omega)] at h; exact h⟩
        case measure => simp [intOf]; omega
      · have hs56 : s ≤ 56 := by omega
        have Hm := Lib.hid hm
        have Hs := Lib.hid hs
        have hm8 : m ≤ 8 := by omega
        have hmore := tailL_more n k j hj8 (by omega)
        rw [show UInt8.ofNat (n / 256 ^ (7 - j)) = UInt8.ofNat b from by rw [← Hb.out]; apply UInt8.toNat_inj.1; simp] at hmore
        have Hmore := Lib.hid hmore
        have hpush : 0 < m ∨ (m ≤ 0 ∧ ((b : Int) != 0) = true) ∨ (m ≤ 0 ∧ ((b : Int) != 0) = false ∧ s < 24) := by
          rcases Nat.eq_zero_or_pos m with h0 | h0
          · rcases Nat.eq_zero_or_pos b with hb0 | hb0
            · refine Or.inr (Or.inr ⟨by omega, by rw [hb0]; rfl, ?_⟩)
              rcases Nat.lt_or_ge 3 k with h3 | h3
              · exfalso
                have h8 := Hle.out h3
                have e7 : 7 - j = k - 1 := by omega
                have h9 := Hb.out
                rw [e7, hb0] at h9
                have hq : n / 256 ^ (k - 1) < 256 := by
                  rw [Nat.div_lt_iff_lt_mul (Nat.pow_pos (by omega)), Nat.mul_comm, ← Nat.pow_succ, show (k - 1).succ = k from by omega]
                  exact Hlt.out
                have hq2 : 1 ≤ n / 256 ^ (k - 1) := (Nat.le_div_iff_mul_le (Nat.pow_pos (by omega))).2 (by omega)
                omega
              · omega
            · exact Or.inr (Or.inl ⟨by omega, bne_iff_ne.2 (by omega)⟩)
          · exact Or.inl h0
        clear hz hs hmore hm hs24 hjk
        have hlit : Sl (wr.alloc (.cells #[.int .u8 (b : Int)] 5)) 1 (some ⟨wr.heap.size, 0, none⟩) 1 1 (bc [UInt8.ofNat b]) :=
          Sl.lit wr _ _ 1 _ _ rfl (by unfold maxLen; omega) (by simp [bc]; omega)
        have hoa : OwnB (wr.alloc (.cells #[.int .u8 (b : Int)] 5)) w.heap.size A m c (tailL n k j) := Own.below Ho.out ((Below.refl wr.heap.size wr).alloc (Nat.le_refl _) _)
        have hsz := hbr.size
        rcases hpush with h0 | ⟨h0, hbn⟩ | ⟨h0, hbn, h24⟩
        all_goals
          go_wp2_with (at_builtin; refine wpList_appB _ rfl (.tmp 54) (.tmp 56) rfl w.heap.size A m c _ rfl hoa _ 1 1 _ rfl hlit ?_ ?_ ?_)
          · omega
          · simp; omega
          intro A2 c2 w2 ho2 hg2 _
          go_wp2
          go_roundw
          case rel =>
            refine ⟨j + 1, _, by have := Hs.out; omega, by omega, rfl, (hbr.alloc hsz _).grown hg2 (by simp; omega) (fun q hq => (Own.lt hoa q hq).1), A2, _, c2, rfl, ?_⟩
            rw [Hmore.out]
            exact ho2
          case measure => simp [intOf]; omega
    · obtain rfl : j = 8 := by omega
      obtain rfl : z = -8 := by omega
      rw [tailL_end n k hr.2] at ho
      have hm' : m = k := by omega
      subst hm'
      have hlit : Own (wr.alloc (.cells #[.int .u8 (247 + (m : Int))] 5)) w.heap.size 5 1 (some ⟨wr.heap.size, 0, none⟩) 1 1 (bc [UInt8.ofNat (247 + m)]) :=
        Own.lit wr _ _ 1 _ _ hbr.size rfl (by unfold maxLen; omega) (by simp [bc]; omega)
      have hoa : OwnB (wr.alloc (.cells #[.int .u8 (247 + (m : Int))] 5)) w.heap.size A m c (beK m n) := Own.below ho ((Below.refl wr.heap.size wr).alloc (Nat.le_refl _) _)
      have hsz := hbr.size
      clear hm hz ho
      go_wp2_with (at_builtin; refine wpList_appB _ rfl (.tmp 62) (.tmp 63) rfl w.heap.size _ 1 1 [UInt8.ofNat (247 + m)] rfl hlit A m c _ rfl hoa.sl ?_ ?_ ?_)
      · omega
      · simp; omega
      intro A2 c2 w2 ho2 hg2 _
      go_wp2
      go_ret
      refine ⟨A2, _, c2, rfl, by simpa using ho2, (hbr.alloc hsz _).grown hg2 (by simp; omega) (fun q hq => (Own.lt hlit q hq).1)⟩
theorem num_any (n : Nat) (w : World) (h : n < 18446744073709551616) : Calls Tryd.prog 30 #[.int .u64 (n : Int)] w (NewB w (numL n)) := by
  rcases Nat.lt_or_ge n 241 with h1 | h1
  · exact num_small n w h1
  · rcases Nat.lt_or_ge n 2288 with h2 | h2
    · exact num_two n w h1 h2
    · rcases Nat.lt_or_ge n 67824 with h3 | h3
      · exact num_three n w h2 h3
      · exact num_long n w h3 h
end Go.Proofs.YtpffieogkfndaaaDoor
