/-
  Bytes, BytesEq, Parts, Guarded, PartsCut, Zeros, RowsStep, Ops in one text. No condition but sizes.
-/
import Derived.Test.YtpffieogkfndaaaGLib
import Derived.Test.YtpffieogkfndaaaProg
namespace Go.Proofs.Ytpffieogkfndaaa
set_option maxRecDepth 20000
open Go.RowKit

theorem ret_int {k : IntKind} {a b : Int} (h : a = b) : Ending.returned (.int k a) = .returned (.int k b) := by rw [h]
theorem ret_bool {a b : Bool} (h : a = b) : Ending.returned (.bool a) = .returned (.bool b) := by rw [h]
theorem infoB : (Try.prog.info? 5).map (fun i => (i.zero, i.size, i.bytes)) = some (some (.int .u8 0), 1, 1) := by kernel_rfl

/-- a slice of bytes that lies in memory of the call's own -/
def OwnB (w : World) (B : Nat) (A : Option Addr) (n c : Nat) (l : List UInt8) : Prop := Own w B 5 1 A n c (bc l)
theorem OwnB.sl {w : World} {B : Nat} {A : Option Addr} {n c : Nat} {l : List UInt8} (h : OwnB w B A n c l) : Sl w 1 A n c (bc l) := Own.sl h
theorem OwnB.len' {w : World} {B : Nat} {A : Option Addr} {n c : Nat} {l : List UInt8} (h : OwnB w B A n c l) : l.length = n := h.sl.lenb

/-- append of bytes to bytes of the call's own -/
theorem wpList_appB (w : World) {ops : Array Oper} {rest : List Oper} {o : Oper} {a : Act} {Q : Exit → Act → World → Prop} (hgd : o.guard = none) (s x : Operand)
    (ho : o.op = .call { callee := .builtin .append, args := #[s, x], argTypes := #[22, 22] })
    (B : Nat) (A : Option Addr) (n c : Nat) (l : List UInt8) (hsv : a.eval s = .slice A n c) (hown : OwnB w B A n c l)
    (A2 : Option Addr) (m c2 : Nat) (l2 : List UInt8) (hx : a.eval x = .slice A2 m c2) (hs : Sl w 1 A2 m c2 (bc l2))
    (hbytes : n + m ≤ 140737488355328) (hB : B ≤ w.heap.size)
    (h : ∀ A' c' w', OwnB w' B A' (n + m) c' (l ++ l2) → w.grownBy w' (blk A c) → (blk A' c' = blk A c ∨ blk A' c' = some w.heap.size) → wpList Try.prog ops Q rest (a.put o.dst (.slice A' (n + m) c')) w') : wpList Try.prog ops Q (o :: rest) a w := by
  obtain ⟨i, hi, hz, hs1, hb1⟩ := info_parts infoB
  refine wpList_app w hgd s x _ ho B _ i _ 1 1 Try.underlying22 hi hz hs1 hb1 rfl A n c (bc l) hsv hown A2 m c2 (bc l2) hx hs (bc_one _) (by unfold maxLen; omega) (by omega) hB ?_
  intro A' c' w' h1 h2 h3
  exact h A' c' w' (by unfold OwnB; rw [bc_append]; exact h1) h2 h3

/-- a slice of bytes as a string -/
theorem run_conv (w : World) (A : Option Addr) (n c : Nat) (l : List UInt8) (h : Sl w 1 A n c (bc l)) :
    ∃ s : ByteArray, s.toList = l ∧ (convert 22 9 (.slice A n c)).run Try.prog w = .ok (.string s) w := by
  have hl := h.lenb
  refine ⟨⟨l.toArray⟩, by rw [ByteArray.toList_eq], ?_⟩
  rcases Nat.eq_zero_or_pos n with h0 | h0
  · subst h0
    have e : l = [] := List.eq_nil_of_length_eq_zero hl
    subst e
    rw [run_convert_bytes_string w 22 9 5 A 0 c Try.underlying22 Try.underlying5 Try.underlying9]
    cases A with
    | none => simp [Conv.bytesToString]; rfl
    | some ad => simp [Conv.bytesToString, loadCells, loadCellsFrom]; rfl
  · obtain ⟨b, o, rfl, hc⟩ := h.at_ h0
    have hr := run_convert_bytes_arg (P := Try.prog) w 22 5 Try.underlying22 Try.underlying5 b o n c (l.map fun x => (x.toNat : Int)) (by simpa using hl) (fun i hi => by
      have hil : i < l.length := by omega
      have := hc i _ (by rw [bc_get, List.getElem?_eq_getElem hil]; rfl)
      rw [this]
      simp [List.getD, List.getElem?_eq_getElem hil]) 9 Try.underlying9
    rw [hr]
    congr 2
    simp only [strOfNums]
    congr 1
    simp only [List.map_map]
    congr 1
    conv => rhs; rw [← List.map_id l]
    apply List.map_congr_left
    intro x _
    simp

theorem infoSz : (Try.prog.info? 5).map (·.size) = some 1 := by kernel_rfl
theorem run_sizeB (w : World) : (sizeOf 5).run Try.prog w = .ok 1 w := by
  obtain ⟨i, hi, _, hs, _⟩ := info_parts infoB
  simp [sizeOf, typeInfo, hi, hs]

theorem addr0 (c : Nat) (A : Option Addr) : (if c = 0 then A else A.map fun x => x.add 0) = A := by
  split
  · rfl
  · cases A <;> simp [Addr.add]
/-- p[:k], up to the capacity -/
theorem cutC {A : Option Addr} {n c : Nat} (q : IntKind) (i : Int) (k : Nat) (hi : i = k) (hk : k ≤ c) (w' : World) :
    (Instr.slice 22 (.slice A n c) none (some (.int q i)) none).run Try.prog w' = .ok (.slice A k c) w' := by
  subst hi
  have := run_slice_h (P := Try.prog) w' 22 A n c Try.underlying22 q k (by omega) (by omega)
  rw [this]
  show ((sizeOf 5).run Try.prog w').andThen _ = _
  rw [run_sizeB]
  simp only [Result.andThen, sliced, Int.toNat_natCast, Nat.sub_zero, Nat.zero_mul]
  rw [addr0]
/-- p[:k] -/
theorem cutH {w : World} {A : Option Addr} {n c : Nat} {l : List UInt8} (h : Sl w 1 A n c (bc l)) (q : IntKind) (i : Int) (k : Nat) (hi : i = k) (hk : k ≤ n) :
    (∀ w' : World, (Instr.slice 22 (.slice A n c) none (some (.int q i)) none).run Try.prog w' = .ok (.slice A k c) w') ∧ Sl w 1 A k c (bc (l.take k)) := by
  have hcap := h.cap
  constructor
  · intro w'
    subst hi
    have := run_slice_h (P := Try.prog) w' 22 A n c Try.underlying22 q k (by omega) (by omega)
    rw [this]
    show ((sizeOf 5).run Try.prog w').andThen _ = _
    rw [run_sizeB]
    simp only [Result.andThen, sliced, Int.toNat_natCast, Nat.sub_zero, Nat.zero_mul]
    rw [addr0]
  · have := h.cut (lo := 0) (hi := k) (m := c) (Nat.zero_le _) hk (by omega) (Nat.le_refl _)
    simp only [List.drop_zero, Nat.sub_zero, Nat.mul_one] at this
    rw [bc_take]
    rw [addr0] at this
    exact this
/-- p[lo:hi] -/
theorem cutLH {w : World} {A : Option Addr} {n c : Nat} {l : List UInt8} (h : Sl w 1 A n c (bc l)) (q q' : IntKind) (i j : Int) (lo hi : Nat) (ei : i = lo) (ej : j = hi) (h1 : lo ≤ hi) (h2 : hi ≤ n) :
    ∃ A', (∀ w' : World, (Instr.slice 22 (.slice A n c) (some (.int q i)) (some (.int q' j)) none).run Try.prog w' = .ok (.slice A' (hi - lo) (c - lo)) w') ∧
      Sl w 1 A' (hi - lo) (c - lo) (bc ((l.drop lo).take (hi - lo))) ∧ ∀ B, OwnB w B A n c l → OwnB w B A' (hi - lo) (c - lo) ((l.drop lo).take (hi - lo)) := by
  have hcap := h.cap
  subst ei
  subst ej
  refine ⟨if c = lo then A else A.map (·.add (lo * 1)), fun w' => ?_, ?_, ?_⟩
  · have := run_slice_lh (P := Try.prog) w' 22 A n c Try.underlying22 q q' lo hi (by omega) (by omega) (by omega)
    rw [this]
    show ((sizeOf 5).run Try.prog w').andThen _ = _
    rw [run_sizeB]
    simp only [Result.andThen, sliced, Int.toNat_natCast]
  · have := h.cut (lo := lo) (hi := hi) (m := c) h1 h2 (by omega) (Nat.le_refl _)
    simp only [Nat.mul_one] at this
    rw [bc_take, bc_drop, Nat.mul_one]
    exact this
  · intro B ho
    have := Own.cut ho (lo := lo) (hi := hi) (m := c) h1 h2 (by omega) (Nat.le_refl _)
    simp only [Nat.mul_one] at this
    unfold OwnB
    rw [bc_take, bc_drop, Nat.mul_one]
    exact this
/-- p[lo:] -/
theorem cutL {w : World} {A : Option Addr} {n c : Nat} {l : List UInt8} (h : Sl w 1 A n c (bc l)) (q : IntKind) (i : Int) (lo : Nat) (ei : i = lo) (h2 : lo ≤ n) :
    ∃ A', (∀ w' : World, (Instr.slice 22 (.slice A n c) (some (.int q i)) none none).run Try.prog w' = .ok (.slice A' (n - lo) (c - lo)) w') ∧
      Sl w 1 A' (n - lo) (c - lo) (bc (l.drop lo)) ∧ ∀ B, OwnB w B A n c l → OwnB w B A' (n - lo) (c - lo) (l.drop lo) := by
  have hcap := h.cap
  have hl := h.lenb
  subst ei
  have e : (l.drop lo).take (n - lo) = l.drop lo := List.take_of_length_le (by simp; omega)
  obtain ⟨A', hr, h3, h4⟩ := cutLH h q q lo n lo n rfl rfl h2 (Nat.le_refl _)
  rw [e] at h3 h4
  refine ⟨A', fun w' => ?_, h3, h4⟩
  rw [← hr w', run_slice_lh (P := Try.prog) w' 22 A n c Try.underlying22 q q lo n (by omega) (by omega) (by omega),
    run_slice_l (P := Try.prog) w' 22 A n c Try.underlying22 q lo (by omega) (by omega)]
  simp only [Int.toNat_natCast]
set_option maxHeartbeats 400000 in
/-- Same: of two -/
theorem same_any (w : World) (A1 : Option Addr) (n1 c1 : Nat) (l1 : List UInt8) (A2 : Option Addr) (n2 c2 : Nat) (l2 : List UInt8) (h1 : Sl w 1 A1 n1 c1 (bc l1)) (h2 : Sl w 1 A2 n2 c2 (bc l2)) :
    Calls Try.prog 16 #[.slice A1 n1 c1, .slice A2 n2 c2] w fun e w' => e = .returned (.bool (l1 == l2)) ∧ w = w' := by
  obtain ⟨s1, e1, r1⟩ := run_conv w A1 n1 c1 l1 h1
  obtain ⟨s2, e2, r2⟩ := run_conv w A2 n2 c2 l2 h2
  have E1 := Lib.hid e1
  have E2 := Lib.hid e2
  clear e1 e2 h1 h2
  go_enter Try.func16, Try.ntmps16
  go_wp2
  go_ret
  refine ⟨ret_bool ?_, rfl⟩
  rw [E1.out, E2.out]
theorem same_is (w : World) (A1 : Option Addr) (n1 c1 : Nat) (l1 : List UInt8) (A2 : Option Addr) (n2 c2 : Nat) (l2 : List UInt8) (b : Bool) (hb : Hid ((l1 == l2) = b)) (h1 : Sl w 1 A1 n1 c1 (bc l1)) (h2 : Sl w 1 A2 n2 c2 (bc l2)) :
    Calls Try.prog 16 #[.slice A1 n1 c1, .slice A2 n2 c2] w fun e w' => e = .returned (.bool b) ∧ w = w' := by
  rw [← hb.out]
  exact same_any w A1 n1 c1 l1 A2 n2 c2 l2 h1 h2
/-- what a call that makes bytes of its own gives back: l, in memory of its own; nothing else has turned -/
def NewB (w : World) (l : List UInt8) (e : Ending) (w' : World) : Prop :=
  ∃ (A : Option Addr) (n c : Nat), e = .returned (.slice A n c) ∧ OwnB w' w.heap.size A n c l ∧ Below w.heap.size w w'

set_option maxHeartbeats 400000 in
/-- bytes.Clone -/
theorem clone_any (w : World) (A : Option Addr) (n c : Nat) (l : List UInt8) (h : Sl w 1 A n c (bc l)) (hn : n ≤ 140737488355328) :
    Calls Try.prog 39 #[.slice A n c] w (NewB w l) := by
  have q : ∀ (w : World) (a : Option Addr) (n c n' c' : Nat), (binOp .eql 22 (.slice a n c) (.slice none n' c')).run Try.prog w = .ok (.bool a.isNone) w := fun w a n c n' c' => Lib.run_eql_slice_nil w _ _ a n c n' c' Try.underlying22
  go_enter Try.func39, Try.ntmps39
  cases A with
  | none =>
    obtain rfl := h.none_len
    obtain rfl : l = [] := List.eq_nil_of_length_eq_zero h.lenb
    go_wp2
    go_ret
    exact ⟨none, 0, 0, rfl, Own.nil _ _ _ _ _, Below.refl _ _⟩
  | some ad =>
    have h1 := h.below (by omega) ((Below.refl w.heap.size w).alloc (Nat.le_refl _) (.cells #[] 5))
    go_wp2_with (at_builtin; refine wpList_appB _ rfl (.tmp 5) (.tmp 6) rfl w.heap.size _ 0 0 [] rfl (Own.nil _ _ _ _ _) _ n c l rfl h1 ?_ ?_ ?_)
    · omega
    · simp
    · intro A' c' w1 hown hg _
      go_wp2
      go_ret
      exact ⟨A', _, c', rfl, by simpa using hown, ((Below.refl w.heap.size w).alloc (Nat.le_refl _) _).grown hg (by simp) (by simp [blk])⟩

set_option maxHeartbeats 400000 in
/-- Copy of the references -/
theorem copy_any (w : World) (A : Option Addr) (n c : Nat) (l : List UInt8) (h : Sl w 1 A n c (bc l)) (hn : n ≤ 140737488355328) :
    Calls Try.prog 7 #[.slice A n c] w (NewB w l) := by
  have h1 := h.below (by omega) ((Below.refl w.heap.size w).alloc (Nat.le_refl _) (.cells #[] 5))
  go_enter Try.func7, Try.ntmps7
  go_wp2_with (at_builtin; refine wpList_appB _ rfl (.tmp 3) (.tmp 4) rfl w.heap.size _ 0 0 [] rfl (Own.nil _ _ _ _ _) _ n c l rfl h1 ?_ ?_ ?_)
  · omega
  · simp
  · intro A' c' w1 hown hg _
    go_wp2
    go_ret
    exact ⟨A', _, c', rfl, by simpa using hown, ((Below.refl w.heap.size w).alloc (Nat.le_refl _) _).grown hg (by simp) (by simp [blk])⟩

set_option maxHeartbeats 400000 in
/-- Cut of the references -/
theorem cut_any (w : World) (A : Option Addr) (n c : Nat) (l : List UInt8) (k : Nat) (h : Sl w 1 A n c (bc l)) (hk : k ≤ 140737488355328) :
    Calls Try.prog 6 #[.slice A n c, .int .i64 (k : Int)] w (NewB w (l.take k)) := by
  have h1 := h.below (by omega) ((Below.refl w.heap.size w).alloc (Nat.le_refl _) (.cells #[] 5))
  have hl := h.lenb
  have hcap := h.cap
  have hcm := h.capm
  unfold maxLen at hcm
  have Hl := Lib.hid hl
  clear hl
  by_cases hkn : k < n
  · obtain ⟨hr, hs⟩ := cutH h1 .i64 k k rfl (by omega)
    go_enter Try.func6, Try.ntmps6
    go_wp2_with (at_builtin; refine wpList_appB _ rfl (.tmp 5) (.tmp 11) rfl w.heap.size _ 0 0 [] rfl (Own.nil _ _ _ _ _) _ k c _ rfl hs ?_ ?_ ?_)
    · omega
    · simp
    · intro A' c' w1 hown hg _
      go_wp2
      go_ret
      exact ⟨A', _, c', rfl, by simpa using hown, ((Below.refl w.heap.size w).alloc (Nat.le_refl _) _).grown hg (by simp) (by simp [blk])⟩
  · obtain ⟨hr, hs⟩ := cutH h1 .i64 n n rfl (Nat.le_refl _)
    rw [List.take_of_length_le (show l.length ≤ n by have := Hl.out; omega)] at hs
    have e : l.take k = l := List.take_of_length_le (by have := Hl.out; omega)
    rw [e]
    clear e
    go_enter Try.func6, Try.ntmps6
    go_wp2_with (at_builtin; refine wpList_appB _ rfl (.tmp 5) (.tmp 11) rfl w.heap.size _ 0 0 [] rfl (Own.nil _ _ _ _ _) _ n c _ rfl hs ?_ ?_ ?_)
    · omega
    · simp
    · intro A' c' w1 hown hg _
      go_wp2
      go_ret
      exact ⟨A', _, c', rfl, by simpa using hown, ((Below.refl w.heap.size w).alloc (Nat.le_refl _) _).grown hg (by simp) (by simp [blk])⟩

/-- copy of bytes onto bytes of the call's own -/
theorem wpList_cpyB (w : World) {ops : Array Oper} {rest : List Oper} {o : Oper} {a : Act} {Q : Exit → Act → World → Prop} (hgd : o.guard = none) (s x : Operand)
    (ho : o.op = .call { callee := .builtin .copy, args := #[s, x], argTypes := #[22, 22] })
    (B : Nat) (A : Option Addr) (n c : Nat) (l : List UInt8) (hsv : a.eval s = .slice A n c) (hown : OwnB w B A n c l)
    (A2 : Option Addr) (m c2 : Nat) (l2 : List UInt8) (hx : a.eval x = .slice A2 m c2) (hs : Sl w 1 A2 m c2 (bc l2)) (hmn : m ≤ n)
    (h : ∀ w', OwnB w' B A n c (l2 ++ l.drop m) → w.grownBy w' (blk A c) → wpList Try.prog ops Q rest (a.put o.dst (goInt m)) w') : wpList Try.prog ops Q (o :: rest) a w := by
  obtain ⟨i, hi, hz, hs1, hb1⟩ := info_parts infoB
  refine wpList_cpy w hgd s x _ ho B _ i Try.underlying22 hi hs1 A n c (bc l) hsv hown A2 m c2 (bc l2) hx hs (bc_one _) hmn ?_
  intro w' h1 h2
  exact h w' (by unfold OwnB; rw [bc_append, bc_drop]; exact h1) h2
/-- make([]byte, n) -/
theorem wpList_mkB (w : World) {ops : Array Oper} {rest : List Oper} {o : Oper} {a : Act} {Q : Exit → Act → World → Prop} (hgd : o.guard = none) (l c : Operand) (ho : o.op = Op.makeSlice 22 l c)
    (B : Nat) (kl kc : IntKind) (L C : Int) (n : Nat) (hl : a.eval l = .int kl L) (hc : a.eval c = .int kc C) (hL : L = (n : Int)) (hC : C = (n : Int)) (b2 : n ≤ 281474976710656) (b4 : B ≤ w.heap.size)
    (h : ∀ w', OwnB w' B (some ⟨w.heap.size, 0, none⟩) n n (List.replicate n 0) → Below w.heap.size w w' → w'.heap.size = w.heap.size + 1 → wpList Try.prog ops Q rest (a.put o.dst (.slice (some ⟨w.heap.size, 0, none⟩) n n)) w') :
    wpList Try.prog ops Q (o :: rest) a w := by
  obtain ⟨i, hi, hz, hs1, hb1⟩ := info_parts infoB
  refine wpList_mk w hgd l c _ ho B _ i _ 1 Try.underlying22 hi hz hs1 hb1 rfl kl kc L C n hl hc hL hC (by omega) (by unfold maxLen; omega) b4 ?_
  intro w' h1 h2 h3
  refine h w' ?_ h2 h3
  unfold OwnB
  have e : bc (List.replicate n 0) = List.replicate n (.int .u8 0) := by simp [bc]
  rw [e]
  exact h1
/-- a byte of one's own, written -/
theorem OwnB.stored {w : World} {B : Nat} {g o n c : Nat} {l : List UInt8} (h : OwnB w B (some ⟨g, o, none⟩) n c l) {k : Nat} (hk : k < n) (x : UInt8) :
    OwnB (w.setCell ⟨g, o + k, none⟩ (.int .u8 (x.toNat : Int))) B (some ⟨g, o, none⟩) n c (l.set k x) := by
  have := Own.stored h hk (.int .u8 (x.toNat : Int))
  unfold OwnB
  have e : bc (l.set k x) = (bc l).set k (.int .u8 (x.toNat : Int)) := by simp [bc, List.map_set]
  rw [e]
  exact this
theorem OwnB.place {w : World} {B : Nat} {A : Option Addr} {n c : Nat} {l : List UInt8} (h : OwnB w B A n c l) {k : Nat} (hk : k < n) :
    ∃ (g o : Nat) (x : UInt8), A = some ⟨g, o, none⟩ ∧ B ≤ g ∧ g < w.heap.size ∧ l[k]? = some x ∧ w.cell? ⟨g, o + k, none⟩ = some (.int .u8 (x.toNat : Int)) ∧ w.frozen? ⟨g, o + k, none⟩ = false := by
  obtain ⟨g, o, u, h1, h2, h3, h4, h5, h6⟩ := Own.place h hk
  rw [bc_get] at h4
  obtain ⟨x, hx, rfl⟩ := Option.map_eq_some_iff.1 h4
  exact ⟨g, o, x, h1, h2, h3, hx, h5, h6⟩

end Go.Proofs.Ytpffieogkfndaaa

namespace Go.Proofs.Ytpffieogkfndaaa
set_option maxRecDepth 20000
open Go.RowKit

set_option maxHeartbeats 400000 in
/-- bytes.Equal: of two -/
theorem equal_any (w : World) (A1 : Option Addr) (n1 c1 : Nat) (l1 : List UInt8) (A2 : Option Addr) (n2 c2 : Nat) (l2 : List UInt8) (h1 : Sl w 1 A1 n1 c1 (bc l1)) (h2 : Sl w 1 A2 n2 c2 (bc l2)) :
    Calls Try.prog 23 #[.slice A1 n1 c1, .slice A2 n2 c2] w fun e w' => e = .returned (.bool (l1 == l2)) ∧ w = w' := by
  obtain ⟨s1, e1, r1⟩ := run_conv w A1 n1 c1 l1 h1
  obtain ⟨s2, e2, r2⟩ := run_conv w A2 n2 c2 l2 h2
  have E1 := Lib.hid e1
  have E2 := Lib.hid e2
  clear e1 e2 h1 h2
  go_enter Try.func23, Try.ntmps23
  go_wp2
  go_ret
  refine ⟨ret_bool ?_, rfl⟩
  rw [E1.out, E2.out]

theorem equal_is (w : World) (A1 : Option Addr) (n1 c1 : Nat) (l1 : List UInt8) (A2 : Option Addr) (n2 c2 : Nat) (l2 : List UInt8) (b : Bool) (hb : Hid ((l1 == l2) = b)) (h1 : Sl w 1 A1 n1 c1 (bc l1)) (h2 : Sl w 1 A2 n2 c2 (bc l2)) :
    Calls Try.prog 23 #[.slice A1 n1 c1, .slice A2 n2 c2] w fun e w' => e = .returned (.bool b) ∧ w = w' := by
  rw [← hb.out]
  exact equal_any w A1 n1 c1 l1 A2 n2 c2 l2 h1 h2
end Go.Proofs.Ytpffieogkfndaaa

namespace Go.Proofs.Ytpffieogkfndaaa
set_option maxRecDepth 20000
open Go.RowKit

theorem infoP : (Try.prog.info? 22).map (fun i => (i.zero, i.size, i.bytes)) = some (some (.slice none 0 0), 1, 24) := by kernel_rfl

/-- rows of unlike element types lie apart -/
theorem own_apart {w : World} {B B' e e' size size' n n' c c' : Nat} {A A' : Option Addr} {xs xs' : List Value} (h : Own w B e size A n c xs) (h' : Own w B' e' size' A' n' c' xs') (he : e ≠ e') : ∀ b, blk A c = some b → blk A' c' ≠ some b := by
  intro b hb hb'
  unfold blk at hb hb'
  split at hb
  · cases hb
  · split at hb'
    · cases hb'
    · obtain ⟨g, o, cur, rfl, _, hh, _⟩ := h.row (by omega)
      obtain ⟨g', o', cur', rfl, _, hh', _⟩ := h'.row (by omega)
      simp at hb hb'
      subst hb
      subst hb'
      rw [hh] at hh'
      injection hh' with hh'
      injection hh' with _ hh' _
      exact he hh'
theorem blk_lt {w : World} {B e size n c : Nat} {A : Option Addr} {xs : List Value} (h : Own w B e size A n c xs) : blk A c ≠ some w.heap.size := by
  intro e
  have := (h.lt _ e).2
  omega

/-- the values vs are byte slices of the texts ls, each in memory of the call's own from block B on, none in block X -/
def OwnParts (w : World) (B : Nat) (X : Option Nat) (vs : List Value) (ls : List (List UInt8)) : Prop :=
  vs.length = ls.length ∧ ∀ (i : Nat) (v : Value) (l : List UInt8), vs[i]? = some v → ls[i]? = some l → ∃ (A : Option Addr) (n c : Nat), v = Value.slice A n c ∧ OwnB w B A n c l ∧ ∀ b, blk A c = some b → X ≠ some b
section
variable {w w' : World} {B B' : Nat} {X X' : Option Nat} {vs : List Value} {ls : List (List UInt8)}
theorem OwnParts.nil (w : World) (B : Nat) (X : Option Nat) : OwnParts w B X [] [] := ⟨rfl, fun i v l hv => by simp at hv⟩
theorem OwnParts.parts (h : OwnParts w B X vs ls) : PartsOf w vs ls :=
  ⟨h.1, fun i v l hv hl => by
    obtain ⟨A, n, c, e, ho, _⟩ := h.2 i v l hv hl
    exact ⟨A, n, c, e, ho.sl⟩⟩
theorem OwnParts.below (h : OwnParts w B X vs ls) (hb : Below w.heap.size w w') : OwnParts w' B X vs ls :=
  ⟨h.1, fun i v l hv hl => by
    obtain ⟨A, n, c, e, ho, hx⟩ := h.2 i v l hv hl
    exact ⟨A, n, c, e, Own.below ho hb, hx⟩⟩
theorem OwnParts.mono (h : OwnParts w B X vs ls) (hB : B' ≤ B) : OwnParts w B' X vs ls :=
  ⟨h.1, fun i v l hv hl => by
    obtain ⟨A, n, c, e, ho, hx⟩ := h.2 i v l hv hl
    exact ⟨A, n, c, e, Own.mono ho hB, hx⟩⟩
/-- block X was written -/
theorem OwnParts.wrote (h : OwnParts w B X vs ls) (hg : w.grownBy w' X) : OwnParts w' B X vs ls :=
  ⟨h.1, fun i v l hv hl => by
    obtain ⟨A, n, c, e, ho, hx⟩ := h.2 i v l hv hl
    exact ⟨A, n, c, e, Own.grown ho hg hx, hx⟩⟩
/-- a row of another element type was written -/
theorem OwnParts.wroteRow (h : OwnParts w B X vs ls) {e size n c : Nat} {A : Option Addr} {xs : List Value} (hr : Own w B' e size A n c xs) (he : e ≠ 5) (hg : w.grownBy w' (blk A c)) : OwnParts w' B X vs ls :=
  ⟨h.1, fun i v l hv hl => by
    obtain ⟨A, n, c, e, ho, hx⟩ := h.2 i v l hv hl
    exact ⟨A, n, c, e, Own.grown ho hg (fun b hb => own_apart ho hr (Ne.symm he) b hb), hx⟩⟩
/-- another block is kept away from: an old one's successor -/
theorem OwnParts.turn (h : OwnParts w B X vs ls) (hX : X' = X ∨ X' = some w.heap.size) : OwnParts w B X' vs ls :=
  ⟨h.1, fun i v l hv hl => by
    obtain ⟨A, n, c, e, ho, hx⟩ := h.2 i v l hv hl
    refine ⟨A, n, c, e, ho, fun b hb => ?_⟩
    rcases hX with rfl | rfl
    · exact hx b hb
    · intro e
      have := (Own.lt ho b hb).2
      simp at e
      omega⟩
/-- block X was written, or left for a new one -/
theorem OwnParts.moved (h : OwnParts w B X vs ls) (hg : w.grownBy w' X) (hX : X' = X ∨ X' = some w.heap.size) : OwnParts w' B X' vs ls :=
  ⟨h.1, fun i v l hv hl => by
    obtain ⟨A, n, c, e, ho, hx⟩ := h.2 i v l hv hl
    obtain ⟨A', n', c', e', _, hx'⟩ := (h.turn hX).2 i v l hv hl
    subst e
    injection e' with e1 e2 e3
    subst e1
    subst e3
    exact ⟨A, n, c, rfl, Own.grown ho hg hx, hx'⟩⟩
theorem OwnParts.snoc (h : OwnParts w B X vs ls) {A : Option Addr} {n c : Nat} {l : List UInt8} (ho : OwnB w B A n c l) (hx : ∀ b, blk A c = some b → X ≠ some b) : OwnParts w B X (vs ++ [.slice A n c]) (ls ++ [l]) :=
  ⟨by simp [h.1], fun i v x hv hl => by
    have hlen := h.1
    rcases Nat.lt_or_ge i vs.length with hi | hi
    · rw [List.getElem?_append_left hi] at hv
      rw [List.getElem?_append_left (by omega)] at hl
      exact h.2 i v x hv hl
    · rw [List.getElem?_append_right hi] at hv
      rw [List.getElem?_append_right (by omega)] at hl
      rw [← hlen] at hl
      rcases hj : i - vs.length with _ | j
      · rw [hj] at hv hl
        simp at hv hl
        subst hv
        subst hl
        exact ⟨A, n, c, rfl, ho, hx⟩
      · rw [hj] at hv
        simp at hv⟩
end

/-- a row of byte slices of the call's own -/
def OwnP (w : World) (B : Nat) (A : Option Addr) (n c : Nat) (vs : List Value) : Prop := Own w B 22 1 A n c vs
/-- append of one slice to a row of slices of the call's own -/
theorem wpList_appP (w : World) {ops : Array Oper} {rest : List Oper} {o : Oper} {a : Act} {Q : Exit → Act → World → Prop} (hgd : o.guard = none) (s x : Operand)
    (ho : o.op = .call { callee := .builtin .append, args := #[s, x], argTypes := #[77, 77] })
    (B : Nat) (A : Option Addr) (n c : Nat) (vs : List Value) (hsv : a.eval s = .slice A n c) (hown : OwnP w B A n c vs)
    (A2 : Option Addr) (m c2 : Nat) (news : List Value) (hx : a.eval x = .slice A2 m c2) (hs : Sl w 1 A2 m c2 news) (h1 : ∀ u ∈ news, u.oneCell' = true)
    (hbytes : n + m ≤ 4398046511104) (hB : B ≤ w.heap.size)
    (h : ∀ A' c' w', OwnP w' B A' (n + m) c' (vs ++ news) → w.grownBy w' (blk A c) → (blk A' c' = blk A c ∨ blk A' c' = some w.heap.size) → wpList Try.prog ops Q rest (a.put o.dst (.slice A' (n + m) c')) w') : wpList Try.prog ops Q (o :: rest) a w := by
  obtain ⟨i, hi, hz, hs1, hb1⟩ := info_parts infoP
  exact wpList_app w hgd s x _ ho B _ i _ 1 24 Try.underlying77 hi hz hs1 hb1 rfl A n c vs hsv hown A2 m c2 news hx hs h1 (by unfold maxLen; omega) (by omega) hB h
theorem one_cell (A : Option Addr) (n c : Nat) : ∀ u ∈ [Value.slice A n c], u.oneCell' = true := by
  intro u hu
  simp at hu
  subst hu
  rfl
end Go.Proofs.Ytpffieogkfndaaa

namespace Go.Proofs.Ytpffieogkfndaaa
set_option maxRecDepth 20000
open Go.RowKit

theorem wpList_wanted {P : Program} {w : World} {ops : Array Oper} {rest : List Oper} {o : Oper} {a : Act} {Q : Exit → Act → World → Prop} (hg : Region.wanted o (yielded ops a.tmps) = true)
    (h : ∀ K : Act → World → Prop, (∀ a w, wpList P ops Q rest a w → K a w) → o.wp P a w K Q) : wpList P ops Q (o :: rest) a w :=
  wpList_step fun K hK => by rw [if_pos hg]; exact h K hK
/-- append of bytes to bytes of the call's own -/
theorem wpList_appBg (w : World) {ops : Array Oper} {rest : List Oper} {o : Oper} {a : Act} {Q : Exit → Act → World → Prop} (hgd : Region.wanted o (yielded ops a.tmps) = true) (s x : Operand)
    (ho : o.op = .call { callee := .builtin .append, args := #[s, x], argTypes := #[22, 22] })
    (B : Nat) (A : Option Addr) (n c : Nat) (l : List UInt8) (hsv : a.eval s = .slice A n c) (hown : OwnB w B A n c l)
    (A2 : Option Addr) (m c2 : Nat) (l2 : List UInt8) (hx : a.eval x = .slice A2 m c2) (hs : Sl w 1 A2 m c2 (bc l2))
    (hbytes : n + m ≤ 140737488355328) (hB : B ≤ w.heap.size)
    (h : ∀ A' c' w', OwnB w' B A' (n + m) c' (l ++ l2) → w.grownBy w' (blk A c) → (blk A' c' = blk A c ∨ blk A' c' = some w.heap.size) → wpList Try.prog ops Q rest (a.put o.dst (.slice A' (n + m) c')) w') : wpList Try.prog ops Q (o :: rest) a w := by
  obtain ⟨i, hi, hz, hs1, hb1⟩ := info_parts infoB
  refine wpList_wanted hgd fun _ hK => ?_
  obtain ⟨A', c', w', hrun, h2, h3, h4⟩ := run_append_own2 (P := Try.prog) w B 22 o.type _ i _ 1 1 Try.underlying22 hi hz hs1 hb1 rfl A n c (bc l) hown A2 m c2 (bc l2) hs (bc_one _) (by unfold maxLen; omega) (by omega) hB
  unfold Oper.wp execOp
  simp only [ho, resolve, invoke, builtin, Sem.run_bind, Sem.run_pure, Result.andThen_ok, List.map_toArray, List.map_cons, List.map_nil, hsv, hx, hrun]
  exact hK _ _ (h A' c' w' (by unfold OwnB; rw [bc_append]; exact h2) h3 h4)
/-- make([]byte, n), as an equation -/
theorem run_mkB (w : World) (B : Nat) (n : Nat) (i j : Int) (ei : i = n) (ej : j = n) (b2 : n ≤ 281474976710656) (b4 : B ≤ w.heap.size) :
    ∃ w', (Instr.makeSlice 22 (.int .i64 i) (.int .i64 j)).run Try.prog w = .ok (.slice (some ⟨w.heap.size, 0, none⟩) n n) w' ∧ OwnB w' B (some ⟨w.heap.size, 0, none⟩) n n (List.replicate n 0) ∧ Below w.heap.size w w' := by
  subst ei
  subst ej
  obtain ⟨i, hi, hz, hs1, hb1⟩ := info_parts infoB
  have hr := run_make (P := Try.prog) w 22 5 i (.int .u8 0) Try.underlying22 hi hz .i64 .i64 n n (by omega) (by omega) (by rw [hb1]; omega) (by omega)
  simp only [Int.toNat_natCast, hs1, Nat.mul_one] at hr
  refine ⟨_, hr, ?_, (Below.refl _ _).alloc (Nat.le_refl _) _⟩
  refine Own.fresh w B _ 1 n n _ _ b4 (Nat.le_refl _) (by unfold maxLen; omega) ?_ ?_ ?_
  · simp [size_madeCells]
  · simp
  · rw [show (Value.int .u8 0).cells = #[.int .u8 0] from rfl, toList_madeCells_one]
    simp [bc]
end Go.Proofs.Ytpffieogkfndaaa

namespace Go.Proofs.Ytpffieogkfndaaa
set_option maxRecDepth 20000
open Go.RowKit

theorem run_sizeP (w : World) : (sizeOf 22).run Try.prog w = .ok 1 w := by
  obtain ⟨i, hi, _, hs, _⟩ := info_parts infoP
  simp [sizeOf, typeInfo, hi, hs]
theorem PartsOf.take {w : World} {vs : List Value} {ls : List (List UInt8)} (h : PartsOf w vs ls) (k : Nat) : PartsOf w (vs.take k) (ls.take k) :=
  ⟨by simp [h.1], fun i v l hv hl => by
    rw [List.getElem?_take] at hv hl
    split at hv
    · rename_i hi
      rw [if_pos hi] at hl
      exact h.2 i v l hv hl
    · cases hv⟩
theorem PartsOf.drop {w : World} {vs : List Value} {ls : List (List UInt8)} (h : PartsOf w vs ls) (k : Nat) : PartsOf w (vs.drop k) (ls.drop k) :=
  ⟨by simp [h.1], fun i v l hv hl => by
    rw [List.getElem?_drop] at hv hl
    exact h.2 _ v l hv hl⟩
/-- l[:k] -/
theorem cutHP {w : World} {A : Option Addr} {n c : Nat} {vs : List Value} (h : Sl w 1 A n c vs) (q : IntKind) (i : Int) (k : Nat) (hi : i = k) (hk : k ≤ n) :
    (∀ w' : World, (Instr.slice 77 (.slice A n c) none (some (.int q i)) none).run Try.prog w' = .ok (.slice A k c) w') ∧ Sl w 1 A k c (vs.take k) := by
  have hcap := h.cap
  constructor
  · intro w'
    subst hi
    have := run_slice_h (P := Try.prog) w' 77 A n c Try.underlying77 q k (by omega) (by omega)
    rw [this]
    show ((sizeOf 22).run Try.prog w').andThen _ = _
    rw [run_sizeP]
    simp only [Result.andThen, sliced, Int.toNat_natCast, Nat.sub_zero, Nat.zero_mul]
    rw [addr0]
  · have := h.cut (lo := 0) (hi := k) (m := c) (Nat.zero_le _) hk (by omega) (Nat.le_refl _)
    simp only [List.drop_zero, Nat.sub_zero, Nat.mul_one] at this
    rw [addr0] at this
    exact this
/-- l[k:] -/
theorem cutLP {w : World} {A : Option Addr} {n c : Nat} {vs : List Value} (h : Sl w 1 A n c vs) (q : IntKind) (i : Int) (lo : Nat) (ei : i = lo) (h2 : lo ≤ n) :
    ∃ A', (∀ w' : World, (Instr.slice 77 (.slice A n c) (some (.int q i)) none none).run Try.prog w' = .ok (.slice A' (n - lo) (c - lo)) w') ∧ Sl w 1 A' (n - lo) (c - lo) (vs.drop lo) := by
  have hcap := h.cap
  have hl := h.len
  subst ei
  refine ⟨if c = lo then A else A.map (·.add (lo * 1)), fun w' => ?_, ?_⟩
  · have := run_slice_l (P := Try.prog) w' 77 A n c Try.underlying77 q lo (by omega) (by omega)
    rw [this]
    show ((sizeOf 22).run Try.prog w').andThen _ = _
    rw [run_sizeP]
    simp only [Result.andThen, sliced, Int.toNat_natCast]
  · have := h.cut (lo := lo) (hi := n) (m := c) h2 (Nat.le_refl _) (by omega) (Nat.le_refl _)
    simp only [Nat.mul_one] at this
    rw [List.take_of_length_le (by simp; omega)] at this
    rw [Nat.mul_one]
    exact this
/-- where p[k:] lies -/
def tailA (A : Option Addr) (c k : Nat) : Option Addr := if c = k then A else A.map (·.add (k * 1))
theorem run_tailB (w' : World) (A : Option Addr) (n c : Nat) (q : IntKind) (i : Int) (k : Nat) (ei : i = k) (hk : k ≤ n) :
    (Instr.slice 22 (.slice A n c) (some (.int q i)) none none).run Try.prog w' = .ok (.slice (tailA A c k) (n - k) (c - k)) w' := by
  subst ei
  have := run_slice_l (P := Try.prog) w' 22 A n c Try.underlying22 q k (by omega) (by omega)
  rw [this]
  show ((sizeOf 5).run Try.prog w').andThen _ = _
  rw [run_sizeB]
  simp only [Result.andThen, sliced, Int.toNat_natCast]
  rfl
section
variable {P : Program} (w : World)
/-- copy onto the tail of what the call owns -/
theorem run_copy_sub (B : Nat) (t ty e : TypeId) (i : TypeInfo) (ht : P.underlying t = some (.slice e)) (hi : P.info? e = some i) (hsize : i.size = 1)
    (A : Option Addr) (n c : Nat) (xs : List Value) (hown : Own w B e 1 A n c xs) (k : Nat) (hk : k ≤ n)
    (A2 : Option Addr) (m c2 : Nat) (news : List Value) (hs : Sl w 1 A2 m c2 news) (h1 : ∀ u ∈ news, u.oneCell' = true) (hmn : k + m ≤ n) :
    ∃ w', (Builtin.copy_ #[t, t] ty #[.slice (tailA A c k) (n - k) (c - k), .slice A2 m c2]).run P w = .ok (goInt m) w' ∧ Own w' B e 1 A n c (xs.take k ++ news ++ xs.drop (k + m)) ∧ w.grownBy w' (blk A c) := by
  have hf := run_first (P := P) w 1 m c2 A2 news hs
  have hnl : news.length = m := by have := hs.len; omega
  have hxl : xs.length = n := by have := hown.len; omega
  have hmin : Nat.min m (n - k) = m := Nat.min_eq_left (by omega)
  have hcap := hown.cap
  by_cases hck : c = k
  · obtain rfl : n = k := by omega
    obtain rfl : m = 0 := by omega
    obtain rfl : news = [] := List.eq_nil_of_length_eq_zero hnl
    refine ⟨w, ?_, ?_, World.grownBy.refl w _⟩
    · unfold tailA
      rw [if_pos hck]
      cases A <;> simp [Builtin.copy_, run_underlying ht, sizeOf, typeInfo, hi, hsize, Builtin.lenOf, hf, storeCells]
    · have e1 : xs.take n ++ [] ++ xs.drop (n + 0) = xs := by
        rw [List.append_nil, Nat.add_zero, List.take_append_drop]
      rw [e1]
      exact hown
  · obtain ⟨g, o, cur, rfl, hb, hh, hfit, htk⟩ := hown.row (by omega)
    rw [Nat.mul_one] at hfit htk
    have hst := run_storeCells_at P g (o + k) e news 0 cur w hh (by simp; omega) h1
    simp only [Nat.add_zero] at hst
    have eA : tailA (some ⟨g, o, none⟩) c k = some ⟨g, o + k, none⟩ := by
      unfold tailA
      rw [if_neg hck]
      simp [Addr.add_lit]
    rw [eA]
    refine ⟨w.setRow g (cur.toList.take (o + k) ++ news ++ cur.toList.drop (o + k + news.length)).toArray, ?_, ⟨by simp; omega, hcap, hown.capm, fun _ => ⟨g, o, _, rfl, hb, setRow_heap w g cur _ e _ hh, ?_, ?_⟩⟩, ⟨rfl, rfl, rfl, by simp, fun j _ hj => setRow_other w g j _ (fun e => hj (by simp [blk, e]; omega))⟩⟩
    · simp only [Builtin.copy_, List.getElem?_toArray]
      simp [run_underlying ht, sizeOf, typeInfo, hi, hsize, Builtin.lenOf, hmin, hf]
      rw [hst]
      simp [Result.andThen]
    · simp only [List.size_toArray, List.length_append, List.length_take, List.length_drop, Array.length_toList]
      omega
    · have hlo : o + k ≤ cur.toList.length := by simp; omega
      have e1 : cur.toList.take (o + k) = cur.toList.take o ++ xs.take k := by
        rw [List.take_add, ← htk, List.take_take, Nat.min_eq_left hk]
      have e2 : xs.drop (k + m) = ((cur.toList.drop (o + k + news.length)).take (n - (k + m))) := by
        rw [← htk, List.drop_take, List.drop_drop, hnl]
        congr 2
        omega
      rw [e1, e2]
      simp only [List.append_assoc, Nat.mul_one]
      rw [List.drop_left' (by simp; omega), ← List.append_assoc, List.take_append]
      rw [List.take_of_length_le (by simp; omega)]
      rw [List.append_assoc]
      congr 3
      simp
      omega
end
theorem tailA_zero (A : Option Addr) (c : Nat) : tailA A c 0 = A := by
  unfold tailA
  split
  · rfl
  · cases A <;> simp [Addr.add]
/-- copy of bytes into the midst of a row of the call's own, as an equation (the walk stands before it) -/
theorem run_cpySub (w : World) (B : Nat) (A : Option Addr) (n c : Nat) (xs : List Value) (hown : Own w B 5 1 A n c xs) (k : Nat) (hk : k ≤ n)
    (A2 : Option Addr) (m c2 : Nat) (l2 : List UInt8) (hs : Sl w 1 A2 m c2 (bc l2)) (hmn : k + m ≤ n) :
    ∃ w', (Builtin.copy_ #[22, 22] 3 #[.slice (tailA A c k) (n - k) (c - k), .slice A2 m c2]).run Try.prog w = .ok (.int .i64 (m : Int)) w' ∧ Own w' B 5 1 A n c (xs.take k ++ bc l2 ++ xs.drop (k + m)) ∧ w.grownBy w' (blk A c) := by
  obtain ⟨i, hi, hz, hs1, hb1⟩ := info_parts infoB
  exact run_copy_sub (P := Try.prog) w B 22 3 _ i Try.underlying22 hi hs1 A n c xs hown k hk A2 m c2 (bc l2) hs (bc_one _) hmn
theorem run_cpyHead (w : World) (B : Nat) (A : Option Addr) (n c : Nat) (xs : List Value) (hown : Own w B 5 1 A n c xs)
    (A2 : Option Addr) (m c2 : Nat) (l2 : List UInt8) (hs : Sl w 1 A2 m c2 (bc l2)) (hmn : m ≤ n) :
    ∃ w', (Builtin.copy_ #[22, 22] 3 #[.slice A n c, .slice A2 m c2]).run Try.prog w = .ok (.int .i64 (m : Int)) w' ∧ Own w' B 5 1 A n c (bc l2 ++ xs.drop m) ∧ w.grownBy w' (blk A c) := by
  obtain ⟨w', h1, h2, h3⟩ := run_cpySub w B A n c xs hown 0 (Nat.zero_le _) A2 m c2 l2 hs (by omega)
  rw [tailA_zero] at h1
  exact ⟨w', h1, by simpa using h2, h3⟩
end Go.Proofs.Ytpffieogkfndaaa

namespace Go.Proofs.Ytpffieogkfndaaa
set_option maxRecDepth 20000
open Go.RowKit

theorem zeros_list (z : Value) (m : Nat) : Builtin.zeroCells #[z] m = (List.replicate m z).toArray := by
  apply Array.ext'
  rw [List.toList_toArray, List.eq_replicate_iff]
  simp [Builtin.zeroCells, Nat.mod_one]
section
variable {P : Program} (w : World)
theorem zeros_room (t tn ty e : TypeId) (i : TypeInfo) (z : Value) (k kn : IntKind) (ht : P.underlying t = some (.slice e)) (htn : P.underlying tn = some (.int kn)) (hi : P.info? e = some i) (hz : i.zero = some z) (hsize : i.size = 1) (hzs : z.cells = #[z]) (h1 : z.oneCell' = true)
    (g o sLen sCap : Nat) (cur : Array Value) (hg : w.heap[g]? = some (.cells cur e (0, 0))) (m : Nat) (hm : (m : Int) * i.bytes ≤ 281474976710656) (hm2 : m ≤ 9223372036854775807)
    (hroom : sLen + m ≤ sCap) (hfit : o + sCap ≤ cur.size) :
    (Builtin.append_ #[t, tn] ty #[.slice (some ⟨g, o, none⟩) sLen sCap, .int k (m : Int)]).run P w =
      .ok (.slice (some ⟨g, o, none⟩) (sLen + m) sCap) (w.setRow g (cur.toList.take (o + sLen) ++ List.replicate m z ++ cur.toList.drop (o + sLen + m)).toArray) := by
  have hle : o + sLen + (List.replicate m z).length ≤ cur.size := by simp; omega
  have hst := run_storeCells_at P g (o + sLen) e (List.replicate m z) 0 cur w hg (by simpa using hle) (fun u hu => by rw [List.eq_of_mem_replicate hu]; exact h1)
  simp only [Nat.add_zero, List.length_replicate] at hst
  have hw : IntKind.i64.wrap (m : Int) = m := by rw [IntKind.wrap_i64]; omega
  have hneg : ¬ ((m : Int) < 0) := by omega
  have h48i : ¬ (281474976710656 < (m : Int) * (i.bytes : Int)) := by omega
  have hzc : (Builtin.zeroCells #[z] m).toList = List.replicate m z := by rw [zeros_list]
  rcases Nat.eq_zero_or_pos m with h0 | h0
  · subst h0
    have hcap : sLen ≤ sCap := by omega
    simp only [List.replicate_zero, storeCells, Sem.run_pure, Result.ok.injEq, true_and] at hst
    have hw0 : IntKind.i64.wrap 0 = 0 := by decide
    simp [Builtin.append_, run_underlying ht, run_underlying htn, sizeOf, typeInfo, hi, asInt, asIntOf, hw0, hcap, Addr.add_lit, storeCells]
    simpa using hst
  · have hm0 : ¬ m = 0 := by omega
    simp [Builtin.append_, run_underlying ht, run_underlying htn, sizeOf, typeInfo, zeroValue, hi, hz, hsize, asInt, asIntOf, hw, hneg, h48i, hroom, hm0, Addr.add_lit, hzs, hzc, hst]
theorem zeros_grow (t tn ty e : TypeId) (i : TypeInfo) (z : Value) (k kn : IntKind) (ht : P.underlying t = some (.slice e)) (htn : P.underlying tn = some (.int kn)) (hi : P.info? e = some i) (hz : i.zero = some z) (hsize : i.size = 1) (hzs : z.cells = #[z])
    (A : Option Addr) (sLen sCap : Nat) (olds : List Value) (ho : Sl w 1 A sLen sCap olds) (m : Nat) (hm : (m : Int) * i.bytes ≤ 281474976710656)
    (hg : sCap < sLen + m) (h63 : ((sLen + m : Nat) : Int) ≤ 9223372036854775807) (hfit : Builtin.nextslicecap (sLen + m) sCap * i.bytes ≤ 281474976710656) :
    (Builtin.append_ #[t, tn] ty #[.slice A sLen sCap, .int k (m : Int)]).run P w =
      .ok (.slice (some ⟨w.heap.size, 0, none⟩) (sLen + m) (grownCap w (sLen + m) sCap e))
        (w.drew.alloc (.cells (olds.toArray ++ (List.replicate m z).toArray ++ Builtin.zeroCells z.cells (grownCap w (sLen + m) sCap e - (sLen + m))) e)) := by
  have hcap := ho.cap
  have hn : ¬ (sLen + m ≤ sCap) := by omega
  have h63' : ¬ (9223372036854775807 < ((sLen : Int) + (m : Int))) := by omega
  have h48' : ¬ (281474976710656 < Builtin.nextslicecap (sLen + m) sCap * i.bytes) := by omega
  have hw : IntKind.i64.wrap (m : Int) = m := by rw [IntKind.wrap_i64]; omega
  have hneg : ¬ ((m : Int) < 0) := by omega
  have h48i : ¬ (281474976710656 < (m : Int) * (i.bytes : Int)) := by omega
  have hm0 : ¬ m = 0 := by omega
  have hzc := zeros_list z m
  have hfo := run_first (P := P) w.drew 1 sLen sCap A olds (ho.keep fun _ _ _ => rfl)
  simp [Builtin.append_, run_underlying ht, run_underlying htn, sizeOf, typeInfo, zeroValue, hi, hz, hsize, asInt, asIntOf, hw, hneg, h48i, hm0, hn, h63', h48', Question.forced, hfo, newRow, grownCap, hzs, hzc]
/-- append of noughts onto what the call owns -/
theorem run_zeros_own (B : Nat) (t tn ty e : TypeId) (i : TypeInfo) (z : Value) (k kn : IntKind) (ht : P.underlying t = some (.slice e)) (htn : P.underlying tn = some (.int kn)) (hi : P.info? e = some i) (hz : i.zero = some z) (hsize : i.size = 1) (hby : i.bytes = 1) (hzs : z.cells = #[z]) (h1 : z.oneCell' = true)
    (A : Option Addr) (n c : Nat) (xs : List Value) (hown : Own w B e 1 A n c xs) (m : Nat) (hbytes : n + m ≤ 140737488355328) (hB : B ≤ w.heap.size) :
    ∃ A' c' w', (Builtin.append_ #[t, tn] ty #[.slice A n c, .int k (m : Int)]).run P w = .ok (.slice A' (n + m) c') w' ∧ Own w' B e 1 A' (n + m) c' (xs ++ List.replicate m z) ∧ w.grownBy w' (blk A c) ∧
      (blk A' c' = blk A c ∨ blk A' c' = some w.heap.size) := by
  have hxl : xs.length = n := by have := hown.len; omega
  have hlen : (xs ++ List.replicate m z).length = (n + m) * 1 := by simp; omega
  by_cases hroom : n + m ≤ c
  · rcases Nat.eq_zero_or_pos c with h0 | h0
    · subst h0
      obtain rfl : n = 0 := by omega
      obtain rfl : m = 0 := by omega
      obtain rfl : xs = [] := List.eq_nil_of_length_eq_zero hxl
      refine ⟨A, 0, w, ?_, by simpa using Own.nil w B e 1 A, World.grownBy.refl w _, .inl rfl⟩
      have hw0 : IntKind.i64.wrap 0 = 0 := by decide
      simp [Builtin.append_, run_underlying ht, run_underlying htn, sizeOf, typeInfo, hi, asInt, asIntOf, hw0]
      cases A <;> simp [storeCells]
    · obtain ⟨g, o, cur, rfl, hb, hh, hf, htk⟩ := hown.row h0
      rw [Nat.mul_one] at hf htk
      have hr := zeros_room (P := P) w t tn ty e i z k kn ht htn hi hz hsize hzs h1 g o n c cur hh m (by rw [hby]; omega) (by omega) hroom (by omega)
      refine ⟨_, _, _, hr, ⟨hlen, hroom, hown.capm, fun _ => ⟨g, o, _, rfl, hb, setRow_heap w g cur _ e _ hh, ?_, ?_⟩⟩, ⟨rfl, rfl, rfl, by simp, fun j _ hk => setRow_other w g j _ (fun e => hk (by simp [blk, e]; omega))⟩, .inl rfl⟩
      · simp only [List.size_toArray, List.length_append, List.length_take, List.length_drop, Array.length_toList, List.length_replicate]
        omega
      · have h2 : (cur.toList.take (o + n)) = cur.toList.take o ++ xs := by
          rw [List.take_add, htk]
        rw [h2, List.append_assoc, List.append_assoc, List.drop_left' (by simp; omega), ← List.append_assoc, ← hlen]
        exact List.take_left
  · have hge := grownCap_ge w (n + m) c e
    have hcm : grownCap w (n + m) c e ≤ maxLen := grownCap_le_maxLen w (n + m) c e (by unfold maxLen; omega)
    have hr := zeros_grow (P := P) w t tn ty e i z k kn ht htn hi hz hsize hzs A n c xs hown.sl m (by rw [hby]; omega) (by omega) (by omega) (growslice_fits (by omega) (by rw [hby]; omega))
    refine ⟨_, _, _, hr, ?_, ⟨rfl, rfl, rfl, by simp, fun j hk _ => Below.heap_alloc w.drew _ j hk⟩, .inr (by simp [blk]; omega)⟩
    refine Own.fresh w.drew B e 1 _ _ _ _ hB hge hcm ?_ hlen ?_
    · simp only [Array.size_append, List.size_toArray, size_zeroCells, hzs, List.length_replicate]
      simp only [List.length_cons, List.length_nil]
      omega
    · simp only [Array.toList_append, List.append_assoc]
      rw [← List.append_assoc, ← hlen]
      exact List.take_left
end
theorem oneU8 : (Value.int .u8 0).oneCell' = true := rfl
/-- append of noughts to bytes of the call's own -/
theorem wpList_zerosB (w : World) {ops : Array Oper} {rest : List Oper} {o : Oper} {a : Act} {Q : Exit → Act → World → Prop} (hgd : o.guard = none) (s x : Operand)
    (ho : o.op = .call { callee := .builtin .append, args := #[s, x], argTypes := #[22, 3] })
    (B : Nat) (A : Option Addr) (n c : Nat) (l : List UInt8) (hsv : a.eval s = .slice A n c) (hown : OwnB w B A n c l)
    (m : Nat) (I : Int) (hI : I = m) (hx : a.eval x = .int .i64 I) (hbytes : n + m ≤ 140737488355328) (hB : B ≤ w.heap.size)
    (h : ∀ A' c' w', OwnB w' B A' (n + m) c' (l ++ List.replicate m 0) → w.grownBy w' (blk A c) → (blk A' c' = blk A c ∨ blk A' c' = some w.heap.size) → wpList Try.prog ops Q rest (a.put o.dst (.slice A' (n + m) c')) w') : wpList Try.prog ops Q (o :: rest) a w := by
  obtain ⟨i, hi, hz, hs1, hb1⟩ := info_parts infoB
  subst hI
  refine wpList_plain hgd fun _ hK => ?_
  obtain ⟨A', c', w', hrun, h2, h3, h4⟩ := run_zeros_own (P := Try.prog) w B 22 3 o.type 5 i (.int .u8 0) .i64 _ Try.underlying22 Try.underlying3 hi hz hs1 hb1 rfl oneU8 A n c (bc l) hown m hbytes hB
  unfold Oper.wp execOp
  simp only [ho, resolve, invoke, builtin, Sem.run_bind, Sem.run_pure, Result.andThen_ok, List.map_toArray, List.map_cons, List.map_nil, hsv, hx, hrun]
  refine hK _ _ (h A' c' w' ?_ h3 h4)
  have e : bc (List.replicate m 0) = List.replicate m (.int .u8 0) := by simp [bc]
  unfold OwnB
  rw [bc_append, e]
  exact h2
/-- append of bytes to bytes of the call's own, as one step of a region that draws its order -/
theorem step_appB {ops : Array Oper} {o : Oper} {a : Act} {w : World} {K : Act → World → Prop} {Q : Exit → Act → World → Prop} {E : Prop} (hgd : o.guard = none) (s x : Operand)
    (ho : o.op = .call { callee := .builtin .append, args := #[s, x], argTypes := #[22, 22] })
    (B : Nat) (A : Option Addr) (n c : Nat) (l : List UInt8) (hsv : a.eval s = .slice A n c) (hown : OwnB w B A n c l)
    (A2 : Option Addr) (m c2 : Nat) (l2 : List UInt8) (hx : a.eval x = .slice A2 m c2) (hs : Sl w 1 A2 m c2 (bc l2))
    (hbytes : n + m ≤ 140737488355328) (hB : B ≤ w.heap.size)
    (h : ∀ A' c' w', OwnB w' B A' (n + m) c' (l ++ l2) → w.grownBy w' (blk A c) → (blk A' c' = blk A c ∨ blk A' c' = some w.heap.size) → K (a.put o.dst (.slice A' (n + m) c')) w') :
    if Region.wanted o (yielded ops a.tmps) = true then Oper.wp Try.prog o a w K Q else E := by
  have hw : Region.wanted o (yielded ops a.tmps) = true := by simp [Region.wanted, hgd]
  rw [if_pos hw]
  obtain ⟨i, hi, hz, hs1, hb1⟩ := info_parts infoB
  obtain ⟨A', c', w', hrun, h2, h3, h4⟩ := run_append_own2 (P := Try.prog) w B 22 o.type _ i _ 1 1 Try.underlying22 hi hz hs1 hb1 rfl A n c (bc l) hown A2 m c2 (bc l2) hs (bc_one _) (by unfold maxLen; omega) (by omega) hB
  unfold Oper.wp execOp
  simp only [ho, resolve, invoke, builtin, Sem.run_bind, Sem.run_pure, Result.andThen_ok, List.map_toArray, List.map_cons, List.map_nil, hsv, hx, hrun]
  exact h A' c' w' (by unfold OwnB; rw [bc_append]; exact h2) h3 h4
end Go.Proofs.Ytpffieogkfndaaa

namespace Go.Proofs.Ytpffieogkfndaaa
open Go.RowKit
set_option maxRecDepth 20000
theorem step_appR {α : Type} [Rep α] {ops : Array Oper} {o : Oper} {a : Act} {w : World} {K : Act → World → Prop} {Q : Exit → Act → World → Prop} {E : Prop} (hgd : o.guard = none) (s x : Operand) (t : TypeId)
    (ho : o.op = .call { callee := .builtin .append, args := #[s, x], argTypes := #[t, t] })
    (B : Nat) (e : TypeId) (z : Value) (bytes : Nat) (ht : Try.prog.underlying t = some (.slice e)) (hi : (Try.prog.info? e).map (fun i => (i.zero, i.size, i.bytes)) = some (some z, Rep.size α, bytes))
    (hzs : z.cells.size = Rep.size α)
    (A : Option Addr) (n c : Nat) (ls : List α) (hsv : a.eval s = .slice A n c) (hown : OwnR w B e A n c ls)
    (p : Nat → Prop) (A2 : Option Addr) (m c2 : Nat) (ms : List α) (hx : a.eval x = .slice A2 m c2) (hs : ∃ xs, Sl w (Rep.size α) A2 m c2 xs ∧ RowC w p xs ms) (hp : ∀ b, b < w.heap.size → p b → b < B ∨ NotTy w e b)
    (h63 : n + m ≤ maxLen) (hbytes : (n + m) * bytes ≤ 140737488355328) (hB : B ≤ w.heap.size)
    (h : ∀ A' c' w', OwnR w' B e A' (n + m) c' (ls ++ ms) → w.grownBy w' (blk A c) → (blk A' c' = blk A c ∨ blk A' c' = some w.heap.size) → K (a.put o.dst (.slice A' (n + m) c')) w') :
    if Region.wanted o (yielded ops a.tmps) = true then Oper.wp Try.prog o a w K Q else E := by
  have hw : Region.wanted o (yielded ops a.tmps) = true := by simp [Region.wanted, hgd]
  rw [if_pos hw]
  obtain ⟨i, hi1, hz, hs1, hb1⟩ := info_parts hi
  obtain ⟨xs, hO, hR⟩ := hown
  obtain ⟨ys, hS, hR2⟩ := hs
  obtain ⟨A', c', w', hrun, h2, h3, h4⟩ := run_append_own2 (P := Try.prog) w B t o.type e i _ (Rep.size α) bytes ht hi1 hz hs1 hb1 hzs A n c xs hO A2 m c2 ys hS hR2.one h63 hbytes hB
  unfold Oper.wp execOp
  simp only [ho, resolve, invoke, builtin, Sem.run_bind, Sem.run_pure, Result.andThen_ok, List.map_toArray, List.map_cons, List.map_nil, hsv, hx, hrun]
  exact h A' c' w' ⟨_, h2, (hR.move (grown_apart hO h3)).append (hR2.move fun b hl hpb => grown_apart hO h3 b hl (hp b hl hpb))⟩ h3 h4
end Go.Proofs.Ytpffieogkfndaaa

namespace Go.Proofs.Ytpffieogkfndaaa
open Go.RowKit
set_option maxRecDepth 20000
section
variable {w w' : World} {p : Nat → Prop} {A : Option Addr} {n c : Nat}
theorem SlR.opAt {ls : List OpL} (h : SlR w p A n c ls) {k : Nat} (hk : k < n) : ∃ (b o : Nat) (A3 : Option Addr) (n3 c3 : Nat) (A4 : Option Addr) (n4 c4 : Nat) (hl : k < ls.length), A = some ⟨b, o, none⟩ ∧
    w.cell? ⟨b, o + k * 3, none⟩ = some (.int .u8 (ls[k].kind.toNat : Int)) ∧ w.cell? ⟨b, o + k * 3 + 1, none⟩ = some (.slice A3 n3 c3) ∧ w.cell? ⟨b, o + k * 3 + 2, none⟩ = some (.slice A4 n4 c4) ∧
    Sl w 1 A3 n3 c3 (bc ls[k].key) ∧ Sl w 1 A4 n4 c4 (bc ls[k].value) := by
  obtain ⟨b, o, x, cs, rfl, hx, ⟨v, v', rfl, hk', hv⟩, hcell⟩ := h.get hk
  obtain ⟨A3, n3, c3, rfl, hs3, _⟩ := hk'
  obtain ⟨A4, n4, c4, rfl, hs4, _⟩ := hv
  obtain ⟨hjl, rfl⟩ := List.getElem?_eq_some_iff.1 hx
  exact ⟨b, o, A3, n3, c3, A4, n4, c4, hjl, rfl, hcell 0 _ rfl, hcell 1 _ rfl, hcell 2 _ rfl, hs3, hs4⟩
theorem SlR.pairAt {ls : List PairL} (h : SlR w p A n c ls) {k : Nat} (hk : k < n) : ∃ (b o : Nat) (A3 : Option Addr) (n3 c3 : Nat) (A4 : Option Addr) (n4 c4 : Nat) (hl : k < ls.length), A = some ⟨b, o, none⟩ ∧
    w.cell? ⟨b, o + k * 2, none⟩ = some (.slice A3 n3 c3) ∧ w.cell? ⟨b, o + k * 2 + 1, none⟩ = some (.slice A4 n4 c4) ∧
    Sl w 1 A3 n3 c3 (bc ls[k].key) ∧ Sl w 1 A4 n4 c4 (bc ls[k].value) := by
  obtain ⟨b, o, x, cs, rfl, hx, ⟨v, v', rfl, hk', hv⟩, hcell⟩ := h.get hk
  obtain ⟨A3, n3, c3, rfl, hs3, _⟩ := hk'
  obtain ⟨A4, n4, c4, rfl, hs4, _⟩ := hv
  obtain ⟨hjl, rfl⟩ := List.getElem?_eq_some_iff.1 hx
  exact ⟨b, o, A3, n3, c3, A4, n4, c4, hjl, rfl, hcell 0 _ rfl, hcell 1 _ rfl, hs3, hs4⟩
/-- a row of lists of bytes, as parts -/
theorem RowC.parts : ∀ {xs : List Value} {ls : List (List UInt8)}, RowC w p xs ls → PartsOf w xs ls
  | _, [], h => by
    obtain rfl : _ = [] := h
    exact ⟨rfl, fun i v l hv => by simp at hv⟩
  | _, a :: ls, h => by
    obtain ⟨cs, ys, rfl, ⟨v, rfl, A, n, c, rfl, hs, _⟩, hr⟩ := h
    have ih := hr.parts
    refine ⟨by simp [ih.1], fun i u l hu hl => ?_⟩
    cases i with
    | zero =>
      simp at hu hl
      subst hu
      subst hl
      exact ⟨A, n, c, rfl, hs⟩
    | succ i =>
      simp at hu hl
      exact ih.2 i u l hu hl
theorem OwnR.parts {B : Nat} {e : TypeId} {ls : List (List UInt8)} (h : OwnR w B e A n c ls) : ∃ vs, Sl w 1 A n c vs ∧ PartsOf w vs ls := by
  obtain ⟨xs, ho, hr⟩ := h
  exact ⟨xs, ho.sl, hr.parts⟩
/-- what lies at a variable of two cells that the call has boxed in block g -/
structure Bx2 (w : World) (g : Nat) (u0 u1 : Value) : Prop where
  c0 : w.cell? ⟨g, 0, none⟩ = some u0
  c1 : w.cell? ⟨g, 1, none⟩ = some u1
theorem Bx2.below {g : Nat} {u0 u1 : Value} (h : Bx2 w g u0 u1) (hb : Below w.heap.size w w') : Bx2 w' g u0 u1 := ⟨stays hb h.c0, stays hb h.c1⟩
theorem Bx2.fresh (w : World) (u0 u1 : Value) (e : TypeId) : Bx2 (w.alloc (.cells #[u0, u1] e)) w.heap.size u0 u1 := by
  have h := boxed (Below.refl _ _) (box1 w (.cells #[u0, u1] e))
  exact ⟨h.1 0 _ rfl, h.1 1 _ rfl⟩
theorem Bx2.lt {g : Nat} {u0 u1 : Value} (h : Bx2 w g u0 u1) : g < w.heap.size := World.block_lt_of_cell? _ _ h.c0
theorem Bx2.grownO {g : Nat} {row : Option Nat} {u0 u1 : Value} (h : Bx2 w g u0 u1) (hg : w.grownBy w' row) (hne : row ≠ some g) : Bx2 w' g u0 u1 := by
  have hh : w'.heap[g]? = w.heap[g]? := hg.block g h.lt (fun e => hne e.symm)
  have hc : ∀ j : Nat, w'.cell? ⟨g, j, none⟩ = w.cell? ⟨g, j, none⟩ := fun j => World.cell?_of_block (a := ⟨g, j, none⟩) hh
  exact ⟨(hc 0).trans h.c0, (hc 1).trans h.c1⟩
end
end Go.Proofs.Ytpffieogkfndaaa
