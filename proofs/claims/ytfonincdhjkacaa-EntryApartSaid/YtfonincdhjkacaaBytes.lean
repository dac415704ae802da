/-
  Bytes over this program: append, conversion to a string, make, and the small functions Same, Copy, Cut of the references and Equal, Clone of package bytes, each told once. No condition but sizes.
-/
import Derived.Test.YtfonincdhjkacaaLib
import Derived.Test.YtfonincdhjkacaaProg
namespace Go.Proofs.Ytfonincdhjkacaa
set_option maxRecDepth 20000
open Go.RowKit

theorem ret_int {k : IntKind} {a b : Int} (h : a = b) : Ending.returned (.int k a) = .returned (.int k b) := by rw [h]
theorem ret_bool {a b : Bool} (h : a = b) : Ending.returned (.bool a) = .returned (.bool b) := by rw [h]
theorem infoB : (Try.prog.info? 5).map (fun i => (i.zero, i.size, i.bytes)) = some (some (.int .u8 0), 1, 1) := by kernel_rfl

/-- a slice of bytes that lies in memory of the call's own -/
def OwnB (w : World) (B : Nat) (A : Option Addr) (n c : Nat) (l : List UInt8) : Prop := Own w B 5 1 A n c (bc l)
theorem OwnB.sl {w : World} {B : Nat} {A : Option Addr} {n c : Nat} {l : List UInt8} (h : OwnB w B A n c l) : Sl w 1 A n c (bc l) := Own.sl h
theorem OwnB.len' {w : World} {B : Nat} {A : Option Addr} {n c : Nat} {l : List UInt8} (h : OwnB w B A n c l) : l.length = n := h.sl.lenb

/-- append of bytes to bytes of the call's own -/
theorem wpList_appB (w : World) {ops : Array Oper} {rest : List Oper} {o : Oper} {a : Act} {Q : Exit → Act → World → Prop} (hgd : o.guard = none) (s x : Operand)
    (ho : o.op = .call { callee := .builtin .append, args := #[s, x], argTypes := #[23, 23] })
    (B : Nat) (A : Option Addr) (n c : Nat) (l : List UInt8) (hsv : a.eval s = .slice A n c) (hown : OwnB w B A n c l)
    (A2 : Option Addr) (m c2 : Nat) (l2 : List UInt8) (hx : a.eval x = .slice A2 m c2) (hs : Sl w 1 A2 m c2 (bc l2))
    (hbytes : n + m ≤ 140737488355328) (hB : B ≤ w.heap.size)
    (h : ∀ A' c' w', OwnB w' B A' (n + m) c' (l ++ l2) → w.grownBy w' (blk A c) → (blk A' c' = blk A c ∨ blk A' c' = some w.heap.size) → wpList Try.prog ops Q rest (a.put o.dst (.slice A' (n + m) c')) w') : wpList Try.prog ops Q (o :: rest) a w := by
  obtain ⟨i, hi, hz, hs1, hb1⟩ := info_parts infoB
  refine wpList_app w hgd s x _ ho B _ i _ 1 1 Try.underlying23 hi hz hs1 hb1 rfl A n c (bc l) hsv hown A2 m c2 (bc l2) hx hs (bc_one _) (by unfold maxLen; omega) (by omega) hB ?_
  intro A' c' w' h1 h2 h3
  exact h A' c' w' (by unfold OwnB; rw [bc_append]; exact h1) h2 h3

/-- a slice of bytes as a string -/
theorem run_conv (w : World) (A : Option Addr) (n c : Nat) (l : List UInt8) (h : Sl w 1 A n c (bc l)) :
    ∃ s : ByteArray, s.toList = l ∧ (convert 23 9 (.slice A n c)).run Try.prog w = .ok (.string s) w := by
  have hl := h.lenb
  refine ⟨⟨l.toArray⟩, by rw [ByteArray.toList_eq], ?_⟩
  rcases Nat.eq_zero_or_pos n with h0 | h0
  · subst h0
    have e : l = [] := List.eq_nil_of_length_eq_zero hl
    subst e
    rw [run_convert_bytes_string w 23 9 5 A 0 c Try.underlying23 Try.underlying5 Try.underlying9]
    cases A with
    | none => simp [Conv.bytesToString]; rfl
    | some ad => simp [Conv.bytesToString, loadCells, loadCellsFrom]; rfl
  · obtain ⟨b, o, rfl, hc⟩ := h.at_ h0
    have hr := run_convert_bytes_arg (P := Try.prog) w 23 5 Try.underlying23 Try.underlying5 b o n c (l.map fun x => (x.toNat : Int)) (by simpa using hl) (fun i hi => by
      have hil : i < l.length := by omega
      have := hc i _ (by rw [bc_get, List.getElem?_eq_getElem hil]; rfl)
      rw [this]
      simp [List.getD, List.getElem?_eq_getElem hil]) 9 Try.underlying9
    rw [hr]
    congr 2
    simp only [strOfNums]
    congr 1
    simp only [List.map_map]
    congr 1
    conv => rhs; rw [← List.map_id l]
    apply List.map_congr_left
    intro x _
    simp

theorem infoSz : (Try.prog.info? 5).map (·.size) = some 1 := by kernel_rfl
theorem run_sizeB (w : World) : (sizeOf 5).run Try.prog w = .ok 1 w := by
  obtain ⟨i, hi, _, hs, _⟩ := info_parts infoB
  simp [sizeOf, typeInfo, hi, hs]

theorem addr0 (c : Nat) (A : Option Addr) : (if c = 0 then A else A.map fun x => x.add 0) = A := by
  split
  · rfl
  · cases A <;> simp [Addr.add]
/-- p[:k], up to the capacity -/
theorem cutC {A : Option Addr} {n c : Nat} (q : IntKind) (i : Int) (k : Nat) (hi : i = k) (hk : k ≤ c) (w' : World) :
    (Instr.slice 23 (.slice A n c) none (some (.int q i)) none).run Try.prog w' = .ok (.slice A k c) w' := by
  subst hi
  have := run_slice_h (P := Try.prog) w' 23 A n c Try.underlying23 q k (by omega) (by omega)
  rw [this]
  show ((sizeOf 5).run Try.prog w').andThen _ = _
  rw [run_sizeB]
  simp only [Result.andThen, sliced, Int.toNat_natCast, Nat.sub_zero, Nat.zero_mul]
  rw [addr0]
/-- p[:k] -/
theorem cutH {w : World} {A : Option Addr} {n c : Nat} {l : List UInt8} (h : Sl w 1 A n c (bc l)) (q : IntKind) (i : Int) (k : Nat) (hi : i = k) (hk : k ≤ n) :
    (∀ w' : World, (Instr.slice 23 (.slice A n c) none (some (.int q i)) none).run Try.prog w' = .ok (.slice A k c) w') ∧ Sl w 1 A k c (bc (l.take k)) := by
  have hcap := h.cap
  constructor
  · intro w'
    subst hi
    have := run_slice_h (P := Try.prog) w' 23 A n c Try.underlying23 q k (by omega) (by omega)
    rw [this]
    show ((sizeOf 5).run Try.prog w').andThen _ = _
    rw [run_sizeB]
    simp only [Result.andThen, sliced, Int.toNat_natCast, Nat.sub_zero, Nat.zero_mul]
    rw [addr0]
  · have := h.cut (lo := 0) (hi := k) (m := c) (Nat.zero_le _) hk (by omega) (Nat.le_refl _)
    simp only [List.drop_zero, Nat.sub_zero, Nat.mul_one] at this
    rw [bc_take]
    rw [addr0] at this
    exact this
/-- p[lo:hi] -/
theorem cutLH {w : World} {A : Option Addr} {n c : Nat} {l : List UInt8} (h : Sl w 1 A n c (bc l)) (q q' : IntKind) (i j : Int) (lo hi : Nat) (ei : i = lo) (ej : j = hi) (h1 : lo ≤ hi) (h2 : hi ≤ n) :
    ∃ A', (∀ w' : World, (Instr.slice 23 (.slice A n c) (some (.int q i)) (some (.int q' j)) none).run Try.prog w' = .ok (.slice A' (hi - lo) (c - lo)) w') ∧
      Sl w 1 A' (hi - lo) (c - lo) (bc ((l.drop lo).take (hi - lo))) ∧ ∀ B, OwnB w B A n c l → OwnB w B A' (hi - lo) (c - lo) ((l.drop lo).take (hi - lo)) := by
  have hcap := h.cap
  subst ei
  subst ej
  refine ⟨if c = lo then A else A.map (·.add (lo * 1)), fun w' => ?_, ?_, ?_⟩
  · have := run_slice_lh (P := Try.prog) w' 23 A n c Try.underlying23 q q' lo hi (by omega) (by omega) (by omega)
    rw [this]
    show ((sizeOf 5).run Try.prog w').andThen _ = _
    rw [run_sizeB]
    simp only [Result.andThen, sliced, Int.toNat_natCast]
  · have := h.cut (lo := lo) (hi := hi) (m := c) h1 h2 (by omega) (Nat.le_refl _)
    simp only [Nat.mul_one] at this
    rw [bc_take, bc_drop, Nat.mul_one]
    exact this
  · intro B ho
    have := Own.cut ho (lo := lo) (hi := hi) (m := c) h1 h2 (by omega) (Nat.le_refl _)
    simp only [Nat.mul_one] at this
    unfold OwnB
    rw [bc_take, bc_drop, Nat.mul_one]
    exact this
/-- p[lo:] -/
theorem cutL {w : World} {A : Option Addr} {n c : Nat} {l : List UInt8} (h : Sl w 1 A n c (bc l)) (q : IntKind) (i : Int) (lo : Nat) (ei : i = lo) (h2 : lo ≤ n) :
    ∃ A', (∀ w' : World, (Instr.slice 23 (.slice A n c) (some (.int q i)) none none).run Try.prog w' = .ok (.slice A' (n - lo) (c - lo)) w') ∧
      Sl w 1 A' (n - lo) (c - lo) (bc (l.drop lo)) ∧ ∀ B, OwnB w B A n c l → OwnB w B A' (n - lo) (c - lo) (l.drop lo) := by
  have hcap := h.cap
  have hl := h.lenb
  subst ei
  have e : (l.drop lo).take (n - lo) = l.drop lo := List.take_of_length_le (by simp; omega)
  obtain ⟨A', hr, h3, h4⟩ := cutLH h q q lo n lo n rfl rfl h2 (Nat.le_refl _)
  rw [e] at h3 h4
  refine ⟨A', fun w' => ?_, h3, h4⟩
  rw [← hr w', run_slice_lh (P := Try.prog) w' 23 A n c Try.underlying23 q q lo n (by omega) (by omega) (by omega),
    run_slice_l (P := Try.prog) w' 23 A n c Try.underlying23 q lo (by omega) (by omega)]
  simp only [Int.toNat_natCast]
set_option maxHeartbeats 400000 in
/-- Same: of two -/
theorem same_any (w : World) (A1 : Option Addr) (n1 c1 : Nat) (l1 : List UInt8) (A2 : Option Addr) (n2 c2 : Nat) (l2 : List UInt8) (h1 : Sl w 1 A1 n1 c1 (bc l1)) (h2 : Sl w 1 A2 n2 c2 (bc l2)) :
    Calls Try.prog 23 #[.slice A1 n1 c1, .slice A2 n2 c2] w fun e w' => e = .returned (.bool (l1 == l2)) ∧ w = w' := by
  obtain ⟨s1, e1, r1⟩ := run_conv w A1 n1 c1 l1 h1
  obtain ⟨s2, e2, r2⟩ := run_conv w A2 n2 c2 l2 h2
  have E1 := Lib.hid e1
  have E2 := Lib.hid e2
  clear e1 e2 h1 h2
  go_enter Try.func23, Try.ntmps23
  go_wp2
  go_ret
  refine ⟨ret_bool ?_, rfl⟩
  rw [E1.out, E2.out]
theorem same_is (w : World) (A1 : Option Addr) (n1 c1 : Nat) (l1 : List UInt8) (A2 : Option Addr) (n2 c2 : Nat) (l2 : List UInt8) (b : Bool) (hb : Hid ((l1 == l2) = b)) (h1 : Sl w 1 A1 n1 c1 (bc l1)) (h2 : Sl w 1 A2 n2 c2 (bc l2)) :
    Calls Try.prog 23 #[.slice A1 n1 c1, .slice A2 n2 c2] w fun e w' => e = .returned (.bool b) ∧ w = w' := by
  rw [← hb.out]
  exact same_any w A1 n1 c1 l1 A2 n2 c2 l2 h1 h2
/-- what a call that makes bytes of its own gives back: l, in memory of its own; nothing else has turned -/
def NewB (w : World) (l : List UInt8) (e : Ending) (w' : World) : Prop :=
  ∃ (A : Option Addr) (n c : Nat), e = .returned (.slice A n c) ∧ OwnB w' w.heap.size A n c l ∧ Below w.heap.size w w'

set_option maxHeartbeats 400000 in
/-- bytes.Clone -/
theorem clone_any (w : World) (A : Option Addr) (n c : Nat) (l : List UInt8) (h : Sl w 1 A n c (bc l)) (hn : n ≤ 140737488355328) :
    Calls Try.prog 72 #[.slice A n c] w (NewB w l) := by
  have q : ∀ (w : World) (a : Option Addr) (n c n' c' : Nat), (binOp .eql 23 (.slice a n c) (.slice none n' c')).run Try.prog w = .ok (.bool a.isNone) w := fun w a n c n' c' => Lib.run_eql_slice_nil w _ _ a n c n' c' Try.underlying23
  go_enter Try.func72, Try.ntmps72
  cases A with
  | none =>
    obtain rfl := h.none_len
    obtain rfl : l = [] := List.eq_nil_of_length_eq_zero h.lenb
    go_wp2
    go_ret
    exact ⟨none, 0, 0, rfl, Own.nil _ _ _ _ _, Below.refl _ _⟩
  | some ad =>
    have h1 := h.below (by omega) ((Below.refl w.heap.size w).alloc (Nat.le_refl _) (.cells #[] 5))
    go_wp2_with (at_builtin; refine wpList_appB _ rfl (.tmp 5) (.tmp 6) rfl w.heap.size _ 0 0 [] rfl (Own.nil _ _ _ _ _) _ n c l rfl h1 ?_ ?_ ?_)
    · omega
    · simp
    · intro A' c' w1 hown hg _
      go_wp2
      go_ret
      exact ⟨A', _, c', rfl, by simpa using hown, ((Below.refl w.heap.size w).alloc (Nat.le_refl _) _).grown hg (by simp) (by simp [blk])⟩

set_option maxHeartbeats 400000 in
/-- Copy of the references -/
theorem copy_any (w : World) (A : Option Addr) (n c : Nat) (l : List UInt8) (h : Sl w 1 A n c (bc l)) (hn : n ≤ 140737488355328) :
    Calls Try.prog 47 #[.slice A n c] w (NewB w l) := by
  have h1 := h.below (by omega) ((Below.refl w.heap.size w).alloc (Nat.le_refl _) (.cells #[] 5))
  go_enter Try.func47, Try.ntmps47
  go_wp2_with (at_builtin; refine wpList_appB _ rfl (.tmp 3) (.tmp 4) rfl w.heap.size _ 0 0 [] rfl (Own.nil _ _ _ _ _) _ n c l rfl h1 ?_ ?_ ?_)
  · omega
  · simp
  · intro A' c' w1 hown hg _
    go_wp2
    go_ret
    exact ⟨A', _, c', rfl, by simpa using hown, ((Below.refl w.heap.size w).alloc (Nat.le_refl _) _).grown hg (by simp) (by simp [blk])⟩

set_option maxHeartbeats 400000 in
/-- Cut of the references -/
theorem cut_any (w : World) (A : Option Addr) (n c : Nat) (l : List UInt8) (k : Nat) (h : Sl w 1 A n c (bc l)) (hk : k ≤ 140737488355328) :
    Calls Try.prog 26 #[.slice A n c, .int .i64 (k : Int)] w (NewB w (l.take k)) := by
  have h1 := h.below (by omega) ((Below.refl w.heap.size w).alloc (Nat.le_refl _) (.cells #[] 5))
  have hl := h.lenb
  have hcap := h.cap
  have hcm := h.capm
  unfold maxLen at hcm
  have Hl := Lib.hid hl
  clear hl
  by_cases hkn : k < n
  · obtain ⟨hr, hs⟩ := cutH h1 .i64 k k rfl (by omega)
    go_enter Try.func26, Try.ntmps26
    go_wp2_with (at_builtin; refine wpList_appB _ rfl (.tmp 5) (.tmp 11) rfl w.heap.size _ 0 0 [] rfl (Own.nil _ _ _ _ _) _ k c _ rfl hs ?_ ?_ ?_)
    · omega
    · simp
    · intro A' c' w1 hown hg _
      go_wp2
      go_ret
      exact ⟨A', _, c', rfl, by simpa using hown, ((Below.refl w.heap.size w).alloc (Nat.le_refl _) _).grown hg (by simp) (by simp [blk])⟩
  · obtain ⟨hr, hs⟩ := cutH h1 .i64 n n rfl (Nat.le_refl _)
    rw [List.take_of_length_le (show l.length ≤ n by have := Hl.out; omega)] at hs
    have e : l.take k = l := List.take_of_length_le (by have := Hl.out; omega)
    rw [e]
    clear e
    go_enter Try.func26, Try.ntmps26
    go_wp2_with (at_builtin; refine wpList_appB _ rfl (.tmp 5) (.tmp 11) rfl w.heap.size _ 0 0 [] rfl (Own.nil _ _ _ _ _) _ n c _ rfl hs ?_ ?_ ?_)
    · omega
    · simp
    · intro A' c' w1 hown hg _
      go_wp2
      go_ret
      exact ⟨A', _, c', rfl, by simpa using hown, ((Below.refl w.heap.size w).alloc (Nat.le_refl _) _).grown hg (by simp) (by simp [blk])⟩

/-- copy of bytes onto bytes of the call's own -/
theorem wpList_cpyB (w : World) {ops : Array Oper} {rest : List Oper} {o : Oper} {a : Act} {Q : Exit → Act → World → Prop} (hgd : o.guard = none) (s x : Operand)
    (ho : o.op = .call { callee := .builtin .copy, args := #[s, x], argTypes := #[23, 23] })
    (B : Nat) (A : Option Addr) (n c : Nat) (l : List UInt8) (hsv : a.eval s = .slice A n c) (hown : OwnB w B A n c l)
    (A2 : Option Addr) (m c2 : Nat) (l2 : List UInt8) (hx : a.eval x = .slice A2 m c2) (hs : Sl w 1 A2 m c2 (bc l2)) (hmn : m ≤ n)
    (h : ∀ w', OwnB w' B A n c (l2 ++ l.drop m) → w.grownBy w' (blk A c) → wpList Try.prog ops Q rest (a.put o.dst (goInt m)) w') : wpList Try.prog ops Q (o :: rest) a w := by
  obtain ⟨i, hi, hz, hs1, hb1⟩ := info_parts infoB
  refine wpList_cpy w hgd s x _ ho B _ i Try.underlying23 hi hs1 A n c (bc l) hsv hown A2 m c2 (bc l2) hx hs (bc_one _) hmn ?_
  intro w' h1 h2
  exact h w' (by unfold OwnB; rw [bc_append, bc_drop]; exact h1) h2
/-- make([]byte, n) -/
theorem wpList_mkB (w : World) {ops : Array Oper} {rest : List Oper} {o : Oper} {a : Act} {Q : Exit → Act → World → Prop} (hgd : o.guard = none) (l c : Operand) (ho : o.op = Op.makeSlice 23 l c)
    (B : Nat) (kl kc : IntKind) (L C : Int) (n : Nat) (hl : a.eval l = .int kl L) (hc : a.eval c = .int kc C) (hL : L = (n : Int)) (hC : C = (n : Int)) (b2 : n ≤ 281474976710656) (b4 : B ≤ w.heap.size)
    (h : ∀ w', OwnB w' B (some ⟨w.heap.size, 0, none⟩) n n (List.replicate n 0) → Below w.heap.size w w' → w'.heap.size = w.heap.size + 1 → wpList Try.prog ops Q rest (a.put o.dst (.slice (some ⟨w.heap.size, 0, none⟩) n n)) w') :
    wpList Try.prog ops Q (o :: rest) a w := by
  obtain ⟨i, hi, hz, hs1, hb1⟩ := info_parts infoB
  refine wpList_mk w hgd l c _ ho B _ i _ 1 Try.underlying23 hi hz hs1 hb1 rfl kl kc L C n hl hc hL hC (by omega) (by unfold maxLen; omega) b4 ?_
  intro w' h1 h2 h3
  refine h w' ?_ h2 h3
  unfold OwnB
  have e : bc (List.replicate n 0) = List.replicate n (.int .u8 0) := by simp [bc]
  rw [e]
  exact h1
/-- a byte of one's own, written -/
theorem OwnB.stored {w : World} {B : Nat} {g o n c : Nat} {l : List UInt8} (h : OwnB w B (some ⟨g, o, none⟩) n c l) {k : Nat} (hk : k < n) (x : UInt8) :
    OwnB (w.setCell ⟨g, o + k, none⟩ (.int .u8 (x.toNat : Int))) B (some ⟨g, o, none⟩) n c (l.set k x) := by
  have := Own.stored h hk (.int .u8 (x.toNat : Int))
  unfold OwnB
  have e : bc (l.set k x) = (bc l).set k (.int .u8 (x.toNat : Int)) := by simp [bc, List.map_set]
  rw [e]
  exact this
theorem OwnB.place {w : World} {B : Nat} {A : Option Addr} {n c : Nat} {l : List UInt8} (h : OwnB w B A n c l) {k : Nat} (hk : k < n) :
    ∃ (g o : Nat) (x : UInt8), A = some ⟨g, o, none⟩ ∧ B ≤ g ∧ g < w.heap.size ∧ l[k]? = some x ∧ w.cell? ⟨g, o + k, none⟩ = some (.int .u8 (x.toNat : Int)) ∧ w.frozen? ⟨g, o + k, none⟩ = false := by
  obtain ⟨g, o, u, h1, h2, h3, h4, h5, h6⟩ := Own.place h hk
  rw [bc_get] at h4
  obtain ⟨x, hx, rfl⟩ := Option.map_eq_some_iff.1 h4
  exact ⟨g, o, x, h1, h2, h3, hx, h5, h6⟩

end Go.Proofs.Ytfonincdhjkacaa
