/-
  Bytes, Parts, Rows0, Recs in one text. No condition but sizes.
-/
import Derived.Test.YtpjinmiedanebaaDoorLib
import Derived.Test.YtpjinmiedanebaaDoorProg
namespace Go.Proofs.YtpjinmiedanebaaDoor
set_option maxRecDepth 20000
open Go.RowKit

theorem ret_int {k : IntKind} {a b : Int} (h : a = b) : Ending.returned (.int k a) = .returned (.int k b) := by rw [h]
theorem ret_bool {a b : Bool} (h : a = b) : Ending.returned (.bool a) = .returned (.bool b) := by rw [h]
theorem infoB : (Tryd.prog.info? 5).map (fun i => (i.zero, i.size, i.bytes)) = some (some (.int .u8 0), 1, 1) := by kernel_rfl

/-- a slice of bytes that lies in memory of the call's own -/
def OwnB (w : World) (B : Nat) (A : Option Addr) (n c : Nat) (l : List UInt8) : Prop := Own w B 5 1 A n c (bc l)
theorem OwnB.sl {w : World} {B : Nat} {A : Option Addr} {n c : Nat} {l : List UInt8} (h : OwnB w B A n c l) : Sl w 1 A n c (bc l) := Own.sl h
theorem OwnB.len' {w : World} {B : Nat} {A : Option Addr} {n c : Nat} {l : List UInt8} (h : OwnB w B A n c l) : l.length = n := h.sl.lenb

/-- append of bytes to bytes of the call's own -/
theorem wpList_appB (w : World) {ops : Array Oper} {rest : List Oper} {o : Oper} {a : Act} {Q : Exit → Act → World → Prop} (hgd : o.guard = none) (s x : Operand)
    (ho : o.op = .call { callee := .builtin .append, args := #[s, x], argTypes := #[22, 22] })
    (B : Nat) (A : Option Addr) (n c : Nat) (l : List UInt8) (hsv : a.eval s = .slice A n c) (hown : OwnB w B A n c l)
    (A2 : Option Addr) (m c2 : Nat) (l2 : List UInt8) (hx : a.eval x = .slice A2 m c2) (hs : Sl w 1 A2 m c2 (bc l2))
    (hbytes : n + m ≤ 140737488355328) (hB : B ≤ w.heap.size)
    (h : ∀ A' c' w', OwnB w' B A' (n + m) c' (l ++ l2) → w.grownBy w' (blk A c) → (blk A' c' = blk A c ∨ blk A' c' = some w.heap.size) → wpList Tryd.prog ops Q rest (a.put o.dst (.slice A' (n + m) c')) w') : wpList Tryd.prog ops Q (o :: rest) a w := by
  obtain ⟨i, hi, hz, hs1, hb1⟩ := info_parts infoB
  refine wpList_app w hgd s x _ ho B _ i _ 1 1 Tryd.underlying22 hi hz hs1 hb1 rfl A n c (bc l) hsv hown A2 m c2 (bc l2) hx hs (bc_one _) (by unfold maxLen; omega) (by omega) hB ?_
  intro A' c' w' h1 h2 h3
  exact h A' c' w' (by unfold OwnB; rw [bc_append]; exact h1) h2 h3

/-- a slice of bytes as a string -/
theorem run_conv (w : World) (A : Option Addr) (n c : Nat) (l : List UInt8) (h : Sl w 1 A n c (bc l)) :
    ∃ s : ByteArray, s.toList = l ∧ (convert 22 9 (.slice A n c)).run Tryd.prog w = .ok (.string s) w := by
  have hl := h.lenb
  refine ⟨⟨l.toArray⟩, by rw [ByteArray.toList_eq], ?_⟩
  rcases Nat.eq_zero_or_pos n with h0 | h0
  · subst h0
    have e : l = [] := List.eq_nil_of_length_eq_zero hl
    subst e
    rw [run_convert_bytes_string w 22 9 5 A 0 c Tryd.underlying22 Tryd.underlying5 Tryd.underlying9]
    cases A with
    | none => simp [Conv.bytesToString]; rfl
    | some ad => simp [Conv.bytesToString, loadCells, loadCellsFrom]; rfl
  · obtain ⟨b, o, rfl, hc⟩ := h.at_ h0
    have hr := run_convert_bytes_arg (P := Tryd.prog) w 22 5 Tryd.underlying22 Tryd.underlying5 b o n c (l.map fun x => (x.toNat : Int)) (by simpa using hl) (fun i hi => by
      have hil : i < l.length := by omega
      have := hc i _ (by rw [bc_get, List.getElem?_eq_getElem hil]; rfl)
      rw [this]
      simp [List.getD, List.getElem?_eq_getElem hil]) 9 Tryd.underlying9
    rw [hr]
    congr 2
    simp only [strOfNums]
    congr 1
    simp only [List.map_map]
    congr 1
    conv => rhs; rw [← List.map_id l]
    apply List.map_congr_left
    intro x _
    simp

theorem infoSz : (Tryd.prog.info? 5).map (·.size) = some 1 := by kernel_rfl
theorem run_sizeB (w : World) : (sizeOf 5).run Tryd.prog w = .ok 1 w := by
  obtain ⟨i, hi, _, hs, _⟩ := info_parts infoB
  simp [sizeOf, typeInfo, hi, hs]

theorem addr0 (c : Nat) (A : Option Addr) : (if c = 0 then A else A.map fun x => x.add 0) = A := by
  split
  · rfl
  · cases A <;> simp [Addr.add]
/-- p[:k], up to the capacity -/
theorem cutC {A : Option Addr} {n c : Nat} (q : IntKind) (i : Int) (k : Nat) (hi : i = k) (hk : k ≤ c) (w' : World) :
    (Instr.slice 22 (.slice A n c) none (some (.int q i)) none).run Tryd.prog w' = .ok (.slice A k c) w' := by
  subst hi
  have := run_slice_h (P := Tryd.prog) w' 22 A n c Tryd.underlying22 q k (by omega) (by omega)
  rw [this]
  show ((sizeOf 5).run Tryd.prog w').andThen _ = _
  rw [run_sizeB]
  simp only [Result.andThen, sliced, Int.toNat_natCast, Nat.sub_zero, Nat.zero_mul]
  rw [addr0]
/-- p[:k] -/
theorem cutH {w : World} {A : Option Addr} {n c : Nat} {l : List UInt8} (h : Sl w 1 A n c (bc l)) (q : IntKind) (i : Int) (k : Nat) (hi : i = k) (hk : k ≤ n) :
    (∀ w' : World, (Instr.slice 22 (.slice A n c) none (some (.int q i)) none).run Tryd.prog w' = .ok (.slice A k c) w') ∧ Sl w 1 A k c (bc (l.take k)) := by
  have hcap := h.cap
  constructor
  · intro w'
    subst hi
    have := run_slice_h (P := Tryd.prog) w' 22 A n c Tryd.underlying22 q k (by omega) (by omega)
    rw [this]
    show ((sizeOf 5).run Tryd.prog w').andThen _ = _
    rw [run_sizeB]
    simp only [Result.andThen, sliced, Int.toNat_natCast, Nat.sub_zero, Nat.zero_mul]
    rw [addr0]
  · have := h.cut (lo := 0) (hi := k) (m := c) (Nat.zero_le _) hk (by omega) (Nat.le_refl _)
    simp only [List.drop_zero, Nat.sub_zero, Nat.mul_one] at this
    rw [bc_take]
    rw [addr0] at this
    exact this
/-- p[lo:hi] -/
theorem cutLH {w : World} {A : Option Addr} {n c : Nat} {l : List UInt8} (h : Sl w 1 A n c (bc l)) (q q' : IntKind) (i j : Int) (lo hi : Nat) (ei : i = lo) (ej : j = hi) (h1 : lo ≤ hi) (h2 : hi ≤ n) :
    ∃ A', (∀ w' : World, (Instr.slice 22 (.slice A n c) (some (.int q i)) (some (.int q' j)) none).run Tryd.prog w' = .ok (.slice A' (hi - lo) (c - lo)) w') ∧
      Sl w 1 A' (hi - lo) (c - lo) (bc ((l.drop lo).take (hi - lo))) ∧ ∀ B, OwnB w B A n c l → OwnB w B A' (hi - lo) (c - lo) ((l.drop lo).take (hi - lo)) := by
  have hcap := h.cap
  subst ei
  subst ej
  refine ⟨if c = lo then A else A.map (·.add (lo * 1)), fun w' => ?_, ?_, ?_⟩
  · have := run_slice_lh (P := Tryd.prog) w' 22 A n c Tryd.underlying22 q q' lo hi (by omega) (by omega) (by omega)
    rw [this]
    show ((sizeOf 5).run Tryd.prog w').andThen _ = _
    rw [run_sizeB]
    simp only [Result.andThen, sliced, Int.toNat_natCast]
  · have := h.cut (lo := lo) (hi := hi) (m := c) h1 h2 (by omega) (Nat.le_refl _)
    simp only [Nat.mul_one] at this
    rw [bc_take, bc_drop, Nat.mul_one]
    exact this
  · intro B ho
    have := Own.cut ho (lo := lo) (hi := hi) (m := c) h1 h2 (by omega) (Nat.le_refl _)
    simp only [Nat.mul_one] at this
    unfold OwnB
    rw [bc_take, bc_drop, Nat.mul_one]
    exact this
/-- p[lo:] -/
theorem cutL {w : World} {A : Option Addr} {n c : Nat} {l : List UInt8} (h : Sl w 1 A n c (bc l)) (q : IntKind) (i : Int) (lo : Nat) (ei : i = lo) (h2 : lo ≤ n) :
    ∃ A', (∀ w' : World, (Instr.slice 22 (.slice A n c) (some (.int q i)) none none).run Tryd.prog w' = .ok (.slice A' (n - lo) (c - lo)) w') ∧
      Sl w 1 A' (n - lo) (c - lo) (bc (l.drop lo)) ∧ ∀ B, OwnB w B A n c l → OwnB w B A' (n - lo) (c - lo) (l.drop lo) := by
  have hcap := h.cap
  have hl := h.lenb
  subst ei
  have e : (l.drop lo).take (n - lo) = l.drop lo := List.take_of_length_le (by simp; omega)
  obtain ⟨A', hr, h3, h4⟩ := cutLH h q q lo n lo n rfl rfl h2 (Nat.le_refl _)
  rw [e] at h3 h4
  refine ⟨A', fun w' => ?_, h3, h4⟩
  rw [← hr w', run_slice_lh (P := Tryd.prog) w' 22 A n c Tryd.underlying22 q q lo n (by omega) (by omega) (by omega),
    run_slice_l (P := Tryd.prog) w' 22 A n c Tryd.underlying22 q lo (by omega) (by omega)]
  simp only [Int.toNat_natCast]
set_option maxHeartbeats 400000 in
/-- Same: of two -/
theorem same_any (w : World) (A1 : Option Addr) (n1 c1 : Nat) (l1 : List UInt8) (A2 : Option Addr) (n2 c2 : Nat) (l2 : List UInt8) (h1 : Sl w 1 A1 n1 c1 (bc l1)) (h2 : Sl w 1 A2 n2 c2 (bc l2)) :
    Calls Tryd.prog 13 #[.slice A1 n1 c1, .slice A2 n2 c2] w fun e w' => e = .returned (.bool (l1 == l2)) ∧ w = w' := by
  obtain ⟨s1, e1, r1⟩ := run_conv w A1 n1 c1 l1 h1
  obtain ⟨s2, e2, r2⟩ := run_conv w A2 n2 c2 l2 h2
  have E1 := Lib.hid e1
  have E2 := Lib.hid e2
  clear e1 e2 h1 h2
  go_enter Tryd.func13, Tryd.ntmps13
  go_wp2
  go_ret
  refine ⟨ret_bool ?_, rfl⟩
  rw [E1.out, E2.out]
theorem same_is (w : World) (A1 : Option Addr) (n1 c1 : Nat) (l1 : List UInt8) (A2 : Option Addr) (n2 c2 : Nat) (l2 : List UInt8) (b : Bool) (hb : Hid ((l1 == l2) = b)) (h1 : Sl w 1 A1 n1 c1 (bc l1)) (h2 : Sl w 1 A2 n2 c2 (bc l2)) :
    Calls Tryd.prog 13 #[.slice A1 n1 c1, .slice A2 n2 c2] w fun e w' => e = .returned (.bool b) ∧ w = w' := by
  rw [← hb.out]
  exact same_any w A1 n1 c1 l1 A2 n2 c2 l2 h1 h2
/-- what a call that makes bytes of its own gives back: l, in memory of its own; nothing else has turned -/
def NewB (w : World) (l : List UInt8) (e : Ending) (w' : World) : Prop :=
  ∃ (A : Option Addr) (n c : Nat), e = .returned (.slice A n c) ∧ OwnB w' w.heap.size A n c l ∧ Below w.heap.size w w'

set_option maxHeartbeats 400000 in
/-- bytes.Clone -/
theorem clone_any (w : World) (A : Option Addr) (n c : Nat) (l : List UInt8) (h : Sl w 1 A n c (bc l)) (hn : n ≤ 140737488355328) :
    Calls Tryd.prog 66 #[.slice A n c] w (NewB w l) := by
  have q : ∀ (w : World) (a : Option Addr) (n c n' c' : Nat), (binOp .eql 22 (.slice a n c) (.slice none n' c')).run Tryd.prog w = .ok (.bool a.isNone) w := fun w a n c n' c' => Lib.run_eql_slice_nil w _ _ a n c n' c' Tryd.underlying22
  go_enter Tryd.func66, Tryd.ntmps66
  cases A with
  | none =>
    obtain rfl := h.none_len
    obtain rfl : l = [] := List.eq_nil_of_length_eq_zero h.lenb
    go_wp2
    go_ret
    exact ⟨none, 0, 0, rfl, Own.nil _ _ _ _ _, Below.refl _ _⟩
  | some ad =>
    have h1 := h.below (by omega) ((Below.refl w.heap.size w).alloc (Nat.le_refl _) (.cells #[] 5))
    go_wp2_with (at_builtin; refine wpList_appB _ rfl (.tmp 5) (.tmp 6) rfl w.heap.size _ 0 0 [] rfl (Own.nil _ _ _ _ _) _ n c l rfl h1 ?_ ?_ ?_)
    · omega
    · simp
    · intro A' c' w1 hown hg _
      go_wp2
      go_ret
      exact ⟨A', _, c', rfl, by simpa using hown, ((Below.refl w.heap.size w).alloc (Nat.le_refl _) _).grown hg (by simp) (by simp [blk])⟩

set_option maxHeartbeats 400000 in
/-- Copy of the references -/
theorem copy_any (w : World) (A : Option Addr) (n c : Nat) (l : List UInt8) (h : Sl w 1 A n c (bc l)) (hn : n ≤ 140737488355328) :
    Calls Tryd.prog 8 #[.slice A n c] w (NewB w l) := by
  have h1 := h.below (by omega) ((Below.refl w.heap.size w).alloc (Nat.le_refl _) (.cells #[] 5))
  go_enter Tryd.func8, Tryd.ntmps8
  go_wp2_with (at_builtin; refine wpList_appB _ rfl (.tmp 3) (.tmp 4) rfl w.heap.size _ 0 0 [] rfl (Own.nil _ _ _ _ _) _ n c l rfl h1 ?_ ?_ ?_)
  · omega
  · simp
  · intro A' c' w1 hown hg _
    go_wp2
    go_ret
    exact ⟨A', _, c', rfl, by simpa using hown, ((Below.refl w.heap.size w).alloc (Nat.le_refl _) _).grown hg (by simp) (by simp [blk])⟩

set_option maxHeartbeats 400000 in
/-- Cut of the references -/
theorem cut_any (w : World) (A : Option Addr) (n c : Nat) (l : List UInt8) (k : Nat) (h : Sl w 1 A n c (bc l)) (hk : k ≤ 140737488355328) :
    Calls Tryd.prog 7 #[.slice A n c, .int .i64 (k : Int)] w (NewB w (l.take k)) := by
  have h1 := h.below (by omega) ((Below.refl w.heap.size w).alloc (Nat.le_refl _) (.cells #[] 5))
  have hl := h.lenb
  have hcap := h.cap
  have hcm := h.capm
  unfold maxLen at hcm
  have Hl := Lib.hid hl
  clear hl
  by_cases hkn : k < n
  · obtain ⟨hr, hs⟩ := cutH h1 .i64 k k rfl (by omega)
    go_enter Tryd.func7, Tryd.ntmps7
    go_wp2_with (at_builtin; refine wpList_appB _ rfl (.tmp 5) (.tmp 11) rfl w.heap.size _ 0 0 [] rfl (Own.nil _ _ _ _ _) _ k c _ rfl hs ?_ ?_ ?_)
    · omega
    · simp
    · intro A' c' w1 hown hg _
      go_wp2
      go_ret
      exact ⟨A', _, c', rfl, by simpa using hown, ((Below.refl w.heap.size w).alloc (Nat.le_refl _) _).grown hg (by simp) (by simp [blk])⟩
  · obtain ⟨hr, hs⟩ := cutH h1 .i64 n n rfl (Nat.le_refl _)
    rw [List.take_of_length_le (show l.length ≤ n by have := Hl.out; omega)] at hs
    have e : l.take k = l := List.take_of_length_le (by have := Hl.out; omega)
    rw [e]
    clear e
    go_enter Tryd.func7, Tryd.ntmps7
    go_wp2_with (at_builtin; refine wpList_appB _ rfl (.tmp 5) (.tmp 11) rfl w.heap.size _ 0 0 [] rfl (Own.nil _ _ _ _ _) _ n c _ rfl hs ?_ ?_ ?_)
    · omega
    · simp
    · intro A' c' w1 hown hg _
      go_wp2
      go_ret
      exact ⟨A', _, c', rfl, by simpa using hown, ((Below.refl w.heap.size w).alloc (Nat.le_refl _) _).grown hg (by simp) (by simp [blk])⟩

/-- copy of bytes onto bytes of the call's own -/
theorem wpList_cpyB (w : World) {ops : Array Oper} {rest : List Oper} {o : Oper} {a : Act} {Q : Exit → Act → World → Prop} (hgd : o.guard = none) (s x : Operand)
    (ho : o.op = .call { callee := .builtin .copy, args := #[s, x], argTypes := #[22, 22] })
    (B : Nat) (A : Option Addr) (n c : Nat) (l : List UInt8) (hsv : a.eval s = .slice A n c) (hown : OwnB w B A n c l)
    (A2 : Option Addr) (m c2 : Nat) (l2 : List UInt8) (hx : a.eval x = .slice A2 m c2) (hs : Sl w 1 A2 m c2 (bc l2)) (hmn : m ≤ n)
    (h : ∀ w', OwnB w' B A n c (l2 ++ l.drop m) → w.grownBy w' (blk A c) → wpList Tryd.prog ops Q rest (a.put o.dst (goInt m)) w') : wpList Tryd.prog ops Q (o :: rest) a w := by
  obtain ⟨i, hi, hz, hs1, hb1⟩ := info_parts infoB
  refine wpList_cpy w hgd s x _ ho B _ i Tryd.underlying22 hi hs1 A n c (bc l) hsv hown A2 m c2 (bc l2) hx hs (bc_one _) hmn ?_
  intro w' h1 h2
  exact h w' (by unfold OwnB; rw [bc_append, bc_drop]; exact h1) h2
/-- make([]byte, n) -/
theorem wpList_mkB (w : World) {ops : Array Oper} {rest : List Oper} {o : Oper} {a : Act} {Q : Exit → Act → World → Prop} (hgd : o.guard = none) (l c : Operand) (ho : o.op = Op.makeSlice 22 l c)
    (B : Nat) (kl kc : IntKind) (L C : Int) (n : Nat) (hl : a.eval l = .int kl L) (hc : a.eval c = .int kc C) (hL : L = (n : Int)) (hC : C = (n : Int)) (b2 : n ≤ 281474976710656) (b4 : B ≤ w.heap.size)
    (h : ∀ w', OwnB w' B (some ⟨w.heap.size, 0, none⟩) n n (List.replicate n 0) → Below w.heap.size w w' → w'.heap.size = w.heap.size + 1 → wpList Tryd.prog ops Q rest (a.put o.dst (.slice (some ⟨w.heap.size, 0, none⟩) n n)) w') :
    wpList Tryd.prog ops Q (o :: rest) a w := by
  obtain ⟨i, hi, hz, hs1, hb1⟩ := info_parts infoB
  refine wpList_mk w hgd l c _ ho B _ i _ 1 Tryd.underlying22 hi hz hs1 hb1 rfl kl kc L C n hl hc hL hC (by omega) (by unfold maxLen; omega) b4 ?_
  intro w' h1 h2 h3
  refine h w' ?_ h2 h3
  unfold OwnB
  have e : bc (List.replicate n 0) = List.replicate n (.int .u8 0) := by simp [bc]
  rw [e]
  exact h1
/-- a byte of one's own, written -/
theorem OwnB.stored {w : World} {B : Nat} {g o n c : Nat} {l : List UInt8} (h : OwnB w B (some ⟨g, o, none⟩) n c l) {k : Nat} (hk : k < n) (x : UInt8) :
    OwnB (w.setCell ⟨g, o + k, none⟩ (.int .u8 (x.toNat : Int))) B (some ⟨g, o, none⟩) n c (l.set k x) := by
  have := Own.stored h hk (.int .u8 (x.toNat : Int))
  unfold OwnB
  have e : bc (l.set k x) = (bc l).set k (.int .u8 (x.toNat : Int)) := by simp [bc, List.map_set]
  rw [e]
  exact this
theorem OwnB.place {w : World} {B : Nat} {A : Option Addr} {n c : Nat} {l : List UInt8} (h : OwnB w B A n c l) {k : Nat} (hk : k < n) :
    ∃ (g o : Nat) (x : UInt8), A = some ⟨g, o, none⟩ ∧ B ≤ g ∧ g < w.heap.size ∧ l[k]? = some x ∧ w.cell? ⟨g, o + k, none⟩ = some (.int .u8 (x.toNat : Int)) ∧ w.frozen? ⟨g, o + k, none⟩ = false := by
  obtain ⟨g, o, u, h1, h2, h3, h4, h5, h6⟩ := Own.place h hk
  rw [bc_get] at h4
  obtain ⟨x, hx, rfl⟩ := Option.map_eq_some_iff.1 h4
  exact ⟨g, o, x, h1, h2, h3, hx, h5, h6⟩

end Go.Proofs.YtpjinmiedanebaaDoor

namespace Go.Proofs.YtpjinmiedanebaaDoor
set_option maxRecDepth 20000
open Go.RowKit

theorem infoP : (Tryd.prog.info? 22).map (fun i => (i.zero, i.size, i.bytes)) = some (some (.slice none 0 0), 1, 24) := by kernel_rfl

/-- rows of unlike element types lie apart -/
theorem own_apart {w : World} {B B' e e' size size' n n' c c' : Nat} {A A' : Option Addr} {xs xs' : List Value} (h : Own w B e size A n c xs) (h' : Own w B' e' size' A' n' c' xs') (he : e ≠ e') : ∀ b, blk A c = some b → blk A' c' ≠ some b := by
  intro b hb hb'
  unfold blk at hb hb'
  split at hb
  · cases hb
  · split at hb'
    · cases hb'
    · obtain ⟨g, o, cur, rfl, _, hh, _⟩ := h.row (by omega)
      obtain ⟨g', o', cur', rfl, _, hh', _⟩ := h'.row (by omega)
      simp at hb hb'
      subst hb
      subst hb'
      rw [hh] at hh'
      injection hh' with hh'
      injection hh' with _ hh' _
      exact he hh'
theorem blk_lt {w : World} {B e size n c : Nat} {A : Option Addr} {xs : List Value} (h : Own w B e size A n c xs) : blk A c ≠ some w.heap.size := by
  intro e
  have := (h.lt _ e).2
  omega

/-- the values vs are byte slices of the texts ls, each in memory of the call's own from block B on, none in block X -/
def OwnParts (w : World) (B : Nat) (X : Option Nat) (vs : List Value) (ls : List (List UInt8)) : Prop :=
  vs.length = ls.length ∧ ∀ (i : Nat) (v : Value) (l : List UInt8), vs[i]? = some v → ls[i]? = some l → ∃ (A : Option Addr) (n c : Nat), v = Value.slice A n c ∧ OwnB w B A n c l ∧ ∀ b, blk A c = some b → X ≠ some b
section
variable {w w' : World} {B B' : Nat} {X X' : Option Nat} {vs : List Value} {ls : List (List UInt8)}
theorem OwnParts.nil (w : World) (B : Nat) (X : Option Nat) : OwnParts w B X [] [] := ⟨rfl, fun i v l hv => by simp at hv⟩
theorem OwnParts.parts (h : OwnParts w B X vs ls) : PartsOf w vs ls :=
  ⟨h.1, fun i v l hv hl => by
    obtain ⟨A, n, c, e, ho, _⟩ := h.2 i v l hv hl
    exact ⟨A, n, c, e, ho.sl⟩⟩
theorem OwnParts.below (h : OwnParts w B X vs ls) (hb : Below w.heap.size w w') : OwnParts w' B X vs ls :=
  ⟨h.1, fun i v l hv hl => by
    obtain ⟨A, n, c, e, ho, hx⟩ := h.2 i v l hv hl
    exact ⟨A, n, c, e, Own.below ho hb, hx⟩⟩
theorem OwnParts.mono (h : OwnParts w B X vs ls) (hB : B' ≤ B) : OwnParts w B' X vs ls :=
  ⟨h.1, fun i v l hv hl => by
    obtain ⟨A, n, c, e, ho, hx⟩ := h.2 i v l hv hl
    exact ⟨A, n, c, e, Own.mono ho hB, hx⟩⟩
/-- block X was written -/
theorem OwnParts.wrote (h : OwnParts w B X vs ls) (hg : w.grownBy w' X) : OwnParts w' B X vs ls :=
  ⟨h.1, fun i v l hv hl => by
    obtain ⟨A, n, c, e, ho, hx⟩ := h.2 i v l hv hl
    exact ⟨A, n, c, e, Own.grown ho hg hx, hx⟩⟩
/-- a row of another element type was written -/
theorem OwnParts.wroteRow (h : OwnParts w B X vs ls) {e size n c : Nat} {A : Option Addr} {xs : List Value} (hr : Own w B' e size A n c xs) (he : e ≠ 5) (hg : w.grownBy w' (blk A c)) : OwnParts w' B X vs ls :=
  ⟨h.1, fun i v l hv hl => by
    obtain ⟨A, n, c, e, ho, hx⟩ := h.2 i v l hv hl
    exact ⟨A, n, c, e, Own.grown ho hg (fun b hb => own_apart ho hr (Ne.symm he) b hb), hx⟩⟩
/-- another block is kept away from: an old one's successor -/
theorem OwnParts.turn (h : OwnParts w B X vs ls) (hX : X' = X ∨ X' = some w.heap.size) : OwnParts w B X' vs ls :=
  ⟨h.1, fun i v l hv hl => by
    obtain ⟨A, n, c, e, ho, hx⟩ := h.2 i v l hv hl
    refine ⟨A, n, c, e, ho, fun b hb => ?_⟩
    rcases hX with rfl | rfl
    · exact hx b hb
    · intro e
      have := (Own.lt ho b hb).2
      simp at e
      omega⟩
/-- block X was written, or left for a new one -/
theorem OwnParts.moved (h : OwnParts w B X vs ls) (hg : w.grownBy w' X) (hX : X' = X ∨ X' = some w.heap.size) : OwnParts w' B X' vs ls :=
  ⟨h.1, fun i v l hv hl => by
    obtain ⟨A, n, c, e, ho, hx⟩ := h.2 i v l hv hl
    obtain ⟨A', n', c', e', _, hx'⟩ := (h.turn hX).2 i v l hv hl
    subst e
    injection e' with e1 e2 e3
    subst e1
    subst e3
    exact ⟨A, n, c, rfl, Own.grown ho hg hx, hx'⟩⟩
theorem OwnParts.snoc (h : OwnParts w B X vs ls) {A : Option Addr} {n c : Nat} {l : List UInt8} (ho : OwnB w B A n c l) (hx : ∀ b, blk A c = some b → X ≠ some b) : OwnParts w B X (vs ++ [.slice A n c]) (ls ++ [l]) :=
  ⟨by simp [h.1], fun i v x hv hl => by
    have hlen := h.1
    rcases Nat.lt_or_ge i vs.length with hi | hi
    · rw [List.getElem?_append_left hi] at hv
      rw [List.getElem?_append_left (by omega)] at hl
      exact h.2 i v x hv hl
    · rw [List.getElem?_append_right hi] at hv
      rw [List.getElem?_append_right (by omega)] at hl
      rw [← hlen] at hl
      rcases hj : i - vs.length with _ | j
      · rw [hj] at hv hl
        simp at hv hl
        subst hv
        subst hl
        exact ⟨A, n, c, rfl, ho, hx⟩
      · rw [hj] at hv
        simp at hv⟩
end

/-- a row of byte slices of the call's own -/
def OwnP (w : World) (B : Nat) (A : Option Addr) (n c : Nat) (vs : List Value) : Prop := Own w B 22 1 A n c vs
/-- append of one slice to a row of slices of the call's own -/
theorem wpList_appP (w : World) {ops : Array Oper} {rest : List Oper} {o : Oper} {a : Act} {Q : Exit → Act → World → Prop} (hgd : o.guard = none) (s x : Operand)
    (ho : o.op = .call { callee := .builtin .append, args := #[s, x], argTypes := #[36, 36] })
    (B : Nat) (A : Option Addr) (n c : Nat) (vs : List Value) (hsv : a.eval s = .slice A n c) (hown : OwnP w B A n c vs)
    (A2 : Option Addr) (m c2 : Nat) (news : List Value) (hx : a.eval x = .slice A2 m c2) (hs : Sl w 1 A2 m c2 news) (h1 : ∀ u ∈ news, u.oneCell' = true)
    (hbytes : n + m ≤ 4398046511104) (hB : B ≤ w.heap.size)
    (h : ∀ A' c' w', OwnP w' B A' (n + m) c' (vs ++ news) → w.grownBy w' (blk A c) → (blk A' c' = blk A c ∨ blk A' c' = some w.heap.size) → wpList Tryd.prog ops Q rest (a.put o.dst (.slice A' (n + m) c')) w') : wpList Tryd.prog ops Q (o :: rest) a w := by
  obtain ⟨i, hi, hz, hs1, hb1⟩ := info_parts infoP
  exact wpList_app w hgd s x _ ho B _ i _ 1 24 Tryd.underlying36 hi hz hs1 hb1 rfl A n c vs hsv hown A2 m c2 news hx hs h1 (by unfold maxLen; omega) (by omega) hB h
theorem one_cell (A : Option Addr) (n c : Nat) : ∀ u ∈ [Value.slice A n c], u.oneCell' = true := by
  intro u hu
  simp at hu
  subst hu
  rfl
end Go.Proofs.YtpjinmiedanebaaDoor

namespace Go.Proofs.YtpjinmiedanebaaDoor
set_option maxRecDepth 20000
open Go.RowKit

/-- the value v is a slice of the bytes l; its block, if it has any bytes, is one of p -/
def Bk (w : World) (p : Nat → Prop) (v : Value) (l : List UInt8) : Prop :=
  ∃ (A : Option Addr) (n c : Nat), v = .slice A n c ∧ Sl w 1 A n c (bc l) ∧ ∀ b, 0 < n → A.map (·.block) = some b → p b
theorem Bk.move {w w' : World} {p q : Nat → Prop} {v : Value} {l : List UInt8} (h : Bk w p v l) (hm : ∀ b, b < w.heap.size → p b → w'.heap[b]? = w.heap[b]? ∧ q b) : Bk w' q v l := by
  obtain ⟨A, n, c, rfl, hs, hp⟩ := h
  exact ⟨A, n, c, rfl, hs.keep fun hn b e => (hm b (hs.lt (by omega) hn b e) (hp b hn e)).1, fun b hn e => (hm b (hs.lt (by omega) hn b e) (hp b hn e)).2⟩
theorem Bk.of {w : World} {A : Option Addr} {n c : Nat} {l : List UInt8} (h : Sl w 1 A n c (bc l)) : Bk w (fun _ => True) (.slice A n c) l := ⟨A, n, c, rfl, h, fun _ _ _ => trivial⟩
/-- .. of the call's own -/
theorem Bk.own {w : World} {B : Nat} {e : TypeId} {A : Option Addr} {n c : Nat} {l : List UInt8} (h : Own w B e 1 A n c (bc l)) : Bk w (fun b => B ≤ b ∧ b < w.heap.size) (.slice A n c) l :=
  ⟨A, n, c, rfl, h.sl, fun b hn e => h.lt b (by have := h.cap; unfold blk; rw [if_neg (by omega)]; exact e)⟩

/-- how a value of α lies in cells -/
class Rep (α : Type) where
  size : Nat
  cells : World → (Nat → Prop) → List Value → α → Prop
  pos : 0 < size
  len : ∀ {w p cs x}, cells w p cs x → cs.length = size
  one : ∀ {w p cs x}, cells w p cs x → ∀ u ∈ cs, u.oneCell' = true
  move : ∀ {w w' : World} {p q : Nat → Prop} {cs x}, cells w p cs x → (∀ b, b < w.heap.size → p b → w'.heap[b]? = w.heap[b]? ∧ q b) → cells w' q cs x

section
variable {α : Type} [Rep α] {w w' : World} {p q : Nat → Prop}
theorem Rep.mono {cs : List Value} {x : α} (h : Rep.cells w p cs x) (hm : ∀ b, b < w.heap.size → p b → q b) : Rep.cells w q cs x := Rep.move h fun b hb hp => ⟨rfl, hm b hb hp⟩
/-- the cells xs are those of the records ls, one behind the other -/
def RowC (w : World) (p : Nat → Prop) : List Value → List α → Prop
  | xs, [] => xs = []
  | xs, a :: ls => ∃ cs ys, xs = cs ++ ys ∧ Rep.cells w p cs a ∧ RowC w p ys ls
theorem RowC.len : ∀ {xs : List Value} {ls : List α}, RowC w p xs ls → xs.length = ls.length * Rep.size α
  | _, [], h => by obtain rfl : _ = [] := h; simp
  | _, a :: ls, h => by
    obtain ⟨cs, ys, rfl, hc, hr⟩ := h
    rw [List.length_append, Rep.len hc, hr.len, List.length_cons, Nat.add_mul, Nat.one_mul, Nat.add_comm]
theorem RowC.one : ∀ {xs : List Value} {ls : List α}, RowC w p xs ls → ∀ u ∈ xs, u.oneCell' = true
  | _, [], h => by obtain rfl : _ = [] := h; simp
  | _, a :: ls, h => by
    obtain ⟨cs, ys, rfl, hc, hr⟩ := h
    intro u hu
    rcases List.mem_append.1 hu with h1 | h1
    · exact Rep.one hc u h1
    · exact hr.one u h1
theorem RowC.move : ∀ {xs : List Value} {ls : List α}, RowC w p xs ls → (∀ b, b < w.heap.size → p b → w'.heap[b]? = w.heap[b]? ∧ q b) → RowC w' q xs ls
  | _, [], h, _ => h
  | _, a :: ls, h, hm => by
    obtain ⟨cs, ys, rfl, hc, hr⟩ := h
    exact ⟨cs, ys, rfl, Rep.move hc hm, hr.move hm⟩
theorem RowC.append : ∀ {xs ys : List Value} {ls ms : List α}, RowC w p xs ls → RowC w p ys ms → RowC w p (xs ++ ys) (ls ++ ms)
  | _, _, [], _, h, h2 => by obtain rfl : _ = [] := h; simpa using h2
  | _, _, a :: ls, _, h, h2 => by
    obtain ⟨cs, zs, rfl, hc, hr⟩ := h
    exact ⟨cs, zs ++ _, by rw [List.append_assoc], hc, hr.append h2⟩
theorem RowC.single {cs : List Value} {x : α} (h : Rep.cells w p cs x) : RowC w p cs [x] := ⟨cs, [], by simp, h, rfl⟩
/-- record k, and its cells -/
theorem RowC.get : ∀ {xs : List Value} {ls : List α} (k : Nat) {x : α}, RowC w p xs ls → ls[k]? = some x → Rep.cells w p ((xs.drop (k * Rep.size α)).take (Rep.size α)) x
  | _, [], k, x, _, hk => by simp at hk
  | _, a :: ls, 0, x, h, hk => by
    obtain ⟨cs, ys, rfl, hc, hr⟩ := h
    obtain rfl : a = x := by simpa using hk
    rw [Nat.zero_mul, List.drop_zero, List.take_left' (Rep.len hc)]
    exact hc
  | _, a :: ls, k + 1, x, h, hk => by
    obtain ⟨cs, ys, rfl, hc, hr⟩ := h
    have := hr.get k (by simpa using hk)
    rw [Nat.add_mul, Nat.one_mul, Nat.add_comm, ← List.drop_drop, List.drop_left' (Rep.len hc)]
    exact this
theorem RowC.take : ∀ {xs : List Value} {ls : List α} (k : Nat), RowC w p xs ls → RowC w p (xs.take (k * Rep.size α)) (ls.take k)
  | _, [], k, h => by obtain rfl : _ = [] := h; simp; rfl
  | _, a :: ls, 0, h => by simp; rfl
  | _, a :: ls, k + 1, h => by
    obtain ⟨cs, ys, rfl, hc, hr⟩ := h
    refine ⟨cs, ys.take (k * Rep.size α), ?_, hc, hr.take k⟩
    rw [Nat.add_mul, Nat.one_mul, List.take_append, Rep.len hc, List.take_of_length_le (by rw [Rep.len hc]; omega)]
    congr 2
    omega
theorem RowC.drop : ∀ {xs : List Value} {ls : List α} (k : Nat), RowC w p xs ls → RowC w p (xs.drop (k * Rep.size α)) (ls.drop k)
  | _, [], k, h => by obtain rfl : _ = [] := h; simp; rfl
  | _, a :: ls, 0, h => by simpa using h
  | _, a :: ls, k + 1, h => by
    obtain ⟨cs, ys, rfl, hc, hr⟩ := h
    have := hr.drop k
    rw [Nat.add_mul, Nat.one_mul, Nat.add_comm, ← List.drop_drop, List.drop_left' (Rep.len hc)]
    exact this

/-- the slice '.slice A n c' reads as the records ls -/
def SlR (w : World) (p : Nat → Prop) (A : Option Addr) (n c : Nat) (ls : List α) : Prop :=
  ∃ xs, Sl w (Rep.size α) A n c xs ∧ RowC w p xs ls ∧ ∀ b, 0 < n → A.map (·.block) = some b → p b
theorem SlR.lenR {A : Option Addr} {n c : Nat} {ls : List α} (h : SlR w p A n c ls) : ls.length = n := by
  obtain ⟨xs, hs, hr, _⟩ := h
  have h1 := hs.len
  rw [hr.len] at h1
  exact Nat.eq_of_mul_eq_mul_right (Rep.pos (α := α)) h1
theorem SlR.cap {A : Option Addr} {n c : Nat} {ls : List α} (h : SlR w p A n c ls) : n ≤ c ∧ c ≤ maxLen := by
  obtain ⟨xs, hs, hr, _⟩ := h
  exact ⟨hs.cap, hs.capm⟩
theorem SlR.move {A : Option Addr} {n c : Nat} {ls : List α} (h : SlR w p A n c ls) (hm : ∀ b, b < w.heap.size → p b → w'.heap[b]? = w.heap[b]? ∧ q b) : SlR w' q A n c ls := by
  obtain ⟨xs, hs, hr, hp⟩ := h
  exact ⟨xs, hs.keep fun hn b e => (hm b (hs.lt Rep.pos hn b e) (hp b hn e)).1, hr.move hm, fun b hn e => (hm b (hs.lt Rep.pos hn b e) (hp b hn e)).2⟩
theorem SlR.mono {A : Option Addr} {n c : Nat} {ls : List α} (h : SlR w p A n c ls) (hm : ∀ b, b < w.heap.size → p b → q b) : SlR w q A n c ls := h.move fun b hb hp => ⟨rfl, hm b hb hp⟩
theorem SlR.below {A : Option Addr} {n c : Nat} {ls : List α} (h : SlR w p A n c ls) (hb : Below w.heap.size w w') : SlR w' p A n c ls := h.move fun b hl hp => ⟨hb.block b hl, hp⟩
theorem SlR.nil (w : World) (p : Nat → Prop) (A : Option Addr) (c : Nat) (hc : c ≤ maxLen) : SlR w p A 0 c ([] : List α) := ⟨[], Sl.nil _ _ _ _ hc, rfl, fun b hn => absurd hn (by omega)⟩
theorem SlR.nilnil (w : World) (p : Nat → Prop) : SlR w p none 0 0 ([] : List α) := SlR.nil w p none 0 (by unfold maxLen; omega)
/-- record k -/
theorem SlR.get {A : Option Addr} {n c : Nat} {ls : List α} (h : SlR w p A n c ls) {k : Nat} (hk : k < n) :
    ∃ (b o : Nat) (x : α) (cs : List Value), A = some ⟨b, o, none⟩ ∧ ls[k]? = some x ∧ Rep.cells w p cs x ∧ ∀ j u, cs[j]? = some u → w.cell? ⟨b, o + k * Rep.size α + j, none⟩ = some u := by
  have hl := h.lenR
  obtain ⟨xs, hs, hr, _⟩ := h
  obtain ⟨b, o, e, hc⟩ := hs.at_ (by omega)
  have hx : ls[k]? = some ls[k] := List.getElem?_eq_getElem (by omega)
  refine ⟨b, o, ls[k], _, e, hx, hr.get k hx, fun j u hu => ?_⟩
  have hj := (List.getElem?_eq_some_iff.1 hu).1
  rw [List.length_take] at hj
  rw [List.getElem?_take, if_pos (by omega), List.getElem?_drop] at hu
  rw [Nat.add_assoc]
  exact hc _ u hu
/-- a row laid new reads as its records, whatever its mark -/
theorem SlR.lit (e : TypeId) (fr : Nat × Nat) (n : Nat) (cur : Array Value) (xs : List Value) (ls : List α) (hc : cur.toList = xs) (hr : RowC w (· < w.heap.size) xs ls) (hn : ls.length = n) (hm : n ≤ maxLen) :
    SlR (w.alloc (.cells cur e fr)) (fun b => b ≤ w.heap.size) (some ⟨w.heap.size, 0, none⟩) n n ls := by
  refine ⟨xs, ⟨by rw [hr.len, hn], Nat.le_refl _, hm, fun _ => ⟨w.heap.size, 0, rfl, fun j u hu => ?_⟩⟩, hr.move fun b hb _ => ⟨Below.heap_alloc w _ b hb, by omega⟩, fun b _ e => by simp at e; omega⟩
  rw [cell_of_row _ _ _ _ _ _ (heap_alloc_new w _)]
  rw [← hc] at hu
  simpa using hu
theorem SlR.take {A : Option Addr} {n c : Nat} {ls : List α} (h : SlR w p A n c ls) {k : Nat} (hk : k ≤ n) : SlR w p A k c (ls.take k) := by
  obtain ⟨xs, hs, hr, hp⟩ := h
  have hcap := hs.cap
  have := hs.cut (lo := 0) (hi := k) (m := c) (Nat.zero_le _) hk (by omega) (Nat.le_refl _)
  have e0 : (if c = 0 then A else A.map (·.add (0 * Rep.size α))) = A := by
    split
    · rfl
    · cases A <;> simp [Addr.add]
  rw [e0] at this
  simp only [Nat.sub_zero, Nat.zero_mul, List.drop_zero] at this
  exact ⟨_, this, hr.take k, fun b hn e => hp b (by omega) e⟩
theorem SlR.drop {A : Option Addr} {n c : Nat} {ls : List α} (h : SlR w p A n c ls) {k : Nat} (hk : k ≤ n) :
    SlR w p (if c = k then A else A.map (·.add (k * Rep.size α))) (n - k) (c - k) (ls.drop k) := by
  obtain ⟨xs, hs, hr, hp⟩ := h
  have hcap := hs.cap
  have hl := hs.len
  have := hs.cut (lo := k) (hi := n) (m := c) hk (Nat.le_refl _) (by omega) (Nat.le_refl _)
  refine ⟨_, this, ?_, fun b hn e => ?_⟩
  · rw [List.take_of_length_le (by rw [List.length_drop, hl, Nat.sub_mul]; omega)]
    exact hr.drop k
  · rw [if_neg (by omega)] at e
    obtain ⟨b', o, rfl, _⟩ := hs.at_ (by omega)
    refine hp b (by omega) ?_
    simpa [Addr.add_lit] using e

/-- block b is no row of e -/
def NotTy (w : World) (e : TypeId) (b : Nat) : Prop := ∀ cur fr, w.heap[b]? ≠ some (.cells cur e fr)
/-- a row of records that the call has made, in block from B on; what lies behind its cells lies in no row of its type of the call's own -/
def OwnR (w : World) (B : Nat) (e : TypeId) (A : Option Addr) (n c : Nat) (ls : List α) : Prop :=
  ∃ xs, Own w B e (Rep.size α) A n c xs ∧ RowC w (fun b => b < B ∨ NotTy w e b) xs ls
theorem OwnR.nil (w : World) (B : Nat) (e : TypeId) (A : Option Addr) : OwnR w B e A 0 0 ([] : List α) := ⟨[], Own.nil _ _ _ _ _, rfl⟩
theorem OwnR.sl {B : Nat} {e : TypeId} {A : Option Addr} {n c : Nat} {ls : List α} (h : OwnR w B e A n c ls) : SlR w (fun _ => True) A n c ls := by
  obtain ⟨xs, ho, hr⟩ := h
  exact ⟨xs, ho.sl, hr.move fun _ _ _ => ⟨rfl, trivial⟩, fun _ _ _ => trivial⟩
theorem OwnR.lenR {B : Nat} {e : TypeId} {A : Option Addr} {n c : Nat} {ls : List α} (h : OwnR w B e A n c ls) : ls.length = n := h.sl.lenR
theorem OwnR.below {B : Nat} {e : TypeId} {A : Option Addr} {n c : Nat} {ls : List α} (h : OwnR w B e A n c ls) (hb : Below w.heap.size w w') : OwnR w' B e A n c ls := by
  obtain ⟨xs, ho, hr⟩ := h
  refine ⟨xs, ho.below hb, hr.move fun b hl hp => ⟨hb.block b hl, ?_⟩⟩
  rcases hp with h1 | h1
  · exact .inl h1
  · exact .inr fun cur fr => by rw [hb.block b hl]; exact h1 cur fr
theorem OwnR.mono {B B' : Nat} {e : TypeId} {A : Option Addr} {n c : Nat} {ls : List α} (h : OwnR w B e A n c ls) (hB : B' ≤ B) (hr : ∀ b, b < B → b < B' ∨ NotTy w e b) : OwnR w B' e A n c ls := by
  obtain ⟨xs, ho, hr'⟩ := h
  exact ⟨xs, ho.mono hB, hr'.move fun b hl hp => ⟨rfl, hp.elim (hr b) .inr⟩⟩
theorem grown_apart {B : Nat} {e : TypeId} {size : Nat} {A : Option Addr} {n c : Nat} {xs : List Value} (ho : Own w B e size A n c xs) (hg : w.grownBy w' (blk A c)) :
    ∀ b, b < w.heap.size → (b < B ∨ NotTy w e b) → w'.heap[b]? = w.heap[b]? ∧ (b < B ∨ NotTy w' e b) := by
  intro b hl hp
  have h1 : w'.heap[b]? = w.heap[b]? := hg.block b hl fun hb => by
    rcases hp with h2 | h2
    · have := (ho.lt b hb.symm).1
      omega
    · unfold blk at hb
      split at hb
      · cases hb
      · obtain ⟨g, o, cur, rfl, _, hh, _⟩ := ho.row (by omega)
        simp at hb
        subst hb
        exact h2 _ _ hh
  refine ⟨h1, hp.elim .inl fun h2 => .inr fun cur fr => by rw [h1]; exact h2 cur fr⟩
/-- a row of another type of the call's own was written: what lies in this one stands, if it lies below or is of another type than that row's -/
theorem wpList_appR {P : Program} (w : World) {ops : Array Oper} {rest : List Oper} {o : Oper} {a : Act} {Q : Exit → Act → World → Prop} (hgd : o.guard = none) (s x : Operand) (t : TypeId)
    (ho : o.op = .call { callee := .builtin .append, args := #[s, x], argTypes := #[t, t] })
    (B : Nat) (e : TypeId) (z : Value) (bytes : Nat) (ht : P.underlying t = some (.slice e)) (hi : (P.info? e).map (fun i => (i.zero, i.size, i.bytes)) = some (some z, Rep.size α, bytes))
    (hzs : z.cells.size = Rep.size α)
    (A : Option Addr) (n c : Nat) (ls : List α) (hsv : a.eval s = .slice A n c) (hown : OwnR w B e A n c ls)
    (p : Nat → Prop) (A2 : Option Addr) (m c2 : Nat) (ms : List α) (hx : a.eval x = .slice A2 m c2) (hs : ∃ xs, Sl w (Rep.size α) A2 m c2 xs ∧ RowC w p xs ms) (hp : ∀ b, b < w.heap.size → p b → b < B ∨ NotTy w e b)
    (h63 : n + m ≤ maxLen) (hbytes : (n + m) * bytes ≤ 140737488355328) (hB : B ≤ w.heap.size)
    (h : ∀ A' c' w', OwnR w' B e A' (n + m) c' (ls ++ ms) → w.grownBy w' (blk A c) → (blk A' c' = blk A c ∨ blk A' c' = some w.heap.size) → wpList P ops Q rest (a.put o.dst (.slice A' (n + m) c')) w') : wpList P ops Q (o :: rest) a w := by
  obtain ⟨i, hi1, hz, hs1, hb1⟩ := info_parts hi
  obtain ⟨xs, hO, hR⟩ := hown
  obtain ⟨ys, hS, hR2⟩ := hs
  refine wpList_app w hgd s x t ho B e i z (Rep.size α) bytes ht hi1 hz hs1 hb1 hzs A n c xs hsv hO A2 m c2 ys hx hS hR2.one h63 hbytes hB ?_
  intro A' c' w' h1 h2 h3
  exact h A' c' w' ⟨_, h1, (hR.move (grown_apart hO h2)).append (hR2.move fun b hl hpb => grown_apart hO h2 b hl (hp b hl hpb))⟩ h2 h3
end
end Go.Proofs.YtpjinmiedanebaaDoor

namespace Go.Proofs.YtpjinmiedanebaaDoor
set_option maxRecDepth 20000
open Go.RowKit

structure KeyL where
  user : List UInt8
  seq : UInt64
  kind : UInt8
  deriving DecidableEq
structure OpL where
  kind : UInt8
  key : List UInt8
  value : List UInt8
  deriving DecidableEq
structure EntL where
  key : KeyL
  value : List UInt8
  deriving DecidableEq
structure SpanL where
  lo : List UInt8
  hi : List UInt8
  seq : UInt64
  deriving DecidableEq
structure PairL where
  key : List UInt8
  value : List UInt8
  deriving DecidableEq
structure NoteL where
  kind : UInt8
  seq : UInt64
  name : List UInt8
  ops : List OpL
  deriving DecidableEq
def u8v (x : UInt8) : Value := .int .u8 (x.toNat : Int)
def u64v (x : UInt64) : Value := .int .u64 (x.toNat : Int)
theorem bk_one {w : World} {p : Nat → Prop} {v : Value} {l : List UInt8} (h : Bk w p v l) : v.oneCell' = true := by
  obtain ⟨A, n, c, rfl, _⟩ := h
  rfl
instance : Rep (List UInt8) where
  size := 1
  cells w p cs l := ∃ v, cs = [v] ∧ Bk w p v l
  pos := by omega
  len := by rintro w p cs x ⟨v, rfl, _⟩; rfl
  one := by
    rintro w p cs x ⟨v, rfl, h⟩ u hu
    simp at hu
    subst hu
    exact bk_one h
  move := by
    rintro w w' p q cs x ⟨v, rfl, h⟩ hm
    exact ⟨v, rfl, h.move hm⟩
instance : Rep UInt64 where
  size := 1
  cells _ _ cs x := cs = [u64v x]
  pos := by omega
  len := by rintro w p cs x rfl; rfl
  one := by
    rintro w p cs x rfl u hu
    simp at hu
    subst hu
    rfl
  move := by
    rintro w w' p q cs x rfl hm
    rfl
instance : Rep KeyL where
  size := 3
  cells w p cs k := ∃ v, cs = [v, u64v k.seq, u8v k.kind] ∧ Bk w p v k.user
  pos := by omega
  len := by rintro w p cs x ⟨v, rfl, _⟩; rfl
  one := by
    rintro w p cs x ⟨v, rfl, h⟩ u hu
    simp at hu
    rcases hu with rfl | rfl | rfl
    · exact bk_one h
    · rfl
    · rfl
  move := by
    rintro w w' p q cs x ⟨v, rfl, h⟩ hm
    exact ⟨v, rfl, h.move hm⟩
instance : Rep OpL where
  size := 3
  cells w p cs o := ∃ v v', cs = [u8v o.kind, v, v'] ∧ Bk w p v o.key ∧ Bk w p v' o.value
  pos := by omega
  len := by rintro w p cs x ⟨v, v', rfl, _⟩; rfl
  one := by
    rintro w p cs x ⟨v, v', rfl, h, h'⟩ u hu
    simp at hu
    rcases hu with rfl | rfl | rfl
    · rfl
    · exact bk_one h
    · exact bk_one h'
  move := by
    rintro w w' p q cs x ⟨v, v', rfl, h, h'⟩ hm
    exact ⟨v, v', rfl, h.move hm, h'.move hm⟩
instance : Rep EntL where
  size := 4
  cells w p cs o := ∃ v v', cs = [v, u64v o.key.seq, u8v o.key.kind, v'] ∧ Bk w p v o.key.user ∧ Bk w p v' o.value
  pos := by omega
  len := by rintro w p cs x ⟨v, v', rfl, _⟩; rfl
  one := by
    rintro w p cs x ⟨v, v', rfl, h, h'⟩ u hu
    simp at hu
    rcases hu with rfl | rfl | rfl | rfl
    · exact bk_one h
    · rfl
    · rfl
    · exact bk_one h'
  move := by
    rintro w w' p q cs x ⟨v, v', rfl, h, h'⟩ hm
    exact ⟨v, v', rfl, h.move hm, h'.move hm⟩
instance : Rep SpanL where
  size := 3
  cells w p cs o := ∃ v v', cs = [v, v', u64v o.seq] ∧ Bk w p v o.lo ∧ Bk w p v' o.hi
  pos := by omega
  len := by rintro w p cs x ⟨v, v', rfl, _⟩; rfl
  one := by
    rintro w p cs x ⟨v, v', rfl, h, h'⟩ u hu
    simp at hu
    rcases hu with rfl | rfl | rfl
    · exact bk_one h
    · exact bk_one h'
    · rfl
  move := by
    rintro w w' p q cs x ⟨v, v', rfl, h, h'⟩ hm
    exact ⟨v, v', rfl, h.move hm, h'.move hm⟩
instance : Rep PairL where
  size := 2
  cells w p cs o := ∃ v v', cs = [v, v'] ∧ Bk w p v o.key ∧ Bk w p v' o.value
  pos := by omega
  len := by rintro w p cs x ⟨v, v', rfl, _⟩; rfl
  one := by
    rintro w p cs x ⟨v, v', rfl, h, h'⟩ u hu
    simp at hu
    rcases hu with rfl | rfl
    · exact bk_one h
    · exact bk_one h'
  move := by
    rintro w w' p q cs x ⟨v, v', rfl, h, h'⟩ hm
    exact ⟨v, v', rfl, h.move hm, h'.move hm⟩
instance : Rep NoteL where
  size := 4
  cells w p cs o := ∃ v A n c, cs = [u8v o.kind, u64v o.seq, v, .slice A n c] ∧ Bk w p v o.name ∧ SlR w p A n c o.ops
  pos := by omega
  len := by rintro w p cs x ⟨v, A, n, c, rfl, _⟩; rfl
  one := by
    rintro w p cs x ⟨v, A, n, c, rfl, h, h'⟩ u hu
    simp at hu
    rcases hu with rfl | rfl | rfl | rfl
    · rfl
    · rfl
    · exact bk_one h
    · rfl
  move := by
    rintro w w' p q cs x ⟨v, A, n, c, rfl, h, h'⟩ hm
    exact ⟨v, A, n, c, rfl, h.move hm, h'.move hm⟩
end Go.Proofs.YtpjinmiedanebaaDoor
