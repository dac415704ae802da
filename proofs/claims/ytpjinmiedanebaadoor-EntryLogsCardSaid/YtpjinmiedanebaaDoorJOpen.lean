/-
  Guarded, PartsCut, Held, Ops, Ents, RowsX, SealPlain, Open in one text. No condition but sizes.
-/
import Derived.Test.YtpjinmiedanebaaDoorJRecs
import Derived.Test.YtpjinmiedanebaaDoorLib
import Derived.OrdersHeld
import Derived.RegionTactic
import Derived.StillTailTactics
import Derived.ProofKit
import Derived.OpenShut
import Derived.Carry
import Derived.Deep.Matrix
namespace Go.Proofs.YtpjinmiedanebaaDoor
set_option maxRecDepth 20000
open Go.RowKit

theorem wpList_wanted {P : Program} {w : World} {ops : Array Oper} {rest : List Oper} {o : Oper} {a : Act} {Q : Exit → Act → World → Prop} (hg : Region.wanted o (yielded ops a.tmps) = true)
    (h : ∀ K : Act → World → Prop, (∀ a w, wpList P ops Q rest a w → K a w) → o.wp P a w K Q) : wpList P ops Q (o :: rest) a w :=
  wpList_step fun K hK => by rw [if_pos hg]; exact h K hK
/-- append of bytes to bytes of the call's own -/
theorem wpList_appBg (w : World) {ops : Array Oper} {rest : List Oper} {o : Oper} {a : Act} {Q : Exit → Act → World → Prop} (hgd : Region.wanted o (yielded ops a.tmps) = true) (s x : Operand)
    (ho : o.op = .call { callee := .builtin .append, args := #[s, x], argTypes := #[22, 22] })
    (B : Nat) (A : Option Addr) (n c : Nat) (l : List UInt8) (hsv : a.eval s = .slice A n c) (hown : OwnB w B A n c l)
    (A2 : Option Addr) (m c2 : Nat) (l2 : List UInt8) (hx : a.eval x = .slice A2 m c2) (hs : Sl w 1 A2 m c2 (bc l2))
    (hbytes : n + m ≤ 140737488355328) (hB : B ≤ w.heap.size)
    (h : ∀ A' c' w', OwnB w' B A' (n + m) c' (l ++ l2) → w.grownBy w' (blk A c) → (blk A' c' = blk A c ∨ blk A' c' = some w.heap.size) → wpList Tryd.prog ops Q rest (a.put o.dst (.slice A' (n + m) c')) w') : wpList Tryd.prog ops Q (o :: rest) a w := by
  obtain ⟨i, hi, hz, hs1, hb1⟩ := info_parts infoB
  refine wpList_wanted hgd fun _ hK => ?_
  obtain ⟨A', c', w', hrun, h2, h3, h4⟩ := run_append_own2 (P := Tryd.prog) w B 22 o.type _ i _ 1 1 Tryd.underlying22 hi hz hs1 hb1 rfl A n c (bc l) hown A2 m c2 (bc l2) hs (bc_one _) (by unfold maxLen; omega) (by omega) hB
  unfold Oper.wp execOp
  simp only [ho, resolve, invoke, builtin, Sem.run_bind, Sem.run_pure, Result.andThen_ok, List.map_toArray, List.map_cons, List.map_nil, hsv, hx, hrun]
  exact hK _ _ (h A' c' w' (by unfold OwnB; rw [bc_append]; exact h2) h3 h4)
/-- make([]byte, n), as an equation -/
theorem run_mkB (w : World) (B : Nat) (n : Nat) (i j : Int) (ei : i = n) (ej : j = n) (b2 : n ≤ 281474976710656) (b4 : B ≤ w.heap.size) :
    ∃ w', (Instr.makeSlice 22 (.int .i64 i) (.int .i64 j)).run Tryd.prog w = .ok (.slice (some ⟨w.heap.size, 0, none⟩) n n) w' ∧ OwnB w' B (some ⟨w.heap.size, 0, none⟩) n n (List.replicate n 0) ∧ Below w.heap.size w w' := by
  subst ei
  subst ej
  obtain ⟨i, hi, hz, hs1, hb1⟩ := info_parts infoB
  have hr := run_make (P := Tryd.prog) w 22 5 i (.int .u8 0) Tryd.underlying22 hi hz .i64 .i64 n n (by omega) (by omega) (by rw [hb1]; omega) (by omega)
  simp only [Int.toNat_natCast, hs1, Nat.mul_one] at hr
  refine ⟨_, hr, ?_, (Below.refl _ _).alloc (Nat.le_refl _) _⟩
  refine Own.fresh w B _ 1 n n _ _ b4 (Nat.le_refl _) (by unfold maxLen; omega) ?_ ?_ ?_
  · simp [size_madeCells]
  · simp
  · rw [show (Value.int .u8 0).cells = #[.int .u8 0] from rfl, toList_madeCells_one]
    simp [bc]
end Go.Proofs.YtpjinmiedanebaaDoor

namespace Go.Proofs.YtpjinmiedanebaaDoor
set_option maxRecDepth 20000
open Go.RowKit

theorem run_sizeP (w : World) : (sizeOf 22).run Tryd.prog w = .ok 1 w := by
  obtain ⟨i, hi, _, hs, _⟩ := info_parts infoP
  simp [sizeOf, typeInfo, hi, hs]
theorem PartsOf.take {w : World} {vs : List Value} {ls : List (List UInt8)} (h : PartsOf w vs ls) (k : Nat) : PartsOf w (vs.take k) (ls.take k) :=
  ⟨by simp [h.1], fun i v l hv hl => by
    rw [List.getElem?_take] at hv hl
    split at hv
    · rename_i hi
      rw [if_pos hi] at hl
      exact h.2 i v l hv hl
    · cases hv⟩
theorem PartsOf.drop {w : World} {vs : List Value} {ls : List (List UInt8)} (h : PartsOf w vs ls) (k : Nat) : PartsOf w (vs.drop k) (ls.drop k) :=
  ⟨by simp [h.1], fun i v l hv hl => by
    rw [List.getElem?_drop] at hv hl
    exact h.2 _ v l hv hl⟩
/-- l[:k] -/
theorem cutHP {w : World} {A : Option Addr} {n c : Nat} {vs : List Value} (h : Sl w 1 A n c vs) (q : IntKind) (i : Int) (k : Nat) (hi : i = k) (hk : k ≤ n) :
    (∀ w' : World, (Instr.slice 36 (.slice A n c) none (some (.int q i)) none).run Tryd.prog w' = .ok (.slice A k c) w') ∧ Sl w 1 A k c (vs.take k) := by
  have hcap := h.cap
  constructor
  · intro w'
    subst hi
    have := run_slice_h (P := Tryd.prog) w' 36 A n c Tryd.underlying36 q k (by omega) (by omega)
    rw [this]
    show ((sizeOf 22).run Tryd.prog w').andThen _ = _
    rw [run_sizeP]
    simp only [Result.andThen, sliced, Int.toNat_natCast, Nat.sub_zero, Nat.zero_mul]
    rw [addr0]
  · have := h.cut (lo := 0) (hi := k) (m := c) (Nat.zero_le _) hk (by omega) (Nat.le_refl _)
    simp only [List.drop_zero, Nat.sub_zero, Nat.mul_one] at this
    rw [addr0] at this
    exact this
/-- l[k:] -/
theorem cutLP {w : World} {A : Option Addr} {n c : Nat} {vs : List Value} (h : Sl w 1 A n c vs) (q : IntKind) (i : Int) (lo : Nat) (ei : i = lo) (h2 : lo ≤ n) :
    ∃ A', (∀ w' : World, (Instr.slice 36 (.slice A n c) (some (.int q i)) none none).run Tryd.prog w' = .ok (.slice A' (n - lo) (c - lo)) w') ∧ Sl w 1 A' (n - lo) (c - lo) (vs.drop lo) := by
  have hcap := h.cap
  have hl := h.len
  subst ei
  refine ⟨if c = lo then A else A.map (·.add (lo * 1)), fun w' => ?_, ?_⟩
  · have := run_slice_l (P := Tryd.prog) w' 36 A n c Tryd.underlying36 q lo (by omega) (by omega)
    rw [this]
    show ((sizeOf 22).run Tryd.prog w').andThen _ = _
    rw [run_sizeP]
    simp only [Result.andThen, sliced, Int.toNat_natCast]
  · have := h.cut (lo := lo) (hi := n) (m := c) h2 (Nat.le_refl _) (by omega) (Nat.le_refl _)
    simp only [Nat.mul_one] at this
    rw [List.take_of_length_le (by simp; omega)] at this
    rw [Nat.mul_one]
    exact this
/-- where p[k:] lies -/
def tailA (A : Option Addr) (c k : Nat) : Option Addr := if c = k then A else A.map (·.add (k * 1))
theorem run_tailB (w' : World) (A : Option Addr) (n c : Nat) (q : IntKind) (i : Int) (k : Nat) (ei : i = k) (hk : k ≤ n) :
    (Instr.slice 22 (.slice A n c) (some (.int q i)) none none).run Tryd.prog w' = .ok (.slice (tailA A c k) (n - k) (c - k)) w' := by
  subst ei
  have := run_slice_l (P := Tryd.prog) w' 22 A n c Tryd.underlying22 q k (by omega) (by omega)
  rw [this]
  show ((sizeOf 5).run Tryd.prog w').andThen _ = _
  rw [run_sizeB]
  simp only [Result.andThen, sliced, Int.toNat_natCast]
  rfl
section
variable {P : Program} (w : World)
/-- copy onto the tail of what the call owns -/
theorem run_copy_sub (B : Nat) (t ty e : TypeId) (i : TypeInfo) (ht : P.underlying t = some (.slice e)) (hi : P.info? e = some i) (hsize : i.size = 1)
    (A : Option Addr) (n c : Nat) (xs : List Value) (hown : Own w B e 1 A n c xs) (k : Nat) (hk : k ≤ n)
    (A2 : Option Addr) (m c2 : Nat) (news : List Value) (hs : Sl w 1 A2 m c2 news) (h1 : ∀ u ∈ news, u.oneCell' = true) (hmn : k + m ≤ n) :
    ∃ w', (Builtin.copy_ #[t, t] ty #[.slice (tailA A c k) (n - k) (c - k), .slice A2 m c2]).run P w = .ok (goInt m) w' ∧ Own w' B e 1 A n c (xs.take k ++ news ++ xs.drop (k + m)) ∧ w.grownBy w' (blk A c) := by
  have hf := run_first (P := P) w 1 m c2 A2 news hs
  have hnl : news.length = m := by have := hs.len; omega
  have hxl : xs.length = n := by have := hown.len; omega
  have hmin : Nat.min m (n - k) = m := Nat.min_eq_left (by omega)
  have hcap := hown.cap
  by_cases hck : c = k
  · obtain rfl : n = k := by omega
    obtain rfl : m = 0 := by omega
    obtain rfl : news = [] := List.eq_nil_of_length_eq_zero hnl
    refine ⟨w, ?_, ?_, World.grownBy.refl w _⟩
    · unfold tailA
      rw [if_pos hck]
      cases A <;> simp [Builtin.copy_, run_underlying ht, sizeOf, typeInfo, hi, hsize, Builtin.lenOf, hf, storeCells]
    · have e1 : xs.take n ++ [] ++ xs.drop (n + 0) = xs := by
        rw [List.append_nil, Nat.add_zero, List.take_append_drop]
      rw [e1]
      exact hown
  · obtain ⟨g, o, cur, rfl, hb, hh, hfit, htk⟩ := hown.row (by omega)
    rw [Nat.mul_one] at hfit htk
    have hst := run_storeCells_at P g (o + k) e news 0 cur w hh (by simp; omega) h1
    simp only [Nat.add_zero] at hst
    have eA : tailA (some ⟨g, o, none⟩) c k = some ⟨g, o + k, none⟩ := by
      unfold tailA
      rw [if_neg hck]
      simp [Addr.add_lit]
    rw [eA]
    refine ⟨w.setRow g (cur.toList.take (o + k) ++ news ++ cur.toList.drop (o + k + news.length)).toArray, ?_, ⟨by simp; omega, hcap, hown.capm, fun _ => ⟨g, o, _, rfl, hb, setRow_heap w g cur _ e _ hh, ?_, ?_⟩⟩, ⟨rfl, rfl, rfl, by simp, fun j _ hj => setRow_other w g j _ (fun e => hj (by simp [blk, e]; omega))⟩⟩
    · simp only [Builtin.copy_, List.getElem?_toArray]
      simp [run_underlying ht, sizeOf, typeInfo, hi, hsize, Builtin.lenOf, hmin, hf]
      rw [hst]
      simp [Result.andThen]
    · simp only [List.size_toArray, List.length_append, List.length_take, List.length_drop, Array.length_toList]
      omega
    · have hlo : o + k ≤ cur.toList.length := by simp; omega
      have e1 : cur.toList.take (o + k) = cur.toList.take o ++ xs.take k := by
        rw [List.take_add, ← htk, List.take_take, Nat.min_eq_left hk]
      have e2 : xs.drop (k + m) = ((cur.toList.drop (o + k + news.length)).take (n - (k + m))) := by
        rw [← htk, List.drop_take, List.drop_drop, hnl]
        congr 2
        omega
      rw [e1, e2]
      simp only [List.append_assoc, Nat.mul_one]
      rw [List.drop_left' (by simp; omega), ← List.append_assoc, List.take_append]
      rw [List.take_of_length_le (by simp; omega)]
      rw [List.append_assoc]
      congr 3
      simp
      omega
end
theorem tailA_zero (A : Option Addr) (c : Nat) : tailA A c 0 = A := by
  unfold tailA
  split
  · rfl
  · cases A <;> simp [Addr.add]
/-- copy of bytes into the midst of a row of the call's own, as an equation (the walk stands before it) -/
theorem run_cpySub (w : World) (B : Nat) (A : Option Addr) (n c : Nat) (xs : List Value) (hown : Own w B 5 1 A n c xs) (k : Nat) (hk : k ≤ n)
    (A2 : Option Addr) (m c2 : Nat) (l2 : List UInt8) (hs : Sl w 1 A2 m c2 (bc l2)) (hmn : k + m ≤ n) :
    ∃ w', (Builtin.copy_ #[22, 22] 3 #[.slice (tailA A c k) (n - k) (c - k), .slice A2 m c2]).run Tryd.prog w = .ok (.int .i64 (m : Int)) w' ∧ Own w' B 5 1 A n c (xs.take k ++ bc l2 ++ xs.drop (k + m)) ∧ w.grownBy w' (blk A c) := by
  obtain ⟨i, hi, hz, hs1, hb1⟩ := info_parts infoB
  exact run_copy_sub (P := Tryd.prog) w B 22 3 _ i Tryd.underlying22 hi hs1 A n c xs hown k hk A2 m c2 (bc l2) hs (bc_one _) hmn
theorem run_cpyHead (w : World) (B : Nat) (A : Option Addr) (n c : Nat) (xs : List Value) (hown : Own w B 5 1 A n c xs)
    (A2 : Option Addr) (m c2 : Nat) (l2 : List UInt8) (hs : Sl w 1 A2 m c2 (bc l2)) (hmn : m ≤ n) :
    ∃ w', (Builtin.copy_ #[22, 22] 3 #[.slice A n c, .slice A2 m c2]).run Tryd.prog w = .ok (.int .i64 (m : Int)) w' ∧ Own w' B 5 1 A n c (bc l2 ++ xs.drop m) ∧ w.grownBy w' (blk A c) := by
  obtain ⟨w', h1, h2, h3⟩ := run_cpySub w B A n c xs hown 0 (Nat.zero_le _) A2 m c2 l2 hs (by omega)
  rw [tailA_zero] at h1
  exact ⟨w', h1, by simpa using h2, h3⟩
end Go.Proofs.YtpjinmiedanebaaDoor

namespace Go.Proofs.YtpjinmiedanebaaDoor
open Go.RowKit
set_option maxRecDepth 20000
section
variable {P : Program} {ops : Array Oper} {Q : Exit → Act → World → Prop} {md : Region.Mode} {m : Nat} {S : World → Prop}

/-- whatever order is picked from here on; S holds behind each of the first m operations -/
def AnyS (P : Program) (md : Region.Mode) (ops : Array Oper) (Q : Exit → Act → World → Prop) (m : Nat) (S : World → Prop) : Nat → Array Bool → Act → World → Prop
  | 0, listed, a, w => Region.ready md ops listed = [] ∧ Q .normal a w
  | fuel + 1, listed, a, w =>
    (Region.ready md ops listed = [] → Q .normal a w) ∧
    ∀ j ∈ Region.ready md ops listed, wpOp P ops Q j (fun a' w' => (j < m → S w') ∧ AnyS P md ops Q m S fuel (listed.setIfInBounds j true) a' w') a w
theorem any_of_S : ∀ (fuel : Nat) (listed : Array Bool) (a : Act) (w : World), AnyS P md ops Q m S fuel listed a w → wpAny P md ops Q fuel listed a w
  | 0, _, _, _, h => h
  | fuel + 1, _, _, _, h => ⟨h.1, fun j hj => wpOp_mono (fun a' w' q => any_of_S fuel _ a' w' q.2) (h.2 j hj)⟩
/-- every operation from number m on waits for number i -/
def tailWaits (md : Region.Mode) (ops : Array Oper) (m i : Nat) : Bool :=
  (List.range ops.size).all fun t => decide (t < m) || match ops[t]? with
    | some o => o.after.any fun e => Region.binds md e && e.on == i
    | none => true
theorem tailWaits_spec {i : Nat} (h : tailWaits md ops m i = true) {t : Nat} {ot : Oper} (ht : ops[t]? = some ot) (hm : m ≤ t) : ∃ e ∈ ot.after, Region.binds md e = true ∧ e.on = i := by
  have h1 := List.all_eq_true.1 h t (List.mem_range.2 (Array.getElem?_eq_some_iff.1 ht).1)
  rw [ht] at h1
  simp only [Bool.or_eq_true, decide_eq_true_eq] at h1
  rcases h1 with h1 | h1
  · omega
  · obtain ⟨e, he, hb⟩ := Array.any_eq_true'.1 h1
    simp only [Bool.and_eq_true, beq_iff_eq] at hb
    exact ⟨e, he, hb.1, hb.2⟩
theorem unlisted {listed : Array Bool} {i : Nat} (h : listed.getD i true = false) : listed.getD i false = false := by
  rcases Nat.lt_or_ge i listed.size with hl | hl
  · simp [hl] at h ⊢; exact h
  · simp [Array.getElem?_eq_none hl] at h
theorem AnyS_first {i : Nat} {oi : Oper} {v : Value} (hi : ops[i]? = some oi) (hsel : ∀ (j : Nat) (o : Oper) cs b, ops[j]? = some o → o.op ≠ .select cs b)
    (hQ : ∀ c a w, Q (.panic c) (a.put oi.dst v) w → Q (.panic c) a w) (ht : tailWaits md ops m i = true) (him : i < m) :
    ∀ (fuel : Nat) (listed : Array Bool) (a : Act) (w : World),
      (∀ j oj, ops[j]? = some oj → j ≠ i → listed.getD j true = false → (∀ e ∈ oj.after, Region.binds md e = true → e.on ≠ i) → oi.apart ops oj = true) →
      i ∈ Region.ready md ops listed → YieldsIf P ops S oi v a → S w →
      AnyS P md ops Q m S fuel (listed.setIfInBounds i true) (a.put oi.dst v) w → AnyS P md ops Q m S (fuel + 1) listed a w
  | fuel, listed, a, w, hfree, hr, hy, hS, H => by
    have hun := (mem_ready.1 hr).1
    refine ⟨fun h => (by rw [h] at hr; cases hr), fun j hj => ?_⟩
    by_cases hji : j = i
    · subst hji
      exact hy.wpOp hi hS ⟨fun _ => hS, H⟩
    · obtain ⟨hjun, oj, hoj, hall⟩ := mem_ready.1 hj
      have hnot : ∀ e ∈ oj.after, Region.binds md e = true → e.on ≠ i := fun e he hb heq => by
        have h1 := hall e he hb
        rw [heq, unlisted hun] at h1
        cases h1
      have hjm : j < m := by
        rcases Nat.lt_or_ge j m with h | h
        · exact h
        · obtain ⟨e, he, hb, hon⟩ := tailWaits_spec ht hoj h
          exact absurd hon (hnot e he hb)
      match fuel, H with
      | 0, H =>
        have := ready_mono hj hji
        rw [H.1] at this
        cases this
      | fuel + 1, H =>
        have h2 := wpOp_putIf hoj (hfree j oj hoj hji hjun hnot) (fun cs b => hsel i oi cs b hi) (fun cs b => hsel j oj cs b hoj) hQ hy (H.2 j (ready_mono hj hji))
        refine wpOp_mono (fun a' w' h3 => ⟨h3.2.1, ?_⟩) h2
        refine AnyS_first hi hsel hQ ht him fuel (listed.setIfInBounds j true) a' w' (fun k ok hk hki hkun hkno => hfree k ok hk hki ?_ hkno) (ready_mono hr (Ne.symm hji)) h3.1 (h3.2.1 hjm) ?_
        · by_cases hjk : j = k
          · subst hjk; exact hjun
          · rw [getD_set_ne true hjk] at hkun
            exact hkun
        · rw [Array.setIfInBounds_comm _ _ hji]
          exact h3.2.2
/-- number i is taken first -/
theorem takeS {i : Nat} {oi : Oper} {v : Value} {fuel : Nat} {listed : Array Bool} {a : Act} {w : World} (hi : ops[i]? = some oi)
    (hs : Region.noSelect ops = true) (hf : Region.free md ops listed i = true) (hr : (Region.ready md ops listed).contains i = true) (ht : tailWaits md ops m i = true) (him : decide (i < m) = true)
    (hQ : ∀ c a w, Q (.panic c) (a.put oi.dst v) w → Q (.panic c) a w) (hy : YieldsIf P ops S oi v a) (hS : S w)
    (h : AnyS P md ops Q m S fuel (listed.setIfInBounds i true) (a.put oi.dst v) w) : AnyS P md ops Q m S (fuel + 1) listed a w :=
  AnyS_first hi (Region.noSelect_spec hs) hQ ht (of_decide_eq_true him) fuel listed a w (Region.free_spec hi hf) (by simpa using hr) hy hS h
/-- number i alone may come up, and it is one of the first m: behind it S is shown -/
theorem readyS {i : Nat} {o : Oper} {fuel : Nat} {listed : Array Bool} {a : Act} {w : World} (hr : Region.ready md ops listed = [i]) (ho : ops[i]? = some o)
    (h : ∀ K : Act → World → Prop, (∀ a w, S w → AnyS P md ops Q m S fuel (listed.setIfInBounds i true) a w → K a w) → if Region.wanted o (yielded ops a.tmps) = true then Oper.wp P o a w K Q else K (a.put o.dst undef) w) :
    AnyS P md ops Q m S (fuel + 1) listed a w :=
  ⟨fun h0 => (by rw [hr] at h0; cases h0), fun j hj => by
    rw [hr] at hj
    obtain rfl : j = i := by simpa using hj
    exact wpOp_step ho fun K hK => h K fun a w hS hA => hK a w ⟨fun _ => hS, hA⟩⟩
/-- .. and it is one of the last -/
theorem tailS {i : Nat} {o : Oper} {fuel : Nat} {listed : Array Bool} {a : Act} {w : World} (hr : Region.ready md ops listed = [i]) (ho : ops[i]? = some o) (hm : decide (m ≤ i) = true)
    (h : ∀ K : Act → World → Prop, (∀ a w, AnyS P md ops Q m S fuel (listed.setIfInBounds i true) a w → K a w) → if Region.wanted o (yielded ops a.tmps) = true then Oper.wp P o a w K Q else K (a.put o.dst undef) w) :
    AnyS P md ops Q m S (fuel + 1) listed a w :=
  ⟨fun h0 => (by rw [hr] at h0; cases h0), fun j hj => by
    rw [hr] at hj
    obtain rfl : j = i := by simpa using hj
    exact wpOp_step ho fun K hK => h K fun a w hA => hK a w ⟨fun q => by have := of_decide_eq_true hm; omega, hA⟩⟩
theorem doneS {listed : Array Bool} {a : Act} {w : World} (hr : Region.ready md ops listed = []) (h : Q .normal a w) : ∀ fuel, AnyS P md ops Q m S fuel listed a w
  | 0 => ⟨hr, h⟩
  | _ + 1 => ⟨fun _ => h, by rw [hr]; simp⟩
/-- the beginning: from the world behind the draw -/
theorem regionS (m : Nat) (S : World → Prop) {id : Nat} {a : Act} {w : World} (hm : P.follows .mixedOrders = true)
    (h : AnyS P .any ops Q m S ops.size (Array.replicate ops.size false) a w.drew) : (Code.region id ops true).wp P Q a w :=
  wp_region_any hm (any_of_S _ _ _ _ h)
end
/-- a region whose first n operations only read, the last coming in one order: one walk, in the order of the text -/
theorem stillTail {P : Program} {id : Nat} {Q : Exit → Act → World → Prop} {a : Act} {w : World} {l : List Oper} (n : Nat) (hm : P.follows .mixedOrders = true) (hB : Region.lexTailB .any l.toArray n = true)
    (h : wpStill P l.toArray w.drew (fun a' => wpList P l.toArray Q (l.drop n) a' w.drew) (l.take n) a) : (Code.region id l.toArray true).wp P Q a w :=
  wp_region_still_tail n hm hB h
/-- what a variable that the call has boxed holds behind a call that writes new memory alone -/
theorem boxed {w w1 : World} {g : Nat} {cur : Array Value} {e : TypeId} (hb : Below w.heap.size w w1) (hg : w.heap[g]? = some (.cells cur e (0, 0))) :
    (∀ (j : Nat) u, cur[j]? = some u → w1.cell? ⟨g, j, none⟩ = some u) ∧ ∀ j : Nat, w1.frozen? ⟨g, j, none⟩ = false := by
  have hl : g < w.heap.size := (Array.getElem?_eq_some_iff.1 hg).1
  have h1 : w1.heap[g]? = some (.cells cur e (0, 0)) := (hb.block g hl).trans hg
  refine ⟨fun j u hu => ?_, fun j => ?_⟩
  · rw [cell_of_row w1 g j cur e (0, 0) h1]
    exact hu
  · simp [World.frozen?, h1]
theorem stays {w w' : World} (hb : Below w.heap.size w w') {a : Addr} {u : Value} (h : w.cell? a = some u) : w'.cell? a = some u := (hb.cell (World.block_lt_of_cell? _ _ h)).trans h
theorem set_same {w : World} {a : Addr} {u : Value} (h : w.cell? a = some u) (v : Value) : (w.setCell a v).cell? a = some v := World.cell?_setCell_same' w a v (by simp [h])
theorem set_other {w : World} {g j g' j' : Nat} {u : Value} (h : w.cell? ⟨g', j', none⟩ = some u) (v : Value) (hne : g ≠ g' ∨ j ≠ j') : (w.setCell ⟨g, j, none⟩ v).cell? ⟨g', j', none⟩ = some u := by
  rw [World.cell?_setCell_other]
  · exact h
  · intro e
    simp at e
    omega
/-- a cell of a lower block was written -/
theorem own_set {w : World} {B : Nat} {e : TypeId} {size : Nat} {A : Option Addr} {n c : Nat} {xs : List Value} (h : Own w B e size A n c xs) {g j : Nat} (hg : g < B) (v : Value) : Own (w.setCell ⟨g, j, none⟩ v) B e size A n c xs :=
  h.keep fun b hb => Below.heap_setCell w _ v b fun q => by
    have := (h.lt b hb).1
    simp at q
    omega
theorem sl_set {w : World} {size : Nat} {A : Option Addr} {n c : Nat} {xs : List Value} (h : Sl w size A n c xs) {g j : Nat} (hg : ∀ b, A.map (·.block) = some b → b ≠ g) (v : Value) : Sl (w.setCell ⟨g, j, none⟩ v) size A n c xs :=
  h.keep fun _ b hb => Below.heap_setCell w _ v b (hg b hb)
/-- a variable of three cells that was written whole -/
theorem box3 {w w' : World} {g : Nat} {u0 u1 u2 v0 v1 v2 : Value} (e : w' = ((w.setCell ⟨g, 0, none⟩ v0).setCell ⟨g, 1, none⟩ v1).setCell ⟨g, 2, none⟩ v2)
    (x0 : w.cell? ⟨g, 0, none⟩ = some u0) (x1 : w.cell? ⟨g, 1, none⟩ = some u1) (x2 : w.cell? ⟨g, 2, none⟩ = some u2) (x3 : ∀ j : Nat, w.frozen? ⟨g, j, none⟩ = false) :
    w'.cell? ⟨g, 0, none⟩ = some v0 ∧ w'.cell? ⟨g, 1, none⟩ = some v1 ∧ w'.cell? ⟨g, 2, none⟩ = some v2 ∧ (∀ j : Nat, w'.frozen? ⟨g, j, none⟩ = false) ∧ w.grownBy w' (some g) := by
  subst e
  refine ⟨set_other (set_other (set_same x0 _) _ (by omega)) _ (by omega), set_other (set_same (set_other x1 _ (by omega)) _) _ (by omega), set_same (set_other (set_other x2 _ (by omega)) _ (by omega)) _, fun j => ?_, ?_⟩
  · simp [x3]
  · exact only_set (only_set (only_set (World.grownBy.refl _ _) 0 v0) 1 v1) 2 v2
/-- the world of a walk, named -/
theorem nameW {P : Program} {c : Code} {Q : Exit → Act → World → Prop} {a : Act} {W : World} (h : ∀ w', w' = W → c.wp P Q a w') : c.wp P Q a W := h W rfl
theorem nameC {P : Program} {f : FuncId} {args : Array Value} {R : Ending → World → Prop} {W : World} (h : ∀ w', w' = W → Calls P f args w' R) : Calls P f args W R := h W rfl
theorem box1 (w : World) (o : Obj) : (w.alloc o).heap[w.heap.size]? = some o := heap_alloc_new w o
theorem box2 {w : World} {g : Nat} {x : Obj} (o : Obj) (h : w.heap[g]? = some x) : (w.alloc o).heap[g]? = some x := by
  rw [Below.heap_alloc w o g (Array.getElem?_eq_some_iff.1 h).1]
  exact h
/-- a variable of three cells that the call has boxed in block g -/
structure Bx (w : World) (g : Nat) (u0 u1 u2 : Value) : Prop where
  c0 : w.cell? ⟨g, 0, none⟩ = some u0
  c1 : w.cell? ⟨g, 1, none⟩ = some u1
  c2 : w.cell? ⟨g, 2, none⟩ = some u2
  fr : ∀ j : Nat, w.frozen? ⟨g, j, none⟩ = false
theorem Bx.lt {w : World} {g : Nat} {u0 u1 u2 : Value} (h : Bx w g u0 u1 u2) : g < w.heap.size := World.block_lt_of_cell? _ _ h.c0
theorem Bx.below {w w' : World} {g : Nat} {u0 u1 u2 : Value} (h : Bx w g u0 u1 u2) (hb : Below w.heap.size w w') : Bx w' g u0 u1 u2 :=
  ⟨stays hb h.c0, stays hb h.c1, stays hb h.c2, fun j => (hb.frozen (p := ⟨g, j, none⟩) h.lt).trans (h.fr j)⟩
theorem Bx.fresh (w : World) (u0 u1 u2 : Value) (e : TypeId) : Bx (w.alloc (.cells #[u0, u1, u2] e)) w.heap.size u0 u1 u2 := by
  have h := boxed (Below.refl _ _) (box1 w (.cells #[u0, u1, u2] e))
  exact ⟨h.1 0 _ rfl, h.1 1 _ rfl, h.1 2 _ rfl, h.2⟩
theorem Bx.set {w w' : World} {g : Nat} {u0 u1 u2 v0 v1 v2 : Value} (h : Bx w g u0 u1 u2) (e : w' = ((w.setCell ⟨g, 0, none⟩ v0).setCell ⟨g, 1, none⟩ v1).setCell ⟨g, 2, none⟩ v2) : Bx w' g v0 v1 v2 ∧ w.grownBy w' (some g) := by
  obtain ⟨a, b, c, d, f⟩ := box3 e h.c0 h.c1 h.c2 h.fr
  exact ⟨⟨a, b, c, d⟩, f⟩
theorem Bx.drew {w : World} {g : Nat} {u0 u1 u2 : Value} (h : Bx w g u0 u1 u2) : Bx w.drew g u0 u1 u2 := ⟨h.c0, h.c1, h.c2, h.fr⟩
theorem Bx.grown {w w' : World} {g g' : Nat} {u0 u1 u2 : Value} (h : Bx w g u0 u1 u2) (hg : w.grownBy w' (some g')) (hne : g ≠ g') : Bx w' g u0 u1 u2 := by
  have hh : w'.heap[g]? = w.heap[g]? := hg.block g h.lt (by simpa using hne)
  have hc : ∀ j : Nat, w'.cell? ⟨g, j, none⟩ = w.cell? ⟨g, j, none⟩ := fun j => World.cell?_of_block (a := ⟨g, j, none⟩) hh
  exact ⟨(hc 0).trans h.c0, (hc 1).trans h.c1, (hc 2).trans h.c2, fun j => (World.frozen?_of_block (a := ⟨g, j, none⟩) hh).trans (h.fr j)⟩
theorem Bx.grownO {w w' : World} {g : Nat} {row : Option Nat} {u0 u1 u2 : Value} (h : Bx w g u0 u1 u2) (hg : w.grownBy w' row) (hne : row ≠ some g) : Bx w' g u0 u1 u2 := by
  have hh : w'.heap[g]? = w.heap[g]? := hg.block g h.lt (fun e => hne e.symm)
  have hc : ∀ j : Nat, w'.cell? ⟨g, j, none⟩ = w.cell? ⟨g, j, none⟩ := fun j => World.cell?_of_block (a := ⟨g, j, none⟩) hh
  exact ⟨(hc 0).trans h.c0, (hc 1).trans h.c1, (hc 2).trans h.c2, fun j => (World.frozen?_of_block (a := ⟨g, j, none⟩) hh).trans (h.fr j)⟩
theorem still_of {P : Program} {f : FuncId} {args : Array Value} {w : World} {v : Value} (h : Calls P f args w fun e w' => e = .returned v ∧ w = w') : Calls P f args w fun e w' => e = .returned v ∧ w' = w :=
  h.mono fun _ _ ⟨a, b⟩ => ⟨a, b.symm⟩
end Go.Proofs.YtpjinmiedanebaaDoor

namespace Go.Proofs.YtpjinmiedanebaaDoor
open Go.RowKit
set_option maxRecDepth 20000
section
variable {w w' : World} {p : Nat → Prop} {A : Option Addr} {n c : Nat}
theorem SlR.opAt {ls : List OpL} (h : SlR w p A n c ls) {k : Nat} (hk : k < n) : ∃ (b o : Nat) (A3 : Option Addr) (n3 c3 : Nat) (A4 : Option Addr) (n4 c4 : Nat) (hl : k < ls.length), A = some ⟨b, o, none⟩ ∧
    w.cell? ⟨b, o + k * 3, none⟩ = some (.int .u8 (ls[k].kind.toNat : Int)) ∧ w.cell? ⟨b, o + k * 3 + 1, none⟩ = some (.slice A3 n3 c3) ∧ w.cell? ⟨b, o + k * 3 + 2, none⟩ = some (.slice A4 n4 c4) ∧
    Sl w 1 A3 n3 c3 (bc ls[k].key) ∧ Sl w 1 A4 n4 c4 (bc ls[k].value) := by
  obtain ⟨b, o, x, cs, rfl, hx, ⟨v, v', rfl, hk', hv⟩, hcell⟩ := h.get hk
  obtain ⟨A3, n3, c3, rfl, hs3, _⟩ := hk'
  obtain ⟨A4, n4, c4, rfl, hs4, _⟩ := hv
  obtain ⟨hjl, rfl⟩ := List.getElem?_eq_some_iff.1 hx
  exact ⟨b, o, A3, n3, c3, A4, n4, c4, hjl, rfl, hcell 0 _ rfl, hcell 1 _ rfl, hcell 2 _ rfl, hs3, hs4⟩
theorem SlR.pairAt {ls : List PairL} (h : SlR w p A n c ls) {k : Nat} (hk : k < n) : ∃ (b o : Nat) (A3 : Option Addr) (n3 c3 : Nat) (A4 : Option Addr) (n4 c4 : Nat) (hl : k < ls.length), A = some ⟨b, o, none⟩ ∧
    w.cell? ⟨b, o + k * 2, none⟩ = some (.slice A3 n3 c3) ∧ w.cell? ⟨b, o + k * 2 + 1, none⟩ = some (.slice A4 n4 c4) ∧
    Sl w 1 A3 n3 c3 (bc ls[k].key) ∧ Sl w 1 A4 n4 c4 (bc ls[k].value) := by
  obtain ⟨b, o, x, cs, rfl, hx, ⟨v, v', rfl, hk', hv⟩, hcell⟩ := h.get hk
  obtain ⟨A3, n3, c3, rfl, hs3, _⟩ := hk'
  obtain ⟨A4, n4, c4, rfl, hs4, _⟩ := hv
  obtain ⟨hjl, rfl⟩ := List.getElem?_eq_some_iff.1 hx
  exact ⟨b, o, A3, n3, c3, A4, n4, c4, hjl, rfl, hcell 0 _ rfl, hcell 1 _ rfl, hs3, hs4⟩
/-- a row of lists of bytes, as parts -/
theorem RowC.parts : ∀ {xs : List Value} {ls : List (List UInt8)}, RowC w p xs ls → PartsOf w xs ls
  | _, [], h => by
    obtain rfl : _ = [] := h
    exact ⟨rfl, fun i v l hv => by simp at hv⟩
  | _, a :: ls, h => by
    obtain ⟨cs, ys, rfl, ⟨v, rfl, A, n, c, rfl, hs, _⟩, hr⟩ := h
    have ih := hr.parts
    refine ⟨by simp [ih.1], fun i u l hu hl => ?_⟩
    cases i with
    | zero =>
      simp at hu hl
      subst hu
      subst hl
      exact ⟨A, n, c, rfl, hs⟩
    | succ i =>
      simp at hu hl
      exact ih.2 i u l hu hl
theorem OwnR.parts {B : Nat} {e : TypeId} {ls : List (List UInt8)} (h : OwnR w B e A n c ls) : ∃ vs, Sl w 1 A n c vs ∧ PartsOf w vs ls := by
  obtain ⟨xs, ho, hr⟩ := h
  exact ⟨xs, ho.sl, hr.parts⟩
/-- what lies at a variable of two cells that the call has boxed in block g -/
structure Bx2 (w : World) (g : Nat) (u0 u1 : Value) : Prop where
  c0 : w.cell? ⟨g, 0, none⟩ = some u0
  c1 : w.cell? ⟨g, 1, none⟩ = some u1
theorem Bx2.below {g : Nat} {u0 u1 : Value} (h : Bx2 w g u0 u1) (hb : Below w.heap.size w w') : Bx2 w' g u0 u1 := ⟨stays hb h.c0, stays hb h.c1⟩
theorem Bx2.fresh (w : World) (u0 u1 : Value) (e : TypeId) : Bx2 (w.alloc (.cells #[u0, u1] e)) w.heap.size u0 u1 := by
  have h := boxed (Below.refl _ _) (box1 w (.cells #[u0, u1] e))
  exact ⟨h.1 0 _ rfl, h.1 1 _ rfl⟩
theorem Bx2.lt {g : Nat} {u0 u1 : Value} (h : Bx2 w g u0 u1) : g < w.heap.size := World.block_lt_of_cell? _ _ h.c0
theorem Bx2.grownO {g : Nat} {row : Option Nat} {u0 u1 : Value} (h : Bx2 w g u0 u1) (hg : w.grownBy w' row) (hne : row ≠ some g) : Bx2 w' g u0 u1 := by
  have hh : w'.heap[g]? = w.heap[g]? := hg.block g h.lt (fun e => hne e.symm)
  have hc : ∀ j : Nat, w'.cell? ⟨g, j, none⟩ = w.cell? ⟨g, j, none⟩ := fun j => World.cell?_of_block (a := ⟨g, j, none⟩) hh
  exact ⟨(hc 0).trans h.c0, (hc 1).trans h.c1⟩
end
end Go.Proofs.YtpjinmiedanebaaDoor

namespace Go.Proofs.YtpjinmiedanebaaDoor
open Go.RowKit
set_option maxRecDepth 20000
section
variable {w w' : World} {p : Nat → Prop} {A : Option Addr} {n c : Nat}
theorem SlR.entAt {ls : List EntL} (h : SlR w p A n c ls) {k : Nat} (hk : k < n) : ∃ (b o : Nat) (A3 : Option Addr) (n3 c3 : Nat) (A4 : Option Addr) (n4 c4 : Nat) (hl : k < ls.length), A = some ⟨b, o, none⟩ ∧
    w.cell? ⟨b, o + k * 4, none⟩ = some (.slice A3 n3 c3) ∧ w.cell? ⟨b, o + k * 4 + 1, none⟩ = some (.int .u64 (ls[k].key.seq.toNat : Int)) ∧ w.cell? ⟨b, o + k * 4 + 2, none⟩ = some (.int .u8 (ls[k].key.kind.toNat : Int)) ∧ w.cell? ⟨b, o + k * 4 + 3, none⟩ = some (.slice A4 n4 c4) ∧
    Sl w 1 A3 n3 c3 (bc ls[k].key.user) ∧ Sl w 1 A4 n4 c4 (bc ls[k].value) := by
  obtain ⟨b, o, x, cs, rfl, hx, ⟨v, v', rfl, hk', hv⟩, hcell⟩ := h.get hk
  obtain ⟨A3, n3, c3, rfl, hs3, _⟩ := hk'
  obtain ⟨A4, n4, c4, rfl, hs4, _⟩ := hv
  obtain ⟨hjl, rfl⟩ := List.getElem?_eq_some_iff.1 hx
  exact ⟨b, o, A3, n3, c3, A4, n4, c4, hjl, rfl, hcell 0 _ rfl, hcell 1 _ rfl, hcell 2 _ rfl, hcell 3 _ rfl, hs3, hs4⟩
end
/-- a variable of four cells that the call has boxed in block g -/
structure Bx4 (w : World) (g : Nat) (u0 u1 u2 u3 : Value) : Prop where
  c0 : w.cell? ⟨g, 0, none⟩ = some u0
  c1 : w.cell? ⟨g, 1, none⟩ = some u1
  c2 : w.cell? ⟨g, 2, none⟩ = some u2
  c3 : w.cell? ⟨g, 3, none⟩ = some u3
  fr : ∀ j : Nat, w.frozen? ⟨g, j, none⟩ = false
theorem Bx4.lt {w : World} {g : Nat} {u0 u1 u2 u3 : Value} (h : Bx4 w g u0 u1 u2 u3) : g < w.heap.size := World.block_lt_of_cell? _ _ h.c0
theorem Bx4.below {w w' : World} {g : Nat} {u0 u1 u2 u3 : Value} (h : Bx4 w g u0 u1 u2 u3) (hb : Below w.heap.size w w') : Bx4 w' g u0 u1 u2 u3 :=
  ⟨stays hb h.c0, stays hb h.c1, stays hb h.c2, stays hb h.c3, fun j => (hb.frozen (p := ⟨g, j, none⟩) h.lt).trans (h.fr j)⟩
theorem Bx4.fresh (w : World) (u0 u1 u2 u3 : Value) (e : TypeId) : Bx4 (w.alloc (.cells #[u0, u1, u2, u3] e)) w.heap.size u0 u1 u2 u3 := by
  have h := boxed (Below.refl _ _) (box1 w (.cells #[u0, u1, u2, u3] e))
  exact ⟨h.1 0 _ rfl, h.1 1 _ rfl, h.1 2 _ rfl, h.1 3 _ rfl, h.2⟩
theorem Bx4.drew {w : World} {g : Nat} {u0 u1 u2 u3 : Value} (h : Bx4 w g u0 u1 u2 u3) : Bx4 w.drew g u0 u1 u2 u3 := ⟨h.c0, h.c1, h.c2, h.c3, h.fr⟩
theorem Bx4.grownO {w w' : World} {g : Nat} {row : Option Nat} {u0 u1 u2 u3 : Value} (h : Bx4 w g u0 u1 u2 u3) (hg : w.grownBy w' row) (hne : row ≠ some g) : Bx4 w' g u0 u1 u2 u3 := by
  have hh : w'.heap[g]? = w.heap[g]? := hg.block g h.lt (fun e => hne e.symm)
  have hc : ∀ j : Nat, w'.cell? ⟨g, j, none⟩ = w.cell? ⟨g, j, none⟩ := fun j => World.cell?_of_block (a := ⟨g, j, none⟩) hh
  exact ⟨(hc 0).trans h.c0, (hc 1).trans h.c1, (hc 2).trans h.c2, (hc 3).trans h.c3, fun j => (World.frozen?_of_block (a := ⟨g, j, none⟩) hh).trans (h.fr j)⟩
theorem Bx4.set {w : World} {g : Nat} {u0 u1 u2 u3 v0 v1 v2 v3 : Value} (h : Bx4 w g u0 u1 u2 u3) :
    Bx4 ((((w.setCell ⟨g, 0, none⟩ v0).setCell ⟨g, 1, none⟩ v1).setCell ⟨g, 2, none⟩ v2).setCell ⟨g, 3, none⟩ v3) g v0 v1 v2 v3 ∧ w.grownBy ((((w.setCell ⟨g, 0, none⟩ v0).setCell ⟨g, 1, none⟩ v1).setCell ⟨g, 2, none⟩ v2).setCell ⟨g, 3, none⟩ v3) (some g) := by
  refine ⟨⟨set_other (set_other (set_other (set_same h.c0 _) _ (by omega)) _ (by omega)) _ (by omega), set_other (set_other (set_same (set_other h.c1 _ (by omega)) _) _ (by omega)) _ (by omega), set_other (set_same (set_other (set_other h.c2 _ (by omega)) _ (by omega)) _) _ (by omega), set_same (set_other (set_other (set_other h.c3 _ (by omega)) _ (by omega)) _ (by omega)) _, fun j => ?_⟩, ?_⟩
  · simp [h.fr]
  · exact only_set (only_set (only_set (only_set (World.grownBy.refl _ _) 0 v0) 1 v1) 2 v2) 3 v3
theorem parts_nil (w : World) : PartsOf w [] [] := ⟨rfl, fun i v l hv => by simp at hv⟩
theorem parts_cons {w : World} {A : Option Addr} {n c : Nat} {l : List UInt8} {vs : List Value} {ls : List (List UInt8)} (h : Sl w 1 A n c (bc l)) (hp : PartsOf w vs ls) : PartsOf w (.slice A n c :: vs) (l :: ls) := by
  refine ⟨by simp [hp.1], fun i v m hv hm => ?_⟩
  cases i with
  | zero =>
    simp at hv hm
    subst hv hm
    exact ⟨A, n, c, rfl, h⟩
  | succ i => exact hp.2 i v m (by simpa using hv) (by simpa using hm)
end Go.Proofs.YtpjinmiedanebaaDoor

namespace Go.Proofs.YtpjinmiedanebaaDoor
open Go.RowKit
set_option maxRecDepth 20000
section
variable {α : Type} [Rep α] {w w' : World} {B : Nat} {e : TypeId} {A : Option Addr} {n c : Nat} {ls : List α}
def OwnX (w : World) (B : Nat) (e : TypeId) (A : Option Addr) (n c : Nat) (ls : List α) : Prop :=
  ∃ xs, Own w B e (Rep.size α) A n c xs ∧ RowC w (fun b => blk A c ≠ some b) xs ls
theorem OwnX.nil (w : World) (B : Nat) (e : TypeId) (A : Option Addr) : OwnX w B e A 0 0 ([] : List α) := ⟨[], Own.nil _ _ _ _ _, rfl⟩
theorem OwnX.sl (h : OwnX w B e A n c ls) : SlR w (fun _ => True) A n c ls := by
  obtain ⟨xs, ho, hr⟩ := h
  exact ⟨xs, ho.sl, hr.move fun _ _ _ => ⟨rfl, trivial⟩, fun _ _ _ => trivial⟩
theorem OwnX.lenR (h : OwnX w B e A n c ls) : ls.length = n := h.sl.lenR
theorem OwnX.lt (h : OwnX w B e A n c ls) : ∀ b, blk A c = some b → B ≤ b ∧ b < w.heap.size := by
  obtain ⟨xs, ho, _⟩ := h
  exact fun b hb => Own.lt ho b hb
theorem OwnX.below (h : OwnX w B e A n c ls) (hb : Below w.heap.size w w') : OwnX w' B e A n c ls := by
  obtain ⟨xs, ho, hr⟩ := h
  exact ⟨xs, ho.below hb, hr.move fun b hl hp => ⟨hb.block b hl, hp⟩⟩
theorem OwnX.mono {B' : Nat} (h : OwnX w B e A n c ls) (hB : B' ≤ B) : OwnX w B' e A n c ls := by
  obtain ⟨xs, ho, hr⟩ := h
  exact ⟨xs, ho.mono hB, hr⟩
/-- another block was written -/
theorem OwnX.grown {g : Nat} {row : Option Nat} (h : OwnX w B e A n c ls) (hg : w.grownBy w' row) (h1 : ∀ b, row = some b → g ≤ b) (h2 : w.heap.size ≤ g) : OwnX w' B e A n c ls := by
  obtain ⟨xs, ho, hr⟩ := h
  refine ⟨xs, ho.grown hg fun b hb q => ?_, hr.move fun b hl hp => ⟨hg.block b hl fun q => ?_, hp⟩⟩
  · have := (ho.lt b hb).2
    have := h1 b q
    omega
  · have := h1 b q.symm
    omega
theorem row_app (P : Program) (w : World) (t ty : TypeId) (z : Value) (bytes : Nat) (ht : P.underlying t = some (.slice e)) (hi : (P.info? e).map (fun i => (i.zero, i.size, i.bytes)) = some (some z, Rep.size α, bytes))
    (hzs : z.cells.size = Rep.size α) (hown : OwnX w B e A n c ls)
    (A2 : Option Addr) (m c2 : Nat) (ms : List α) (hs : ∃ xs, Sl w (Rep.size α) A2 m c2 xs ∧ RowC w (fun b => blk A c ≠ some b) xs ms)
    (h63 : n + m ≤ maxLen) (hbytes : (n + m) * bytes ≤ 140737488355328) (hB : B ≤ w.heap.size) :
    ∃ A' c' w', (Builtin.append_ #[t, t] ty #[.slice A n c, .slice A2 m c2]).run P w = .ok (.slice A' (n + m) c') w' ∧ OwnX w' B e A' (n + m) c' (ls ++ ms) ∧ w.grownBy w' (blk A c) ∧ (blk A' c' = blk A c ∨ blk A' c' = some w.heap.size) := by
  obtain ⟨i, hi1, hz, hs1, hb1⟩ := info_parts hi
  obtain ⟨xs, hO, hR⟩ := hown
  obtain ⟨ys, hS, hR2⟩ := hs
  obtain ⟨A', c', w', hrun, h2, h3, h4⟩ := run_append_own2 (P := P) w B t ty e i z (Rep.size α) bytes ht hi1 hz hs1 hb1 hzs A n c xs hO A2 m c2 ys hS hR2.one h63 hbytes hB
  have mv : ∀ b, b < w.heap.size → blk A c ≠ some b → w'.heap[b]? = w.heap[b]? ∧ blk A' c' ≠ some b := fun b hl hp => by
    refine ⟨h3.block b hl (fun q => hp q.symm), ?_⟩
    rcases h4 with q | q
    · rw [q]; exact hp
    · rw [q]
      intro r
      simp at r
      omega
  exact ⟨A', c', w', hrun, ⟨_, h2, (hR.move mv).append (hR2.move mv)⟩, h3, h4⟩
theorem wpList_appX {P : Program} (w : World) {ops : Array Oper} {rest : List Oper} {o : Oper} {a : Act} {Q : Exit → Act → World → Prop} (hgd : o.guard = none) (s x : Operand) (t : TypeId)
    (ho : o.op = .call { callee := .builtin .append, args := #[s, x], argTypes := #[t, t] })
    (B : Nat) (e : TypeId) (z : Value) (bytes : Nat) (ht : P.underlying t = some (.slice e)) (hi : (P.info? e).map (fun i => (i.zero, i.size, i.bytes)) = some (some z, Rep.size α, bytes))
    (hzs : z.cells.size = Rep.size α)
    (A : Option Addr) (n c : Nat) (ls : List α) (hsv : a.eval s = .slice A n c) (hown : OwnX w B e A n c ls)
    (A2 : Option Addr) (m c2 : Nat) (ms : List α) (hx : a.eval x = .slice A2 m c2) (hs : ∃ xs, Sl w (Rep.size α) A2 m c2 xs ∧ RowC w (fun b => blk A c ≠ some b) xs ms)
    (h63 : n + m ≤ maxLen) (hbytes : (n + m) * bytes ≤ 140737488355328) (hB : B ≤ w.heap.size)
    (h : ∀ A' c' w', OwnX w' B e A' (n + m) c' (ls ++ ms) → w.grownBy w' (blk A c) → (blk A' c' = blk A c ∨ blk A' c' = some w.heap.size) → wpList P ops Q rest (a.put o.dst (.slice A' (n + m) c')) w') : wpList P ops Q (o :: rest) a w := by
  obtain ⟨A', c', w', hrun, h2, h3, h4⟩ := row_app P w t o.type z bytes ht hi hzs hown A2 m c2 ms hs h63 hbytes hB
  refine wpList_plain hgd fun _ hK => ?_
  unfold Oper.wp execOp
  simp only [ho, resolve, invoke, builtin, Sem.run_bind, Sem.run_pure, Result.andThen_ok, List.map_toArray, List.map_cons, List.map_nil, hsv, hx, hrun]
  exact hK _ _ (h A' c' w' h2 h3 h4)
end
end Go.Proofs.YtpjinmiedanebaaDoor

namespace Go.Proofs.YtpjinmiedanebaaDoor
set_option maxRecDepth 20000

/-- the table -/
def quarterL : List Nat := [0x00000000, 0x105ec76f, 0x20bd8ede, 0x30e349b1, 0x417b1dbc, 0x5125dad3, 0x61c69362, 0x7198540d,
  0x82f63b78, 0x92a8fc17, 0xa24bb5a6, 0xb21572c9, 0xc38d26c4, 0xd3d3e1ab, 0xe330a81a, 0xf36e6f75]
/-- what four bits leave -/
def nib (c : Nat) : Nat := (c / 16) ^^^ quarterL.getD (c % 16) 0
def stepB (c b : Nat) : Nat := nib (nib (c ^^^ b))
def crcL (c : Nat) (l : List UInt8) : Nat := l.foldl (fun c b => stepB c b.toNat) c
/-- the sum -/
def sumL (l : List UInt8) : Nat := 4294967295 - crcL 4294967295 l

theorem quarter_lt (i : Nat) : quarterL.getD i 0 < 4294967296 := by
  rcases Nat.lt_or_ge i 16 with h | h
  · have : ∀ i : Fin 16, quarterL.getD i.val 0 < 4294967296 := by decide
    exact this ⟨i, h⟩
  · rw [List.getD_eq_getElem?_getD, List.getElem?_eq_none (by simpa [quarterL] using h)]
    decide
theorem nib_lt {c : Nat} (h : c < 4294967296) : nib c < 4294967296 := by
  unfold nib
  exact Nat.xor_lt_two_pow (n := 32) (by omega) (quarter_lt _)
theorem stepB_lt {c b : Nat} (h : c < 4294967296) (hb : b < 4294967296) : stepB c b < 4294967296 :=
  nib_lt (nib_lt (Nat.xor_lt_two_pow (n := 32) h hb))
theorem crcL_lt {c : Nat} (h : c < 4294967296) (l : List UInt8) : crcL c l < 4294967296 := by
  unfold crcL
  induction l generalizing c with
  | nil => exact h
  | cons b r ih => exact ih (stepB_lt h (by have := b.toNat_lt; omega))
theorem crcL_snoc (c : Nat) (l : List UInt8) (b : UInt8) : crcL c (l ++ [b]) = stepB (crcL c l) b.toNat := by simp [crcL]
theorem crcL_append (c : Nat) (l m : List UInt8) : crcL c (l ++ m) = crcL (crcL c l) m := by simp [crcL]
theorem sumL_lt (l : List UInt8) : sumL l < 4294967296 := by unfold sumL; omega
theorem xor_ones {c : Nat} (h : c < 4294967296) : 4294967295 ^^^ c = 4294967295 - c := by
  have h1 : (BitVec.allOnes 32 ^^^ BitVec.ofNat 32 c).toNat = (~~~ BitVec.ofNat 32 c).toNat := by rw [BitVec.allOnes_xor]
  rw [BitVec.toNat_xor, BitVec.toNat_not, BitVec.toNat_allOnes, BitVec.toNat_ofNat, Nat.mod_eq_of_lt (by omega)] at h1
  simpa using h1
theorem take_snoc {α : Type} (l : List α) (k : Nat) (h : k < l.length) : l.take (k + 1) = l.take k ++ [l[k]] := by
  rw [List.take_succ_eq_append_getElem h]
end Go.Proofs.YtpjinmiedanebaaDoor

namespace Go.Proofs.YtpjinmiedanebaaDoor
set_option maxRecDepth 20000
open Go.ChangeShapes Go.WideShapes Go.ChangeAt Go.RowKit Go.Deep

section
variable {H : Type} {enc : TypeId × Value → H} {P : Program}
/-- what was read reads the same where nothing of it has turned -/
theorem trodAll_keep (hl : laidOutB P = true) {W W' : World} {sp : Nat → Bool} : ∀ (ts : List TypeId) (vs : List Value) (ds : List (DataW H)) (ps : List MemPlace), (∀ t ∈ ts, P.readableRec t = true ∧ t < P.types.size) →
    DataW.TrodAll enc P W 0 (fun _ => true) true ts vs ds ps → (∀ x ∈ ps, W.sameAt W' x) → (∀ x ∈ ps, sp x.block = true) → DataW.TrodAll enc P W' 0 sp true ts vs ds ps
  | [], vs, ds, ps, _, h, _, _ => by
    obtain ⟨rfl, rfl, rfl⟩ := trodAll_nil h
    exact trodAll_mk0
  | t :: ts, vs, ds, ps, hr, h, hs, hp => by
    obtain ⟨v, vs', d, ds', p, q, rfl, rfl, rfl, h0, h1⟩ := trodAll_cons h
    have hr0 := hr t (by simp)
    exact trodAll_cons_mk (WideElems.Trod_stays hl hr0.1 hr0.2 h0 (fun x hx => hs x (by simp [hx])) (fun x hx => hp x (by simp [hx])))
      (trodAll_keep hl ts vs' ds' q (fun u hu => hr u (by simp [hu])) h1 (fun x hx => hs x (by simp [hx])) (fun x hx => hp x (by simp [hx])))

/-- THE LAST STEP OF A LAW: it has returned true and written new memory alone -/
theorem law_post (hl : laidOutB P = true) {f : Func} {s : ChangeSpec} {tb : TypeId} {W W' : World} {args : Array Value} {ds : List (DataW H)} {before : List MemPlace}
    (hread : f.params.toList.all (fun t => P.readableRec t && decide (t < P.types.size)) = true) (hvars : s.vars = [])
    (hW : DataW.Whole enc P f.params.toList s.vars false W args.toList ds [] before)
    (hres : f.resultTypes = #[tb]) (htb : P.underlying tb = some .bool)
    (hs : s.fn H (ds ++ []) = { results := [.lit (.bool true)], args := ds }) (hb : Below W.heap.size W W') :
    s.post enc P f false true false false W args (.bool true) W' := by
  have hW' := hW
  obtain ⟨p, q, hA, hV, rfl, hz, hn⟩ := hW
  rw [hvars] at hV
  have hq : q = [] := (trodVars_none hV).2
  subst hq
  have hlt : ∀ x ∈ p ++ [], x.block < W.heap.size := fun x hx => hW'.lt x hx
  have hr : ∀ t ∈ f.params.toList, P.readableRec t = true ∧ t < P.types.size := fun t ht => by
    have := List.all_eq_true.1 hread t ht
    simpa using this
  have keep : ∀ sp : Nat → Bool, (∀ x ∈ p ++ [], sp x.block = true) → DataW.TrodAll enc P W' 0 sp true f.params.toList args.toList ds p := fun sp hsp =>
    trodAll_keep hl _ _ _ _ hr hA (fun x hx => hb.same (hlt x (by simpa using hx))) (fun x hx => hsp x (by simpa using hx))
  have hone : ∀ (b : Nat) (sp : Nat → Bool) (hd : Bool), DataW.TrodAll enc P W' b sp hd f.resultTypes.toList ((Value.bool true).resultList f.resultTypes.size) (s.fn H (ds ++ [])).results [] := fun b sp hd => by
    rw [hs, hres]
    exact trodAll_mk1 (shut_bool htb true)
  have hold : ∀ x ∈ p ++ [], (fun b => decide (b < W.heap.size)) x.block = true := fun x hx => by simpa using hlt x hx
  refine ⟨ds, [], p ++ [], [], p, [], hW', hone _ _ _, ?_, ?_, World.keptBut_mono (fun x hx => ⟨hx, Or.inr (by simpa using hx)⟩) (hb.frame (· ∈ p ++ [])), fun h => by cases h⟩
  · rw [hs]; exact keep _ hold
  · rw [hs, hvars]; exact rfl

theorem addr_plain {w : World} {a : Addr} {v : Value} (h : w.cell? a = some v) : a = ⟨a.block, a.off, none⟩ := by
  unfold World.cell? at h
  split at h
  · split at h
    · cases h
    · rename_i hs
      cases a with
      | mk b o s => cases s with
        | none => rfl
        | some _ => simp at hs
  · cases h
/-- numbers that are bytes -/
theorem byte_cells {w : World} {a : Addr} {n : Nat} {zs : List Int} (hn : n ≤ zs.length) (hcell : ∀ i, i < n → w.cell? (a.add i) = some (.int .u8 (zs.getD i 0))) (hwz : ∀ z ∈ zs, (Lit.int .u8 z).wf = true) :
    ∃ l : List UInt8, l.length = n ∧ (0 < n → a = ⟨a.block, a.off, none⟩ ∧ ∀ (j : Nat) u, (bc l)[j]? = some u → w.cell? ⟨a.block, a.off + j, none⟩ = some u) := by
  refine ⟨(zs.take n).map fun z => UInt8.ofNat z.toNat, by simp; omega, fun h0 => ?_⟩
  have ha : a = ⟨a.block, a.off, none⟩ := addr_plain (by simpa [Addr.add] using hcell 0 h0)
  refine ⟨ha, fun j u hu => ?_⟩
  have hj : j < n := by
    have := (List.getElem?_eq_some_iff.1 hu).1
    simp at this
    omega
  have hjz : j < zs.length := by omega
  have h1 := hcell j hj
  rw [ha, Addr.add_lit] at h1
  rw [h1, ← hu, bc_get]
  have hb := bounds_u8 (hwz zs[j] (List.getElem_mem hjz))
  simp [hj, List.getElem?_eq_getElem hjz, List.getD]
  omega
/-- bytes that came in -/
theorem open_bytes {t e : TypeId} (ht : P.underlying t = some (.slice e)) (he : P.underlying e = some (.int .u8)) (hc : P.cellsOf e = 1) {w : World} {base : Nat} {r : Reach} {b0 : Nat} {held : Bool} {v : Value} {d : DataW H} {p : List MemPlace}
    (hv : Value.okWide P w r b0 t v) (h : DataW.Trod enc P w base (fun _ => true) held t v d p) : ∃ (A : Option Addr) (n c : Nat) (l : List UInt8), v = .slice A n c ∧ Sl w 1 A n c (bc l) := by
  obtain ⟨a0, len, cap, rfl⟩ := okWide_slice ht hv
  obtain ⟨fuel, hf⟩ := h
  rcases open_ints ht he hc hf with ⟨hcs, hx⟩ | ⟨a, len', cap', zs, hcs, _, hl, hm, hz, hx, hcell, hwz⟩
  · have e0 : Value.slice a0 len cap = Value.slice none 0 0 := by simpa [Value.cells] using hcs
    rw [e0]
    exact ⟨none, 0, 0, [], rfl, Sl.nil _ _ _ _ (Nat.zero_le _)⟩
  · have e0 : Value.slice a0 len cap = Value.slice (some a) len' cap' := by simpa [Value.cells] using hcs
    rw [e0]
    simp only [↓reduceIte] at hz
    obtain ⟨l, hlen, hcl⟩ := byte_cells (n := len') (by omega) (fun i hi => hcell i (by omega)) hwz
    refine ⟨some a, len', cap', l, rfl, by simp [hlen], hl, hm, fun h0 => ?_⟩
    obtain ⟨ha, hc'⟩ := hcl h0
    exact ⟨a.block, a.off, congrArg some ha, hc'⟩
/-- lists of bytes that came in -/
theorem open_parts {t e q : TypeId} (ht : P.underlying t = some (.slice e)) (he : P.underlying e = some (.slice q)) (hq : P.underlying q = some (.int .u8)) (ce : P.cellsOf e = 1) (cq : P.cellsOf q = 1)
    {w : World} {base : Nat} {r : Reach} {b0 : Nat} {held : Bool} {v : Value} {d : DataW H} {p : List MemPlace}
    (hv : Value.okWide P w r b0 t v) (h : DataW.Trod enc P w base (fun _ => true) held t v d p) : ∃ (A : Option Addr) (n c : Nat) (vs : List Value) (ls : List (List UInt8)), v = .slice A n c ∧ Sl w 1 A n c vs ∧ PartsOf w vs ls := by
  obtain ⟨a0, len, cap, rfl⟩ := okWide_slice ht hv
  obtain ⟨fuel, hf⟩ := h
  rcases open_int_rows ht he hq ce cq hf with ⟨hcs, hx⟩ | ⟨a, len', cap', A, L, C, Z, hcs, _, hl, hm, hx, hrow⟩
  · have e0 : Value.slice a0 len cap = Value.slice none 0 0 := by simpa [Value.cells] using hcs
    rw [e0]
    exact ⟨none, 0, 0, [], [], rfl, Sl.nil _ _ _ _ (Nat.zero_le _), rfl, fun i v l hv => by simp at hv⟩
  · have e0 : Value.slice a0 len cap = Value.slice (some a) len' cap' := by simpa [Value.cells] using hcs
    rw [e0]
    have each : ∀ i, i < len' → ∃ l : List UInt8, Sl w 1 (A i) (L i) (C i) (bc l) := by
      intro i hi
      obtain ⟨h1, h2, h3, h4, h5, h6, h7⟩ := hrow i (by omega)
      cases hA : A i with
      | none =>
        have : C i = 0 := h6 hA
        have h0 : L i = 0 := by omega
        rw [h0]
        exact ⟨[], Sl.nil _ _ _ _ h3⟩
      | some ad =>
        obtain ⟨l, hlen, hcl⟩ := byte_cells (a := ad) (n := L i) (zs := Z i) (by omega) (fun j hj => (h7 ad hA).2 j (by omega)) h5
        refine ⟨l, by simp [hlen], h2, h3, fun h0 => ?_⟩
        obtain ⟨ha, hc'⟩ := hcl h0
        exact ⟨ad.block, ad.off, congrArg some ha, hc'⟩
    have pick : ∃ f : Nat → List UInt8, ∀ i, i < len' → Sl w 1 (A i) (L i) (C i) (bc (f i)) :=
      ⟨fun i => if h : i < len' then Classical.choose (each i h) else [], fun i hi => by simp only [dif_pos hi]; exact Classical.choose_spec (each i hi)⟩
    obtain ⟨f, hf'⟩ := pick
    refine ⟨some a, len', cap', (List.range len').map (fun i => .slice (A i) (L i) (C i)), (List.range len').map f, rfl, ⟨by simp, hl, hm, fun h0 => ?_⟩, by simp, fun i v l hv hl' => ?_⟩
    · have ha : a = ⟨a.block, a.off, none⟩ := addr_plain (by simpa [Addr.add] using (hrow 0 (by omega)).1)
      refine ⟨a.block, a.off, congrArg some ha, fun j u hu => ?_⟩
      have hj : j < len' := by
        have := (List.getElem?_eq_some_iff.1 hu).1
        simpa using this
      have h1 := (hrow j (by omega)).1
      rw [ha, Addr.add_lit] at h1
      rw [h1, ← hu]
      simp [hj]
    · have hi : i < len' := by
        have := (List.getElem?_eq_some_iff.1 hv).1
        simpa using this
      simp [hi] at hv hl'
      subst hv
      subst hl'
      exact ⟨A i, L i, C i, rfl, hf' i hi⟩
end
end Go.Proofs.YtpjinmiedanebaaDoor
