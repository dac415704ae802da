/-
  Append of so many noughts to bytes of the call's own: append(out, make([]byte, n)...); and the same laws as one step of a region that draws its order. No condition but sizes.
-/
import Derived.Test.YtfonincdhjkacaaGuarded
namespace Go.Proofs.Ytfonincdhjkacaa
set_option maxRecDepth 20000
open Go.RowKit

theorem zeros_list (z : Value) (m : Nat) : Builtin.zeroCells #[z] m = (List.replicate m z).toArray := by
  apply Array.ext'
  rw [List.toList_toArray, List.eq_replicate_iff]
  simp [Builtin.zeroCells, Nat.mod_one]
section
variable {P : Program} (w : World)
theorem zeros_room (t tn ty e : TypeId) (i : TypeInfo) (z : Value) (k kn : IntKind) (ht : P.underlying t = some (.slice e)) (htn : P.underlying tn = some (.int kn)) (hi : P.info? e = some i) (hz : i.zero = some z) (hsize : i.size = 1) (hzs : z.cells = #[z]) (h1 : z.oneCell' = true)
    (g o sLen sCap : Nat) (cur : Array Value) (hg : w.heap[g]? = some (.cells cur e (0, 0))) (m : Nat) (hm : (m : Int) * i.bytes ≤ 281474976710656) (hm2 : m ≤ 9223372036854775807)
    (hroom : sLen + m ≤ sCap) (hfit : o + sCap ≤ cur.size) :
    (Builtin.append_ #[t, tn] ty #[.slice (some ⟨g, o, none⟩) sLen sCap, .int k (m : Int)]).run P w =
      .ok (.slice (some ⟨g, o, none⟩) (sLen + m) sCap) (w.setRow g (cur.toList.take (o + sLen) ++ List.replicate m z ++ cur.toList.drop (o + sLen + m)).toArray) := by
  have hle : o + sLen + (List.replicate m z).length ≤ cur.size := by simp; omega
  have hst := run_storeCells_at P g (o + sLen) e (List.replicate m z) 0 cur w hg (by simpa using hle) (fun u hu => by rw [List.eq_of_mem_replicate hu]; exact h1)
  simp only [Nat.add_zero, List.length_replicate] at hst
  have hw : IntKind.i64.wrap (m : Int) = m := by rw [IntKind.wrap_i64]; omega
  have hneg : ¬ ((m : Int) < 0) := by omega
  have h48i : ¬ (281474976710656 < (m : Int) * (i.bytes : Int)) := by omega
  have hzc : (Builtin.zeroCells #[z] m).toList = List.replicate m z := by rw [zeros_list]
  rcases Nat.eq_zero_or_pos m with h0 | h0
  · subst h0
    have hcap : sLen ≤ sCap := by omega
    simp only [List.replicate_zero, storeCells, Sem.run_pure, Result.ok.injEq, true_and] at hst
    have hw0 : IntKind.i64.wrap 0 = 0 := by decide
    simp [Builtin.append_, run_underlying ht, run_underlying htn, sizeOf, typeInfo, hi, asInt, asIntOf, hw0, hcap, Addr.add_lit, storeCells]
    simpa using hst
  · have hm0 : ¬ m = 0 := by omega
    simp [Builtin.append_, run_underlying ht, run_underlying htn, sizeOf, typeInfo, zeroValue, hi, hz, hsize, asInt, asIntOf, hw, hneg, h48i, hroom, hm0, Addr.add_lit, hzs, hzc, hst]
theorem zeros_grow (t tn ty e : TypeId) (i : TypeInfo) (z : Value) (k kn : IntKind) (ht : P.underlying t = some (.slice e)) (htn : P.underlying tn = some (.int kn)) (hi : P.info? e = some i) (hz : i.zero = some z) (hsize : i.size = 1) (hzs : z.cells = #[z])
    (A : Option Addr) (sLen sCap : Nat) (olds : List Value) (ho : Sl w 1 A sLen sCap olds) (m : Nat) (hm : (m : Int) * i.bytes ≤ 281474976710656)
    (hg : sCap < sLen + m) (h63 : ((sLen + m : Nat) : Int) ≤ 9223372036854775807) (hfit : Builtin.nextslicecap (sLen + m) sCap * i.bytes ≤ 281474976710656) :
    (Builtin.append_ #[t, tn] ty #[.slice A sLen sCap, .int k (m : Int)]).run P w =
      .ok (.slice (some ⟨w.heap.size, 0, none⟩) (sLen + m) (grownCap w (sLen + m) sCap e))
        (w.drew.alloc (.cells (olds.toArray ++ (List.replicate m z).toArray ++ Builtin.zeroCells z.cells (grownCap w (sLen + m) sCap e - (sLen + m))) e)) := by
  have hcap := ho.cap
  have hn : ¬ (sLen + m ≤ sCap) := by omega
  have h63' : ¬ (9223372036854775807 < ((sLen : Int) + (m : Int))) := by omega
  have h48' : ¬ (281474976710656 < Builtin.nextslicecap (sLen + m) sCap * i.bytes) := by omega
  have hw : IntKind.i64.wrap (m : Int) = m := by rw [IntKind.wrap_i64]; omega
  have hneg : ¬ ((m : Int) < 0) := by omega
  have h48i : ¬ (281474976710656 < (m : Int) * (i.bytes : Int)) := by omega
  have hm0 : ¬ m = 0 := by omega
  have hzc := zeros_list z m
  have hfo := run_first (P := P) w.drew 1 sLen sCap A olds (ho.keep fun _ _ _ => rfl)
  simp [Builtin.append_, run_underlying ht, run_underlying htn, sizeOf, typeInfo, zeroValue, hi, hz, hsize, asInt, asIntOf, hw, hneg, h48i, hm0, hn, h63', h48', Question.forced, hfo, newRow, grownCap, hzs, hzc]
/-- append of noughts onto what the call owns -/
theorem run_zeros_own (B : Nat) (t tn ty e : TypeId) (i : TypeInfo) (z : Value) (k kn : IntKind) (ht : P.underlying t = some (.slice e)) (htn : P.underlying tn = some (.int kn)) (hi : P.info? e = some i) (hz : i.zero = some z) (hsize : i.size = 1) (hby : i.bytes = 1) (hzs : z.cells = #[z]) (h1 : z.oneCell' = true)
    (A : Option Addr) (n c : Nat) (xs : List Value) (hown : Own w B e 1 A n c xs) (m : Nat) (hbytes : n + m ≤ 140737488355328) (hB : B ≤ w.heap.size) :
    ∃ A' c' w', (Builtin.append_ #[t, tn] ty #[.slice A n c, .int k (m : Int)]).run P w = .ok (.slice A' (n + m) c') w' ∧ Own w' B e 1 A' (n + m) c' (xs ++ List.replicate m z) ∧ w.grownBy w' (blk A c) ∧
      (blk A' c' = blk A c ∨ blk A' c' = some w.heap.size) := by
  have hxl : xs.length = n := by have := hown.len; omega
  have hlen : (xs ++ List.replicate m z).length = (n + m) * 1 := by simp; omega
  by_cases hroom : n + m ≤ c
  · rcases Nat.eq_zero_or_pos c with h0 | h0
    · subst h0
      obtain rfl : n = 0 := by omega
      obtain rfl : m = 0 := by omega
      obtain rfl : xs = [] := List.eq_nil_of_length_eq_zero hxl
      refine ⟨A, 0, w, ?_, by simpa using Own.nil w B e 1 A, World.grownBy.refl w _, .inl rfl⟩
      have hw0 : IntKind.i64.wrap 0 = 0 := by decide
      simp [Builtin.append_, run_underlying ht, run_underlying htn, sizeOf, typeInfo, hi, asInt, asIntOf, hw0]
      cases A <;> simp [storeCells]
    · obtain ⟨g, o, cur, rfl, hb, hh, hf, htk⟩ := hown.row h0
      rw [Nat.mul_one] at hf htk
      have hr := zeros_room (P := P) w t tn ty e i z k kn ht htn hi hz hsize hzs h1 g o n c cur hh m (by rw [hby]; omega) (by omega) hroom (by omega)
      refine ⟨_, _, _, hr, ⟨hlen, hroom, hown.capm, fun _ => ⟨g, o, _, rfl, hb, setRow_heap w g cur _ e _ hh, ?_, ?_⟩⟩, ⟨rfl, rfl, rfl, by simp, fun j _ hk => setRow_other w g j _ (fun e => hk (by simp [blk, e]; omega))⟩, .inl rfl⟩
      · simp only [List.size_toArray, List.length_append, List.length_take, List.length_drop, Array.length_toList, List.length_replicate]
        omega
      · have h2 : (cur.toList.take (o + n)) = cur.toList.take o ++ xs := by
          rw [List.take_add, htk]
        rw [h2, List.append_assoc, List.append_assoc, List.drop_left' (by simp; omega), ← List.append_assoc, ← hlen]
        exact List.take_left
  · have hge := grownCap_ge w (n + m) c e
    have hcm : grownCap w (n + m) c e ≤ maxLen := grownCap_le_maxLen w (n + m) c e (by unfold maxLen; omega)
    have hr := zeros_grow (P := P) w t tn ty e i z k kn ht htn hi hz hsize hzs A n c xs hown.sl m (by rw [hby]; omega) (by omega) (by omega) (growslice_fits (by omega) (by rw [hby]; omega))
    refine ⟨_, _, _, hr, ?_, ⟨rfl, rfl, rfl, by simp, fun j hk _ => Below.heap_alloc w.drew _ j hk⟩, .inr (by simp [blk]; omega)⟩
    refine Own.fresh w.drew B e 1 _ _ _ _ hB hge hcm ?_ hlen ?_
    · simp only [Array.size_append, List.size_toArray, size_zeroCells, hzs, List.length_replicate]
      simp only [List.length_cons, List.length_nil]
      omega
    · simp only [Array.toList_append, List.append_assoc]
      rw [← List.append_assoc, ← hlen]
      exact List.take_left
end
theorem oneU8 : (Value.int .u8 0).oneCell' = true := rfl
/-- append of noughts to bytes of the call's own -/
theorem wpList_zerosB (w : World) {ops : Array Oper} {rest : List Oper} {o : Oper} {a : Act} {Q : Exit → Act → World → Prop} (hgd : o.guard = none) (s x : Operand)
    (ho : o.op = .call { callee := .builtin .append, args := #[s, x], argTypes := #[23, 3] })
    (B : Nat) (A : Option Addr) (n c : Nat) (l : List UInt8) (hsv : a.eval s = .slice A n c) (hown : OwnB w B A n c l)
    (m : Nat) (I : Int) (hI : I = m) (hx : a.eval x = .int .i64 I) (hbytes : n + m ≤ 140737488355328) (hB : B ≤ w.heap.size)
    (h : ∀ A' c' w', OwnB w' B A' (n + m) c' (l ++ List.replicate m 0) → w.grownBy w' (blk A c) → (blk A' c' = blk A c ∨ blk A' c' = some w.heap.size) → wpList Try.prog ops Q rest (a.put o.dst (.slice A' (n + m) c')) w') : wpList Try.prog ops Q (o :: rest) a w := by
  obtain ⟨i, hi, hz, hs1, hb1⟩ := info_parts infoB
  subst hI
  refine wpList_plain hgd fun _ hK => ?_
  obtain ⟨A', c', w', hrun, h2, h3, h4⟩ := run_zeros_own (P := Try.prog) w B 23 3 o.type 5 i (.int .u8 0) .i64 _ Try.underlying23 Try.underlying3 hi hz hs1 hb1 rfl oneU8 A n c (bc l) hown m hbytes hB
  unfold Oper.wp execOp
  simp only [ho, resolve, invoke, builtin, Sem.run_bind, Sem.run_pure, Result.andThen_ok, List.map_toArray, List.map_cons, List.map_nil, hsv, hx, hrun]
  refine hK _ _ (h A' c' w' ?_ h3 h4)
  have e : bc (List.replicate m 0) = List.replicate m (.int .u8 0) := by simp [bc]
  unfold OwnB
  rw [bc_append, e]
  exact h2
/-- append of bytes to bytes of the call's own, as one step of a region that draws its order -/
theorem step_appB {ops : Array Oper} {o : Oper} {a : Act} {w : World} {K : Act → World → Prop} {Q : Exit → Act → World → Prop} {E : Prop} (hgd : o.guard = none) (s x : Operand)
    (ho : o.op = .call { callee := .builtin .append, args := #[s, x], argTypes := #[23, 23] })
    (B : Nat) (A : Option Addr) (n c : Nat) (l : List UInt8) (hsv : a.eval s = .slice A n c) (hown : OwnB w B A n c l)
    (A2 : Option Addr) (m c2 : Nat) (l2 : List UInt8) (hx : a.eval x = .slice A2 m c2) (hs : Sl w 1 A2 m c2 (bc l2))
    (hbytes : n + m ≤ 140737488355328) (hB : B ≤ w.heap.size)
    (h : ∀ A' c' w', OwnB w' B A' (n + m) c' (l ++ l2) → w.grownBy w' (blk A c) → (blk A' c' = blk A c ∨ blk A' c' = some w.heap.size) → K (a.put o.dst (.slice A' (n + m) c')) w') :
    if Region.wanted o (yielded ops a.tmps) = true then Oper.wp Try.prog o a w K Q else E := by
  have hw : Region.wanted o (yielded ops a.tmps) = true := by simp [Region.wanted, hgd]
  rw [if_pos hw]
  obtain ⟨i, hi, hz, hs1, hb1⟩ := info_parts infoB
  obtain ⟨A', c', w', hrun, h2, h3, h4⟩ := run_append_own2 (P := Try.prog) w B 23 o.type _ i _ 1 1 Try.underlying23 hi hz hs1 hb1 rfl A n c (bc l) hown A2 m c2 (bc l2) hs (bc_one _) (by unfold maxLen; omega) (by omega) hB
  unfold Oper.wp execOp
  simp only [ho, resolve, invoke, builtin, Sem.run_bind, Sem.run_pure, Result.andThen_ok, List.map_toArray, List.map_cons, List.map_nil, hsv, hx, hrun]
  exact h A' c' w' (by unfold OwnB; rw [bc_append]; exact h2) h3 h4
end Go.Proofs.Ytfonincdhjkacaa
