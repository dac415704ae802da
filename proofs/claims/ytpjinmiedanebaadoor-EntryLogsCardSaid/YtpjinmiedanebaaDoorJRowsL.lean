/-
  Zeros, Join, OpenR, RowsL in one text. No condition but sizes.
-/
import Derived.Test.YtpjinmiedanebaaDoorJOpen
import Derived.Lib.MakeNoZero
import Derived.Test.YtpjinmiedanebaaDoorJRecs
namespace Go.Proofs.YtpjinmiedanebaaDoor
set_option maxRecDepth 20000
open Go.RowKit

theorem zeros_list (z : Value) (m : Nat) : Builtin.zeroCells #[z] m = (List.replicate m z).toArray := by
  apply Array.ext'
  rw [List.toList_toArray, List.eq_replicate_iff]
  simp [Builtin.zeroCells, Nat.mod_one]
section
variable {P : Program} (w : World)
theorem zeros_room (t tn ty e : TypeId) (i : TypeInfo) (z : Value) (k kn : IntKind) (ht : P.underlying t = some (.slice e)) (htn : P.underlying tn = some (.int kn)) (hi : P.info? e = some i) (hz : i.zero = some z) (hsize : i.size = 1) (hzs : z.cells = #[z]) (h1 : z.oneCell' = true)
    (g o sLen sCap : Nat) (cur : Array Value) (hg : w.heap[g]? = some (.cells cur e (0, 0))) (m : Nat) (hm : (m : Int) * i.bytes ≤ 281474976710656) (hm2 : m ≤ 9223372036854775807)
    (hroom : sLen + m ≤ sCap) (hfit : o + sCap ≤ cur.size) :
    (Builtin.append_ #[t, tn] ty #[.slice (some ⟨g, o, none⟩) sLen sCap, .int k (m : Int)]).run P w =
      .ok (.slice (some ⟨g, o, none⟩) (sLen + m) sCap) (w.setRow g (cur.toList.take (o + sLen) ++ List.replicate m z ++ cur.toList.drop (o + sLen + m)).toArray) := by
  have hle : o + sLen + (List.replicate m z).length ≤ cur.size := by simp; omega
  have hst := run_storeCells_at P g (o + sLen) e (List.replicate m z) 0 cur w hg (by simpa using hle) (fun u hu => by rw [List.eq_of_mem_replicate hu]; exact h1)
  simp only [Nat.add_zero, List.length_replicate] at hst
  have hw : IntKind.i64.wrap (m : Int) = m := by rw [IntKind.wrap_i64]; omega
  have hneg : ¬ ((m : Int) < 0) := by omega
  have h48i : ¬ (281474976710656 < (m : Int) * (i.bytes : Int)) := by omega
  have hzc : (Builtin.zeroCells #[z] m).toList = List.replicate m z := by rw [zeros_list]
  rcases Nat.eq_zero_or_pos m with h0 | h0
  · subst h0
    have hcap : sLen ≤ sCap := by omega
    simp only [List.replicate_zero, storeCells, Sem.run_pure, Result.ok.injEq, true_and] at hst
    have hw0 : IntKind.i64.wrap 0 = 0 := by decide
    simp [Builtin.append_, run_underlying ht, run_underlying htn, sizeOf, typeInfo, hi, asInt, asIntOf, hw0, hcap, Addr.add_lit, storeCells]
    simpa using hst
  · have hm0 : ¬ m = 0 := by omega
    simp [Builtin.append_, run_underlying ht, run_underlying htn, sizeOf, typeInfo, zeroValue, hi, hz, hsize, asInt, asIntOf, hw, hneg, h48i, hroom, hm0, Addr.add_lit, hzs, hzc, hst]
theorem zeros_grow (t tn ty e : TypeId) (i : TypeInfo) (z : Value) (k kn : IntKind) (ht : P.underlying t = some (.slice e)) (htn : P.underlying tn = some (.int kn)) (hi : P.info? e = some i) (hz : i.zero = some z) (hsize : i.size = 1) (hzs : z.cells = #[z])
    (A : Option Addr) (sLen sCap : Nat) (olds : List Value) (ho : Sl w 1 A sLen sCap olds) (m : Nat) (hm : (m : Int) * i.bytes ≤ 281474976710656)
    (hg : sCap < sLen + m) (h63 : ((sLen + m : Nat) : Int) ≤ 9223372036854775807) (hfit : Builtin.nextslicecap (sLen + m) sCap * i.bytes ≤ 281474976710656) :
    (Builtin.append_ #[t, tn] ty #[.slice A sLen sCap, .int k (m : Int)]).run P w =
      .ok (.slice (some ⟨w.heap.size, 0, none⟩) (sLen + m) (grownCap w (sLen + m) sCap e))
        (w.drew.alloc (.cells (olds.toArray ++ (List.replicate m z).toArray ++ Builtin.zeroCells z.cells (grownCap w (sLen + m) sCap e - (sLen + m))) e)) := by
  have hcap := ho.cap
  have hn : ¬ (sLen + m ≤ sCap) := by omega
  have h63' : ¬ (9223372036854775807 < ((sLen : Int) + (m : Int))) := by omega
  have h48' : ¬ (281474976710656 < Builtin.nextslicecap (sLen + m) sCap * i.bytes) := by omega
  have hw : IntKind.i64.wrap (m : Int) = m := by rw [IntKind.wrap_i64]; omega
  have hneg : ¬ ((m : Int) < 0) := by omega
  have h48i : ¬ (281474976710656 < (m : Int) * (i.bytes : Int)) := by omega
  have hm0 : ¬ m = 0 := by omega
  have hzc := zeros_list z m
  have hfo := run_first (P := P) w.drew 1 sLen sCap A olds (ho.keep fun _ _ _ => rfl)
  simp [Builtin.append_, run_underlying ht, run_underlying htn, sizeOf, typeInfo, zeroValue, hi, hz, hsize, asInt, asIntOf, hw, hneg, h48i, hm0, hn, h63', h48', Question.forced, hfo, newRow, grownCap, hzs, hzc]
/-- append of noughts onto what the call owns -/
theorem run_zeros_own (B : Nat) (t tn ty e : TypeId) (i : TypeInfo) (z : Value) (k kn : IntKind) (ht : P.underlying t = some (.slice e)) (htn : P.underlying tn = some (.int kn)) (hi : P.info? e = some i) (hz : i.zero = some z) (hsize : i.size = 1) (hby : i.bytes = 1) (hzs : z.cells = #[z]) (h1 : z.oneCell' = true)
    (A : Option Addr) (n c : Nat) (xs : List Value) (hown : Own w B e 1 A n c xs) (m : Nat) (hbytes : n + m ≤ 140737488355328) (hB : B ≤ w.heap.size) :
    ∃ A' c' w', (Builtin.append_ #[t, tn] ty #[.slice A n c, .int k (m : Int)]).run P w = .ok (.slice A' (n + m) c') w' ∧ Own w' B e 1 A' (n + m) c' (xs ++ List.replicate m z) ∧ w.grownBy w' (blk A c) ∧
      (blk A' c' = blk A c ∨ blk A' c' = some w.heap.size) := by
  have hxl : xs.length = n := by have := hown.len; omega
  have hlen : (xs ++ List.replicate m z).length = (n + m) * 1 := by simp; omega
  by_cases hroom : n + m ≤ c
  · rcases Nat.eq_zero_or_pos c with h0 | h0
    · subst h0
      obtain rfl : n = 0 := by omega
      obtain rfl : m = 0 := by omega
      obtain rfl : xs = [] := List.eq_nil_of_length_eq_zero hxl
      refine ⟨A, 0, w, ?_, by simpa using Own.nil w B e 1 A, World.grownBy.refl w _, .inl rfl⟩
      have hw0 : IntKind.i64.wrap 0 = 0 := by decide
      simp [Builtin.append_, run_underlying ht, run_underlying htn, sizeOf, typeInfo, hi, asInt, asIntOf, hw0]
      cases A <;> simp [storeCells]
    · obtain ⟨g, o, cur, rfl, hb, hh, hf, htk⟩ := hown.row h0
      rw [Nat.mul_one] at hf htk
      have hr := zeros_room (P := P) w t tn ty e i z k kn ht htn hi hz hsize hzs h1 g o n c cur hh m (by rw [hby]; omega) (by omega) hroom (by omega)
      refine ⟨_, _, _, hr, ⟨hlen, hroom, hown.capm, fun _ => ⟨g, o, _, rfl, hb, setRow_heap w g cur _ e _ hh, ?_, ?_⟩⟩, ⟨rfl, rfl, rfl, by simp, fun j _ hk => setRow_other w g j _ (fun e => hk (by simp [blk, e]; omega))⟩, .inl rfl⟩
      · simp only [List.size_toArray, List.length_append, List.length_take, List.length_drop, Array.length_toList, List.length_replicate]
        omega
      · have h2 : (cur.toList.take (o + n)) = cur.toList.take o ++ xs := by
          rw [List.take_add, htk]
        rw [h2, List.append_assoc, List.append_assoc, List.drop_left' (by simp; omega), ← List.append_assoc, ← hlen]
        exact List.take_left
  · have hge := grownCap_ge w (n + m) c e
    have hcm : grownCap w (n + m) c e ≤ maxLen := grownCap_le_maxLen w (n + m) c e (by unfold maxLen; omega)
    have hr := zeros_grow (P := P) w t tn ty e i z k kn ht htn hi hz hsize hzs A n c xs hown.sl m (by rw [hby]; omega) (by omega) (by omega) (growslice_fits (by omega) (by rw [hby]; omega))
    refine ⟨_, _, _, hr, ?_, ⟨rfl, rfl, rfl, by simp, fun j hk _ => Below.heap_alloc w.drew _ j hk⟩, .inr (by simp [blk]; omega)⟩
    refine Own.fresh w.drew B e 1 _ _ _ _ hB hge hcm ?_ hlen ?_
    · simp only [Array.size_append, List.size_toArray, size_zeroCells, hzs, List.length_replicate]
      simp only [List.length_cons, List.length_nil]
      omega
    · simp only [Array.toList_append, List.append_assoc]
      rw [← List.append_assoc, ← hlen]
      exact List.take_left
end
theorem oneU8 : (Value.int .u8 0).oneCell' = true := rfl
/-- append of noughts to bytes of the call's own -/
theorem wpList_zerosB (w : World) {ops : Array Oper} {rest : List Oper} {o : Oper} {a : Act} {Q : Exit → Act → World → Prop} (hgd : o.guard = none) (s x : Operand)
    (ho : o.op = .call { callee := .builtin .append, args := #[s, x], argTypes := #[22, 3] })
    (B : Nat) (A : Option Addr) (n c : Nat) (l : List UInt8) (hsv : a.eval s = .slice A n c) (hown : OwnB w B A n c l)
    (m : Nat) (I : Int) (hI : I = m) (hx : a.eval x = .int .i64 I) (hbytes : n + m ≤ 140737488355328) (hB : B ≤ w.heap.size)
    (h : ∀ A' c' w', OwnB w' B A' (n + m) c' (l ++ List.replicate m 0) → w.grownBy w' (blk A c) → (blk A' c' = blk A c ∨ blk A' c' = some w.heap.size) → wpList Tryd.prog ops Q rest (a.put o.dst (.slice A' (n + m) c')) w') : wpList Tryd.prog ops Q (o :: rest) a w := by
  obtain ⟨i, hi, hz, hs1, hb1⟩ := info_parts infoB
  subst hI
  refine wpList_plain hgd fun _ hK => ?_
  obtain ⟨A', c', w', hrun, h2, h3, h4⟩ := run_zeros_own (P := Tryd.prog) w B 22 3 o.type 5 i (.int .u8 0) .i64 _ Tryd.underlying22 Tryd.underlying3 hi hz hs1 hb1 rfl oneU8 A n c (bc l) hown m hbytes hB
  unfold Oper.wp execOp
  simp only [ho, resolve, invoke, builtin, Sem.run_bind, Sem.run_pure, Result.andThen_ok, List.map_toArray, List.map_cons, List.map_nil, hsv, hx, hrun]
  refine hK _ _ (h A' c' w' ?_ h3 h4)
  have e : bc (List.replicate m 0) = List.replicate m (.int .u8 0) := by simp [bc]
  unfold OwnB
  rw [bc_append, e]
  exact h2
/-- append of bytes to bytes of the call's own, as one step of a region that draws its order -/
theorem step_appB {ops : Array Oper} {o : Oper} {a : Act} {w : World} {K : Act → World → Prop} {Q : Exit → Act → World → Prop} {E : Prop} (hgd : o.guard = none) (s x : Operand)
    (ho : o.op = .call { callee := .builtin .append, args := #[s, x], argTypes := #[22, 22] })
    (B : Nat) (A : Option Addr) (n c : Nat) (l : List UInt8) (hsv : a.eval s = .slice A n c) (hown : OwnB w B A n c l)
    (A2 : Option Addr) (m c2 : Nat) (l2 : List UInt8) (hx : a.eval x = .slice A2 m c2) (hs : Sl w 1 A2 m c2 (bc l2))
    (hbytes : n + m ≤ 140737488355328) (hB : B ≤ w.heap.size)
    (h : ∀ A' c' w', OwnB w' B A' (n + m) c' (l ++ l2) → w.grownBy w' (blk A c) → (blk A' c' = blk A c ∨ blk A' c' = some w.heap.size) → K (a.put o.dst (.slice A' (n + m) c')) w') :
    if Region.wanted o (yielded ops a.tmps) = true then Oper.wp Tryd.prog o a w K Q else E := by
  have hw : Region.wanted o (yielded ops a.tmps) = true := by simp [Region.wanted, hgd]
  rw [if_pos hw]
  obtain ⟨i, hi, hz, hs1, hb1⟩ := info_parts infoB
  obtain ⟨A', c', w', hrun, h2, h3, h4⟩ := run_append_own2 (P := Tryd.prog) w B 22 o.type _ i _ 1 1 Tryd.underlying22 hi hz hs1 hb1 rfl A n c (bc l) hown A2 m c2 (bc l2) hs (bc_one _) (by unfold maxLen; omega) (by omega) hB
  unfold Oper.wp execOp
  simp only [ho, resolve, invoke, builtin, Sem.run_bind, Sem.run_pure, Result.andThen_ok, List.map_toArray, List.map_cons, List.map_nil, hsv, hx, hrun]
  exact h A' c' w' (by unfold OwnB; rw [bc_append]; exact h2) h3 h4
end Go.Proofs.YtpjinmiedanebaaDoor

namespace Go.Proofs.YtpjinmiedanebaaDoor
set_option maxRecDepth 20000
open Go.RowKit

theorem flat_take_succ (ls : List (List UInt8)) (i : Nat) (h : i < ls.length) : (ls.take (i + 1)).flatten = (ls.take i).flatten ++ ls[i] := by
  rw [List.take_succ_eq_append_getElem h, List.flatten_append, List.flatten_cons, List.flatten_nil, List.append_nil]
theorem flat_take_le (ls : List (List UInt8)) (i : Nat) : (ls.take i).flatten.length ≤ ls.flatten.length := by
  have h : ls.flatten = (ls.take i).flatten ++ (ls.drop i).flatten := by rw [← List.flatten_append, List.take_append_drop]
  rw [h]
  simp
set_option maxRecDepth 100000 in
set_option maxHeartbeats 4000000 in
theorem join_any (w : World) (A : Option Addr) (n c : Nat) (vs : List Value) (ls : List (List UInt8)) (h : Sl w 1 A n c vs) (hp : PartsOf w vs ls) (hn : n ≤ 1000000) (hF : ls.flatten.length ≤ 1099511627776) :
    Calls Tryd.prog 55 #[.slice A n c, .slice none 0 0] w (NewB w ls.flatten) := by
  have Hl : Hid (ls.length = n) := by have h1 := h.len; have h2 := hp.1; unfold Hid; omega
  have hcap := h.cap
  have hcm := h.capm
  unfold maxLen at hcm
  by_cases h0 : n = 0
  · subst h0
    obtain rfl : ls = [] := List.eq_nil_of_length_eq_zero Hl.out
    go_enter Tryd.func55, Tryd.ntmps55
    go_wp2
    go_ret
    exact ⟨_, 0, 0, rfl, Own.nil _ _ _ _ _, (Below.refl w.heap.size w).alloc (Nat.le_refl _) _⟩
  by_cases h1 : n = 1
  · subst h1
    obtain ⟨b, o, A', n', c', hkl, rfl, hcell, hsl⟩ := hp.get h (k := 0) (by omega)
    have e : ls.flatten = ls[0] := by
      have h2 := flat_take_succ ls 0 hkl
      rw [List.take_of_length_le (by have := Hl.out; omega)] at h2
      simpa using h2
    rw [e] at hF ⊢
    have hl0 := hsl.lenb
    have hn' : n' ≤ 1099511627776 := by omega
    clear e hF hl0
    generalize ls[0] = l at *
    rw [Nat.add_zero] at hcell
    go_enter Tryd.func55, Tryd.ntmps55
    go_wp2_with (at_builtin; refine wpList_appB _ rfl (.const (.slice none 0 0)) (.tmp 21) rfl w.heap.size _ 0 0 [] rfl (Own.nil _ _ _ _ _) A' n' c' l rfl hsl ?_ ?_ ?_)
    · omega
    · exact Nat.le_refl _
    · intro A3 c3 w3 ho3 hg3 _
      go_wp2
      go_ret
      exact ⟨A3, _, c3, rfl, by simpa using ho3, (Below.refl w.heap.size w).grown hg3 (Nat.le_refl _) (by simp [blk])⟩
  have f0 : ((n : Int) == 0) = false := by simp; omega
  have f1 : ((n : Int) == 1) = false := by simp; omega
  have hmix : Tryd.prog.follows .mixedOrders = true := by kernel_rfl
  obtain ⟨T, hT⟩ : ∃ T, ls.flatten.length = T := ⟨_, rfl⟩
  rw [hT] at hF
  have HT := Lib.hid hT
  clear hT
  go_enter Tryd.func55, Tryd.ntmps55
  go_wp2
  go_loop [5, 44] (fun s i => ∃ j : Nat, j ≤ n ∧ i = .int .i64 j ∧ s = .int .i64 ((ls.take j).flatten.length : Nat)) (fun _ i => n - (intOf i).toNat)
  case atStart => exact ⟨0, Nat.zero_le _, rfl, rfl⟩
  case round =>
    obtain ⟨j, hj, rfl, rfl⟩ := hrel
    by_cases hlt : j < n
    · obtain ⟨b, o, A', n', c', hkl, rfl, hcell, hsl⟩ := hp.get h hlt
      have hs1 := flat_take_succ ls j hkl
      have hs2 := flat_take_le ls (j + 1)
      have hs3 := congrArg List.length hs1
      rw [List.length_append, hsl.lenb] at hs3
      rw [HT.out, hs3] at hs2
      generalize (ls.take j).flatten.length = acc at *
      have Hs3 := Lib.hid hs3
      have hb : ¬ (9223372036854775807 - (acc : Int) < (n' : Int)) := by omega
      clear hs1 hs3
      go_wp2
      go_round
      case rel => exact ⟨j + 1, by omega, by go_num, by rw [Hs3.out]; go_num⟩
      case measure => simp [intOf]; omega
    · obtain rfl : n = j := by omega
      rw [List.take_of_length_le (show ls.length ≤ n by have := Hl.out; omega), HT.out]
      obtain ⟨cs, hrunM, hle, hcm2⟩ := Lib.run_makeNoZero (P := Tryd.prog) w #[3] 22 5 Tryd.underlying22 T (by omega)
      have hcall : (callFunc 72 #[.int .i64 (T : Int)]).run Tryd.prog w = .ok (.value (.slice (some ⟨w.heap.size, 0, none⟩) T cs.size)) (w.drew.drew.alloc (.cells cs 5)) := by
        rw [run_callFunc_extern Tryd.func72 (by kernel_rfl) (by kernel_rfl) (by kernel_rfl) (e := Extern.BytealgMakeNoZero.makeNoZero #[3] #[22]) (by kernel_rfl), hrunM]
        rfl
      clear hrunM
      have i0 : (0 : Int) ≤ (T : Int) := by omega
      have i1 : (T : Int) ≤ (cs.size : Int) := by omega
      obtain ⟨wM, hwM⟩ : ∃ wM, w.drew.drew.alloc (.cells cs 5) = wM := ⟨_, rfl⟩
      have hbM : Below w.heap.size w wM := by rw [← hwM]; exact (((Below.refl w.heap.size w).drew).drew).alloc (Nat.le_refl _) _
      have hoM : Own wM w.heap.size 5 1 (some ⟨w.heap.size, 0, none⟩) T T (cs.toList.take T) := by
        rw [← hwM]
        exact ⟨by simp; omega, Nat.le_refl _, by unfold maxLen; omega, fun _ => ⟨w.heap.size, 0, cs, rfl, Nat.le_refl _, heap_alloc_new w.drew.drew _, by omega, by simp⟩⟩
      rw [hwM] at hcall
      obtain ⟨b, o, A', n', c', hkl, rfl, hcell, hsl⟩ := (hp.below hbM).get (h.below (by omega) hbM) (k := 0) (by omega)
      rw [Nat.add_zero] at hcell
      have hs1 := flat_take_succ ls 0 hkl
      have hs2 := flat_take_le ls (0 + 1)
      rw [List.take_zero, List.flatten_nil, List.nil_append] at hs1
      rw [hs1, hsl.lenb, HT.out] at hs2
      have Hs1 := Lib.hid hs1
      have HoM := Lib.hid hoM
      clear hs1 hwM hoM hcm2
      obtain ⟨A7, hr7, hs7⟩ := cutLP h .i64 (1 : Int) 1 rfl (by omega)
      have hp7 := hp.drop 1
      go_wp2_with fail
      obtain ⟨w1, hrun1, ho1, hg1⟩ := run_cpyHead wM w.heap.size (some ⟨w.heap.size, 0, none⟩) T T _ HoM.out A' n' c' _ hsl (by omega)
      rw [hrun1]
      have hb1 : Below w.heap.size w w1 := hbM.grown hg1 hbM.size (fun b hb => (Own.lt HoM.out b hb).1)
      have Ho1 := Lib.hid ho1
      have Hn' : Hid (ls[0].length = n') := hsl.lenb
      clear ho1 hg1 hcall hcell hbM hsl hrun1
      go_wp2
      go_loopw [9, 72] (fun s i wr => ∃ j : Nat, j ≤ n - 1 ∧ i = .int .i64 j ∧ s = .int .i64 ((ls.take (j + 1)).flatten.length : Nat) ∧ Below w.heap.size w wr ∧ ∃ junk, Own wr w.heap.size 5 1 (some ⟨w.heap.size, 0, none⟩) T T (bc (ls.take (j + 1)).flatten ++ junk)) (fun _ i _ => n - 1 - (intOf i).toNat)
      case atStart => exact ⟨0, Nat.zero_le _, rfl, by rw [Hs1.out, Hn'.out], hb1, _, by rw [Hs1.out]; exact Ho1.out⟩
      case round =>
        clear hb1
        obtain ⟨j, hj, rfl, rfl, hbr, junk, hor⟩ := hrel
        by_cases hlt : j < n - 1
        · obtain ⟨b2, o2, A2, n2, c2, hkl2, eA7, hcell2, hsl2⟩ := (hp7.below hbr).get (hs7.below (by omega) hbr) hlt
          subst eA7
          have hj1 : j + 1 < ls.length := by have := Hl.out; omega
          have hs3 := flat_take_succ ls (j + 1) hj1
          have hs4 := flat_take_le ls (j + 1 + 1)
          have e5 : (ls.drop 1)[j] = ls[j + 1] := by simp
          rw [e5] at hsl2
          rw [hs3, List.length_append, hsl2.lenb, HT.out] at hs4
          have hs5 := congrArg List.length hs3
          rw [List.length_append, hsl2.lenb] at hs5
          obtain ⟨D, hD⟩ : ∃ D, (ls.take (j + 1)).flatten = D := ⟨_, rfl⟩
          rw [hD] at hor hs3 hs4 hs5
          rw [hD]
          obtain ⟨d, hd⟩ : ∃ d, D.length = d := ⟨_, rfl⟩
          rw [hd] at hs4 hs5
          rw [hd]
          have Hd := Lib.hid hd
          have Hs3 := Lib.hid hs3
          have Hs5 := Lib.hid hs5
          have Hor := Lib.hid hor
          have hlt' : (j : Int) < (n : Int) - 1 := by omega
          have hlt2 : (j : Int) < ((n - 1 : Nat) : Int) := by omega
          have ht := fun w' => run_tailB w' (some ⟨w.heap.size, 0, none⟩) T T .i64 (d : Int) d rfl (by omega)
          clear hD hd hs3 hs5 hor e5
          have hcell2 := hcell2
          go_wp2_with fail
          obtain ⟨w2, hrun2, ho2, hg2⟩ := run_cpySub wr w.heap.size (some ⟨w.heap.size, 0, none⟩) T T _ Hor.out d (by omega) none 0 0 [] (Sl.nil _ _ _ _ (Nat.zero_le _)) (by omega)
          rw [hrun2]
          rw [bc_nil, List.append_nil, Nat.add_zero, List.take_append_drop] at ho2
          have hb2 : Below w.heap.size w w2 := hbr.grown hg2 hbr.size (fun b hb => (Own.lt Hor.out b hb).1)
          have Ho2 := Lib.hid ho2
          have hsl3 : Sl w2 1 A2 n2 c2 (bc ls[j + 1]) := hsl2.keep fun hn2 b hb => (hg2.block b (hsl2.lt (by omega) hn2 b hb) (fun e => by
            have h1 := (Own.lt Hor.out b e.symm).1
            obtain ⟨A9, n9, c9, hv9, hs9⟩ := hp7.2 j _ _ (List.getElem?_eq_getElem (by have h5 := hp7.1; omega)) (List.getElem?_eq_getElem hkl2)
            have h5 := hs7.below (w' := wr) (by omega) hbr
            obtain ⟨b5, o5, u5, e5, hu5, hc5⟩ := h5.cell hlt
            obtain ⟨rfl, rfl⟩ : b2 = b5 ∧ o2 = o5 := by simpa using e5
            rw [hcell2] at hc5
            rw [List.getElem?_eq_getElem (by have h6 := hp7.1; omega)] at hu5
            have h7 := (Option.some.inj hu5).trans (Option.some.inj hc5).symm
            rw [h7] at hv9
            injection hv9 with q1 q2 q3
            subst q1
            subst q2
            have h8 := hs9.lt (by omega) hn2 b hb
            omega))
          clear hrun2 ho2 hg2
          go_wp2_with fail
          obtain ⟨w3, hrun3, ho3, hg3⟩ := run_cpySub w2 w.heap.size (some ⟨w.heap.size, 0, none⟩) T T _ Ho2.out d (by omega) A2 n2 c2 _ hsl3 (by omega)
          rw [hrun3]
          have hb3 : Below w.heap.size w w3 := hb2.grown hg3 hb2.size (fun b hb => (Own.lt Ho2.out b hb).1)
          rw [List.take_left' (by rw [length_bc]; exact Hd.out)] at ho3
          rw [← bc_append] at ho3
          have Ho3 := Lib.hid ho3
          clear hrun3 ho3 hg3
          go_wp2
          go_roundw
          case rel => exact ⟨j + 1, by omega, by go_num, by rw [Hs5.out]; go_num, hb3, _, by rw [Hs3.out]; exact Ho3.out⟩
          case measure => simp [intOf]; omega
        · have hjn : j + 1 = n := by omega
          have hlt3 : ¬ ((j : Int) < (n : Int) - 1) := by omega
          have hlt4 : ¬ ((j : Int) < ((n - 1 : Nat) : Int)) := by omega
          have hall : ls.take (j + 1) = ls := List.take_of_length_le (by have := Hl.out; omega)
          rw [hall] at hor
          have hlen := hor.len
          rw [List.length_append, length_bc, HT.out] at hlen
          obtain rfl : junk = [] := List.eq_nil_of_length_eq_zero (by omega)
          rw [List.append_nil] at hor
          have Hor := Lib.hid hor
          clear hall hlen hor hjn
          go_wp2
          go_ret
          exact ⟨_, T, T, rfl, Hor.out, hbr⟩
end Go.Proofs.YtpjinmiedanebaaDoor

namespace Go.Proofs.YtpjinmiedanebaaDoor
set_option maxRecDepth 20000
open Go.ChangeShapes Go.WideShapes Go.ChangeAt Go.RowKit Go.Deep

/-- whatever reads as a datum of type t is cells of an α -/
def Opens (P : Program) (t : TypeId) (α : Type) [Rep α] : Prop :=
  ∀ (H : Type) (enc : TypeId × Value → H) (w : World) (base : Nat) (held : Bool) (fuel : Nat) (cs : List Value) (x : DataW H × List MemPlace),
    DataW.trod enc P w base (fun _ => true) held fuel t cs = some x → ∃ a : α, Rep.cells w (fun _ => True) cs a
section
variable {P : Program}
theorem row_of {α : Type} [Rep α] {w : World} : ∀ (n : Nat) (f : Nat → List Value), (∀ i, i < n → ∃ a : α, Rep.cells w (fun _ => True) (f i) a) → ∃ ls : List α, ls.length = n ∧ RowC w (fun _ => True) ((List.range n).flatMap f) ls
  | 0, _, _ => ⟨[], rfl, by simp [RowC]⟩
  | n + 1, f, h => by
    obtain ⟨ls, hl, hr⟩ := row_of n f fun i hi => h i (by omega)
    obtain ⟨a, ha⟩ := h n (by omega)
    refine ⟨ls ++ [a], by simp [hl], ?_⟩
    rw [List.range_succ, List.flatMap_append]
    exact hr.append (by simpa using RowC.single ha)
theorem flat_get {f : Nat → List Value} {s : Nat} : ∀ (n : Nat), (∀ i, i < n → (f i).length = s) → ∀ j, j < n * s → ((List.range n).flatMap f)[j]? = (f (j / s))[j % s]?
  | 0, _, j, hj => by omega
  | n + 1, h, j, hj => by
    have hl : ((List.range n).flatMap f).length = n * s := by
      rw [List.length_flatMap]
      have : (List.range n).map (fun i => (f i).length) = List.replicate n s := by
        rw [List.eq_replicate_iff]
        refine ⟨by simp, fun b hb => ?_⟩
        obtain ⟨i, hi, rfl⟩ := List.mem_map.1 hb
        exact h i (by have := List.mem_range.1 hi; omega)
      rw [this]
      simp
    rw [List.range_succ, List.flatMap_append]
    rcases Nat.lt_or_ge j (n * s) with h1 | h1
    · rw [List.getElem?_append_left (by omega)]
      exact flat_get n (fun i hi => h i (by omega)) j h1
    · rw [List.getElem?_append_right (by omega), hl]
      have hs : 0 < s := by
        rcases Nat.eq_zero_or_pos s with h0 | h0
        · subst h0; omega
        · exact h0
      rw [Nat.add_mul, Nat.one_mul] at hj
      have e1 : j / s = n := by
        rw [Nat.div_eq_iff hs]
        constructor
        · omega
        · omega
      have e2 : j % s = j - n * s := by
        have := Nat.div_add_mod j s
        rw [e1, Nat.mul_comm] at this
        omega
      rw [e1, e2]
      simp
/-- cells of a slice -/
theorem open_rowC {α : Type} [Rep α] {t e : TypeId} (ht : P.underlying t = some (.slice e)) (hc : P.cellsOf e = Rep.size α) (ho : Opens P e α)
    {H : Type} {enc : TypeId × Value → H} {w : World} {base : Nat} {held : Bool} {fuel : Nat} {cs : List Value} {x : DataW H × List MemPlace} (h : DataW.trod enc P w base (fun _ => true) held fuel t cs = some x) :
    ∃ (A : Option Addr) (n c : Nat) (ls : List α), cs = [.slice A n c] ∧ SlR w (fun _ => True) A n c ls := by
  rcases open_slice ht h with ⟨hcs, hx⟩ | ⟨a, len, cap, m, k, D, Pl, hcs, _, hl, hm, hmm, hx, hcell⟩
  · exact ⟨none, 0, 0, [], hcs, SlR.nilnil _ _⟩
  · simp only [↓reduceIte] at hmm
    subst hmm
    obtain ⟨f, hf⟩ := choose_lt (α := List Value) (p := fun i cs' => w.cells? base (a.add (i * P.cellsOf e)) (P.cellsOf e) = some cs' ∧ DataW.trod enc P w base (fun _ => true) held k e cs' = some (D i, Pl i)) hcell
    have hR : ∀ i, i < len → ∃ b : α, Rep.cells w (fun _ => True) (f i) b := fun i hi => ho H enc w base held k (f i) _ (hf i (by omega)).2
    obtain ⟨ls, hls, hrow⟩ := row_of (α := α) len f hR
    refine ⟨_, _, _, ls, hcs, _, ⟨by rw [hrow.len, hls], hl, hm, fun h0 => ?_⟩, hrow, fun _ _ _ => trivial⟩
    have hpos : 0 < Rep.size α := Rep.pos
    have ha : a = ⟨a.block, a.off, none⟩ := by
      have h1 := (hf 0 (by omega)).1
      obtain ⟨_, h2, h3⟩ := World.cells?_some h1
      have h4 := h3 0 (by omega)
      have h5 : 0 < (f 0).length := by omega
      rw [List.getElem?_eq_getElem h5] at h4
      exact addr_plain (by simpa [Addr.add] using h4)
    refine ⟨a.block, a.off, congrArg some ha, fun j u hu => ?_⟩
    have hflen : ∀ i, i < len → (f i).length = Rep.size α := fun i hi => by
      obtain ⟨b, hb⟩ := hR i hi
      exact Rep.len hb
    have hj : j < len * Rep.size α := by
      have h1 := (List.getElem?_eq_some_iff.1 hu).1
      rw [hrow.len, hls] at h1
      exact h1
    rw [flat_get len hflen j hj] at hu
    have hi : j / Rep.size α < len := (Nat.div_lt_iff_lt_mul hpos).2 hj
    obtain ⟨_, h2, h3⟩ := World.cells?_some (hf _ (show j / Rep.size α < m by omega)).1
    have hmod : j % Rep.size α < Rep.size α := Nat.mod_lt _ hpos
    have h4 := h3 (j % Rep.size α) (by omega)
    rw [hu] at h4
    rw [ha, hc] at h4
    rw [Addr.add_lit, Addr.add_lit, Nat.add_assoc] at h4
    have e1 : j / Rep.size α * Rep.size α + j % Rep.size α = j := by
      rw [Nat.mul_comm]
      exact Nat.div_add_mod j _
    rw [e1] at h4
    exact h4
theorem opens_bytes {t e : TypeId} (ht : P.underlying t = some (.slice e)) (he : P.underlying e = some (.int .u8)) (hc : P.cellsOf e = 1) : Opens P t (List UInt8) := by
  intro H enc w base held fuel cs x h
  rcases open_ints ht he hc h with ⟨hcs, hx⟩ | ⟨a, len', cap', zs, hcs, _, hl, hm, hz, hx, hcell, hwz⟩
  · exact ⟨[], _, hcs, none, 0, 0, rfl, Sl.nil _ _ _ _ (Nat.zero_le _), fun _ _ _ => trivial⟩
  · simp only [↓reduceIte] at hz
    obtain ⟨l, hlen, hcl⟩ := byte_cells (n := len') (by omega) (fun i hi => hcell i (by omega)) hwz
    refine ⟨l, _, hcs, some a, len', cap', rfl, ⟨by simp [hlen], hl, hm, fun h0 => ?_⟩, fun _ _ _ => trivial⟩
    obtain ⟨ha, hc'⟩ := hcl h0
    exact ⟨a.block, a.off, congrArg some ha, hc'⟩
theorem one_bytes {w : World} {cs : List Value} {l : List UInt8} (h : Rep.cells w (fun _ => True) cs l) : ∃ v, cs = [v] ∧ Bk w (fun _ => True) v l := h
section
variable {H : Type} {enc : TypeId × Value → H} {w : World} {base : Nat} {held : Bool} {fuel : Nat} {cs : List Value} {x : DataW H × List MemPlace}
theorem open_u64c {t : TypeId} (ht : P.underlying t = some (.int .u64)) (h : DataW.trod enc P w base (fun _ => true) held fuel t cs = some x) : ∃ n : UInt64, cs = [u64v n] := by
  obtain ⟨z, hcs, _, hw⟩ := DataW.trod_int ht h
  have hb := bounds_u64 hw
  obtain ⟨n, rfl⟩ := Int.eq_ofNat_of_zero_le hb.1
  refine ⟨UInt64.ofNat n, ?_⟩
  rw [hcs]
  unfold u64v
  have : (UInt64.ofNat n).toNat = n := by
    rw [UInt64.toNat_ofNat']
    exact Nat.mod_eq_of_lt (by omega)
  rw [this]
theorem open_u8c {t : TypeId} (ht : P.underlying t = some (.int .u8)) (h : DataW.trod enc P w base (fun _ => true) held fuel t cs = some x) : ∃ n : UInt8, cs = [u8v n] := by
  obtain ⟨z, hcs, _, hw⟩ := DataW.trod_int ht h
  have hb := bounds_u8 hw
  obtain ⟨n, rfl⟩ := Int.eq_ofNat_of_zero_le hb.1
  refine ⟨UInt8.ofNat n, ?_⟩
  rw [hcs]
  unfold u8v
  have : (UInt8.ofNat n).toNat = n := by
    rw [UInt8.toNat_ofNat']
    exact Nat.mod_eq_of_lt (by omega)
  rw [this]
end
theorem opens_u64 {t : TypeId} (ht : P.underlying t = some (.int .u64)) : Opens P t UInt64 := by
  intro H enc w base held fuel cs x h
  exact open_u64c ht h
/-- a struct's fields: where each lies, its type -/
def laysF (fs : Array Field) : List (Nat × TypeId) := fs.toList.map fun f => (f.offset, f.type)
theorem struct_get {fs : Array Field} {l : List (Nat × TypeId)} (hl : laysF fs = l) (i : Nat) {o : Nat} {t : TypeId} (h : l[i]? = some (o, t)) : ∃ f, fs[i]? = some f ∧ f.offset = o ∧ f.type = t := by
  subst hl
  unfold laysF at h
  rw [List.getElem?_map] at h
  obtain ⟨f, hf, he⟩ := Option.map_eq_some_iff.1 h
  simp only [Prod.mk.injEq] at he
  exact ⟨f, by simpa using hf, he.1, he.2⟩
/-- field i of a struct that was read -/
theorem field_read {t : TypeId} {fs : Array Field} {l : List (Nat × TypeId)} {H : Type} {enc : TypeId × Value → H} {w : World} {base : Nat} {held : Bool} {fuel : Nat} {cs : List Value} {x : DataW H × List MemPlace}
    (ht : P.underlying t = some (.struct fs)) (hl : laysF fs = l) (h : DataW.trod enc P w base (fun _ => true) held fuel t cs = some x) :
    cs.length = P.cellsOf t ∧ ∃ n, ∀ (i o : Nat) (u : TypeId), l[i]? = some (o, u) → ∃ y, DataW.trod enc P w base (fun _ => true) held n u ((cs.drop o).take (P.cellsOf u)) = some y := by
  obtain ⟨xs, n, _, _, hlen, hxl, hf⟩ := DataW.trod_struct ht h
  refine ⟨hlen, n, fun i o u hi => ?_⟩
  obtain ⟨f, hfi, rfl, rfl⟩ := struct_get hl i hi
  have h1 := hf i f hfi
  have h2 : i < xs.length := by
    rw [hxl]
    exact (Array.getElem?_eq_some_iff.1 hfi).1
  rw [List.getElem?_eq_getElem h2] at h1
  exact ⟨_, h1⟩
theorem three_cells {cs : List Value} (h : cs.length = 3) : ∃ a b c, cs = [a, b, c] := by
  match cs, h with
  | [a, b, c], _ => exact ⟨a, b, c, rfl⟩
theorem four_cells {cs : List Value} (h : cs.length = 4) : ∃ a b c d, cs = [a, b, c, d] := by
  match cs, h with
  | [a, b, c, d], _ => exact ⟨a, b, c, d, rfl⟩
theorem opens_key {t tb u64 u8 : TypeId} {fs : Array Field} (ht : P.underlying t = some (.struct fs)) (hl : laysF fs = [(0, tb), (1, u64), (2, u8)]) (hc : P.cellsOf t = 3 ∧ P.cellsOf tb = 1 ∧ P.cellsOf u64 = 1 ∧ P.cellsOf u8 = 1)
    (hb : P.underlying tb = some (.slice u8)) (h64 : P.underlying u64 = some (.int .u64)) (h8 : P.underlying u8 = some (.int .u8)) : Opens P t KeyL := by
  intro H enc w base held fuel cs x h
  obtain ⟨hlen, n, hf⟩ := field_read ht hl h
  obtain ⟨a, b, c, rfl⟩ := three_cells (hlen.trans hc.1)
  obtain ⟨y0, h0⟩ := hf 0 0 tb rfl
  obtain ⟨y1, h1⟩ := hf 1 1 u64 rfl
  obtain ⟨y2, h2⟩ := hf 2 2 u8 rfl
  rw [hc.2.1] at h0
  rw [hc.2.2.1] at h1
  rw [hc.2.2.2] at h2
  simp at h0 h1 h2
  obtain ⟨l, v, e0, hv⟩ := opens_bytes hb h8 hc.2.2.2 H enc w base held n _ _ h0
  obtain ⟨s, e1⟩ := open_u64c h64 h1
  obtain ⟨k, e2⟩ := open_u8c h8 h2
  simp at e0 e1 e2
  subst e0 e1 e2
  exact ⟨⟨l, s, k⟩, a, rfl, hv⟩
theorem opens_op {t tb u8 : TypeId} {fs : Array Field} (ht : P.underlying t = some (.struct fs)) (hl : laysF fs = [(0, u8), (1, tb), (2, tb)]) (hc : P.cellsOf t = 3 ∧ P.cellsOf tb = 1 ∧ P.cellsOf u8 = 1)
    (hb : P.underlying tb = some (.slice u8)) (h8 : P.underlying u8 = some (.int .u8)) : Opens P t OpL := by
  intro H enc w base held fuel cs x h
  obtain ⟨hlen, n, hf⟩ := field_read ht hl h
  obtain ⟨a, b, c, rfl⟩ := three_cells (hlen.trans hc.1)
  obtain ⟨y0, h0⟩ := hf 0 0 u8 rfl
  obtain ⟨y1, h1⟩ := hf 1 1 tb rfl
  obtain ⟨y2, h2⟩ := hf 2 2 tb rfl
  rw [hc.2.2] at h0
  rw [hc.2.1] at h1 h2
  simp at h0 h1 h2
  obtain ⟨k, e0⟩ := open_u8c h8 h0
  obtain ⟨l1, v1, e1, hv1⟩ := opens_bytes hb h8 hc.2.2 H enc w base held n _ _ h1
  obtain ⟨l2, v2, e2, hv2⟩ := opens_bytes hb h8 hc.2.2 H enc w base held n _ _ h2
  simp at e0 e1 e2
  subst e0 e1 e2
  exact ⟨⟨k, l1, l2⟩, b, c, rfl, hv1, hv2⟩
theorem opens_span {t tb u64 u8 : TypeId} {fs : Array Field} (ht : P.underlying t = some (.struct fs)) (hl : laysF fs = [(0, tb), (1, tb), (2, u64)]) (hc : P.cellsOf t = 3 ∧ P.cellsOf tb = 1 ∧ P.cellsOf u64 = 1 ∧ P.cellsOf u8 = 1)
    (hb : P.underlying tb = some (.slice u8)) (h64 : P.underlying u64 = some (.int .u64)) (h8 : P.underlying u8 = some (.int .u8)) : Opens P t SpanL := by
  intro H enc w base held fuel cs x h
  obtain ⟨hlen, n, hf⟩ := field_read ht hl h
  obtain ⟨a, b, c, rfl⟩ := three_cells (hlen.trans hc.1)
  obtain ⟨y0, h0⟩ := hf 0 0 tb rfl
  obtain ⟨y1, h1⟩ := hf 1 1 tb rfl
  obtain ⟨y2, h2⟩ := hf 2 2 u64 rfl
  rw [hc.2.1] at h0 h1
  rw [hc.2.2.1] at h2
  simp at h0 h1 h2
  obtain ⟨l1, v1, e1, hv1⟩ := opens_bytes hb h8 hc.2.2.2 H enc w base held n _ _ h0
  obtain ⟨l2, v2, e2, hv2⟩ := opens_bytes hb h8 hc.2.2.2 H enc w base held n _ _ h1
  obtain ⟨s, e3⟩ := open_u64c h64 h2
  simp at e1 e2 e3
  subst e1 e2 e3
  exact ⟨⟨l1, l2, s⟩, a, b, rfl, hv1, hv2⟩
/-- an entry: a version (its three cells), then a value -/
theorem opens_ent {t tk tb u64 u8 : TypeId} {fs ks : Array Field} (ht : P.underlying t = some (.struct fs)) (hl : laysF fs = [(0, tk), (3, tb)]) (htk : P.underlying tk = some (.struct ks)) (hlk : laysF ks = [(0, tb), (1, u64), (2, u8)])
    (hc : P.cellsOf t = 4 ∧ P.cellsOf tk = 3 ∧ P.cellsOf tb = 1 ∧ P.cellsOf u64 = 1 ∧ P.cellsOf u8 = 1)
    (hb : P.underlying tb = some (.slice u8)) (h64 : P.underlying u64 = some (.int .u64)) (h8 : P.underlying u8 = some (.int .u8)) : Opens P t EntL := by
  intro H enc w base held fuel cs x h
  obtain ⟨hlen, n, hf⟩ := field_read ht hl h
  obtain ⟨a, b, c, d, rfl⟩ := four_cells (hlen.trans hc.1)
  obtain ⟨y0, h0⟩ := hf 0 0 tk rfl
  obtain ⟨y1, h1⟩ := hf 1 3 tb rfl
  rw [hc.2.1] at h0
  rw [hc.2.2.1] at h1
  simp at h0 h1
  obtain ⟨⟨u, s, k⟩, v, e, hv⟩ := opens_key htk hlk ⟨hc.2.1, hc.2.2.1, hc.2.2.2.1, hc.2.2.2.2⟩ hb h64 h8 H enc w base held n _ _ h0
  obtain ⟨l2, v2, e2, hv2⟩ := opens_bytes hb h8 hc.2.2.2.2 H enc w base held n _ _ h1
  simp at e e2
  obtain ⟨rfl, rfl, rfl⟩ := e
  subst e2
  exact ⟨⟨⟨u, s, k⟩, l2⟩, a, d, rfl, hv, hv2⟩
theorem opens_note {t tb to top u64 u8 : TypeId} {fs os : Array Field} (ht : P.underlying t = some (.struct fs)) (hl : laysF fs = [(0, u8), (1, u64), (2, tb), (3, to)]) (hto : P.underlying to = some (.slice top)) (htop : P.underlying top = some (.struct os))
    (hlo : laysF os = [(0, u8), (1, tb), (2, tb)]) (hc : P.cellsOf t = 4 ∧ P.cellsOf to = 1 ∧ P.cellsOf top = 3 ∧ P.cellsOf tb = 1 ∧ P.cellsOf u64 = 1 ∧ P.cellsOf u8 = 1)
    (hb : P.underlying tb = some (.slice u8)) (h64 : P.underlying u64 = some (.int .u64)) (h8 : P.underlying u8 = some (.int .u8)) : Opens P t NoteL := by
  intro H enc w base held fuel cs x h
  obtain ⟨hlen, n, hf⟩ := field_read ht hl h
  obtain ⟨a, b, c, d, rfl⟩ := four_cells (hlen.trans hc.1)
  obtain ⟨y0, h0⟩ := hf 0 0 u8 rfl
  obtain ⟨y1, h1⟩ := hf 1 1 u64 rfl
  obtain ⟨y2, h2⟩ := hf 2 2 tb rfl
  obtain ⟨y3, h3⟩ := hf 3 3 to rfl
  rw [hc.2.2.2.2.2] at h0
  rw [hc.2.2.2.2.1] at h1
  rw [hc.2.2.2.1] at h2
  rw [hc.2.1] at h3
  simp at h0 h1 h2 h3
  obtain ⟨k, e0⟩ := open_u8c h8 h0
  obtain ⟨s, e1⟩ := open_u64c h64 h1
  obtain ⟨l2, v2, e2, hv2⟩ := opens_bytes hb h8 hc.2.2.2.2.2 H enc w base held n _ _ h2
  obtain ⟨A, m, cc, ops, e3, ho⟩ := open_rowC (α := OpL) hto hc.2.2.1 (opens_op htop hlo ⟨hc.2.2.1, hc.2.2.2.1, hc.2.2.2.2.2⟩ hb h8) h3
  simp at e0 e1 e2 e3
  subst e0 e1 e2 e3
  exact ⟨⟨k, s, l2, ops⟩, c, A, m, cc, rfl, hv2, ho⟩
/-- a struct that came in -/
theorem open_rec {α : Type} [Rep α] {t : TypeId} {fs : Array Field} (ht : P.underlying t = some (.struct fs)) (ho : Opens P t α) {H : Type} {enc : TypeId × Value → H} {w : World} {base : Nat} {r : Reach} {b0 : Nat} {held : Bool} {v : Value} {d : DataW H} {p : List MemPlace}
    (hv : Value.okWide P w r b0 t v) (h : DataW.Trod enc P w base (fun _ => true) held t v d p) : ∃ (cs : List Value) (a : α), v = .agg cs.toArray ∧ Rep.cells w (fun _ => True) cs a := by
  obtain ⟨cs, rfl, _⟩ := okWide_struct ht hv
  obtain ⟨fuel, hf⟩ := h
  obtain ⟨a, ha⟩ := ho H enc w base held fuel _ _ hf
  exact ⟨cs.toList, a, by simp, by simpa [Value.cells] using ha⟩
/-- a list of records that came in -/
theorem open_recs {α : Type} [Rep α] {t e : TypeId} (ht : P.underlying t = some (.slice e)) (hc : P.cellsOf e = Rep.size α) (ho : Opens P e α) {H : Type} {enc : TypeId × Value → H} {w : World} {base : Nat} {r : Reach} {b0 : Nat} {held : Bool} {v : Value} {d : DataW H} {p : List MemPlace}
    (hv : Value.okWide P w r b0 t v) (h : DataW.Trod enc P w base (fun _ => true) held t v d p) : ∃ (A : Option Addr) (n c : Nat) (ls : List α), v = .slice A n c ∧ SlR w (fun _ => True) A n c ls := by
  obtain ⟨a0, len, cap, rfl⟩ := okWide_slice ht hv
  obtain ⟨fuel, hf⟩ := h
  obtain ⟨A, n, c, ls, e, hs⟩ := open_rowC ht hc ho hf
  simp [Value.cells] at e
  obtain ⟨rfl, rfl, rfl⟩ := e
  exact ⟨_, _, _, ls, rfl, hs⟩
end
end Go.Proofs.YtpjinmiedanebaaDoor

namespace Go.Proofs.YtpjinmiedanebaaDoor
open Go.RowKit
set_option maxRecDepth 20000
section
variable {α : Type} [Rep α] {w w' : World} {B L : Nat} {e : TypeId} {A : Option Addr} {n c : Nat} {ls : List α}
/-- the row is of the call's own from B on; what its records hold lies below L -/
def OwnL (w : World) (B L : Nat) (e : TypeId) (A : Option Addr) (n c : Nat) (ls : List α) : Prop :=
  ∃ xs, Own w B e (Rep.size α) A n c xs ∧ RowC w (fun b => b < L) xs ls
theorem OwnL.nil (w : World) (B L : Nat) (e : TypeId) (A : Option Addr) : OwnL w B L e A 0 0 ([] : List α) := ⟨[], Own.nil _ _ _ _ _, rfl⟩
theorem OwnL.sl (h : OwnL w B L e A n c ls) : SlR w (fun _ => True) A n c ls := by
  obtain ⟨xs, ho, hr⟩ := h
  exact ⟨xs, ho.sl, hr.move fun _ _ _ => ⟨rfl, trivial⟩, fun _ _ _ => trivial⟩
theorem OwnL.lenR (h : OwnL w B L e A n c ls) : ls.length = n := h.sl.lenR
theorem OwnL.lt (h : OwnL w B L e A n c ls) : ∀ b, blk A c = some b → B ≤ b ∧ b < w.heap.size := by
  obtain ⟨xs, ho, _⟩ := h
  exact fun b hb => Own.lt ho b hb
theorem OwnL.below (h : OwnL w B L e A n c ls) (hb : Below w.heap.size w w') : OwnL w' B L e A n c ls := by
  obtain ⟨xs, ho, hr⟩ := h
  exact ⟨xs, ho.below hb, hr.move fun b hl hp => ⟨hb.block b hl, hp⟩⟩
theorem OwnL.mono {B' : Nat} (h : OwnL w B L e A n c ls) (hB : B' ≤ B) : OwnL w B' L e A n c ls := by
  obtain ⟨xs, ho, hr⟩ := h
  exact ⟨xs, ho.mono hB, hr⟩
/-- a row of another type was written -/
theorem OwnL.wrote {B' : Nat} {e' : TypeId} {size' : Nat} {A' : Option Addr} {n' c' : Nat} {xs' : List Value} (h : OwnL w B L e A n c ls) (hr : Own w B' e' size' A' n' c' xs') (he : e ≠ e') (hL : L ≤ B') (hg : w.grownBy w' (blk A' c')) : OwnL w' B L e A n c ls := by
  obtain ⟨xs, ho, hc⟩ := h
  refine ⟨xs, ho.grown hg (own_apart ho hr he), hc.move fun b hl hp => ⟨hg.block b hl fun q => ?_, hp⟩⟩
  have := (Own.lt hr b q.symm).1
  omega
theorem row_appL (P : Program) (w : World) (t ty : TypeId) (z : Value) (bytes : Nat) (ht : P.underlying t = some (.slice e)) (hi : (P.info? e).map (fun i => (i.zero, i.size, i.bytes)) = some (some z, Rep.size α, bytes))
    (hzs : z.cells.size = Rep.size α) (hown : OwnL w B L e A n c ls)
    (A2 : Option Addr) (m c2 : Nat) (ms : List α) (hs : ∃ xs, Sl w (Rep.size α) A2 m c2 xs ∧ RowC w (fun b => b < L) xs ms)
    (h63 : n + m ≤ maxLen) (hbytes : (n + m) * bytes ≤ 140737488355328) (hB : B ≤ w.heap.size) (hL : L ≤ B) :
    ∃ A' c' w', (Builtin.append_ #[t, t] ty #[.slice A n c, .slice A2 m c2]).run P w = .ok (.slice A' (n + m) c') w' ∧ OwnL w' B L e A' (n + m) c' (ls ++ ms) ∧ w.grownBy w' (blk A c) ∧ (blk A' c' = blk A c ∨ blk A' c' = some w.heap.size) := by
  obtain ⟨i, hi1, hz, hs1, hb1⟩ := info_parts hi
  obtain ⟨xs, hO, hR⟩ := hown
  obtain ⟨ys, hS, hR2⟩ := hs
  obtain ⟨A', c', w', hrun, h2, h3, h4⟩ := run_append_own2 (P := P) w B t ty e i z (Rep.size α) bytes ht hi1 hz hs1 hb1 hzs A n c xs hO A2 m c2 ys hS hR2.one h63 hbytes hB
  have mv : ∀ b, b < w.heap.size → b < L → w'.heap[b]? = w.heap[b]? ∧ b < L := fun b hl hp => by
    refine ⟨h3.block b hl (fun q => ?_), hp⟩
    have := (Own.lt hO b q.symm).1
    omega
  exact ⟨A', c', w', hrun, ⟨_, h2, (hR.move mv).append (hR2.move mv)⟩, h3, h4⟩
theorem step_appL {P : Program} {ops : Array Oper} {o : Oper} {a : Act} {w : World} {K : Act → World → Prop} {Q : Exit → Act → World → Prop} {E : Prop} (hgd : o.guard = none) (s x : Operand) (t : TypeId)
    (ho : o.op = .call { callee := .builtin .append, args := #[s, x], argTypes := #[t, t] })
    (B L : Nat) (e : TypeId) (z : Value) (bytes : Nat) (ht : P.underlying t = some (.slice e)) (hi : (P.info? e).map (fun i => (i.zero, i.size, i.bytes)) = some (some z, Rep.size α, bytes))
    (hzs : z.cells.size = Rep.size α)
    (A : Option Addr) (n c : Nat) (ls : List α) (hsv : a.eval s = .slice A n c) (hown : OwnL w B L e A n c ls)
    (A2 : Option Addr) (m c2 : Nat) (ms : List α) (hx : a.eval x = .slice A2 m c2) (hs : ∃ xs, Sl w (Rep.size α) A2 m c2 xs ∧ RowC w (fun b => b < L) xs ms)
    (h63 : n + m ≤ maxLen) (hbytes : (n + m) * bytes ≤ 140737488355328) (hB : B ≤ w.heap.size) (hL : L ≤ B)
    (h : ∀ A' c' w', OwnL w' B L e A' (n + m) c' (ls ++ ms) → w.grownBy w' (blk A c) → (blk A' c' = blk A c ∨ blk A' c' = some w.heap.size) → K (a.put o.dst (.slice A' (n + m) c')) w') :
    if Region.wanted o (yielded ops a.tmps) = true then Oper.wp P o a w K Q else E := by
  have hw : Region.wanted o (yielded ops a.tmps) = true := by simp [Region.wanted, hgd]
  rw [if_pos hw]
  obtain ⟨A', c', w', hrun, h2, h3, h4⟩ := row_appL P w t o.type z bytes ht hi hzs hown A2 m c2 ms hs h63 hbytes hB hL
  unfold Oper.wp execOp
  simp only [ho, resolve, invoke, builtin, Sem.run_bind, Sem.run_pure, Result.andThen_ok, List.map_toArray, List.map_cons, List.map_nil, hsv, hx, hrun]
  exact h A' c' w' h2 h3 h4
theorem OwnL.row (h : OwnL w B L e A n c ls) : ∃ xs, Sl w (Rep.size α) A n c xs ∧ RowC w (fun b => b < L) xs ls := by
  obtain ⟨xs, ho, hr⟩ := h
  exact ⟨xs, ho.sl, hr⟩
end
/-- append of one slice to a row of slices of the call's own, as a step -/
theorem step_appP {ops : Array Oper} {o : Oper} {a : Act} {w : World} {K : Act → World → Prop} {Q : Exit → Act → World → Prop} {E : Prop} (hgd : o.guard = none) (s x : Operand)
    (ho : o.op = .call { callee := .builtin .append, args := #[s, x], argTypes := #[36, 36] })
    (B : Nat) (A : Option Addr) (n c : Nat) (vs : List Value) (hsv : a.eval s = .slice A n c) (hown : OwnP w B A n c vs)
    (A2 : Option Addr) (m c2 : Nat) (news : List Value) (hx : a.eval x = .slice A2 m c2) (hs : Sl w 1 A2 m c2 news) (h1 : ∀ u ∈ news, u.oneCell' = true)
    (hbytes : n + m ≤ 4398046511104) (hB : B ≤ w.heap.size)
    (h : ∀ A' c' w', OwnP w' B A' (n + m) c' (vs ++ news) → w.grownBy w' (blk A c) → (blk A' c' = blk A c ∨ blk A' c' = some w.heap.size) → K (a.put o.dst (.slice A' (n + m) c')) w') :
    if Region.wanted o (yielded ops a.tmps) = true then Oper.wp Tryd.prog o a w K Q else E := by
  have hw : Region.wanted o (yielded ops a.tmps) = true := by simp [Region.wanted, hgd]
  rw [if_pos hw]
  obtain ⟨i, hi, hz, hs1, hb1⟩ := info_parts infoP
  obtain ⟨A', c', w', hrun, h2, h3, h4⟩ := run_append_own2 (P := Tryd.prog) w B 36 o.type _ i _ 1 24 Tryd.underlying36 hi hz hs1 hb1 rfl A n c vs hown A2 m c2 news hs h1 (by unfold maxLen; omega) (by omega) hB
  unfold Oper.wp execOp
  simp only [ho, resolve, invoke, builtin, Sem.run_bind, Sem.run_pure, Result.andThen_ok, List.map_toArray, List.map_cons, List.map_nil, hsv, hx, hrun]
  exact h A' c' w' h2 h3 h4
/-- a region's world: below w1 as it was, and the record's cells stand -/
def RP (w1 : World) (g : Nat) (u0 u1 u2 u3 : Value) (w : World) : Prop := Below w1.heap.size w1 w ∧ Bx4 w g u0 u1 u2 u3
theorem RP.below {w1 w w' : World} {g : Nat} {u0 u1 u2 u3 : Value} (h : RP w1 g u0 u1 u2 u3 w) (hb : Below w.heap.size w w') : RP w1 g u0 u1 u2 u3 w' := ⟨h.1.trans (hb.mono h.1.size), h.2.below hb⟩
theorem RP.grown {w1 w w' : World} {g : Nat} {u0 u1 u2 u3 : Value} {row : Option Nat} (h : RP w1 g u0 u1 u2 u3 w) (hg : w.grownBy w' row) (h1 : ∀ b, row = some b → w1.heap.size ≤ b) (h2 : row ≠ some g) : RP w1 g u0 u1 u2 u3 w' :=
  ⟨h.1.grown hg h.1.size h1, h.2.grownO hg h2⟩
end Go.Proofs.YtpjinmiedanebaaDoor
