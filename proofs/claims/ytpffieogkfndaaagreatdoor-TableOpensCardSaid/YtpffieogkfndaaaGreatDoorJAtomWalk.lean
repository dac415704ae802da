/-
  HeldF, AtomWalk in one text. No condition but sizes.
-/
import Derived.Test.YtpffieogkfndaaaGreatDoorJHeld
import Derived.KernelRfl
import Derived.Test.YtpffieogkfndaaaGreatDoorJBytes
import Derived.Test.YtpffieogkfndaaaGreatDoorJAtomPlain
namespace Go.Proofs.YtpffieogkfndaaaGreatDoor
open Go.RowKit
set_option maxRecDepth 20000
set_option linter.unusedVariables false
set_option linter.unusedSimpArgs false
section
variable {P : Program} {ops : Array Oper} {Q : Exit → Act → World → Prop} {md : Region.Mode} {S : Nat → World → World → Prop}

def AnyF (P : Program) (md : Region.Mode) (ops : Array Oper) (Q : Exit → Act → World → Prop) (S : Nat → World → World → Prop) : Nat → Array Bool → Act → World → Prop
  | 0, listed, a, w => Region.ready md ops listed = [] ∧ Q .normal a w
  | fuel + 1, listed, a, w =>
    (Region.ready md ops listed = [] → Q .normal a w) ∧
    ∀ j ∈ Region.ready md ops listed, wpOp P ops Q j (fun a' w' => S j w w' ∧ AnyF P md ops Q S fuel (listed.setIfInBounds j true) a' w') a w
theorem any_of_F : ∀ (fuel : Nat) (listed : Array Bool) (a : Act) (w : World), AnyF P md ops Q S fuel listed a w → wpAny P md ops Q fuel listed a w
  | 0, _, _, _, h => h
  | fuel + 1, _, _, _, h => ⟨h.1, fun j hj => wpOp_mono (fun a' w' q => any_of_F fuel _ a' w' q.2) (h.2 j hj)⟩
def waitsB (md : Region.Mode) (ops : Array Oper) (j i : Nat) : Bool := match ops[j]? with
  | some o => o.after.any fun e => Region.binds md e && e.on == i
  | none => false
theorem AnyF_first {i : Nat} {oi : Oper} {v : Value} {Si : World → Prop} (hi : ops[i]? = some oi) (hsel : ∀ (j : Nat) (o : Oper) cs b, ops[j]? = some o → o.op ≠ .select cs b)
    (hQ : ∀ c a w, Q (.panic c) (a.put oi.dst v) w → Q (.panic c) a w) (hS : ∀ j, j < ops.size → waitsB md ops j i = true ∨ j = i ∨ ∀ w w', Si w → S j w w' → Si w') (hSi : ∀ w, S i w w) :
    ∀ (fuel : Nat) (listed : Array Bool) (a : Act) (w : World),
      (∀ j oj, ops[j]? = some oj → j ≠ i → listed.getD j true = false → (∀ e ∈ oj.after, Region.binds md e = true → e.on ≠ i) → oi.apart ops oj = true) →
      i ∈ Region.ready md ops listed → YieldsIf P ops Si oi v a → Si w →
      AnyF P md ops Q S fuel (listed.setIfInBounds i true) (a.put oi.dst v) w → AnyF P md ops Q S (fuel + 1) listed a w
  | fuel, listed, a, w, hfree, hr, hy, h0, H => by
    have hun := (mem_ready.1 hr).1
    refine ⟨fun h => (by rw [h] at hr; cases hr), fun j hj => ?_⟩
    by_cases hji : j = i
    · subst hji
      exact hy.wpOp hi h0 ⟨hSi w, H⟩
    · obtain ⟨hjun, oj, hoj, hall⟩ := mem_ready.1 hj
      have hnot : ∀ e ∈ oj.after, Region.binds md e = true → e.on ≠ i := fun e he hb heq => by
        have h1 := hall e he hb
        rw [heq, unlisted hun] at h1
        cases h1
      have hSj : ∀ w w', Si w → S j w w' → Si w' := by
        rcases hS j (Array.getElem?_eq_some_iff.1 hoj).1 with h | h | h
        · unfold waitsB at h
          rw [hoj] at h
          obtain ⟨e, he, hb⟩ := Array.any_eq_true'.1 h
          simp only [Bool.and_eq_true, beq_iff_eq] at hb
          exact absurd hb.2 (hnot e he hb.1)
        · exact absurd h hji
        · exact h
      match fuel, H with
      | 0, H =>
        have := ready_mono hj hji
        rw [H.1] at this
        cases this
      | fuel + 1, H =>
        have h2 := wpOp_putIf hoj (hfree j oj hoj hji hjun hnot) (fun cs b => hsel i oi cs b hi) (fun cs b => hsel j oj cs b hoj) hQ hy (H.2 j (ready_mono hj hji))
        refine wpOp_mono (fun a' w' h3 => ⟨h3.2.1, ?_⟩) h2
        refine AnyF_first hi hsel hQ hS hSi fuel (listed.setIfInBounds j true) a' w' (fun k ok hk hki hkun hkno => hfree k ok hk hki ?_ hkno) (ready_mono hr (Ne.symm hji)) h3.1 (hSj _ _ h0 h3.2.1) ?_
        · by_cases hjk : j = k
          · subst hjk; exact hjun
          · rw [getD_set_ne true hjk] at hkun
            exact hkun
        · rw [Array.setIfInBounds_comm _ _ hji]
          exact h3.2.2
/-- number i is taken first -/
theorem takeF {i : Nat} {oi : Oper} {v : Value} {fuel : Nat} {listed : Array Bool} {a : Act} {w : World} (Si : World → Prop) (hi : ops[i]? = some oi)
    (hs : Region.noSelect ops = true) (hf : Region.free md ops listed i = true) (hr : (Region.ready md ops listed).contains i = true)
    (hS : ∀ j, j < ops.size → waitsB md ops j i = true ∨ j = i ∨ ∀ w w', Si w → S j w w' → Si w') (hSi : ∀ w, S i w w)
    (hQ : ∀ c a w, Q (.panic c) (a.put oi.dst v) w → Q (.panic c) a w) (hy : YieldsIf P ops Si oi v a) (h0 : Si w)
    (h : AnyF P md ops Q S fuel (listed.setIfInBounds i true) (a.put oi.dst v) w) : AnyF P md ops Q S (fuel + 1) listed a w :=
  AnyF_first hi (Region.noSelect_spec hs) hQ hS hSi fuel listed a w (Region.free_spec hi hf) (by simpa using hr) hy h0 h
/-- .. an operation that reads nothing -/
theorem takeT {i : Nat} {oi : Oper} {v : Value} {fuel : Nat} {listed : Array Bool} {a : Act} {w : World} (hi : ops[i]? = some oi) (hy : ∀ w, (execOp a.eval oi).run P w = .ok (.value v) w)
    (h : AnyF P md ops Q S fuel (listed.setIfInBounds i true) (a.put oi.dst v) w)
    (hw : Region.wanted oi (yielded ops a.tmps) = true := by kernel_rfl)
    (hs : Region.noSelect ops = true := by kernel_rfl) (hf : Region.free md ops listed i = true := by kernel_rfl) (hr : (Region.ready md ops listed).contains i = true := by kernel_rfl)
    (hSi : ∀ w, S i w w := by first | exact fun wa => id | exact fun wa _ => id)
    (hQ : ∀ c a w, Q (.panic c) (a.put oi.dst v) w → Q (.panic c) a w := by exact fun _ _ _ h => h) : AnyF P md ops Q S (fuel + 1) listed a w :=
  takeF (fun _ => True) hi hs hf hr (fun j hj => .inr (.inr fun _ _ _ _ => trivial)) hSi hQ (.inl ⟨hw, fun w _ => hy w⟩) trivial h
/-- .. one that leans on what every operation keeps -/
theorem takeP {Pw : World → Prop} {i : Nat} {oi : Oper} {v : Value} {fuel : Nat} {listed : Array Bool} {a : Act} {w : World} (hi : ops[i]? = some oi) (hX : Pw w) (hy : ∀ w, Pw w → (execOp a.eval oi).run P w = .ok (.value v) w)
    (h : AnyF P md ops Q (fun _ wa wb => Pw wa → Pw wb) fuel (listed.setIfInBounds i true) (a.put oi.dst v) w)
    (hw : Region.wanted oi (yielded ops a.tmps) = true := by kernel_rfl)
    (hs : Region.noSelect ops = true := by kernel_rfl) (hf : Region.free md ops listed i = true := by kernel_rfl) (hr : (Region.ready md ops listed).contains i = true := by kernel_rfl)
    (hQ : ∀ c a w, Q (.panic c) (a.put oi.dst v) w → Q (.panic c) a w := by exact fun _ _ _ h => h) : AnyF P md ops Q (fun _ wa wb => Pw wa → Pw wb) (fuel + 1) listed a w :=
  takeF Pw hi hs hf hr (fun j hj => .inr (.inr fun wa wb h g => g h)) (fun wa => id) hQ (.inl ⟨hw, hy⟩) hX h
/-- .. one that leans on what every operation but the last keeps -/
theorem takeM {m : Nat} {Pw : World → Prop} {i : Nat} {oi : Oper} {v : Value} {fuel : Nat} {listed : Array Bool} {a : Act} {w : World} (hi : ops[i]? = some oi) (hX : Pw w) (hy : ∀ w, Pw w → (execOp a.eval oi).run P w = .ok (.value v) w)
    (h : AnyF P md ops Q (fun j wa wb => j ≠ m → Pw wa → Pw wb) fuel (listed.setIfInBounds i true) (a.put oi.dst v) w)
    (hw : Region.wanted oi (yielded ops a.tmps) = true := by kernel_rfl)
    (hs : Region.noSelect ops = true := by kernel_rfl) (hf : Region.free md ops listed i = true := by kernel_rfl) (hr : (Region.ready md ops listed).contains i = true := by kernel_rfl)
    (hm : waitsB md ops m i = true := by kernel_rfl)
    (hQ : ∀ c a w, Q (.panic c) (a.put oi.dst v) w → Q (.panic c) a w := by exact fun _ _ _ h => h) : AnyF P md ops Q (fun j wa wb => j ≠ m → Pw wa → Pw wb) (fuel + 1) listed a w :=
  takeF Pw hi hs hf hr (fun j hj => if e : j = m then .inl (by subst e; exact hm) else .inr (.inr fun wa wb h g => g e h)) (fun wa _ => id) hQ (.inl ⟨hw, hy⟩) hX h
def AllF (P : Program) (md : Region.Mode) (ops : Array Oper) (Q : Exit → Act → World → Prop) (S : Nat → World → World → Prop) (fuel : Nat) (listed : Array Bool) (a : Act) (w : World) (rs : List Nat) : Prop :=
  ∀ i ∈ rs, wpOp P ops Q i (fun a' w' => S i w w' ∧ AnyF P md ops Q S fuel (listed.setIfInBounds i true) a' w') a w
theorem AllF.nil {fuel : Nat} {listed : Array Bool} {a : Act} {w : World} : AllF P md ops Q S fuel listed a w [] := fun _ h => by cases h
theorem AllF.cons {fuel : Nat} {listed : Array Bool} {a : Act} {w : World} {i : Nat} {o : Oper} {rs : List Nat} (ho : ops[i]? = some o)
    (h : ∀ K : Act → World → Prop, (∀ a' w', S i w w' → AnyF P md ops Q S fuel (listed.setIfInBounds i true) a' w' → K a' w') → if Region.wanted o (yielded ops a.tmps) = true then Oper.wp P o a w K Q else K (a.put o.dst undef) w)
    (hs : AllF P md ops Q S fuel listed a w rs) : AllF P md ops Q S fuel listed a w (i :: rs) := fun j hj => by
  rcases List.mem_cons.1 hj with rfl | hj
  · exact wpOp_step ho fun K hK => h K fun a w hS hA => hK a w ⟨hS, hA⟩
  · exact hs j hj
theorem readyF {rs : List Nat} {fuel : Nat} {listed : Array Bool} {a : Act} {w : World} (hr : Region.ready md ops listed = rs) (hne : rs ≠ [])
    (h : AllF P md ops Q S fuel listed a w rs) : AnyF P md ops Q S (fuel + 1) listed a w := ⟨fun h0 => absurd (hr ▸ h0) hne, hr ▸ h⟩
theorem doneF {listed : Array Bool} {a : Act} {w : World} (hr : Region.ready md ops listed = []) (h : Q .normal a w) : ∀ fuel, AnyF P md ops Q S fuel listed a w
  | 0 => ⟨hr, h⟩
  | _ + 1 => ⟨fun _ => h, by rw [hr]; simp⟩
theorem regionF (S : Nat → World → World → Prop) {id : Nat} {a : Act} {w : World} (hm : P.follows .mixedOrders = true)
    (h : AnyF P .any ops Q S ops.size (Array.replicate ops.size false) a w.drew) : (Code.region id ops true).wp P Q a w :=
  wp_region_any hm (any_of_F _ _ _ _ h)
end
end Go.Proofs.YtpffieogkfndaaaGreatDoor

namespace Go.Proofs.YtpffieogkfndaaaGreatDoor
set_option maxRecDepth 20000
set_option linter.unusedVariables false
set_option linter.unusedSimpArgs false
open Go.RowKit

/-- what a law's literal gives: bytes laid new -/
theorem new_lit (w : World) (cur : Array Value) (l : List UInt8) (n : Nat) (hn : l.length = n) (hm : n ≤ maxLen) (hc : cur.toList = bc l) :
    NewB w l (.returned (.slice (some ⟨w.heap.size, 0, none⟩) n n)) (w.alloc (.cells cur 5)) :=
  ⟨_, n, n, rfl, Own.lit w _ _ n cur _ (Nat.le_refl _) (by simpa using hn) hm hc, (Below.refl _ _).alloc (Nat.le_refl _) _⟩

theorem num_small (n : Nat) (w : World) (h : n < 241) : Calls Tryz.prog 45 #[.int .u64 (n : Int)] w (NewB w (numL n)) := by
  have e : numL n = [UInt8.ofNat n] := by unfold numL; rw [if_pos h]
  rw [e]
  clear e
  go_enter Tryz.func45, Tryz.ntmps45
  go_wp2
  go_ret
  refine new_lit w _ _ 1 rfl (by unfold maxLen; omega) ?_
  simp [bc]
  omega
theorem num_two (n : Nat) (w : World) (h1 : 241 ≤ n) (h2 : n < 2288) : Calls Tryz.prog 45 #[.int .u64 (n : Int)] w (NewB w (numL n)) := by
  have e : numL n = [UInt8.ofNat (241 + (n - 240) / 256), UInt8.ofNat (n - 240)] := by unfold numL; rw [if_neg (by omega), if_pos h2]
  rw [e]
  clear e
  go_enter Tryz.func45, Tryz.ntmps45
  go_wp2
  go_ret
  refine new_lit w _ _ 2 rfl (by unfold maxLen; omega) ?_
  simp [bc]
  omega
theorem num_three (n : Nat) (w : World) (h1 : 2288 ≤ n) (h2 : n < 67824) : Calls Tryz.prog 45 #[.int .u64 (n : Int)] w (NewB w (numL n)) := by
  have e : numL n = [249, UInt8.ofNat ((n - 2288) / 256), UInt8.ofNat (n - 2288)] := by unfold numL; rw [if_neg (by omega), if_neg (by omega), if_pos h2]
  rw [e]
  clear e
  go_enter Tryz.func45, Tryz.ntmps45
  go_wp2
  go_ret
  refine new_lit w _ _ 3 rfl (by unfold maxLen; omega) ?_
  simp [bc]
  omega
set_option maxHeartbeats 1000000 in
theorem num_long (n : Nat) (w : World) (h1 : 67824 ≤ n) (h2 : n < 18446744073709551616) : Calls Tryz.prog 45 #[.int .u64 (n : Int)] w (NewB w (numL n)) := by
  obtain ⟨k, hk⟩ : ∃ k, nb n = k := ⟨_, rfl⟩
  have hr := nb_range n
  have e : numL n = UInt8.ofNat (247 + k) :: beK k n := by unfold numL; rw [if_neg (by omega), if_neg (by omega), if_neg (by omega), hk]
  rw [e]
  clear e
  have hlt := nb_lt h2
  have hle : 3 < k → 256 ^ (k - 1) ≤ n := fun h => by have := nb_le (n := n) (by omega); rw [hk] at this; exact this
  rw [hk] at hr hlt
  have Hk := Lib.hid hk
  have Hlt := Lib.hid hlt
  have Hle := Lib.hid hle
  clear hk hlt hle
  go_enter Tryz.func45, Tryz.ntmps45
  go_wp2
  go_loopw [3, 4] (fun a i wr => ∃ (j : Nat) (z : Int), z = 56 - 8 * (j : Int) ∧ j ≤ 8 ∧ i = .int .i64 z ∧ Below w.heap.size w wr ∧ ∃ (A : Option Addr) (m c : Nat), a = .slice A m c ∧ OwnB wr w.heap.size A m c (tailL n k j)) (fun _ i _ => (intOf i + 8).toNat)
  case atStart => exact ⟨0, 56, by omega, by omega, rfl, Below.refl _ _, none, 0, 0, rfl, by rw [tailL_start]; exact Own.nil _ _ _ _ _⟩
  case round =>
    obtain ⟨j, z, hz, hj, rfl, hbr, A, m, c, rfl, ho⟩ := hrel
    have hm := OwnB.len' ho
    rw [tailL_len n k j hj] at hm
    by_cases hj8 : j < 8
    · obtain ⟨s, hs⟩ : ∃ s : Nat, s = 56 - 8 * j := ⟨_, rfl⟩
      obtain rfl : z = (s : Int) := by omega
      have hp : 2 ^ s = 256 ^ (7 - j) := by
        rw [show (256 : Nat) = 2 ^ 8 from rfl, ← Nat.pow_mul]
        congr 1
        omega
      obtain ⟨b, hb, hbl⟩ : ∃ b, n / 2 ^ s % 256 = b ∧ b < 256 := ⟨_, rfl, Nat.mod_lt _ (by omega)⟩
      have eb : (n : Int) / 2 ^ s % 256 = (b : Int) := by rw [← hb]; simp
      have hs24 : s < 24 ∨ 24 ≤ s := by omega
      rw [hp] at hb
      have Hb := Lib.hid hb
      have Ho := Lib.hid ho
      clear ho hp hb
      by_cases hjk : j < 8 - k
      · have hm0 : m = 0 := by omega
        subst hm0
        have hb0 : b = 0 := by
          rw [← Hb.out, Nat.div_eq_of_lt]
          exact Nat.lt_of_lt_of_le Hlt.out (Nat.pow_le_pow_right (by omega) (by omega))
        subst hb0
        have hs' : 24 ≤ s := by omega
        have hs56 : s ≤ 56 := by omega
        have Hjk := Lib.hid hjk
        have Hs := Lib.hid hs
        clear hm hz hs hs24 hjk
        go_wp2
        go_roundw
        case rel => exact ⟨j + 1, _, by have := Hs.out; omega, by omega, rfl, hbr, A, 0, c, rfl, by have := Hjk.out; rw [tailL_none n k (j + 1) (by omega)]; have h := Ho.out; rw [tailL_none n k j (by omega)] at h; exact h⟩
        case measure => simp [intOf]; omega
      · have hs56 : s ≤ 56 := by omega
        have Hm := Lib.hid hm
        have Hs := Lib.hid hs
        have hm8 : m ≤ 8 := by omega
        have hmore := tailL_more n k j hj8 (by omega)
        rw [show UInt8.ofNat (n / 256 ^ (7 - j)) = UInt8.ofNat b from by rw [← Hb.out]; apply UInt8.toNat_inj.1; simp] at hmore
        have Hmore := Lib.hid hmore
        have hpush : 0 < m ∨ (m ≤ 0 ∧ ((b : Int) != 0) = true) ∨ (m ≤ 0 ∧ ((b : Int) != 0) = false ∧ s < 24) := by
          rcases Nat.eq_zero_or_pos m with h0 | h0
          · rcases Nat.eq_zero_or_pos b with hb0 | hb0
            · refine Or.inr (Or.inr ⟨by omega, by rw [hb0]; rfl, ?_⟩)
              rcases Nat.lt_or_ge 3 k with h3 | h3
              · exfalso
                have h8 := Hle.out h3
                have e7 : 7 - j = k - 1 := by omega
                have h9 := Hb.out
                rw [e7, hb0] at h9
                have hq : n / 256 ^ (k - 1) < 256 := by
                  rw [Nat.div_lt_iff_lt_mul (Nat.pow_pos (by omega)), Nat.mul_comm, ← Nat.pow_succ, show (k - 1).succ = k from by omega]
                  exact Hlt.out
                have hq2 : 1 ≤ n / 256 ^ (k - 1) := (Nat.le_div_iff_mul_le (Nat.pow_pos (by omega))).2 (by omega)
                omega
              · omega
            · exact Or.inr (Or.inl ⟨by omega, bne_iff_ne.2 (by omega)⟩)
          · exact Or.inl h0
        clear hz hs hmore hm hs24 hjk
        have hlit : Sl (wr.alloc (.cells #[.int .u8 (b : Int)] 5)) 1 (some ⟨wr.heap.size, 0, none⟩) 1 1 (bc [UInt8.ofNat b]) :=
          Sl.lit wr _ _ 1 _ _ rfl (by unfold maxLen; omega) (by simp [bc]; omega)
        have hoa : OwnB (wr.alloc (.cells #[.int .u8 (b : Int)] 5)) w.heap.size A m c (tailL n k j) := Own.below Ho.out ((Below.refl wr.heap.size wr).alloc (Nat.le_refl _) _)
        have hsz := hbr.size
        rcases hpush with h0 | ⟨h0, hbn⟩ | ⟨h0, hbn, h24⟩
        all_goals
          go_wp2_with (at_builtin; refine wpList_appB _ rfl (.tmp 54) (.tmp 56) rfl w.heap.size A m c _ rfl hoa _ 1 1 _ rfl hlit ?_ ?_ ?_)
          · omega
          · simp; omega
          intro A2 c2 w2 ho2 hg2 _
          go_wp2
          go_roundw
          case rel =>
            refine ⟨j + 1, _, by have := Hs.out; omega, by omega, rfl, (hbr.alloc hsz _).grown hg2 (by simp; omega) (fun q hq => (Own.lt hoa q hq).1), A2, _, c2, rfl, ?_⟩
            rw [Hmore.out]
            exact ho2
          case measure => simp [intOf]; omega
    · obtain rfl : j = 8 := by omega
      obtain rfl : z = -8 := by omega
      rw [tailL_end n k hr.2] at ho
      have hm' : m = k := by omega
      subst hm'
      have hlit : Own (wr.alloc (.cells #[.int .u8 (247 + (m : Int))] 5)) w.heap.size 5 1 (some ⟨wr.heap.size, 0, none⟩) 1 1 (bc [UInt8.ofNat (247 + m)]) :=
        Own.lit wr _ _ 1 _ _ hbr.size rfl (by unfold maxLen; omega) (by simp [bc]; omega)
      have hoa : OwnB (wr.alloc (.cells #[.int .u8 (247 + (m : Int))] 5)) w.heap.size A m c (beK m n) := Own.below ho ((Below.refl wr.heap.size wr).alloc (Nat.le_refl _) _)
      have hsz := hbr.size
      clear hm hz ho
      go_wp2_with (at_builtin; refine wpList_appB _ rfl (.tmp 62) (.tmp 63) rfl w.heap.size _ 1 1 [UInt8.ofNat (247 + m)] rfl hlit A m c _ rfl hoa.sl ?_ ?_ ?_)
      · omega
      · simp; omega
      intro A2 c2 w2 ho2 hg2 _
      go_wp2
      go_ret
      refine ⟨A2, _, c2, rfl, by simpa using ho2, (hbr.alloc hsz _).grown hg2 (by simp; omega) (fun q hq => (Own.lt hlit q hq).1)⟩
theorem num_any (n : Nat) (w : World) (h : n < 18446744073709551616) : Calls Tryz.prog 45 #[.int .u64 (n : Int)] w (NewB w (numL n)) := by
  rcases Nat.lt_or_ge n 241 with h1 | h1
  · exact num_small n w h1
  · rcases Nat.lt_or_ge n 2288 with h2 | h2
    · exact num_two n w h1 h2
    · rcases Nat.lt_or_ge n 67824 with h3 | h3
      · exact num_three n w h2 h3
      · exact num_long n w h3 h
end Go.Proofs.YtpffieogkfndaaaGreatDoor
