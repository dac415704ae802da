/-
  SealPlain, Guarded, Zeros, PartsCut, Join, BloomPlain, Bridge in one text. No condition but sizes.
-/
import Derived.Test.YtpffieogkfndaaaDoorJAtomWalk
import Derived.Lib.MakeNoZero
import Derived.Test.YtpffieogkfndaaaDoorJHeldF
import Derived.Test.YtpffieogkfndaaaDoorJRowsY
namespace Go.Proofs.YtpffieogkfndaaaDoor
set_option maxRecDepth 20000
set_option linter.unusedVariables false
set_option linter.unusedSimpArgs false

/-- the table -/
def quarterL : List Nat := [0x00000000, 0x105ec76f, 0x20bd8ede, 0x30e349b1, 0x417b1dbc, 0x5125dad3, 0x61c69362, 0x7198540d,
  0x82f63b78, 0x92a8fc17, 0xa24bb5a6, 0xb21572c9, 0xc38d26c4, 0xd3d3e1ab, 0xe330a81a, 0xf36e6f75]
/-- what four bits leave -/
def nib (c : Nat) : Nat := (c / 16) ^^^ quarterL.getD (c % 16) 0
def stepB (c b : Nat) : Nat := nib (nib (c ^^^ b))
def crcL (c : Nat) (l : List UInt8) : Nat := l.foldl (fun c b => stepB c b.toNat) c
/-- the sum -/
def sumL (l : List UInt8) : Nat := 4294967295 - crcL 4294967295 l

theorem quarter_lt (i : Nat) : quarterL.getD i 0 < 4294967296 := by
  rcases Nat.lt_or_ge i 16 with h | h
  · have : ∀ i : Fin 16, quarterL.getD i.val 0 < 4294967296 := by decide
    exact this ⟨i, h⟩
  · rw [List.getD_eq_getElem?_getD, List.getElem?_eq_none (by simpa [quarterL] using h)]
    decide
theorem nib_lt {c : Nat} (h : c < 4294967296) : nib c < 4294967296 := by
  unfold nib
  exact Nat.xor_lt_two_pow (n := 32) (by omega) (quarter_lt _)
theorem stepB_lt {c b : Nat} (h : c < 4294967296) (hb : b < 4294967296) : stepB c b < 4294967296 :=
  nib_lt (nib_lt (Nat.xor_lt_two_pow (n := 32) h hb))
theorem crcL_lt {c : Nat} (h : c < 4294967296) (l : List UInt8) : crcL c l < 4294967296 := by
  unfold crcL
  induction l generalizing c with
  | nil => exact h
  | cons b r ih => exact ih (stepB_lt h (by have := b.toNat_lt; omega))
theorem crcL_snoc (c : Nat) (l : List UInt8) (b : UInt8) : crcL c (l ++ [b]) = stepB (crcL c l) b.toNat := by simp [crcL]
theorem crcL_append (c : Nat) (l m : List UInt8) : crcL c (l ++ m) = crcL (crcL c l) m := by simp [crcL]
theorem sumL_lt (l : List UInt8) : sumL l < 4294967296 := by unfold sumL; omega
theorem xor_ones {c : Nat} (h : c < 4294967296) : 4294967295 ^^^ c = 4294967295 - c := by
  have h1 : (BitVec.allOnes 32 ^^^ BitVec.ofNat 32 c).toNat = (~~~ BitVec.ofNat 32 c).toNat := by rw [BitVec.allOnes_xor]
  rw [BitVec.toNat_xor, BitVec.toNat_not, BitVec.toNat_allOnes, BitVec.toNat_ofNat, Nat.mod_eq_of_lt (by omega)] at h1
  simpa using h1
theorem take_snoc {α : Type} (l : List α) (k : Nat) (h : k < l.length) : l.take (k + 1) = l.take k ++ [l[k]] := by
  rw [List.take_succ_eq_append_getElem h]
end Go.Proofs.YtpffieogkfndaaaDoor

namespace Go.Proofs.YtpffieogkfndaaaDoor
set_option maxRecDepth 20000
set_option linter.unusedVariables false
set_option linter.unusedSimpArgs false
open Go.RowKit

end Go.Proofs.YtpffieogkfndaaaDoor

namespace Go.Proofs.YtpffieogkfndaaaDoor
set_option maxRecDepth 20000
set_option linter.unusedVariables false
set_option linter.unusedSimpArgs false
open Go.RowKit

section
variable {P : Program} (w : World)
end
/-- append of bytes to bytes of the call's own, as one step of a region that draws its order -/
theorem step_appB {ops : Array Oper} {o : Oper} {a : Act} {w : World} {K : Act → World → Prop} {Q : Exit → Act → World → Prop} {E : Prop} (hgd : o.guard = none) (s x : Operand)
    (ho : o.op = .call { callee := .builtin .append, args := #[s, x], argTypes := #[29, 29] })
    (B : Nat) (A : Option Addr) (n c : Nat) (l : List UInt8) (hsv : a.eval s = .slice A n c) (hown : OwnB w B A n c l)
    (A2 : Option Addr) (m c2 : Nat) (l2 : List UInt8) (hx : a.eval x = .slice A2 m c2) (hs : Sl w 1 A2 m c2 (bc l2))
    (hbytes : n + m ≤ 140737488355328) (hB : B ≤ w.heap.size)
    (h : ∀ A' c' w', OwnB w' B A' (n + m) c' (l ++ l2) → w.grownBy w' (blk A c) → (blk A' c' = blk A c ∨ blk A' c' = some w.heap.size) → K (a.put o.dst (.slice A' (n + m) c')) w') :
    if Region.wanted o (yielded ops a.tmps) = true then Oper.wp Tryd.prog o a w K Q else E := by
  have hw : Region.wanted o (yielded ops a.tmps) = true := by simp [Region.wanted, hgd]
  rw [if_pos hw]
  obtain ⟨i, hi, hz, hs1, hb1⟩ := info_parts infoB
  obtain ⟨A', c', w', hrun, h2, h3, h4⟩ := run_append_own2 (P := Tryd.prog) w B 29 o.type _ i _ 1 1 Tryd.underlying29 hi hz hs1 hb1 rfl A n c (bc l) hown A2 m c2 (bc l2) hs (bc_one _) (by unfold maxLen; omega) (by omega) hB
  unfold Oper.wp execOp
  simp only [ho, resolve, invoke, builtin, Sem.run_bind, Sem.run_pure, Result.andThen_ok, List.map_toArray, List.map_cons, List.map_nil, hsv, hx, hrun]
  exact h A' c' w' (by unfold OwnB; rw [bc_append]; exact h2) h3 h4
end Go.Proofs.YtpffieogkfndaaaDoor

namespace Go.Proofs.YtpffieogkfndaaaDoor
set_option maxRecDepth 20000
set_option linter.unusedVariables false
set_option linter.unusedSimpArgs false
open Go.RowKit

theorem run_sizeP (w : World) : (sizeOf 29).run Tryd.prog w = .ok 1 w := by
  obtain ⟨i, hi, _, hs, _⟩ := info_parts infoP
  simp [sizeOf, typeInfo, hi, hs]
theorem PartsOf.take {w : World} {vs : List Value} {ls : List (List UInt8)} (h : PartsOf w vs ls) (k : Nat) : PartsOf w (vs.take k) (ls.take k) :=
  ⟨by simp [h.1], fun i v l hv hl => by
    rw [List.getElem?_take] at hv hl
    split at hv
    · rename_i hi
      rw [if_pos hi] at hl
      exact h.2 i v l hv hl
    · cases hv⟩
theorem PartsOf.drop {w : World} {vs : List Value} {ls : List (List UInt8)} (h : PartsOf w vs ls) (k : Nat) : PartsOf w (vs.drop k) (ls.drop k) :=
  ⟨by simp [h.1], fun i v l hv hl => by
    rw [List.getElem?_drop] at hv hl
    exact h.2 _ v l hv hl⟩
/-- l[k:] -/
theorem cutLP {w : World} {A : Option Addr} {n c : Nat} {vs : List Value} (h : Sl w 1 A n c vs) (q : IntKind) (i : Int) (lo : Nat) (ei : i = lo) (h2 : lo ≤ n) :
    ∃ A', (∀ w' : World, (Instr.slice 59 (.slice A n c) (some (.int q i)) none none).run Tryd.prog w' = .ok (.slice A' (n - lo) (c - lo)) w') ∧ Sl w 1 A' (n - lo) (c - lo) (vs.drop lo) := by
  have hcap := h.cap
  have hl := h.len
  subst ei
  refine ⟨if c = lo then A else A.map (·.add (lo * 1)), fun w' => ?_, ?_⟩
  · have := run_slice_l (P := Tryd.prog) w' 59 A n c Tryd.underlying59 q lo (by omega) (by omega)
    rw [this]
    show ((sizeOf 29).run Tryd.prog w').andThen _ = _
    rw [run_sizeP]
    simp only [Result.andThen, sliced, Int.toNat_natCast]
  · have := h.cut (lo := lo) (hi := n) (m := c) h2 (Nat.le_refl _) (by omega) (Nat.le_refl _)
    simp only [Nat.mul_one] at this
    rw [List.take_of_length_le (by simp; omega)] at this
    rw [Nat.mul_one]
    exact this
/-- where p[k:] lies -/
def tailA (A : Option Addr) (c k : Nat) : Option Addr := if c = k then A else A.map (·.add (k * 1))
theorem run_tailB (w' : World) (A : Option Addr) (n c : Nat) (q : IntKind) (i : Int) (k : Nat) (ei : i = k) (hk : k ≤ n) :
    (Instr.slice 29 (.slice A n c) (some (.int q i)) none none).run Tryd.prog w' = .ok (.slice (tailA A c k) (n - k) (c - k)) w' := by
  subst ei
  have := run_slice_l (P := Tryd.prog) w' 29 A n c Tryd.underlying29 q k (by omega) (by omega)
  rw [this]
  show ((sizeOf 5).run Tryd.prog w').andThen _ = _
  rw [run_sizeB]
  simp only [Result.andThen, sliced, Int.toNat_natCast]
  rfl
section
variable {P : Program} (w : World)
/-- copy onto the tail of what the call owns -/
theorem run_copy_sub (B : Nat) (t ty e : TypeId) (i : TypeInfo) (ht : P.underlying t = some (.slice e)) (hi : P.info? e = some i) (hsize : i.size = 1)
    (A : Option Addr) (n c : Nat) (xs : List Value) (hown : Own w B e 1 A n c xs) (k : Nat) (hk : k ≤ n)
    (A2 : Option Addr) (m c2 : Nat) (news : List Value) (hs : Sl w 1 A2 m c2 news) (h1 : ∀ u ∈ news, u.oneCell' = true) (hmn : k + m ≤ n) :
    ∃ w', (Builtin.copy_ #[t, t] ty #[.slice (tailA A c k) (n - k) (c - k), .slice A2 m c2]).run P w = .ok (goInt m) w' ∧ Own w' B e 1 A n c (xs.take k ++ news ++ xs.drop (k + m)) ∧ w.grownBy w' (blk A c) := by
  have hf := run_first (P := P) w 1 m c2 A2 news hs
  have hnl : news.length = m := by have := hs.len; omega
  have hxl : xs.length = n := by have := hown.len; omega
  have hmin : Nat.min m (n - k) = m := Nat.min_eq_left (by omega)
  have hcap := hown.cap
  by_cases hck : c = k
  · obtain rfl : n = k := by omega
    obtain rfl : m = 0 := by omega
    obtain rfl : news = [] := List.eq_nil_of_length_eq_zero hnl
    refine ⟨w, ?_, ?_, World.grownBy.refl w _⟩
    · unfold tailA
      rw [if_pos hck]
      cases A <;> simp [Builtin.copy_, run_underlying ht, sizeOf, typeInfo, hi, hsize, Builtin.lenOf, hf, storeCells]
    · have e1 : xs.take n ++ [] ++ xs.drop (n + 0) = xs := by
        rw [List.append_nil, Nat.add_zero, List.take_append_drop]
      rw [e1]
      exact hown
  · obtain ⟨g, o, cur, rfl, hb, hh, hfit, htk⟩ := hown.row (by omega)
    rw [Nat.mul_one] at hfit htk
    have hst := run_storeCells_at P g (o + k) e news 0 cur w hh (by simp; omega) h1
    simp only [Nat.add_zero] at hst
    have eA : tailA (some ⟨g, o, none⟩) c k = some ⟨g, o + k, none⟩ := by
      unfold tailA
      rw [if_neg hck]
      simp [Addr.add_lit]
    rw [eA]
    refine ⟨w.setRow g (cur.toList.take (o + k) ++ news ++ cur.toList.drop (o + k + news.length)).toArray, ?_, ⟨by simp; omega, hcap, hown.capm, fun _ => ⟨g, o, _, rfl, hb, setRow_heap w g cur _ e _ hh, ?_, ?_⟩⟩, ⟨rfl, rfl, rfl, by simp, fun j _ hj => setRow_other w g j _ (fun e => hj (by simp [blk, e]; omega))⟩⟩
    · simp only [Builtin.copy_, List.getElem?_toArray]
      simp [run_underlying ht, sizeOf, typeInfo, hi, hsize, Builtin.lenOf, hmin, hf]
      rw [hst]
      simp [Result.andThen]
    · simp only [List.size_toArray, List.length_append, List.length_take, List.length_drop, Array.length_toList]
      omega
    · have hlo : o + k ≤ cur.toList.length := by simp; omega
      have e1 : cur.toList.take (o + k) = cur.toList.take o ++ xs.take k := by
        rw [List.take_add, ← htk, List.take_take, Nat.min_eq_left hk]
      have e2 : xs.drop (k + m) = ((cur.toList.drop (o + k + news.length)).take (n - (k + m))) := by
        rw [← htk, List.drop_take, List.drop_drop, hnl]
        congr 2
        omega
      rw [e1, e2]
      simp only [List.append_assoc, Nat.mul_one]
      rw [List.drop_left' (by simp; omega), ← List.append_assoc, List.take_append]
      rw [List.take_of_length_le (by simp; omega)]
      rw [List.append_assoc]
      congr 3
      simp
      omega
end
theorem tailA_zero (A : Option Addr) (c : Nat) : tailA A c 0 = A := by
  unfold tailA
  split
  · rfl
  · cases A <;> simp [Addr.add]
/-- copy of bytes into the midst of a row of the call's own, as an equation (the walk stands before it) -/
theorem run_cpySub (w : World) (B : Nat) (A : Option Addr) (n c : Nat) (xs : List Value) (hown : Own w B 5 1 A n c xs) (k : Nat) (hk : k ≤ n)
    (A2 : Option Addr) (m c2 : Nat) (l2 : List UInt8) (hs : Sl w 1 A2 m c2 (bc l2)) (hmn : k + m ≤ n) :
    ∃ w', (Builtin.copy_ #[29, 29] 3 #[.slice (tailA A c k) (n - k) (c - k), .slice A2 m c2]).run Tryd.prog w = .ok (.int .i64 (m : Int)) w' ∧ Own w' B 5 1 A n c (xs.take k ++ bc l2 ++ xs.drop (k + m)) ∧ w.grownBy w' (blk A c) := by
  obtain ⟨i, hi, hz, hs1, hb1⟩ := info_parts infoB
  exact run_copy_sub (P := Tryd.prog) w B 29 3 _ i Tryd.underlying29 hi hs1 A n c xs hown k hk A2 m c2 (bc l2) hs (bc_one _) hmn
theorem run_cpyHead (w : World) (B : Nat) (A : Option Addr) (n c : Nat) (xs : List Value) (hown : Own w B 5 1 A n c xs)
    (A2 : Option Addr) (m c2 : Nat) (l2 : List UInt8) (hs : Sl w 1 A2 m c2 (bc l2)) (hmn : m ≤ n) :
    ∃ w', (Builtin.copy_ #[29, 29] 3 #[.slice A n c, .slice A2 m c2]).run Tryd.prog w = .ok (.int .i64 (m : Int)) w' ∧ Own w' B 5 1 A n c (bc l2 ++ xs.drop m) ∧ w.grownBy w' (blk A c) := by
  obtain ⟨w', h1, h2, h3⟩ := run_cpySub w B A n c xs hown 0 (Nat.zero_le _) A2 m c2 l2 hs (by omega)
  rw [tailA_zero] at h1
  exact ⟨w', h1, by simpa using h2, h3⟩
end Go.Proofs.YtpffieogkfndaaaDoor

namespace Go.Proofs.YtpffieogkfndaaaDoor
set_option maxRecDepth 20000
set_option linter.unusedVariables false
set_option linter.unusedSimpArgs false
open Go.RowKit

theorem flat_take_succ (ls : List (List UInt8)) (i : Nat) (h : i < ls.length) : (ls.take (i + 1)).flatten = (ls.take i).flatten ++ ls[i] := by
  rw [List.take_succ_eq_append_getElem h, List.flatten_append, List.flatten_cons, List.flatten_nil, List.append_nil]
theorem flat_take_le (ls : List (List UInt8)) (i : Nat) : (ls.take i).flatten.length ≤ ls.flatten.length := by
  have h : ls.flatten = (ls.take i).flatten ++ (ls.drop i).flatten := by rw [← List.flatten_append, List.take_append_drop]
  rw [h]
  simp
set_option maxRecDepth 100000 in
set_option maxHeartbeats 4000000 in
theorem join_any (w : World) (A : Option Addr) (n c : Nat) (vs : List Value) (ls : List (List UInt8)) (h : Sl w 1 A n c vs) (hp : PartsOf w vs ls) (hn : n ≤ 1000000) (hF : ls.flatten.length ≤ 1099511627776) :
    Calls Tryd.prog 59 #[.slice A n c, .slice none 0 0] w (NewB w ls.flatten) := by
  have Hl : Hid (ls.length = n) := by have h1 := h.len; have h2 := hp.1; unfold Hid; omega
  have hcap := h.cap
  have hcm := h.capm
  unfold maxLen at hcm
  by_cases h0 : n = 0
  · subst h0
    obtain rfl : ls = [] := List.eq_nil_of_length_eq_zero Hl.out
    go_enter Tryd.func59, Tryd.ntmps59
    go_wp2
    go_ret
    exact ⟨_, 0, 0, rfl, Own.nil _ _ _ _ _, (Below.refl w.heap.size w).alloc (Nat.le_refl _) _⟩
  by_cases h1 : n = 1
  · subst h1
    obtain ⟨b, o, A', n', c', hkl, rfl, hcell, hsl⟩ := hp.get h (k := 0) (by omega)
    have e : ls.flatten = ls[0] := by
      have h2 := flat_take_succ ls 0 hkl
      rw [List.take_of_length_le (by have := Hl.out; omega)] at h2
      simpa using h2
    rw [e] at hF ⊢
    have hl0 := hsl.lenb
    have hn' : n' ≤ 1099511627776 := by omega
    clear e hF hl0
    generalize ls[0] = l at *
    rw [Nat.add_zero] at hcell
    go_enter Tryd.func59, Tryd.ntmps59
    go_wp2_with (at_builtin; refine wpList_appB _ rfl (.const (.slice none 0 0)) (.tmp 21) rfl w.heap.size _ 0 0 [] rfl (Own.nil _ _ _ _ _) A' n' c' l rfl hsl ?_ ?_ ?_)
    · omega
    · exact Nat.le_refl _
    · intro A3 c3 w3 ho3 hg3 _
      go_wp2
      go_ret
      exact ⟨A3, _, c3, rfl, by simpa using ho3, (Below.refl w.heap.size w).grown hg3 (Nat.le_refl _) (by simp [blk])⟩
  have f0 : ((n : Int) == 0) = false := by simp; omega
  have f1 : ((n : Int) == 1) = false := by simp; omega
  have hmix : Tryd.prog.follows .mixedOrders = true := by kernel_rfl
  obtain ⟨T, hT⟩ : ∃ T, ls.flatten.length = T := ⟨_, rfl⟩
  rw [hT] at hF
  have HT := Lib.hid hT
  clear hT
  go_enter Tryd.func59, Tryd.ntmps59
  go_wp2
  go_loop [5, 44] (fun s i => ∃ j : Nat, j ≤ n ∧ i = .int .i64 j ∧ s = .int .i64 ((ls.take j).flatten.length : Nat)) (fun _ i => n - (intOf i).toNat)
  case atStart => exact ⟨0, Nat.zero_le _, rfl, rfl⟩
  case round =>
    obtain ⟨j, hj, rfl, rfl⟩ := hrel
    by_cases hlt : j < n
    · obtain ⟨b, o, A', n', c', hkl, rfl, hcell, hsl⟩ := hp.get h hlt
      have hs1 := flat_take_succ ls j hkl
      have hs2 := flat_take_le ls (j + 1)
      have hs3 := congrArg List.length hs1
      rw [List.length_append, hsl.lenb] at hs3
      rw [HT.out, hs3] at hs2
      generalize (ls.take j).flatten.length = acc at *
      have Hs3 := Lib.hid hs3
      have hb : ¬ (9223372036854775807 - (acc : Int) < (n' : Int)) := by omega
      clear hs1 hs3
      go_wp2
      go_round
      case rel => exact ⟨j + 1, by omega, by go_num, by rw [Hs3.out]; go_num⟩
      case measure => simp [intOf]; omega
    · obtain rfl : n = j := by omega
      rw [List.take_of_length_le (show ls.length ≤ n by have := Hl.out; omega), HT.out]
      obtain ⟨cs, hrunM, hle, hcm2⟩ := Lib.run_makeNoZero (P := Tryd.prog) w #[3] 29 5 Tryd.underlying29 T (by omega)
      have hcall : (callFunc 80 #[.int .i64 (T : Int)]).run Tryd.prog w = .ok (.value (.slice (some ⟨w.heap.size, 0, none⟩) T cs.size)) (w.drew.drew.alloc (.cells cs 5)) := by
        rw [run_callFunc_extern Tryd.func80 (by kernel_rfl) (by kernel_rfl) (by kernel_rfl) (e := Extern.BytealgMakeNoZero.makeNoZero #[3] #[29]) (by kernel_rfl), hrunM]
        rfl
      clear hrunM
      have i0 : (0 : Int) ≤ (T : Int) := by omega
      have i1 : (T : Int) ≤ (cs.size : Int) := by omega
      obtain ⟨wM, hwM⟩ : ∃ wM, w.drew.drew.alloc (.cells cs 5) = wM := ⟨_, rfl⟩
      have hbM : Below w.heap.size w wM := by rw [← hwM]; exact (((Below.refl w.heap.size w).drew).drew).alloc (Nat.le_refl _) _
      have hoM : Own wM w.heap.size 5 1 (some ⟨w.heap.size, 0, none⟩) T T (cs.toList.take T) := by
        rw [← hwM]
        exact ⟨by simp; omega, Nat.le_refl _, by unfold maxLen; omega, fun _ => ⟨w.heap.size, 0, cs, rfl, Nat.le_refl _, heap_alloc_new w.drew.drew _, by omega, by simp⟩⟩
      rw [hwM] at hcall
      obtain ⟨b, o, A', n', c', hkl, rfl, hcell, hsl⟩ := (hp.below hbM).get (h.below (by omega) hbM) (k := 0) (by omega)
      rw [Nat.add_zero] at hcell
      have hs1 := flat_take_succ ls 0 hkl
      have hs2 := flat_take_le ls (0 + 1)
      rw [List.take_zero, List.flatten_nil, List.nil_append] at hs1
      rw [hs1, hsl.lenb, HT.out] at hs2
      have Hs1 := Lib.hid hs1
      have HoM := Lib.hid hoM
      clear hs1 hwM hoM hcm2
      obtain ⟨A7, hr7, hs7⟩ := cutLP h .i64 (1 : Int) 1 rfl (by omega)
      have hp7 := hp.drop 1
      go_wp2_with fail
      obtain ⟨w1, hrun1, ho1, hg1⟩ := run_cpyHead wM w.heap.size (some ⟨w.heap.size, 0, none⟩) T T _ HoM.out A' n' c' _ hsl (by omega)
      rw [hrun1]
      have hb1 : Below w.heap.size w w1 := hbM.grown hg1 hbM.size (fun b hb => (Own.lt HoM.out b hb).1)
      have Ho1 := Lib.hid ho1
      have Hn' : Hid (ls[0].length = n') := hsl.lenb
      clear ho1 hg1 hcall hcell hbM hsl hrun1
      go_wp2
      go_loopw [9, 72] (fun s i wr => ∃ j : Nat, j ≤ n - 1 ∧ i = .int .i64 j ∧ s = .int .i64 ((ls.take (j + 1)).flatten.length : Nat) ∧ Below w.heap.size w wr ∧ ∃ junk, Own wr w.heap.size 5 1 (some ⟨w.heap.size, 0, none⟩) T T (bc (ls.take (j + 1)).flatten ++ junk)) (fun _ i _ => n - 1 - (intOf i).toNat)
      case atStart => exact ⟨0, Nat.zero_le _, rfl, by rw [Hs1.out, Hn'.out], hb1, _, by rw [Hs1.out]; exact Ho1.out⟩
      case round =>
        clear hb1
        obtain ⟨j, hj, rfl, rfl, hbr, junk, hor⟩ := hrel
        by_cases hlt : j < n - 1
        · obtain ⟨b2, o2, A2, n2, c2, hkl2, eA7, hcell2, hsl2⟩ := (hp7.below hbr).get (hs7.below (by omega) hbr) hlt
          subst eA7
          have hj1 : j + 1 < ls.length := by have := Hl.out; omega
          have hs3 := flat_take_succ ls (j + 1) hj1
          have hs4 := flat_take_le ls (j + 1 + 1)
          have e5 : (ls.drop 1)[j] = ls[j + 1] := by simp
          rw [e5] at hsl2
          rw [hs3, List.length_append, hsl2.lenb, HT.out] at hs4
          have hs5 := congrArg List.length hs3
          rw [List.length_append, hsl2.lenb] at hs5
          obtain ⟨D, hD⟩ : ∃ D, (ls.take (j + 1)).flatten = D := ⟨_, rfl⟩
          rw [hD] at hor hs3 hs4 hs5
          rw [hD]
          obtain ⟨d, hd⟩ : ∃ d, D.length = d := ⟨_, rfl⟩
          rw [hd] at hs4 hs5
          rw [hd]
          have Hd := Lib.hid hd
          have Hs3 := Lib.hid hs3
          have Hs5 := Lib.hid hs5
          have Hor := Lib.hid hor
          have hlt' : (j : Int) < (n : Int) - 1 := by omega
          have hlt2 : (j : Int) < ((n - 1 : Nat) : Int) := by omega
          have ht := fun w' => run_tailB w' (some ⟨w.heap.size, 0, none⟩) T T .i64 (d : Int) d rfl (by omega)
          clear hD hd hs3 hs5 hor e5
          have hcell2 := hcell2
          go_wp2_with fail
          obtain ⟨w2, hrun2, ho2, hg2⟩ := run_cpySub wr w.heap.size (some ⟨w.heap.size, 0, none⟩) T T _ Hor.out d (by omega) none 0 0 [] (Sl.nil _ _ _ _ (Nat.zero_le _)) (by omega)
          rw [hrun2]
          rw [bc_nil, List.append_nil, Nat.add_zero, List.take_append_drop] at ho2
          have hb2 : Below w.heap.size w w2 := hbr.grown hg2 hbr.size (fun b hb => (Own.lt Hor.out b hb).1)
          have Ho2 := Lib.hid ho2
          have hsl3 : Sl w2 1 A2 n2 c2 (bc ls[j + 1]) := hsl2.keep fun hn2 b hb => (hg2.block b (hsl2.lt (by omega) hn2 b hb) (fun e => by
            have h1 := (Own.lt Hor.out b e.symm).1
            obtain ⟨A9, n9, c9, hv9, hs9⟩ := hp7.2 j _ _ (List.getElem?_eq_getElem (by have h5 := hp7.1; omega)) (List.getElem?_eq_getElem hkl2)
            have h5 := hs7.below (w' := wr) (by omega) hbr
            obtain ⟨b5, o5, u5, e5, hu5, hc5⟩ := h5.cell hlt
            obtain ⟨rfl, rfl⟩ : b2 = b5 ∧ o2 = o5 := by simpa using e5
            rw [hcell2] at hc5
            rw [List.getElem?_eq_getElem (by have h6 := hp7.1; omega)] at hu5
            have h7 := (Option.some.inj hu5).trans (Option.some.inj hc5).symm
            rw [h7] at hv9
            injection hv9 with q1 q2 q3
            subst q1
            subst q2
            have h8 := hs9.lt (by omega) hn2 b hb
            omega))
          clear hrun2 ho2 hg2
          go_wp2_with fail
          obtain ⟨w3, hrun3, ho3, hg3⟩ := run_cpySub w2 w.heap.size (some ⟨w.heap.size, 0, none⟩) T T _ Ho2.out d (by omega) A2 n2 c2 _ hsl3 (by omega)
          rw [hrun3]
          have hb3 : Below w.heap.size w w3 := hb2.grown hg3 hb2.size (fun b hb => (Own.lt Ho2.out b hb).1)
          rw [List.take_left' (by rw [length_bc]; exact Hd.out)] at ho3
          rw [← bc_append] at ho3
          have Ho3 := Lib.hid ho3
          clear hrun3 ho3 hg3
          go_wp2
          go_roundw
          case rel => exact ⟨j + 1, by omega, by go_num, by rw [Hs5.out]; go_num, hb3, _, by rw [Hs3.out]; exact Ho3.out⟩
          case measure => simp [intOf]; omega
        · have hjn : j + 1 = n := by omega
          have hlt3 : ¬ ((j : Int) < (n : Int) - 1) := by omega
          have hlt4 : ¬ ((j : Int) < ((n - 1 : Nat) : Int)) := by omega
          have hall : ls.take (j + 1) = ls := List.take_of_length_le (by have := Hl.out; omega)
          rw [hall] at hor
          have hlen := hor.len
          rw [List.length_append, length_bc, HT.out] at hlen
          obtain rfl : junk = [] := List.eq_nil_of_length_eq_zero (by omega)
          rw [List.append_nil] at hor
          have Hor := Lib.hid hor
          clear hall hlen hor hjn
          go_wp2
          go_ret
          exact ⟨_, T, T, rfl, Hor.out, hbr⟩
end Go.Proofs.YtpffieogkfndaaaDoor

namespace Go.Proofs.YtpffieogkfndaaaDoor
set_option maxRecDepth 20000
set_option linter.unusedVariables false
set_option linter.unusedSimpArgs false

def takeN (bits : Int) : Nat := if bits < 1 then 1 else if bits > 100 then 100 else bits.toNat
theorem takeN_pos (b : Int) : 1 ≤ takeN b := by unfold takeN; split <;> (try split) <;> omega
theorem takeN_le (b : Int) : takeN b ≤ 100 := by unfold takeN; split <;> (try split) <;> omega
def probesN (bits : Int) : Nat := if takeN bits * 69 / 100 < 1 then 1 else if takeN bits * 69 / 100 > 30 then 30 else takeN bits * 69 / 100
theorem probesN_pos (b : Int) : 1 ≤ probesN b := by unfold probesN; split <;> (try split) <;> omega
theorem probesN_le (b : Int) : probesN b ≤ 30 := by unfold probesN; split <;> (try split) <;> omega

/-- a key's first hash, from h on -/
def fnvL (h : Nat) (key : List UInt8) : Nat := key.foldl (fun h b => (h ^^^ b.toNat) * 16777619 % 4294967296) h
theorem fnvL_lt (key : List UInt8) {h : Nat} (hh : h < 4294967296) : fnvL h key < 4294967296 := by
  induction key generalizing h with
  | nil => exact hh
  | cons b t ih =>
    have h1 : (h ^^^ b.toNat) * 16777619 % 4294967296 < 4294967296 := Nat.mod_lt _ (by decide)
    unfold fnvL
    rw [List.foldl_cons]
    generalize (h ^^^ b.toNat) * 16777619 % 4294967296 = z at *
    exact ih h1
theorem fnvL_snoc (h : Nat) (l : List UInt8) (b : UInt8) : fnvL h (l ++ [b]) = (fnvL h l ^^^ b.toNat) * 16777619 % 4294967296 := by
  unfold fnvL
  rw [List.foldl_append, List.foldl_cons, List.foldl_nil]
theorem basis_lt : (2166136261 : Nat) < 4294967296 := by decide
def hashL (key : List UInt8) : Nat := fnvL 2166136261 key
theorem hashL_lt (key : List UInt8) : hashL key < 4294967296 := fnvL_lt key basis_lt
def stepL (key : List UInt8) : Nat := if sumL key % 2 = 0 then sumL key + 1 else sumL key
/-- the i-th probe of so many bits -/
def probeL (key : List UInt8) (m i : Nat) : Nat := (hashL key + i * stepL key) % 4294967296 % m
theorem probeL_lt (key : List UInt8) {m : Nat} (hm : 0 < m) (i : Nat) : probeL key m i < m := Nat.mod_lt _ hm
theorem or_one (x : Nat) : x ||| 1 = if x % 2 = 0 then x + 1 else x := by
  apply Nat.eq_of_testBit_eq
  intro i
  cases i with
  | zero => split <;> simp [Nat.testBit_zero] <;> omega
  | succ i =>
    have h1 : (1 : Nat).testBit (i + 1) = false := by simp [Nat.testBit_succ]
    rw [Nat.testBit_or, h1, Bool.or_false, Nat.testBit_succ, Nat.testBit_succ]
    congr 1
    split <;> omega

/-- the bits that are set -/
def setAll (s : List Bool) (ks : List Nat) : List Bool := ks.foldl (fun s k => s.set k true) s
@[simp] theorem setAll_length (s : List Bool) (ks : List Nat) : (setAll s ks).length = s.length := by
  induction ks generalizing s with
  | nil => rfl
  | cons k t ih => simp [setAll] at ih ⊢; rw [ih]; simp
theorem setAll_append (s : List Bool) (a b : List Nat) : setAll s (a ++ b) = setAll (setAll s a) b := by simp [setAll]
theorem setAll_snoc (s : List Bool) (a : List Nat) (k : Nat) : setAll s (a ++ [k]) = (setAll s a).set k true := by simp [setAll]
def probesL (key : List UInt8) (m p : Nat) : List Nat := (List.range p).map (probeL key m)
theorem probesL_mem {key : List UInt8} {m p k : Nat} : k ∈ probesL key m p ↔ ∃ i, i < p ∧ probeL key m i = k := by simp [probesL]
def bitsL (keys : List (List UInt8)) (m p : Nat) : List Bool := setAll (List.replicate m false) (keys.flatMap fun key => probesL key m p)
@[simp] theorem bitsL_length (keys : List (List UInt8)) (m p : Nat) : (bitsL keys m p).length = m := by simp [bitsL]
/-- the byte j of the bits -/
def byteN (s : List Bool) (j : Nat) : Nat := (List.range 8).foldr (fun k acc => (s[8 * j + k]?.getD false).toNat + 2 * acc) 0
theorem foldr_bits (f : Nat → Bool) (n lo i : Nat) : ((List.range' lo n).foldr (fun k acc => (f k).toNat + 2 * acc) 0).testBit i = (decide (i < n) && f (lo + i)) := by
  induction n generalizing lo i with
  | zero => simp
  | succ n ih =>
    rw [List.range'_succ, List.foldr_cons]
    cases i with
    | zero =>
      rw [Nat.testBit_zero]
      cases f lo <;> simp <;> omega
    | succ i =>
      rw [Nat.testBit_succ]
      have e : ∀ y : Nat, ((f lo).toNat + 2 * y) / 2 = y := by intro y; cases f lo <;> simp <;> omega
      rw [e, ih]
      simp [Nat.add_comm, Nat.add_left_comm]
theorem byteN_bit (s : List Bool) (j i : Nat) : (byteN s j).testBit i = (decide (i < 8) && (s[8 * j + i]?.getD false)) := by
  have := foldr_bits (fun k => s[8 * j + k]?.getD false) 8 0 i
  rw [← List.range_eq_range', Nat.zero_add] at this
  exact this
theorem byteN_lt (s : List Bool) (j : Nat) : byteN s j < 256 := by
  refine Nat.lt_pow_two_of_testBit (n := 8) _ fun i hi => ?_
  rw [byteN_bit]
  have h1 : ¬ i < 8 := by omega
  simp [h1]
def bytesN (s : List Bool) (n : Nat) : List UInt8 := (List.range n).map fun j => (byteN s j).toUInt8
@[simp] theorem bytesN_length (s : List Bool) (n : Nat) : (bytesN s n).length = n := by simp [bytesN]
theorem bytesN_get (s : List Bool) (n j : Nat) (h : j < (bytesN s n).length) : (bytesN s n)[j].toNat = byteN s j := by
  simp [bytesN]
  exact byteN_lt s j
theorem byteN_set_other (s : List Bool) (k j : Nat) (h : j ≠ k / 8) : byteN (s.set k true) j = byteN s j := by
  apply Nat.eq_of_testBit_eq
  intro i
  rw [byteN_bit, byteN_bit]
  by_cases hi : i < 8
  · rw [List.getElem?_set, if_neg (by omega)]
  · simp [hi]
theorem byteN_set (s : List Bool) (k : Nat) (h : k < s.length) : byteN (s.set k true) (k / 8) = byteN s (k / 8) ||| 2 ^ (k % 8) := by
  apply Nat.eq_of_testBit_eq
  intro i
  rw [Nat.testBit_or, byteN_bit, byteN_bit, Nat.testBit_two_pow]
  by_cases hi : i < 8
  · rw [List.getElem?_set]
    by_cases hk : k = 8 * (k / 8) + i
    · have h2 : k % 8 = i := by omega
      rw [if_pos hk]
      simp [hi, h2, ← hk, h]
    · have h2 : ¬ k % 8 = i := by omega
      rw [if_neg hk]
      simp [hi, h2]
  · have h2 : ¬ k % 8 = i := by omega
    simp [hi, h2]
theorem bytesN_set (s : List Bool) (n k : Nat) (h : k < s.length) (_hn : k / 8 < n) : bytesN (s.set k true) n = (bytesN s n).set (k / 8) (byteN s (k / 8) ||| 2 ^ (k % 8)).toUInt8 := by
  apply List.ext_getElem
  · simp
  · intro j h1 h2
    rw [List.getElem_set]
    by_cases hj : k / 8 = j
    · rw [if_pos hj]
      subst hj
      simp [bytesN, byteN_set s k h]
    · rw [if_neg hj]
      simp [bytesN, byteN_set_other s k j (fun e => hj e.symm)]
theorem bytesN_none (m n : Nat) : bytesN (List.replicate m false) n = List.replicate n 0 := by
  apply List.ext_getElem
  · simp
  · intro j h1 h2
    have : byteN (List.replicate m false) j = 0 := by
      apply Nat.eq_of_testBit_eq
      intro i
      rw [byteN_bit]
      simp [List.getElem?_replicate]
      intro _ 
      split <;> rfl
    simp [bytesN, this]

def sizeN (bits : Int) (k : Nat) : Nat := max ((takeN bits * k + 7) / 8) 8
def buildL (bits : Int) (keys : List (List UInt8)) : List UInt8 :=
  bytesN (bitsL keys (8 * sizeN bits keys.length) (probesN bits)) (sizeN bits keys.length) ++ [(probesN bits).toUInt8]
/-- is the bit k of a text set? -/
def bitL (f : List UInt8) (k : Nat) : Bool := (f[k / 8]?.getD 0).toNat.testBit (k % 8)
def hasL (f key : List UInt8) : Bool :=
  if f.length < 9 ∨ (f[f.length - 1]?.getD 0).toNat < 1 ∨ 30 < (f[f.length - 1]?.getD 0).toNat then true
  else (probesL key (8 * (f.length - 1)) (f[f.length - 1]?.getD 0).toNat).all (bitL f)
end Go.Proofs.YtpffieogkfndaaaDoor

namespace Go.Proofs.YtpffieogkfndaaaDoor
open Go.RowKit
set_option maxRecDepth 20000
set_option linter.unusedVariables false
set_option linter.unusedSimpArgs false
section
variable {P : Program} {ops : Array Oper} {Q : Exit → Act → World → Prop} {md : Region.Mode} {l n : Nat}
theorem oper_bridge {o : Oper} {a : Act} {w : World} {K : Act → World → Prop} (hd : ∀ c, o.op ≠ .defer c) (h : o.wp P a w K Q) : o.wpIn (Fence.wide.inRound l) n P a w K Q := by
  unfold Oper.wpIn
  refine ⟨fun _ _ => trivial, ?_⟩
  rw [show (Fence.wide.inRound l).round = some l from rfl, Oper.semAt_some l _ _ hd]
  unfold Oper.wp at h
  generalize (execOp a.eval o).run P w = r at *
  cases r with
  | ok x w' =>
    cases x
    case enter f args => exact ⟨(fun q => by cases q), CallsIn.inRound l (callsIn_wide.2 h)⟩
    case row r args => exact ⟨(fun q => by cases q), fun c cs _ => let ⟨v, w', r, s⟩ := h c cs; ⟨v, w', r, stepsIn_wide.2 s⟩⟩
    case round => exact h.elim
    all_goals exact h
  | halt x w' => cases x <;> exact h
theorem any_bridge {S : Nat → World → World → Prop} (hd : ∀ (i : Nat) (o : Oper) c, ops[i]? = some o → o.op ≠ .defer c) (hout : ¬ LetsOut Q) :
    ∀ (fuel : Nat) (listed : Array Bool) (a : Act) (w : World), AnyF P md ops Q S fuel listed a w → wpAnyIn (Fence.wide.inRound l) n P md ops Q fuel listed a w
  | 0, _, _, _, h => h
  | fuel + 1, listed, a, w, h => by
    refine ⟨h.1, fun i hi => ?_⟩
    have h2 := h.2 i hi
    unfold wpOp at h2
    unfold wpOpIn
    split at h2
    · rename_i ho
      rw [ho]
      exact any_bridge hd hout fuel _ _ _ h2.2
    · rename_i o ho
      rw [ho]
      simp only
      split at h2
      · rename_i hw
        rw [if_pos hw]
        rcases h2 with h2 | ⟨_, h2⟩
        · exact oper_bridge (fun c => hd i o c ho) (Oper.wp_mono (fun a' w' q => any_bridge hd hout fuel _ a' w' q.2) h2)
        · exact absurd h2 hout
      · rename_i hw
        rw [if_neg hw]
        exact ⟨fun _ _ => trivial, any_bridge hd hout fuel _ _ _ h2.2⟩
theorem regionF_in {S : Nat → World → World → Prop} {id : Nat} {a : Act} {w : World} (hm : P.follows .mixedOrders = true) (hd : ∀ (i : Nat) (o : Oper) c, ops[i]? = some o → o.op ≠ .defer c) (hout : ¬ LetsOut Q)
    (h : AnyF P .any ops Q S ops.size (Array.replicate ops.size false) a w.drew) : (Code.region id ops true).wpIn (Fence.wide.inRound l) n P Q a w :=
  wpIn_region_any hm (any_bridge hd hout _ _ _ _ h)
end
end Go.Proofs.YtpffieogkfndaaaDoor
