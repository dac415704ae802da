/-
  The reference's Build of a leaf: what bytes entries make. (Printed by genleaf5.py.) No condition.
-/
import Derived.Test.YtpffieogkfndaaaGreatDoorJLeafCommon
import Derived.Deep.CutRange
namespace Go.Proofs.YtpffieogkfndaaaGreatDoor
open Go.RowKit
set_option maxRecDepth 100000
set_option linter.unusedVariables false
set_option linter.unusedSimpArgs false
def ic (l : List Nat) : List Value := l.map fun (x : Nat) => Value.int .i64 (x : Int)
theorem ic_len (l : List Nat) : (ic l).length = l.length := by simp [ic]
theorem ic_append (a b : List Nat) : ic (a ++ b) = ic a ++ ic b := by simp [ic]
theorem ic_get (l : List Nat) (i : Nat) : (ic l)[i]? = (l[i]?).map fun (x : Nat) => Value.int .i64 (x : Int) := by simp [ic]
theorem ic_one (l : List Nat) : ∀ u ∈ ic l, u.oneCell' = true := by
  intro u hu
  obtain ⟨_, _, rfl⟩ := List.mem_map.1 hu
  rfl
theorem infoInt : (Tryz.prog.info? 3).map (fun i => (i.zero, i.size, i.bytes)) = some (some (.int .i64 0), 1, 8) := by kernel_rfl
theorem wrap_pred (j q : Nat) (h : j = q + 1) (hb : j < 1000000) : IntKind.i64.wrap ((j : Int) - 1) = (q : Int) ∧ (j : Int) - 1 = (q : Int) := by
  rw [IntKind.wrap_i64]
  omega
theorem commonL_comm : ∀ a b : List UInt8, commonL a b = commonL b a
  | [], [] => rfl
  | [], _ :: _ => rfl
  | _ :: _, [] => rfl
  | a :: l, b :: m => by
    have ih := commonL_comm l m
    unfold commonL
    by_cases h : a = b
    · rw [if_pos h, if_pos h.symm, ih]
    · rw [if_neg h, if_neg (fun e => h e.symm)]
theorem starts_le (ls : List EntL) (h : ∀ e ∈ ls, checkKey e.key = 0 ∧ e.value.length ≤ 512) : ∀ x ∈ startsL ls, x ≤ 611 * ls.length := by
  intro x hx
  unfold startsL at hx
  obtain ⟨i, _, rfl⟩ := List.mem_map.1 hx
  have := leafBody_len (ls.take i) 0 [] (fun e he => h e (List.mem_of_mem_take he))
  rw [List.length_take] at this
  omega
set_option maxHeartbeats 32000000 in
theorem rbuild12_any (w : World) (p : Nat → Prop) (A : Option Addr) (n c : Nat) (ls : List EntL) (h : SlR w p A n c ls) :
    Calls Tryz.prog 49 #[.slice A n c] w (GotBE w (leafBE ls).1 (leafBE ls).2) := by
  have hl := h.lenR
  have ck := rcheck12_any w p A n c ls h
  unfold leafBE
  by_cases hc : checkLeafL ls = 0
  case neg =>
    rw [if_neg hc]
    generalize checkLeafL ls = q at *
    have t1 : ((q : Int) == 0) = false := by rw [beq_eq_false_iff_ne]; omega
    have t2 : ((q : Int) != 0) = true := by rw [bne_iff_ne]; omega
    have Ck := Lib.hid ck
    clear hc ck
    go_enter Tryz.func49, Tryz.ntmps49
    go_wp2_with fail
    refine Ck.out.mono ?_
    rintro e w1 ⟨rfl, hb1⟩
    go_wp2
    go_ret2
    exact ⟨none, 0, 0, rfl, Own.nil _ _ _ _ _, hb1⟩
  rw [if_pos hc]
  rw [hc] at ck
  obtain ⟨hn64, hok, _⟩ := checkLeaf_zero hc
  have Ck := Lib.hid ck
  have Hck := Lib.hid hc
  have Hok := Lib.hid hok
  have Hl := Lib.hid hl
  have hn : n ≤ 64 := by omega
  clear ck hc hok hl hn64
  go_enter Tryz.func49, Tryz.ntmps49
  go_wp2_with fail
  refine Ck.out.mono ?_
  rintro e w1 ⟨rfl, hb1⟩
  clear Ck
  go_wp2
  go_loopw [5, 6, 21] (fun o s i wr => ∃ j : Nat, j ≤ n ∧ i = .int .i64 j ∧ Below w.heap.size w wr ∧ ∃ A5 n5 c5, o = .slice A5 n5 c5 ∧ OwnB wr w.heap.size A5 n5 c5 (leafBodyL 0 [] (ls.take j)) ∧
    ∃ A6 n6 c6, s = .slice A6 n6 c6 ∧ Own wr w.heap.size 3 1 A6 n6 c6 (ic (startsL (ls.take j)))) (fun _ _ i _ => n - (intOf i).toNat)
  case atStart => exact ⟨0, Nat.zero_le _, rfl, hb1, none, 0, 0, rfl, Own.nil _ _ _ _ _, none, 0, 0, rfl, Own.nil _ _ _ _ _⟩
  case round =>
    clear hb1
    obtain ⟨j, hj, rfl, hbr, A5, n5, c5, rfl, ho5, A6, n6, c6, rfl, ho6⟩ := hrel
    by_cases hlt : j < n
    case neg =>
      obtain rfl : n = j := by omega
      rw [List.take_of_length_le (by have := Hl.out; omega)] at ho5 ho6
      have hn6 := ho6.len
      rw [ic_len] at hn6
      have hsl := starts_len ls
      have hbl := leafBody_len ls 0 [] Hok.out
      have hlb : leafBytesL ls = leafBodyL 0 [] ls ++ (twosL (startsL ls) ++ twoL (startsL ls).length) := rfl
      have hsn : twosL (startsL ls ++ [(startsL ls).length]) = twosL (startsL ls) ++ twoL (startsL ls).length := twosL_snoc _ _
      rw [← hsn] at hlb
      have hst6 : ∀ x ∈ startsL ls ++ [(startsL ls).length], x < 1000000 := by
        intro x hx
        rcases List.mem_append.1 hx with hx | hx
        · have := starts_le ls Hok.out x hx
          have := Hl.out
          omega
        · simp at hx
          have := Hl.out
          omega
      have htot : (leafBytesL ls).length ≤ 100000 := by have := leaf_len ls Hck.out; omega
      generalize leafBodyL 0 [] ls = out at *
      generalize leafBytesL ls = T at *
      have hm16 : n6 ≤ 16 := by have := Hl.out; omega
      have hn6' : (startsL ls).length = n6 := by omega
      rw [hn6'] at hlb hst6
      generalize startsL ls = st at *
      have hn5 := OwnB.len' ho5
      have Hn5 := Lib.hid hn5
      have Hn6 := Lib.hid hn6'
      have Hlb := Lib.hid hlb
      have Hst6 := Lib.hid hst6
      have Htot := Lib.hid htot
      have hn5b : n5 ≤ 100000 := by rw [hlb, List.length_append] at htot; omega
      have hlit : Sl (wr.alloc (.cells #[.int .i64 (n6 : Int)] 3)) 1 (some ⟨wr.heap.size, 0, none⟩) 1 1 (ic [n6]) := Sl.lit wr _ _ 1 _ _ rfl (by unfold maxLen; omega) rfl
      have al := (Below.refl wr.heap.size wr).alloc (Nat.le_refl _) (.cells #[.int .i64 (n6 : Int)] 3)
      have ho6 := Own.below ho6 al
      have ho5 : OwnB _ _ _ _ _ _ := Own.below ho5 al
      have hq := hbr.trans (al.mono hbr.size)
      clear hn6 hsl hbl hlb hsn hst6 htot hn6' hn5 hlt al hbr
      obtain ⟨iI, hiI, hzI, hsI, hbI⟩ := info_parts infoInt
      have hi63 : n6 ≤ 9223372036854775807 := by omega
      go_wp2_with (at_builtin; refine wpList_app _ rfl (.tmp 94) (.tmp 97) 135 rfl w.heap.size 3 iI _ 1 8 Tryz.underlying135 hiI hzI hsI hbI rfl A6 n6 c6 (ic st) rfl ho6 _ 1 1 (ic [n6]) rfl hlit (ic_one _) ?_ ?_ ?_ ?_)
      · unfold maxLen; omega
      · omega
      · exact hq.size
      intro A7 c7 w3 ho7 hg7 _
      rw [← ic_append] at ho7
      have ho5 : OwnB w3 _ _ _ _ _ := Own.grown ho5 hg7 (fun b h1 h2 => own_apart ho5 ho6 (by decide) b h1 h2)
      have hq := hq.grown hg7 hq.size (fun b hb => (Own.lt ho6 b hb).1)
      have hm7 : (st ++ [n6]).length = n6 + 1 := by rw [List.length_append, Hn6.out]; rfl
      generalize st ++ [n6] = S at *
      have Hm7 := Lib.hid hm7
      clear hm7 ho6 hg7 hlit hiI hzI hsI hbI
      go_wp2
      go_loopw [5, 100] (fun o q wx => ∃ i : Nat, i ≤ n6 + 1 ∧ q = .int .i64 i ∧ Below w.heap.size w wx ∧ ∃ A8 n8 c8, o = .slice A8 n8 c8 ∧ OwnB wx w.heap.size A8 n8 c8 (out ++ twosL (S.take i)) ∧ Own wx w.heap.size 3 1 A7 (n6 + 1) c7 (ic S)) (fun _ q _ => n6 + 1 - (intOf q).toNat)
      case atStart => exact ⟨0, Nat.zero_le _, rfl, hq, A5, n5, c5, rfl, by rw [List.take_zero]; simpa [twosL] using ho5, ho7⟩
      case round =>
        clear ho5 ho7 hq
        obtain ⟨i, hi, rfl, hq, A8, n8, c8, rfl, ho8, ho7⟩ := hrel
        by_cases hlt : i < n6 + 1
        case neg =>
          obtain rfl : i = n6 + 1 := by omega
          rw [List.take_of_length_le (by have := Hm7.out; omega), ← Hlb.out] at ho8
          go_wp2
          go_ret2
          exact ⟨A8, n8, c8, rfl, ho8, hq⟩
        have hn8 := OwnB.len' ho8
        rw [List.length_append, twosL_len, List.length_take, Hm7.out, Hn5.out] at hn8
        obtain ⟨b, o, u, rfl, hu, hc⟩ := ho7.sl.cell (k := i) (by omega)
        have hSl : i < S.length := by rw [Hm7.out]; exact hlt
        rw [ic_get, List.getElem?_eq_getElem hSl] at hu
        obtain rfl := Option.some.inj hu
        have hx := Hst6.out S[i] (List.getElem_mem hSl)
        have htk : twosL (S.take (i + 1)) = twosL (S.take i) ++ twoL S[i] := by rw [List.take_succ_eq_append_getElem hSl]; exact twosL_snoc _ _
        generalize S[i] = x at *
        obtain ⟨y, hy⟩ : ∃ y : Nat, x / 256 = y := ⟨_, rfl⟩
        have e1 : (x : Int) / 256 = (y : Int) := by omega
        have e3 : (x : Int).tdiv 256 = (y : Int) := by rw [Int.tdiv_eq_ediv_of_nonneg (by omega)]; exact e1
        have e4 : (x : Int).tmod 256 = (x : Int) % 256 := by rw [Int.tmod_eq_emod_of_nonneg (by omega)]
        have hyb : y < 1000000 := by omega
        have hl2 : Sl (wr.alloc (.cells #[.int .u8 ((x : Int) % 256 % 256), .int .u8 ((y : Int) % 256)] 5)) 1 (some ⟨wr.heap.size, 0, none⟩) 2 2 (bc (twoL x)) :=
          Sl.lit wr _ _ 2 _ _ rfl (by unfold maxLen; omega) (by simp [bc, twoL, hy])
        have hl3 : Sl (wr.alloc (.cells #[.int .u8 ((x : Int) % 256), .int .u8 ((y : Int) % 256)] 5)) 1 (some ⟨wr.heap.size, 0, none⟩) 2 2 (bc (twoL x)) :=
          Sl.lit wr _ _ 2 _ _ rfl (by unfold maxLen; omega) (by simp [bc, twoL, hy])
        have Htk := Lib.hid htk
        have Hi : Hid (i < n6 + 1) := hlt
        have al := fun o => (Below.refl wr.heap.size wr).alloc (Nat.le_refl _) o
        have hoa : ∀ o, OwnB (wr.alloc o) w.heap.size A8 n8 c8 (out ++ twosL (S.take i)) := fun o => Own.below ho8 (al o)
        have hob : ∀ o', Own (wr.alloc o') w.heap.size 3 1 (some ⟨b, o, none⟩) (n6 + 1) c7 (ic S) := fun o' => Own.below ho7 (al o')
        have hqa : ∀ o, Below w.heap.size w (wr.alloc o) := fun o => hq.alloc hq.size _
        have Hoa := Lib.hid hoa
        have Hob := Lib.hid hob
        have Hqa := Lib.hid hqa
        have hn8b : n8 ≤ 200000 := by omega
        clear hn8 hu hSl hy hx htk al hoa hob hqa hq ho8 ho7
        go_wp2_with (at_builtin; refine wpList_appB _ rfl (.tmp 104) (.tmp 111) rfl w.heap.size A8 n8 c8 _ rfl (Hoa.out _) _ 2 2 (twoL x) rfl (by first | exact hl2 | exact hl3) ?_ ?_ ?_)
        · omega
        · have := (Hqa.out (.cells #[] 5)).size; simp at this; omega
        intro A9 c9 w4 ho9 hg9 _
        have ho7 := Own.grown (Hob.out _) hg9 (own_apart (Hob.out (.cells #[] 5)) (Hoa.out (.cells #[] 5)) (by decide))
        have hq := (Hqa.out _).grown hg9 (Hqa.out _).size (fun b hb => (Own.lt (Hoa.out (.cells #[] 5)) b hb).1)
        clear hl2 hl3
        go_wp2
        go_roundw
        case rel => exact ⟨i + 1, by have := Hi.out; omega, by go_num, hq, A9, _, c9, rfl, by rw [Htk.out]; exact ho9, ho7⟩
        case measure => have := Hi.out; simp [intOf]; omega
    have L5 := Lib.hid fun b hb => (Own.lt ho5 b hb).2
    have N6 : Hid (∀ b, blk A6 c6 = some b → b ≠ wr.heap.size) := Lib.hid fun b hb e => by have := (Own.lt ho6 b hb).2; omega
    obtain ⟨b, o, A3, n3, c3, A4, n4, c4, hjl, rfl, d0, d1, d2, d3, g3, g4⟩ := h.entAt hlt
    have d0 := stays hbr d0
    have d1 := stays hbr d1
    have d2 := stays hbr d2
    have d3 := stays hbr d3
    have hck := Hok.out ls[j] (List.getElem_mem hjl)
    have hkb := checkKey_bounds hck.1
    have hn3 := g3.lenb
    have hn4 := g4.lenb
    have hbody := leafBody_snoc (ls.take j) ls[j] 0 []
    rw [← List.take_succ_eq_append_getElem hjl, List.length_take, Nat.min_eq_left (by omega), Nat.zero_add] at hbody
    have hbl := leafBody_len (ls.take (j + 1)) 0 [] (fun e he => Hok.out e (List.mem_of_mem_take he))
    rw [List.length_take, Nat.min_eq_left (by omega), hbody, List.length_append] at hbl
    have hn5 := OwnB.len' ho5
    have hst : ic (startsL (ls.take (j + 1))) = if j % 4 = 0 then ic (startsL (ls.take j)) ++ ic [n5] else ic (startsL (ls.take j)) := by
      rw [starts_step ls j hjl, hn5]
      by_cases h4 : j % 4 = 0
      · rw [if_pos h4, if_pos h4]
        exact ic_append _ _
      · rw [if_neg h4, if_neg h4, List.append_nil]
    have hn6 := ho6.len
    rw [ic_len, starts_len, List.length_take] at hn6
    have hn6b : n6 ≤ 1000 := by omega
    clear hn6
    have hfull := fullL_len ls[j].key
    have hkn := (leafN_le j (lastF [] (ls.take j)) (fullL ls[j].key)).2
    have cf := fun w' (hb : Below w.heap.size w w') => rform12_any w' A3 n3 c3 ls[j].key (g3.below (by omega) hb) hkb.1 (by omega)
    have Hkn := Lib.hid (show leafN j (lastF [] (ls.take j)) (fullL ls[j].key) = if j % 4 = 0 then 0 else commonL (lastF [] (ls.take j)) (fullL ls[j].key) from rfl)
    have hahead : ∀ (h0 : j % 4 ≠ 0), ∃ q, j = q + 1 ∧ q < n ∧ IntKind.i64.wrap ((j : Int) - 1) = (q : Int) ∧ (j : Int) - 1 = (q : Int) ∧ ∃ (A3 : Option Addr) (n3 c3 : Nat) (s d : Nat),
        w.cell? ⟨b, o + q * 4, none⟩ = some (.slice A3 n3 c3) ∧ w.cell? ⟨b, o + q * 4 + 1, none⟩ = some (.int .u64 (s : Int)) ∧ w.cell? ⟨b, o + q * 4 + 2, none⟩ = some (.int .u8 (d : Int)) ∧
        ∀ w', Below w.heap.size w w' → Calls Tryz.prog 91 #[.agg #[.slice A3 n3 c3, .int .u64 (s : Int), .int .u8 (d : Int)]] w' (NewB w' (lastF [] (ls.take j))) := by
      intro h0
      obtain ⟨q, hq⟩ : ∃ q, j = q + 1 := ⟨j - 1, by omega⟩
      have hqn : q < n := by omega
      obtain ⟨b', o', A5, n5, c5, A6, n6, c6, hql, hbo, f0, f1, f2, f3, g2, _⟩ := h.entAt hqn
      obtain ⟨rfl, rfl⟩ : b = b' ∧ o = o' := by simpa using hbo
      have hck := Hok.out ls[q] (List.getElem_mem hql)
      have hkb := checkKey_bounds hck.1
      have hla : lastF [] (ls.take j) = fullL ls[q].key := by rw [hq, List.take_succ_eq_append_getElem hql]; exact lastF_snoc _ _ _
      have hw1 := wrap_pred j q hq (by omega)
      refine ⟨q, hq, hqn, hw1.1, hw1.2, A5, n5, c5, _, _, f0, f1, f2, fun w' hb => ?_⟩
      rw [hla]
      exact rform12_any w' A5 n5 c5 ls[q].key (g2.below (by omega) hb) hkb.1 (by have := g2.lenb; omega)
    have hal72 : (lastF [] (ls.take j)).length ≤ 72 ∨ True := .inr trivial
    have hv512 := hck.2
    have hu64 := hkb.2.2.1
    have Hbody := Lib.hid hbody
    have Hst := Lib.hid hst
    generalize leafN j (lastF [] (ls.take j)) (fullL ls[j].key) = k at *
    generalize fullL ls[j].key = F at *
    generalize ls[j].value = v at *
    generalize ls[j].key.user = u at *
    generalize ls[j].key.seq.toNat = s at *
    generalize ls[j].key.kind.toNat = d at *
    generalize leafBodyL 0 [] (ls.take j) = out at *
    generalize lastF [] (ls.take j) = a at *
    generalize ic (startsL (ls.take j)) = st at *
    have Cf := Lib.hid cf
    have Hah := Lib.hid hahead
    have Hfull : Hid (F.length ≤ 72) := by unfold Hid; omega
    have hn4b : n4 ≤ 512 := by omega
    have Hbl : Hid (out.length + (leafEntL k F v).length ≤ 100000) := by unfold Hid; omega
    have Hn5 := Lib.hid hn5
    have hn5b : n5 ≤ 100000 := by omega
    have Hn4 := Lib.hid hn4
    have Hjn : Hid (j < n) := hlt
    clear hck hkb hn3 hn4 hbody hst hbl hn5 hfull cf hv512 hu64 hj hjl hahead hal72
    have hal := (Below.refl wr.heap.size wr).alloc (Nat.le_refl _) (.cells #[.slice A3 n3 c3, .int .u64 (s : Int), .int .u8 (d : Int), .slice A4 n4 c4] 69)
    have kE := Bx4.fresh wr (.slice A3 n3 c3) (.int .u64 (s : Int)) (.int .u8 (d : Int)) (.slice A4 n4 c4) 69
    generalize hW : (wr.alloc (.cells #[.slice A3 n3 c3, .int .u64 (s : Int), .int .u8 (d : Int), .slice A4 n4 c4] 69)) = w1 at *
    obtain ⟨x0, x1, x2, x3, x4⟩ := id kE
    go_wp2_with fail
    try rw [hW]
    clear hW x0 x1 x2 x3 x4 d0 d1 d2 d3
    have hq := hbr.trans (hal.mono hbr.size)
    have ho5 : OwnB w1 _ _ _ _ _ := Own.below ho5 hal
    have ho6 := Own.below ho6 hal
    refine (Cf.out _ hq).mono ?_
    rintro e w2 ⟨A8, n8, c8, rfl, ho8, hb2⟩
    have zr : wr.heap.size < w1.heap.size := kE.lt
    have L8 := Lib.hid fun b hb => (Own.lt ho8 b hb)
    have kE := kE.below hb2
    have hq := hq.trans (hb2.mono hq.size)
    have ho5 : OwnB w2 _ _ _ _ _ := Own.below ho5 hb2
    have ho6 := Own.below ho6 hb2
    clear hb2 hal
    have hn8 := OwnB.len' ho8
    have hkn : k ≤ n8 := by omega
    have hn8b : n8 ≤ 72 := by have := Hfull.out; omega
    have Hn8 := Lib.hid hn8
    clear hn8
    generalize hz1 : w1.heap.size = z1 at *
    have L8 : Hid (∀ b, blk A8 c8 = some b → wr.heap.size < b ∧ b < w2.heap.size) := Lib.hid fun b hb => by have := L8.out b hb; omega
    clear hz1 zr Cf
    go_upto_if 31 with (fail)
    go_cut [6, 10] from 22 to 93 (fun s6 s10 wx => ∃ A6 n6 c6, s6 = .slice A6 n6 c6 ∧ s10 = .int .i64 (k : Int) ∧ Below w.heap.size w wx ∧ Own wx w.heap.size 3 1 A6 n6 c6 (ic (startsL (ls.take (j + 1)))) ∧ OwnB wx w.heap.size A5 n5 c5 out ∧ OwnB wx z1 A8 n8 c8 F ∧ Bx4 wx wr.heap.size (.slice A3 n3 c3) (.int .u64 (s : Int)) (.int .u8 (d : Int)) (.slice A4 n4 c4))
    case first =>
      by_cases h4 : j % 4 = 0
      case pos =>
        have e4 : ((j : Int) % 4 == 0) = true := by rw [beq_iff_eq]; omega
        have hk := Hkn.out
        rw [if_pos h4] at hk
        subst hk
        have hst := Hst.out
        rw [if_pos h4] at hst
        have Hst := Lib.hid hst
        clear hst h4 Hkn Hah
        have hlit : Sl (w2.alloc (.cells #[.int .i64 (n5 : Int)] 3)) 1 (some ⟨w2.heap.size, 0, none⟩) 1 1 (ic [n5]) := Sl.lit w2 _ _ 1 _ _ rfl (by unfold maxLen; omega) rfl
        have al := (Below.refl w2.heap.size w2).alloc (Nat.le_refl _) (.cells #[.int .i64 (n5 : Int)] 3)
        have ho6 := Own.below ho6 al
        have ho5 : OwnB _ _ _ _ _ _ := Own.below ho5 al
        have ho8 : OwnB _ _ _ _ _ _ := Own.below ho8 al
        have kE := kE.below al
        have hq := hq.trans (al.mono hq.size)
        have L6 := Lib.hid fun b hb => (Own.lt ho6 b hb)
        clear al
        obtain ⟨iI, hiI, hzI, hsI, hbI⟩ := info_parts infoInt
        go_wp2_with (at_builtin; refine wpList_app _ rfl (.tmp 32) (.tmp 35) 135 rfl w.heap.size 3 iI _ 1 8 Tryz.underlying135 hiI hzI hsI hbI rfl A6 n6 c6 st rfl ho6 _ 1 1 (ic [n5]) rfl hlit (ic_one _) ?_ ?_ ?_ ?_)
        · unfold maxLen; omega
        · omega
        · exact hq.size
        intro A7 c7 w3 ho7 hg7 _
        have ho5 : OwnB w3 _ _ _ _ _ := Own.grown ho5 hg7 (own_apart ho5 ho6 (by decide))
        have ho8 : OwnB w3 _ _ _ _ _ := Own.grown ho8 hg7 (own_apart ho8 ho6 (by decide))
        have kE := kE.grownO hg7 (fun e => N6.out _ e rfl)
        have hq := hq.grown hg7 hq.size (fun b hb => (Own.lt ho6 b hb).1)
        clear hiI hzI hsI hbI
        go_wp2_with fail
        go_meet
        exact ⟨A7, _, c7, rfl, rfl, hq, by rw [Hst.out]; exact ho7, ho5, ho8, kE⟩
      case neg =>
        have e4 : ((j : Int) % 4 == 0) = false := by rw [beq_eq_false_iff_ne]; omega
        have hk := Hkn.out
        rw [if_neg h4, commonL_comm] at hk
        have Hk := Lib.hid hk
        have hst := Hst.out
        rw [if_neg h4] at hst
        have Hst := Lib.hid hst
        obtain ⟨q, hjq, hqn, hw1, hw2, A9, n9, c9, s9, d9, f0, f1, f2, Cg⟩ := Hah.out h4
        have Hjq := Lib.hid hjq
        have CG := Lib.hid Cg
        have f0 := stays hq f0
        have f1 := stays hq f1
        have f2 := stays hq f2
        clear hst h4 Hkn Hah hk hjq Cg
        go_wp2_with fail
        refine (CG.out _ hq).mono ?_
        rintro e w3 ⟨A10, n10, c10, rfl, ho10, hb3⟩
        have kE := kE.below hb3
        have hq := hq.trans (hb3.mono hq.size)
        have ho5 : OwnB w3 _ _ _ _ _ := Own.below ho5 hb3
        have ho6 := Own.below ho6 hb3
        have ho8 : OwnB w3 _ _ _ _ _ := Own.below ho8 hb3
        clear hb3 f0 f1 f2 CG hw1 hw2
        have hn10 := OwnB.len' ho10
        have Hn10 := Lib.hid hn10
        have hn10b : n10 ≤ 9223372036854775807 := by have := (OwnB.sl ho10).cap; have := (OwnB.sl ho10).capm; unfold maxLen at this; omega
        clear hn10
        go_wp2
        go_loopw [10] (fun q wx => ∃ i : Nat, i ≤ n8 ∧ q = .int .i64 (i : Int) ∧ Hid (commonL F a = i + commonL (F.drop i) (a.drop i)) ∧ Below w3.heap.size w3 wx) (fun q _ => (n8 - intOf q).toNat)
        case atStart => exact ⟨0, Nat.zero_le _, rfl, Lib.hid (by simp), Below.refl _ _⟩
        case round =>
          obtain ⟨i, hi, rfl, Hc, hbi⟩ := hrel
          have t8 := (OwnB.sl ho8).below (by omega) hbi
          have t10 := (OwnB.sl ho10).below (by omega) hbi
          have hb0 := below_drew hbi
          by_cases ha : i < n8
          case neg =>
            have e0 := commonL_nil F a i (.inl (by rw [Hn8.out]; omega))
            have i1 : decide (i < n8) = false := decide_eq_false ha
            have E0 := Lib.hid e0
            clear e0 t8 t10
            go_wp2_with fail
            generalize hW : World.drew _ = w0 at *
            refine regionF (fun _ wa wb => Below w0.heap.size w0 wa → Below w0.heap.size w0 wb) (by kernel_rfl) ?_
            rw [hW]
            clear hW
            have hX := Below.refl w0.heap.size w0
            refine takeP (i := 0) (v := ?_) rfl hX ?hy ?_
            case hy =>
              intro wS hSw
              clear hSw
              go_simp
              try with_reducible rfl
            refine takeP (i := 1) (v := ?_) rfl hX ?hy ?_
            case hy =>
              intro wS hSw
              clear hSw
              go_simp
              try with_reducible rfl
            refine takeP (i := 2) (v := ?_) rfl hX ?hy ?_
            case hy =>
              intro wS hSw
              clear hSw
              go_simp
              try with_reducible rfl
            refine takeP (i := 3) (v := ?_) rfl hX ?hy ?_
            case hy =>
              intro wS hSw
              clear hSw
              go_simp
              try with_reducible rfl
            refine takeP (i := 4) (v := ?_) rfl hX ?hy ?_
            case hy =>
              intro wS hSw
              clear hSw
              go_simp
              try with_reducible rfl
            try simp only [List.getElem_toArray, List.getElem_cons_succ, List.getElem_cons_zero, Act.put, List.setIfInBounds_toArray, List.set_cons_zero, List.set_cons_succ]
            refine takeF (i := 5) (v := undef) (fun wa => Below w0.heap.size w0 wa) rfl (by kernel_rfl) (by kernel_rfl) (by kernel_rfl) (fun j hj => .inr (.inr fun wa wb h g => g h)) (fun wa => id) (fun _ _ _ h => h) (Or.inr ⟨by kernel_rfl, rfl⟩) hX ?_
            try simp only [List.getElem_toArray, List.getElem_cons_succ, List.getElem_cons_zero, Act.put, List.setIfInBounds_toArray, List.set_cons_zero, List.set_cons_succ]
            refine takeF (i := 6) (v := undef) (fun wa => Below w0.heap.size w0 wa) rfl (by kernel_rfl) (by kernel_rfl) (by kernel_rfl) (fun j hj => .inr (.inr fun wa wb h g => g h)) (fun wa => id) (fun _ _ _ h => h) (Or.inr ⟨by kernel_rfl, rfl⟩) hX ?_
            try simp only [List.getElem_toArray, List.getElem_cons_succ, List.getElem_cons_zero, Act.put, List.setIfInBounds_toArray, List.set_cons_zero, List.set_cons_succ]
            refine takeF (i := 7) (v := undef) (fun wa => Below w0.heap.size w0 wa) rfl (by kernel_rfl) (by kernel_rfl) (by kernel_rfl) (fun j hj => .inr (.inr fun wa wb h g => g h)) (fun wa => id) (fun _ _ _ h => h) (Or.inr ⟨by kernel_rfl, rfl⟩) hX ?_
            try simp only [List.getElem_toArray, List.getElem_cons_succ, List.getElem_cons_zero, Act.put, List.setIfInBounds_toArray, List.set_cons_zero, List.set_cons_succ]
            refine takeF (i := 8) (v := undef) (fun wa => Below w0.heap.size w0 wa) rfl (by kernel_rfl) (by kernel_rfl) (by kernel_rfl) (fun j hj => .inr (.inr fun wa wb h g => g h)) (fun wa => id) (fun _ _ _ h => h) (Or.inr ⟨by kernel_rfl, rfl⟩) hX ?_
            refine takeP (i := 9) (v := ?_) rfl hX ?hy ?_
            case hy =>
              intro wS hSw
              clear hSw
              go_simp
              try with_reducible rfl
            refine takeP (i := 10) (v := ?_) rfl hX ?hy ?_
            case hy =>
              intro wS hSw
              clear hSw
              go_simp
              try with_reducible rfl
            try simp only [List.getElem_toArray, List.getElem_cons_succ, List.getElem_cons_zero, Act.put, List.setIfInBounds_toArray, List.set_cons_zero, List.set_cons_succ]
            refine takeF (i := 11) (v := undef) (fun wa => Below w0.heap.size w0 wa) rfl (by kernel_rfl) (by kernel_rfl) (by kernel_rfl) (fun j hj => .inr (.inr fun wa wb h g => g h)) (fun wa => id) (fun _ _ _ h => h) (Or.inr ⟨by kernel_rfl, rfl⟩) hX ?_
            try simp only [List.getElem_toArray, List.getElem_cons_succ, List.getElem_cons_zero, Act.put, List.setIfInBounds_toArray, List.set_cons_zero, List.set_cons_succ]
            refine takeF (i := 12) (v := undef) (fun wa => Below w0.heap.size w0 wa) rfl (by kernel_rfl) (by kernel_rfl) (by kernel_rfl) (fun j hj => .inr (.inr fun wa wb h g => g h)) (fun wa => id) (fun _ _ _ h => h) (Or.inr ⟨by kernel_rfl, rfl⟩) hX ?_
            try simp only [List.getElem_toArray, List.getElem_cons_succ, List.getElem_cons_zero, Act.put, List.setIfInBounds_toArray, List.set_cons_zero, List.set_cons_succ]
            refine takeF (i := 13) (v := undef) (fun wa => Below w0.heap.size w0 wa) rfl (by kernel_rfl) (by kernel_rfl) (by kernel_rfl) (fun j hj => .inr (.inr fun wa wb h g => g h)) (fun wa => id) (fun _ _ _ h => h) (Or.inr ⟨by kernel_rfl, rfl⟩) hX ?_
            try simp only [List.getElem_toArray, List.getElem_cons_succ, List.getElem_cons_zero, Act.put, List.setIfInBounds_toArray, List.set_cons_zero, List.set_cons_succ]
            refine takeF (i := 14) (v := undef) (fun wa => Below w0.heap.size w0 wa) rfl (by kernel_rfl) (by kernel_rfl) (by kernel_rfl) (fun j hj => .inr (.inr fun wa wb h g => g h)) (fun wa => id) (fun _ _ _ h => h) (Or.inr ⟨by kernel_rfl, rfl⟩) hX ?_
            try simp only [List.getElem_toArray, List.getElem_cons_succ, List.getElem_cons_zero, Act.put, List.setIfInBounds_toArray, List.set_cons_zero, List.set_cons_succ]
            refine takeF (i := 15) (v := undef) (fun wa => Below w0.heap.size w0 wa) rfl (by kernel_rfl) (by kernel_rfl) (by kernel_rfl) (fun j hj => .inr (.inr fun wa wb h g => g h)) (fun wa => id) (fun _ _ _ h => h) (Or.inr ⟨by kernel_rfl, rfl⟩) hX ?_
            try simp only [List.getElem_toArray, List.getElem_cons_succ, List.getElem_cons_zero, Act.put, List.setIfInBounds_toArray, List.set_cons_zero, List.set_cons_succ]
            refine takeF (i := 16) (v := undef) (fun wa => Below w0.heap.size w0 wa) rfl (by kernel_rfl) (by kernel_rfl) (by kernel_rfl) (fun j hj => .inr (.inr fun wa wb h g => g h)) (fun wa => id) (fun _ _ _ h => h) (Or.inr ⟨by kernel_rfl, rfl⟩) hX ?_
            try simp only [List.getElem_toArray, List.getElem_cons_succ, List.getElem_cons_zero, Act.put, List.setIfInBounds_toArray, List.set_cons_zero, List.set_cons_succ]
            refine takeF (i := 17) (v := undef) (fun wa => Below w0.heap.size w0 wa) rfl (by kernel_rfl) (by kernel_rfl) (by kernel_rfl) (fun j hj => .inr (.inr fun wa wb h g => g h)) (fun wa => id) (fun _ _ _ h => h) (Or.inr ⟨by kernel_rfl, rfl⟩) hX ?_
            try simp only [List.getElem_toArray, List.getElem_cons_succ, List.getElem_cons_zero, Act.put, List.setIfInBounds_toArray, List.set_cons_zero, List.set_cons_succ]
            refine takeF (i := 18) (v := undef) (fun wa => Below w0.heap.size w0 wa) rfl (by kernel_rfl) (by kernel_rfl) (by kernel_rfl) (fun j hj => .inr (.inr fun wa wb h g => g h)) (fun wa => id) (fun _ _ _ h => h) (Or.inr ⟨by kernel_rfl, rfl⟩) hX ?_
            try simp only [List.getElem_toArray, List.getElem_cons_succ, List.getElem_cons_zero, Act.put, List.setIfInBounds_toArray, List.set_cons_zero, List.set_cons_succ]
            refine takeF (i := 19) (v := undef) (fun wa => Below w0.heap.size w0 wa) rfl (by kernel_rfl) (by kernel_rfl) (by kernel_rfl) (fun j hj => .inr (.inr fun wa wb h g => g h)) (fun wa => id) (fun _ _ _ h => h) (Or.inr ⟨by kernel_rfl, rfl⟩) hX ?_
            refine takeP (i := 20) (v := ?_) rfl hX ?hy ?_
            case hy =>
              intro wS hSw
              clear hSw
              go_simp
              try with_reducible rfl
            try simp only [List.getElem_toArray, List.getElem_cons_succ, List.getElem_cons_zero, Act.put, List.setIfInBounds_toArray, List.set_cons_zero, List.set_cons_succ]
            refine doneF (by kernel_rfl) ?_ _
            try simp only [List.getElem_toArray, List.getElem_cons_succ, List.getElem_cons_zero, Act.put, List.setIfInBounds_toArray, List.set_cons_zero, List.set_cons_succ]
            have hki : k = i := by rw [Hk.out]; have := Hc.out; rw [E0.out] at this; omega
            subst hki
            go_wp2_with fail
            go_meet
            exact ⟨A6, n6, c6, rfl, rfl, hq.trans (hb0.mono hq.size), by rw [Hst.out]; exact Own.below ho6 hb0, Own.below ho5 hb0, Own.below ho8 hb0, kE.below hb0⟩
          by_cases hb : i < n10
          case neg =>
            have e0 := commonL_nil F a i (.inr (by rw [Hn10.out]; omega))
            have i1 : decide (i < n8) = true := decide_eq_true ha
            have i2 : decide (i < n10) = false := decide_eq_false hb
            have E0 := Lib.hid e0
            clear e0 t8 t10
            go_wp2_with fail
            generalize hW : World.drew _ = w0 at *
            refine regionF (fun _ wa wb => Below w0.heap.size w0 wa → Below w0.heap.size w0 wb) (by kernel_rfl) ?_
            rw [hW]
            clear hW
            have hX := Below.refl w0.heap.size w0
            refine takeP (i := 0) (v := ?_) rfl hX ?hy ?_
            case hy =>
              intro wS hSw
              clear hSw
              go_simp
              try with_reducible rfl
            refine takeP (i := 1) (v := ?_) rfl hX ?hy ?_
            case hy =>
              intro wS hSw
              clear hSw
              go_simp
              try with_reducible rfl
            refine takeP (i := 2) (v := ?_) rfl hX ?hy ?_
            case hy =>
              intro wS hSw
              clear hSw
              go_simp
              try with_reducible rfl
            refine takeP (i := 3) (v := ?_) rfl hX ?hy ?_
            case hy =>
              intro wS hSw
              clear hSw
              go_simp
              try with_reducible rfl
            refine takeP (i := 4) (v := ?_) rfl hX ?hy ?_
            case hy =>
              intro wS hSw
              clear hSw
              go_simp
              try with_reducible rfl
            refine takeP (i := 5) (v := ?_) rfl hX ?hy ?_
            case hy =>
              intro wS hSw
              clear hSw
              go_simp
              try with_reducible rfl
            refine takeP (i := 6) (v := ?_) rfl hX ?hy ?_
            case hy =>
              intro wS hSw
              clear hSw
              go_simp
              try with_reducible rfl
            refine takeP (i := 7) (v := ?_) rfl hX ?hy ?_
            case hy =>
              intro wS hSw
              clear hSw
              go_simp
              try with_reducible rfl
            refine takeP (i := 8) (v := ?_) rfl hX ?hy ?_
            case hy =>
              intro wS hSw
              clear hSw
              go_simp
              try with_reducible rfl
            refine takeP (i := 9) (v := ?_) rfl hX ?hy ?_
            case hy =>
              intro wS hSw
              clear hSw
              go_simp
              try with_reducible rfl
            refine takeP (i := 10) (v := ?_) rfl hX ?hy ?_
            case hy =>
              intro wS hSw
              clear hSw
              go_simp
              try with_reducible rfl
            try simp only [List.getElem_toArray, List.getElem_cons_succ, List.getElem_cons_zero, Act.put, List.setIfInBounds_toArray, List.set_cons_zero, List.set_cons_succ]
            refine takeF (i := 11) (v := undef) (fun wa => Below w0.heap.size w0 wa) rfl (by kernel_rfl) (by kernel_rfl) (by kernel_rfl) (fun j hj => .inr (.inr fun wa wb h g => g h)) (fun wa => id) (fun _ _ _ h => h) (Or.inr ⟨by kernel_rfl, rfl⟩) hX ?_
            try simp only [List.getElem_toArray, List.getElem_cons_succ, List.getElem_cons_zero, Act.put, List.setIfInBounds_toArray, List.set_cons_zero, List.set_cons_succ]
            refine takeF (i := 12) (v := undef) (fun wa => Below w0.heap.size w0 wa) rfl (by kernel_rfl) (by kernel_rfl) (by kernel_rfl) (fun j hj => .inr (.inr fun wa wb h g => g h)) (fun wa => id) (fun _ _ _ h => h) (Or.inr ⟨by kernel_rfl, rfl⟩) hX ?_
            try simp only [List.getElem_toArray, List.getElem_cons_succ, List.getElem_cons_zero, Act.put, List.setIfInBounds_toArray, List.set_cons_zero, List.set_cons_succ]
            refine takeF (i := 13) (v := undef) (fun wa => Below w0.heap.size w0 wa) rfl (by kernel_rfl) (by kernel_rfl) (by kernel_rfl) (fun j hj => .inr (.inr fun wa wb h g => g h)) (fun wa => id) (fun _ _ _ h => h) (Or.inr ⟨by kernel_rfl, rfl⟩) hX ?_
            try simp only [List.getElem_toArray, List.getElem_cons_succ, List.getElem_cons_zero, Act.put, List.setIfInBounds_toArray, List.set_cons_zero, List.set_cons_succ]
            refine takeF (i := 14) (v := undef) (fun wa => Below w0.heap.size w0 wa) rfl (by kernel_rfl) (by kernel_rfl) (by kernel_rfl) (fun j hj => .inr (.inr fun wa wb h g => g h)) (fun wa => id) (fun _ _ _ h => h) (Or.inr ⟨by kernel_rfl, rfl⟩) hX ?_
            try simp only [List.getElem_toArray, List.getElem_cons_succ, List.getElem_cons_zero, Act.put, List.setIfInBounds_toArray, List.set_cons_zero, List.set_cons_succ]
            refine takeF (i := 15) (v := undef) (fun wa => Below w0.heap.size w0 wa) rfl (by kernel_rfl) (by kernel_rfl) (by kernel_rfl) (fun j hj => .inr (.inr fun wa wb h g => g h)) (fun wa => id) (fun _ _ _ h => h) (Or.inr ⟨by kernel_rfl, rfl⟩) hX ?_
            try simp only [List.getElem_toArray, List.getElem_cons_succ, List.getElem_cons_zero, Act.put, List.setIfInBounds_toArray, List.set_cons_zero, List.set_cons_succ]
            refine takeF (i := 16) (v := undef) (fun wa => Below w0.heap.size w0 wa) rfl (by kernel_rfl) (by kernel_rfl) (by kernel_rfl) (fun j hj => .inr (.inr fun wa wb h g => g h)) (fun wa => id) (fun _ _ _ h => h) (Or.inr ⟨by kernel_rfl, rfl⟩) hX ?_
            try simp only [List.getElem_toArray, List.getElem_cons_succ, List.getElem_cons_zero, Act.put, List.setIfInBounds_toArray, List.set_cons_zero, List.set_cons_succ]
            refine takeF (i := 17) (v := undef) (fun wa => Below w0.heap.size w0 wa) rfl (by kernel_rfl) (by kernel_rfl) (by kernel_rfl) (fun j hj => .inr (.inr fun wa wb h g => g h)) (fun wa => id) (fun _ _ _ h => h) (Or.inr ⟨by kernel_rfl, rfl⟩) hX ?_
            try simp only [List.getElem_toArray, List.getElem_cons_succ, List.getElem_cons_zero, Act.put, List.setIfInBounds_toArray, List.set_cons_zero, List.set_cons_succ]
            refine takeF (i := 18) (v := undef) (fun wa => Below w0.heap.size w0 wa) rfl (by kernel_rfl) (by kernel_rfl) (by kernel_rfl) (fun j hj => .inr (.inr fun wa wb h g => g h)) (fun wa => id) (fun _ _ _ h => h) (Or.inr ⟨by kernel_rfl, rfl⟩) hX ?_
            try simp only [List.getElem_toArray, List.getElem_cons_succ, List.getElem_cons_zero, Act.put, List.setIfInBounds_toArray, List.set_cons_zero, List.set_cons_succ]
            refine takeF (i := 19) (v := undef) (fun wa => Below w0.heap.size w0 wa) rfl (by kernel_rfl) (by kernel_rfl) (by kernel_rfl) (fun j hj => .inr (.inr fun wa wb h g => g h)) (fun wa => id) (fun _ _ _ h => h) (Or.inr ⟨by kernel_rfl, rfl⟩) hX ?_
            refine takeP (i := 20) (v := ?_) rfl hX ?hy ?_
            case hy =>
              intro wS hSw
              clear hSw
              go_simp
              try with_reducible rfl
            try simp only [List.getElem_toArray, List.getElem_cons_succ, List.getElem_cons_zero, Act.put, List.setIfInBounds_toArray, List.set_cons_zero, List.set_cons_succ]
            refine doneF (by kernel_rfl) ?_ _
            try simp only [List.getElem_toArray, List.getElem_cons_succ, List.getElem_cons_zero, Act.put, List.setIfInBounds_toArray, List.set_cons_zero, List.set_cons_succ]
            have hki : k = i := by rw [Hk.out]; have := Hc.out; rw [E0.out] at this; omega
            subst hki
            go_wp2_with fail
            go_meet
            exact ⟨A6, n6, c6, rfl, rfl, hq.trans (hb0.mono hq.size), by rw [Hst.out]; exact Own.below ho6 hb0, Own.below ho5 hb0, Own.below ho8 hb0, kE.below hb0⟩
          have e0 := commonL_step F a i (by rw [Hn8.out]; omega) (by rw [Hn10.out]; omega)
          obtain ⟨ba, oa, xa, rfl, hxa, hxal, ca⟩ := t8.byte (k := i) (by rw [Hn8.out]; omega)
          obtain ⟨bb, ob, xb, rfl, hxb, hxbl, cb⟩ := t10.byte (k := i) (by rw [Hn10.out]; omega)
          have ca : (World.drew _).cell? _ = _ := ca
          have cb : (World.drew _).cell? _ = _ := cb
          have i1 : decide (i < n8) = true := decide_eq_true ha
          have i2 : decide (i < n10) = true := decide_eq_true hb
          by_cases hx : xa = xb
          case neg =>
            rw [if_neg (fun e => hx (by rw [← hxa, ← hxb, e]))] at e0
            have i3 : ((xa : Int) == (xb : Int)) = false := by rw [beq_eq_false_iff_ne]; omega
            have E0 := Lib.hid e0
            clear e0 t8 t10 hxa hxb hx hxal hxbl
            go_wp2_with fail
            generalize hW : World.drew _ = w0 at *
            refine regionF (fun _ wa wb => Below w0.heap.size w0 wa → Below w0.heap.size w0 wb) (by kernel_rfl) ?_
            rw [hW]
            clear hW
            have hX := Below.refl w0.heap.size w0
            refine takeP (i := 0) (v := ?_) rfl hX ?hy ?_
            case hy =>
              intro wS hSw
              clear hSw
              go_simp
              try with_reducible rfl
            refine takeP (i := 1) (v := ?_) rfl hX ?hy ?_
            case hy =>
              intro wS hSw
              clear hSw
              go_simp
              try with_reducible rfl
            refine takeP (i := 2) (v := ?_) rfl hX ?hy ?_
            case hy =>
              intro wS hSw
              clear hSw
              go_simp
              try with_reducible rfl
            refine takeP (i := 3) (v := ?_) rfl hX ?hy ?_
            case hy =>
              intro wS hSw
              clear hSw
              go_simp
              try with_reducible rfl
            refine takeP (i := 4) (v := ?_) rfl hX ?hy ?_
            case hy =>
              intro wS hSw
              clear hSw
              go_simp
              try with_reducible rfl
            refine takeP (i := 5) (v := ?_) rfl hX ?hy ?_
            case hy =>
              intro wS hSw
              clear hSw
              go_simp
              try with_reducible rfl
            refine takeP (i := 6) (v := ?_) rfl hX ?hy ?_
            case hy =>
              intro wS hSw
              clear hSw
              go_simp
              try with_reducible rfl
            refine takeP (i := 7) (v := ?_) rfl hX ?hy ?_
            case hy =>
              intro wS hSw
              clear hSw
              go_simp
              try with_reducible rfl
            refine takeP (i := 8) (v := ?_) rfl hX ?hy ?_
            case hy =>
              intro wS hSw
              clear hSw
              go_simp
              try with_reducible rfl
            refine takeP (i := 9) (v := ?_) rfl hX ?hy ?_
            case hy =>
              intro wS hSw
              clear hSw
              go_simp
              try with_reducible rfl
            refine takeP (i := 10) (v := ?_) rfl hX ?hy ?_
            case hy =>
              intro wS hSw
              clear hSw
              go_simp
              try with_reducible rfl
            refine takeP (i := 11) (v := ?_) rfl hX ?hy ?_
            case hy =>
              intro wS hSw
              clear hSw
              go_simp
              try with_reducible rfl
            refine takeP (i := 12) (v := ?_) rfl hX ?hy ?_
            case hy =>
              intro wS hSw
              clear hSw
              go_simp
              try with_reducible rfl
            refine takeP (i := 13) (v := ?_) rfl hX ?hy ?_
            case hy =>
              intro wS hSw
              clear hSw
              go_simp
              try with_reducible rfl
            refine takeP (i := 14) (v := ?_) rfl hX ?hy ?_
            case hy =>
              intro wS hSw
              have ca := stays hSw ca
              clear hSw
              go_simp
              try with_reducible rfl
            refine takeP (i := 15) (v := ?_) rfl hX ?hy ?_
            case hy =>
              intro wS hSw
              clear hSw
              go_simp
              try with_reducible rfl
            refine takeP (i := 16) (v := ?_) rfl hX ?hy ?_
            case hy =>
              intro wS hSw
              clear hSw
              go_simp
              try with_reducible rfl
            refine takeP (i := 17) (v := ?_) rfl hX ?hy ?_
            case hy =>
              intro wS hSw
              clear hSw
              go_simp
              try with_reducible rfl
            refine takeP (i := 18) (v := ?_) rfl hX ?hy ?_
            case hy =>
              intro wS hSw
              have cb := stays hSw cb
              clear hSw
              go_simp
              try with_reducible rfl
            refine takeP (i := 19) (v := ?_) rfl hX ?hy ?_
            case hy =>
              intro wS hSw
              clear hSw
              go_simp
              try with_reducible rfl
            refine takeP (i := 20) (v := ?_) rfl hX ?hy ?_
            case hy =>
              intro wS hSw
              clear hSw
              go_simp
              try with_reducible rfl
            try simp only [List.getElem_toArray, List.getElem_cons_succ, List.getElem_cons_zero, Act.put, List.setIfInBounds_toArray, List.set_cons_zero, List.set_cons_succ]
            refine doneF (by kernel_rfl) ?_ _
            try simp only [List.getElem_toArray, List.getElem_cons_succ, List.getElem_cons_zero, Act.put, List.setIfInBounds_toArray, List.set_cons_zero, List.set_cons_succ]
            have hki : k = i := by rw [Hk.out]; have := Hc.out; rw [E0.out] at this; omega
            subst hki
            go_wp2_with fail
            go_meet
            exact ⟨A6, n6, c6, rfl, rfl, hq.trans (hb0.mono hq.size), by rw [Hst.out]; exact Own.below ho6 hb0, Own.below ho5 hb0, Own.below ho8 hb0, kE.below hb0⟩
          rw [if_pos (UInt8.toNat_inj.1 (by rw [hxa, hxb, hx]))] at e0
          subst hx
          have i3 : ((xa : Int) == (xa : Int)) = true := by simp
          have E0 := Lib.hid e0
          clear e0 t8 t10 hxa hxb hxal hxbl
          go_wp2_with fail
          generalize hW : World.drew _ = w0 at *
          refine regionF (fun _ wa wb => Below w0.heap.size w0 wa → Below w0.heap.size w0 wb) (by kernel_rfl) ?_
          rw [hW]
          clear hW
          have hX := Below.refl w0.heap.size w0
          refine takeP (i := 0) (v := ?_) rfl hX ?hy ?_
          case hy =>
            intro wS hSw
            clear hSw
            go_simp
            try with_reducible rfl
          refine takeP (i := 1) (v := ?_) rfl hX ?hy ?_
          case hy =>
            intro wS hSw
            clear hSw
            go_simp
            try with_reducible rfl
          refine takeP (i := 2) (v := ?_) rfl hX ?hy ?_
          case hy =>
            intro wS hSw
            clear hSw
            go_simp
            try with_reducible rfl
          refine takeP (i := 3) (v := ?_) rfl hX ?hy ?_
          case hy =>
            intro wS hSw
            clear hSw
            go_simp
            try with_reducible rfl
          refine takeP (i := 4) (v := ?_) rfl hX ?hy ?_
          case hy =>
            intro wS hSw
            clear hSw
            go_simp
            try with_reducible rfl
          refine takeP (i := 5) (v := ?_) rfl hX ?hy ?_
          case hy =>
            intro wS hSw
            clear hSw
            go_simp
            try with_reducible rfl
          refine takeP (i := 6) (v := ?_) rfl hX ?hy ?_
          case hy =>
            intro wS hSw
            clear hSw
            go_simp
            try with_reducible rfl
          refine takeP (i := 7) (v := ?_) rfl hX ?hy ?_
          case hy =>
            intro wS hSw
            clear hSw
            go_simp
            try with_reducible rfl
          refine takeP (i := 8) (v := ?_) rfl hX ?hy ?_
          case hy =>
            intro wS hSw
            clear hSw
            go_simp
            try with_reducible rfl
          refine takeP (i := 9) (v := ?_) rfl hX ?hy ?_
          case hy =>
            intro wS hSw
            clear hSw
            go_simp
            try with_reducible rfl
          refine takeP (i := 10) (v := ?_) rfl hX ?hy ?_
          case hy =>
            intro wS hSw
            clear hSw
            go_simp
            try with_reducible rfl
          refine takeP (i := 11) (v := ?_) rfl hX ?hy ?_
          case hy =>
            intro wS hSw
            clear hSw
            go_simp
            try with_reducible rfl
          refine takeP (i := 12) (v := ?_) rfl hX ?hy ?_
          case hy =>
            intro wS hSw
            clear hSw
            go_simp
            try with_reducible rfl
          refine takeP (i := 13) (v := ?_) rfl hX ?hy ?_
          case hy =>
            intro wS hSw
            clear hSw
            go_simp
            try with_reducible rfl
          refine takeP (i := 14) (v := ?_) rfl hX ?hy ?_
          case hy =>
            intro wS hSw
            have ca := stays hSw ca
            clear hSw
            go_simp
            try with_reducible rfl
          refine takeP (i := 15) (v := ?_) rfl hX ?hy ?_
          case hy =>
            intro wS hSw
            clear hSw
            go_simp
            try with_reducible rfl
          refine takeP (i := 16) (v := ?_) rfl hX ?hy ?_
          case hy =>
            intro wS hSw
            clear hSw
            go_simp
            try with_reducible rfl
          refine takeP (i := 17) (v := ?_) rfl hX ?hy ?_
          case hy =>
            intro wS hSw
            clear hSw
            go_simp
            try with_reducible rfl
          refine takeP (i := 18) (v := ?_) rfl hX ?hy ?_
          case hy =>
            intro wS hSw
            have cb := stays hSw cb
            clear hSw
            go_simp
            try with_reducible rfl
          refine takeP (i := 19) (v := ?_) rfl hX ?hy ?_
          case hy =>
            intro wS hSw
            clear hSw
            go_simp
            try with_reducible rfl
          refine takeP (i := 20) (v := ?_) rfl hX ?hy ?_
          case hy =>
            intro wS hSw
            clear hSw
            go_simp
            try with_reducible rfl
          try simp only [List.getElem_toArray, List.getElem_cons_succ, List.getElem_cons_zero, Act.put, List.setIfInBounds_toArray, List.set_cons_zero, List.set_cons_succ]
          refine doneF (by kernel_rfl) ?_ _
          try simp only [List.getElem_toArray, List.getElem_cons_succ, List.getElem_cons_zero, Act.put, List.setIfInBounds_toArray, List.set_cons_zero, List.set_cons_succ]
          go_wp2
          go_roundw
          case rel => exact ⟨i + 1, by omega, by go_num, Lib.hid (by have := Hc.out; rw [E0.out] at this; omega), hb0⟩
          case measure => simp [intOf]; omega
    case rest =>
      obtain ⟨A6, n6, c6, rfl, rfl, hq, ho6, ho5, ho8, kE⟩ := hcut
      have L80 := L8
      have Nho5 : Hid (∀ b, blk A5 c5 = some b → b ≠ wr.heap.size) := Lib.hid fun b h1 => by have := L5.out b h1; omega
      have Fho5 : Hid (∀ b, blk A5 c5 = some b → blk A8 c8 ≠ some b) := Lib.hid fun b h1 h2 => by have := L5.out b h1; have := L80.out b h2; omega
      obtain ⟨A17, hrun, _, _⟩ := cutL (OwnB.sl ho8) .i64 (k : Int) k rfl hkn
      have hrS : ∀ w' : World, OwnB w' z1 A8 n8 c8 F → Sl w' 1 A17 (n8 - k) (c8 - k) (bc (F.drop k)) := by
        intro w' h
        obtain ⟨A', hr', hs', _⟩ := cutL (OwnB.sl h) .i64 (k : Int) k rfl hkn
        have := hr' w2
        rw [hrun] at this
        injection this with e1 _
        injection e1 with e1 _ _
        rw [e1]
        exact hs'
      have hrS := Lib.hid hrS
      have hk1 : IntKind.u64.wrap (k : Int) = (k : Int) := by rw [IntKind.wrap_u64]; omega
      have hk2 : IntKind.i64.wrap ((n8 : Int) - (k : Int)) = ((n8 - k : Nat) : Int) := by rw [IntKind.wrap_i64]; omega
      have hk3 : IntKind.u64.wrap ((n8 - k : Nat) : Int) = ((n8 - k : Nat) : Int) := by rw [IntKind.wrap_u64]; omega
      have hk4 : IntKind.u64.wrap (n4 : Int) = (n4 : Int) := by rw [IntKind.wrap_u64]; omega
      clear Hkn Hah
      go_wp2_with fail
      have ho5 : OwnB (World.drew _) _ _ _ _ _ := Own.drew ho5
      have hq := below_drew hq
      have ho6 : Own (World.drew _) _ _ _ _ _ _ _ := Own.drew ho6
      have ho8 : OwnB (World.drew _) _ _ _ _ _ := Own.drew ho8
      have kE := kE.drew
      generalize hW : World.drew _ = w0 at *
      refine regionF (fun _ wa wb => Bx4 wa wr.heap.size (.slice A3 n3 c3) (.int .u64 (s : Int)) (.int .u8 (d : Int)) (.slice A4 n4 c4) → Bx4 wb wr.heap.size (.slice A3 n3 c3) (.int .u64 (s : Int)) (.int .u8 (d : Int)) (.slice A4 n4 c4)) (by kernel_rfl) ?_
      rw [hW]
      clear hW
      refine takeP (i := 0) (v := ?_) rfl kE ?hy ?_
      case hy =>
        intro wS hSw
        clear hSw
        go_simp
        try with_reducible rfl
      refine takeP (i := 1) (v := ?_) rfl kE ?hy ?_
      case hy =>
        intro wS hSw
        clear hSw
        go_simp
        try with_reducible rfl
      refine takeP (i := 2) (v := ?_) rfl kE ?hy ?_
      case hy =>
        intro wS hSw
        clear hSw
        go_simp
        try with_reducible rfl
      refine takeP (i := 5) (v := ?_) rfl kE ?hy ?_
      case hy =>
        intro wS hSw
        clear hSw
        go_simp
        try with_reducible rfl
      refine takeP (i := 6) (v := ?_) rfl kE ?hy ?_
      case hy =>
        intro wS hSw
        clear hSw
        go_simp
        try with_reducible rfl
      refine takeP (i := 7) (v := ?_) rfl kE ?hy ?_
      case hy =>
        intro wS hSw
        clear hSw
        go_simp
        try with_reducible rfl
      refine takeP (i := 8) (v := ?_) rfl kE ?hy ?_
      case hy =>
        intro wS hSw
        clear hSw
        go_simp
        try with_reducible rfl
      refine takeP (i := 9) (v := ?_) rfl kE ?hy ?_
      case hy =>
        intro wS hSw
        clear hSw
        go_simp
        try with_reducible rfl
      refine takeP (i := 12) (v := ?_) rfl kE ?hy ?_
      case hy =>
        intro wS hSw
        clear hSw
        go_simp
        try with_reducible rfl
      refine takeP (i := 13) (v := ?_) rfl kE ?hy ?_
      case hy =>
        intro wS hSw
        obtain ⟨x0, x1, x2, x3, x4⟩ := id hSw
        clear hSw
        go_simp
        try with_reducible rfl
      refine takeP (i := 14) (v := ?_) rfl kE ?hy ?_
      case hy =>
        intro wS hSw
        clear hSw
        go_simp
        try with_reducible rfl
      refine takeP (i := 15) (v := ?_) rfl kE ?hy ?_
      case hy =>
        intro wS hSw
        clear hSw
        go_simp
        try with_reducible rfl
      try simp only [List.getElem_toArray, List.getElem_cons_succ, List.getElem_cons_zero, Act.put, List.setIfInBounds_toArray, List.set_cons_zero, List.set_cons_succ]
      refine readyF (rs := [3]) (by kernel_rfl) (by simp) ?_
      refine AllF.cons rfl (fun K hK => ?_) AllF.nil
      go_simp
      refine (rnum_any (k) _ (by omega)).mono ?_
      rintro e w0_3 ⟨A11, n11, c11, rfl, o11, hb⟩
      refine hK _ _ (fun h => h.below hb) ?_
      clear hK K
      have kE := kE.below hb
      have hq := hq.trans (hb.mono hq.size)
      have ho8 := Own.below ho8 hb
      have ho6 := Own.below ho6 hb
      have ho5 := Own.below ho5 hb
      clear hb
      have s11 := OwnB.sl o11
      have s11L : Hid (n11 ≤ 9) := Lib.hid (by have := s11.lenb; have := num_len (k); omega)
      clear o11
      refine readyF (rs := [4]) (by kernel_rfl) (by simp) ?_
      refine AllF.cons rfl (fun K hK => ?_) AllF.nil
      have hne : blk A5 c5 ≠ some wr.heap.size := fun e => Nho5.out _ e rfl
      refine step_appB (by rfl) (.tmp 67) (.tmp 70) (by rfl) w.heap.size A5 n5 c5 (out) (by rfl) ho5 A11 n11 c11 (numL k) (by rfl) s11 (by have h2 := s11.lenb; have h3 := num_len k; omega) hq.size ?_
      intro A12 c12 w0_3_4 hp1 hg hx
      refine hK _ _ (fun h => h.grownO hg hne) ?_
      clear hK K
      have zk := kE.lt
      have zw := Own.lt ho8
      have kE := kE.grownO hg hne
      have hq := hq.grown hg hq.size (fun b hb => (Own.lt ho5 b hb).1)
      have ho8 : OwnB w0_3_4 _ _ _ _ _ := Own.grown ho8 hg (fun b h1 h2 => Fho5.out b h2 h1)
      have ho6 : Own w0_3_4 _ _ _ _ _ _ _ := Own.grown ho6 hg (own_apart ho6 ho5 (by decide))
      have Nhp1 : Hid (∀ b, blk A12 c12 = some b → b ≠ wr.heap.size) := Lib.hid fun b h1 e => by
        rcases hx with q | q
        · exact Nho5.out b (q ▸ h1) e
        · rw [q] at h1
          simp at h1
          omega
      have Fhp1 : Hid (∀ b, blk A12 c12 = some b → blk A8 c8 ≠ some b) := Lib.hid fun b h1 h2 => by
        rcases hx with q | q
        · exact Fho5.out b (q ▸ h1) h2
        · rw [q] at h1
          have := zw b h2
          simp at h1
          omega
      clear hg hx hne zk zw
      refine readyF (rs := [10]) (by kernel_rfl) (by simp) ?_
      refine AllF.cons rfl (fun K hK => ?_) AllF.nil
      go_simp
      refine (rnum_any (n8 - k) _ (by omega)).mono ?_
      rintro e w0_3_4_10 ⟨A13, n13, c13, rfl, o13, hb⟩
      refine hK _ _ (fun h => h.below hb) ?_
      clear hK K
      have kE := kE.below hb
      have hq := hq.trans (hb.mono hq.size)
      have ho8 := Own.below ho8 hb
      have ho6 := Own.below ho6 hb
      have hp1 := Own.below hp1 hb
      clear hb
      have s13 := OwnB.sl o13
      have s13L : Hid (n13 ≤ 9) := Lib.hid (by have := s13.lenb; have := num_len (n8 - k); omega)
      clear o13
      refine readyF (rs := [11]) (by kernel_rfl) (by simp) ?_
      refine AllF.cons rfl (fun K hK => ?_) AllF.nil
      have hne : blk A12 c12 ≠ some wr.heap.size := fun e => Nhp1.out _ e rfl
      refine step_appB (by rfl) (.tmp 71) (.tmp 77) (by rfl) w.heap.size A12 (n5 + n11) c12 (out ++ numL k) (by rfl) hp1 A13 n13 c13 (numL (n8 - k)) (by rfl) s13 (by have h2 := s13.lenb; have h4 := s11L.out; have h3 := num_len (n8 - k); omega) hq.size ?_
      intro A14 c14 w0_3_4_10_11 hp2 hg hx
      refine hK _ _ (fun h => h.grownO hg hne) ?_
      clear hK K
      have zk := kE.lt
      have zw := Own.lt ho8
      have kE := kE.grownO hg hne
      have hq := hq.grown hg hq.size (fun b hb => (Own.lt hp1 b hb).1)
      have ho8 : OwnB w0_3_4_10_11 _ _ _ _ _ := Own.grown ho8 hg (fun b h1 h2 => Fhp1.out b h2 h1)
      have ho6 : Own w0_3_4_10_11 _ _ _ _ _ _ _ := Own.grown ho6 hg (own_apart ho6 hp1 (by decide))
      have Nhp2 : Hid (∀ b, blk A14 c14 = some b → b ≠ wr.heap.size) := Lib.hid fun b h1 e => by
        rcases hx with q | q
        · exact Nhp1.out b (q ▸ h1) e
        · rw [q] at h1
          simp at h1
          omega
      have Fhp2 : Hid (∀ b, blk A14 c14 = some b → blk A8 c8 ≠ some b) := Lib.hid fun b h1 h2 => by
        rcases hx with q | q
        · exact Fhp1.out b (q ▸ h1) h2
        · rw [q] at h1
          have := zw b h2
          simp at h1
          omega
      clear hg hx hne zk zw
      refine readyF (rs := [16]) (by kernel_rfl) (by simp) ?_
      refine AllF.cons rfl (fun K hK => ?_) AllF.nil
      go_simp
      refine (rnum_any (n4) _ (by omega)).mono ?_
      rintro e w0_3_4_10_11_16 ⟨A15, n15, c15, rfl, o15, hb⟩
      refine hK _ _ (fun h => h.below hb) ?_
      clear hK K
      have kE := kE.below hb
      have hq := hq.trans (hb.mono hq.size)
      have ho8 := Own.below ho8 hb
      have ho6 := Own.below ho6 hb
      have hp2 := Own.below hp2 hb
      clear hb
      have s15 := OwnB.sl o15
      have s15L : Hid (n15 ≤ 9) := Lib.hid (by have := s15.lenb; have := num_len (n4); omega)
      clear o15
      refine readyF (rs := [17]) (by kernel_rfl) (by simp) ?_
      refine AllF.cons rfl (fun K hK => ?_) AllF.nil
      have hne : blk A14 c14 ≠ some wr.heap.size := fun e => Nhp2.out _ e rfl
      refine step_appB (by rfl) (.tmp 78) (.tmp 83) (by rfl) w.heap.size A14 (n5 + n11 + n13) c14 (out ++ numL k ++ numL (n8 - k)) (by rfl) hp2 A15 n15 c15 (numL n4) (by rfl) s15 (by have h2 := s15.lenb; have h4 := s11L.out; have h5 := s13L.out; have h3 := num_len n4; omega) hq.size ?_
      intro A16 c16 w0_3_4_10_11_16_17 hp3 hg hx
      refine hK _ _ (fun h => h.grownO hg hne) ?_
      clear hK K
      have zk := kE.lt
      have zw := Own.lt ho8
      have kE := kE.grownO hg hne
      have hq := hq.grown hg hq.size (fun b hb => (Own.lt hp2 b hb).1)
      have ho8 : OwnB w0_3_4_10_11_16_17 _ _ _ _ _ := Own.grown ho8 hg (fun b h1 h2 => Fhp2.out b h2 h1)
      have ho6 : Own w0_3_4_10_11_16_17 _ _ _ _ _ _ _ := Own.grown ho6 hg (own_apart ho6 hp2 (by decide))
      have Nhp3 : Hid (∀ b, blk A16 c16 = some b → b ≠ wr.heap.size) := Lib.hid fun b h1 e => by
        rcases hx with q | q
        · exact Nhp2.out b (q ▸ h1) e
        · rw [q] at h1
          simp at h1
          omega
      have Fhp3 : Hid (∀ b, blk A16 c16 = some b → blk A8 c8 ≠ some b) := Lib.hid fun b h1 h2 => by
        rcases hx with q | q
        · exact Fhp2.out b (q ▸ h1) h2
        · rw [q] at h1
          have := zw b h2
          simp at h1
          omega
      clear hg hx hne zk zw
      refine takeP (i := 18) (v := ?_) rfl kE ?hy ?_
      case hy =>
        intro wS hSw
        clear hSw
        go_simp
        try with_reducible rfl
      try simp only [List.getElem_toArray, List.getElem_cons_succ, List.getElem_cons_zero, Act.put, List.setIfInBounds_toArray, List.set_cons_zero, List.set_cons_succ]
      refine doneF (by kernel_rfl) ?_ _
      try simp only [List.getElem_toArray, List.getElem_cons_succ, List.getElem_cons_zero, Act.put, List.setIfInBounds_toArray, List.set_cons_zero, List.set_cons_succ]
      generalize hn16 : n5 + n11 + n13 + n15 = n16 at *
      clear hn16
      have hl3 := OwnB.len' hp3
      have Heq : Hid (out ++ numL k ++ numL (n8 - k) ++ numL n4 ++ F.drop k ++ v = out ++ leafEntL k F v) := by
        unfold Hid leafEntL
        rw [Hn8.out, Hn4.out]
        simp
      have Hbl3 : Hid ((out ++ numL k ++ numL (n8 - k) ++ numL n4).length + (F.drop k).length + v.length ≤ 100000) := by
        have := congrArg List.length Heq.out
        have h2 := Hbl.out
        simp only [List.length_append] at *
        unfold Hid
        omega
      generalize out ++ numL k ++ numL (n8 - k) ++ numL n4 = o3 at *
      go_wp2_with fail
      have hp3 : OwnB (World.drew _) _ _ _ _ _ := Own.drew hp3
      have hq := below_drew hq
      have ho6 : Own (World.drew _) _ _ _ _ _ _ _ := Own.drew ho6
      have ho8 : OwnB (World.drew _) _ _ _ _ _ := Own.drew ho8
      have kE := kE.drew
      clear hl3 Hbl
      generalize hW : World.drew _ = w9 at *
      refine regionF (fun _ wa wb => Bx4 wa wr.heap.size (.slice A3 n3 c3) (.int .u64 (s : Int)) (.int .u8 (d : Int)) (.slice A4 n4 c4) → Bx4 wb wr.heap.size (.slice A3 n3 c3) (.int .u64 (s : Int)) (.int .u8 (d : Int)) (.slice A4 n4 c4)) (by kernel_rfl) ?_
      rw [hW]
      clear hW
      refine takeP (i := 0) (v := ?_) rfl kE ?hy ?_
      case hy =>
        intro wS hSw
        clear hSw
        go_simp
        try with_reducible rfl
      refine takeP (i := 1) (v := ?_) rfl kE ?hy ?_
      case hy =>
        intro wS hSw
        clear hSw
        go_simp
        try with_reducible rfl
      refine takeP (i := 2) (v := ?_) rfl kE ?hy ?_
      case hy =>
        intro wS hSw
        clear hSw
        go_simp
        try with_reducible rfl
      refine takeP (i := 3) (v := ?_) rfl kE ?hy ?_
      case hy =>
        intro wS hSw
        clear hSw
        go_simp
        try with_reducible rfl
      refine takeP (i := 5) (v := ?_) rfl kE ?hy ?_
      case hy =>
        intro wS hSw
        clear hSw
        go_simp
        try with_reducible rfl
      refine takeP (i := 6) (v := ?_) rfl kE ?hy ?_
      case hy =>
        intro wS hSw
        obtain ⟨x0, x1, x2, x3, x4⟩ := id hSw
        clear hSw
        go_simp
        try with_reducible rfl
      try simp only [List.getElem_toArray, List.getElem_cons_succ, List.getElem_cons_zero, Act.put, List.setIfInBounds_toArray, List.set_cons_zero, List.set_cons_succ]
      refine readyF (rs := [4]) (by kernel_rfl) (by simp) ?_
      refine AllF.cons rfl (fun K hK => ?_) AllF.nil
      have hne : blk A16 c16 ≠ some wr.heap.size := fun e => Nhp3.out _ e rfl
      refine step_appB (by rfl) (.tmp 85) (.tmp 88) (by rfl) w.heap.size A16 n16 c16 (o3) (by rfl) hp3 A17 (n8 - k) (c8 - k) (F.drop k) (by rfl) (hrS.out _ ho8) (by have h3 := OwnB.len' hp3; have h4 := (hrS.out _ ho8).lenb; have := Hbl3.out; omega) hq.size ?_
      intro A18 c18 w9_4 hp4 hg hx
      refine hK _ _ (fun h => h.grownO hg hne) ?_
      clear hK K
      have zk := kE.lt
      have zw := Own.lt ho8
      have kE := kE.grownO hg hne
      have hq := hq.grown hg hq.size (fun b hb => (Own.lt hp3 b hb).1)
      have ho8 : OwnB w9_4 _ _ _ _ _ := Own.grown ho8 hg (fun b h1 h2 => Fhp3.out b h2 h1)
      have ho6 : Own w9_4 _ _ _ _ _ _ _ := Own.grown ho6 hg (own_apart ho6 hp3 (by decide))
      have Nhp4 : Hid (∀ b, blk A18 c18 = some b → b ≠ wr.heap.size) := Lib.hid fun b h1 e => by
        rcases hx with q | q
        · exact Nhp3.out b (q ▸ h1) e
        · rw [q] at h1
          simp at h1
          omega
      have Fhp4 : Hid (∀ b, blk A18 c18 = some b → blk A8 c8 ≠ some b) := Lib.hid fun b h1 h2 => by
        rcases hx with q | q
        · exact Fhp3.out b (q ▸ h1) h2
        · rw [q] at h1
          have := zw b h2
          simp at h1
          omega
      clear hg hx hne zk zw
      refine readyF (rs := [7]) (by kernel_rfl) (by simp) ?_
      refine AllF.cons rfl (fun K hK => ?_) AllF.nil
      have hne : blk A18 c18 ≠ some wr.heap.size := fun e => Nhp4.out _ e rfl
      refine step_appB (by rfl) (.tmp 89) (.tmp 91) (by rfl) w.heap.size A18 (n16 + (n8 - k)) c18 (o3 ++ F.drop k) (by rfl) hp4 A4 n4 c4 v (by rfl) (g4.below (by omega) hq) (by have h3 := OwnB.len' hp4; rw [List.length_append] at h3; have := Hbl3.out; have := Hn4.out; omega) hq.size ?_
      intro A19 c19 w9_4_7 hp5 hg hx
      refine hK _ _ (fun h => h.grownO hg hne) ?_
      clear hK K
      have zk := kE.lt
      have zw := Own.lt ho8
      have kE := kE.grownO hg hne
      have hq := hq.grown hg hq.size (fun b hb => (Own.lt hp4 b hb).1)
      have ho8 : OwnB w9_4_7 _ _ _ _ _ := Own.grown ho8 hg (fun b h1 h2 => Fhp4.out b h2 h1)
      have ho6 : Own w9_4_7 _ _ _ _ _ _ _ := Own.grown ho6 hg (own_apart ho6 hp4 (by decide))
      have Nhp5 : Hid (∀ b, blk A19 c19 = some b → b ≠ wr.heap.size) := Lib.hid fun b h1 e => by
        rcases hx with q | q
        · exact Nhp4.out b (q ▸ h1) e
        · rw [q] at h1
          simp at h1
          omega
      have Fhp5 : Hid (∀ b, blk A19 c19 = some b → blk A8 c8 ≠ some b) := Lib.hid fun b h1 h2 => by
        rcases hx with q | q
        · exact Fhp4.out b (q ▸ h1) h2
        · rw [q] at h1
          have := zw b h2
          simp at h1
          omega
      clear hg hx hne zk zw
      refine takeP (i := 8) (v := ?_) rfl kE ?hy ?_
      case hy =>
        intro wS hSw
        clear hSw
        go_simp
        try with_reducible rfl
      try simp only [List.getElem_toArray, List.getElem_cons_succ, List.getElem_cons_zero, Act.put, List.setIfInBounds_toArray, List.set_cons_zero, List.set_cons_succ]
      refine doneF (by kernel_rfl) ?_ _
      try simp only [List.getElem_toArray, List.getElem_cons_succ, List.getElem_cons_zero, Act.put, List.setIfInBounds_toArray, List.set_cons_zero, List.set_cons_succ]
      go_wp2
      go_roundw
      case rel => exact ⟨j + 1, by have := Hjn.out; omega, by go_num, hq, A19, _, c19, rfl, by rw [Hbody.out, ← Heq.out]; exact hp5, A6, _, c6, rfl, ho6⟩
      case measure => have := Hjn.out; simp [intOf]; omega
end Go.Proofs.YtpffieogkfndaaaGreatDoor
