/-
  TabGetW, TabOpenRP in one text. No condition but sizes.
-/
import Derived.Test.YtpffieogkfndaaaGreatDoorJTabVersionW
import Derived.Test.YtpffieogkfndaaaGreatDoorJTabOpenW
namespace Go.Proofs.YtpffieogkfndaaaGreatDoor
open Go.RowKit
set_option maxRecDepth 20000
set_option linter.unusedVariables false
set_option linter.unusedSimpArgs false
def GotVal (w : World) (r : List UInt8 × Nat × Nat) (e : Ending) (w' : World) : Prop :=
  ∃ (A : Option Addr) (n c : Nat), e = .returned (.tuple #[.slice A n c, .int .u64 (r.2.1 : Int), .int .i64 (r.2.2 : Int)]) ∧ Sl w' 1 A n c (bc r.1) ∧ Below w.heap.size w w'
set_option maxHeartbeats 16000000 in
theorem tget_any (w : World) (B g : Nat) (l : List EntL) (sp : List SpanL) (hc : checkTabL l sp = 0) (hT : TabIs w B g l sp) (hn : (tabBytesL l sp).length ≤ 65536) (hq : Quarter w) (KA : Option Addr) (k ck : Nat) (key : List UInt8) (hk : Sl w 1 KA k ck (bc key)) (hkn : k ≤ 1000000) (q : UInt64) :
    Calls Tryz.prog 21 #[.pointer (some ⟨g, 0, none⟩), .slice KA k ck, .int .u64 (q.toNat : Int)] w (GotVal w (getL l sp key q)) := by
  have hqs := q.toNat_lt
  obtain ⟨r0, hr0⟩ : ∃ r0, getL l sp key q = r0 := ⟨_, rfl⟩
  rw [hr0]
  unfold getL at hr0
  have kv := tversion_any w B g l sp hc hT hn hq KA k ck key hk hkn q
  obtain ⟨V, hV⟩ : ∃ V, versionL l key q = V := ⟨_, rfl⟩
  rw [hV] at kv hr0
  unfold GotVer at kv
  have kc := fun (w' : World) g2 (hS : SetIs w' g2 sp) (hk : Sl w' 1 KA k ck (bc key)) => cover_any w' g2 sp hS KA k ck key hk q.toNat (by omega)
  obtain ⟨cv, hcv⟩ : ∃ cv, coverL sp key q.toNat = cv := ⟨_, rfl⟩
  rw [hcv] at hr0
  simp only [hcv] at kc
  have Kv := Lib.hid kv
  have Kc := Lib.hid kc
  have Hr := Lib.hid hr0
  obtain ⟨_, _, _, _, _, _, _, _, _, g2, _, _, ⟨_, _, _, c3⟩, _, _, _, t, _, _⟩ := hT
  generalize q.toNat = qn at *
  clear kv kc hr0 hV hcv hq hn hc
  unfold GotVal
  go_enter Tryz.func21, Tryz.ntmps21
  go_wp2_with fail
  refine Kv.out.mono ?_
  rintro e w1 ⟨A7, n7, c7, xs, xd, A8, n8, c8, rfl, hv, hbr⟩
  have c3 := stays hbr c3
  have t := t.below hbr
  have hk := hk.below (by omega) hbr
  have hb := (Below.refl w1.heap.size w1).alloc (Nat.le_refl _) (.cells #[.slice A7 n7 c7, .int .u64 (xs : Int), .int .u8 (xd : Int), .slice A8 n8 c8] 69)
  have kE := Bx4.fresh w1 (.slice A7 n7 c7) (.int .u64 (xs : Int)) (.int .u8 (xd : Int)) (.slice A8 n8 c8) 69
  obtain ⟨gE, hgE⟩ : ∃ gE, w1.heap.size = gE := ⟨_, rfl⟩
  rw [hgE] at kE
  have c3 := stays hb c3
  have t := t.below hb
  have hk := hk.below (by omega) hb
  have hbr := hbr.trans (hb.mono hbr.size)
  have Hv : Hid (∀ x, V = some x → xs = x.key.seq.toNat ∧ xd = x.key.kind.toNat ∧ Sl (w1.alloc (.cells #[.slice A7 n7 c7, .int .u64 (xs : Int), .int .u8 (xd : Int), .slice A8 n8 c8] 69)) 1 A8 n8 c8 (bc x.value)) := Lib.hid fun x h => ⟨(hv x h).1, (hv x h).2.1, (hv x h).2.2.below (by omega) hb⟩
  generalize hW : (w1.alloc (.cells #[.slice A7 n7 c7, .int .u64 (xs : Int), .int .u8 (xd : Int), .slice A8 n8 c8] 69)) = w2 at *
  clear hb hv Kv
  go_wp2_with fail
  try rw [hW]
  try rw [hgE]
  clear hW hgE
  refine (Kc.out w2 g2 t hk).mono ?_
  rintro e w3 ⟨rfl, hb⟩
  have hbr := hbr.trans (hb.mono hbr.size)
  have kE := kE.below hb
  have Hv : Hid (∀ x, V = some x → xs = x.key.seq.toNat ∧ xd = x.key.kind.toNat ∧ Sl w3 1 A8 n8 c8 (bc x.value)) := Lib.hid fun x h => ⟨(Hv.out x h).1, (Hv.out x h).2.1, (Hv.out x h).2.2.below (by omega) hb⟩
  clear hb Kc t c3 hk
  have hr := Hr.out
  rcases V with _ | X
  case none =>
    simp only [Option.isSome_none] at *
    by_cases z : cv = 0
    case pos =>
      subst z
      obtain rfl : ([], 0, 0) = r0 := by rw [← hr]; simp
      clear hr Hr Hv
      go_wp2
      refine bodyPost_ret (v := .tuple #[.slice none 0 0, .int .u64 0, .int .i64 0]) (by simp [results, Tryz.results21, go_sem]) rfl ?_
      exact ⟨none, 0, 0, rfl, Sl.nil _ _ _ _ (by unfold maxLen; omega), hbr⟩
    obtain rfl : ([], cv, 2) = r0 := by rw [← hr]; simp [z]
    have t1 : ((cv : Int) == 0) = false := by simp; omega
    clear hr Hr Hv
    go_wp2
    refine bodyPost_ret (v := .tuple #[.slice none 0 0, .int .u64 (cv : Int), .int .i64 2]) (by simp [results, Tryz.results21, go_sem]) rfl ?_
    exact ⟨none, 0, 0, rfl, Sl.nil _ _ _ _ (by unfold maxLen; omega), hbr⟩
  case some =>
    simp only [Option.isSome_some] at *
    obtain ⟨e1, e2, sv⟩ := Hv.out X rfl
    rw [← e1, ← e2] at hr
    have Hsv := Lib.hid sv
    clear Hr Hv e1 e2 sv
    obtain ⟨x0, x1, x2, x3, x4⟩ := id kE
    by_cases z : xs < cv
    case pos =>
      obtain rfl : ([], cv, 2) = r0 := by rw [← hr, if_pos z]
      have t1 : decide (xs < cv) = true := decide_eq_true z
      have t2 : decide ((xs : Int) < (cv : Int)) = true := decide_eq_true (by omega)
      clear hr Hsv
      go_wp2
      refine bodyPost_ret (v := .tuple #[.slice none 0 0, .int .u64 (cv : Int), .int .i64 2]) (by simp [results, Tryz.results21, go_sem]) rfl ?_
      exact ⟨none, 0, 0, rfl, Sl.nil _ _ _ _ (by unfold maxLen; omega), hbr⟩
    have t1 : decide (xs < cv) = false := decide_eq_false z
    have t2 : decide ((xs : Int) < (cv : Int)) = false := decide_eq_false (by omega)
    rw [if_neg z] at hr
    by_cases z1 : xd = 1
    case pos =>
      subst z1
      rw [if_pos rfl] at hr
      subst hr
      clear Hsv
      go_wp2_with fail
      have hX := kE.drew
      have hbr := hbr.drew
      clear x0 x1 x2 x3 x4 kE
      generalize hW : w3.drew = w4 at *
      refine regionF (fun _ wa wb => Bx4 wa gE (.slice A7 n7 c7) (.int .u64 (xs : Int)) (.int .u8 ((1 : Nat) : Int)) (.slice A8 n8 c8) → Bx4 wb gE (.slice A7 n7 c7) (.int .u64 (xs : Int)) (.int .u8 ((1 : Nat) : Int)) (.slice A8 n8 c8)) (by kernel_rfl) ?_
      rw [hW]
      clear hW
      refine takeT (i := 0) (v := ?_) rfl ?hy ?_
      case hy => intro wS; go_simp; try with_reducible rfl
      refine takeT (i := 1) (v := ?_) rfl ?hy ?_
      case hy => intro wS; go_simp; try with_reducible rfl
      refine takeP (i := 2) (v := ?_) rfl hX ?hy ?_
      case hy =>
        intro wS hSw
        obtain ⟨z0, z1, z2, z3, z4⟩ := id hSw
        clear hSw
        go_simp
        try with_reducible rfl
      refine takeT (i := 3) (v := ?_) rfl ?hy ?_
      case hy => intro wS; go_simp; try with_reducible rfl
      refine takeT (i := 4) (v := ?_) rfl ?hy ?_
      case hy => intro wS; go_simp; try with_reducible rfl
      refine takeT (i := 5) (v := ?_) rfl ?hy ?_
      case hy => intro wS; go_simp; try with_reducible rfl
      try simp only [List.getElem_toArray, List.getElem_cons_succ, List.getElem_cons_zero, Act.put, List.setIfInBounds_toArray, List.set_cons_zero, List.set_cons_succ]
      refine doneF (by kernel_rfl) ?_ _
      try simp only [List.getElem_toArray, List.getElem_cons_succ, List.getElem_cons_zero, Act.put, List.setIfInBounds_toArray, List.set_cons_zero, List.set_cons_succ]
      go_wp2
      refine bodyPost_ret (v := .tuple #[.slice none 0 0, .int .u64 (xs : Int), .int .i64 2]) (by simp [results, Tryz.results21, go_sem]) rfl ?_
      exact ⟨none, 0, 0, rfl, Sl.nil _ _ _ _ (by unfold maxLen; omega), hbr⟩
    rw [if_neg z1] at hr
    subst hr
    have t3 : ((xd : Int) == 1) = false := by simp; omega
    go_wp2_with fail
    have hX := kE.drew
    have hbr := hbr.drew
    have Hsv := Lib.hid Hsv.out.drew
    clear x0 x1 x2 x3 x4 kE
    generalize hW : w3.drew = w4 at *
    refine regionF (fun _ wa wb => Bx4 wa gE (.slice A7 n7 c7) (.int .u64 (xs : Int)) (.int .u8 (xd : Int)) (.slice A8 n8 c8) → Bx4 wb gE (.slice A7 n7 c7) (.int .u64 (xs : Int)) (.int .u8 (xd : Int)) (.slice A8 n8 c8)) (by kernel_rfl) ?_
    rw [hW]
    clear hW
    refine takeT (i := 0) (v := ?_) rfl ?hy ?_
    case hy => intro wS; go_simp; try with_reducible rfl
    refine takeP (i := 1) (v := ?_) rfl hX ?hy ?_
    case hy =>
      intro wS hSw
      obtain ⟨z0, z1, z2, z3, z4⟩ := id hSw
      clear hSw
      go_simp
      try with_reducible rfl
    refine takeT (i := 2) (v := ?_) rfl ?hy ?_
    case hy => intro wS; go_simp; try with_reducible rfl
    refine takeT (i := 3) (v := ?_) rfl ?hy ?_
    case hy => intro wS; go_simp; try with_reducible rfl
    refine takeP (i := 4) (v := ?_) rfl hX ?hy ?_
    case hy =>
      intro wS hSw
      obtain ⟨z0, z1, z2, z3, z4⟩ := id hSw
      clear hSw
      go_simp
      try with_reducible rfl
    refine takeT (i := 5) (v := ?_) rfl ?hy ?_
    case hy => intro wS; go_simp; try with_reducible rfl
    refine takeT (i := 6) (v := ?_) rfl ?hy ?_
    case hy => intro wS; go_simp; try with_reducible rfl
    refine takeT (i := 7) (v := ?_) rfl ?hy ?_
    case hy => intro wS; go_simp; try with_reducible rfl
    try simp only [List.getElem_toArray, List.getElem_cons_succ, List.getElem_cons_zero, Act.put, List.setIfInBounds_toArray, List.set_cons_zero, List.set_cons_succ]
    refine doneF (by kernel_rfl) ?_ _
    try simp only [List.getElem_toArray, List.getElem_cons_succ, List.getElem_cons_zero, Act.put, List.setIfInBounds_toArray, List.set_cons_zero, List.set_cons_succ]
    go_wp2
    refine bodyPost_ret (v := .tuple #[.slice A8 n8 c8, .int .u64 (xs : Int), .int .i64 1]) (by simp [results, Tryz.results21, go_sem]) rfl ?_
    exact ⟨A8, n8, c8, rfl, Hsv.out, hbr⟩
end Go.Proofs.YtpffieogkfndaaaGreatDoor

namespace Go.Proofs.YtpffieogkfndaaaGreatDoor
set_option maxRecDepth 20000
set_option linter.unusedVariables false
set_option linter.unusedSimpArgs false
/-- the entries of an index' leaves -/
def parseR : Nat → List UInt8 → List UInt8 → Option (List EntL)
  | 0, p, _ => if p = [] then some [] else none
  | m + 1, p, lv => if p = [] then some [] else
      if (keyReadL p).2.2 ≠ 0 ∨ (takeL (keyReadL p).2.1).2.2 ≠ 0 ∨ lv.length < (takeL (keyReadL p).2.1).1 then none
      else if (openL (lv.take (takeL (keyReadL p).2.1).1)).2 ≠ 0 then none
      else match readLeafL (openL (lv.take (takeL (keyReadL p).2.1).1)).1 with
        | none => none
        | some l => (parseR m (takeL (keyReadL p).2.1).2.1 (lv.drop (takeL (keyReadL p).2.1).1)).map (l ++ ·)
theorem parseR_of {l : List EntL} (h1 : ∀ e ∈ l, checkKey e.key = 0 ∧ e.value.length ≤ 512) (h2 : risesL l = true) : ∀ (d j m : Nat), j + d = leafCount l → d ≤ m →
    parseR m ((List.range' j d).flatMap (lineL l)) ((List.range' j d).flatMap (sealedL l)) = some ((List.range' j d).flatMap (chunkL l))
  | 0, j, m, _, _ => by cases m <;> simp [parseR]
  | d + 1, j, 0, _, h => by omega
  | d + 1, j, m + 1, hj, hm => by
    have ih := parseR_of h1 h2 d (j + 1) m (by omega) (by omega)
    obtain ⟨e, he, hk⟩ := lastKey_mem (l := l) (i := j) (by omega)
    have hck : checkKey (lastKey (chunkL l j)) = 0 := by rw [← hk]; exact (h1 e he).1
    rw [List.range'_succ, List.flatMap_cons, List.flatMap_cons, List.flatMap_cons]
    unfold parseR
    have hs := sealed_len l h1 j
    have e1 : keyReadL (lineL l j ++ (List.range' (j + 1) d).flatMap (lineL l)) = (lastKey (chunkL l j), numL (sealedL l j).length ++ (List.range' (j + 1) d).flatMap (lineL l), 0) := by
      unfold lineL
      rw [List.append_assoc]
      exact keyRead_bytes _ hck _
    have e2 := take_num (sealedL l j).length (by omega) ((List.range' (j + 1) d).flatMap (lineL l))
    have hne : lineL l j ++ (List.range' (j + 1) d).flatMap (lineL l) ≠ [] := by
      intro q
      have h3 := congrArg List.length q
      have h4 := line_pos l j
      simp only [List.length_append, List.length_nil] at h3
      omega
    have hrd : readLeafL (leafBytesL (chunkL l j)) = some (chunkL l j) := (readLeaf_iff _ _).2 ⟨chunk_check h1 h2 j, rfl⟩
    have hop : openL (sealedL l j) = (leafBytesL (chunkL l j), 0) := open_shut _
    rw [if_neg hne, e1]
    simp only [e2]
    rw [if_neg (by rw [List.length_append]; omega), List.take_left, List.drop_left, hop]
    simp only [ne_eq, not_true_eq_false, if_false]
    rw [hrd]
    simp only [ih, Option.map_some]
theorem parseR_tab {l : List EntL} {sp : List SpanL} (hc : checkTabL l sp = 0) : parseR (indexN l (leafCount l)).length (indexN l (leafCount l)) (leavesN l (leafCount l)) = some l := by
  obtain ⟨_, _, _, c4, c5, _⟩ := checkTab_zero hc
  have h := parseR_of c4 c5 (leafCount l) 0 (indexN l (leafCount l)).length (by omega) (by
    have := flat_ge (line_pos l) (leafCount l) 0
    unfold indexN
    rw [List.range_eq_range']
    exact this)
  have h3 := chunks_all l
  unfold indexN leavesN
  unfold indexN at h
  rw [List.range_eq_range'] at h h3 ⊢
  rw [h3] at h
  exact h
/-- what a table's bytes say to the reference -/
theorem tabR {l : List EntL} {sp : List SpanL} {p : List UInt8} (hc : checkTabL l sp = 0) (hp : tabBytesL l sp = p) :
    23 ≤ p.length ∧ ∃ E b c d, openL (p.drop (p.length - 23)) = (E, 0) ∧ secAt E 4 = p.length - 23 ∧ secsN p E 4 = [leavesN l (leafCount l), b, c, d] ∧ openL b = (indexN l (leafCount l), 0) ∧ openL d = (rangesL sp, 0) ∧ spansL (rangesL sp) = some sp := by
  obtain ⟨c1, c2, c3, c4, c5, c6⟩ := checkTab_zero hc
  have hn : leafCount l ≤ 126 := by unfold leafCount; omega
  have b1 := leaves_len c4 (leafCount l)
  have b2 := index_len c4 (leafCount l) (Nat.le_refl _)
  have b3 := build_len (usersL l)
  have b4 := ranges_len c6
  have b5 : (usersL l).length = l.length := by simp [usersL]
  have hs : sectionsL p = some [leavesN l (leafCount l), closeL (indexN l (leafCount l)), closeL (buildL 10 (usersL l)), closeL (rangesL sp)] := by
    rw [← hp]
    exact sections_of _ _ _ _ (by omega) (by rw [closeL_len]; omega) (by rw [closeL_len]; omega) (by rw [closeL_len]; omega)
  have h23 : 23 ≤ p.length := by
    unfold sectionsL at hs
    split at hs
    · cases hs
    · omega
  obtain ⟨E, hE⟩ : ∃ E, openL (p.drop (p.length - 23)) = (E, 0) := by
    refine ⟨(openL (p.drop (p.length - 23))).1, Prod.ext rfl ?_⟩
    unfold sectionsL at hs
    rw [if_neg (by omega)] at hs
    split at hs
    · cases hs
    · rename_i h
      simpa using h
  rw [secs_is p h23 E hE] at hs
  split at hs
  · rename_i h4
    exact ⟨h23, E, _, _, _, hE, h4, Option.some.inj hs, open_shut _, open_shut _, spans_of sp c6⟩
  · cases hs
section
variable {p E : List UInt8} (hE : openL (p.drop (p.length - 23)) = (E, 0))
include hE
theorem noTab_at (h : secAt E 4 ≠ p.length - 23) : NoTab p := fun l sp hc hp => by
  obtain ⟨_, E', _, _, _, h1, h2, _⟩ := tabR hc hp
  rw [hE] at h1
  rw [(Prod.mk.inj h1).1] at h
  exact h h2
theorem tabR_same {a b c d : List UInt8} (hs : secsN p E 4 = [a, b, c, d]) {l : List EntL} {sp : List SpanL} (hc : checkTabL l sp = 0) (hp : tabBytesL l sp = p) : a = leavesN l (leafCount l) ∧ openL b = (indexN l (leafCount l), 0) ∧ openL d = (rangesL sp, 0) ∧ spansL (rangesL sp) = some sp := by
  obtain ⟨_, E', b', c', d', h1, h2, h3, h4, h5, h6⟩ := tabR hc hp
  rw [hE] at h1
  rw [← (Prod.mk.inj h1).1, hs] at h3
  injection h3 with e1 h3
  injection h3 with e2 h3
  injection h3 with e3 h3
  injection h3 with e4 _
  subst e1 e2 e3 e4
  exact ⟨rfl, h4, h5, h6⟩
variable {a b c d : List UInt8} (hs : secsN p E 4 = [a, b, c, d])
include hs
theorem noTabR_open (hz : (openL b).2 ≠ 0 ∨ (openL d).2 ≠ 0) : NoTab p := fun l sp hc hp => by
  obtain ⟨_, h2, h3, _⟩ := tabR_same hE hs hc hp
  rw [h2, h3] at hz
  simp at hz
theorem noTabR_parse (hz : parseR (openL b).1.length (openL b).1 a = none ∨ spansL (openL d).1 = none) : NoTab p := fun l sp hc hp => by
  obtain ⟨h1, h2, h3, h4⟩ := tabR_same hE hs hc hp
  rw [h1, h2, h3] at hz
  simp only at hz
  rw [parseR_tab hc, h4] at hz
  rcases hz with q | q <;> cases q
theorem noTabR_build {l : List EntL} {sp : List SpanL} (hl : parseR (openL b).1.length (openL b).1 a = some l) (hsp : spansL (openL d).1 = some sp) (hz : (tabBE l sp).2 ≠ 0 ∨ (tabBE l sp).1 ≠ p) : NoTab p := fun l' sp' hc hp => by
  obtain ⟨h1, h2, h3, h4⟩ := tabR_same hE hs hc hp
  rw [h1, h2] at hl
  rw [h3] at hsp
  simp only at hl hsp
  rw [parseR_tab hc] at hl
  rw [h4] at hsp
  obtain rfl := Option.some.inj hl
  obtain rfl := Option.some.inj hsp
  unfold tabBE at hz
  rw [if_pos hc] at hz
  rcases hz with q | q
  · exact q rfl
  · exact q hp
end
theorem noTab_short {p : List UInt8} (h : p.length < 23) : NoTab p := fun l sp hc hp => by have := (tabR hc hp).1; omega
theorem noTab_foot {p : List UInt8} (h : (openL (p.drop (p.length - 23))).2 ≠ 0) : NoTab p := fun l sp hc hp => by
  obtain ⟨_, E, _, _, _, h1, _⟩ := tabR hc hp
  rw [h1] at h
  exact h rfl
theorem secsN_four (p E : List UInt8) : ∃ a b c d, secsN p E 4 = [a, b, c, d] ∧ a.length ≤ p.length ∧ b.length ≤ p.length ∧ d.length ≤ p.length := by
  unfold secsN
  rw [show List.range 4 = [0, 1, 2, 3] from rfl]
  refine ⟨_, _, _, _, rfl, ?_, ?_, ?_⟩
  all_goals
    rw [List.length_take, List.length_drop]
    omega
end Go.Proofs.YtpffieogkfndaaaGreatDoor
