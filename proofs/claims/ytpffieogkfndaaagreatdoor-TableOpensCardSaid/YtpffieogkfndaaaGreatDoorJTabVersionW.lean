/-
  TabOpenP, TabIndexW, TabVersionW in one text. No condition but sizes.
-/
import Derived.Test.YtpffieogkfndaaaGreatDoorJTabPlain
import Derived.Test.YtpffieogkfndaaaGreatDoorJLeafFrom
import Derived.Test.YtpffieogkfndaaaGreatDoorJEntSort
namespace Go.Proofs.YtpffieogkfndaaaGreatDoor
set_option maxRecDepth 20000
set_option linter.unusedVariables false
set_option linter.unusedSimpArgs false
def NoTab (p : List UInt8) : Prop := ∀ l sp, checkTabL l sp = 0 → tabBytesL l sp ≠ p
theorem noTab_secs {p : List UInt8} (h : sectionsL p = none) : NoTab p := fun l sp hc hp => by
  obtain ⟨a, b, c, d, h1, _⟩ := tab_fwd hc hp
  rw [h] at h1
  cases h1
section
variable {p a b c d : List UInt8} (h : sectionsL p = some [a, b, c, d])
include h
theorem tab_same {l : List EntL} {sp : List SpanL} (hc : checkTabL l sp = 0) (hp : tabBytesL l sp = p) : openL b = (indexN l (leafCount l), 0) ∧ openL c = (buildL 10 (usersL l), 0) ∧ openL d = (rangesL sp, 0) ∧
    pagesL (openL b).1 = some (pagesN l (leafCount l)) ∧ spansL (openL d).1 = some sp ∧ entriesL p (pagesN l (leafCount l)) = some l := by
  obtain ⟨a', b', c', d', h1, h2, h3, h4, h5, h6, h7⟩ := tab_fwd hc hp
  rw [h] at h1
  injection h1 with h1
  injection h1 with e1 h1
  injection h1 with e2 h1
  injection h1 with e3 h1
  injection h1 with e4 _
  subst e1 e2 e3 e4
  refine ⟨h2, h3, h4, ?_, ?_, h7⟩
  · rw [h2]; exact h5
  · rw [h4]; exact h6
theorem noTab_open (hz : (openL b).2 ≠ 0 ∨ (openL c).2 ≠ 0 ∨ (openL d).2 ≠ 0) : NoTab p := fun l sp hc hp => by
  obtain ⟨h2, h3, h4, _⟩ := tab_same h hc hp
  rw [h2, h3, h4] at hz
  simp at hz
theorem noTab_parse (hz : pagesL (openL b).1 = none ∨ spansL (openL d).1 = none ∨ entriesL p ((pagesL (openL b).1).getD []) = none) : NoTab p := fun l sp hc hp => by
  obtain ⟨_, _, _, h5, h6, h7⟩ := tab_same h hc hp
  rw [h5, h6] at hz
  simp only [Option.getD_some] at hz
  rw [h7] at hz
  rcases hz with q | q | q <;> cases q
theorem noTab_build {pg : List PageL} {sp : List SpanL} {l : List EntL} (hp : pagesL (openL b).1 = some pg) (hs : spansL (openL d).1 = some sp) (he : entriesL p pg = some l) (hz : (tabBE l sp).2 ≠ 0 ∨ (tabBE l sp).1 ≠ p) : NoTab p := fun l' sp' hc hb => by
  obtain ⟨_, _, _, h5, h6, h7⟩ := tab_same h hc hb
  rw [hp] at h5
  rw [hs] at h6
  have e1 := Option.some.inj h5
  have e2 := Option.some.inj h6
  rw [← e1, he] at h7
  have e3 := Option.some.inj h7
  rw [← e2, ← e3] at hc hb
  unfold tabBE at hz
  rw [if_pos hc] at hz
  rcases hz with q | q
  · exact q rfl
  · exact q hb
theorem tab_yes {pg : List PageL} {sp : List SpanL} {l : List EntL} (hp : pagesL (openL b).1 = some pg) (h0 : (tabBE l sp).2 = 0) (h1 : (tabBE l sp).1 = p) :
    checkTabL l sp = 0 ∧ tabBytesL l sp = p ∧ pg = pagesN l (leafCount l) ∧ (openL c).1 = buildL 10 (usersL l) ∧ rangesL sp = (openL d).1 ∧ ∀ s ∈ sp, checkSpanL s = 0 := by
  have hc : checkTabL l sp = 0 := by
    unfold tabBE at h0
    split at h0
    · assumption
    · exact h0
  have hb : tabBytesL l sp = p := by
    unfold tabBE at h1
    rw [if_pos hc] at h1
    exact h1
  obtain ⟨_, h3, h4, h5, _, _⟩ := tab_same h hc hb
  rw [hp] at h5
  obtain ⟨_, _, _, _, _, c6⟩ := checkTab_zero hc
  refine ⟨hc, hb, Option.some.inj h5, ?_, ?_, c6⟩
  · rw [h3]
  · rw [h4]
end
theorem sections_four {p : List UInt8} {ls : List (List UInt8)} (h : sectionsL p = some ls) : ∃ a b c d, ls = [a, b, c, d] ∧ b.length ≤ p.length ∧ c.length ≤ p.length ∧ d.length ≤ p.length := by
  unfold sectionsL at h
  split at h
  · cases h
  · split at h
    · cases h
    · split at h
      · injection h with h
        rw [show List.range 4 = [0, 1, 2, 3] from rfl] at h
        refine ⟨_, _, _, _, h.symm, ?_, ?_, ?_⟩
        all_goals
          rw [List.length_take, List.length_drop]
          omega
      · cases h
theorem takeText_64 (p : List UInt8) : (takeTextL p 64).1.length ≤ 64 := by
  unfold takeTextL
  split
  · simp
  · split
    · simp
    · split
      · simp
      · simp only [List.length_take]
        omega
theorem parseS_bounds : ∀ (m : Nat) (p : List UInt8) (sp : List SpanL), parseS m p = some sp → (∀ s ∈ sp, s.lo.length ≤ 64 ∧ s.hi.length ≤ 64) ∧ sp.length ≤ m
  | 0, p, sp, h => by
    unfold parseS at h
    split at h
    · injection h with h
      subst h
      simp
    · cases h
  | m + 1, p, sp, h => by
    unfold parseS at h
    split at h
    · injection h with h
      subst h
      simp
    · split at h
      · cases h
      · obtain ⟨r, hr, rfl⟩ := Option.map_eq_some_iff.1 h
        obtain ⟨i1, i2⟩ := parseS_bounds m _ r hr
        refine ⟨fun s hs => ?_, by simp; omega⟩
        rcases List.mem_cons.1 hs with rfl | hs
        · exact ⟨takeText_64 _, takeText_64 _⟩
        · exact i1 s hs
theorem parseP_bounds : ∀ (m at_ : Nat) (p : List UInt8) (ps : List PageL), parseP m at_ p = some ps → (∀ x ∈ ps, x.lo ≤ x.hi ∧ x.hi ≤ at_ + 1048576 * m) ∧ ps.length ≤ m
  | 0, at_, p, ps, h => by
    unfold parseP at h
    split at h
    · injection h with h
      subst h
      simp
    · cases h
  | m + 1, at_, p, ps, h => by
    unfold parseP at h
    split at h
    · injection h with h
      subst h
      simp
    · split at h
      · cases h
      · rename_i hn
        obtain ⟨r, hr, rfl⟩ := Option.map_eq_some_iff.1 h
        obtain ⟨i1, i2⟩ := parseP_bounds m _ _ r hr
        generalize (takeL (keyReadL p).2.1).1 = k at *
        refine ⟨fun s hs => ?_, by simp; omega⟩
        rcases List.mem_cons.1 hs with rfl | hs
        · show at_ ≤ at_ + k ∧ at_ + k ≤ at_ + 1048576 * (m + 1)
          omega
        · have := i1 s hs
          omega
theorem pages_bounds {p : List UInt8} (hp : p.length ≤ 65536) : (∀ x ∈ (pagesL p).getD [], x.lo ≤ x.hi ∧ x.hi ≤ 1000000000000000) ∧ ((pagesL p).getD []).length ≤ 65536 := by
  cases h : pagesL p with
  | none => simp
  | some ps =>
    obtain ⟨h1, h2⟩ := parseP_bounds _ _ _ _ h
    refine ⟨fun x hx => ?_, by show ps.length ≤ 65536; omega⟩
    have := h1 x hx
    omega
theorem spans_bounds {p : List UInt8} (hp : p.length ≤ 65536) : (∀ s ∈ (spansL p).getD [], s.lo.length ≤ 1000000 ∧ s.hi.length ≤ 1000000) ∧ ((spansL p).getD []).length ≤ 65536 := by
  cases h : spansL p with
  | none => simp
  | some sp =>
    obtain ⟨h1, h2⟩ := parseS_bounds _ _ _ h
    refine ⟨fun x hx => ?_, by show sp.length ≤ 65536; omega⟩
    have := h1 x hx
    omega
end Go.Proofs.YtpffieogkfndaaaGreatDoor

namespace Go.Proofs.YtpffieogkfndaaaGreatDoor
open Go.RowKit
set_option maxRecDepth 20000
set_option linter.unusedVariables false
set_option linter.unusedSimpArgs false
theorem find_some {f : Nat → Bool} {n i : Nat} (hi : i < n) (h0 : ∀ j, j < i → f j = false) (h1 : f i = true) : (List.range n).find? f = some i := by
  rw [List.find?_range_eq_some]
  exact ⟨h1, by simpa using hi, fun j hj => by simp [h0 j hj]⟩
theorem find_none {f : Nat → Bool} {n : Nat} (h0 : ∀ j, j < n → f j = false) : (List.range n).find? f = none := by
  rw [List.find?_eq_none]
  intro j hj
  simp [h0 j (List.mem_range.1 hj)]
set_option maxHeartbeats 4000000 in
theorem ver1_any (w : World) (x : KeyL) (A3 : Option Addr) (n3 c3 : Nat) (s3 : Sl w 1 A3 n3 c3 (bc x.user)) (ks kd : Nat) (lo hi : Int) (hks : x.seq.toNat = ks) (hkd : x.kind.toNat = kd)
    (g : Nat) (k : KeyL) (A2 : Option Addr) (n2 c2 : Nat) (s2 : Sl w 1 A2 n2 c2 (bc k.user)) (s d : Nat) (hs : k.seq.toNat = s) (hd : k.kind.toNat = d) (kK : Bx w g (.slice A2 n2 c2) (.int .u64 (s : Int)) (.int .u8 (d : Int))) :
    Calls Tryz.prog 100 #[.agg #[.slice A3 n3 c3, .int .u64 (ks : Int), .int .u8 (kd : Int), .int .i64 lo, .int .i64 hi], .pointer (some ⟨g, 0, none⟩)] w fun e w' => e = .returned (.bool (decide (0 ≤ cmpKey x k))) ∧ Below w.heap.size w w' := by
  have al := (Below.refl w.heap.size w).alloc (Nat.le_refl _) (.cells #[.slice A3 n3 c3, .int .u64 (ks : Int), .int .u8 (kd : Int), .int .i64 lo, .int .i64 hi] 142)
  have hbx := boxed (Below.refl _ _) (box1 w (.cells #[.slice A3 n3 c3, .int .u64 (ks : Int), .int .u8 (kd : Int), .int .i64 lo, .int .i64 hi] 142))
  have y0 := hbx.1 0 _ rfl
  have y1 := hbx.1 1 _ rfl
  have y2 := hbx.1 2 _ rfl
  have kK := kK.below al
  have ck := compare_any _ A3 n3 c3 x (s3.below (by omega) al) A2 n2 c2 k (s2.below (by omega) al)
  rw [hks, hkd, hs, hd] at ck
  obtain ⟨v, hv⟩ : ∃ v, cmpKey x k = v := ⟨_, rfl⟩
  rw [hv] at ck ⊢
  generalize hW : (w.alloc (.cells #[.slice A3 n3 c3, .int .u64 (ks : Int), .int .u8 (kd : Int), .int .i64 lo, .int .i64 hi] 142)) = w1 at *
  have Ck := Lib.hid ck
  clear ck hbx hks hkd hs hd hv s2 s3
  obtain ⟨x0, x1, x2, x3⟩ := id kK
  go_enter Tryz.func100, Tryz.ntmps100
  go_wp2_with fail
  try rw [hW]
  clear hW x0 x1 x2 x3 y0 y1 y2 kK
  refine Ck.out.mono ?_
  rintro e w2 ⟨rfl, hb⟩
  have hbr := al.trans (hb.mono al.size)
  clear Ck hb al
  go_wp2
  go_ret
  exact ⟨rfl, hbr⟩
set_option maxHeartbeats 8000000 in
theorem index_any (w : World) (p : Nat → Prop) (A : Option Addr) (n c : Nat) (ps : List PageL) (h : SlR w p A n c ps) (hn : n ≤ 1000000)
    (g : Nat) (k : KeyL) (A2 : Option Addr) (n2 c2 : Nat) (s2 : Sl w 1 A2 n2 c2 (bc k.user)) (s d : Nat) (hs : k.seq.toNat = s) (hd : k.kind.toNat = d) (kK : Bx w g (.slice A2 n2 c2) (.int .u64 (s : Int)) (.int .u8 (d : Int)))
    (f : Nat → Bool) (hf : ∀ (i : Nat) (hi : i < ps.length), f i = decide (0 ≤ cmpKey ps[i].last k)) :
    Calls Tryz.prog 99 #[.slice A n c, .func (.func 100) #[] #[.pointer (some ⟨g, 0, none⟩)]] w
      fun e w' => e = .returned (.int .i64 (match (List.range n).find? f with | some i => (i : Int) | none => -1)) ∧ Below w.heap.size w w' := by
  have hcp := h.cap
  unfold maxLen at hcp
  have Hf := Lib.hid hf
  obtain ⟨r, hr⟩ : ∃ r, (match (List.range n).find? f with | some i => (i : Int) | none => -1) = r := ⟨_, rfl⟩
  rw [hr]
  have Hr := Lib.hid hr
  have Hs := Lib.hid hs
  have Hd := Lib.hid hd
  clear hf hr hs hd
  go_enter Tryz.func99, Tryz.ntmps99
  go_wp2
  go_loopw [8] (fun iv wr => ∃ j : Nat, j ≤ n ∧ iv = .int .i64 (j : Int) ∧ Hid (∀ i, i < j → f i = false) ∧ Below w.heap.size w wr) (fun iv _ => n - (intOf iv).toNat)
  case atStart => exact ⟨0, Nat.zero_le _, rfl, Lib.hid fun i hi => by omega, Below.refl _ _⟩
  case round =>
    obtain ⟨j, hj, rfl, H0, hbr⟩ := hrel
    by_cases hlt : j < n
    case neg =>
      obtain rfl : n = j := by omega
      have er : -1 = r := by rw [← Hr.out, find_none H0.out]
      subst er
      clear Hr H0 Hf h kK s2
      go_wp2
      go_ret
      exact ⟨rfl, hbr⟩
    have hp := h.below hbr
    obtain ⟨b, o, x, cs, rfl, hx, ⟨v, rfl, hk⟩, hcell⟩ := hp.get hlt
    obtain ⟨A3, n3, c3, rfl, hs3, _⟩ := hk
    obtain ⟨hjl, rfl⟩ := List.getElem?_eq_some_iff.1 hx
    have d0 : wr.cell? ⟨b, o + j * 5, none⟩ = some (.slice A3 n3 c3) := hcell 0 _ rfl
    have d1 : wr.cell? ⟨b, o + j * 5 + 1, none⟩ = some (.int .u64 (ps[j].last.seq.toNat : Int)) := hcell 1 _ rfl
    have d2 : wr.cell? ⟨b, o + j * 5 + 2, none⟩ = some (.int .u8 (ps[j].last.kind.toNat : Int)) := hcell 2 _ rfl
    have d3 : wr.cell? ⟨b, o + j * 5 + 3, none⟩ = some (.int .i64 (ps[j].lo : Int)) := hcell 3 _ rfl
    have d4 : wr.cell? ⟨b, o + j * 5 + 4, none⟩ = some (.int .i64 (ps[j].hi : Int)) := hcell 4 _ rfl
    have ck := ver1_any wr ps[j].last A3 n3 c3 hs3 _ _ (ps[j].lo : Int) (ps[j].hi : Int) rfl rfl g k A2 n2 c2 (s2.below (by omega) hbr) s d Hs.out Hd.out (kK.below hbr)
    have hfj := Hf.out j hjl
    rw [← hfj] at ck
    generalize ps[j].last.seq.toNat = ks at *
    generalize ps[j].last.kind.toNat = kd at *
    generalize ps[j].lo = lo at *
    generalize ps[j].hi = hi at *
    obtain ⟨fj, hfj2⟩ : ∃ fj, f j = fj := ⟨_, rfl⟩
    rw [hfj2] at ck
    have Ck := Lib.hid ck
    have Hfj := Lib.hid hfj2
    clear ck hfj hfj2 hp hx hcell hs3
    go_wp2_with fail
    refine Ck.out.mono ?_
    rintro e w1 ⟨rfl, hb⟩
    have hbr := hbr.trans (hb.mono hbr.size)
    clear Ck hb d0 d1 d2 d3 d4
    cases fj
    · go_wp2
      go_roundw
      case rel => exact ⟨j + 1, by omega, by go_num, Lib.hid fun i hi => by
        by_cases q : i = j
        · rw [q]; exact Hfj.out
        · exact H0.out i (by omega), hbr⟩
      case measure => simp [intOf]; omega
    · have er : (j : Int) = r := by rw [← Hr.out, find_some hlt H0.out Hfj.out]
      subst er
      clear Hr H0 Hf h kK s2 Hfj
      go_wp2
      go_ret
      exact ⟨rfl, hbr⟩
end Go.Proofs.YtpffieogkfndaaaGreatDoor

namespace Go.Proofs.YtpffieogkfndaaaGreatDoor
open Go.RowKit
set_option maxRecDepth 20000
set_option linter.unusedVariables false
set_option linter.unusedSimpArgs false
/-- an entry and whether it is there; what it is if it is -/
def GotVer (w : World) (o : Option EntL) (e : Ending) (w' : World) : Prop :=
  ∃ (A : Option Addr) (n c s d : Nat) (B : Option Addr) (m b : Nat), e = .returned (.tuple #[.agg #[.slice A n c, .int .u64 (s : Int), .int .u8 (d : Int), .slice B m b], .bool o.isSome]) ∧ (∀ x, o = some x → s = x.key.seq.toNat ∧ d = x.key.kind.toNat ∧ Sl w' 1 B m b (bc x.value)) ∧ Below w.heap.size w w'
theorem tab_leaf {l : List EntL} {sp : List SpanL} (hc : checkTabL l sp = 0) {i : Nat} (hi : i < leafCount l) :
    (pageL l i).lo ≤ (pageL l i).hi ∧ (pageL l i).hi ≤ (tabBytesL l sp).length ∧ (openL (((tabBytesL l sp).drop (pageL l i).lo).take ((pageL l i).hi - (pageL l i).lo))).2 = 0 ∧ readLeafL (openL (((tabBytesL l sp).drop (pageL l i).lo).take ((pageL l i).hi - (pageL l i).lo))).1 = some (chunkL l i) := by
  obtain ⟨c1, c2, c3, c4, c5, c6⟩ := checkTab_zero hc
  have hown : leafAtL (tabBytesL l sp) (pageL l i) = some (chunkL l i) := by
    have : tabBytesL l sp = leavesN l (leafCount l) ++ ([closeL (indexN l (leafCount l)), closeL (buildL 10 (usersL l)), closeL (rangesL sp)].flatten ++ footL (partsL l sp)) := by
      unfold tabBytesL partsL
      rw [List.flatten_cons, List.append_assoc]
    rw [this]
    exact leafAt_of c4 c5 _ i hi
  have hle := (pagesN_ok hc).1 (pageL l i) (List.mem_map.2 ⟨i, List.mem_range.2 hi, rfl⟩)
  unfold leafAtL at hown
  split at hown
  · cases hown
  · split at hown
    · cases hown
    · rename_i h1 h2
      exact ⟨hle.1, by omega, by omega, hown⟩
theorem page_last {l : List EntL} (i : Nat) (hi : i < (pagesN l (leafCount l)).length) : ((pagesN l (leafCount l))[i]).last = lastKey (chunkL l i) := by
  simp [pagesN, pageL]
theorem page_at {l : List EntL} (i : Nat) (hi : i < (pagesN l (leafCount l)).length) : (pagesN l (leafCount l))[i] = pageL l i := by
  simp [pagesN]
theorem find_lt {l : List EntL} {k : KeyL} {i : Nat} (h : findLeaf l k = some i) : i < leafCount l := List.mem_range.1 (List.mem_of_find?_eq_some h)
set_option maxHeartbeats 32000000 in
theorem tversion_any (w : World) (B g : Nat) (l : List EntL) (sp : List SpanL) (hc : checkTabL l sp = 0) (hT : TabIs w B g l sp) (hn : (tabBytesL l sp).length ≤ 65536) (hq : Quarter w) (KA : Option Addr) (k ck : Nat) (key : List UInt8) (hk : Sl w 1 KA k ck (bc key)) (hkn : k ≤ 1000000) (q : UInt64) :
    Calls Tryz.prog 59 #[.pointer (some ⟨g, 0, none⟩), .slice KA k ck, .int .u64 (q.toNat : Int)] w (GotVer w (versionL l key q)) := by
  have al := (Below.refl w.heap.size w).alloc (Nat.le_refl _) (.cells #[.slice none 0 0, .int .u64 0, .int .u8 0, .slice none 0 0] 69)
  have kR := Bx4.fresh w (.slice none 0 0) (.int .u64 0) (.int .u8 0) (.slice none 0 0) 69
  have hT := hT.below al
  have hk := hk.below (by omega) al
  have hbr := al
  have hgR : w.heap.size ≤ w.heap.size := Nat.le_refl _
  generalize hW : (w.alloc (.cells #[.slice none 0 0, .int .u64 0, .int .u8 0, .slice none 0 0] 69)) = w0 at *
  obtain ⟨gR, hg⟩ : ∃ gR, w.heap.size = gR := ⟨_, rfl⟩
  have hgw : w.heap.size ≤ gR := by omega
  rw [hg] at kR
  obtain ⟨r0, hr0⟩ : ∃ r0, versionL l key q = r0 := ⟨_, rfl⟩
  rw [hr0]
  unfold versionL at hr0
  have HQ := Lib.hid hq
  have km := tabmay_any w0 B g l sp hc hT (HQ.out.below hbr) KA k ck key hk
  generalize hasL (buildL 10 (usersL l)) key = hb0 at *
  have Hr := Lib.hid hr0
  have Km := Lib.hid km
  clear km hr0 al hgR hq
  obtain ⟨A, n, c, Ap, np, cp, Af, nf, cf, g2, b1, b2, ⟨c0, c1, c2, c3⟩, s, r, -, -, u, -⟩ := hT
  clear b1 b2 c2 c3 u
  go_enter Tryz.func59, Tryz.ntmps59
  go_wp2_with fail
  try rw [hW]
  try rw [hg]
  clear hW hg
  refine Km.out.mono ?_
  rintro e w1 ⟨rfl, hb⟩
  have kR := kR.below hb
  have hbr := hbr.trans (hb.mono hbr.size)
  have c0 := stays hb c0
  have c1 := stays hb c1
  have s := s.below (by omega) hb
  have r := r.below hb
  have hk := hk.below (by omega) hb
  clear hb Km
  cases hb0
  case false =>
    have er : none = r0 := by rw [← Hr.out]; simp
    subst er
    obtain ⟨x0, x1, x2, x3, x4⟩ := id kR
    clear Hr s r c0 c1
    go_wp2
    refine bodyPost_ret (v := .tuple #[.agg #[.slice none 0 0, .int .u64 0, .int .u8 0, .slice none 0 0], .bool false]) (by simp [results, Tryz.results59, go_sem, x0, x1, x2, x3]) rfl ?_
    refine ⟨none, 0, 0, 0, 0, none, 0, 0, rfl, fun _ h => (by cases h), ?_⟩
    iterate 4 refine Below.setCell ?_ (by omega) _
    exact hbr
  have hr := Hr.out
  rw [if_pos rfl] at hr
  have hup := upto_any w1 KA k ck key hk hkn q
  obtain ⟨U, hU⟩ : ∃ U, uptoKey key q = U := ⟨_, rfl⟩
  rw [hU] at hup hr
  unfold GotKey at hup
  obtain ⟨us, hus⟩ : ∃ us, U.seq.toNat = us := ⟨_, rfl⟩
  obtain ⟨ud, hud⟩ : ∃ ud, U.kind.toNat = ud := ⟨_, rfl⟩
  rw [hus, hud] at hup
  have Hup := Lib.hid hup
  have Hus := Lib.hid hus
  have Hud := Lib.hid hud
  have Hr2 := Lib.hid hr
  clear hup hus hud hU hr Hr
  go_wp2_with fail
  refine Hup.out.mono ?_
  rintro e w2 ⟨A5, n5, c5, rfl, ho5, hb⟩
  have s5 := OwnB.sl ho5
  have kR := kR.below hb
  have hbr := hbr.trans (hb.mono hbr.size)
  have c0 := stays hb c0
  have c1 := stays hb c1
  have s := s.below (by omega) hb
  have r := r.below hb
  have hk := hk.below (by omega) hb
  clear hb Hup ho5
  have hb := (Below.refl w2.heap.size w2).alloc (Nat.le_refl _) (.cells #[.slice A5 n5 c5, .int .u64 (us : Int), .int .u8 (ud : Int)] 67)
  have kK := Bx.fresh w2 (.slice A5 n5 c5) (.int .u64 (us : Int)) (.int .u8 (ud : Int)) 67
  obtain ⟨gK, hgK⟩ : ∃ gK, w2.heap.size = gK := ⟨_, rfl⟩
  rw [hgK] at kK
  have kR := kR.below hb
  have hbr := hbr.trans (hb.mono hbr.size)
  have c0 := stays hb c0
  have c1 := stays hb c1
  have s := s.below (by omega) hb
  have r := r.below hb
  have hk := hk.below (by omega) hb
  have s5 := s5.below (by omega) hb
  generalize hW : (w2.alloc (.cells #[.slice A5 n5 c5, .int .u64 (us : Int), .int .u8 (ud : Int)] 67)) = w3 at *
  clear hb
  have hlr := r.lenR
  have hnp : leafCount l = np := by rw [← hlr]; simp [pagesN]
  have hnp2 := (pagesN_ok hc).2
  have ki := index_any w3 _ Ap np cp _ r (by omega) gK U A5 n5 c5 s5 us ud Hus.out Hud.out kK (fun i => decide (0 ≤ cmpKey (lastKey (chunkL l i)) U)) (fun i hi => by rw [page_last i hi])
  have hfl : (List.range np).find? (fun i => decide (0 ≤ cmpKey (lastKey (chunkL l i)) U)) = findLeaf l U := by unfold findLeaf; rw [hnp]
  rw [hfl] at ki
  obtain ⟨FL, hFL⟩ : ∃ FL, findLeaf l U = FL := ⟨_, rfl⟩
  rw [hFL] at ki
  have Ki := Lib.hid ki
  have HFL := Lib.hid hFL
  clear ki hFL hfl hnp2
  go_wp2_with fail
  try rw [hW]
  try rw [hgK]
  clear hW hgK
  refine Ki.out.mono ?_
  rintro e w4 ⟨rfl, hb⟩
  have kR := kR.below hb
  have hbr := hbr.trans (hb.mono hbr.size)
  have c0 := stays hb c0
  have c1 := stays hb c1
  have s := s.below (by omega) hb
  have r := r.below hb
  have hk := hk.below (by omega) hb
  have s5 := s5.below (by omega) hb
  have kK := kK.below hb
  clear hb Ki
  cases FL
  case none =>
    have er : none = r0 := by rw [← Hr2.out, HFL.out]
    subst er
    obtain ⟨x0, x1, x2, x3, x4⟩ := id kR
    clear Hr2 HFL s r c0 c1 s5 kK hlr
    simp only
    go_wp2
    refine bodyPost_ret (v := .tuple #[.agg #[.slice none 0 0, .int .u64 0, .int .u8 0, .slice none 0 0], .bool false]) (by simp [results, Tryz.results59, go_sem, x0, x1, x2, x3]) rfl ?_
    refine ⟨none, 0, 0, 0, 0, none, 0, 0, rfl, fun _ h => (by cases h), ?_⟩
    iterate 4 refine Below.setCell ?_ (by omega) _
    exact hbr
  rename_i i
  have hi := find_lt HFL.out
  obtain ⟨y1, y2, y3, y4⟩ := tab_leaf hc hi
  have hr := Hr2.out
  rw [HFL.out] at hr
  simp only at hr
  have hil : i < np := by omega
  obtain ⟨b, o, x, cs, rfl, hx, ⟨v, rfl, hkk⟩, hcell⟩ := r.get hil
  obtain ⟨hjl, rfl⟩ := List.getElem?_eq_some_iff.1 hx
  have d3 : w4.cell? ⟨b, o + i * 5 + 3, none⟩ = some (.int .i64 ((pagesN l (leafCount l))[i].lo : Int)) := hcell 3 _ rfl
  have d4 : w4.cell? ⟨b, o + i * 5 + 4, none⟩ = some (.int .i64 ((pagesN l (leafCount l))[i].hi : Int)) := hcell 4 _ rfl
  rw [page_at i hjl] at d3 d4
  have hl := s.lenb
  generalize (pageL l i).lo = lo at *
  generalize (pageL l i).hi = hi_ at *
  rw [hl] at y2
  obtain ⟨AQ, rq, sq, -⟩ := cutLH s .i64 .i64 (lo : Int) (hi_ : Int) lo hi_ rfl rfl y1 y2
  generalize ((tabBytesL l sp).drop lo).take (hi_ - lo) = pc at *
  have hol := open_len pc
  have hpl := sq.lenb
  obtain ⟨oo, hoo⟩ : ∃ oo, openL pc = (oo, 0) := ⟨(openL pc).1, Prod.ext rfl y3⟩
  rw [hoo] at y4 hol
  simp only at y4 hol
  have ko := fun (w' : World) (h : Sl w' 1 AQ (hi_ - lo) (c - lo) (bc pc)) (hq : Quarter w') => open_any w' AQ (hi_ - lo) (c - lo) pc h hq (by omega)
  rw [hoo] at ko
  unfold NewB2 at ko
  have hol2 : oo.length ≤ 65536 := by omega
  have Ko := Lib.hid ko
  have H4 := Lib.hid y4
  have Hr3 := Lib.hid hr
  have hin : (i : Int) < (np : Int) := by omega
  clear ko hoo y3 y4 hr Hr2 HFL hx hcell hkk hlr s hol hpl hil hjl
  go_wp2_with fail
  have c0 : (World.drew w4).cell? _ = _ := c0
  have c1 : (World.drew w4).cell? _ = _ := c1
  have d3 : (World.drew w4).cell? _ = _ := d3
  have d4 : (World.drew w4).cell? _ = _ := d4
  have kR := kR.drew
  have kK := kK.drew
  have hk := hk.drew
  have s5 := s5.drew
  have sq := sq.drew
  have hbr := hbr.drew
  generalize hW : w4.drew = w5 at *
  refine regionF (fun _ wa wb => Below w5.heap.size w5 wa → Below w5.heap.size w5 wb) (by kernel_rfl) ?_
  rw [hW]
  clear hW
  have hX := Below.refl w5.heap.size w5
  refine takeT (i := 0) (v := ?_) rfl ?hy ?_
  case hy => intro wS; go_simp; try with_reducible rfl
  refine takeT (i := 1) (v := ?_) rfl ?hy ?_
  case hy => intro wS; go_simp; try with_reducible rfl
  refine takeT (i := 2) (v := ?_) rfl ?hy ?_
  case hy => intro wS; go_simp; try with_reducible rfl
  refine takeP (i := 3) (v := ?_) rfl hX ?hy ?_
  case hy =>
    intro wS hSw
    have c0 := stays hSw c0
    clear hSw
    go_simp
    try with_reducible rfl
  refine takeT (i := 4) (v := ?_) rfl ?hy ?_
  case hy => intro wS; go_simp; try with_reducible rfl
  refine takeT (i := 5) (v := ?_) rfl ?hy ?_
  case hy => intro wS; go_simp; try with_reducible rfl
  refine takeT (i := 6) (v := ?_) rfl ?hy ?_
  case hy => intro wS; go_simp; try with_reducible rfl
  refine takeP (i := 7) (v := ?_) rfl hX ?hy ?_
  case hy =>
    intro wS hSw
    have c1 := stays hSw c1
    clear hSw
    go_simp
    try with_reducible rfl
  refine takeT (i := 8) (v := ?_) rfl ?hy ?_
  case hy => intro wS; go_simp; try with_reducible rfl
  refine takeT (i := 9) (v := ?_) rfl ?hy ?_
  case hy => intro wS; go_simp; try with_reducible rfl
  refine takeT (i := 10) (v := ?_) rfl ?hy ?_
  case hy => intro wS; go_simp; try with_reducible rfl
  refine takeP (i := 11) (v := ?_) rfl hX ?hy ?_
  case hy =>
    intro wS hSw
    have d3 := stays hSw d3
    clear hSw
    go_simp
    try with_reducible rfl
  refine takeT (i := 12) (v := ?_) rfl ?hy ?_
  case hy => intro wS; go_simp; try with_reducible rfl
  refine takeT (i := 13) (v := ?_) rfl ?hy ?_
  case hy => intro wS; go_simp; try with_reducible rfl
  refine takeT (i := 14) (v := ?_) rfl ?hy ?_
  case hy => intro wS; go_simp; try with_reducible rfl
  refine takeP (i := 15) (v := ?_) rfl hX ?hy ?_
  case hy =>
    intro wS hSw
    have c1 := stays hSw c1
    clear hSw
    go_simp
    try with_reducible rfl
  refine takeT (i := 16) (v := ?_) rfl ?hy ?_
  case hy => intro wS; go_simp; try with_reducible rfl
  refine takeT (i := 17) (v := ?_) rfl ?hy ?_
  case hy => intro wS; go_simp; try with_reducible rfl
  refine takeT (i := 18) (v := ?_) rfl ?hy ?_
  case hy => intro wS; go_simp; try with_reducible rfl
  refine takeP (i := 19) (v := ?_) rfl hX ?hy ?_
  case hy =>
    intro wS hSw
    have d4 := stays hSw d4
    clear hSw
    go_simp
    try with_reducible rfl
  refine takeT (i := 20) (v := ?_) rfl ?hy ?_
  case hy => intro wS; go_simp; try with_reducible rfl
  try simp only [List.getElem_toArray, List.getElem_cons_succ, List.getElem_cons_zero, Act.put, List.setIfInBounds_toArray, List.set_cons_zero, List.set_cons_succ]
  refine readyF (rs := [21]) (by kernel_rfl) (by simp) ?_
  refine AllF.cons rfl (fun K hK => ?_) AllF.nil
  go_simp
  refine (Ko.out w5 sq (HQ.out.below hbr)).mono ?_
  rintro e w5_21 ⟨A6, n6, c6, rfl, ho6, hb⟩
  refine hK _ _ (fun h => h.trans (hb.mono h.size)) ?_
  clear hK K
  have hX := hX.trans (hb.mono hX.size)
  have hbr := hbr.trans (hb.mono hbr.size)
  have kR := kR.below hb
  have kK := kK.below hb
  have hk := hk.below (by omega) hb
  have s5 := s5.below (by omega) hb
  clear hb sq Ko c0 c1 d3 d4
  refine takeT (i := 22) (v := ?_) rfl ?hy ?_
  case hy => intro wS; go_simp; try with_reducible rfl
  refine takeT (i := 23) (v := ?_) rfl ?hy ?_
  case hy => intro wS; go_simp; try with_reducible rfl
  refine takeT (i := 24) (v := ?_) rfl ?hy ?_
  case hy => intro wS; go_simp; try with_reducible rfl
  refine takeT (i := 25) (v := ?_) rfl ?hy ?_
  case hy => intro wS; go_simp; try with_reducible rfl
  refine takeT (i := 26) (v := ?_) rfl ?hy ?_
  case hy => intro wS; go_simp; try with_reducible rfl
  try simp only [List.getElem_toArray, List.getElem_cons_succ, List.getElem_cons_zero, Act.put, List.setIfInBounds_toArray, List.set_cons_zero, List.set_cons_succ]
  refine doneF (by kernel_rfl) ?_ _
  try simp only [List.getElem_toArray, List.getElem_cons_succ, List.getElem_cons_zero, Act.put, List.setIfInBounds_toArray, List.set_cons_zero, List.set_cons_succ]
  have s6 := OwnB.sl ho6
  have hl6 := s6.lenb
  have k8 := from12n_any w5_21 A6 n6 c6 oo s6 (by omega) A5 n5 c5 U s5
  rw [Hus.out, Hud.out, H4.out] at k8
  simp only [Option.getD_some, Option.isSome_some, if_true] at k8
  unfold GotAtN at k8
  obtain ⟨O, hO⟩ : ∃ O, fromL (chunkL l i) U = O := ⟨_, rfl⟩
  have hr := Hr3.out
  rw [hO] at k8 hr
  obtain ⟨xs, hxs⟩ : ∃ xs, (O.getD ⟨⟨[], 0, 0⟩, []⟩).key.seq.toNat = xs := ⟨_, rfl⟩
  obtain ⟨xd, hxd⟩ : ∃ xd, (O.getD ⟨⟨[], 0, 0⟩, []⟩).key.kind.toNat = xd := ⟨_, rfl⟩
  rw [hxs, hxd] at k8
  have K8 := Lib.hid k8
  have Hxs := Lib.hid hxs
  have Hxd := Lib.hid hxd
  have Hr4 := Lib.hid hr
  clear k8 hxs hxd hO hr Hr3 H4 hl6 ho6
  obtain ⟨z0, z1, z2, z3⟩ := id kK
  go_wp2_with fail
  clear z0 z1 z2 z3 kK
  refine K8.out.mono ?_
  rintro e w6 ⟨A7, n7, c7, A8, n8, c8, rfl, s7, s8, hb, u8⟩
  have hgR5 := kR.lt
  have U8 : Hid (∀ b, 0 < n8 → A8.map (·.block) = some b → gR < b) := Lib.hid fun b hn q => by have := u8 b hn q; omega
  clear u8 hgR5
  have kR := kR.below hb
  have hbr := hbr.trans (hb.mono hbr.size)
  have hk := hk.below (by omega) hb
  clear hb K8 s6 s5
  have hb := (Below.refl w6.heap.size w6).alloc (Nat.le_refl _) (.cells #[.slice A7 n7 c7, .int .u64 (xs : Int), .int .u8 (xd : Int), .slice A8 n8 c8] 69)
  have kE := Bx4.fresh w6 (.slice A7 n7 c7) (.int .u64 (xs : Int)) (.int .u8 (xd : Int)) (.slice A8 n8 c8) 69
  obtain ⟨gE, hgE⟩ : ∃ gE, w6.heap.size = gE := ⟨_, rfl⟩
  have hgRE : gR < gE := by have := kR.lt; omega
  rw [hgE] at kE
  have kR := kR.below hb
  have hbr := hbr.trans (hb.mono hbr.size)
  have hk := hk.below (by omega) hb
  have s7 := s7.below (by omega) hb
  have s8 := s8.below (by omega) hb
  generalize hW : (w6.alloc (.cells #[.slice A7 n7 c7, .int .u64 (xs : Int), .int .u8 (xd : Int), .slice A8 n8 c8] 69)) = w7 at *
  clear hb
  go_wp2_with fail
  try rw [hW]
  try rw [hgE]
  clear hW hgE
  have hX := kE.drew
  have kR := kR.drew
  have hk := hk.drew
  have s7 := s7.drew
  have s8 := s8.drew
  have hbr := hbr.drew
  generalize hW : w7.drew = w8 at *
  clear kE
  rcases O with _ | X
  case none =>
    have er : none = r0 := by rw [← Hr4.out]
    subst er
    refine regionF (fun _ wa wb => Bx4 wa gE (.slice A7 n7 c7) (.int .u64 (xs : Int)) (.int .u8 (xd : Int)) (.slice A8 n8 c8) → Bx4 wb gE (.slice A7 n7 c7) (.int .u64 (xs : Int)) (.int .u8 (xd : Int)) (.slice A8 n8 c8)) (by kernel_rfl) ?_
    rw [hW]
    clear hW
    refine takeP (i := 0) (v := ?_) rfl hX ?hy ?_
    case hy =>
      intro wS hSw
      obtain ⟨z0, z1, z2, z3, z4⟩ := id hSw
      clear hSw
      go_simp
      try with_reducible rfl
    refine takeT (i := 1) (v := ?_) rfl ?hy ?_
    case hy => intro wS; go_simp; try with_reducible rfl
    refine takeT (i := 2) (v := ?_) rfl ?hy ?_
    case hy => intro wS; go_simp; try with_reducible rfl
    try simp only [List.getElem_toArray, List.getElem_cons_succ, List.getElem_cons_zero, Act.put, List.setIfInBounds_toArray, List.set_cons_zero, List.set_cons_succ]
    refine takeF (i := 3) (v := undef) (fun wa => Bx4 wa gE (.slice A7 n7 c7) (.int .u64 (xs : Int)) (.int .u8 (xd : Int)) (.slice A8 n8 c8)) rfl (by kernel_rfl) (by kernel_rfl) (by kernel_rfl) (fun j hj => .inr (.inr fun wa wb h g => g h)) (fun wa => id) (fun _ _ _ h => h) (Or.inr ⟨by kernel_rfl, rfl⟩) hX ?_
    try simp only [List.getElem_toArray, List.getElem_cons_succ, List.getElem_cons_zero, Act.put, List.setIfInBounds_toArray, List.set_cons_zero, List.set_cons_succ]
    refine takeF (i := 4) (v := undef) (fun wa => Bx4 wa gE (.slice A7 n7 c7) (.int .u64 (xs : Int)) (.int .u8 (xd : Int)) (.slice A8 n8 c8)) rfl (by kernel_rfl) (by kernel_rfl) (by kernel_rfl) (fun j hj => .inr (.inr fun wa wb h g => g h)) (fun wa => id) (fun _ _ _ h => h) (Or.inr ⟨by kernel_rfl, rfl⟩) hX ?_
    try simp only [List.getElem_toArray, List.getElem_cons_succ, List.getElem_cons_zero, Act.put, List.setIfInBounds_toArray, List.set_cons_zero, List.set_cons_succ]
    refine takeF (i := 5) (v := undef) (fun wa => Bx4 wa gE (.slice A7 n7 c7) (.int .u64 (xs : Int)) (.int .u8 (xd : Int)) (.slice A8 n8 c8)) rfl (by kernel_rfl) (by kernel_rfl) (by kernel_rfl) (fun j hj => .inr (.inr fun wa wb h g => g h)) (fun wa => id) (fun _ _ _ h => h) (Or.inr ⟨by kernel_rfl, rfl⟩) hX ?_
    try simp only [List.getElem_toArray, List.getElem_cons_succ, List.getElem_cons_zero, Act.put, List.setIfInBounds_toArray, List.set_cons_zero, List.set_cons_succ]
    refine takeF (i := 6) (v := undef) (fun wa => Bx4 wa gE (.slice A7 n7 c7) (.int .u64 (xs : Int)) (.int .u8 (xd : Int)) (.slice A8 n8 c8)) rfl (by kernel_rfl) (by kernel_rfl) (by kernel_rfl) (fun j hj => .inr (.inr fun wa wb h g => g h)) (fun wa => id) (fun _ _ _ h => h) (Or.inr ⟨by kernel_rfl, rfl⟩) hX ?_
    try simp only [List.getElem_toArray, List.getElem_cons_succ, List.getElem_cons_zero, Act.put, List.setIfInBounds_toArray, List.set_cons_zero, List.set_cons_succ]
    refine takeF (i := 7) (v := undef) (fun wa => Bx4 wa gE (.slice A7 n7 c7) (.int .u64 (xs : Int)) (.int .u8 (xd : Int)) (.slice A8 n8 c8)) rfl (by kernel_rfl) (by kernel_rfl) (by kernel_rfl) (fun j hj => .inr (.inr fun wa wb h g => g h)) (fun wa => id) (fun _ _ _ h => h) (Or.inr ⟨by kernel_rfl, rfl⟩) hX ?_
    refine takeT (i := 8) (v := ?_) rfl ?hy ?_
    case hy => intro wS; go_simp; try with_reducible rfl
    try simp only [List.getElem_toArray, List.getElem_cons_succ, List.getElem_cons_zero, Act.put, List.setIfInBounds_toArray, List.set_cons_zero, List.set_cons_succ]
    refine readyF (rs := [9]) (by kernel_rfl) (by simp) ?_
    refine AllF.cons rfl (fun K hK => ?_) AllF.nil
    obtain ⟨x0, x1, x2, x3, x4⟩ := id kR
    go_simp
    refine hK _ _ (fun h => h.grownO (Bx4.set kR (v0 := .slice A7 n7 c7) (v1 := .int .u64 (xs : Int)) (v2 := .int .u8 (xd : Int)) (v3 := .slice A8 n8 c8)).2 (fun q => by have := Option.some.inj q; omega)) ?_
    clear hK K
    refine takeT (i := 10) (v := ?_) rfl ?hy ?_
    case hy => intro wS; go_simp; try with_reducible rfl
    try simp only [List.getElem_toArray, List.getElem_cons_succ, List.getElem_cons_zero, Act.put, List.setIfInBounds_toArray, List.set_cons_zero, List.set_cons_succ]
    refine doneF (by kernel_rfl) ?_ _
    try simp only [List.getElem_toArray, List.getElem_cons_succ, List.getElem_cons_zero, Act.put, List.setIfInBounds_toArray, List.set_cons_zero, List.set_cons_succ]
    go_wp2
    refine bodyPost_ret (v := .tuple #[.agg #[.slice A7 n7 c7, .int .u64 (xs : Int), .int .u8 (xd : Int), .slice A8 n8 c8], .bool false]) (by simp [results, Tryz.results59, go_sem, x0, x1, x2, x3]) rfl ?_
    refine ⟨A7, n7, c7, xs, xd, A8, n8, c8, rfl, fun _ h => (by cases h), ?_⟩
    iterate 4 refine Below.setCell ?_ (by omega) _
    exact hbr
  case some =>
    have hr := Hr4.out
    simp only [Option.getD_some, Option.isSome_some] at *
    obtain ⟨ok, hok⟩ : ∃ ok, (X.key.user == key) = ok := ⟨_, rfl⟩
    have Hok := Lib.hid hok
    have hr2 : r0 = if ok = true then some X else none := by
      rw [← hr, ← hok]
      by_cases q : X.key.user = key
      · simp [q]
      · simp [q]
    have Hr5 := Lib.hid hr2
    clear hok hr hr2 Hr4
    refine regionF (fun _ wa wb => Bx4 wa gE (.slice A7 n7 c7) (.int .u64 (xs : Int)) (.int .u8 (xd : Int)) (.slice A8 n8 c8) → Bx4 wb gE (.slice A7 n7 c7) (.int .u64 (xs : Int)) (.int .u8 (xd : Int)) (.slice A8 n8 c8)) (by kernel_rfl) ?_
    rw [hW]
    clear hW
    refine takeP (i := 0) (v := ?_) rfl hX ?hy ?_
    case hy =>
      intro wS hSw
      obtain ⟨z0, z1, z2, z3, z4⟩ := id hSw
      clear hSw
      go_simp
      try with_reducible rfl
    refine takeT (i := 1) (v := ?_) rfl ?hy ?_
    case hy => intro wS; go_simp; try with_reducible rfl
    refine takeT (i := 2) (v := ?_) rfl ?hy ?_
    case hy => intro wS; go_simp; try with_reducible rfl
    refine takeT (i := 3) (v := ?_) rfl ?hy ?_
    case hy => intro wS; go_simp; try with_reducible rfl
    refine takeT (i := 4) (v := ?_) rfl ?hy ?_
    case hy => intro wS; go_simp; try with_reducible rfl
    refine takeP (i := 5) (v := ?_) rfl hX ?hy ?_
    case hy =>
      intro wS hSw
      obtain ⟨z0, z1, z2, z3, z4⟩ := id hSw
      clear hSw
      go_simp
      try with_reducible rfl
    refine takeT (i := 6) (v := ?_) rfl ?hy ?_
    case hy => intro wS; go_simp; try with_reducible rfl
    try simp only [List.getElem_toArray, List.getElem_cons_succ, List.getElem_cons_zero, Act.put, List.setIfInBounds_toArray, List.set_cons_zero, List.set_cons_succ]
    refine readyF (rs := [7]) (by kernel_rfl) (by simp) ?_
    refine AllF.cons rfl (fun K hK => ?_) AllF.nil
    go_simp
    refine (equal_is w8 A7 n7 c7 X.key.user KA k ck key ok Hok s7 hk).mono ?_
    rintro e w8_7 ⟨rfl, rfl⟩
    refine hK _ _ (fun h => h) ?_
    clear hK K
    refine takeT (i := 8) (v := ?_) rfl ?hy ?_
    case hy => intro wS; go_simp; try with_reducible rfl
    try simp only [List.getElem_toArray, List.getElem_cons_succ, List.getElem_cons_zero, Act.put, List.setIfInBounds_toArray, List.set_cons_zero, List.set_cons_succ]
    refine readyF (rs := [9]) (by kernel_rfl) (by simp) ?_
    refine AllF.cons rfl (fun K hK => ?_) AllF.nil
    obtain ⟨x0, x1, x2, x3, x4⟩ := id kR
    go_simp
    refine hK _ _ (fun h => h.grownO (Bx4.set kR (v0 := .slice A7 n7 c7) (v1 := .int .u64 (xs : Int)) (v2 := .int .u8 (xd : Int)) (v3 := .slice A8 n8 c8)).2 (fun q => by have := Option.some.inj q; omega)) ?_
    clear hK K
    refine takeT (i := 10) (v := ?_) rfl ?hy ?_
    case hy => intro wS; go_simp; try with_reducible rfl
    try simp only [List.getElem_toArray, List.getElem_cons_succ, List.getElem_cons_zero, Act.put, List.setIfInBounds_toArray, List.set_cons_zero, List.set_cons_succ]
    refine doneF (by kernel_rfl) ?_ _
    try simp only [List.getElem_toArray, List.getElem_cons_succ, List.getElem_cons_zero, Act.put, List.setIfInBounds_toArray, List.set_cons_zero, List.set_cons_succ]
    go_wp2
    refine bodyPost_ret (v := .tuple #[.agg #[.slice A7 n7 c7, .int .u64 (xs : Int), .int .u8 (xd : Int), .slice A8 n8 c8], .bool ok]) (by simp [results, Tryz.results59, go_sem, x0, x1, x2, x3]) rfl ?_
    rw [Hr5.out]
    refine ⟨A7, n7, c7, xs, xd, A8, n8, c8, ?_, fun y hy => ?_, ?_⟩
    · cases ok <;> rfl
    · have e : X = y := by
        split at hy
        · exact Option.some.inj hy
        · cases hy
      subst e
      refine ⟨Hxs.out.symm, Hxd.out.symm, ?_⟩
      have hgs := (Bx4.set kR (v0 := .slice A7 n7 c7) (v1 := .int .u64 (xs : Int)) (v2 := .int .u8 (xd : Int)) (v3 := .slice A8 n8 c8)).2
      exact s8.grown (by omega) hgs (fun hn b q e => by have := U8.out b hn q; have := Option.some.inj e; omega)
    · iterate 4 refine Below.setCell ?_ (by omega) _
      exact hbr
end Go.Proofs.YtpffieogkfndaaaGreatDoor
