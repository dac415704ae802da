/-
  A table's version of a key. (Printed by gentabver.py.) The seals' table lies in its variable; no other condition but sizes.
-/
import Derived.Test.YtpffieogkfndaaaDoorJTabIndexW
namespace Go.Proofs.YtpffieogkfndaaaDoor
open Go.RowKit
set_option maxRecDepth 20000
set_option linter.unusedVariables false
set_option linter.unusedSimpArgs false
/-- an entry and whether it is there; what it is if it is -/
def GotVer (w : World) (o : Option EntL) (e : Ending) (w' : World) : Prop :=
  ∃ (A : Option Addr) (n c s d : Nat) (B : Option Addr) (m b : Nat), e = .returned (.tuple #[.agg #[.slice A n c, .int .u64 (s : Int), .int .u8 (d : Int), .slice B m b], .bool o.isSome]) ∧ (∀ x, o = some x → s = x.key.seq.toNat ∧ d = x.key.kind.toNat ∧ Sl w' 1 B m b (bc x.value)) ∧ Below w.heap.size w w'
theorem tab_leaf {l : List EntL} {sp : List SpanL} (hc : checkTabL l sp = 0) {i : Nat} (hi : i < leafCount l) :
    (pageL l i).lo ≤ (pageL l i).hi ∧ (pageL l i).hi ≤ (tabBytesL l sp).length ∧ (openL (((tabBytesL l sp).drop (pageL l i).lo).take ((pageL l i).hi - (pageL l i).lo))).2 = 0 ∧ readLeafL (openL (((tabBytesL l sp).drop (pageL l i).lo).take ((pageL l i).hi - (pageL l i).lo))).1 = some (chunkL l i) := by
  obtain ⟨c1, c2, c3, c4, c5, c6⟩ := checkTab_zero hc
  have hown : leafAtL (tabBytesL l sp) (pageL l i) = some (chunkL l i) := by
    have : tabBytesL l sp = leavesN l (leafCount l) ++ ([closeL (indexN l (leafCount l)), closeL (buildL 10 (usersL l)), closeL (rangesL sp)].flatten ++ footL (partsL l sp)) := by
      unfold tabBytesL partsL
      rw [List.flatten_cons, List.append_assoc]
    rw [this]
    exact leafAt_of c4 c5 _ i hi
  have hle := (pagesN_ok hc).1 (pageL l i) (List.mem_map.2 ⟨i, List.mem_range.2 hi, rfl⟩)
  unfold leafAtL at hown
  split at hown
  · cases hown
  · split at hown
    · cases hown
    · rename_i h1 h2
      exact ⟨hle.1, by omega, by omega, hown⟩
theorem page_last {l : List EntL} (i : Nat) (hi : i < (pagesN l (leafCount l)).length) : ((pagesN l (leafCount l))[i]).last = lastKey (chunkL l i) := by
  simp [pagesN, pageL]
theorem page_at {l : List EntL} (i : Nat) (hi : i < (pagesN l (leafCount l)).length) : (pagesN l (leafCount l))[i] = pageL l i := by
  simp [pagesN]
theorem find_lt {l : List EntL} {k : KeyL} {i : Nat} (h : findLeaf l k = some i) : i < leafCount l := List.mem_range.1 (List.mem_of_find?_eq_some h)
set_option maxHeartbeats 32000000 in
theorem tversion_any (w : World) (B g : Nat) (l : List EntL) (sp : List SpanL) (hc : checkTabL l sp = 0) (hT : TabIs w B g l sp) (hn : (tabBytesL l sp).length ≤ 65536) (hq : Quarter w) (KA : Option Addr) (k ck : Nat) (key : List UInt8) (hk : Sl w 1 KA k ck (bc key)) (hkn : k ≤ 1000000) (q : UInt64) :
    Calls Tryd.prog 44 #[.pointer (some ⟨g, 0, none⟩), .slice KA k ck, .int .u64 (q.toNat : Int)] w (GotVer w (versionL l key q)) := by
  have al := (Below.refl w.heap.size w).alloc (Nat.le_refl _) (.cells #[.slice none 0 0, .int .u64 0, .int .u8 0, .slice none 0 0] 45)
  have kR := Bx4.fresh w (.slice none 0 0) (.int .u64 0) (.int .u8 0) (.slice none 0 0) 45
  have hT := hT.below al
  have hk := hk.below (by omega) al
  have hbr := al
  have hgR : w.heap.size ≤ w.heap.size := Nat.le_refl _
  generalize hW : (w.alloc (.cells #[.slice none 0 0, .int .u64 0, .int .u8 0, .slice none 0 0] 45)) = w0 at *
  obtain ⟨gR, hg⟩ : ∃ gR, w.heap.size = gR := ⟨_, rfl⟩
  have hgw : w.heap.size ≤ gR := by omega
  rw [hg] at kR
  obtain ⟨r0, hr0⟩ : ∃ r0, versionL l key q = r0 := ⟨_, rfl⟩
  rw [hr0]
  unfold versionL at hr0
  have HQ := Lib.hid hq
  have km := tabmay_any w0 B g l sp hc hT (HQ.out.below hbr) KA k ck key hk
  generalize hasL (buildL 10 (usersL l)) key = hb0 at *
  have Hr := Lib.hid hr0
  have Km := Lib.hid km
  clear km hr0 al hgR hq
  obtain ⟨A, n, c, Ap, np, cp, Af, nf, cf, g2, b1, b2, ⟨c0, c1, c2, c3⟩, s, r, -, -, u, -⟩ := hT
  clear b1 b2 c2 c3 u
  go_enter Tryd.func44, Tryd.ntmps44
  go_wp2_with fail
  try rw [hW]
  try rw [hg]
  clear hW hg
  refine Km.out.mono ?_
  rintro e w1 ⟨rfl, hb⟩
  have kR := kR.below hb
  have hbr := hbr.trans (hb.mono hbr.size)
  have c0 := stays hb c0
  have c1 := stays hb c1
  have s := s.below (by omega) hb
  have r := r.below hb
  have hk := hk.below (by omega) hb
  clear hb Km
  cases hb0
  case false =>
    have er : none = r0 := by rw [← Hr.out]; simp
    subst er
    obtain ⟨x0, x1, x2, x3, x4⟩ := id kR
    clear Hr s r c0 c1
    go_wp2
    refine bodyPost_ret (v := .tuple #[.agg #[.slice none 0 0, .int .u64 0, .int .u8 0, .slice none 0 0], .bool false]) (by simp [results, Tryd.results44, go_sem, x0, x1, x2, x3]) rfl ?_
    refine ⟨none, 0, 0, 0, 0, none, 0, 0, rfl, fun _ h => (by cases h), ?_⟩
    iterate 4 refine Below.setCell ?_ (by omega) _
    exact hbr
  have hr := Hr.out
  rw [if_pos rfl] at hr
  have hup := upto_any w1 KA k ck key hk hkn q
  obtain ⟨U, hU⟩ : ∃ U, uptoKey key q = U := ⟨_, rfl⟩
  rw [hU] at hup hr
  unfold GotKey at hup
  obtain ⟨us, hus⟩ : ∃ us, U.seq.toNat = us := ⟨_, rfl⟩
  obtain ⟨ud, hud⟩ : ∃ ud, U.kind.toNat = ud := ⟨_, rfl⟩
  rw [hus, hud] at hup
  have Hup := Lib.hid hup
  have Hus := Lib.hid hus
  have Hud := Lib.hid hud
  have Hr2 := Lib.hid hr
  clear hup hus hud hU hr Hr
  go_wp2_with fail
  refine Hup.out.mono ?_
  rintro e w2 ⟨A5, n5, c5, rfl, ho5, hb⟩
  have s5 := OwnB.sl ho5
  have kR := kR.below hb
  have hbr := hbr.trans (hb.mono hbr.size)
  have c0 := stays hb c0
  have c1 := stays hb c1
  have s := s.below (by omega) hb
  have r := r.below hb
  have hk := hk.below (by omega) hb
  clear hb Hup ho5
  have hb := (Below.refl w2.heap.size w2).alloc (Nat.le_refl _) (.cells #[.slice A5 n5 c5, .int .u64 (us : Int), .int .u8 (ud : Int)] 43)
  have kK := Bx.fresh w2 (.slice A5 n5 c5) (.int .u64 (us : Int)) (.int .u8 (ud : Int)) 43
  obtain ⟨gK, hgK⟩ : ∃ gK, w2.heap.size = gK := ⟨_, rfl⟩
  rw [hgK] at kK
  have kR := kR.below hb
  have hbr := hbr.trans (hb.mono hbr.size)
  have c0 := stays hb c0
  have c1 := stays hb c1
  have s := s.below (by omega) hb
  have r := r.below hb
  have hk := hk.below (by omega) hb
  have s5 := s5.below (by omega) hb
  generalize hW : (w2.alloc (.cells #[.slice A5 n5 c5, .int .u64 (us : Int), .int .u8 (ud : Int)] 43)) = w3 at *
  clear hb
  have hlr := r.lenR
  have hnp : leafCount l = np := by rw [← hlr]; simp [pagesN]
  have hnp2 := (pagesN_ok hc).2
  have ki := index_any w3 _ Ap np cp _ r (by omega) gK U A5 n5 c5 s5 us ud Hus.out Hud.out kK (fun i => decide (0 ≤ cmpKey (lastKey (chunkL l i)) U)) (fun i hi => by rw [page_last i hi])
  have hfl : (List.range np).find? (fun i => decide (0 ≤ cmpKey (lastKey (chunkL l i)) U)) = findLeaf l U := by unfold findLeaf; rw [hnp]
  rw [hfl] at ki
  obtain ⟨FL, hFL⟩ : ∃ FL, findLeaf l U = FL := ⟨_, rfl⟩
  rw [hFL] at ki
  have Ki := Lib.hid ki
  have HFL := Lib.hid hFL
  clear ki hFL hfl hnp2
  go_wp2_with fail
  try rw [hW]
  try rw [hgK]
  clear hW hgK
  refine Ki.out.mono ?_
  rintro e w4 ⟨rfl, hb⟩
  have kR := kR.below hb
  have hbr := hbr.trans (hb.mono hbr.size)
  have c0 := stays hb c0
  have c1 := stays hb c1
  have s := s.below (by omega) hb
  have r := r.below hb
  have hk := hk.below (by omega) hb
  have s5 := s5.below (by omega) hb
  have kK := kK.below hb
  clear hb Ki
  cases FL
  case none =>
    have er : none = r0 := by rw [← Hr2.out, HFL.out]
    subst er
    obtain ⟨x0, x1, x2, x3, x4⟩ := id kR
    clear Hr2 HFL s r c0 c1 s5 kK hlr
    simp only
    go_wp2
    refine bodyPost_ret (v := .tuple #[.agg #[.slice none 0 0, .int .u64 0, .int .u8 0, .slice none 0 0], .bool false]) (by simp [results, Tryd.results44, go_sem, x0, x1, x2, x3]) rfl ?_
    refine ⟨none, 0, 0, 0, 0, none, 0, 0, rfl, fun _ h => (by cases h), ?_⟩
    iterate 4 refine Below.setCell ?_ (by omega) _
    exact hbr
  rename_i i
  have hi := find_lt HFL.out
  obtain ⟨y1, y2, y3, y4⟩ := tab_leaf hc hi
  have hr := Hr2.out
  rw [HFL.out] at hr
  simp only at hr
  have hil : i < np := by omega
  obtain ⟨b, o, x, cs, rfl, hx, ⟨v, rfl, hkk⟩, hcell⟩ := r.get hil
  obtain ⟨hjl, rfl⟩ := List.getElem?_eq_some_iff.1 hx
  have d3 : w4.cell? ⟨b, o + i * 5 + 3, none⟩ = some (.int .i64 ((pagesN l (leafCount l))[i].lo : Int)) := hcell 3 _ rfl
  have d4 : w4.cell? ⟨b, o + i * 5 + 4, none⟩ = some (.int .i64 ((pagesN l (leafCount l))[i].hi : Int)) := hcell 4 _ rfl
  rw [page_at i hjl] at d3 d4
  have hl := s.lenb
  generalize (pageL l i).lo = lo at *
  generalize (pageL l i).hi = hi_ at *
  rw [hl] at y2
  obtain ⟨AQ, rq, sq, -⟩ := cutLH s .i64 .i64 (lo : Int) (hi_ : Int) lo hi_ rfl rfl y1 y2
  generalize ((tabBytesL l sp).drop lo).take (hi_ - lo) = pc at *
  have hol := open_len pc
  have hpl := sq.lenb
  obtain ⟨oo, hoo⟩ : ∃ oo, openL pc = (oo, 0) := ⟨(openL pc).1, Prod.ext rfl y3⟩
  rw [hoo] at y4 hol
  simp only at y4 hol
  have ko := fun (w' : World) (h : Sl w' 1 AQ (hi_ - lo) (c - lo) (bc pc)) (hq : Quarter w') => open_any w' AQ (hi_ - lo) (c - lo) pc h hq (by omega)
  rw [hoo] at ko
  unfold NewB2 at ko
  have hol2 : oo.length ≤ 65536 := by omega
  have Ko := Lib.hid ko
  have H4 := Lib.hid y4
  have Hr3 := Lib.hid hr
  have hin : (i : Int) < (np : Int) := by omega
  clear ko hoo y3 y4 hr Hr2 HFL hx hcell hkk hlr s hol hpl hil hjl
  go_wp2_with fail
  have c0 : (World.drew w4).cell? _ = _ := c0
  have c1 : (World.drew w4).cell? _ = _ := c1
  have d3 : (World.drew w4).cell? _ = _ := d3
  have d4 : (World.drew w4).cell? _ = _ := d4
  have kR := kR.drew
  have kK := kK.drew
  have hk := hk.drew
  have s5 := s5.drew
  have sq := sq.drew
  have hbr := hbr.drew
  generalize hW : w4.drew = w5 at *
  refine regionF (fun _ wa wb => Below w5.heap.size w5 wa → Below w5.heap.size w5 wb) (by kernel_rfl) ?_
  rw [hW]
  clear hW
  have hX := Below.refl w5.heap.size w5
  refine takeT (i := 0) (v := ?_) rfl ?hy ?_
  case hy => intro wS; go_simp; try with_reducible rfl
  refine takeT (i := 1) (v := ?_) rfl ?hy ?_
  case hy => intro wS; go_simp; try with_reducible rfl
  refine takeT (i := 2) (v := ?_) rfl ?hy ?_
  case hy => intro wS; go_simp; try with_reducible rfl
  refine takeP (i := 3) (v := ?_) rfl hX ?hy ?_
  case hy =>
    intro wS hSw
    have c0 := stays hSw c0
    clear hSw
    go_simp
    try with_reducible rfl
  refine takeT (i := 4) (v := ?_) rfl ?hy ?_
  case hy => intro wS; go_simp; try with_reducible rfl
  refine takeT (i := 5) (v := ?_) rfl ?hy ?_
  case hy => intro wS; go_simp; try with_reducible rfl
  refine takeT (i := 6) (v := ?_) rfl ?hy ?_
  case hy => intro wS; go_simp; try with_reducible rfl
  refine takeP (i := 7) (v := ?_) rfl hX ?hy ?_
  case hy =>
    intro wS hSw
    have c1 := stays hSw c1
    clear hSw
    go_simp
    try with_reducible rfl
  refine takeT (i := 8) (v := ?_) rfl ?hy ?_
  case hy => intro wS; go_simp; try with_reducible rfl
  refine takeT (i := 9) (v := ?_) rfl ?hy ?_
  case hy => intro wS; go_simp; try with_reducible rfl
  refine takeT (i := 10) (v := ?_) rfl ?hy ?_
  case hy => intro wS; go_simp; try with_reducible rfl
  refine takeP (i := 11) (v := ?_) rfl hX ?hy ?_
  case hy =>
    intro wS hSw
    have d3 := stays hSw d3
    clear hSw
    go_simp
    try with_reducible rfl
  refine takeT (i := 12) (v := ?_) rfl ?hy ?_
  case hy => intro wS; go_simp; try with_reducible rfl
  refine takeT (i := 13) (v := ?_) rfl ?hy ?_
  case hy => intro wS; go_simp; try with_reducible rfl
  refine takeT (i := 14) (v := ?_) rfl ?hy ?_
  case hy => intro wS; go_simp; try with_reducible rfl
  refine takeP (i := 15) (v := ?_) rfl hX ?hy ?_
  case hy =>
    intro wS hSw
    have c1 := stays hSw c1
    clear hSw
    go_simp
    try with_reducible rfl
  refine takeT (i := 16) (v := ?_) rfl ?hy ?_
  case hy => intro wS; go_simp; try with_reducible rfl
  refine takeT (i := 17) (v := ?_) rfl ?hy ?_
  case hy => intro wS; go_simp; try with_reducible rfl
  refine takeT (i := 18) (v := ?_) rfl ?hy ?_
  case hy => intro wS; go_simp; try with_reducible rfl
  refine takeP (i := 19) (v := ?_) rfl hX ?hy ?_
  case hy =>
    intro wS hSw
    have d4 := stays hSw d4
    clear hSw
    go_simp
    try with_reducible rfl
  refine takeT (i := 20) (v := ?_) rfl ?hy ?_
  case hy => intro wS; go_simp; try with_reducible rfl
  try simp only [List.getElem_toArray, List.getElem_cons_succ, List.getElem_cons_zero, Act.put, List.setIfInBounds_toArray, List.set_cons_zero, List.set_cons_succ]
  refine readyF (rs := [21]) (by kernel_rfl) (by simp) ?_
  refine AllF.cons rfl (fun K hK => ?_) AllF.nil
  go_simp
  refine (Ko.out w5 sq (HQ.out.below hbr)).mono ?_
  rintro e w5_21 ⟨A6, n6, c6, rfl, ho6, hb⟩
  refine hK _ _ (fun h => h.trans (hb.mono h.size)) ?_
  clear hK K
  have hX := hX.trans (hb.mono hX.size)
  have hbr := hbr.trans (hb.mono hbr.size)
  have kR := kR.below hb
  have kK := kK.below hb
  have hk := hk.below (by omega) hb
  have s5 := s5.below (by omega) hb
  clear hb sq Ko c0 c1 d3 d4
  refine takeT (i := 22) (v := ?_) rfl ?hy ?_
  case hy => intro wS; go_simp; try with_reducible rfl
  refine takeT (i := 23) (v := ?_) rfl ?hy ?_
  case hy => intro wS; go_simp; try with_reducible rfl
  refine takeT (i := 24) (v := ?_) rfl ?hy ?_
  case hy => intro wS; go_simp; try with_reducible rfl
  refine takeT (i := 25) (v := ?_) rfl ?hy ?_
  case hy => intro wS; go_simp; try with_reducible rfl
  refine takeT (i := 26) (v := ?_) rfl ?hy ?_
  case hy => intro wS; go_simp; try with_reducible rfl
  try simp only [List.getElem_toArray, List.getElem_cons_succ, List.getElem_cons_zero, Act.put, List.setIfInBounds_toArray, List.set_cons_zero, List.set_cons_succ]
  refine doneF (by kernel_rfl) ?_ _
  try simp only [List.getElem_toArray, List.getElem_cons_succ, List.getElem_cons_zero, Act.put, List.setIfInBounds_toArray, List.set_cons_zero, List.set_cons_succ]
  have s6 := OwnB.sl ho6
  have hl6 := s6.lenb
  have k8 := from12n_any w5_21 A6 n6 c6 oo s6 (by omega) A5 n5 c5 U s5
  rw [Hus.out, Hud.out, H4.out] at k8
  simp only [Option.getD_some, Option.isSome_some, if_true] at k8
  unfold GotAtN at k8
  obtain ⟨O, hO⟩ : ∃ O, fromL (chunkL l i) U = O := ⟨_, rfl⟩
  have hr := Hr3.out
  rw [hO] at k8 hr
  obtain ⟨xs, hxs⟩ : ∃ xs, (O.getD ⟨⟨[], 0, 0⟩, []⟩).key.seq.toNat = xs := ⟨_, rfl⟩
  obtain ⟨xd, hxd⟩ : ∃ xd, (O.getD ⟨⟨[], 0, 0⟩, []⟩).key.kind.toNat = xd := ⟨_, rfl⟩
  rw [hxs, hxd] at k8
  have K8 := Lib.hid k8
  have Hxs := Lib.hid hxs
  have Hxd := Lib.hid hxd
  have Hr4 := Lib.hid hr
  clear k8 hxs hxd hO hr Hr3 H4 hl6 ho6
  obtain ⟨z0, z1, z2, z3⟩ := id kK
  go_wp2_with fail
  clear z0 z1 z2 z3 kK
  refine K8.out.mono ?_
  rintro e w6 ⟨A7, n7, c7, A8, n8, c8, rfl, s7, s8, hb, u8⟩
  have hgR5 := kR.lt
  have U8 : Hid (∀ b, 0 < n8 → A8.map (·.block) = some b → gR < b) := Lib.hid fun b hn q => by have := u8 b hn q; omega
  clear u8 hgR5
  have kR := kR.below hb
  have hbr := hbr.trans (hb.mono hbr.size)
  have hk := hk.below (by omega) hb
  clear hb K8 s6 s5
  have hb := (Below.refl w6.heap.size w6).alloc (Nat.le_refl _) (.cells #[.slice A7 n7 c7, .int .u64 (xs : Int), .int .u8 (xd : Int), .slice A8 n8 c8] 45)
  have kE := Bx4.fresh w6 (.slice A7 n7 c7) (.int .u64 (xs : Int)) (.int .u8 (xd : Int)) (.slice A8 n8 c8) 45
  obtain ⟨gE, hgE⟩ : ∃ gE, w6.heap.size = gE := ⟨_, rfl⟩
  have hgRE : gR < gE := by have := kR.lt; omega
  rw [hgE] at kE
  have kR := kR.below hb
  have hbr := hbr.trans (hb.mono hbr.size)
  have hk := hk.below (by omega) hb
  have s7 := s7.below (by omega) hb
  have s8 := s8.below (by omega) hb
  generalize hW : (w6.alloc (.cells #[.slice A7 n7 c7, .int .u64 (xs : Int), .int .u8 (xd : Int), .slice A8 n8 c8] 45)) = w7 at *
  clear hb
  go_wp2_with fail
  try rw [hW]
  try rw [hgE]
  clear hW hgE
  have hX := kE.drew
  have kR := kR.drew
  have hk := hk.drew
  have s7 := s7.drew
  have s8 := s8.drew
  have hbr := hbr.drew
  generalize hW : w7.drew = w8 at *
  clear kE
  rcases O with _ | X
  case none =>
    have er : none = r0 := by rw [← Hr4.out]
    subst er
    refine regionF (fun _ wa wb => Bx4 wa gE (.slice A7 n7 c7) (.int .u64 (xs : Int)) (.int .u8 (xd : Int)) (.slice A8 n8 c8) → Bx4 wb gE (.slice A7 n7 c7) (.int .u64 (xs : Int)) (.int .u8 (xd : Int)) (.slice A8 n8 c8)) (by kernel_rfl) ?_
    rw [hW]
    clear hW
    refine takeP (i := 0) (v := ?_) rfl hX ?hy ?_
    case hy =>
      intro wS hSw
      obtain ⟨z0, z1, z2, z3, z4⟩ := id hSw
      clear hSw
      go_simp
      try with_reducible rfl
    refine takeT (i := 1) (v := ?_) rfl ?hy ?_
    case hy => intro wS; go_simp; try with_reducible rfl
    refine takeT (i := 2) (v := ?_) rfl ?hy ?_
    case hy => intro wS; go_simp; try with_reducible rfl
    try simp only [List.getElem_toArray, List.getElem_cons_succ, List.getElem_cons_zero, Act.put, List.setIfInBounds_toArray, List.set_cons_zero, List.set_cons_succ]
    refine takeF (i := 3) (v := undef) (fun wa => Bx4 wa gE (.slice A7 n7 c7) (.int .u64 (xs : Int)) (.int .u8 (xd : Int)) (.slice A8 n8 c8)) rfl (by kernel_rfl) (by kernel_rfl) (by kernel_rfl) (fun j hj => .inr (.inr fun wa wb h g => g h)) (fun wa => id) (fun _ _ _ h => h) (Or.inr ⟨by kernel_rfl, rfl⟩) hX ?_
    try simp only [List.getElem_toArray, List.getElem_cons_succ, List.getElem_cons_zero, Act.put, List.setIfInBounds_toArray, List.set_cons_zero, List.set_cons_succ]
    refine takeF (i := 4) (v := undef) (fun wa => Bx4 wa gE (.slice A7 n7 c7) (.int .u64 (xs : Int)) (.int .u8 (xd : Int)) (.slice A8 n8 c8)) rfl (by kernel_rfl) (by kernel_rfl) (by kernel_rfl) (fun j hj => .inr (.inr fun wa wb h g => g h)) (fun wa => id) (fun _ _ _ h => h) (Or.inr ⟨by kernel_rfl, rfl⟩) hX ?_
    try simp only [List.getElem_toArray, List.getElem_cons_succ, List.getElem_cons_zero, Act.put, List.setIfInBounds_toArray, List.set_cons_zero, List.set_cons_succ]
    refine takeF (i := 5) (v := undef) (fun wa => Bx4 wa gE (.slice A7 n7 c7) (.int .u64 (xs : Int)) (.int .u8 (xd : Int)) (.slice A8 n8 c8)) rfl (by kernel_rfl) (by kernel_rfl) (by kernel_rfl) (fun j hj => .inr (.inr fun wa wb h g => g h)) (fun wa => id) (fun _ _ _ h => h) (Or.inr ⟨by kernel_rfl, rfl⟩) hX ?_
    try simp only [List.getElem_toArray, List.getElem_cons_succ, List.getElem_cons_zero, Act.put, List.setIfInBounds_toArray, List.set_cons_zero, List.set_cons_succ]
    refine takeF (i := 6) (v := undef) (fun wa => Bx4 wa gE (.slice A7 n7 c7) (.int .u64 (xs : Int)) (.int .u8 (xd : Int)) (.slice A8 n8 c8)) rfl (by kernel_rfl) (by kernel_rfl) (by kernel_rfl) (fun j hj => .inr (.inr fun wa wb h g => g h)) (fun wa => id) (fun _ _ _ h => h) (Or.inr ⟨by kernel_rfl, rfl⟩) hX ?_
    try simp only [List.getElem_toArray, List.getElem_cons_succ, List.getElem_cons_zero, Act.put, List.setIfInBounds_toArray, List.set_cons_zero, List.set_cons_succ]
    refine takeF (i := 7) (v := undef) (fun wa => Bx4 wa gE (.slice A7 n7 c7) (.int .u64 (xs : Int)) (.int .u8 (xd : Int)) (.slice A8 n8 c8)) rfl (by kernel_rfl) (by kernel_rfl) (by kernel_rfl) (fun j hj => .inr (.inr fun wa wb h g => g h)) (fun wa => id) (fun _ _ _ h => h) (Or.inr ⟨by kernel_rfl, rfl⟩) hX ?_
    refine takeT (i := 8) (v := ?_) rfl ?hy ?_
    case hy => intro wS; go_simp; try with_reducible rfl
    try simp only [List.getElem_toArray, List.getElem_cons_succ, List.getElem_cons_zero, Act.put, List.setIfInBounds_toArray, List.set_cons_zero, List.set_cons_succ]
    refine readyF (rs := [9]) (by kernel_rfl) (by simp) ?_
    refine AllF.cons rfl (fun K hK => ?_) AllF.nil
    obtain ⟨x0, x1, x2, x3, x4⟩ := id kR
    go_simp
    refine hK _ _ (fun h => h.grownO (Bx4.set kR (v0 := .slice A7 n7 c7) (v1 := .int .u64 (xs : Int)) (v2 := .int .u8 (xd : Int)) (v3 := .slice A8 n8 c8)).2 (fun q => by have := Option.some.inj q; omega)) ?_
    clear hK K
    refine takeT (i := 10) (v := ?_) rfl ?hy ?_
    case hy => intro wS; go_simp; try with_reducible rfl
    try simp only [List.getElem_toArray, List.getElem_cons_succ, List.getElem_cons_zero, Act.put, List.setIfInBounds_toArray, List.set_cons_zero, List.set_cons_succ]
    refine doneF (by kernel_rfl) ?_ _
    try simp only [List.getElem_toArray, List.getElem_cons_succ, List.getElem_cons_zero, Act.put, List.setIfInBounds_toArray, List.set_cons_zero, List.set_cons_succ]
    go_wp2
    refine bodyPost_ret (v := .tuple #[.agg #[.slice A7 n7 c7, .int .u64 (xs : Int), .int .u8 (xd : Int), .slice A8 n8 c8], .bool false]) (by simp [results, Tryd.results44, go_sem, x0, x1, x2, x3]) rfl ?_
    refine ⟨A7, n7, c7, xs, xd, A8, n8, c8, rfl, fun _ h => (by cases h), ?_⟩
    iterate 4 refine Below.setCell ?_ (by omega) _
    exact hbr
  case some =>
    have hr := Hr4.out
    simp only [Option.getD_some, Option.isSome_some] at *
    obtain ⟨ok, hok⟩ : ∃ ok, (X.key.user == key) = ok := ⟨_, rfl⟩
    have Hok := Lib.hid hok
    have hr2 : r0 = if ok = true then some X else none := by
      rw [← hr, ← hok]
      by_cases q : X.key.user = key
      · simp [q]
      · simp [q]
    have Hr5 := Lib.hid hr2
    clear hok hr hr2 Hr4
    refine regionF (fun _ wa wb => Bx4 wa gE (.slice A7 n7 c7) (.int .u64 (xs : Int)) (.int .u8 (xd : Int)) (.slice A8 n8 c8) → Bx4 wb gE (.slice A7 n7 c7) (.int .u64 (xs : Int)) (.int .u8 (xd : Int)) (.slice A8 n8 c8)) (by kernel_rfl) ?_
    rw [hW]
    clear hW
    refine takeP (i := 0) (v := ?_) rfl hX ?hy ?_
    case hy =>
      intro wS hSw
      obtain ⟨z0, z1, z2, z3, z4⟩ := id hSw
      clear hSw
      go_simp
      try with_reducible rfl
    refine takeT (i := 1) (v := ?_) rfl ?hy ?_
    case hy => intro wS; go_simp; try with_reducible rfl
    refine takeT (i := 2) (v := ?_) rfl ?hy ?_
    case hy => intro wS; go_simp; try with_reducible rfl
    refine takeT (i := 3) (v := ?_) rfl ?hy ?_
    case hy => intro wS; go_simp; try with_reducible rfl
    refine takeT (i := 4) (v := ?_) rfl ?hy ?_
    case hy => intro wS; go_simp; try with_reducible rfl
    refine takeP (i := 5) (v := ?_) rfl hX ?hy ?_
    case hy =>
      intro wS hSw
      obtain ⟨z0, z1, z2, z3, z4⟩ := id hSw
      clear hSw
      go_simp
      try with_reducible rfl
    refine takeT (i := 6) (v := ?_) rfl ?hy ?_
    case hy => intro wS; go_simp; try with_reducible rfl
    try simp only [List.getElem_toArray, List.getElem_cons_succ, List.getElem_cons_zero, Act.put, List.setIfInBounds_toArray, List.set_cons_zero, List.set_cons_succ]
    refine readyF (rs := [7]) (by kernel_rfl) (by simp) ?_
    refine AllF.cons rfl (fun K hK => ?_) AllF.nil
    go_simp
    refine (equal_is w8 A7 n7 c7 X.key.user KA k ck key ok Hok s7 hk).mono ?_
    rintro e w8_7 ⟨rfl, rfl⟩
    refine hK _ _ (fun h => h) ?_
    clear hK K
    refine takeT (i := 8) (v := ?_) rfl ?hy ?_
    case hy => intro wS; go_simp; try with_reducible rfl
    try simp only [List.getElem_toArray, List.getElem_cons_succ, List.getElem_cons_zero, Act.put, List.setIfInBounds_toArray, List.set_cons_zero, List.set_cons_succ]
    refine readyF (rs := [9]) (by kernel_rfl) (by simp) ?_
    refine AllF.cons rfl (fun K hK => ?_) AllF.nil
    obtain ⟨x0, x1, x2, x3, x4⟩ := id kR
    go_simp
    refine hK _ _ (fun h => h.grownO (Bx4.set kR (v0 := .slice A7 n7 c7) (v1 := .int .u64 (xs : Int)) (v2 := .int .u8 (xd : Int)) (v3 := .slice A8 n8 c8)).2 (fun q => by have := Option.some.inj q; omega)) ?_
    clear hK K
    refine takeT (i := 10) (v := ?_) rfl ?hy ?_
    case hy => intro wS; go_simp; try with_reducible rfl
    try simp only [List.getElem_toArray, List.getElem_cons_succ, List.getElem_cons_zero, Act.put, List.setIfInBounds_toArray, List.set_cons_zero, List.set_cons_succ]
    refine doneF (by kernel_rfl) ?_ _
    try simp only [List.getElem_toArray, List.getElem_cons_succ, List.getElem_cons_zero, Act.put, List.setIfInBounds_toArray, List.set_cons_zero, List.set_cons_succ]
    go_wp2
    refine bodyPost_ret (v := .tuple #[.agg #[.slice A7 n7 c7, .int .u64 (xs : Int), .int .u8 (xd : Int), .slice A8 n8 c8], .bool ok]) (by simp [results, Tryd.results44, go_sem, x0, x1, x2, x3]) rfl ?_
    rw [Hr5.out]
    refine ⟨A7, n7, c7, xs, xd, A8, n8, c8, ?_, fun y hy => ?_, ?_⟩
    · cases ok <;> rfl
    · have e : X = y := by
        split at hy
        · exact Option.some.inj hy
        · cases hy
      subst e
      refine ⟨Hxs.out.symm, Hxd.out.symm, ?_⟩
      have hgs := (Bx4.set kR (v0 := .slice A7 n7 c7) (v1 := .int .u64 (xs : Int)) (v2 := .int .u8 (xd : Int)) (v3 := .slice A8 n8 c8)).2
      exact s8.grown (by omega) hgs (fun hn b q e => by have := U8.out b hn q; have := Option.some.inj e; omega)
    · iterate 4 refine Below.setCell ?_ (by omega) _
      exact hbr
end Go.Proofs.YtpffieogkfndaaaDoor
