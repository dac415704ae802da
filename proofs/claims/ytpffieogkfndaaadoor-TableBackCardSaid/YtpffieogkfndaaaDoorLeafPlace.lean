/-
  sort.Search over leaf.place's function, and leaf.place. (Printed by genleaf13.py.) No condition but a size.
-/
import Derived.Test.YtpffieogkfndaaaDoorLeafRead
import Derived.Test.YtpffieogkfndaaaDoorKeyWalk
namespace Go.Proofs.YtpffieogkfndaaaDoor
open Go.RowKit
set_option maxRecDepth 20000
set_option linter.unusedVariables false
set_option linter.unusedSimpArgs false
set_option maxHeartbeats 4000000 in
theorem search_any (w : World) (n : Nat) (hn : n ≤ 1000000) (p1 p2 : Addr) (f : Nat → Bool)
    (hf : ∀ (h : Nat) (w' : World), h < n → Below w.heap.size w w' → Calls Tryd.prog 92 #[.int .i64 (h : Int), .pointer (some p1), .pointer (some p2)] w' fun e w'' => e = .returned (.bool (f h)) ∧ Below w'.heap.size w' w'') :
    Calls Tryd.prog 91 #[.int .i64 (n : Int), .func (.func 92) #[] #[.pointer (some p1), .pointer (some p2)]] w fun e w' => ∃ i : Nat, i ≤ n ∧ (i = 0 ∨ f (i - 1) = false) ∧ (i = n ∨ f i = true) ∧ e = .returned (.int .i64 (i : Int)) ∧ Below w.heap.size w w' := by
  have Hf := Lib.hid hf
  clear hf
  go_enter Tryd.func91, Tryd.ntmps91
  go_wp2
  go_loopw [5, 6] (fun i j wr => ∃ a b : Nat, a ≤ b ∧ b ≤ n ∧ i = .int .i64 (a : Int) ∧ j = .int .i64 (b : Int) ∧ Hid (a = 0 ∨ f (a - 1) = false) ∧ Hid (b = n ∨ f b = true) ∧ Below w.heap.size w wr) (fun i j _ => (intOf j - intOf i).toNat)
  case atStart => exact ⟨0, n, Nat.zero_le _, Nat.le_refl _, rfl, rfl, Lib.hid (.inl rfl), Lib.hid (.inl rfl), Below.refl _ _⟩
  case round =>
    obtain ⟨a, b, hab, hbn, rfl, rfl, Ha, Hb, hbr⟩ := hrel
    by_cases hlt : a < b
    case neg =>
      obtain rfl : a = b := by omega
      go_wp2
      go_ret
      exact ⟨a, hbn, Ha.out, Hb.out, rfl, hbr⟩
    obtain ⟨h, hh⟩ : ∃ h, (a + b) / 2 = h := ⟨_, rfl⟩
    have hah : a ≤ h := by omega
    have hhb : h < b := by omega
    have e1 : ((a : Int) + (b : Int)) / 2 = (h : Int) := by omega
    have e2 : IntKind.u64.wrap ((a : Int) + (b : Int)) = (a : Int) + (b : Int) := by rw [IntKind.wrap_u64]; omega
    have hc := Hf.out h wr (by omega) hbr
    obtain ⟨fh, hfh⟩ : ∃ fh, f h = fh := ⟨_, rfl⟩
    rw [hfh] at hc
    have Hfh := Lib.hid hfh
    have hn1 : h ≤ 1000000 := by omega
    clear hh hfh
    go_wp2_with fail
    refine hc.mono ?_
    rintro e w1 ⟨rfl, hb1⟩
    have hbr := hbr.trans (hb1.mono hbr.size)
    clear hb1 e1 e2 hc
    cases fh
    · go_wp2
      go_roundw
      case rel => exact ⟨h + 1, b, by omega, hbn, by go_num, rfl, Lib.hid (.inr (by rw [Nat.add_sub_cancel]; exact Hfh.out)), Hb, hbr⟩
      case measure => simp [intOf]; omega
    · go_wp2
      go_roundw
      case rel => exact ⟨a, h, hah, by omega, rfl, rfl, Ha, Lib.hid (.inr Hfh.out), hbr⟩
      case measure => simp [intOf]; omega
set_option maxHeartbeats 4000000 in
theorem place1_any (w : World) (p : Nat → Prop) (A : Option Addr) (n c : Nat) (ls : List EntL) (h : SlR w p A n c ls) (g1 g2 : Nat) (kp : w.cell? ⟨g1, 0, none⟩ = some (.slice A n c))
    (A2 : Option Addr) (n2 c2 : Nat) (k : KeyL) (s2 : Sl w 1 A2 n2 c2 (bc k.user)) (s d : Nat) (hs : k.seq.toNat = s) (hd : k.kind.toNat = d) (kK : Bx w g2 (.slice A2 n2 c2) (.int .u64 (s : Int)) (.int .u8 (d : Int))) (i : Nat) (hi : i < n) (hn : n ≤ 1000000) (b : Bool) (hb : ∀ x, ls[i]? = some x → (!lessKey x.key k) = b) :
    Calls Tryd.prog 92 #[.int .i64 (i : Int), .pointer (some ⟨g1, 0, none⟩), .pointer (some ⟨g2, 0, none⟩)] w fun e w'' => e = .returned (.bool b) ∧ Below w.heap.size w w'' := by
  obtain ⟨bb, o, A3, n3, c3, A4, n4, c4, hjl, rfl, d0, d1, d2, d3, g3, g4⟩ := h.entAt hi
  have hbb := hb ls[i] (List.getElem?_eq_getElem hjl)
  have hv : decide (cmpKey ls[i].key k < 0) = !b := by rw [cmpKey_less, ← hbb]; simp
  have kp : (World.drew w).cell? _ = _ := kp
  have kK := kK.drew
  have d0 : (World.drew w).cell? _ = _ := d0
  have d1 : (World.drew w).cell? _ = _ := d1
  have d2 : (World.drew w).cell? _ = _ := d2
  have g3 := g3.drew
  have s2 := s2.drew
  have hq : Below w.heap.size w (World.drew w) := below_drew (Below.refl _ _)
  generalize hW : World.drew w = w0 at *
  have cm := fun w' (hb : Below w0.heap.size w0 w') => compare_any w' A3 n3 c3 ls[i].key (g3.below (by omega) hb) A2 n2 c2 k (s2.below (by omega) hb)
  rw [hs, hd] at cm
  generalize cmpKey ls[i].key k = v at *
  generalize ls[i].key.seq.toNat = s3 at *
  generalize ls[i].key.kind.toNat = d3 at *
  have Cm := Lib.hid cm
  have Hv := Lib.hid hv
  clear cm hv hb hbb g4 s2 hs hd
  go_enter Tryd.func92, Tryd.ntmps92
  go_wp2_with fail
  cases b
  · have hv : decide (v < 0) = true := Hv.out
    have hv := of_decide_eq_true hv
    have i1 : decide (0 ≤ v) = false := decide_eq_false (by omega)
    clear hv
    refine regionF (fun _ wa wb => Below w0.heap.size w0 wa → Below w0.heap.size w0 wb) (by kernel_rfl) ?_
    rw [hW]
    clear hW
    have hX := Below.refl w0.heap.size w0
    refine takeP (i := 0) (v := ?_) rfl hX ?hy ?_
    case hy =>
      intro wS hSw
      have kp := stays hSw kp
      clear hSw
      go_simp
      try with_reducible rfl
    refine takeT (i := 1) (v := ?_) rfl ?hy ?_
    case hy => intro wS; go_simp; try with_reducible rfl
    refine takeT (i := 2) (v := ?_) rfl ?hy ?_
    case hy => intro wS; go_simp; try with_reducible rfl
    refine takeT (i := 3) (v := ?_) rfl ?hy ?_
    case hy => intro wS; go_simp; try with_reducible rfl
    refine takeP (i := 4) (v := ?_) rfl hX ?hy ?_
    case hy =>
      intro wS hSw
      have d0 := stays hSw d0
      have d1 := stays hSw d1
      have d2 := stays hSw d2
      clear hSw
      go_simp
      try with_reducible rfl
    refine takeP (i := 5) (v := ?_) rfl hX ?hy ?_
    case hy =>
      intro wS hSw
      obtain ⟨x0, x1, x2, x3⟩ := kK.below hSw
      clear hSw
      go_simp
      try with_reducible rfl
    try simp only [List.getElem_toArray, List.getElem_cons_succ, List.getElem_cons_zero, Act.put, List.setIfInBounds_toArray, List.set_cons_zero, List.set_cons_succ]
    refine readyF (rs := [6]) (by kernel_rfl) (by simp) ?_
    refine AllF.cons rfl (fun K hK => ?_) AllF.nil
    go_simp
    refine (Cm.out _ hX).mono ?_
    rintro e w0_6 ⟨rfl, hb⟩
    refine hK _ _ (fun h => h.trans (hb.mono h.size)) ?_
    clear hK K
    have hX := hX.trans (hb.mono hX.size)
    clear hb
    refine takeT (i := 7) (v := ?_) rfl ?hy ?_
    case hy => intro wS; go_simp; try with_reducible rfl
    refine takeT (i := 8) (v := ?_) rfl ?hy ?_
    case hy => intro wS; go_simp; try with_reducible rfl
    try simp only [List.getElem_toArray, List.getElem_cons_succ, List.getElem_cons_zero, Act.put, List.setIfInBounds_toArray, List.set_cons_zero, List.set_cons_succ]
    refine doneF (by kernel_rfl) ?_ _
    try simp only [List.getElem_toArray, List.getElem_cons_succ, List.getElem_cons_zero, Act.put, List.setIfInBounds_toArray, List.set_cons_zero, List.set_cons_succ]
    go_wp2
    go_ret
    exact ⟨rfl, hq.trans (hX.mono hq.size)⟩
  · have hv : decide (v < 0) = false := Hv.out
    have hv := of_decide_eq_false hv
    have i1 : decide (0 ≤ v) = true := decide_eq_true (by omega)
    clear hv
    refine regionF (fun _ wa wb => Below w0.heap.size w0 wa → Below w0.heap.size w0 wb) (by kernel_rfl) ?_
    rw [hW]
    clear hW
    have hX := Below.refl w0.heap.size w0
    refine takeP (i := 0) (v := ?_) rfl hX ?hy ?_
    case hy =>
      intro wS hSw
      have kp := stays hSw kp
      clear hSw
      go_simp
      try with_reducible rfl
    refine takeT (i := 1) (v := ?_) rfl ?hy ?_
    case hy => intro wS; go_simp; try with_reducible rfl
    refine takeT (i := 2) (v := ?_) rfl ?hy ?_
    case hy => intro wS; go_simp; try with_reducible rfl
    refine takeT (i := 3) (v := ?_) rfl ?hy ?_
    case hy => intro wS; go_simp; try with_reducible rfl
    refine takeP (i := 4) (v := ?_) rfl hX ?hy ?_
    case hy =>
      intro wS hSw
      have d0 := stays hSw d0
      have d1 := stays hSw d1
      have d2 := stays hSw d2
      clear hSw
      go_simp
      try with_reducible rfl
    refine takeP (i := 5) (v := ?_) rfl hX ?hy ?_
    case hy =>
      intro wS hSw
      obtain ⟨x0, x1, x2, x3⟩ := kK.below hSw
      clear hSw
      go_simp
      try with_reducible rfl
    try simp only [List.getElem_toArray, List.getElem_cons_succ, List.getElem_cons_zero, Act.put, List.setIfInBounds_toArray, List.set_cons_zero, List.set_cons_succ]
    refine readyF (rs := [6]) (by kernel_rfl) (by simp) ?_
    refine AllF.cons rfl (fun K hK => ?_) AllF.nil
    go_simp
    refine (Cm.out _ hX).mono ?_
    rintro e w0_6 ⟨rfl, hb⟩
    refine hK _ _ (fun h => h.trans (hb.mono h.size)) ?_
    clear hK K
    have hX := hX.trans (hb.mono hX.size)
    clear hb
    refine takeT (i := 7) (v := ?_) rfl ?hy ?_
    case hy => intro wS; go_simp; try with_reducible rfl
    refine takeT (i := 8) (v := ?_) rfl ?hy ?_
    case hy => intro wS; go_simp; try with_reducible rfl
    try simp only [List.getElem_toArray, List.getElem_cons_succ, List.getElem_cons_zero, Act.put, List.setIfInBounds_toArray, List.set_cons_zero, List.set_cons_succ]
    refine doneF (by kernel_rfl) ?_ _
    try simp only [List.getElem_toArray, List.getElem_cons_succ, List.getElem_cons_zero, Act.put, List.setIfInBounds_toArray, List.set_cons_zero, List.set_cons_succ]
    go_wp2
    go_ret
    exact ⟨rfl, hq.trans (hX.mono hq.size)⟩
/-- what place gives back: the entries, where the first that isn't ahead stands, the error's number -/
def GotPlace (w : World) (r : Option (List EntL)) (k : KeyL) (e : Ending) (w' : World) : Prop :=
  ∃ (A : Option Addr) (n c i : Nat), e = .returned (.tuple #[.slice A n c, .int .i64 (i : Int), .int .i64 ((if r.isSome then 0 else 4 : Nat) : Int)]) ∧ SlR w' (fun b => w.heap.size ≤ b) A n c (r.getD []) ∧ Below w.heap.size w w' ∧ i ≤ n ∧
    fromL (r.getD []) k = (r.getD [])[i]? ∧ beforeL (r.getD []) k = if i = 0 then none else (r.getD [])[i - 1]?
set_option maxHeartbeats 8000000 in
theorem place_any (w : World) (A : Option Addr) (n c : Nat) (p : List UInt8) (h : Sl w 1 A n c (bc p)) (hn : n ≤ 65536) (A2 : Option Addr) (n2 c2 : Nat) (k : KeyL) (s2 : Sl w 1 A2 n2 c2 (bc k.user)) :
    Calls Tryd.prog 86 #[.slice A n c, .agg #[.slice A2 n2 c2, .int .u64 (k.seq.toNat : Int), .int .u8 (k.kind.toNat : Int)]] w (GotPlace w (readLeafL p) k) := by
  have cr := fun w' (hb : Below w.heap.size w w') => lread_any w' A n c p (h.below (by omega) hb) hn
  have hri := fun l => readLeaf_iff p l
  generalize readLeafL p = r at *
  unfold GotEnts at cr
  unfold GotPlace
  have hrs : Rises (r.getD []) := by
    cases r with
    | none => exact List.Pairwise.nil
    | some l => exact (rises_pair l).1 (checkLeaf_zero ((hri l).1 rfl).1).2.2
  generalize hs : k.seq.toNat = s at *
  generalize hd : k.kind.toNat = d at *
  have hr64 : (r.getD []).length ≤ 64 := by
    cases r with
    | none => simp
    | some l => exact (checkLeaf_zero ((hri l).1 rfl).1).1
  generalize r.getD [] = ls at *
  generalize hq : (if r.isSome then 0 else 4 : Nat) = q at *
  have Cr := Lib.hid cr
  have Hrs := Lib.hid hrs
  have Hr64 := Lib.hid hr64
  have Hq := Lib.hid hq
  have Hs := Lib.hid hs
  have Hd := Lib.hid hd
  clear cr hri hrs hs hd h hr64 hq
  have hb1 := (Below.refl w.heap.size w).alloc (Nat.le_refl _) (.cells #[.slice A2 n2 c2, .int .u64 (s : Int), .int .u8 (d : Int)] 43)
  have kK := Bx.fresh w (.slice A2 n2 c2) (.int .u64 (s : Int)) (.int .u8 (d : Int)) 43
  generalize hW : (w.alloc (.cells #[.slice A2 n2 c2, .int .u64 (s : Int), .int .u8 (d : Int)] 43)) = w1 at *
  go_enter Tryd.func86, Tryd.ntmps86
  go_wp2_with fail
  try rw [hW]
  clear hW
  refine (Cr.out _ hb1).mono ?_
  rintro e w2 ⟨A6, n6, c6, rfl, h6, hb⟩
  have kK := kK.below hb
  have hq := hb1.trans (hb.mono hb1.size)
  have hz1 := hb1.size
  have h6 := h6.mono (q := fun b => w.heap.size ≤ b) fun b _ h => Nat.le_trans hz1 h
  have hn6 := h6.lenR
  have hn6b : n6 ≤ 1000000 := by have := Hr64.out; omega
  have al := (Below.refl w2.heap.size w2).alloc (Nat.le_refl _) (.cells #[.slice A6 n6 c6] 22)
  have bx := boxed (Below.refl _ _) (box1 w2 (.cells #[.slice A6 n6 c6] 22))
  have kp := bx.1 0 _ rfl
  obtain ⟨g1, hg1⟩ : ∃ g1, g1 = w2.heap.size := ⟨_, rfl⟩
  obtain ⟨g2, hg2⟩ : ∃ g2, g2 = w.heap.size := ⟨_, rfl⟩
  rw [← hg1] at kp
  rw [← hg2] at kK
  have kK := kK.below al
  have hq := hq.trans (al.mono hq.size)
  have h6 := h6.below al
  have s2 := s2.below (by omega) hq
  generalize hW : (w2.alloc (.cells #[.slice A6 n6 c6] 22)) = w3 at *
  have Hn6 := Lib.hid hn6
  clear bx al hb hn6 Cr
  go_wp2_with fail
  try rw [← hg1]
  try rw [← hg2]
  try rw [hW]
  clear hW
  have kp : (World.drew w3).cell? _ = _ := kp
  have kK := kK.drew
  have h6 : SlR (World.drew w3) _ _ _ _ _ := h6.below (below_drew (Below.refl _ _))
  have s2 := s2.drew
  have hq := below_drew hq
  generalize hW : World.drew w3 = w0 at *
  have Cp : Hid (∀ (i : Nat) (w' : World), i < n6 → Below w0.heap.size w0 w' → Calls Tryd.prog 92 #[.int .i64 (i : Int), .pointer (some ⟨g1, 0, none⟩), .pointer (some ⟨g2, 0, none⟩)] w' fun e w'' => e = .returned (.bool ((fun i => match ls[i]? with | some x => !lessKey x.key k | none => false) i)) ∧ Below w'.heap.size w' w'') := Lib.hid fun i w' hi hb =>
    place1_any w' _ A6 n6 c6 ls (h6.below hb) g1 g2 (stays hb kp) A2 n2 c2 k (s2.below (by omega) hb) s d Hs.out Hd.out (kK.below hb) i hi hn6b _ (fun x hx => by simp only [hx])
  clear hg1 hg2 kK s2
  refine regionF (fun _ wa wb => Below w0.heap.size w0 wa → Below w0.heap.size w0 wb) (by kernel_rfl) ?_
  rw [hW]
  clear hW
  have hX := Below.refl w0.heap.size w0
  refine takeP (i := 0) (v := ?_) rfl hX ?hy ?_
  case hy =>
    intro wS hSw
    have kp := stays hSw kp
    clear hSw
    go_simp
    try with_reducible rfl
  refine takeP (i := 1) (v := ?_) rfl hX ?hy ?_
  case hy =>
    intro wS hSw
    have kp := stays hSw kp
    clear hSw
    go_simp
    try with_reducible rfl
  refine takeT (i := 2) (v := ?_) rfl ?hy ?_
  case hy => intro wS; go_simp; try with_reducible rfl
  refine takeT (i := 3) (v := ?_) rfl ?hy ?_
  case hy => intro wS; go_simp; try with_reducible rfl
  refine takeT (i := 5) (v := ?_) rfl ?hy ?_
  case hy => intro wS; go_simp; try with_reducible rfl
  try simp only [List.getElem_toArray, List.getElem_cons_succ, List.getElem_cons_zero, Act.put, List.setIfInBounds_toArray, List.set_cons_zero, List.set_cons_succ]
  refine readyF (rs := [4]) (by kernel_rfl) (by simp) ?_
  refine AllF.cons rfl (fun K hK => ?_) AllF.nil
  go_simp
  refine (search_any w0 n6 hn6b ⟨g1, 0, none⟩ ⟨g2, 0, none⟩ _ (fun i w' hi hb => Cp.out i w' hi (hX.trans (hb.mono hX.size)))).mono ?_
  rintro e w0_4 ⟨i, hi, hi1, hi2, rfl, hb⟩
  refine hK _ _ (fun h => h.trans (hb.mono h.size)) ?_
  clear hK K
  have hX := hX.trans (hb.mono hX.size)
  clear hb
  refine takeT (i := 6) (v := ?_) rfl ?hy ?_
  case hy => intro wS; go_simp; try with_reducible rfl
  refine takeT (i := 7) (v := ?_) rfl ?hy ?_
  case hy => intro wS; go_simp; try with_reducible rfl
  refine takeT (i := 8) (v := ?_) rfl ?hy ?_
  case hy => intro wS; go_simp; try with_reducible rfl
  try simp only [List.getElem_toArray, List.getElem_cons_succ, List.getElem_cons_zero, Act.put, List.setIfInBounds_toArray, List.set_cons_zero, List.set_cons_succ]
  refine doneF (by kernel_rfl) ?_ _
  try simp only [List.getElem_toArray, List.getElem_cons_succ, List.getElem_cons_zero, Act.put, List.setIfInBounds_toArray, List.set_cons_zero, List.set_cons_succ]
  go_wp2
  refine bodyPost_ret (v := .tuple #[.slice A6 n6 c6, .int .i64 (i : Int), .int .i64 (q : Int)]) (by simp [results, Tryd.results86, go_sem]) rfl ?_
  have hsp := rises_split Hrs.out k i (by have := Hn6.out; omega) (fun x h0 hx => by
    rcases hi1 with e | e
    · omega
    · simp only [hx] at e
      simpa using e) (fun x hx => by
    rcases hi2 with e | e
    · have := (List.getElem?_eq_some_iff.1 hx).1
      have := Hn6.out
      omega
    · simp only [hx] at e
      simpa using e)
  exact ⟨A6, n6, c6, i, rfl, h6.below hX, hq.trans (hX.mono hq.size), hi, hsp.2.1, hsp.2.2⟩
end Go.Proofs.YtpffieogkfndaaaDoor
