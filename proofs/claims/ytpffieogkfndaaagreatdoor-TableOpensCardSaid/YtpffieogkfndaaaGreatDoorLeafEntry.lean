/-
  leaf.entry: the entry in front, behind a form. (Printed by genleaf9.py.) No condition but sizes.
-/
import Derived.Test.YtpffieogkfndaaaGreatDoorJSpanOne
import Derived.Test.YtpffieogkfndaaaGreatDoorJTabBounds
import Derived.Test.YtpffieogkfndaaaGreatDoorJJoin
namespace Go.Proofs.YtpffieogkfndaaaGreatDoor
open Go.RowKit
set_option maxRecDepth 20000
set_option linter.unusedVariables false
set_option linter.unusedSimpArgs false
/-- three integers in a row -/
structure I3 (w : World) (b o x y z : Nat) : Prop where
  c0 : w.cell? ⟨b, o, none⟩ = some (.int .i64 (x : Int))
  c1 : w.cell? ⟨b, o + 1, none⟩ = some (.int .i64 (y : Int))
  c2 : w.cell? ⟨b, o + 2, none⟩ = some (.int .i64 (z : Int))
theorem I3.below {w w' : World} {b o x y z : Nat} (h : I3 w b o x y z) (hb : Below w.heap.size w w') : I3 w' b o x y z := ⟨stays hb h.c0, stays hb h.c1, stays hb h.c2⟩
theorem I3.drew {w : World} {b o x y z : Nat} (h : I3 w b o x y z) : I3 w.drew b o x y z := ⟨h.c0, h.c1, h.c2⟩
theorem I3.grownO {w w' : World} {b o x y z : Nat} {row : Option Nat} (h : I3 w b o x y z) (hg : w.grownBy w' row) (hne : row ≠ some b) : I3 w' b o x y z := by
  have hh : w'.heap[b]? = w.heap[b]? := hg.block b (World.block_lt_of_cell? _ _ h.c0) (fun e => hne e.symm)
  have hc : ∀ j : Nat, w'.cell? ⟨b, j, none⟩ = w.cell? ⟨b, j, none⟩ := fun j => World.cell?_of_block (a := ⟨b, j, none⟩) hh
  exact ⟨(hc _).trans h.c0, (hc _).trans h.c1, (hc _).trans h.c2⟩
theorem i3_of {w : World} {A : Option Addr} {n c x y z : Nat} (h : Sl w 1 A n c (ic [x, y, z])) : n = 3 ∧ ∃ b o, A = some ⟨b, o, none⟩ ∧ I3 w b o x y z := by
  have hl := h.len
  simp [ic] at hl
  obtain ⟨b, o, e, hc⟩ := h.at_ (by omega)
  exact ⟨by omega, b, o, e, hc 0 _ rfl, hc 1 _ rfl, hc 2 _ rfl⟩
theorem nums_len : ∀ (k : Nat) (p : List UInt8) (ns : List Nat) (q : List UInt8), numsL k p = some (ns, q) → ns.length = k ∧ q.length ≤ p.length
  | 0, p, ns, q, h => by
    simp only [numsL, Option.some.injEq, Prod.mk.injEq] at h
    obtain ⟨rfl, rfl⟩ := h
    simp
  | k + 1, p, ns, q, h => by
    simp only [numsL] at h
    split at h
    · cases hm : numsL k (takeL p).2.1 with
      | none => rw [hm] at h; simp at h
      | some x =>
        rw [hm] at h
        simp only [Option.map_some, Option.some.injEq, Prod.mk.injEq] at h
        obtain ⟨rfl, rfl⟩ := h
        obtain ⟨x1, x2⟩ := x
        have ih := nums_len k (takeL p).2.1 x1 x2 hm
        have := takeL_len p
        exact ⟨by simp [ih.1], by have := ih.2; simp only; omega⟩
    · cases h
theorem nums_three (p : List UInt8) : numsL 3 p =
    if (takeL p).2.2 = 0 ∧ (takeL (takeL p).2.1).2.2 = 0 ∧ (takeL (takeL (takeL p).2.1).2.1).2.2 = 0 ∧ (takeL p).1 ≤ 65536 ∧ (takeL (takeL p).2.1).1 ≤ 65536 ∧ (takeL (takeL (takeL p).2.1).2.1).1 ≤ 65536 then
      some ([(takeL p).1, (takeL (takeL p).2.1).1, (takeL (takeL (takeL p).2.1).2.1).1], (takeL (takeL (takeL p).2.1).2.1).2.1) else none := by
  simp only [numsL]
  generalize takeL p = x
  generalize takeL x.2.1 = y
  generalize takeL y.2.1 = z
  by_cases h1 : x.2.2 = 0 ∧ x.1 ≤ 65536
  · rw [if_pos h1]
    by_cases h2 : y.2.2 = 0 ∧ y.1 ≤ 65536
    · rw [if_pos h2]
      by_cases h3 : z.2.2 = 0 ∧ z.1 ≤ 65536
      · rw [if_pos h3, if_pos ⟨h1.1, h2.1, h3.1, h1.2, h2.2, h3.2⟩]
        rfl
      · rw [if_neg h3, if_neg (fun h => h3 ⟨h.2.2.1, h.2.2.2.2.2⟩)]
        rfl
    · rw [if_neg h2, if_neg (fun h => h2 ⟨h.2.1, h.2.2.2.2.1⟩)]
      rfl
  · rw [if_neg h1, if_neg (fun h => h1 ⟨h.1, h.2.2.2.1⟩)]
theorem nums_le3 (p : List UInt8) (x y z : Nat) (q : List UInt8) (h : numsL 3 p = some ([x, y, z], q)) : x ≤ 65536 ∧ y ≤ 65536 ∧ z ≤ 65536 := by
  rw [nums_three] at h
  split at h
  · rename_i hc
    simp only [Option.some.injEq, Prod.mk.injEq, List.cons.injEq] at h
    obtain ⟨⟨rfl, rfl, rfl, _⟩, _⟩ := h
    exact hc.2.2.2
  · cases h
theorem entry_nums (a p : List UInt8) (ha : a.length ≤ 65536) (hp : p.length ≤ 65536) : entryL a p = match numsL 3 p with
    | none => none
    | some (l, q) => if l.getD 0 0 ≤ a.length ∧ l.getD 1 0 + l.getD 2 0 ≤ q.length ∧ 8 ≤ l.getD 0 0 + l.getD 1 0 then
        some (⟨verL (a.take (l.getD 0 0) ++ q.take (l.getD 1 0)), (q.drop (l.getD 1 0)).take (l.getD 2 0)⟩, a.take (l.getD 0 0) ++ q.take (l.getD 1 0), q.drop (l.getD 1 0 + l.getD 2 0)) else none := by
  rw [nums_three]
  have h1 := takeL_len p
  have h2 := takeL_len (takeL p).2.1
  have h3 := takeL_len (takeL (takeL p).2.1).2.1
  unfold entryL
  simp only
  generalize takeL p = x at *
  generalize takeL x.2.1 = y at *
  generalize takeL y.2.1 = z at *
  by_cases hc : x.2.2 = 0 ∧ y.2.2 = 0 ∧ z.2.2 = 0 ∧ x.1 ≤ 65536 ∧ y.1 ≤ 65536 ∧ z.1 ≤ 65536
  · rw [if_pos hc]
    simp only [hc.1, hc.2.1, hc.2.2.1, true_and, List.getD_cons_zero, List.getD_cons_succ]
  · rw [if_neg hc, if_neg (fun h => hc ⟨h.1, h.2.1, h.2.2.1, by omega, by omega, by omega⟩)]
theorem cutL_blk {A : Option Addr} {n c : Nat} (lo : Nat) (h2 : lo ≤ n) (hcap : n ≤ c) (w' : World) :
    (Instr.slice 29 (.slice A n c) (some (.int .i64 ((lo : Nat) : Int))) none none).run Tryz.prog w' = .ok (.slice (if c = lo then A else A.map (·.add (lo * 1))) (n - lo) (c - lo)) w' := by
  rw [run_slice_l (P := Tryz.prog) w' 29 A n c Tryz.underlying29 .i64 lo (by omega) (by omega)]
  show ((sizeOf 5).run Tryz.prog w').andThen _ = _
  rw [run_sizeB]
  simp only [Result.andThen, sliced, Int.toNat_natCast]
theorem tail_blk {A : Option Addr} {c lo : Nat} {b : Nat} (h : 0 < 1) (e : (if c = lo then A else A.map (·.add (lo * 1))).map (·.block) = some b) : A.map (·.block) = some b := by
  split at e
  · exact e
  · cases A with
    | none => simp at e
    | some a =>
      simp only [Option.map_some, Option.some.injEq] at e ⊢
      rw [← e]
      unfold Addr.add
      split <;> rfl
/-- an entry, its form, what stands behind, and whether it is one -/
def GotEntry (w : World) (r : Option (EntL × List UInt8 × List UInt8)) (e : Ending) (w' : World) : Prop :=
  ∃ (A : Option Addr) (n c : Nat) (B : Option Addr) (m d : Nat) (F : Option Addr) (nf cf : Nat) (M : Option Addr) (nm cm : Nat),
    e = .returned (.tuple #[.agg #[.slice A n c, .int .u64 ((r.getD (⟨⟨[], 0, 0⟩, []⟩, [], [])).1.key.seq.toNat : Int), .int .u8 ((r.getD (⟨⟨[], 0, 0⟩, []⟩, [], [])).1.key.kind.toNat : Int), .slice B m d], .slice F nf cf, .slice M nm cm, .bool r.isSome]) ∧
    Sl w' 1 A n c (bc (r.getD (⟨⟨[], 0, 0⟩, []⟩, [], [])).1.key.user) ∧ Sl w' 1 B m d (bc (r.getD (⟨⟨[], 0, 0⟩, []⟩, [], [])).1.value) ∧ Sl w' 1 F nf cf (bc (r.getD (⟨⟨[], 0, 0⟩, []⟩, [], [])).2.1) ∧ Sl w' 1 M nm cm (bc (r.getD (⟨⟨[], 0, 0⟩, []⟩, [], [])).2.2) ∧
    Below w.heap.size w w' ∧ NewAt w A n ∧ NewAt w B m ∧ NewAt w F nf ∧ NewAt w M nm
set_option maxHeartbeats 32000000 in
theorem entry12_any (w : World) (A : Option Addr) (n c : Nat) (p : List UInt8) (hp : Sl w 1 A n c (bc p)) (Aa : Option Addr) (na ca : Nat) (a : List UInt8) (ha : Sl w 1 Aa na ca (bc a)) (hn : n ≤ 65536) (hab : a.length ≤ 65536) :
    Calls Tryz.prog 124 #[.slice A n c, .slice Aa na ca] w (GotEntry w (entryL a p)) := by
  obtain ⟨r, hr⟩ : ∃ r, entryL a p = r := ⟨_, rfl⟩
  rw [hr]
  rw [entry_nums a p hab (by have := hp.lenb; omega)] at hr
  have hla := ha.lenb
  have hlp := hp.lenb
  rw [hla] at hr
  have al0 := (Below.refl w.heap.size w).alloc (Nat.le_refl _) (.cells #[.slice none 0 0, .int .u64 0, .int .u8 0, .slice none 0 0] 69)
  have kR := Bx4.fresh w (.slice none 0 0) (.int .u64 0) (.int .u8 0) (.slice none 0 0) 69
  have cn := fun w' (hb : Below w.heap.size w w') => nums_any w' A n c p 3 (hp.below (by omega) hb) (by omega) (by omega) (by omega)
  have hnl := nums_len 3 p
  have hnb := nums_le3 p
  generalize hR : numsL 3 p = R at *
  unfold GotNums at cn
  have Cn := Lib.hid cn
  have Hr := Lib.hid hr
  have Hnl := Lib.hid hnl
  have Hnb := Lib.hid hnb
  clear cn hr hR hnl hnb hlp
  have hnab : na ≤ 65536 := by omega
  have Hla := Lib.hid hla
  clear hla hab
  go_enter Tryz.func124, Tryz.ntmps124
  go_wp2_with fail
  generalize (w.alloc (.cells #[.slice none 0 0, .int .u64 0, .int .u8 0, .slice none 0 0] 69)) = w0 at *
  refine (Cn.out _ al0).mono ?_
  rintro e w1 ⟨AI, nI, cI, Aq, nq, cq, rfl, sI, sQ, hb, hNI, hNq⟩
  have zI := kR.lt
  have kR := kR.below hb
  have hq := al0.trans (hb.mono al0.size)
  have sa := ha.below (by omega) hq
  cases R with
  | none =>
    have er : none = r := Hr.out
    subst er
    simp only [Option.isSome_none] at *
    clear hNI hNq sI hb
    go_wp2_with fail
    have kR := kR.drew
    have hq := below_drew hq
    generalize hW : World.drew _ = w2 at *
    refine regionF (fun _ wa wb => Below w2.heap.size w2 wa → Below w2.heap.size w2 wb) (by kernel_rfl) ?_
    rw [hW]
    clear hW
    have hX := Below.refl w2.heap.size w2
    refine takeP (i := 0) (v := ?_) rfl hX ?hy ?_
    case hy =>
      intro wS hSw
      clear hSw
      go_simp
      try with_reducible rfl
    refine takeP (i := 1) (v := ?_) rfl hX ?hy ?_
    case hy =>
      intro wS hSw
      clear hSw
      go_simp
      try with_reducible rfl
    refine takeP (i := 2) (v := ?_) rfl hX ?hy ?_
    case hy =>
      intro wS hSw
      clear hSw
      go_simp
      try with_reducible rfl
    try simp only [List.getElem_toArray, List.getElem_cons_succ, List.getElem_cons_zero, Act.put, List.setIfInBounds_toArray, List.set_cons_zero, List.set_cons_succ]
    refine takeF (i := 3) (v := undef) (fun wa => Below w2.heap.size w2 wa) rfl (by kernel_rfl) (by kernel_rfl) (by kernel_rfl) (fun j hj => .inr (.inr fun wa wb h g => g h)) (fun wa => id) (fun _ _ _ h => h) (Or.inr ⟨by kernel_rfl, rfl⟩) hX ?_
    try simp only [List.getElem_toArray, List.getElem_cons_succ, List.getElem_cons_zero, Act.put, List.setIfInBounds_toArray, List.set_cons_zero, List.set_cons_succ]
    refine takeF (i := 4) (v := undef) (fun wa => Below w2.heap.size w2 wa) rfl (by kernel_rfl) (by kernel_rfl) (by kernel_rfl) (fun j hj => .inr (.inr fun wa wb h g => g h)) (fun wa => id) (fun _ _ _ h => h) (Or.inr ⟨by kernel_rfl, rfl⟩) hX ?_
    try simp only [List.getElem_toArray, List.getElem_cons_succ, List.getElem_cons_zero, Act.put, List.setIfInBounds_toArray, List.set_cons_zero, List.set_cons_succ]
    refine takeF (i := 5) (v := undef) (fun wa => Below w2.heap.size w2 wa) rfl (by kernel_rfl) (by kernel_rfl) (by kernel_rfl) (fun j hj => .inr (.inr fun wa wb h g => g h)) (fun wa => id) (fun _ _ _ h => h) (Or.inr ⟨by kernel_rfl, rfl⟩) hX ?_
    try simp only [List.getElem_toArray, List.getElem_cons_succ, List.getElem_cons_zero, Act.put, List.setIfInBounds_toArray, List.set_cons_zero, List.set_cons_succ]
    refine takeF (i := 6) (v := undef) (fun wa => Below w2.heap.size w2 wa) rfl (by kernel_rfl) (by kernel_rfl) (by kernel_rfl) (fun j hj => .inr (.inr fun wa wb h g => g h)) (fun wa => id) (fun _ _ _ h => h) (Or.inr ⟨by kernel_rfl, rfl⟩) hX ?_
    try simp only [List.getElem_toArray, List.getElem_cons_succ, List.getElem_cons_zero, Act.put, List.setIfInBounds_toArray, List.set_cons_zero, List.set_cons_succ]
    refine takeF (i := 7) (v := undef) (fun wa => Below w2.heap.size w2 wa) rfl (by kernel_rfl) (by kernel_rfl) (by kernel_rfl) (fun j hj => .inr (.inr fun wa wb h g => g h)) (fun wa => id) (fun _ _ _ h => h) (Or.inr ⟨by kernel_rfl, rfl⟩) hX ?_
    try simp only [List.getElem_toArray, List.getElem_cons_succ, List.getElem_cons_zero, Act.put, List.setIfInBounds_toArray, List.set_cons_zero, List.set_cons_succ]
    refine takeF (i := 8) (v := undef) (fun wa => Below w2.heap.size w2 wa) rfl (by kernel_rfl) (by kernel_rfl) (by kernel_rfl) (fun j hj => .inr (.inr fun wa wb h g => g h)) (fun wa => id) (fun _ _ _ h => h) (Or.inr ⟨by kernel_rfl, rfl⟩) hX ?_
    refine takeP (i := 9) (v := ?_) rfl hX ?hy ?_
    case hy =>
      intro wS hSw
      clear hSw
      go_simp
      try with_reducible rfl
    refine takeP (i := 10) (v := ?_) rfl hX ?hy ?_
    case hy =>
      intro wS hSw
      clear hSw
      go_simp
      try with_reducible rfl
    try simp only [List.getElem_toArray, List.getElem_cons_succ, List.getElem_cons_zero, Act.put, List.setIfInBounds_toArray, List.set_cons_zero, List.set_cons_succ]
    refine takeF (i := 11) (v := undef) (fun wa => Below w2.heap.size w2 wa) rfl (by kernel_rfl) (by kernel_rfl) (by kernel_rfl) (fun j hj => .inr (.inr fun wa wb h g => g h)) (fun wa => id) (fun _ _ _ h => h) (Or.inr ⟨by kernel_rfl, rfl⟩) hX ?_
    try simp only [List.getElem_toArray, List.getElem_cons_succ, List.getElem_cons_zero, Act.put, List.setIfInBounds_toArray, List.set_cons_zero, List.set_cons_succ]
    refine takeF (i := 12) (v := undef) (fun wa => Below w2.heap.size w2 wa) rfl (by kernel_rfl) (by kernel_rfl) (by kernel_rfl) (fun j hj => .inr (.inr fun wa wb h g => g h)) (fun wa => id) (fun _ _ _ h => h) (Or.inr ⟨by kernel_rfl, rfl⟩) hX ?_
    try simp only [List.getElem_toArray, List.getElem_cons_succ, List.getElem_cons_zero, Act.put, List.setIfInBounds_toArray, List.set_cons_zero, List.set_cons_succ]
    refine takeF (i := 13) (v := undef) (fun wa => Below w2.heap.size w2 wa) rfl (by kernel_rfl) (by kernel_rfl) (by kernel_rfl) (fun j hj => .inr (.inr fun wa wb h g => g h)) (fun wa => id) (fun _ _ _ h => h) (Or.inr ⟨by kernel_rfl, rfl⟩) hX ?_
    try simp only [List.getElem_toArray, List.getElem_cons_succ, List.getElem_cons_zero, Act.put, List.setIfInBounds_toArray, List.set_cons_zero, List.set_cons_succ]
    refine takeF (i := 14) (v := undef) (fun wa => Below w2.heap.size w2 wa) rfl (by kernel_rfl) (by kernel_rfl) (by kernel_rfl) (fun j hj => .inr (.inr fun wa wb h g => g h)) (fun wa => id) (fun _ _ _ h => h) (Or.inr ⟨by kernel_rfl, rfl⟩) hX ?_
    try simp only [List.getElem_toArray, List.getElem_cons_succ, List.getElem_cons_zero, Act.put, List.setIfInBounds_toArray, List.set_cons_zero, List.set_cons_succ]
    refine takeF (i := 15) (v := undef) (fun wa => Below w2.heap.size w2 wa) rfl (by kernel_rfl) (by kernel_rfl) (by kernel_rfl) (fun j hj => .inr (.inr fun wa wb h g => g h)) (fun wa => id) (fun _ _ _ h => h) (Or.inr ⟨by kernel_rfl, rfl⟩) hX ?_
    try simp only [List.getElem_toArray, List.getElem_cons_succ, List.getElem_cons_zero, Act.put, List.setIfInBounds_toArray, List.set_cons_zero, List.set_cons_succ]
    refine takeF (i := 16) (v := undef) (fun wa => Below w2.heap.size w2 wa) rfl (by kernel_rfl) (by kernel_rfl) (by kernel_rfl) (fun j hj => .inr (.inr fun wa wb h g => g h)) (fun wa => id) (fun _ _ _ h => h) (Or.inr ⟨by kernel_rfl, rfl⟩) hX ?_
    try simp only [List.getElem_toArray, List.getElem_cons_succ, List.getElem_cons_zero, Act.put, List.setIfInBounds_toArray, List.set_cons_zero, List.set_cons_succ]
    refine takeF (i := 17) (v := undef) (fun wa => Below w2.heap.size w2 wa) rfl (by kernel_rfl) (by kernel_rfl) (by kernel_rfl) (fun j hj => .inr (.inr fun wa wb h g => g h)) (fun wa => id) (fun _ _ _ h => h) (Or.inr ⟨by kernel_rfl, rfl⟩) hX ?_
    try simp only [List.getElem_toArray, List.getElem_cons_succ, List.getElem_cons_zero, Act.put, List.setIfInBounds_toArray, List.set_cons_zero, List.set_cons_succ]
    refine takeF (i := 18) (v := undef) (fun wa => Below w2.heap.size w2 wa) rfl (by kernel_rfl) (by kernel_rfl) (by kernel_rfl) (fun j hj => .inr (.inr fun wa wb h g => g h)) (fun wa => id) (fun _ _ _ h => h) (Or.inr ⟨by kernel_rfl, rfl⟩) hX ?_
    try simp only [List.getElem_toArray, List.getElem_cons_succ, List.getElem_cons_zero, Act.put, List.setIfInBounds_toArray, List.set_cons_zero, List.set_cons_succ]
    refine takeF (i := 19) (v := undef) (fun wa => Below w2.heap.size w2 wa) rfl (by kernel_rfl) (by kernel_rfl) (by kernel_rfl) (fun j hj => .inr (.inr fun wa wb h g => g h)) (fun wa => id) (fun _ _ _ h => h) (Or.inr ⟨by kernel_rfl, rfl⟩) hX ?_
    try simp only [List.getElem_toArray, List.getElem_cons_succ, List.getElem_cons_zero, Act.put, List.setIfInBounds_toArray, List.set_cons_zero, List.set_cons_succ]
    refine takeF (i := 20) (v := undef) (fun wa => Below w2.heap.size w2 wa) rfl (by kernel_rfl) (by kernel_rfl) (by kernel_rfl) (fun j hj => .inr (.inr fun wa wb h g => g h)) (fun wa => id) (fun _ _ _ h => h) (Or.inr ⟨by kernel_rfl, rfl⟩) hX ?_
    refine takeP (i := 21) (v := ?_) rfl hX ?hy ?_
    case hy =>
      intro wS hSw
      clear hSw
      go_simp
      try with_reducible rfl
    refine takeP (i := 22) (v := ?_) rfl hX ?hy ?_
    case hy =>
      intro wS hSw
      clear hSw
      go_simp
      try with_reducible rfl
    try simp only [List.getElem_toArray, List.getElem_cons_succ, List.getElem_cons_zero, Act.put, List.setIfInBounds_toArray, List.set_cons_zero, List.set_cons_succ]
    refine takeF (i := 23) (v := undef) (fun wa => Below w2.heap.size w2 wa) rfl (by kernel_rfl) (by kernel_rfl) (by kernel_rfl) (fun j hj => .inr (.inr fun wa wb h g => g h)) (fun wa => id) (fun _ _ _ h => h) (Or.inr ⟨by kernel_rfl, rfl⟩) hX ?_
    try simp only [List.getElem_toArray, List.getElem_cons_succ, List.getElem_cons_zero, Act.put, List.setIfInBounds_toArray, List.set_cons_zero, List.set_cons_succ]
    refine takeF (i := 24) (v := undef) (fun wa => Below w2.heap.size w2 wa) rfl (by kernel_rfl) (by kernel_rfl) (by kernel_rfl) (fun j hj => .inr (.inr fun wa wb h g => g h)) (fun wa => id) (fun _ _ _ h => h) (Or.inr ⟨by kernel_rfl, rfl⟩) hX ?_
    try simp only [List.getElem_toArray, List.getElem_cons_succ, List.getElem_cons_zero, Act.put, List.setIfInBounds_toArray, List.set_cons_zero, List.set_cons_succ]
    refine takeF (i := 25) (v := undef) (fun wa => Below w2.heap.size w2 wa) rfl (by kernel_rfl) (by kernel_rfl) (by kernel_rfl) (fun j hj => .inr (.inr fun wa wb h g => g h)) (fun wa => id) (fun _ _ _ h => h) (Or.inr ⟨by kernel_rfl, rfl⟩) hX ?_
    try simp only [List.getElem_toArray, List.getElem_cons_succ, List.getElem_cons_zero, Act.put, List.setIfInBounds_toArray, List.set_cons_zero, List.set_cons_succ]
    refine takeF (i := 26) (v := undef) (fun wa => Below w2.heap.size w2 wa) rfl (by kernel_rfl) (by kernel_rfl) (by kernel_rfl) (fun j hj => .inr (.inr fun wa wb h g => g h)) (fun wa => id) (fun _ _ _ h => h) (Or.inr ⟨by kernel_rfl, rfl⟩) hX ?_
    try simp only [List.getElem_toArray, List.getElem_cons_succ, List.getElem_cons_zero, Act.put, List.setIfInBounds_toArray, List.set_cons_zero, List.set_cons_succ]
    refine takeF (i := 27) (v := undef) (fun wa => Below w2.heap.size w2 wa) rfl (by kernel_rfl) (by kernel_rfl) (by kernel_rfl) (fun j hj => .inr (.inr fun wa wb h g => g h)) (fun wa => id) (fun _ _ _ h => h) (Or.inr ⟨by kernel_rfl, rfl⟩) hX ?_
    try simp only [List.getElem_toArray, List.getElem_cons_succ, List.getElem_cons_zero, Act.put, List.setIfInBounds_toArray, List.set_cons_zero, List.set_cons_succ]
    refine takeF (i := 28) (v := undef) (fun wa => Below w2.heap.size w2 wa) rfl (by kernel_rfl) (by kernel_rfl) (by kernel_rfl) (fun j hj => .inr (.inr fun wa wb h g => g h)) (fun wa => id) (fun _ _ _ h => h) (Or.inr ⟨by kernel_rfl, rfl⟩) hX ?_
    try simp only [List.getElem_toArray, List.getElem_cons_succ, List.getElem_cons_zero, Act.put, List.setIfInBounds_toArray, List.set_cons_zero, List.set_cons_succ]
    refine takeF (i := 29) (v := undef) (fun wa => Below w2.heap.size w2 wa) rfl (by kernel_rfl) (by kernel_rfl) (by kernel_rfl) (fun j hj => .inr (.inr fun wa wb h g => g h)) (fun wa => id) (fun _ _ _ h => h) (Or.inr ⟨by kernel_rfl, rfl⟩) hX ?_
    try simp only [List.getElem_toArray, List.getElem_cons_succ, List.getElem_cons_zero, Act.put, List.setIfInBounds_toArray, List.set_cons_zero, List.set_cons_succ]
    refine takeF (i := 30) (v := undef) (fun wa => Below w2.heap.size w2 wa) rfl (by kernel_rfl) (by kernel_rfl) (by kernel_rfl) (fun j hj => .inr (.inr fun wa wb h g => g h)) (fun wa => id) (fun _ _ _ h => h) (Or.inr ⟨by kernel_rfl, rfl⟩) hX ?_
    refine takeP (i := 31) (v := ?_) rfl hX ?hy ?_
    case hy =>
      intro wS hSw
      clear hSw
      go_simp
      try with_reducible rfl
    try simp only [List.getElem_toArray, List.getElem_cons_succ, List.getElem_cons_zero, Act.put, List.setIfInBounds_toArray, List.set_cons_zero, List.set_cons_succ]
    refine doneF (by kernel_rfl) ?_ _
    try simp only [List.getElem_toArray, List.getElem_cons_succ, List.getElem_cons_zero, Act.put, List.setIfInBounds_toArray, List.set_cons_zero, List.set_cons_succ]
    obtain ⟨x0, x1, x2, x3, x4⟩ := id kR
    go_wp2
    refine bodyPost_ret (v := .tuple #[.agg #[.slice none 0 0, .int .u64 0, .int .u8 0, .slice none 0 0], .slice none 0 0, .slice none 0 0, .bool false]) (by simp [results, Tryz.results124, go_sem, x0, x1, x2, x3]) rfl ?_
    refine ⟨none, 0, 0, none, 0, 0, none, 0, 0, none, 0, 0, rfl, sl_none _, sl_none _, sl_none _, sl_none _, ?_, none_new _, none_new _, none_new _, none_new _⟩
    iterate 4 refine Below.setCell ?_ (by simp) _
    exact hq
  | some nsq =>
    obtain ⟨ns, q⟩ := nsq
    obtain ⟨h3, hql⟩ := Hnl.out ns q rfl
    match ns, h3 with
    | [x, y, z], _ =>
    simp only [Option.getD_some, Option.isSome_some] at *
    have hlq := sQ.lenb
    have hr := Hr.out
    simp only [List.getD_cons_zero, List.getD_cons_succ] at hr
    rw [hlq] at hr
    have hb3 := Hnb.out x y z q rfl
    obtain ⟨hnI, bi, oi, rfl, i3⟩ := i3_of sI
    subst hnI
    have hbi : w.heap.size + 1 ≤ bi := by have := hNI bi (by omega) rfl; omega
    have HNq : Hid (∀ b, 0 < nq → Aq.map (·.block) = some b → w.heap.size + 1 ≤ b) := Lib.hid fun b hn e => by have := hNq b hn e; omega
    have Hr := Lib.hid hr
    have Hlq := Lib.hid hlq
    have hqc := Lib.hid sQ.cap
    clear hr hlq hNI hNq hb sI hql h3
    obtain ⟨yz, hyz⟩ : ∃ yz, y + z = yz := ⟨_, rfl⟩
    obtain ⟨xy, hxy⟩ : ∃ xy, x + y = xy := ⟨_, rfl⟩
    have hr := Hr.out
    rw [hyz, hxy] at hr
    have Hr := Lib.hid hr
    have hs0 : IntKind.i64.wrap ((y : Int) + (z : Int)) = (yz : Int) := by rw [IntKind.wrap_i64]; omega
    have hs0' : IntKind.i64.wrap ((x : Int) + (y : Int)) = (xy : Int) := by rw [IntKind.wrap_i64]; omega
    have hyyz : y ≤ yz := by omega
    have Hyz := Lib.hid hyz
    have Hxy := Lib.hid hxy
    have hzb : yz ≤ 131072 := by omega
    clear hyz hxy hr
    have hcmq := sQ.capm
    unfold maxLen at hcmq
    have hcpq := sQ.cap
    have hcma := sa.capm
    unfold maxLen at hcma
    have hcpa := sa.cap
    by_cases c1 : x ≤ na
    case neg =>
      have er : none = r := by rw [← Hr.out, if_neg (fun h => c1 h.1)]
      subst er
      have i1 : decide (na < x) = true := decide_eq_true (by omega)
      go_wp2_with fail
      have kR := kR.drew
      have i3 := i3.drew
      have hq := below_drew hq
      generalize hW : World.drew _ = w2 at *
      refine regionF (fun _ wa wb => Below w2.heap.size w2 wa → Below w2.heap.size w2 wb) (by kernel_rfl) ?_
      rw [hW]
      clear hW
      have hX := Below.refl w2.heap.size w2
      refine takeP (i := 0) (v := ?_) rfl hX ?hy ?_
      case hy =>
        intro wS hSw
        clear hSw
        go_simp
        try with_reducible rfl
      refine takeP (i := 1) (v := ?_) rfl hX ?hy ?_
      case hy =>
        intro wS hSw
        clear hSw
        go_simp
        try with_reducible rfl
      refine takeP (i := 2) (v := ?_) rfl hX ?hy ?_
      case hy =>
        intro wS hSw
        clear hSw
        go_simp
        try with_reducible rfl
      refine takeP (i := 3) (v := ?_) rfl hX ?hy ?_
      case hy =>
        intro wS hSw
        clear hSw
        go_simp
        try with_reducible rfl
      refine takeP (i := 4) (v := ?_) rfl hX ?hy ?_
      case hy =>
        intro wS hSw
        clear hSw
        go_simp
        try with_reducible rfl
      refine takeP (i := 5) (v := ?_) rfl hX ?hy ?_
      case hy =>
        intro wS hSw
        obtain ⟨y0, y1, y2⟩ := i3.below hSw
        clear hSw
        go_simp
        try with_reducible rfl
      refine takeP (i := 6) (v := ?_) rfl hX ?hy ?_
      case hy =>
        intro wS hSw
        clear hSw
        go_simp
        try with_reducible rfl
      refine takeP (i := 7) (v := ?_) rfl hX ?hy ?_
      case hy =>
        intro wS hSw
        clear hSw
        go_simp
        try with_reducible rfl
      refine takeP (i := 8) (v := ?_) rfl hX ?hy ?_
      case hy =>
        intro wS hSw
        clear hSw
        go_simp
        try with_reducible rfl
      refine takeP (i := 9) (v := ?_) rfl hX ?hy ?_
      case hy =>
        intro wS hSw
        clear hSw
        go_simp
        try with_reducible rfl
      refine takeP (i := 10) (v := ?_) rfl hX ?hy ?_
      case hy =>
        intro wS hSw
        clear hSw
        go_simp
        try with_reducible rfl
      try simp only [List.getElem_toArray, List.getElem_cons_succ, List.getElem_cons_zero, Act.put, List.setIfInBounds_toArray, List.set_cons_zero, List.set_cons_succ]
      refine takeF (i := 11) (v := undef) (fun wa => Below w2.heap.size w2 wa) rfl (by kernel_rfl) (by kernel_rfl) (by kernel_rfl) (fun j hj => .inr (.inr fun wa wb h g => g h)) (fun wa => id) (fun _ _ _ h => h) (Or.inr ⟨by kernel_rfl, rfl⟩) hX ?_
      try simp only [List.getElem_toArray, List.getElem_cons_succ, List.getElem_cons_zero, Act.put, List.setIfInBounds_toArray, List.set_cons_zero, List.set_cons_succ]
      refine takeF (i := 12) (v := undef) (fun wa => Below w2.heap.size w2 wa) rfl (by kernel_rfl) (by kernel_rfl) (by kernel_rfl) (fun j hj => .inr (.inr fun wa wb h g => g h)) (fun wa => id) (fun _ _ _ h => h) (Or.inr ⟨by kernel_rfl, rfl⟩) hX ?_
      try simp only [List.getElem_toArray, List.getElem_cons_succ, List.getElem_cons_zero, Act.put, List.setIfInBounds_toArray, List.set_cons_zero, List.set_cons_succ]
      refine takeF (i := 13) (v := undef) (fun wa => Below w2.heap.size w2 wa) rfl (by kernel_rfl) (by kernel_rfl) (by kernel_rfl) (fun j hj => .inr (.inr fun wa wb h g => g h)) (fun wa => id) (fun _ _ _ h => h) (Or.inr ⟨by kernel_rfl, rfl⟩) hX ?_
      try simp only [List.getElem_toArray, List.getElem_cons_succ, List.getElem_cons_zero, Act.put, List.setIfInBounds_toArray, List.set_cons_zero, List.set_cons_succ]
      refine takeF (i := 14) (v := undef) (fun wa => Below w2.heap.size w2 wa) rfl (by kernel_rfl) (by kernel_rfl) (by kernel_rfl) (fun j hj => .inr (.inr fun wa wb h g => g h)) (fun wa => id) (fun _ _ _ h => h) (Or.inr ⟨by kernel_rfl, rfl⟩) hX ?_
      try simp only [List.getElem_toArray, List.getElem_cons_succ, List.getElem_cons_zero, Act.put, List.setIfInBounds_toArray, List.set_cons_zero, List.set_cons_succ]
      refine takeF (i := 15) (v := undef) (fun wa => Below w2.heap.size w2 wa) rfl (by kernel_rfl) (by kernel_rfl) (by kernel_rfl) (fun j hj => .inr (.inr fun wa wb h g => g h)) (fun wa => id) (fun _ _ _ h => h) (Or.inr ⟨by kernel_rfl, rfl⟩) hX ?_
      try simp only [List.getElem_toArray, List.getElem_cons_succ, List.getElem_cons_zero, Act.put, List.setIfInBounds_toArray, List.set_cons_zero, List.set_cons_succ]
      refine takeF (i := 16) (v := undef) (fun wa => Below w2.heap.size w2 wa) rfl (by kernel_rfl) (by kernel_rfl) (by kernel_rfl) (fun j hj => .inr (.inr fun wa wb h g => g h)) (fun wa => id) (fun _ _ _ h => h) (Or.inr ⟨by kernel_rfl, rfl⟩) hX ?_
      try simp only [List.getElem_toArray, List.getElem_cons_succ, List.getElem_cons_zero, Act.put, List.setIfInBounds_toArray, List.set_cons_zero, List.set_cons_succ]
      refine takeF (i := 17) (v := undef) (fun wa => Below w2.heap.size w2 wa) rfl (by kernel_rfl) (by kernel_rfl) (by kernel_rfl) (fun j hj => .inr (.inr fun wa wb h g => g h)) (fun wa => id) (fun _ _ _ h => h) (Or.inr ⟨by kernel_rfl, rfl⟩) hX ?_
      try simp only [List.getElem_toArray, List.getElem_cons_succ, List.getElem_cons_zero, Act.put, List.setIfInBounds_toArray, List.set_cons_zero, List.set_cons_succ]
      refine takeF (i := 18) (v := undef) (fun wa => Below w2.heap.size w2 wa) rfl (by kernel_rfl) (by kernel_rfl) (by kernel_rfl) (fun j hj => .inr (.inr fun wa wb h g => g h)) (fun wa => id) (fun _ _ _ h => h) (Or.inr ⟨by kernel_rfl, rfl⟩) hX ?_
      try simp only [List.getElem_toArray, List.getElem_cons_succ, List.getElem_cons_zero, Act.put, List.setIfInBounds_toArray, List.set_cons_zero, List.set_cons_succ]
      refine takeF (i := 19) (v := undef) (fun wa => Below w2.heap.size w2 wa) rfl (by kernel_rfl) (by kernel_rfl) (by kernel_rfl) (fun j hj => .inr (.inr fun wa wb h g => g h)) (fun wa => id) (fun _ _ _ h => h) (Or.inr ⟨by kernel_rfl, rfl⟩) hX ?_
      try simp only [List.getElem_toArray, List.getElem_cons_succ, List.getElem_cons_zero, Act.put, List.setIfInBounds_toArray, List.set_cons_zero, List.set_cons_succ]
      refine takeF (i := 20) (v := undef) (fun wa => Below w2.heap.size w2 wa) rfl (by kernel_rfl) (by kernel_rfl) (by kernel_rfl) (fun j hj => .inr (.inr fun wa wb h g => g h)) (fun wa => id) (fun _ _ _ h => h) (Or.inr ⟨by kernel_rfl, rfl⟩) hX ?_
      refine takeP (i := 21) (v := ?_) rfl hX ?hy ?_
      case hy =>
        intro wS hSw
        clear hSw
        go_simp
        try with_reducible rfl
      refine takeP (i := 22) (v := ?_) rfl hX ?hy ?_
      case hy =>
        intro wS hSw
        clear hSw
        go_simp
        try with_reducible rfl
      try simp only [List.getElem_toArray, List.getElem_cons_succ, List.getElem_cons_zero, Act.put, List.setIfInBounds_toArray, List.set_cons_zero, List.set_cons_succ]
      refine takeF (i := 23) (v := undef) (fun wa => Below w2.heap.size w2 wa) rfl (by kernel_rfl) (by kernel_rfl) (by kernel_rfl) (fun j hj => .inr (.inr fun wa wb h g => g h)) (fun wa => id) (fun _ _ _ h => h) (Or.inr ⟨by kernel_rfl, rfl⟩) hX ?_
      try simp only [List.getElem_toArray, List.getElem_cons_succ, List.getElem_cons_zero, Act.put, List.setIfInBounds_toArray, List.set_cons_zero, List.set_cons_succ]
      refine takeF (i := 24) (v := undef) (fun wa => Below w2.heap.size w2 wa) rfl (by kernel_rfl) (by kernel_rfl) (by kernel_rfl) (fun j hj => .inr (.inr fun wa wb h g => g h)) (fun wa => id) (fun _ _ _ h => h) (Or.inr ⟨by kernel_rfl, rfl⟩) hX ?_
      try simp only [List.getElem_toArray, List.getElem_cons_succ, List.getElem_cons_zero, Act.put, List.setIfInBounds_toArray, List.set_cons_zero, List.set_cons_succ]
      refine takeF (i := 25) (v := undef) (fun wa => Below w2.heap.size w2 wa) rfl (by kernel_rfl) (by kernel_rfl) (by kernel_rfl) (fun j hj => .inr (.inr fun wa wb h g => g h)) (fun wa => id) (fun _ _ _ h => h) (Or.inr ⟨by kernel_rfl, rfl⟩) hX ?_
      try simp only [List.getElem_toArray, List.getElem_cons_succ, List.getElem_cons_zero, Act.put, List.setIfInBounds_toArray, List.set_cons_zero, List.set_cons_succ]
      refine takeF (i := 26) (v := undef) (fun wa => Below w2.heap.size w2 wa) rfl (by kernel_rfl) (by kernel_rfl) (by kernel_rfl) (fun j hj => .inr (.inr fun wa wb h g => g h)) (fun wa => id) (fun _ _ _ h => h) (Or.inr ⟨by kernel_rfl, rfl⟩) hX ?_
      try simp only [List.getElem_toArray, List.getElem_cons_succ, List.getElem_cons_zero, Act.put, List.setIfInBounds_toArray, List.set_cons_zero, List.set_cons_succ]
      refine takeF (i := 27) (v := undef) (fun wa => Below w2.heap.size w2 wa) rfl (by kernel_rfl) (by kernel_rfl) (by kernel_rfl) (fun j hj => .inr (.inr fun wa wb h g => g h)) (fun wa => id) (fun _ _ _ h => h) (Or.inr ⟨by kernel_rfl, rfl⟩) hX ?_
      try simp only [List.getElem_toArray, List.getElem_cons_succ, List.getElem_cons_zero, Act.put, List.setIfInBounds_toArray, List.set_cons_zero, List.set_cons_succ]
      refine takeF (i := 28) (v := undef) (fun wa => Below w2.heap.size w2 wa) rfl (by kernel_rfl) (by kernel_rfl) (by kernel_rfl) (fun j hj => .inr (.inr fun wa wb h g => g h)) (fun wa => id) (fun _ _ _ h => h) (Or.inr ⟨by kernel_rfl, rfl⟩) hX ?_
      try simp only [List.getElem_toArray, List.getElem_cons_succ, List.getElem_cons_zero, Act.put, List.setIfInBounds_toArray, List.set_cons_zero, List.set_cons_succ]
      refine takeF (i := 29) (v := undef) (fun wa => Below w2.heap.size w2 wa) rfl (by kernel_rfl) (by kernel_rfl) (by kernel_rfl) (fun j hj => .inr (.inr fun wa wb h g => g h)) (fun wa => id) (fun _ _ _ h => h) (Or.inr ⟨by kernel_rfl, rfl⟩) hX ?_
      try simp only [List.getElem_toArray, List.getElem_cons_succ, List.getElem_cons_zero, Act.put, List.setIfInBounds_toArray, List.set_cons_zero, List.set_cons_succ]
      refine takeF (i := 30) (v := undef) (fun wa => Below w2.heap.size w2 wa) rfl (by kernel_rfl) (by kernel_rfl) (by kernel_rfl) (fun j hj => .inr (.inr fun wa wb h g => g h)) (fun wa => id) (fun _ _ _ h => h) (Or.inr ⟨by kernel_rfl, rfl⟩) hX ?_
      refine takeP (i := 31) (v := ?_) rfl hX ?hy ?_
      case hy =>
        intro wS hSw
        clear hSw
        go_simp
        try with_reducible rfl
      try simp only [List.getElem_toArray, List.getElem_cons_succ, List.getElem_cons_zero, Act.put, List.setIfInBounds_toArray, List.set_cons_zero, List.set_cons_succ]
      refine doneF (by kernel_rfl) ?_ _
      try simp only [List.getElem_toArray, List.getElem_cons_succ, List.getElem_cons_zero, Act.put, List.setIfInBounds_toArray, List.set_cons_zero, List.set_cons_succ]
      obtain ⟨x0, x1, x2, x3, x4⟩ := id kR
      go_wp2
      refine bodyPost_ret (v := .tuple #[.agg #[.slice none 0 0, .int .u64 0, .int .u8 0, .slice none 0 0], .slice none 0 0, .slice none 0 0, .bool false]) (by simp [results, Tryz.results124, go_sem, x0, x1, x2, x3]) rfl ?_
      refine ⟨none, 0, 0, none, 0, 0, none, 0, 0, none, 0, 0, rfl, sl_none _, sl_none _, sl_none _, sl_none _, ?_, none_new _, none_new _, none_new _, none_new _⟩
      iterate 4 refine Below.setCell ?_ (by simp) _
      exact hq
    have i1 : decide (na < x) = false := decide_eq_false (by omega)
    by_cases c2 : yz ≤ nq
    case neg =>
      have er : none = r := by rw [← Hr.out, if_neg (fun h => c2 h.2.1)]
      subst er
      have i2 : decide (nq < yz) = true := decide_eq_true (by omega)
      go_wp2_with fail
      have kR := kR.drew
      have i3 := i3.drew
      have hq := below_drew hq
      generalize hW : World.drew _ = w2 at *
      refine regionF (fun _ wa wb => Below w2.heap.size w2 wa → Below w2.heap.size w2 wb) (by kernel_rfl) ?_
      rw [hW]
      clear hW
      have hX := Below.refl w2.heap.size w2
      refine takeP (i := 0) (v := ?_) rfl hX ?hy ?_
      case hy =>
        intro wS hSw
        clear hSw
        go_simp
        try with_reducible rfl
      refine takeP (i := 1) (v := ?_) rfl hX ?hy ?_
      case hy =>
        intro wS hSw
        clear hSw
        go_simp
        try with_reducible rfl
      refine takeP (i := 2) (v := ?_) rfl hX ?hy ?_
      case hy =>
        intro wS hSw
        clear hSw
        go_simp
        try with_reducible rfl
      refine takeP (i := 3) (v := ?_) rfl hX ?hy ?_
      case hy =>
        intro wS hSw
        clear hSw
        go_simp
        try with_reducible rfl
      refine takeP (i := 4) (v := ?_) rfl hX ?hy ?_
      case hy =>
        intro wS hSw
        clear hSw
        go_simp
        try with_reducible rfl
      refine takeP (i := 5) (v := ?_) rfl hX ?hy ?_
      case hy =>
        intro wS hSw
        obtain ⟨y0, y1, y2⟩ := i3.below hSw
        clear hSw
        go_simp
        try with_reducible rfl
      refine takeP (i := 6) (v := ?_) rfl hX ?hy ?_
      case hy =>
        intro wS hSw
        clear hSw
        go_simp
        try with_reducible rfl
      refine takeP (i := 7) (v := ?_) rfl hX ?hy ?_
      case hy =>
        intro wS hSw
        clear hSw
        go_simp
        try with_reducible rfl
      refine takeP (i := 8) (v := ?_) rfl hX ?hy ?_
      case hy =>
        intro wS hSw
        clear hSw
        go_simp
        try with_reducible rfl
      refine takeP (i := 9) (v := ?_) rfl hX ?hy ?_
      case hy =>
        intro wS hSw
        clear hSw
        go_simp
        try with_reducible rfl
      refine takeP (i := 10) (v := ?_) rfl hX ?hy ?_
      case hy =>
        intro wS hSw
        clear hSw
        go_simp
        try with_reducible rfl
      refine takeP (i := 11) (v := ?_) rfl hX ?hy ?_
      case hy =>
        intro wS hSw
        clear hSw
        go_simp
        try with_reducible rfl
      refine takeP (i := 12) (v := ?_) rfl hX ?hy ?_
      case hy =>
        intro wS hSw
        clear hSw
        go_simp
        try with_reducible rfl
      refine takeP (i := 13) (v := ?_) rfl hX ?hy ?_
      case hy =>
        intro wS hSw
        obtain ⟨y0, y1, y2⟩ := i3.below hSw
        clear hSw
        go_simp
        try with_reducible rfl
      refine takeP (i := 14) (v := ?_) rfl hX ?hy ?_
      case hy =>
        intro wS hSw
        clear hSw
        go_simp
        try with_reducible rfl
      refine takeP (i := 15) (v := ?_) rfl hX ?hy ?_
      case hy =>
        intro wS hSw
        clear hSw
        go_simp
        try with_reducible rfl
      refine takeP (i := 16) (v := ?_) rfl hX ?hy ?_
      case hy =>
        intro wS hSw
        obtain ⟨y0, y1, y2⟩ := i3.below hSw
        clear hSw
        go_simp
        try with_reducible rfl
      refine takeP (i := 17) (v := ?_) rfl hX ?hy ?_
      case hy =>
        intro wS hSw
        clear hSw
        go_simp
        try with_reducible rfl
      refine takeP (i := 18) (v := ?_) rfl hX ?hy ?_
      case hy =>
        intro wS hSw
        clear hSw
        go_simp
        try with_reducible rfl
      refine takeP (i := 19) (v := ?_) rfl hX ?hy ?_
      case hy =>
        intro wS hSw
        clear hSw
        go_simp
        try with_reducible rfl
      refine takeP (i := 20) (v := ?_) rfl hX ?hy ?_
      case hy =>
        intro wS hSw
        clear hSw
        go_simp
        try with_reducible rfl
      refine takeP (i := 21) (v := ?_) rfl hX ?hy ?_
      case hy =>
        intro wS hSw
        clear hSw
        go_simp
        try with_reducible rfl
      refine takeP (i := 22) (v := ?_) rfl hX ?hy ?_
      case hy =>
        intro wS hSw
        clear hSw
        go_simp
        try with_reducible rfl
      try simp only [List.getElem_toArray, List.getElem_cons_succ, List.getElem_cons_zero, Act.put, List.setIfInBounds_toArray, List.set_cons_zero, List.set_cons_succ]
      refine takeF (i := 23) (v := undef) (fun wa => Below w2.heap.size w2 wa) rfl (by kernel_rfl) (by kernel_rfl) (by kernel_rfl) (fun j hj => .inr (.inr fun wa wb h g => g h)) (fun wa => id) (fun _ _ _ h => h) (Or.inr ⟨by kernel_rfl, rfl⟩) hX ?_
      try simp only [List.getElem_toArray, List.getElem_cons_succ, List.getElem_cons_zero, Act.put, List.setIfInBounds_toArray, List.set_cons_zero, List.set_cons_succ]
      refine takeF (i := 24) (v := undef) (fun wa => Below w2.heap.size w2 wa) rfl (by kernel_rfl) (by kernel_rfl) (by kernel_rfl) (fun j hj => .inr (.inr fun wa wb h g => g h)) (fun wa => id) (fun _ _ _ h => h) (Or.inr ⟨by kernel_rfl, rfl⟩) hX ?_
      try simp only [List.getElem_toArray, List.getElem_cons_succ, List.getElem_cons_zero, Act.put, List.setIfInBounds_toArray, List.set_cons_zero, List.set_cons_succ]
      refine takeF (i := 25) (v := undef) (fun wa => Below w2.heap.size w2 wa) rfl (by kernel_rfl) (by kernel_rfl) (by kernel_rfl) (fun j hj => .inr (.inr fun wa wb h g => g h)) (fun wa => id) (fun _ _ _ h => h) (Or.inr ⟨by kernel_rfl, rfl⟩) hX ?_
      try simp only [List.getElem_toArray, List.getElem_cons_succ, List.getElem_cons_zero, Act.put, List.setIfInBounds_toArray, List.set_cons_zero, List.set_cons_succ]
      refine takeF (i := 26) (v := undef) (fun wa => Below w2.heap.size w2 wa) rfl (by kernel_rfl) (by kernel_rfl) (by kernel_rfl) (fun j hj => .inr (.inr fun wa wb h g => g h)) (fun wa => id) (fun _ _ _ h => h) (Or.inr ⟨by kernel_rfl, rfl⟩) hX ?_
      try simp only [List.getElem_toArray, List.getElem_cons_succ, List.getElem_cons_zero, Act.put, List.setIfInBounds_toArray, List.set_cons_zero, List.set_cons_succ]
      refine takeF (i := 27) (v := undef) (fun wa => Below w2.heap.size w2 wa) rfl (by kernel_rfl) (by kernel_rfl) (by kernel_rfl) (fun j hj => .inr (.inr fun wa wb h g => g h)) (fun wa => id) (fun _ _ _ h => h) (Or.inr ⟨by kernel_rfl, rfl⟩) hX ?_
      try simp only [List.getElem_toArray, List.getElem_cons_succ, List.getElem_cons_zero, Act.put, List.setIfInBounds_toArray, List.set_cons_zero, List.set_cons_succ]
      refine takeF (i := 28) (v := undef) (fun wa => Below w2.heap.size w2 wa) rfl (by kernel_rfl) (by kernel_rfl) (by kernel_rfl) (fun j hj => .inr (.inr fun wa wb h g => g h)) (fun wa => id) (fun _ _ _ h => h) (Or.inr ⟨by kernel_rfl, rfl⟩) hX ?_
      try simp only [List.getElem_toArray, List.getElem_cons_succ, List.getElem_cons_zero, Act.put, List.setIfInBounds_toArray, List.set_cons_zero, List.set_cons_succ]
      refine takeF (i := 29) (v := undef) (fun wa => Below w2.heap.size w2 wa) rfl (by kernel_rfl) (by kernel_rfl) (by kernel_rfl) (fun j hj => .inr (.inr fun wa wb h g => g h)) (fun wa => id) (fun _ _ _ h => h) (Or.inr ⟨by kernel_rfl, rfl⟩) hX ?_
      try simp only [List.getElem_toArray, List.getElem_cons_succ, List.getElem_cons_zero, Act.put, List.setIfInBounds_toArray, List.set_cons_zero, List.set_cons_succ]
      refine takeF (i := 30) (v := undef) (fun wa => Below w2.heap.size w2 wa) rfl (by kernel_rfl) (by kernel_rfl) (by kernel_rfl) (fun j hj => .inr (.inr fun wa wb h g => g h)) (fun wa => id) (fun _ _ _ h => h) (Or.inr ⟨by kernel_rfl, rfl⟩) hX ?_
      refine takeP (i := 31) (v := ?_) rfl hX ?hy ?_
      case hy =>
        intro wS hSw
        clear hSw
        go_simp
        try with_reducible rfl
      try simp only [List.getElem_toArray, List.getElem_cons_succ, List.getElem_cons_zero, Act.put, List.setIfInBounds_toArray, List.set_cons_zero, List.set_cons_succ]
      refine doneF (by kernel_rfl) ?_ _
      try simp only [List.getElem_toArray, List.getElem_cons_succ, List.getElem_cons_zero, Act.put, List.setIfInBounds_toArray, List.set_cons_zero, List.set_cons_succ]
      obtain ⟨x0, x1, x2, x3, x4⟩ := id kR
      go_wp2
      refine bodyPost_ret (v := .tuple #[.agg #[.slice none 0 0, .int .u64 0, .int .u8 0, .slice none 0 0], .slice none 0 0, .slice none 0 0, .bool false]) (by simp [results, Tryz.results124, go_sem, x0, x1, x2, x3]) rfl ?_
      refine ⟨none, 0, 0, none, 0, 0, none, 0, 0, none, 0, 0, rfl, sl_none _, sl_none _, sl_none _, sl_none _, ?_, none_new _, none_new _, none_new _, none_new _⟩
      iterate 4 refine Below.setCell ?_ (by simp) _
      exact hq
    have i2 : decide (nq < yz) = false := decide_eq_false (by omega)
    by_cases c3 : 8 ≤ xy
    case neg =>
      have er : none = r := by rw [← Hr.out, if_neg (fun h => c3 h.2.2)]
      subst er
      have i4 : decide ((xy : Int) < 8) = true := decide_eq_true (by omega)
      go_wp2_with fail
      have kR := kR.drew
      have i3 := i3.drew
      have hq := below_drew hq
      generalize hW : World.drew _ = w2 at *
      refine regionF (fun _ wa wb => Below w2.heap.size w2 wa → Below w2.heap.size w2 wb) (by kernel_rfl) ?_
      rw [hW]
      clear hW
      have hX := Below.refl w2.heap.size w2
      refine takeP (i := 0) (v := ?_) rfl hX ?hy ?_
      case hy =>
        intro wS hSw
        clear hSw
        go_simp
        try with_reducible rfl
      refine takeP (i := 1) (v := ?_) rfl hX ?hy ?_
      case hy =>
        intro wS hSw
        clear hSw
        go_simp
        try with_reducible rfl
      refine takeP (i := 2) (v := ?_) rfl hX ?hy ?_
      case hy =>
        intro wS hSw
        clear hSw
        go_simp
        try with_reducible rfl
      refine takeP (i := 3) (v := ?_) rfl hX ?hy ?_
      case hy =>
        intro wS hSw
        clear hSw
        go_simp
        try with_reducible rfl
      refine takeP (i := 4) (v := ?_) rfl hX ?hy ?_
      case hy =>
        intro wS hSw
        clear hSw
        go_simp
        try with_reducible rfl
      refine takeP (i := 5) (v := ?_) rfl hX ?hy ?_
      case hy =>
        intro wS hSw
        obtain ⟨y0, y1, y2⟩ := i3.below hSw
        clear hSw
        go_simp
        try with_reducible rfl
      refine takeP (i := 6) (v := ?_) rfl hX ?hy ?_
      case hy =>
        intro wS hSw
        clear hSw
        go_simp
        try with_reducible rfl
      refine takeP (i := 7) (v := ?_) rfl hX ?hy ?_
      case hy =>
        intro wS hSw
        clear hSw
        go_simp
        try with_reducible rfl
      refine takeP (i := 8) (v := ?_) rfl hX ?hy ?_
      case hy =>
        intro wS hSw
        clear hSw
        go_simp
        try with_reducible rfl
      refine takeP (i := 9) (v := ?_) rfl hX ?hy ?_
      case hy =>
        intro wS hSw
        clear hSw
        go_simp
        try with_reducible rfl
      refine takeP (i := 10) (v := ?_) rfl hX ?hy ?_
      case hy =>
        intro wS hSw
        clear hSw
        go_simp
        try with_reducible rfl
      refine takeP (i := 11) (v := ?_) rfl hX ?hy ?_
      case hy =>
        intro wS hSw
        clear hSw
        go_simp
        try with_reducible rfl
      refine takeP (i := 12) (v := ?_) rfl hX ?hy ?_
      case hy =>
        intro wS hSw
        clear hSw
        go_simp
        try with_reducible rfl
      refine takeP (i := 13) (v := ?_) rfl hX ?hy ?_
      case hy =>
        intro wS hSw
        obtain ⟨y0, y1, y2⟩ := i3.below hSw
        clear hSw
        go_simp
        try with_reducible rfl
      refine takeP (i := 14) (v := ?_) rfl hX ?hy ?_
      case hy =>
        intro wS hSw
        clear hSw
        go_simp
        try with_reducible rfl
      refine takeP (i := 15) (v := ?_) rfl hX ?hy ?_
      case hy =>
        intro wS hSw
        clear hSw
        go_simp
        try with_reducible rfl
      refine takeP (i := 16) (v := ?_) rfl hX ?hy ?_
      case hy =>
        intro wS hSw
        obtain ⟨y0, y1, y2⟩ := i3.below hSw
        clear hSw
        go_simp
        try with_reducible rfl
      refine takeP (i := 17) (v := ?_) rfl hX ?hy ?_
      case hy =>
        intro wS hSw
        clear hSw
        go_simp
        try with_reducible rfl
      refine takeP (i := 18) (v := ?_) rfl hX ?hy ?_
      case hy =>
        intro wS hSw
        clear hSw
        go_simp
        try with_reducible rfl
      refine takeP (i := 19) (v := ?_) rfl hX ?hy ?_
      case hy =>
        intro wS hSw
        clear hSw
        go_simp
        try with_reducible rfl
      refine takeP (i := 20) (v := ?_) rfl hX ?hy ?_
      case hy =>
        intro wS hSw
        clear hSw
        go_simp
        try with_reducible rfl
      refine takeP (i := 21) (v := ?_) rfl hX ?hy ?_
      case hy =>
        intro wS hSw
        clear hSw
        go_simp
        try with_reducible rfl
      refine takeP (i := 22) (v := ?_) rfl hX ?hy ?_
      case hy =>
        intro wS hSw
        clear hSw
        go_simp
        try with_reducible rfl
      refine takeP (i := 23) (v := ?_) rfl hX ?hy ?_
      case hy =>
        intro wS hSw
        clear hSw
        go_simp
        try with_reducible rfl
      refine takeP (i := 24) (v := ?_) rfl hX ?hy ?_
      case hy =>
        intro wS hSw
        clear hSw
        go_simp
        try with_reducible rfl
      refine takeP (i := 25) (v := ?_) rfl hX ?hy ?_
      case hy =>
        intro wS hSw
        obtain ⟨y0, y1, y2⟩ := i3.below hSw
        clear hSw
        go_simp
        try with_reducible rfl
      refine takeP (i := 26) (v := ?_) rfl hX ?hy ?_
      case hy =>
        intro wS hSw
        clear hSw
        go_simp
        try with_reducible rfl
      refine takeP (i := 27) (v := ?_) rfl hX ?hy ?_
      case hy =>
        intro wS hSw
        clear hSw
        go_simp
        try with_reducible rfl
      refine takeP (i := 28) (v := ?_) rfl hX ?hy ?_
      case hy =>
        intro wS hSw
        obtain ⟨y0, y1, y2⟩ := i3.below hSw
        clear hSw
        go_simp
        try with_reducible rfl
      refine takeP (i := 29) (v := ?_) rfl hX ?hy ?_
      case hy =>
        intro wS hSw
        clear hSw
        go_simp
        try with_reducible rfl
      refine takeP (i := 30) (v := ?_) rfl hX ?hy ?_
      case hy =>
        intro wS hSw
        clear hSw
        go_simp
        try with_reducible rfl
      refine takeP (i := 31) (v := ?_) rfl hX ?hy ?_
      case hy =>
        intro wS hSw
        clear hSw
        go_simp
        try with_reducible rfl
      try simp only [List.getElem_toArray, List.getElem_cons_succ, List.getElem_cons_zero, Act.put, List.setIfInBounds_toArray, List.set_cons_zero, List.set_cons_succ]
      refine doneF (by kernel_rfl) ?_ _
      try simp only [List.getElem_toArray, List.getElem_cons_succ, List.getElem_cons_zero, Act.put, List.setIfInBounds_toArray, List.set_cons_zero, List.set_cons_succ]
      obtain ⟨x0, x1, x2, x3, x4⟩ := id kR
      go_wp2
      refine bodyPost_ret (v := .tuple #[.agg #[.slice none 0 0, .int .u64 0, .int .u8 0, .slice none 0 0], .slice none 0 0, .slice none 0 0, .bool false]) (by simp [results, Tryz.results124, go_sem, x0, x1, x2, x3]) rfl ?_
      refine ⟨none, 0, 0, none, 0, 0, none, 0, 0, none, 0, 0, rfl, sl_none _, sl_none _, sl_none _, sl_none _, ?_, none_new _, none_new _, none_new _, none_new _⟩
      iterate 4 refine Below.setCell ?_ (by simp) _
      exact hq
    have i4 : decide ((xy : Int) < 8) = false := decide_eq_false (by omega)
    have er : some (⟨verL (a.take x ++ q.take y), (q.drop y).take z⟩, a.take x ++ q.take y, q.drop yz) = r := by rw [← Hr.out, if_pos ⟨c1, c2, c3⟩]
    subst er
    obtain ⟨hrA, sA0⟩ := cutH sa .i64 (x : Int) x rfl c1
    obtain ⟨hrP, sP0⟩ := cutH sQ .i64 (y : Int) y rfl (by omega)
    obtain ⟨AV, hrV, sV, _⟩ := cutLH sQ .i64 .i64 (y : Int) (yz : Int) y yz rfl rfl hyyz c2
    have Hfl : Hid ([a.take x, q.take y].flatten = a.take x ++ q.take y) := by unfold Hid; simp
    have Hflen : Hid ((a.take x ++ q.take y).length = xy) := by unfold Hid; rw [List.length_append, List.length_take, List.length_take, Hla.out, Hlq.out]; have := Hxy.out; omega
    have Hfb : Hid ((a.take x ++ q.take y).length ≤ 131072) := by unfold Hid; rw [Hflen.out]; have := Hxy.out; omega
    have Hs1 : Hid (yz ≤ nq) := c2
    have Hs2 : Hid (8 ≤ xy) := c3
    generalize a.take x ++ q.take y = F at *
    have hvv : (q.drop y).take (yz - y) = (q.drop y).take z := by rw [← Hyz.out, Nat.add_sub_cancel_left]
    rw [hvv] at sV
    generalize (q.drop y).take z = V at *
    generalize hsv : (verL F).seq.toNat = sv at *
    generalize hkv : (verL F).kind.toNat = kv at *
    have Hsv := Lib.hid hsv
    have Hkv := Lib.hid hkv
    clear hvv hsv hkv c1 c2 c3 Hr
    go_wp2_with fail
    have kR := kR.drew
    have i3 := i3.drew
    have hq := below_drew hq
    have sQ := sQ.drew
    have sA0 := sA0.drew
    have sP0 := sP0.drew
    have sV := sV.drew
    generalize hW : World.drew _ = w2 at *
    refine regionF (fun _ wa wb => Below w2.heap.size w2 wa → Below w2.heap.size w2 wb) (by kernel_rfl) ?_
    rw [hW]
    clear hW
    have hX := Below.refl w2.heap.size w2
    refine takeP (i := 0) (v := ?_) rfl hX ?hy ?_
    case hy =>
      intro wS hSw
      clear hSw
      go_simp
      try with_reducible rfl
    refine takeP (i := 1) (v := ?_) rfl hX ?hy ?_
    case hy =>
      intro wS hSw
      clear hSw
      go_simp
      try with_reducible rfl
    refine takeP (i := 2) (v := ?_) rfl hX ?hy ?_
    case hy =>
      intro wS hSw
      clear hSw
      go_simp
      try with_reducible rfl
    refine takeP (i := 3) (v := ?_) rfl hX ?hy ?_
    case hy =>
      intro wS hSw
      clear hSw
      go_simp
      try with_reducible rfl
    refine takeP (i := 4) (v := ?_) rfl hX ?hy ?_
    case hy =>
      intro wS hSw
      clear hSw
      go_simp
      try with_reducible rfl
    refine takeP (i := 5) (v := ?_) rfl hX ?hy ?_
    case hy =>
      intro wS hSw
      obtain ⟨y0, y1, y2⟩ := i3.below hSw
      clear hSw
      go_simp
      try with_reducible rfl
    refine takeP (i := 6) (v := ?_) rfl hX ?hy ?_
    case hy =>
      intro wS hSw
      clear hSw
      go_simp
      try with_reducible rfl
    refine takeP (i := 7) (v := ?_) rfl hX ?hy ?_
    case hy =>
      intro wS hSw
      clear hSw
      go_simp
      try with_reducible rfl
    refine takeP (i := 8) (v := ?_) rfl hX ?hy ?_
    case hy =>
      intro wS hSw
      clear hSw
      go_simp
      try with_reducible rfl
    refine takeP (i := 9) (v := ?_) rfl hX ?hy ?_
    case hy =>
      intro wS hSw
      clear hSw
      go_simp
      try with_reducible rfl
    refine takeP (i := 10) (v := ?_) rfl hX ?hy ?_
    case hy =>
      intro wS hSw
      clear hSw
      go_simp
      try with_reducible rfl
    refine takeP (i := 11) (v := ?_) rfl hX ?hy ?_
    case hy =>
      intro wS hSw
      clear hSw
      go_simp
      try with_reducible rfl
    refine takeP (i := 12) (v := ?_) rfl hX ?hy ?_
    case hy =>
      intro wS hSw
      clear hSw
      go_simp
      try with_reducible rfl
    refine takeP (i := 13) (v := ?_) rfl hX ?hy ?_
    case hy =>
      intro wS hSw
      obtain ⟨y0, y1, y2⟩ := i3.below hSw
      clear hSw
      go_simp
      try with_reducible rfl
    refine takeP (i := 14) (v := ?_) rfl hX ?hy ?_
    case hy =>
      intro wS hSw
      clear hSw
      go_simp
      try with_reducible rfl
    refine takeP (i := 15) (v := ?_) rfl hX ?hy ?_
    case hy =>
      intro wS hSw
      clear hSw
      go_simp
      try with_reducible rfl
    refine takeP (i := 16) (v := ?_) rfl hX ?hy ?_
    case hy =>
      intro wS hSw
      obtain ⟨y0, y1, y2⟩ := i3.below hSw
      clear hSw
      go_simp
      try with_reducible rfl
    refine takeP (i := 17) (v := ?_) rfl hX ?hy ?_
    case hy =>
      intro wS hSw
      clear hSw
      go_simp
      try with_reducible rfl
    refine takeP (i := 18) (v := ?_) rfl hX ?hy ?_
    case hy =>
      intro wS hSw
      clear hSw
      go_simp
      try with_reducible rfl
    refine takeP (i := 19) (v := ?_) rfl hX ?hy ?_
    case hy =>
      intro wS hSw
      clear hSw
      go_simp
      try with_reducible rfl
    refine takeP (i := 20) (v := ?_) rfl hX ?hy ?_
    case hy =>
      intro wS hSw
      clear hSw
      go_simp
      try with_reducible rfl
    refine takeP (i := 21) (v := ?_) rfl hX ?hy ?_
    case hy =>
      intro wS hSw
      clear hSw
      go_simp
      try with_reducible rfl
    refine takeP (i := 22) (v := ?_) rfl hX ?hy ?_
    case hy =>
      intro wS hSw
      clear hSw
      go_simp
      try with_reducible rfl
    refine takeP (i := 23) (v := ?_) rfl hX ?hy ?_
    case hy =>
      intro wS hSw
      clear hSw
      go_simp
      try with_reducible rfl
    refine takeP (i := 24) (v := ?_) rfl hX ?hy ?_
    case hy =>
      intro wS hSw
      clear hSw
      go_simp
      try with_reducible rfl
    refine takeP (i := 25) (v := ?_) rfl hX ?hy ?_
    case hy =>
      intro wS hSw
      obtain ⟨y0, y1, y2⟩ := i3.below hSw
      clear hSw
      go_simp
      try with_reducible rfl
    refine takeP (i := 26) (v := ?_) rfl hX ?hy ?_
    case hy =>
      intro wS hSw
      clear hSw
      go_simp
      try with_reducible rfl
    refine takeP (i := 27) (v := ?_) rfl hX ?hy ?_
    case hy =>
      intro wS hSw
      clear hSw
      go_simp
      try with_reducible rfl
    refine takeP (i := 28) (v := ?_) rfl hX ?hy ?_
    case hy =>
      intro wS hSw
      obtain ⟨y0, y1, y2⟩ := i3.below hSw
      clear hSw
      go_simp
      try with_reducible rfl
    refine takeP (i := 29) (v := ?_) rfl hX ?hy ?_
    case hy =>
      intro wS hSw
      clear hSw
      go_simp
      try with_reducible rfl
    refine takeP (i := 30) (v := ?_) rfl hX ?hy ?_
    case hy =>
      intro wS hSw
      clear hSw
      go_simp
      try with_reducible rfl
    refine takeP (i := 31) (v := ?_) rfl hX ?hy ?_
    case hy =>
      intro wS hSw
      clear hSw
      go_simp
      try with_reducible rfl
    try simp only [List.getElem_toArray, List.getElem_cons_succ, List.getElem_cons_zero, Act.put, List.setIfInBounds_toArray, List.set_cons_zero, List.set_cons_succ]
    refine doneF (by kernel_rfl) ?_ _
    try simp only [List.getElem_toArray, List.getElem_cons_succ, List.getElem_cons_zero, Act.put, List.setIfInBounds_toArray, List.set_cons_zero, List.set_cons_succ]
    clear hX
    go_wp2_with fail
    have kR := kR.drew
    have i3 := i3.drew
    have hq := below_drew hq
    have sQ := sQ.drew
    have sA := sA0.drew
    have sP := sP0.drew
    have sV := sV.drew
    generalize hW : World.drew w2 = w5 at *
    refine regionF (fun _ wa wb => Below w5.heap.size w5 wa → Below w5.heap.size w5 wb) (by kernel_rfl) ?_
    rw [hW]
    clear hW
    have hX := Below.refl w5.heap.size w5
    refine takeP (i := 0) (v := ?_) rfl hX ?hy ?_
    case hy =>
      intro wS hSw
      clear hSw
      go_simp
      try with_reducible rfl
    refine takeP (i := 1) (v := ?_) rfl hX ?hy ?_
    case hy =>
      intro wS hSw
      clear hSw
      go_simp
      try with_reducible rfl
    refine takeP (i := 2) (v := ?_) rfl hX ?hy ?_
    case hy =>
      intro wS hSw
      clear hSw
      go_simp
      try with_reducible rfl
    refine takeP (i := 3) (v := ?_) rfl hX ?hy ?_
    case hy =>
      intro wS hSw
      obtain ⟨y0, y1, y2⟩ := i3.below hSw
      clear hSw
      go_simp
      try with_reducible rfl
    refine takeP (i := 4) (v := ?_) rfl hX ?hy ?_
    case hy =>
      intro wS hSw
      clear hSw
      go_simp
      try with_reducible rfl
    refine takeP (i := 5) (v := ?_) rfl hX ?hy ?_
    case hy =>
      intro wS hSw
      clear hSw
      go_simp
      try with_reducible rfl
    refine takeP (i := 6) (v := ?_) rfl hX ?hy ?_
    case hy =>
      intro wS hSw
      clear hSw
      go_simp
      try with_reducible rfl
    refine takeP (i := 7) (v := ?_) rfl hX ?hy ?_
    case hy =>
      intro wS hSw
      clear hSw
      go_simp
      try with_reducible rfl
    refine takeP (i := 8) (v := ?_) rfl hX ?hy ?_
    case hy =>
      intro wS hSw
      obtain ⟨y0, y1, y2⟩ := i3.below hSw
      clear hSw
      go_simp
      try with_reducible rfl
    refine takeP (i := 9) (v := ?_) rfl hX ?hy ?_
    case hy =>
      intro wS hSw
      clear hSw
      go_simp
      try with_reducible rfl
    try simp only [List.getElem_toArray, List.getElem_cons_succ, List.getElem_cons_zero, Act.put, List.setIfInBounds_toArray, List.set_cons_zero, List.set_cons_succ]
    refine readyF (rs := [10]) (by kernel_rfl) (by simp) ?_
    refine AllF.cons rfl (fun K hK => ?_) AllF.nil
    go_simp
    refine hK _ _ (fun h => h.alloc h.size _) ?_
    clear hK K
    have hb := (Below.refl w5.heap.size w5).alloc (Nat.le_refl _) (.cells #[.slice Aa x ca, .slice Aq y cq] 29)
    have hlit := Sl.lit w5 29 (0, 0) 2 #[.slice Aa x ca, .slice Aq y cq] _ rfl (by unfold maxLen; omega) rfl
    generalize (w5.alloc (.cells #[.slice Aa x ca, .slice Aq y cq] 29)) = w5_10 at *
    have hX := hX.trans (hb.mono hX.size)
    clear hb
    have hpo := parts_cons (sA.below (by omega) hX) (parts_cons (sP.below (by omega) hX) (parts_nil _))
    refine readyF (rs := [11]) (by kernel_rfl) (by simp) ?_
    refine AllF.cons rfl (fun K hK => ?_) AllF.nil
    go_simp
    refine (ajoin_any w5_10 _ 2 2 _ _ hlit hpo (by omega) (by rw [Hfl.out]; have := Hfb.out; omega)).mono ?_
    rintro e w5_10_11 ⟨Af, nf, cf, rfl, oF, hb⟩
    refine hK _ _ (fun h => h.trans (hb.mono h.size)) ?_
    clear hK K
    rw [Hfl.out] at oF
    have oF := Own.mono oF hX.size
    have hX := hX.trans (hb.mono hX.size)
    clear hb
    refine takeP (i := 12) (v := ?_) rfl hX ?hy ?_
    case hy =>
      intro wS hSw
      clear hSw
      go_simp
      try with_reducible rfl
    try simp only [List.getElem_toArray, List.getElem_cons_succ, List.getElem_cons_zero, Act.put, List.setIfInBounds_toArray, List.set_cons_zero, List.set_cons_succ]
    refine doneF (by kernel_rfl) ?_ _
    try simp only [List.getElem_toArray, List.getElem_cons_succ, List.getElem_cons_zero, Act.put, List.setIfInBounds_toArray, List.set_cons_zero, List.set_cons_succ]
    have hf := OwnB.len' oF
    have hfb : nf ≤ 200000 := by have := Hfb.out; have := Hflen.out; omega
    have hf8 : 8 ≤ nf := by have := Hs2.out; have := Hflen.out; omega
    have oF : OwnB _ (w.heap.size + 1) Af nf cf F := Own.mono oF (by have := kR.lt; omega)
    have i3 := i3.below hX
    have kR := kR.below hX
    have sQ := sQ.below (by omega) hX
    have sV := sV.below (by omega) hX
    have hq := hq.trans (hX.mono hq.size)
    clear hX hlit hpo hf sA sP
    go_wp2_with fail
    have sQ := sQ.drew
    have sV := sV.drew
    have oF : OwnB (World.drew _) _ _ _ _ _ := Own.drew oF
    have i3 := i3.drew
    have kR := kR.drew
    have hq := below_drew hq
    generalize hW : World.drew _ = w3 at *
    refine regionF (fun _ wa wb => Below w3.heap.size w3 wa → Below w3.heap.size w3 wb) (by kernel_rfl) ?_
    rw [hW]
    clear hW
    have hX := Below.refl w3.heap.size w3
    refine takeP (i := 0) (v := ?_) rfl hX ?hy ?_
    case hy =>
      intro wS hSw
      clear hSw
      go_simp
      try with_reducible rfl
    refine takeP (i := 1) (v := ?_) rfl hX ?hy ?_
    case hy =>
      intro wS hSw
      clear hSw
      go_simp
      try with_reducible rfl
    refine takeP (i := 2) (v := ?_) rfl hX ?hy ?_
    case hy =>
      intro wS hSw
      clear hSw
      go_simp
      try with_reducible rfl
    refine takeP (i := 3) (v := ?_) rfl hX ?hy ?_
    case hy =>
      intro wS hSw
      obtain ⟨y0, y1, y2⟩ := i3.below hSw
      clear hSw
      go_simp
      try with_reducible rfl
    refine takeP (i := 4) (v := ?_) rfl hX ?hy ?_
    case hy =>
      intro wS hSw
      clear hSw
      go_simp
      try with_reducible rfl
    refine takeP (i := 5) (v := ?_) rfl hX ?hy ?_
    case hy =>
      intro wS hSw
      clear hSw
      go_simp
      try with_reducible rfl
    refine takeP (i := 6) (v := ?_) rfl hX ?hy ?_
    case hy =>
      intro wS hSw
      obtain ⟨y0, y1, y2⟩ := i3.below hSw
      clear hSw
      go_simp
      try with_reducible rfl
    refine takeP (i := 7) (v := ?_) rfl hX ?hy ?_
    case hy =>
      intro wS hSw
      clear hSw
      go_simp
      try with_reducible rfl
    refine takeP (i := 8) (v := ?_) rfl hX ?hy ?_
    case hy =>
      intro wS hSw
      clear hSw
      go_simp
      try with_reducible rfl
    refine takeP (i := 9) (v := ?_) rfl hX ?hy ?_
    case hy =>
      intro wS hSw
      obtain ⟨y0, y1, y2⟩ := i3.below hSw
      clear hSw
      go_simp
      try with_reducible rfl
    refine takeP (i := 10) (v := ?_) rfl hX ?hy ?_
    case hy =>
      intro wS hSw
      clear hSw
      go_simp
      try with_reducible rfl
    refine takeP (i := 11) (v := ?_) rfl hX ?hy ?_
    case hy =>
      intro wS hSw
      clear hSw
      go_simp
      try with_reducible rfl
    try simp only [List.getElem_toArray, List.getElem_cons_succ, List.getElem_cons_zero, Act.put, List.setIfInBounds_toArray, List.set_cons_zero, List.set_cons_succ]
    refine readyF (rs := [12]) (by kernel_rfl) (by simp) ?_
    refine AllF.cons rfl (fun K hK => ?_) AllF.nil
    go_simp
    refine (clone_any w3 AV (yz - y) (cq - y) _ (sV.below (by omega) hX) (by omega)).mono ?_
    rintro e w3_12 ⟨A6, n6, c6, rfl, o6, hb⟩
    refine hK _ _ (fun h => h.trans (hb.mono h.size)) ?_
    clear hK K
    have hX := hX.trans (hb.mono hX.size)
    clear hb
    refine takeP (i := 13) (v := ?_) rfl hX ?hy ?_
    case hy =>
      intro wS hSw
      clear hSw
      go_simp
      try with_reducible rfl
    try simp only [List.getElem_toArray, List.getElem_cons_succ, List.getElem_cons_zero, Act.put, List.setIfInBounds_toArray, List.set_cons_zero, List.set_cons_succ]
    refine doneF (by kernel_rfl) ?_ _
    try simp only [List.getElem_toArray, List.getElem_cons_succ, List.getElem_cons_zero, Act.put, List.setIfInBounds_toArray, List.set_cons_zero, List.set_cons_succ]
    have o6 : OwnB _ (w.heap.size + 1) A6 n6 c6 _ := Own.mono o6 (by have := kR.lt; have := hX.size; omega)
    have i3 := i3.below hX
    have kR := kR.below hX
    have sQ := sQ.below (by omega) hX
    have oF : OwnB _ _ _ _ _ _ := Own.below oF hX
    have hq := hq.trans (hX.mono hq.size)
    clear hX
    go_wp2_with fail
    have sQ := sQ.drew
    have oF : OwnB (World.drew _) _ _ _ _ _ := Own.drew oF
    have o6 : OwnB (World.drew _) _ _ _ _ _ := Own.drew o6
    have i3 := i3.drew
    have kR := kR.drew
    have hq := below_drew hq
    generalize hW : World.drew _ = w4 at *
    have kR0 : w.heap.size + 1 ≤ w4.heap.size := kR.lt
    have hN6 : ∀ b, blk A6 c6 = some b → w.heap.size + 1 ≤ b := fun b hb => (Own.lt o6 b hb).1
    have hNF : ∀ b, blk Af cf = some b → w.heap.size + 1 ≤ b := fun b hb => (Own.lt oF b hb).1
    obtain ⟨AM, hrM, sM, _⟩ := cutL sQ .i64 (yz : Int) yz rfl Hs1.out
    have HNM : Hid (∀ b, 0 < nq - yz → AM.map (·.block) = some b → w.heap.size + 1 ≤ b) := Lib.hid fun b hn e => by
      have h1 := hrM w4
      have h2 := (cutL_blk (A := Aq) (n := nq) (c := cq) yz Hs1.out hqc.out w4)
      rw [h1] at h2
      injection h2 with e1 _
      injection e1 with e1 _ _
      rw [e1] at e
      have := tail_blk (by omega) e
      exact HNq.out b (by omega) this
    obtain ⟨nM, hnM⟩ : ∃ nM, nq - yz = nM := ⟨_, rfl⟩
    obtain ⟨cM, hcM⟩ : ∃ cM, cq - yz = cM := ⟨_, rfl⟩
    rw [hnM, hcM] at hrM sM
    rw [hnM] at HNM
    clear hnM hcM
    refine regionF (fun _ wa wb => I3 wa bi oi x y z → I3 wb bi oi x y z) (by kernel_rfl) ?_
    rw [hW]
    clear hW
    refine takeP (i := 0) (v := ?_) rfl i3 ?hy ?_
    case hy =>
      intro wS hSw
      clear hSw
      go_simp
      try with_reducible rfl
    refine takeP (i := 2) (v := ?_) rfl i3 ?hy ?_
    case hy =>
      intro wS hSw
      clear hSw
      go_simp
      try with_reducible rfl
    refine takeP (i := 4) (v := ?_) rfl i3 ?hy ?_
    case hy =>
      intro wS hSw
      clear hSw
      go_simp
      try with_reducible rfl
    refine takeP (i := 5) (v := ?_) rfl i3 ?hy ?_
    case hy =>
      intro wS hSw
      clear hSw
      go_simp
      try with_reducible rfl
    refine takeP (i := 6) (v := ?_) rfl i3 ?hy ?_
    case hy =>
      intro wS hSw
      clear hSw
      go_simp
      try with_reducible rfl
    refine takeP (i := 7) (v := ?_) rfl i3 ?hy ?_
    case hy =>
      intro wS hSw
      clear hSw
      go_simp
      try with_reducible rfl
    refine takeP (i := 8) (v := ?_) rfl i3 ?hy ?_
    case hy =>
      intro wS hSw
      obtain ⟨y0, y1, y2⟩ := id hSw
      clear hSw
      go_simp
      try with_reducible rfl
    refine takeP (i := 9) (v := ?_) rfl i3 ?hy ?_
    case hy =>
      intro wS hSw
      clear hSw
      go_simp
      try with_reducible rfl
    refine takeP (i := 10) (v := ?_) rfl i3 ?hy ?_
    case hy =>
      intro wS hSw
      clear hSw
      go_simp
      try with_reducible rfl
    refine takeP (i := 11) (v := ?_) rfl i3 ?hy ?_
    case hy =>
      intro wS hSw
      obtain ⟨y0, y1, y2⟩ := id hSw
      clear hSw
      go_simp
      try with_reducible rfl
    refine takeP (i := 12) (v := ?_) rfl i3 ?hy ?_
    case hy =>
      intro wS hSw
      clear hSw
      go_simp
      try with_reducible rfl
    refine takeP (i := 13) (v := ?_) rfl i3 ?hy ?_
    case hy =>
      intro wS hSw
      clear hSw
      go_simp
      try with_reducible rfl
    try simp only [List.getElem_toArray, List.getElem_cons_succ, List.getElem_cons_zero, Act.put, List.setIfInBounds_toArray, List.set_cons_zero, List.set_cons_succ]
    refine readyF (rs := [1]) (by kernel_rfl) (by simp) ?_
    refine AllF.cons rfl (fun K hK => ?_) AllF.nil
    go_simp
    have hvc := version_any w4 Af nf cf F (OwnB.sl oF) hf8 (by omega)
    rw [Hsv.out, Hkv.out] at hvc
    refine hvc.mono ?_
    clear hvc
    rintro e w4_1 ⟨A7, n7, c7, rfl, o7, hb⟩
    refine hK _ _ (fun h => h.below hb) ?_
    clear hK K
    have i3 := i3.below hb
    have kR := kR.below hb
    have o6 := Own.below o6 hb
    have oF := Own.below oF hb
    have sM := sM.below (by omega) hb
    have hq := hq.trans (hb.mono hq.size)
    clear hb
    have o7 := Own.mono (B' := w.heap.size + 1) o7 (Nat.le_trans (show w.heap.size + 1 ≤ w4.heap.size from kR0) (Nat.le_refl _))
    have hN7 : ∀ b, blk A7 c7 = some b → w.heap.size + 1 ≤ b := fun b hb => (Own.lt o7 b hb).1
    refine takeP (i := 3) (v := ?_) rfl i3 ?hy ?_
    case hy =>
      intro wS hSw
      clear hSw
      go_simp
      try with_reducible rfl
    try simp only [List.getElem_toArray, List.getElem_cons_succ, List.getElem_cons_zero, Act.put, List.setIfInBounds_toArray, List.set_cons_zero, List.set_cons_succ]
    refine readyF (rs := [14]) (by kernel_rfl) (by simp) ?_
    refine AllF.cons rfl (fun K hK => ?_) AllF.nil
    obtain ⟨x0, x1, x2, x3, x4⟩ := id kR
    go_simp
    obtain ⟨k2, hgs⟩ := Bx4.set kR (v0 := .slice A7 n7 c7) (v1 := .int .u64 (sv : Int)) (v2 := .int .u8 (kv : Int)) (v3 := .slice A6 n6 c6)
    refine hK _ _ (fun h => h.grownO hgs (by simp; omega)) ?_
    clear hK K x0 x1 x2 x3 x4
    have i3 := i3.grownO hgs (by simp; omega)
    generalize hWs : ((((w4_1.setCell ⟨w.heap.size, 0, none⟩ (.slice A7 n7 c7)).setCell ⟨w.heap.size, 1, none⟩ (.int .u64 (sv : Int))).setCell ⟨w.heap.size, 2, none⟩ (.int .u8 (kv : Int))).setCell ⟨w.heap.size, 3, none⟩ (.slice A6 n6 c6)) = w4_1_14 at *
    try rw [hWs]
    clear hWs
    have o7 := Own.grown o7 hgs (fun b h1 h2 => by have := hN7 b h1; simp at h2; omega)
    have o6 := Own.grown o6 hgs (fun b h1 h2 => by have := hN6 b h1; simp at h2; omega)
    have oF := Own.grown oF hgs (fun b h1 h2 => by have := hNF b h1; simp at h2; omega)
    have sM := sM.grown (by omega) hgs (fun hn b e q => by have := HNM.out b hn e; simp at q; omega)
    have hq := hq.grown hgs hq.size (fun b hb => by simp at hb; omega)
    refine takeP (i := 15) (v := ?_) rfl i3 ?hy ?_
    case hy =>
      intro wS hSw
      clear hSw
      go_simp
      try with_reducible rfl
    refine takeP (i := 16) (v := ?_) rfl i3 ?hy ?_
    case hy =>
      intro wS hSw
      clear hSw
      go_simp
      try with_reducible rfl
    refine takeP (i := 17) (v := ?_) rfl i3 ?hy ?_
    case hy =>
      intro wS hSw
      clear hSw
      go_simp
      try with_reducible rfl
    try simp only [List.getElem_toArray, List.getElem_cons_succ, List.getElem_cons_zero, Act.put, List.setIfInBounds_toArray, List.set_cons_zero, List.set_cons_succ]
    refine doneF (by kernel_rfl) ?_ _
    try simp only [List.getElem_toArray, List.getElem_cons_succ, List.getElem_cons_zero, Act.put, List.setIfInBounds_toArray, List.set_cons_zero, List.set_cons_succ]
    obtain ⟨x0, x1, x2, x3, x4⟩ := id k2
    go_wp2
    refine bodyPost_ret (v := .tuple #[.agg #[.slice A7 n7 c7, .int .u64 (sv : Int), .int .u8 (kv : Int), .slice A6 n6 c6], .slice Af nf cf, .slice AM nM cM, .bool true]) (by simp [results, Tryz.results124, go_sem, x0, x1, x2, x3]) rfl ?_
    exact ⟨A7, n7, c7, A6, n6, c6, Af, nf, cf, AM, nM, cM, by simp only [Option.getD_some, Option.isSome_some, Hsv.out, Hkv.out], OwnB.sl o7, OwnB.sl o6, OwnB.sl oF, sM, hq, own_new o7 (by omega), own_new o6 (by omega), own_new oF (by omega), fun b hn e => by have := HNM.out b hn e; omega⟩
end Go.Proofs.YtpffieogkfndaaaGreatDoor
