/-
  The walk of BatchParts: it returns true at every input. (Printed by genbatchlaws5.py.) No condition.
-/
import Derived.Test.YtfonincdhjkacaaBatchLaws4
import Derived.Test.YtfonincdhjkacaaBatchCopyW
import Derived.Test.YtfonincdhjkacaaBatchSize
import Derived.Test.YtfonincdhjkacaaBatchSamePairs
namespace Go.Proofs.Ytfonincdhjkacaa
open Go.RowKit
set_option maxRecDepth 20000
theorem run_sizeO (w : World) : (sizeOf 47).run Try.prog w = .ok 3 w := by
  obtain ⟨i, hi, _, hs, _⟩ := info_parts infoOp
  simp [sizeOf, typeInfo, hi, hs]
/-- l[:k] of ops -/
theorem cutHO {w : World} {p : Nat → Prop} {A : Option Addr} {n c : Nat} {ls : List OpL} (h : SlR w p A n c ls) (q : IntKind) (i : Int) (k : Nat) (hi : i = k) (hk : k ≤ n) :
    ∀ w' : World, (Instr.slice 24 (.slice A n c) none (some (.int q i)) none).run Try.prog w' = .ok (.slice A k c) w' := by
  have hcap := h.cap
  intro w'
  subst hi
  have := run_slice_h (P := Try.prog) w' 24 A n c Try.underlying24 q k (by omega) (by omega)
  rw [this]
  show ((sizeOf 47).run Try.prog w').andThen _ = _
  rw [run_sizeO]
  simp only [Result.andThen, sliced, Int.toNat_natCast, Nat.sub_zero, Nat.zero_mul]
  rw [addr0]
/-- l[k:] of ops -/
theorem cutLO {w : World} {p : Nat → Prop} {A : Option Addr} {n c : Nat} {ls : List OpL} (h : SlR w p A n c ls) (q : IntKind) (i : Int) (lo : Nat) (ei : i = lo) (h2 : lo ≤ n) :
    ∃ A', (∀ w' : World, (Instr.slice 24 (.slice A n c) (some (.int q i)) none none).run Try.prog w' = .ok (.slice A' (n - lo) (c - lo)) w') ∧ SlR w p A' (n - lo) (c - lo) (ls.drop lo) := by
  have hcap := h.cap
  subst ei
  refine ⟨_, fun w' => ?_, h.drop h2⟩
  have := run_slice_l (P := Try.prog) w' 24 A n c Try.underlying24 q lo (by omega) (by omega)
  rw [this]
  show ((sizeOf 47).run Try.prog w').andThen _ = _
  rw [run_sizeO]
  simp only [Result.andThen, sliced, Int.toNat_natCast]
  rfl
theorem samepairs_is (w : World) (p : Nat → Prop) (A : Option Addr) (n c : Nat) (ls : List PairL) (h : SlR w p A n c ls) (p' : Nat → Prop) (A' : Option Addr) (n' c' : Nat) (h' : SlR w p' A' n' c' ls) :
    Calls Try.prog 43 #[.slice A n c, .slice A' n' c'] w fun e w' => e = .returned (.bool true) ∧ Below w.heap.size w w' := by
  have := rsamepairs_any w p A n c ls h p' A' n' c' ls h'
  simpa using this
set_option maxHeartbeats 8000000 in
theorem batchParts.walk (w : World) (A : Option Addr) (n c : Nat) (ls : List OpL) (h : SlR w (fun _ => True) A n c ls) (a : Nat) (ha : a ≤ 255) (B : Option Addr) (m d : Nat) (ms : List OpL) (hm : SlR w (fun _ => True) B m d ms) :
    Calls Try.prog 9 #[.slice A n c, .int .u8 (a : Int), .slice B m d] w fun e w' => e = .returned (.bool true) ∧ Below w.heap.size w w' := by
  have hq0 := Below.refl w.heap.size w
  go_enter Try.func9, Try.ntmps9
  go_wp2_with fail
  refine (awake04 w).mono ?_
  rintro e w_1 ⟨rfl, hb_1⟩
  have h := h.below hb_1
  have hm := hm.below hb_1
  have hq0 := hq0.trans (hb_1.mono hq0.size)
  clear hb_1
  go_wp2_with fail
  refine (fewops_any w_1 _ A n c ls 40 h (by omega)).mono ?_
  rintro e w_2 ⟨A2, n2, c2, rfl, ho2, hb_2⟩
  have h := h.below hb_2
  have hm := hm.below hb_2
  have hq0 := hq0.trans (hb_2.mono hq0.size)
  clear hb_2
  have s2 := ho2.sl
  have hfb := few_bounds ls 40
  generalize fewOps ls 40 = fs at *
  clear h
  clear ho2
  go_wp2_with fail
  refine (fewops_any w_2 _ B m d ms 20 hm (by omega)).mono ?_
  rintro e w_3 ⟨A3, n3, c3, rfl, ho3, hb_3⟩
  have hm := hm.below hb_3
  have hq0 := hq0.trans (hb_3.mono hq0.size)
  have s2 := s2.below hb_3
  clear hb_3
  have s3 := ho3.sl
  have hgb := few_bounds ms 20
  generalize fewOps ms 20 = gs at *
  clear hm
  clear ho3
  have hl2 := s2.lenR
  have hn2 : n2 ≤ 40 := by omega
  have Hz : Hid (∀ o ∈ fs, o.key.length ≤ 10000 ∧ o.value.length ≤ 10000) := fun o ho => by have := hfb.2 o ho; omega
  have Hgz : Hid (∀ o ∈ gs, o.key.length ≤ 10000 ∧ o.value.length ≤ 10000) := fun o ho => by have := hgb.2 o ho; omega
  have Hl : Hid (fs.length = n2 ∧ fs.length ≤ 40 ∧ gs.length ≤ 20) := ⟨hl2, hfb.1, hgb.1⟩
  obtain ⟨cut, hcut, hcutl⟩ : ∃ cut, a % (n2 + 1) = cut ∧ cut ≤ n2 := ⟨_, rfl, by have := Nat.mod_lt a (show 0 < n2 + 1 by omega); omega⟩
  have ecut : (a : Int) % ((n2 : Int) + 1) = (cut : Int) := by rw [← hcut]; simp
  have hc2 := s2.cap
  unfold maxLen at hc2
  clear hfb hgb hl2 hcut
  go_wp2_with fail
  refine (rapplyall_any _ (fun _ => True) none 0 0 [] (SlR.nilnil _ _) _ A3 n3 c3 gs s3 (by have := Hl.out; simp; omega) Hgz.out).mono ?_
  rintro e w_4 ⟨A5, n5, c5, rfl, s5, hb_4⟩
  have hq0 := hq0.trans (hb_4.mono hq0.size)
  have s2 := s2.below hb_4
  have s3 := s3.below hb_4
  clear hb_4
  clear s3
  have hlb := applyAll_len gs []
  generalize applyAllL [] gs = base at *
  have Hb : Hid (base.length ≤ 20) := by unfold Hid; simp at hlb; have := Hl.out; omega
  clear hlb
  go_wp2_with fail
  refine (bcopy_any _ _ A2 n2 c2 fs s2 (by have := Hl.out; omega) Hz.out).mono ?_
  rintro e w_5 ⟨A6, n6, c6, rfl, ho6, hb_5⟩
  have hq0 := hq0.trans (hb_5.mono hq0.size)
  have s2 := s2.below hb_5
  have s5 := s5.below hb_5
  clear hb_5
  have s6 := ho6.sl
  clear ho6
  go_wp2_with fail
  refine (rapplyall_any _ _ A5 n5 c5 base s5 _ A6 n6 c6 fs s6 (by have := Hl.out; have := Hb.out; omega) Hz.out).mono ?_
  rintro e w_6 ⟨A7, n7, c7, rfl, s7, hb_6⟩
  have hq0 := hq0.trans (hb_6.mono hq0.size)
  have s2 := s2.below hb_6
  have s5 := s5.below hb_6
  have s6 := s6.below hb_6
  clear hb_6
  clear s6
  have r1 := cutHO s2 .i64 (cut : Int) cut rfl hcutl
  obtain ⟨A8, r2, s8⟩ := cutLO s2 .i64 (cut : Int) cut rfl hcutl
  have s4 := s2.take hcutl
  have Hz1 : Hid (∀ o ∈ fs.take cut, o.key.length ≤ 10000 ∧ o.value.length ≤ 10000) := fun o ho => Hz.out o (List.mem_of_mem_take ho)
  have Hz2 : Hid (∀ o ∈ fs.drop cut, o.key.length ≤ 10000 ∧ o.value.length ≤ 10000) := fun o ho => Hz.out o (List.mem_of_mem_drop ho)
  have hcat : fs.take cut ++ fs.drop cut = fs := List.take_append_drop _ _
  have happ := applyAll_append base (fs.take cut) (fs.drop cut)
  rw [hcat] at happ
  have hsz := size_append (fs.take cut) (fs.drop cut)
  rw [hcat] at hsz
  have hlt : (fs.take cut).length ≤ 40 ∧ (fs.drop cut).length ≤ 40 := by rw [List.length_take, List.length_drop]; have := Hl.out; omega
  have hle : ((applyAllL base (fs.take cut)).length ≤ 60) := by have := applyAll_len (fs.take cut) base; have := Hb.out; omega
  have hzz := size_le fs Hz.out fs.length
  rw [List.take_length] at hzz
  generalize fs.take cut = f1 at *
  generalize fs.drop cut = f2 at *
  have cs1 := fun w' (h : SlR w' (fun _ => True) A2 cut c2 f1) => size_any w' _ A2 cut c2 f1 h (by omega) Hz1.out
  have cs2 := fun w' (h : SlR w' (fun _ => True) A8 (n2 - cut) (c2 - cut) f2) => size_any w' _ A8 (n2 - cut) (c2 - cut) f2 h (by omega) Hz2.out
  have cs3 := fun w' (h : SlR w' (fun _ => True) A2 n2 c2 fs) => size_any w' _ A2 n2 c2 fs h (by have := Hl.out; omega) Hz.out
  generalize sizeOpsL f1 = z1 at *
  generalize sizeOpsL f2 = z2 at *
  generalize sizeOpsL fs = z3 at *
  have ez : IntKind.i64.wrap ((z1 : Int) + (z2 : Int)) = (z3 : Int) := by rw [IntKind.wrap_i64]; have := Hl.out; omega
  have ezz : ((z3 : Int) == (z3 : Int)) = true := by simp
  have Happ := Lib.hid happ
  have Hlt := Lib.hid hlt
  have Hle := Lib.hid hle
  have Cs1 := Lib.hid cs1
  have Cs2 := Lib.hid cs2
  have Cs3 := Lib.hid cs3
  clear hcat happ hlt hle cs1 cs2 cs3 hsz hzz
  go_wp2_with fail
  have s2 := s2.below (below_drew (Below.refl _ _))
  have s4 := s4.below (below_drew (Below.refl _ _))
  have s5 := s5.below (below_drew (Below.refl _ _))
  have s7 := s7.below (below_drew (Below.refl _ _))
  have s8 := s8.below (below_drew (Below.refl _ _))
  have hq0 := hq0.drew
  refine regionS 28 (fun _ => True) (by kernel_rfl) ?_
  try (change AnyS _ _ _ _ _ _ _ _ _ (World.drew _))
  generalize w_6.drew = w_9 at *
  refine takeS (i := 0) (v := ?_) rfl (by kernel_rfl) (by kernel_rfl) (by kernel_rfl) (by kernel_rfl) (by kernel_rfl) (fun _ _ _ h => h) (Or.inl ⟨by kernel_rfl, ?_⟩) trivial ?_
  case refine_2 =>
    intro wS hSw
    clear hSw
    go_simp
    try with_reducible rfl
  try simp only [List.getElem_toArray, List.getElem_cons_succ, List.getElem_cons_zero, Act.put, List.setIfInBounds_toArray, List.set_cons_zero, List.set_cons_succ]
  refine takeS (i := 1) (v := ?_) rfl (by kernel_rfl) (by kernel_rfl) (by kernel_rfl) (by kernel_rfl) (by kernel_rfl) (fun _ _ _ h => h) (Or.inl ⟨by kernel_rfl, ?_⟩) trivial ?_
  case refine_2 =>
    intro wS hSw
    clear hSw
    go_simp
    try with_reducible rfl
  try simp only [List.getElem_toArray, List.getElem_cons_succ, List.getElem_cons_zero, Act.put, List.setIfInBounds_toArray, List.set_cons_zero, List.set_cons_succ]
  refine takeS (i := 2) (v := ?_) rfl (by kernel_rfl) (by kernel_rfl) (by kernel_rfl) (by kernel_rfl) (by kernel_rfl) (fun _ _ _ h => h) (Or.inl ⟨by kernel_rfl, ?_⟩) trivial ?_
  case refine_2 =>
    intro wS hSw
    clear hSw
    go_simp
    try with_reducible rfl
  try simp only [List.getElem_toArray, List.getElem_cons_succ, List.getElem_cons_zero, Act.put, List.setIfInBounds_toArray, List.set_cons_zero, List.set_cons_succ]
  refine takeS (i := 3) (v := ?_) rfl (by kernel_rfl) (by kernel_rfl) (by kernel_rfl) (by kernel_rfl) (by kernel_rfl) (fun _ _ _ h => h) (Or.inl ⟨by kernel_rfl, ?_⟩) trivial ?_
  case refine_2 =>
    intro wS hSw
    clear hSw
    go_simp
    try with_reducible rfl
  try simp only [List.getElem_toArray, List.getElem_cons_succ, List.getElem_cons_zero, Act.put, List.setIfInBounds_toArray, List.set_cons_zero, List.set_cons_succ]
  refine takeS (i := 6) (v := ?_) rfl (by kernel_rfl) (by kernel_rfl) (by kernel_rfl) (by kernel_rfl) (by kernel_rfl) (fun _ _ _ h => h) (Or.inl ⟨by kernel_rfl, ?_⟩) trivial ?_
  case refine_2 =>
    intro wS hSw
    clear hSw
    go_simp
    try with_reducible rfl
  try simp only [List.getElem_toArray, List.getElem_cons_succ, List.getElem_cons_zero, Act.put, List.setIfInBounds_toArray, List.set_cons_zero, List.set_cons_succ]
  refine takeS (i := 7) (v := ?_) rfl (by kernel_rfl) (by kernel_rfl) (by kernel_rfl) (by kernel_rfl) (by kernel_rfl) (fun _ _ _ h => h) (Or.inl ⟨by kernel_rfl, ?_⟩) trivial ?_
  case refine_2 =>
    intro wS hSw
    clear hSw
    go_simp
    try with_reducible rfl
  try simp only [List.getElem_toArray, List.getElem_cons_succ, List.getElem_cons_zero, Act.put, List.setIfInBounds_toArray, List.set_cons_zero, List.set_cons_succ]
  refine takeS (i := 8) (v := ?_) rfl (by kernel_rfl) (by kernel_rfl) (by kernel_rfl) (by kernel_rfl) (by kernel_rfl) (fun _ _ _ h => h) (Or.inl ⟨by kernel_rfl, ?_⟩) trivial ?_
  case refine_2 =>
    intro wS hSw
    clear hSw
    go_simp
    try with_reducible rfl
  try simp only [List.getElem_toArray, List.getElem_cons_succ, List.getElem_cons_zero, Act.put, List.setIfInBounds_toArray, List.set_cons_zero, List.set_cons_succ]
  refine takeS (i := 11) (v := ?_) rfl (by kernel_rfl) (by kernel_rfl) (by kernel_rfl) (by kernel_rfl) (by kernel_rfl) (fun _ _ _ h => h) (Or.inl ⟨by kernel_rfl, ?_⟩) trivial ?_
  case refine_2 =>
    intro wS hSw
    clear hSw
    go_simp
    try with_reducible rfl
  try simp only [List.getElem_toArray, List.getElem_cons_succ, List.getElem_cons_zero, Act.put, List.setIfInBounds_toArray, List.set_cons_zero, List.set_cons_succ]
  refine readyS (i := 4) (by kernel_rfl) rfl (fun K hK => ?_)
  go_simp
  refine (bcopy_any _ _ A2 cut c2 f1 s4 (by have := Hlt.out; omega) Hz1.out).mono ?_
  rintro e w_10 ⟨A9, n9, c9, rfl, ho9, hb_10⟩
  refine hK _ _ trivial ?_
  clear hK K
  have hq0 := hq0.trans (hb_10.mono hq0.size)
  have s2 := s2.below hb_10
  have s5 := s5.below hb_10
  have s7 := s7.below hb_10
  have s4 := s4.below hb_10
  have s8 := s8.below hb_10
  clear hb_10
  have s9 := ho9.sl
  clear ho9
  refine readyS (i := 5) (by kernel_rfl) rfl (fun K hK => ?_)
  go_simp
  refine (rapplyall_any _ _ A5 n5 c5 base s5 _ A9 n9 c9 f1 s9 (by have := Hlt.out; have := Hb.out; omega) Hz1.out).mono ?_
  rintro e w_11 ⟨A10, n10, c10, rfl, s10, hb_11⟩
  refine hK _ _ trivial ?_
  clear hK K
  have hq0 := hq0.trans (hb_11.mono hq0.size)
  have s2 := s2.below hb_11
  have s5 := s5.below hb_11
  have s7 := s7.below hb_11
  have s4 := s4.below hb_11
  have s8 := s8.below hb_11
  have s9 := s9.below hb_11
  clear hb_11
  clear s9 s5
  refine readyS (i := 9) (by kernel_rfl) rfl (fun K hK => ?_)
  go_simp
  refine (bcopy_any _ _ A8 (n2 - cut) (c2 - cut) f2 s8 (by have := Hlt.out; omega) Hz2.out).mono ?_
  rintro e w_12 ⟨A11, n11, c11, rfl, ho11, hb_12⟩
  refine hK _ _ trivial ?_
  clear hK K
  have hq0 := hq0.trans (hb_12.mono hq0.size)
  have s2 := s2.below hb_12
  have s7 := s7.below hb_12
  have s4 := s4.below hb_12
  have s8 := s8.below hb_12
  have s10 := s10.below hb_12
  clear hb_12
  have s11 := ho11.sl
  clear ho11
  refine readyS (i := 10) (by kernel_rfl) rfl (fun K hK => ?_)
  go_simp
  refine (rapplyall_any _ _ A10 n10 c10 _ s10 _ A11 n11 c11 f2 s11 (by have := Hlt.out; have := Hle.out; omega) Hz2.out).mono ?_
  rintro e w_13 ⟨A12, n12, c12, rfl, s12, hb_13⟩
  refine hK _ _ trivial ?_
  clear hK K
  have hq0 := hq0.trans (hb_13.mono hq0.size)
  have s2 := s2.below hb_13
  have s7 := s7.below hb_13
  have s4 := s4.below hb_13
  have s8 := s8.below hb_13
  have s10 := s10.below hb_13
  have s11 := s11.below hb_13
  clear hb_13
  clear s10 s11
  rw [← Happ.out] at s12
  refine readyS (i := 12) (by kernel_rfl) rfl (fun K hK => ?_)
  go_simp
  refine (samepairs_is _ _ A12 n12 c12 _ s12 _ A7 n7 c7 s7).mono ?_
  rintro e w_14 ⟨rfl, hb_14⟩
  refine hK _ _ trivial ?_
  clear hK K
  have hq0 := hq0.trans (hb_14.mono hq0.size)
  have s2 := s2.below hb_14
  have s7 := s7.below hb_14
  have s4 := s4.below hb_14
  have s8 := s8.below hb_14
  have s12 := s12.below hb_14
  clear hb_14
  clear s12 s7
  refine takeS (i := 13) (v := ?_) rfl (by kernel_rfl) (by kernel_rfl) (by kernel_rfl) (by kernel_rfl) (by kernel_rfl) (fun _ _ _ h => h) (Or.inl ⟨by kernel_rfl, ?_⟩) trivial ?_
  case refine_2 =>
    intro wS hSw
    clear hSw
    go_simp
    try with_reducible rfl
  try simp only [List.getElem_toArray, List.getElem_cons_succ, List.getElem_cons_zero, Act.put, List.setIfInBounds_toArray, List.set_cons_zero, List.set_cons_succ]
  refine takeS (i := 14) (v := ?_) rfl (by kernel_rfl) (by kernel_rfl) (by kernel_rfl) (by kernel_rfl) (by kernel_rfl) (fun _ _ _ h => h) (Or.inl ⟨by kernel_rfl, ?_⟩) trivial ?_
  case refine_2 =>
    intro wS hSw
    clear hSw
    go_simp
    try with_reducible rfl
  try simp only [List.getElem_toArray, List.getElem_cons_succ, List.getElem_cons_zero, Act.put, List.setIfInBounds_toArray, List.set_cons_zero, List.set_cons_succ]
  refine takeS (i := 15) (v := ?_) rfl (by kernel_rfl) (by kernel_rfl) (by kernel_rfl) (by kernel_rfl) (by kernel_rfl) (fun _ _ _ h => h) (Or.inl ⟨by kernel_rfl, ?_⟩) trivial ?_
  case refine_2 =>
    intro wS hSw
    clear hSw
    go_simp
    try with_reducible rfl
  try simp only [List.getElem_toArray, List.getElem_cons_succ, List.getElem_cons_zero, Act.put, List.setIfInBounds_toArray, List.set_cons_zero, List.set_cons_succ]
  refine takeS (i := 16) (v := ?_) rfl (by kernel_rfl) (by kernel_rfl) (by kernel_rfl) (by kernel_rfl) (by kernel_rfl) (fun _ _ _ h => h) (Or.inl ⟨by kernel_rfl, ?_⟩) trivial ?_
  case refine_2 =>
    intro wS hSw
    clear hSw
    go_simp
    try with_reducible rfl
  try simp only [List.getElem_toArray, List.getElem_cons_succ, List.getElem_cons_zero, Act.put, List.setIfInBounds_toArray, List.set_cons_zero, List.set_cons_succ]
  refine takeS (i := 18) (v := ?_) rfl (by kernel_rfl) (by kernel_rfl) (by kernel_rfl) (by kernel_rfl) (by kernel_rfl) (fun _ _ _ h => h) (Or.inl ⟨by kernel_rfl, ?_⟩) trivial ?_
  case refine_2 =>
    intro wS hSw
    clear hSw
    go_simp
    try with_reducible rfl
  try simp only [List.getElem_toArray, List.getElem_cons_succ, List.getElem_cons_zero, Act.put, List.setIfInBounds_toArray, List.set_cons_zero, List.set_cons_succ]
  refine takeS (i := 19) (v := ?_) rfl (by kernel_rfl) (by kernel_rfl) (by kernel_rfl) (by kernel_rfl) (by kernel_rfl) (fun _ _ _ h => h) (Or.inl ⟨by kernel_rfl, ?_⟩) trivial ?_
  case refine_2 =>
    intro wS hSw
    clear hSw
    go_simp
    try with_reducible rfl
  try simp only [List.getElem_toArray, List.getElem_cons_succ, List.getElem_cons_zero, Act.put, List.setIfInBounds_toArray, List.set_cons_zero, List.set_cons_succ]
  refine takeS (i := 20) (v := ?_) rfl (by kernel_rfl) (by kernel_rfl) (by kernel_rfl) (by kernel_rfl) (by kernel_rfl) (fun _ _ _ h => h) (Or.inl ⟨by kernel_rfl, ?_⟩) trivial ?_
  case refine_2 =>
    intro wS hSw
    clear hSw
    go_simp
    try with_reducible rfl
  try simp only [List.getElem_toArray, List.getElem_cons_succ, List.getElem_cons_zero, Act.put, List.setIfInBounds_toArray, List.set_cons_zero, List.set_cons_succ]
  refine takeS (i := 23) (v := ?_) rfl (by kernel_rfl) (by kernel_rfl) (by kernel_rfl) (by kernel_rfl) (by kernel_rfl) (fun _ _ _ h => h) (Or.inl ⟨by kernel_rfl, ?_⟩) trivial ?_
  case refine_2 =>
    intro wS hSw
    clear hSw
    go_simp
    try with_reducible rfl
  try simp only [List.getElem_toArray, List.getElem_cons_succ, List.getElem_cons_zero, Act.put, List.setIfInBounds_toArray, List.set_cons_zero, List.set_cons_succ]
  refine readyS (i := 17) (by kernel_rfl) rfl (fun K hK => ?_)
  go_simp
  refine (Cs1.out _ s4).mono ?_
  rintro e w_15 ⟨rfl, hb_15⟩
  refine hK _ _ trivial ?_
  clear hK K
  have hq0 := hq0.trans (hb_15.mono hq0.size)
  have s2 := s2.below hb_15
  have s4 := s4.below hb_15
  have s8 := s8.below hb_15
  clear hb_15
  refine readyS (i := 21) (by kernel_rfl) rfl (fun K hK => ?_)
  go_simp
  refine (Cs2.out _ s8).mono ?_
  rintro e w_16 ⟨rfl, hb_16⟩
  refine hK _ _ trivial ?_
  clear hK K
  have hq0 := hq0.trans (hb_16.mono hq0.size)
  have s2 := s2.below hb_16
  have s4 := s4.below hb_16
  have s8 := s8.below hb_16
  clear hb_16
  refine takeS (i := 22) (v := ?_) rfl (by kernel_rfl) (by kernel_rfl) (by kernel_rfl) (by kernel_rfl) (by kernel_rfl) (fun _ _ _ h => h) (Or.inl ⟨by kernel_rfl, ?_⟩) trivial ?_
  case refine_2 =>
    intro wS hSw
    clear hSw
    go_simp
    try with_reducible rfl
  try simp only [List.getElem_toArray, List.getElem_cons_succ, List.getElem_cons_zero, Act.put, List.setIfInBounds_toArray, List.set_cons_zero, List.set_cons_succ]
  refine readyS (i := 24) (by kernel_rfl) rfl (fun K hK => ?_)
  go_simp
  refine (Cs3.out _ s2).mono ?_
  rintro e w_17 ⟨rfl, hb_17⟩
  refine hK _ _ trivial ?_
  clear hK K
  have hq0 := hq0.trans (hb_17.mono hq0.size)
  have s2 := s2.below hb_17
  have s4 := s4.below hb_17
  have s8 := s8.below hb_17
  clear hb_17
  refine takeS (i := 25) (v := ?_) rfl (by kernel_rfl) (by kernel_rfl) (by kernel_rfl) (by kernel_rfl) (by kernel_rfl) (fun _ _ _ h => h) (Or.inl ⟨by kernel_rfl, ?_⟩) trivial ?_
  case refine_2 =>
    intro wS hSw
    clear hSw
    go_simp
    try with_reducible rfl
  try simp only [List.getElem_toArray, List.getElem_cons_succ, List.getElem_cons_zero, Act.put, List.setIfInBounds_toArray, List.set_cons_zero, List.set_cons_succ]
  refine takeS (i := 26) (v := ?_) rfl (by kernel_rfl) (by kernel_rfl) (by kernel_rfl) (by kernel_rfl) (by kernel_rfl) (fun _ _ _ h => h) (Or.inl ⟨by kernel_rfl, ?_⟩) trivial ?_
  case refine_2 =>
    intro wS hSw
    clear hSw
    go_simp
    try with_reducible rfl
  try simp only [List.getElem_toArray, List.getElem_cons_succ, List.getElem_cons_zero, Act.put, List.setIfInBounds_toArray, List.set_cons_zero, List.set_cons_succ]
  refine takeS (i := 27) (v := ?_) rfl (by kernel_rfl) (by kernel_rfl) (by kernel_rfl) (by kernel_rfl) (by kernel_rfl) (fun _ _ _ h => h) (Or.inl ⟨by kernel_rfl, ?_⟩) trivial ?_
  case refine_2 =>
    intro wS hSw
    clear hSw
    go_simp
    try with_reducible rfl
  try simp only [List.getElem_toArray, List.getElem_cons_succ, List.getElem_cons_zero, Act.put, List.setIfInBounds_toArray, List.set_cons_zero, List.set_cons_succ]
  refine doneS (by kernel_rfl) ?_ _
  try simp only [List.getElem_toArray, List.getElem_cons_succ, List.getElem_cons_zero, Act.put, List.setIfInBounds_toArray, List.set_cons_zero, List.set_cons_succ]
  go_wp2
  go_ret
  exact ⟨rfl, hq0⟩
end Go.Proofs.Ytfonincdhjkacaa
