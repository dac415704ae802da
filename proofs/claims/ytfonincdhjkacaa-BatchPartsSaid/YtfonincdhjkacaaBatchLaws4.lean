/-
  The walk of BatchOver: it returns true at every input. (Printed by genbatchlaws4.py.) No condition.
-/
import Derived.Test.YtfonincdhjkacaaBatchLaws2
import Derived.Test.YtfonincdhjkacaaBatchApplyAll
namespace Go.Proofs.Ytfonincdhjkacaa
open Go.RowKit
set_option maxRecDepth 20000
theorem any_step (fs : List OpL) (key : List UInt8) (j : Nat) (hj : j < fs.length) : (fs.take (j + 1)).any (coversL · key) = ((fs.take j).any (coversL · key) || coversL fs[j] key) := by
  rw [List.take_succ_eq_append_getElem hj, List.any_append]
  simp
theorem get_fin (fs : List OpL) (key : List UInt8) : getL (applyAllL [] fs) key = if (overL fs key).isSome = true ∧ ((overL fs key).getD noOp).kind.toNat = 2 then some ((overL fs key).getD noOp).value else none := by
  rw [get_over]
  cases overL fs key with
  | none => rfl
  | some o => simp
set_option maxHeartbeats 8000000 in
theorem batchOver.walk (w : World) (A : Option Addr) (n c : Nat) (ls : List OpL) (h : SlR w (fun _ => True) A n c ls) (B : Option Addr) (m d : Nat) (key : List UInt8) (hk : Sl w 1 B m d (bc key)) :
    Calls Try.prog 6 #[.slice A n c, .slice B m d] w fun e w' => e = .returned (.bool true) ∧ Below w.heap.size w w' := by
  have hq0 := Below.refl w.heap.size w
  go_enter Try.func6, Try.ntmps6
  go_wp2_with fail
  refine (awake04 w).mono ?_
  rintro e w_1 ⟨rfl, hb_1⟩
  have h := h.below hb_1
  have hk := hk.below (by omega) hb_1
  have hq0 := hq0.trans (hb_1.mono hq0.size)
  clear hb_1
  go_wp2_with fail
  refine (fewops_any w_1 _ A n c ls 70 h (by omega)).mono ?_
  rintro e w_2 ⟨A2, n2, c2, rfl, ho2, hb_2⟩
  have h := h.below hb_2
  have hk := hk.below (by omega) hb_2
  have hq0 := hq0.trans (hb_2.mono hq0.size)
  clear hb_2
  have s2 := ho2.sl
  have hfb := few_bounds ls 70
  generalize fewOps ls 70 = fs at *
  clear h
  clear ho2
  go_wp2_with fail
  refine (cut_any w_2 B m d key 80 hk (by omega)).mono ?_
  rintro e w_3 ⟨A3, n3, c3, rfl, ho3, hb_3⟩
  have hk := hk.below (by omega) hb_3
  have hq0 := hq0.trans (hb_3.mono hq0.size)
  have s2 := s2.below hb_3
  clear hb_3
  have s3 := ho3.sl
  generalize key.take 80 = kk at *
  clear ho3
  clear hk
  have hl2 := s2.lenR
  have hn2 : n2 ≤ 70 := by omega
  have Hz : Hid (∀ o ∈ fs, o.key.length ≤ 10000 ∧ o.value.length ≤ 10000) := fun o ho => by have := hfb.2 o ho; omega
  have Hl : Hid (fs.length = n2 ∧ fs.length ≤ 70) := ⟨hl2, hfb.1⟩
  clear hfb hl2
  have cq := fun w' (h : SlR w' (fun _ => True) A2 n2 c2 fs) => rcheckops_any w' _ A2 n2 c2 fs h
  generalize checkOpsL fs = q at *
  have Cq := Lib.hid cq
  clear cq
  go_wp2_with fail
  refine (Cq.out _ s2).mono ?_
  rintro e w_4 ⟨rfl, hb_4⟩
  have hq0 := hq0.trans (hb_4.mono hq0.size)
  have s2 := s2.below hb_4
  have s3 := s3.below (by omega) hb_4
  clear hb_4
  by_cases hq : q = 0
  case neg =>
    have hq1 : ((q : Int) == 0) = false := by rw [beq_eq_false_iff_ne]; omega
    have hq2 : ((q : Int) != 0) = true := by rw [bne_iff_ne]; omega
    clear hq
    go_wp2
    go_ret
    exact ⟨rfl, hq0⟩
  subst hq
  go_wp2_with fail
  refine (rcopyops_any w_4 _ A2 n2 c2 fs s2 (by have := Hl.out; omega) Hz.out).mono ?_
  rintro e w_5 ⟨A4, n4, c4, rfl, ho4, hb_5⟩
  have s2 := s2.below hb_5
  have s3 := s3.below (by omega) hb_5
  have hq0 := hq0.trans (hb_5.mono hq0.size)
  clear hb_5
  have s4 := ho4.sl
  clear ho4
  have co := over_any w_5 _ A4 n4 c4 fs s4 Hz.out A3 n3 c3 kk s3
  have hg := get_fin fs kk
  have hsome := over_some fs kk
  unfold GotOver at co
  obtain ⟨ob, hob⟩ : ∃ ob, (overL fs kk).isSome = ob := ⟨_, rfl⟩
  obtain ⟨x, hx⟩ : ∃ x, (overL fs kk).getD noOp = x := ⟨_, rfl⟩
  rw [hob, hx] at co hg
  rw [hob] at hsome
  generalize hxk : x.kind.toNat = xk at *
  generalize hxv : x.value = xv at *
  have Co := Lib.hid co
  have Hg := Lib.hid hg
  have Hs := Lib.hid hsome
  clear co hg hsome hob hx hxk hxv
  go_wp2_with fail
  refine (Co.out).mono ?_
  rintro e w_6 ⟨A5, n5, c5, A6, n6, c6, rfl, s5, s6, hb_6⟩
  have s2 := s2.below hb_6
  have s3 := s3.below (by omega) hb_6
  have hq0 := hq0.trans (hb_6.mono hq0.size)
  have s4 := s4.below hb_6
  clear hb_6
  clear s4
  clear s5
  have kB := Bx.fresh w_6 (.int .u8 (xk : Int)) (.slice A5 n5 c5) (.slice A6 n6 c6) 47
  have al := (Below.refl w_6.heap.size w_6).alloc (Nat.le_refl _) (.cells #[.int .u8 (xk : Int), .slice A5 n5 c5, .slice A6 n6 c6] 47)
  have s2 := s2.below al
  have s3 := s3.below (by omega) al
  have hq0 := hq0.trans (al.mono hq0.size)
  have s6 := s6.below (by omega) al
  clear al
  go_wp2_with fail
  generalize (w_6.alloc (.cells #[.int .u8 (xk : Int), .slice A5 n5 c5, .slice A6 n6 c6] 47)) = w_7 at *
  generalize w_6.heap.size = gB at *
  refine (rapplyall_any w_7 (fun _ => True) none 0 0 [] (SlR.nilnil _ _) _ A2 n2 c2 fs s2 (by have := Hl.out; simp; omega) Hz.out).mono ?_
  rintro e w_8 ⟨A7, n7, c7, rfl, s7, hb8⟩
  have s2 := s2.below hb8
  have s3 := s3.below (by omega) hb8
  have hq0 := hq0.trans (hb8.mono hq0.size)
  have s6 := s6.below (by omega) hb8
  have kB := kB.below hb8
  clear hb8
  have cg := rget_any w_8 _ A7 n7 c7 _ s7 (fun x hx => by
    rcases mem_applyAll x fs [] hx with h1 | ⟨o, ho, rfl⟩
    · simp at h1
    · exact (Hz.out o ho).2) A3 n3 c3 kk s3
  unfold GotGet at cg
  rw [Hg.out] at cg
  obtain ⟨b2, hb2⟩ : ∃ b, decide (xk = 2) = b := ⟨_, rfl⟩
  have i2 : ((xk : Int) == 2) = b2 := by rw [← hb2, Bool.eq_iff_iff]; simp; omega
  obtain ⟨has, hhas⟩ : ∃ has, (ob && b2) = has := ⟨_, rfl⟩
  have er : (if ob = true ∧ xk = 2 then some xv else none) = if has then some xv else none := by rw [← hhas, ← hb2]; simp
  rw [er] at cg
  have Cg := Lib.hid cg
  have Hhas := Lib.hid hhas
  clear cg er hb2 hhas s7
  go_wp2_with fail
  refine (Cg.out).mono ?_
  rintro e w_7 ⟨A9, n9, c9, rfl, s9, hb_7⟩
  have s2 := s2.below hb_7
  have s3 := s3.below (by omega) hb_7
  have hq0 := hq0.trans (hb_7.mono hq0.size)
  have s6 := s6.below (by omega) hb_7
  have kB := kB.below hb_7
  clear hb_7
  have eh : (if has then some xv else none : Option (List UInt8)).isSome = has := by cases has <;> rfl
  rw [eh]
  clear eh
  go_wp2
  go_loopw [9, 37] (fun s i wr => ∃ j : Nat, j ≤ n2 ∧ i = .int .i64 j ∧ Below w_7.heap.size w_7 wr ∧ s = .bool ((fs.take j).any (coversL · kk))) (fun _ i _ => n2 - (intOf i).toNat)
  case atStart => exact ⟨0, Nat.zero_le _, rfl, Below.refl _ _, rfl⟩
  case round =>
    obtain ⟨j, hj, rfl, hbr, rfl⟩ := hrel
    by_cases hlt : j < n2
    · obtain ⟨b, o, A5, n5, c5, A6, n6, c6, hjl, rfl, d0, d1, d2, hs5, hs6⟩ := s2.opAt hlt
      have d0 := stays hbr d0
      have d1 := stays hbr d1
      have d2 := stays hbr d2
      have hst := any_step fs kk j hjl
      have cv := fun (w' : World) (hb : Below w_7.heap.size w_7 w') => rcovers_any w' A5 n5 c5 A6 n6 c6 fs[j] (hs5.below (by omega) hb) (hs6.below (by omega) hb) A3 n3 c3 kk (s3.below (by omega) hb)
      generalize coversL fs[j] kk = v at *
      generalize fs[j].kind.toNat = k at *
      generalize (fs.take j).any (coversL · kk) = so at *
      have Hst := Lib.hid hst
      have Cv := Lib.hid cv
      clear hst cv hs5 hs6 hjl s3 s6 s9
      have al := (Below.refl wr.heap.size wr).alloc (Nat.le_refl _) (.cells #[.int .u8 (k : Int), .slice A5 n5 c5, .slice A6 n6 c6] 47)
      have kP := Bx.fresh wr (.int .u8 (k : Int)) (.slice A5 n5 c5) (.slice A6 n6 c6) 47
      have hbr := hbr.trans (al.mono hbr.size)
      obtain ⟨p0, p1, p2, p3⟩ := id kP
      cases so
      · go_wp2_with fail
        refine (Cv.out _ hbr).mono ?_
        rintro e w5 ⟨rfl, hb5⟩
        have hbr := hbr.trans (hb5.mono hbr.size)
        go_wp2
        go_roundw
        case rel => exact ⟨j + 1, by omega, by go_num, hbr, by rw [Hst.out]; rfl⟩
        case measure => simp [intOf]; omega
      · go_wp2
        go_roundw
        case rel => exact ⟨j + 1, by omega, by go_num, hbr, by rw [Hst.out]; rfl⟩
        case measure => simp [intOf]; omega
    · obtain rfl : n2 = j := by omega
      rw [List.take_of_length_le (by have := Hl.out; omega), ← Hs.out]
      have kB := kB.below hbr
      have s6 := s6.below (by omega) hbr
      have s9 := s9.below (by omega) hbr
      have hq0 := hq0.trans (hbr.mono hq0.size)
      obtain ⟨x0, x1, x2, x3⟩ := kB
      have hh := Hhas.out
      cases ob
      · obtain rfl : false = has := hh
        go_wp2
        go_ret
        exact ⟨rfl, hq0⟩
      · cases b2
        · obtain rfl : false = has := hh
          go_wp2
          go_ret
          exact ⟨rfl, hq0⟩
        · obtain rfl : true = has := hh
          have hsame : Hid ((xv == xv) = true) := by unfold Hid; simp
          go_wp2_with fail
          refine (same_is wr A6 n6 c6 xv A9 n9 c9 xv true hsame s6 s9).mono ?_
          rintro e w' ⟨rfl, rfl⟩
          go_wp2
          go_ret
          exact ⟨rfl, hq0⟩
end Go.Proofs.Ytfonincdhjkacaa
