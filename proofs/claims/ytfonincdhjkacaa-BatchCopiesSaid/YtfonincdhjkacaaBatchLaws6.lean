/-
  The walk of BatchCopies: it returns true at every input. (Printed by genbatchlaws6.py.) No condition.
-/
import Derived.Test.YtfonincdhjkacaaBatchLaws2
import Derived.Test.YtfonincdhjkacaaBatchCopyW
import Derived.Test.YtfonincdhjkacaaBatchSize
import Derived.Test.YtfonincdhjkacaaFlip
namespace Go.Proofs.Ytfonincdhjkacaa
open Go.RowKit
set_option maxRecDepth 20000
theorem wrap_size (s n5 n6 s' : Nat) (h : s' = s + (n5 + n6)) (h2 : s' ≤ 2000000) : wrap64 ((s : Int) + wrap64 ((n5 : Int) + (n6 : Int))) = (s' : Int) := by unfold wrap64; omega
set_option maxHeartbeats 16000000 in
theorem batchCopies.walk (w : World) (A : Option Addr) (n c : Nat) (ls : List OpL) (h : SlR w (fun _ => True) A n c ls) :
    Calls Try.prog 8 #[.slice A n c] w fun e w' => e = .returned (.bool true) ∧ Below w.heap.size w w' := by
  have hq0 := Below.refl w.heap.size w
  go_enter Try.func8, Try.ntmps8
  go_wp2_with fail
  refine (awake04 w).mono ?_
  rintro e w_1 ⟨rfl, hb_1⟩
  have h := h.below hb_1
  have hq0 := hq0.trans (hb_1.mono hq0.size)
  clear hb_1
  go_wp2_with fail
  refine (fewops_any w_1 _ A n c ls 70 h (by omega)).mono ?_
  rintro e w_2 ⟨A2, n2, c2, rfl, ho2, hb_2⟩
  have h := h.below hb_2
  have hq0 := hq0.trans (hb_2.mono hq0.size)
  clear hb_2
  have s2 := ho2.sl
  have hfb := few_bounds ls 70
  generalize fewOps ls 70 = fs at *
  clear h
  clear ho2
  have hl2 := s2.lenR
  have hn2 : n2 ≤ 70 := by omega
  have Hz : Hid (∀ o ∈ fs, o.key.length ≤ 10000 ∧ o.value.length ≤ 10000) := fun o ho => by have := hfb.2 o ho; omega
  have Hl : Hid (fs.length = n2 ∧ fs.length ≤ 70) := ⟨hl2, hfb.1⟩
  clear hfb hl2
  go_wp2_with fail
  refine (rcopyops_any _ _ A2 n2 c2 fs s2 (by have := Hl.out; omega) Hz.out).mono ?_
  rintro e w_3 ⟨A3, n3, c3, rfl, ho3, hb_3⟩
  have hq0 := hq0.trans (hb_3.mono hq0.size)
  have s2 := s2.below hb_3
  clear hb_3
  have s3 := ho3.sl
  clear ho3
  have s2' := s2
  have s3' := s3
  have hw3 := hq0
  go_wp2_with fail
  refine (bcopy_any w_3 _ A3 n3 c3 fs s3 (by have := Hl.out; omega) Hz.out).mono ?_
  rintro e w_4 ⟨A4, n4, c4, rfl, ho4, hb_4⟩
  have hq0 := hq0.trans (hb_4.mono hq0.size)
  have s2 := s2.below hb_4
  have s3 := s3.below hb_4
  have hb4 := hb_4
  have hl4 := ho4.lenR
  have hn4 : n4 ≤ 70 := by have := Hl.out; omega
  have hcp4 := ho4.sl.cap
  unfold maxLen at hcp4
  clear hl4 hb_4
  have Hle := Lib.hid (size_le fs Hz.out)
  go_wp2
  go_loopw [5, 21] (fun s i wr => ∃ j : Nat, j ≤ n2 ∧ i = .int .i64 j ∧ s = .int .i64 (sizeOpsL (fs.take j) : Nat) ∧ Below w_4.heap.size w_4 wr) (fun _ i _ => n2 - (intOf i).toNat)
  case atStart => exact ⟨0, Nat.zero_le _, rfl, rfl, Below.refl _ _⟩
  case round =>
    obtain ⟨j, hj, rfl, rfl, hbr⟩ := hrel
    by_cases hlt : j < n2
    · obtain ⟨b, o, A5, n5, c5, A6, n6, c6, hjl, rfl, d0, d1, d2, hs5, hs6⟩ := s2.opAt hlt
      have d0 := stays hbr d0
      have d1 := stays hbr d1
      have d2 := stays hbr d2
      have hst := size_step fs j hjl
      rw [hs5.lenb, hs6.lenb] at hst
      have hle := Hle.out (j + 1)
      generalize fs[j].kind.toNat = d at *
      generalize sizeOpsL (fs.take j) = s at *
      generalize hS : sizeOpsL (fs.take (j + 1)) = s' at *
      have Hst := Lib.hid hst
      have Hle2 := Lib.hid hle
      have HS := Lib.hid hS
      have e1 : wrap64 ((s : Int) + wrap64 ((n5 : Int) + (n6 : Int))) = (s' : Int) := wrap_size _ _ _ _ hst (by omega)
      clear hs5 hs6 hst hle hS s2 s3 ho4
      go_wp2
      go_roundw
      case rel => exact ⟨j + 1, by omega, by go_num, by rw [HS.out]; first | rfl | (rw [e1]) | (congr 1; go_num; have := Hst.out; have := Hle2.out; omega), hbr.alloc hbr.size _⟩
      case measure => simp [intOf]; omega
    · obtain rfl : n2 = j := by omega
      rw [List.take_of_length_le (by have := Hl.out; omega)]
      have s2 := s2.below hbr
      have s3 := s3.below hbr
      have ho4 := ho4.below hbr
      have hq0 := hq0.trans (hbr.mono hq0.size)
      have hb4 := hb4.trans (hbr.mono hb4.size)
      have s4 := ho4.sl
      clear hbr
      go_wp2_with fail
      refine (sameops_is wr _ A4 n4 c4 fs s4 _ A2 n2 c2 s2).mono ?_
      rintro e w5 ⟨rfl, hb5⟩
      have s2 := s2.below hb5
      have s3 := s3.below hb5
      have ho4 := ho4.below hb5
      have hq0 := hq0.trans (hb5.mono hq0.size)
      have hb4 := hb4.trans (hb5.mono hb4.size)
      clear hb5 s4
      have cz := size_any w5 _ A3 n3 c3 fs s3 (by have := Hl.out; omega) Hz.out
      generalize sizeOpsL fs = z at *
      have hzz : ((z : Int) != (z : Int)) = false := by simp
      have hzy : ((z : Int) == (z : Int)) = true := by simp
      have Cz := Lib.hid cz
      clear cz
      go_wp2_with fail
      refine Cz.out.mono ?_
      rintro e w6 ⟨rfl, hb6⟩
      have s2 := s2.below hb6
      have ho4 := ho4.below hb6
      have hq0 := hq0.trans (hb6.mono hq0.size)
      have hb4 := hb4.trans (hb6.mono hb4.size)
      clear hb6 s3 hzz hzy Cz
      obtain ⟨xs, hJ⟩ := FlipJ.of ho4 hb4
      have HJ := Lib.hid hJ
      have H3 := Lib.hid s3'
      have H2 := Lib.hid s2'
      clear hJ ho4 hb4 s2
      go_wp2
      go_loopw [47] (fun i wx => ∃ j : Nat, j ≤ n4 ∧ i = .int .i64 j ∧ Hid (FlipJ 47 5 w_3 wx A4 n4 c4 xs)) (fun i _ => n4 - (intOf i).toNat)
      case atStart => exact ⟨0, Nat.zero_le _, rfl, HJ⟩
      case round =>
        obtain ⟨j, hj, rfl, HJx⟩ := hrel
        by_cases hlt2 : j < n4
        · obtain ⟨b, o, _, A5, n5, c5, A6, n6, c6, rfl, x1, x2, q1, q2, q3, q4⟩ := HJx.out.at_ hlt2
          unfold maxLen at q2 q4
          have X1 := Lib.hid x1
          have X2 := Lib.hid x2
          clear x1 x2
          have e1 := HJx.out.cell X1.out
          have e2 := HJx.out.cell X2.out
          rw [← Nat.add_assoc] at e1 e2
          go_wp2
          go_loopw [56] (fun i wx => ∃ k : Nat, k ≤ n5 ∧ i = .int .i64 k ∧ Hid (FlipJ 47 5 w_3 wx (some ⟨b, o, none⟩) n4 c4 xs)) (fun i _ => n5 - (intOf i).toNat)
          case atStart => exact ⟨0, Nat.zero_le _, rfl, HJx⟩
          case round =>
            obtain ⟨k, hk, rfl, HJy⟩ := hrel
            by_cases hlt3 : k < n5
            · obtain ⟨g, o2, x, rfl, hcl, hfr, hne, hgB⟩ := HJy.out.byte (.inl rfl) hlt2 X1.out hlt3
              have f1 := HJy.out.cell X1.out
              rw [← Nat.add_assoc] at f1
              have hJz := HJy.out.turned (off := o2 + k) hne hgB (UInt8.ofNat (x.toNat ^^^ 1))
              have hv : x.toNat ^^^ 1 < 256 := Nat.xor_lt_two_pow (n := 8) x.toNat_lt (by omega)
              rw [UInt8.toNat_ofNat_of_lt' (by simpa using hv)] at hJz
              have hxor := u8_xor_nat x.toNat 1 x.toNat_lt (by omega)
              have hxor2 : bits .xor .u8 (x.toNat : Int) 1 = ((x.toNat ^^^ 1 : Nat) : Int) := hxor
              have hxl := x.toNat_lt
              generalize x.toNat ^^^ 1 = y at *
              generalize x.toNat = xn at *
              have HJz := Lib.hid hJz
              clear hJz hxor hne hgB
              go_wp2
              go_roundw
              case rel => exact ⟨k + 1, by omega, by go_num, HJz.out⟩
              case measure => simp [intOf]; omega
            · obtain rfl : n5 = k := by omega
              have HJw := HJy
              have f2 := HJw.out.cell X2.out
              rw [← Nat.add_assoc] at f2
              go_wp2
              go_loopw [76] (fun i wx => ∃ k : Nat, k ≤ n6 ∧ i = .int .i64 k ∧ Hid (FlipJ 47 5 w_3 wx (some ⟨b, o, none⟩) n4 c4 xs)) (fun i _ => n6 - (intOf i).toNat)
              case atStart => exact ⟨0, Nat.zero_le _, rfl, HJw⟩
              case round =>
                obtain ⟨k, hk, rfl, HJy⟩ := hrel
                by_cases hlt3 : k < n6
                · obtain ⟨g, o2, x, rfl, hcl, hfr, hne, hgB⟩ := HJy.out.byte (.inr rfl) hlt2 X2.out hlt3
                  have f1 := HJy.out.cell X2.out
                  rw [← Nat.add_assoc] at f1
                  have hJz := HJy.out.turned (off := o2 + k) hne hgB (UInt8.ofNat (x.toNat ^^^ 1))
                  have hv : x.toNat ^^^ 1 < 256 := Nat.xor_lt_two_pow (n := 8) x.toNat_lt (by omega)
                  rw [UInt8.toNat_ofNat_of_lt' (by simpa using hv)] at hJz
                  have hxor := u8_xor_nat x.toNat 1 x.toNat_lt (by omega)
                  have hxor2 : bits .xor .u8 (x.toNat : Int) 1 = ((x.toNat ^^^ 1 : Nat) : Int) := hxor
                  have hxl := x.toNat_lt
                  generalize x.toNat ^^^ 1 = y at *
                  generalize x.toNat = xn at *
                  have HJz := Lib.hid hJz
                  clear hJz hxor hne hgB
                  go_wp2
                  go_roundw
                  case rel => exact ⟨k + 1, by omega, by go_num, HJz.out⟩
                  case measure => simp [intOf]; omega
                · obtain rfl : n6 = k := by omega
                  go_wp2
                  go_roundw
                  case rel => exact ⟨j + 1, by omega, by go_num, HJy.out⟩
                  case measure => simp [intOf]; omega
        · obtain rfl : n4 = j := by omega
          have hbx := HJx.out.below
          have s3 := H3.out.below hbx
          have s2 := H2.out.below hbx
          have hq3 := hw3.trans (hbx.mono hw3.size)
          go_wp2_with fail
          refine (sameops_is _ _ A3 n3 c3 fs s3 _ A2 n2 c2 s2).mono ?_
          rintro e w9 ⟨rfl, hb9⟩
          go_wp2
          go_ret
          exact ⟨rfl, hq3.trans (hb9.mono hq3.size)⟩
end Go.Proofs.Ytfonincdhjkacaa
