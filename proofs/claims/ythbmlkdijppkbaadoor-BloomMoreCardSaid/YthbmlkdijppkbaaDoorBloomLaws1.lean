/-
  The walks of BloomBuilds, BloomHas and BloomAny: each returns true at every input. The table lies in its variable.
-/
import Derived.Test.YthbmlkdijppkbaaDoorBloomAwake
import Derived.Test.YthbmlkdijppkbaaDoorSame6
namespace Go.Proofs.YthbmlkdijppkbaaDoor
open Go.RowKit

theorem few_few (ls : List (List UInt8)) (k long : Nat) : fewL (fewL ls k long) k long = fewL ls k long := by
  unfold fewL
  rw [← List.map_take, List.take_take, Nat.min_self, List.map_map]
  congr 1
  funext l
  simp [List.take_take]
theorem NewP.len {w : World} {B : Nat} {X : Option Nat} {A : Option Addr} {n c : Nat} {vs : List Value} {ls : List (List UInt8)} (h : OwnP w B A n c vs) (hp : OwnParts w B X vs ls) : n = ls.length := by
  have h1 := h.len
  have h2 := hp.1
  omega
set_option maxHeartbeats 2000000 in
theorem bloomBuilds.walk (w : World) (bt : Int) (_b1 : -9223372036854775808 ≤ bt) (_b2 : bt ≤ 9223372036854775807) (A : Option Addr) (n c : Nat) (vs : List Value) (ls : List (List UInt8)) (h : Sl w 1 A n c vs) (hp : PartsOf w vs ls) (hq : Quarter w) :
    Calls Tryd.prog 10 #[.int .i64 bt, .slice A n c] w fun e w' => e = .returned (.bool true) ∧ Below w.heap.size w w' := by
  go_enter Tryd.func10, Tryd.ntmps10
  go_wp2_with fail
  refine (awake11 w hq).mono ?_
  rintro e w0 ⟨rfl, hb0⟩
  go_wp2_with fail
  refine (few_any w0 A n c vs ls 40 60 (h.below (by omega) hb0) (hp.below hb0) (by omega) (by omega)).mono ?_
  rintro e w1 ⟨A1, n1, c1, vs1, rfl, ho1, hp1, hb1⟩
  have hff := few_few ls 40 60
  have hlong : ∀ key ∈ fewL ls 40 60, key.length ≤ 4398046511104 := fun key hk => by have := fewL_mem hk; omega
  have hfl := fewL_length ls 40 60
  have hn1 := NewP.len ho1 hp1
  have hl40 : (fewL ls 40 60).length ≤ 40 := by omega
  have Hff := Lib.hid hff
  have Hlong := Lib.hid hlong
  clear hff hlong hfl h hp
  generalize fewL ls 40 60 = ks at *
  have hn40 : n1 ≤ 40 := by omega
  clear hn1
  have hbw1 := hb0.trans (hb1.mono hb0.size)
  go_wp2_with fail
  refine (few_any w1 A1 n1 c1 vs1 ks 40 60 (Own.sl ho1) hp1.parts (by omega) (by omega)).mono ?_
  rw [Hff.out]
  rintro e w2 ⟨A2, n2, c2, vs2, rfl, ho2, hp2, hb2⟩
  have hn2 := NewP.len ho2 hp2
  have hn42 : n2 ≤ 40 := by omega
  clear hn2
  have hbw2 := hbw1.trans (hb2.mono hbw1.size)
  go_wp2_with fail
  refine (build_any w2 bt A2 n2 c2 vs2 ks (Own.sl ho2) hp2.parts (hq.below hbw2) (by omega)).mono ?_
  generalize hf : buildL bt ks = f
  have Hf := Lib.hid hf
  clear hf
  rintro e w3 ⟨A3, n3, c3, rfl, ho3, hb3⟩
  have hb13 := hb2.trans (hb3.mono hb2.size)
  have hbw3 := hbw1.trans (hb13.mono hbw1.size)
  go_wp2_with fail
  refine (rbuild_any w3 bt A1 n1 c1 vs1 ks ((Own.sl ho1).below (by omega) hb13) (hp1.parts.below hb13) Hlong.out (by omega)).mono ?_
  rw [Hf.out]
  rintro e w4 ⟨A4, n4, c4, rfl, ho4, hb4⟩
  have hb14 := hb13.trans (hb4.mono hb13.size)
  have hb24 := hb3.trans (hb4.mono hb3.size)
  have hbw4 := hbw1.trans (hb14.mono hbw1.size)
  go_wp2_with fail
  refine (same_is w4 A3 n3 c3 f A4 n4 c4 f true (by unfold Hid; simp) ((OwnB.sl ho3).below (by omega) hb4) (OwnB.sl ho4)).mono ?_
  rintro e w' ⟨rfl, rfl⟩
  go_wp2_with fail
  refine (probes_any _ _).mono ?_
  rintro e w' ⟨rfl, rfl⟩
  go_wp2_with fail
  refine (rprobes_any _ _).mono ?_
  rintro e w' ⟨rfl, rfl⟩
  go_wp2_with fail
  refine (same6_any w4 A2 n2 c2 vs2 ks ((Own.sl ho2).below (by omega) hb24) (hp2.parts.below hb24) A1 n1 c1 vs1 ks ((Own.sl ho1).below (by omega) hb14) (hp1.parts.below hb14)).mono ?_
  rw [show (ks == ks) = true from beq_self_eq_true ks]
  rintro e w5 ⟨rfl, hb5⟩
  go_wp2
  go_ret
  exact ⟨rfl, hbw4.trans (hb5.mono hbw4.size)⟩
theorem buildL_le (bt : Int) (ks : List (List UInt8)) (h : ks.length ≤ 40) : (buildL bt ks).length ≤ 12502 := by
  rw [buildL_length]
  have := sizeN_le bt ks.length (by omega)
  omega
set_option maxHeartbeats 2000000 in
theorem bloomHas.walk (w : World) (bt : Int) (_b1 : -9223372036854775808 ≤ bt) (_b2 : bt ≤ 9223372036854775807) (A : Option Addr) (n c : Nat) (vs : List Value) (ls : List (List UInt8)) (h : Sl w 1 A n c vs) (hp : PartsOf w vs ls)
    (Ao : Option Addr) (no co : Nat) (other : List UInt8) (ho : Sl w 1 Ao no co (bc other)) (hq : Quarter w) :
    Calls Tryd.prog 11 #[.int .i64 bt, .slice A n c, .slice Ao no co] w fun e w' => e = .returned (.bool true) ∧ Below w.heap.size w w' := by
  go_enter Tryd.func11, Tryd.ntmps11
  go_wp2_with fail
  refine (awake11 w hq).mono ?_
  rintro e w0 ⟨rfl, hb0⟩
  go_wp2_with fail
  refine (few_any w0 A n c vs ls 40 60 (h.below (by omega) hb0) (hp.below hb0) (by omega) (by omega)).mono ?_
  rintro e w1 ⟨A1, n1, c1, vs1, rfl, ho1, hp1, hb1⟩
  have hfl := fewL_length ls 40 60
  have hn1 := NewP.len ho1 hp1
  have hl40 : (fewL ls 40 60).length ≤ 40 := by omega
  clear hfl h hp
  generalize fewL ls 40 60 = ks at *
  have hn40 : n1 ≤ 40 := by omega
  have Hn1 : Hid (n1 = ks.length) := hn1
  clear hn1
  have hbw1 := hb0.trans (hb1.mono hb0.size)
  go_wp2_with fail
  refine (cut_any w1 Ao no co other 60 (ho.below (by omega) hbw1) (by omega)).mono ?_
  have ht : (other.take 60).length ≤ 60 := by simp; omega
  generalize other.take 60 = t at *
  rintro e w2 ⟨A2, n2, c2, rfl, ho2, hb2⟩
  have hn2 := ho2.len'
  have hn60 : n2 ≤ 60 := by omega
  clear hn2 ho
  have hbw2 := hbw1.trans (hb2.mono hbw1.size)
  go_wp2_with fail
  refine (build_any w2 bt A1 n1 c1 vs1 ks ((Own.sl ho1).below (by omega) hb2) (hp1.parts.below hb2) (hq.below hbw2) (by omega)).mono ?_
  have hfl := buildL_le bt ks hl40
  have hbt := fun k hk => has_built bt ks k hk
  have Hbt := Lib.hid hbt
  clear hbt
  generalize buildL bt ks = f at *
  rintro e w3 ⟨A3, n3, c3, rfl, ho3, hb3⟩
  have hn3 := ho3.len'
  have hn3l : n3 ≤ 12502 := by omega
  clear hn3
  have hb13 := hb2.trans (hb3.mono hb2.size)
  have hbw3 := hbw1.trans (hb13.mono hbw1.size)
  have h1 := (Own.sl ho1).below (by omega) hb13
  have p1 := hp1.parts.below hb13
  have hs3 := OwnB.sl ho3
  have hs2 := (OwnB.sl ho2).below (by omega) hb3
  have hq3 := hq.below hbw3
  clear ho1 hp1 ho2 ho3 hb13 hb3 hb2 hbw2 hb1 hb0 hbw1
  go_wp2
  go_loopw [21] (fun q wr => ∃ j : Nat, j ≤ n1 ∧ q = .int .i64 j ∧ Below w3.heap.size w3 wr) (fun q _ => n1 - (intOf q).toNat)
  case atStart => exact ⟨0, Nat.zero_le _, rfl, Below.refl _ _⟩
  case round =>
    obtain ⟨j, hj, rfl, hbr⟩ := hrel
    by_cases hlt : j < n1
    · obtain ⟨b, o, A', n', c', hkl, rfl, hcell, hsl⟩ := (p1.below hbr).get (h1.below (by omega) hbr) hlt
      have hyes := Hbt.out ks[j] (List.getElem_mem hkl)
      have Hyes := Lib.hid hyes
      clear hyes
      go_wp2_with fail
      refine (has_any wr A3 n3 c3 f (hs3.below (by omega) hbr) A' n' c' ks[j] hsl (hq3.below hbr) (by omega)).mono ?_
      rw [Hyes.out]
      rintro e w4 ⟨rfl, hb4⟩
      go_wp2
      go_roundw
      case rel => exact ⟨j + 1, by omega, by go_num, hbr.trans (hb4.mono hbr.size)⟩
      case measure => simp [intOf]; omega
    · have hbwr := hbw3.trans (hbr.mono hbw3.size)
      go_wp2_with fail
      refine (has_any wr A3 n3 c3 f (hs3.below (by omega) hbr) A2 n2 c2 t (hs2.below (by omega) hbr) (hq3.below hbr) (by omega)).mono ?_
      rintro e w4 ⟨rfl, hb4⟩
      have hb34 := hbr.trans (hb4.mono hbr.size)
      go_wp2_with fail
      refine (rhas_any w4 A3 n3 c3 f (hs3.below (by omega) hb34) A2 n2 c2 t (hs2.below (by omega) hb34) (by omega) (by omega)).mono ?_
      generalize hasL f t = y
      rintro e w5 ⟨rfl, hb5⟩
      have hb35 := hb34.trans (hb5.mono hb34.size)
      cases y
      all_goals
        go_wp2
        go_ret
        exact ⟨rfl, hbw3.trans (hb35.mono hbw3.size)⟩
set_option maxHeartbeats 2000000 in
theorem bloomAny.walk (w : World) (A : Option Addr) (n c : Nat) (l : List UInt8) (h : Sl w 1 A n c (bc l)) (Ak : Option Addr) (nk ck : Nat) (key : List UInt8) (hk : Sl w 1 Ak nk ck (bc key)) (hq : Quarter w) :
    Calls Tryd.prog 12 #[.slice A n c, .slice Ak nk ck] w fun e w' => e = .returned (.bool true) ∧ Below w.heap.size w w' := by
  go_enter Tryd.func12, Tryd.ntmps12
  go_wp2_with fail
  refine (awake11 w hq).mono ?_
  rintro e w0 ⟨rfl, hb0⟩
  go_wp2_with fail
  refine (cut_any w0 A n c l 200 (h.below (by omega) hb0) (by omega)).mono ?_
  rintro e w1 ⟨A1, n1, c1, rfl, ho1, hb1⟩
  have ht : (l.take 200).length ≤ 200 := by simp; omega
  generalize l.take 200 = t at *
  have hn1 := ho1.len'
  subst hn1
  have hbw1 := hb0.trans (hb1.mono hb0.size)
  go_wp2_with fail
  refine (cut_any w1 Ak nk ck key 60 (hk.below (by omega) hbw1) (by omega)).mono ?_
  rintro e wk ⟨A9, n9, c9, rfl, ho9, hb9⟩
  have ht9 : (key.take 60).length ≤ 60 := by simp; omega
  generalize key.take 60 = t9 at *
  have hn9 := ho9.len'
  subst hn9
  have hbw9 := hbw1.trans (hb9.mono hbw1.size)
  have ho1 := Own.below ho1 hb9
  clear h hk hb0 hb1 hb9
  go_wp2_with fail
  refine (copy_any wk A1 _ c1 t (OwnB.sl ho1) (by omega)).mono ?_
  rintro e w2 ⟨A2, n2, c2, rfl, ho2, hb2⟩
  have hn2 := ho2.len'
  subst hn2
  have hlit : Sl (w2.alloc (.cells #[.int .u8 165] 5)) 1 (some ⟨w2.heap.size, 0, none⟩) 1 1 (bc [165]) := Sl.lit w2 _ _ 1 _ _ rfl (by unfold maxLen; omega) rfl
  have hba := (Below.refl w2.heap.size w2).alloc (Nat.le_refl _) (.cells #[.int .u8 165] 5)
  have ho2' := Own.below ho2 hba
  go_wp2_with (at_builtin; refine wpList_appB _ rfl (.tmp 13) (.tmp 14) rfl wk.heap.size A2 _ c2 t rfl ho2' _ 1 1 [165] rfl hlit ?_ ?_ ?_)
  · omega
  · have := hb2.size; simp; omega
  intro A3 c3 w3 ho3 hg3 _
  have hb13 : Below wk.heap.size wk w3 := by
    refine (hb2.trans (hba.mono hb2.size)).grown hg3 ?_ ?_
    · have := hb2.size; simp; omega
    · intro k hk
      exact (Own.lt ho2 k hk).1
  have hbw3 : Below w.heap.size w w3 := hbw9.trans (hb13.mono hbw9.size)
  have ho1' := Own.below ho1 hb13
  have ho9' := Own.below ho9 hb13
  have hc3 := ho3.sl.cap
  have r1 := fun w => cutC (A := A3) (n := t.length + 1) (c := c3) .i64 (t.length : Int) t.length rfl (by omega) w
  have hs3 := (cutH ho3.sl .i64 t.length t.length rfl (by omega)).2
  rw [List.take_left] at hs3
  have hq3 := hq.below hbw3
  clear hg3 hlit hba ho2' ho2 hb13 ho1 ho9
  go_wp2_with fail
  refine (has_any w3 A3 _ c3 t hs3 A9 _ c9 t9 (OwnB.sl ho9') hq3 (by omega)).mono ?_
  rintro e w4 ⟨rfl, hb4⟩
  go_wp2_with fail
  refine (rhas_any w4 A1 _ c1 t (Own.below ho1' hb4).sl A9 _ c9 t9 (Own.below ho9' hb4).sl (by omega) (by omega)).mono ?_
  generalize hasL t t9 = y
  rintro e w5 ⟨rfl, hb5⟩
  have hb35 := hb4.trans (hb5.mono hb4.size)
  have s1 := (Own.below ho1' hb35).sl
  have s3 := (Own.below ho3 hb35).sl
  have s3' := hs3.below (by omega) hb35
  have hbw5 := hbw3.trans (hb35.mono hbw3.size)
  have r2 := fun w => cutC (A := A3) (n := t.length) (c := c3) .i64 ((t.length : Int) + 1) (t.length + 1) (by omega) (by omega) w
  obtain ⟨b3, o3, x3, hA3, hx3, _, hcell⟩ := s3.byte (k := t.length) (by simp)
  have hx : x3 = 165 := by rw [← hx3]; simp
  subst hx
  clear hx3 s3 ho1' ho3 ho9' hs3 hb4 hb5 hb35 hbw3 hbw1
  subst hA3
  cases y
  all_goals
    go_wp2_with fail
    refine (same_is w5 _ _ c3 _ A1 _ c1 _ true (by unfold Hid; simp) s3' s1).mono ?_
    rintro e w' ⟨rfl, rfl⟩
    go_wp2
    go_ret
    exact ⟨rfl, hbw5⟩
end Go.Proofs.YthbmlkdijppkbaaDoor
