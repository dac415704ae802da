/-
  What the reference's Build makes. No condition.
-/
import Derived.Test.YthbmlkdijppkbaaDoorBloomRef
import Derived.Test.YthbmlkdijppkbaaDoorParts
namespace Go.Proofs.YthbmlkdijppkbaaDoor
open Go.RowKit

/-- the bits from t on of the byte j -/
def partN (s : List Bool) (j t : Nat) : Nat := (List.range' t (8 - t)).foldr (fun k acc => (s[8 * j + k]?.getD false).toNat + 2 * acc) 0
theorem partN_end (s : List Bool) (j : Nat) : partN s j 8 = 0 := rfl
theorem partN_all (s : List Bool) (j : Nat) : partN s j 0 = byteN s j := by unfold partN byteN; rw [List.range_eq_range']
theorem partN_step (s : List Bool) (j t : Nat) (h : t < 8) : partN s j t = (s[8 * j + t]?.getD false).toNat + 2 * partN s j (t + 1) := by
  unfold partN
  rw [show 8 - t = (8 - (t + 1)) + 1 by omega, List.range'_succ, List.foldr_cons]
theorem partN_lt (s : List Bool) (j t : Nat) (ht : 1 ≤ t) : partN s j t < 128 := by
  by_cases h : t < 8
  · refine Nat.lt_pow_two_of_testBit (n := 7) _ fun i hi => ?_
    unfold partN
    rw [foldr_bits (fun k => s[8 * j + k]?.getD false)]
    have h1 : ¬ i < 8 - t := by omega
    simp [h1]
  · unfold partN
    rw [show 8 - t = 0 by omega]
    simp
def bv (s : List Bool) : List Value := s.map Value.bool
theorem bv_get (s : List Bool) (k : Nat) (h : k < s.length) : (bv s)[k]? = some (.bool (s[k]?.getD false)) := by simp [bv, h]
theorem bv_set (s : List Bool) (k : Nat) : (bv s).set k (.bool true) = bv (s.set k true) := by simp [bv, List.map_set]
theorem bytesN_succ (s : List Bool) (j : Nat) : bytesN s (j + 1) = bytesN s j ++ [UInt8.ofNat (byteN s j)] := by simp [bytesN, List.range_succ]
theorem probesL_succ (key : List UInt8) (m i : Nat) : probesL key m (i + 1) = probesL key m i ++ [probeL key m i] := by simp [probesL, List.range_succ]

set_option maxHeartbeats 2000000 in
theorem rbuild_any (w : World) (bt : Int) (A : Option Addr) (n c : Nat) (vs : List Value) (keys : List (List UInt8)) (h : Sl w 1 A n c vs) (hp : PartsOf w vs keys) (hlong : ∀ key ∈ keys, key.length ≤ 4398046511104) (hn : n ≤ 1000) :
    Calls Tryd.prog 36 #[.int .i64 bt, .slice A n c] w (NewB w (buildL bt keys)) := by
  have Hl : Hid (keys.length = n) := by have h1 := h.len; have h2 := hp.1; unfold Hid; omega
  have hcm := h.capm
  have hcc := h.cap
  unfold maxLen at hcm
  have ht := takeN_le bt
  have ht1 := takeN_pos bt
  have hpr := probesN_le bt
  have hpr1 := probesN_pos bt
  obtain ⟨sz, hsz⟩ : ∃ sz, sizeN bt keys.length = sz := ⟨_, rfl⟩
  have hsz2 : max ((takeN bt * n + 7) / 8) 8 = sz := by rw [← hsz, Hl.out]; rfl
  have ht2 : takeN bt * n ≤ 100 * n := Nat.mul_le_mul_right _ ht
  have hsz3 : sz ≤ 100000 := by omega
  have hsz4 : 8 ≤ sz := by omega
  have htk := fun w' => rtake_any w' bt
  have hpb := fun w' => rprobes_any w' bt
  have hfin : buildL bt keys = bytesN (setAll (List.replicate (8 * sz) false) (keys.flatMap fun key => probesL key (8 * sz) (probesN bt))) sz ++ [UInt8.ofNat (probesN bt)] := by unfold buildL bitsL; rw [hsz]
  rw [hfin]
  clear hfin
  generalize takeN bt = t at *
  generalize probesN bt = p at *
  have Hmul : Hid ((t : Int) * n = ((t * n : Nat) : Int)) := by unfold Hid; simp
  have Htk := Lib.hid htk
  have Hpb := Lib.hid hpb
  obtain ⟨i0, hi0, hz0, hs1, hb1⟩ := info_parts infoF
  obtain ⟨E, hE⟩ : ∃ E : Int, ((t : Int) * n + 7) / 8 = E := ⟨_, rfl⟩
  have hE2 : (E < 8 → (sz : Int) = 8) ∧ (8 ≤ E → (sz : Int) = E) := by
    have := Hmul.out
    constructor <;> omega
  have HE2 := Lib.hid hE2
  have Hone : Hid True := trivial
  clear hsz hsz2 htk hpb hE2
  go_enter Tryd.func36, Tryd.ntmps36
  go_wp2_with fail
  refine (Htk.out _).mono ?_
  rintro e w' ⟨rfl, rfl⟩
  have hpc : ∀ (wr : World) (A' : Option Addr) (n' c' : Nat) (key : List UInt8) (i : Nat) (M : Int), Sl wr 1 A' n' c' (bc key) → n' ≤ 4398046511104 → i ≤ 30 → M = ((8 * sz : Nat) : Int) →
      Calls Tryd.prog 55 #[.slice A' n' c', .int .i64 (i : Int), .int .i64 M] wr fun e w' => e = .returned (.int .i64 (probeL key (8 * sz) i : Nat)) ∧ Below wr.heap.size wr w' := by
    rintro wr A' n' c' key i M hk hn' hi rfl
    exact rprobe_any wr A' n' c' key hk hn' i (8 * sz) hi (by omega) (by omega)
  have Hpc := Lib.hid hpc
  clear hpc
  go_wp2_with (at_make; refine wpList_mk _ rfl (.tmp 24) (.tmp 24) _ rfl w.heap.size 4 i0 (.bool false) 1 Tryd.underlying64 hi0 hz0 hs1 hb1 rfl _ _ _ _ (8 * sz) rfl rfl ?_ ?_ ?_ ?_ ?_ ?_)
  all_goals try (have := HE2.out; omega)
  all_goals try (unfold maxLen; omega)
  all_goals
    intro w1 ho1 hb1 _
    have ho1 : Own w1 w.heap.size 4 1 (some ⟨w.heap.size, 0, none⟩) (8 * sz) (8 * sz) (bv (List.replicate (8 * sz) false)) := by
      unfold bv
      rw [List.map_replicate]
      exact ho1
    go_wp2
    go_loopw [28] (fun q wr => ∃ j : Nat, j ≤ n ∧ q = .int .i64 j ∧ Below w.heap.size w wr ∧
      Own wr w.heap.size 4 1 (some ⟨w.heap.size, 0, none⟩) (8 * sz) (8 * sz) (bv (setAll (List.replicate (8 * sz) false) ((keys.take j).flatMap fun key => probesL key (8 * sz) p)))) (fun q _ => n - (intOf q).toNat)
    case atStart => exact ⟨0, Nat.zero_le _, rfl, hb1, ho1⟩
    case round =>
      clear ho1 hb1
      obtain ⟨j, hj, rfl, hbr, hor⟩ := hrel
      by_cases hlt : j < n
      · obtain ⟨b, o, A', n', c', hkl, rfl, hcell, hsl⟩ := hp.get h hlt
        have hcell := (hbr.cell (p := ⟨b, o + j, none⟩) (World.block_lt_of_cell? _ _ hcell)).trans hcell
        have hlk := hlong keys[j] (List.getElem_mem hkl)
        rw [hsl.lenb] at hlk
        have Hor := Lib.hid hor
        clear hor
        go_wp2_with fail
        refine (Hpb.out _).mono ?_
        rintro e w' ⟨rfl, rfl⟩
        go_wp2
        go_loopw [34] (fun q wx => ∃ i : Nat, i ≤ p ∧ q = .int .i64 i ∧ Below w.heap.size w wx ∧
          Own wx w.heap.size 4 1 (some ⟨w.heap.size, 0, none⟩) (8 * sz) (8 * sz) (bv (setAll (setAll (List.replicate (8 * sz) false) ((keys.take j).flatMap fun key => probesL key (8 * sz) p)) (probesL keys[j] (8 * sz) i)))) (fun q _ => p - (intOf q).toNat)
        case atStart => exact ⟨0, Nat.zero_le _, rfl, hbr, Hor.out⟩
        case round =>
          clear hbr hcell
          obtain ⟨i, hi, rfl, hbx, hox⟩ := hrel
          by_cases hlti : i < p
          · obtain ⟨v, hv⟩ : ∃ v, probeL keys[j] (8 * sz) i = v := ⟨_, rfl⟩
            have hvl : v < 8 * sz := by rw [← hv]; exact probeL_lt _ (by omega) i
            have Hv := Lib.hid hv
            have Hox := Lib.hid hox
            clear hv hox
            go_wp2_with fail
            refine (Hpc.out _ A' n' c' keys[j] i _ (hsl.below (by omega) hbx) hlk (by omega) (by have := HE2.out; omega)).mono ?_
            rw [Hv.out]
            rintro e w2 ⟨rfl, hb2⟩
            have ho2 := Own.below Hox.out hb2
            have hb3 := hbx.trans (hb2.mono hbx.size)
            obtain ⟨gg, oo, uu, eA, _, _, _, hcl, hfr⟩ := Own.place ho2 hvl
            obtain ⟨rfl, rfl⟩ : w.heap.size = gg ∧ 0 = oo := by simpa using eA
            have hst := Own.stored ho2 hvl (.bool true)
            rw [bv_set, ← setAll_snoc, Nat.zero_add] at hst
            rw [Nat.zero_add] at hcl hfr
            have Hst := Lib.hid hst
            clear hst ho2 eA hb2
            go_wp2
            go_roundw
            case rel => exact ⟨i + 1, by omega, by go_num, hb3.setCell (p := ⟨w.heap.size, v, none⟩) (Nat.le_refl _) _, by rw [probesL_succ, Hv.out]; exact Hst.out⟩
            case measure => simp [intOf]; omega
          · obtain rfl : i = p := by omega
            go_wp2
            go_roundw
            case rel =>
              refine ⟨j + 1, by omega, by go_num, hbx, ?_⟩
              rw [take_snoc _ _ hkl, List.flatMap_append, setAll_append]
              simpa using hox
            case measure => simp [intOf]; omega
      · obtain rfl : j = n := by omega
        rw [List.take_of_length_le (show keys.length ≤ j by have := Hl.out; omega)] at hor
        obtain ⟨s, hs⟩ : ∃ s, setAll (List.replicate (8 * sz) false) (keys.flatMap fun key => probesL key (8 * sz) p) = s := ⟨_, rfl⟩
        have hsl : s.length = 8 * sz := by rw [← hs]; simp
        rw [hs] at hor
        have Hs := Lib.hid hs
        clear hs
        go_wp2
        go_loopw [10, 47] (fun ov q wx => ∃ k : Nat, k ≤ sz ∧ q = .int .i64 k ∧ Below w.heap.size w wx ∧ Own wx w.heap.size 4 1 (some ⟨w.heap.size, 0, none⟩) (8 * sz) (8 * sz) (bv s) ∧
          ∃ A2 c2, ov = .slice A2 k c2 ∧ OwnB wx w.heap.size A2 k c2 (bytesN s k)) (fun _ q _ => sz - (intOf q).toNat)
        case atStart => exact ⟨0, Nat.zero_le _, rfl, hbr, hor, none, 0, rfl, Own.nil _ _ _ _ _⟩
        case round =>
          clear hor hbr
          obtain ⟨k, hk, rfl, hbx, hox, A2, c2, rfl, ho2⟩ := hrel
          by_cases hkl : k < sz
          · have hkE := HE2.out
            have Ho2 := Lib.hid ho2
            have Hox := Lib.hid hox
            clear ho2 hox
            go_wp2
            go_loop [12, 13] (fun bv q => ∃ t : Nat, t ≤ 8 ∧ q = .int .i64 ((t : Int) - 1) ∧ bv = .int .u8 (partN s k t : Nat)) (fun _ q => (intOf q + 1).toNat)
            case atStart => exact ⟨8, Nat.le_refl _, rfl, rfl⟩
            case round =>
              obtain ⟨tt, htt, rfl, rfl⟩ := hrel
              cases tt with
              | zero =>
                rw [partN_all]
                have hbl := byteN_lt s k
                have hbs := bytesN_succ s k
                obtain ⟨y, hy⟩ : ∃ y, byteN s k = y := ⟨_, rfl⟩
                rw [hy] at hbl hbs
                rw [hy]
                have Hbs := Lib.hid hbs
                have hsz : w.heap.size ≤ wr.heap.size := hbx.size
                have hlit : OwnB (wr.alloc (.cells #[.int .u8 (y : Int)] 5)) w.heap.size (some ⟨wr.heap.size, 0, none⟩) 1 1 [UInt8.ofNat y] :=
                  Own.lit wr _ _ 1 _ _ hsz rfl (by unfold maxLen; omega) (by simp [bc]; omega)
                have hba := (Below.refl wr.heap.size wr).alloc (Nat.le_refl _) (.cells #[.int .u8 (y : Int)] 5)
                have hoa : OwnB (wr.alloc (.cells #[.int .u8 (y : Int)] 5)) w.heap.size A2 k c2 (bytesN s k) := Own.below Ho2.out hba
                have hxa := Own.below Hox.out hba
                clear hbs hy
                go_wp2_with (at_builtin; refine wpList_appB _ rfl (.tmp 65) (.tmp 67) rfl w.heap.size A2 k c2 _ rfl hoa _ 1 1 [UInt8.ofNat y] rfl hlit.sl ?_ ?_ ?_)
                · omega
                · first | (have := hsz; omega) | (rw [World.size_alloc]; omega) | trace_state
                intro A3 c3 w3 ho3 hg3 _
                go_wp2
                go_roundw
                case rel =>
                  refine ⟨k + 1, by omega, by go_num, (hbx.alloc hsz _).grown hg3 (by simp; omega) (fun q hq => (Own.lt hoa q hq).1), Own.grown hxa hg3 (own_apart hxa hoa (by decide)), A3, c3, rfl, ?_⟩
                  rw [Hbs.out]
                  exact ho3
                case measure => simp [intOf]; omega
              | succ tt =>
                have hpt := partN_lt s k (tt + 1) (by omega)
                have hst := partN_step s k tt (by omega)
                obtain ⟨y, hy⟩ : ∃ y, partN s k (tt + 1) = y := ⟨_, rfl⟩
                rw [hy] at hpt hst
                rw [hy]
                have hkt : 8 * k + tt < 8 * sz := by omega
                obtain ⟨gg, oo, uu, eA, _, _, hu, hcl, _⟩ := Own.place Hox.out hkt
                obtain ⟨rfl, rfl⟩ : w.heap.size = gg ∧ 0 = oo := by simpa using eA
                rw [bv_get s _ (by omega)] at hu
                obtain rfl := Option.some.inj hu
                rw [Nat.zero_add] at hcl
                have Hst := Lib.hid hst
                clear hst hy hu eA
                cases hbit : s[8 * k + tt]?.getD false with
                | true =>
                  rw [hbit] at hcl
                  have Hbit := Lib.hid hbit
                  clear hbit
                  go_wp2
                  go_round
                  case rel => exact ⟨tt, by omega, rfl, by rw [Hst.out, Hbit.out]; congr 1; simp <;> omega⟩
                  case measure => simp [intOf] <;> omega
                | false =>
                  rw [hbit] at hcl
                  have Hbit := Lib.hid hbit
                  clear hbit
                  go_wp2
                  go_round
                  case rel => exact ⟨tt, by omega, rfl, by rw [Hst.out, Hbit.out]; congr 1; simp <;> omega⟩
                  case measure => simp [intOf] <;> omega
          · obtain rfl : k = sz := by omega
            have hkE := HE2.out
            have hsz : w.heap.size ≤ wr.heap.size := hbx.size
            have hlit : OwnB (wr.alloc (.cells #[.int .u8 (p : Int)] 5)) w.heap.size (some ⟨wr.heap.size, 0, none⟩) 1 1 [UInt8.ofNat p] :=
              Own.lit wr _ _ 1 _ _ hsz rfl (by unfold maxLen; omega) (by simp [bc]; omega)
            have hba := (Below.refl wr.heap.size wr).alloc (Nat.le_refl _) (.cells #[.int .u8 (p : Int)] 5)
            have hoa : OwnB (wr.alloc (.cells #[.int .u8 (p : Int)] 5)) w.heap.size A2 k c2 (bytesN s k) := Own.below ho2 hba
            clear ho2 hox
            go_wp2_with fail
            refine (Hpb.out _).mono ?_
            rintro e w' ⟨rfl, rfl⟩
            go_wp2_with (at_builtin; refine wpList_appB _ rfl (.tmp 70) (.tmp 74) rfl w.heap.size A2 k c2 _ rfl hoa _ 1 1 [UInt8.ofNat p] rfl hlit.sl ?_ ?_ ?_)
            · omega
            · simp; omega
            intro A3 c3 w3 ho3 hg3 _
            go_wp2
            go_ret
            rw [Hs.out]
            exact ⟨A3, _, c3, rfl, ho3, (hbx.alloc hsz _).grown hg3 (by simp; omega) (fun q hq => (Own.lt hoa q hq).1)⟩
end Go.Proofs.YthbmlkdijppkbaaDoor
