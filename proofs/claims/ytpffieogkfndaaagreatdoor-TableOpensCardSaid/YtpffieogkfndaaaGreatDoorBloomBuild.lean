/-
  What bloom.Build makes. The table lies in its variable.
-/
import Derived.Test.YtpffieogkfndaaaGreatDoorJKeyBytesR
namespace Go.Proofs.YtpffieogkfndaaaGreatDoor
set_option maxRecDepth 20000
set_option linter.unusedVariables false
set_option linter.unusedSimpArgs false
open Go.RowKit

attribute [local go_sem] Oper.semAt_some

theorem leaves_all {F : Fence} {n : Nat} {P : Program} {fn : Func} {tmps : Array Value} {R : Ending → World → Prop} : ∀ (Ds : List Nat) (W : World), Ds.Nodup → (∀ D ∈ Ds, W.heap[D]? = some (.deferred (some []))) →
    (∀ W' : World, W'.os = W.os → W'.tape = W.tape → W'.output = W.output → W'.heap.size = W.heap.size → (∀ k, k ∉ Ds → W'.heap[k]? = W.heap[k]?) → LeavesIn F n P fn tmps R [] .returning W') →
    LeavesInM F n P fn tmps R (Ds.map fun D => { target := .collected D, args := #[] }) .returning W
  | [], W, _, _, h => h W rfl rfl rfl rfl (fun _ _ => rfl)
  | D :: t, W, hn, hD, h => by
    refine ⟨by simp, .inl ⟨_, _, rfl, run_takeDeferred (hD D (by simp)), ?_⟩⟩
    obtain ⟨hn1, hn2⟩ := List.nodup_cons.1 hn
    refine leaves_all t _ hn2 (fun D' hD' => ?_) (fun W' h1 h2 h3 h4 h5 => h W' h1 h2 h3 (by simpa using h4) (fun k hk => ?_))
    · have hne : D' ≠ D := fun e => hn1 (e ▸ hD')
      exact (World.putObj_heap_other hne).trans (hD D' (by simp [hD']))
    · have hne : k ≠ D := fun e => hk (by simp [e])
      exact (h5 k (fun e => hk (by simp [e]))).trans (World.putObj_heap_other hne)

/-- make([]byte, n), in a fence -/
theorem wpListIn_mkB {F : Fence} {nf : Nat} (w : World) {ops : Array Oper} {rest : List Oper} {o : Oper} {a : Act} {Q : Exit → Act → World → Prop} (hgd : o.guard = none) (l c : Operand) (ho : o.op = Op.makeSlice 29 l c)
    (B : Nat) (kl kc : IntKind) (L C : Int) (n : Nat) (hl : a.eval l = .int kl L) (hc : a.eval c = .int kc C) (hL : L = (n : Int)) (hC : C = (n : Int)) (b2 : n ≤ 281474976710656) (b4 : B ≤ w.heap.size)
    (h : ∀ w', OwnB w' B (some ⟨w.heap.size, 0, none⟩) n n (List.replicate n 0) → Below w.heap.size w w' → w'.heap.size = w.heap.size + 1 → wpListIn F nf Tryz.prog ops Q rest (a.put o.dst (.slice (some ⟨w.heap.size, 0, none⟩) n n)) w') :
    wpListIn F nf Tryz.prog ops Q (o :: rest) a w := by
  obtain ⟨i, hi, hz, hs1, hb1⟩ := info_parts infoB
  refine wpListIn_plain hgd fun K hK' => ?_
  subst hL
  subst hC
  have hr := run_make (P := Tryz.prog) w _ _ i _ Tryz.underlying29 hi hz kl kc n n (by omega) (by omega) (by rw [hb1]; omega) (by omega)
  simp only [Int.toNat_natCast, hs1, Nat.mul_one] at hr
  unfold Oper.wpIn
  refine ⟨?_, ?_⟩
  · simp [Oper.about, ho]
  · rw [Oper.semAt_plain F _ _ (by rw [ho]; intro c hc'; cases hc')]
    simp only [execOp, ho, hl, hc]
    simp only [Sem.run_bind, hr, Result.andThen_ok, Sem.run_pure]
    refine hK' _ _ (h _ ?_ ((Below.refl _ _).alloc (Nat.le_refl _) _) (by simp))
    refine Own.fresh w B _ 1 n n _ _ b4 (Nat.le_refl _) (by unfold maxLen; omega) ?_ ?_ ?_
    · simp [size_madeCells]
    · simp
    · rw [show (Value.int .u8 0).cells = #[.int .u8 0] from rfl, toList_madeCells_one]
      simp [bc]

/-- a post that no panic meets -/
def calm (Q : Exit → Act → World → Prop) : Exit → Act → World → Prop
  | .panic _, _, _ => False
  | e, a, w => Q e a w
theorem calm_post {Q : Exit → Act → World → Prop} : ∀ (e : Exit) (a : Act) (w : World), calm Q e a w → Q e a w := fun e _ _ h => by cases e <;> first | exact h | exact h.elim
theorem calm_normal {Q : Exit → Act → World → Prop} {a : Act} {w : World} (h : Q .normal a w) : calm Q .normal a w := h

set_option maxRecDepth 100000 in
set_option maxHeartbeats 2000000 in
theorem build_any (w : World) (bt : Int) (A : Option Addr) (n c : Nat) (vs : List Value) (keys : List (List UInt8)) (h : Sl w 1 A n c vs) (hp : PartsOf w vs keys) (hq : Quarter w) (hn : n ≤ 1000) :
    Calls Tryz.prog 47 #[.int .i64 bt, .slice A n c] w (NewB w (buildL bt keys)) := by
  have Hl : Hid (keys.length = n) := by have h1 := h.len; have h2 := hp.1; unfold Hid; omega
  have hcm := h.capm
  have hcc := h.cap
  unfold maxLen at hcm
  have ht := takeN_le bt
  have ht1 := takeN_pos bt
  have hpr := probesN_le bt
  have hpr1 := probesN_pos bt
  obtain ⟨sz, hsz⟩ : ∃ sz, sizeN bt keys.length = sz := ⟨_, rfl⟩
  have hsz2 : max ((takeN bt * n + 7) / 8) 8 = sz := by rw [← hsz, Hl.out]; rfl
  have Hsz := Lib.hid hsz
  have ht2 : takeN bt * n ≤ 100 * n := Nat.mul_le_mul_right _ ht
  have hsz3 : sz ≤ 100000 := by omega
  have hsz4 : 8 ≤ sz := by omega
  have htk := fun w' => bltake_any w' bt
  have hpb := fun w' => probes_any w' bt
  unfold buildL
  rw [hsz]
  generalize takeN bt = t at *
  generalize probesN bt = p at *
  have hmx : (if ((t : Int) * n + 7) / 8 < 8 then (8 : Int) else ((t : Int) * n + 7) / 8) = (sz : Int) := by
    have e : ((t * n : Nat) : Int) = (t : Int) * n := by simp
    rw [← e]
    split <;> omega
  have Htk := Lib.hid htk
  have Hpb := Lib.hid hpb
  clear hsz hsz2 htk hpb
  refine (callsIn_wide (n := 5)).1 ?_
  refine callsIn_of_wp_marks Tryz.func47 rfl trivial ?_ rfl
  simp only [Tryz.ntmps47, List.size_toArray, List.length_cons, List.length_nil, Nat.reduceAdd, Nat.reduceSub, Array.replicate_succ, Array.replicate_zero, List.push_toArray, List.append_toArray, List.nil_append, List.cons_append]
  gi_wp2_with fail
  refine ⟨trivial, callsIn_wide.2 ((Htk.out _).mono ?_)⟩
  rintro e w' ⟨rfl, rfl⟩
  gi_wp2_with (gi_at_make; refine wpListIn_mkB _ rfl (.tmp 19) (.tmp 19) rfl w.heap.size _ _ _ _ (sz + 1) rfl rfl ?_ ?_ ?_ ?_ ?_)
  · simp
  · simp
  · omega
  · exact Nat.le_refl _
  intro w1 ho1 hb1 hs1
  have ho2 := ho1.below ((Below.refl w1.heap.size w1).alloc (Nat.le_refl _) (.cells #[.slice (some ⟨w.heap.size, 0, none⟩) (sz + 1) (sz + 1)] 29))
  have hb2 := hb1.alloc (by omega) (.cells #[.slice (some ⟨w.heap.size, 0, none⟩) (sz + 1) (sz + 1)] 29)
  have co := cell_new1 w1 (.slice (some ⟨w.heap.size, 0, none⟩) (sz + 1) (sz + 1)) 29
  have hsz5 : (w1.alloc (.cells #[.slice (some ⟨w.heap.size, 0, none⟩) (sz + 1) (sz + 1)] 29)).heap.size = w.heap.size + 1 + 1 := by simp; omega
  rw [hs1] at co
  gi_wp2
  rename_i K hK0
  generalize w1.alloc (.cells #[.slice (some ⟨w.heap.size, 0, none⟩) (sz + 1) (sz + 1)] 29) = w2 at *
  obtain ⟨co, cf⟩ := co
  obtain ⟨g, o, xb, eA, _, _, _, hcell, hfr⟩ := OwnB.place ho2 (k := sz) (by omega)
  obtain ⟨rfl, rfl⟩ : w.heap.size = g ∧ 0 = o := by simpa using eA
  rw [Nat.zero_add] at hcell hfr
  clear eA
  have hmix : Tryz.prog.follows .mixedOrders = true := by kernel_rfl
  have Ho2 := Lib.hid ho2
  have Hco := Lib.hid co
  clear ho2 ho1
  have hrest : ∀ (u2 u3 u7 u8 u9 u10 u11 u12 u13 u14 u15 u16 u17 u18 u19 u20 u21 u22 u23 u24 u25 u26 u27 u28 u29 u30 u31 u32 u33 u34 u35 u36 u37 u38 u39 u40 u41 u42 u43 u44 u45 u46 u47 u48 u49 u50 u51 u52 : Value) (w3 : World), Below w.heap.size w w3 → w3.cell? ⟨w.heap.size + 1, 0, none⟩ = some (.slice (some ⟨w.heap.size, 0, none⟩) (sz + 1) (sz + 1)) →
      OwnB w3 w.heap.size (some ⟨w.heap.size, 0, none⟩) (sz + 1) (sz + 1) (bytesN (List.replicate (8 * sz) false) sz ++ [p.toUInt8]) → K { tmps := List.toArray (Value.int .i64 bt :: Value.slice A n c :: u2 :: u3 :: Value.slice none 0 0 :: Value.int .i64 sz :: Value.pointer (some ⟨w.heap.size + 1, 0, none⟩) :: u7 :: u8 :: u9 :: u10 :: u11 :: u12 :: u13 :: u14 :: u15 :: u16 :: u17 :: u18 :: u19 :: u20 :: u21 :: u22 :: u23 :: u24 :: u25 :: u26 :: u27 :: u28 :: u29 :: u30 :: u31 :: u32 :: u33 :: u34 :: u35 :: u36 :: u37 :: u38 :: u39 :: u40 :: u41 :: u42 :: u43 :: u44 :: u45 :: u46 :: u47 :: u48 :: u49 :: u50 :: u51 :: u52 :: []), defers := [] } w3 := by
    clear hcell hfr hb2 cf Ho2 Hco co hb1 hs1 hsz5
    intro u2 u3 u7 u8 u9 u10 u11 u12 u13 u14 u15 u16 u17 u18 u19 u20 u21 u22 u23 u24 u25 u26 u27 u28 u29 u30 u31 u32 u33 u34 u35 u36 u37 u38 u39 u40 u41 u42 u43 u44 u45 u46 u47 u48 u49 u50 u51 u52 w3 hb3 hc3 ho3
    apply hK0
    clear hK0
    gi_wp2
    refine wpIn_loop (fun a wr => ∃ (j : Nat) (Ds : List Nat) (u2 u3 u7 u8 u9 u10 u11 u12 u13 u14 u15 u16 u17 u18 u19 u20 u21 u22 u23 u24 u25 u26 u30 u31 u32 u33 u34 u35 u36 u37 u38 u39 u40 u41 u42 u43 u44 u45 u46 u47 u48 u49 u50 u51 u52 : Value), a = { tmps := List.toArray (Value.int .i64 bt :: Value.slice A n c :: u2 :: u3 :: Value.slice none 0 0 :: Value.int .i64 sz :: Value.pointer (some ⟨w.heap.size + 1, 0, none⟩) :: u7 :: u8 :: u9 :: u10 :: u11 :: u12 :: u13 :: u14 :: u15 :: u16 :: u17 :: u18 :: u19 :: u20 :: u21 :: u22 :: u23 :: u24 :: u25 :: u26 :: Value.slice A n c :: Value.int .i64 n :: Value.int .i64 j :: u30 :: u31 :: u32 :: u33 :: u34 :: u35 :: u36 :: u37 :: u38 :: u39 :: u40 :: u41 :: u42 :: u43 :: u44 :: u45 :: u46 :: u47 :: u48 :: u49 :: u50 :: u51 :: u52 :: []), defers := Ds.map fun D => { target := .collected D, args := #[] } } ∧ j ≤ n ∧ Below w.heap.size w wr ∧
        wr.cell? ⟨w.heap.size + 1, 0, none⟩ = some (.slice (some ⟨w.heap.size, 0, none⟩) (sz + 1) (sz + 1)) ∧
        OwnB wr w.heap.size (some ⟨w.heap.size, 0, none⟩) (sz + 1) (sz + 1) (bytesN (setAll (List.replicate (8 * sz) false) ((keys.take j).flatMap fun key => probesL key (8 * sz) p)) sz ++ [p.toUInt8]) ∧
        Ds.Nodup ∧ ∀ D ∈ Ds, w.heap.size ≤ D ∧ wr.heap[D]? = some (.deferred (some [])))
      (fun a _ => n - (intOf (a.tmps.getD 29 undef)).toNat) ?_ ?_
    · refine ⟨0, [], _, _, _, _, _, _, _, _, _, _, _, _, _, _, _, _, _, _, _, _, _, _, _, _, _, _, _, _, _, _, _, _, _, _, _, _, _, _, _, _, _, _, _, _, _, rfl, Nat.zero_le _, hb3, hc3, ?_, List.nodup_nil, fun D hD => absurd hD (by simp)⟩
      simpa [setAll] using ho3
    · rintro a wr ⟨j, Ds, u2, u3, u7, u8, u9, u10, u11, u12, u13, u14, u15, u16, u17, u18, u19, u20, u21, u22, u23, u24, u25, u26, u30, u31, u32, u33, u34, u35, u36, u37, u38, u39, u40, u41, u42, u43, u44, u45, u46, u47, u48, u49, u50, u51, u52, rfl, hj, hbr, hcr, hor, hnd, hDs⟩
      have hm : 0 < 8 * sz := by omega
      have hbs : IntKind.u32.wrap (8 * (sz : Int)) = 8 * (sz : Int) := by rw [IntKind.wrap_u32]; omega
      by_cases hlt : j < n
      · obtain ⟨b, o, A', n', c', hkl, rfl, hcell, hsl⟩ := (hp.below hbr).get (h.below (by omega) hbr) hlt
        have hqr := hq.below hbr
        gi_wp2_with fail
        refine ⟨trivial, callsIn_wide.2 ((Hpb.out _).mono ?_)⟩
        rintro e w' ⟨rfl, rfl⟩
        gi_wp2_with fail
        refine ⟨trivial, callsIn_wide.2 ((each_any _ _ _ _ _ _).mono ?_)⟩
        rintro e w' ⟨rfl, rfl⟩
        gi_wp2
        have k1 := cell_new1 wr (.slice A' n' c') 29
        have k2 := cell_new1 (wr.alloc (.cells #[.slice A' n' c'] 29)) (.int .i64 (p : Int)) 3
        have k3 := cell_new1 ((wr.alloc (.cells #[.slice A' n' c'] 29)).alloc (.cells #[.int .i64 (p : Int)] 3)) (.int .u32 (8 * (sz : Int))) 126
        obtain ⟨w4, hw4⟩ : ∃ w4, ((wr.alloc (.cells #[.slice A' n' c'] 29)).alloc (.cells #[.int .i64 (p : Int)] 3)).alloc (.cells #[.int .u32 (8 * (sz : Int))] 126) = w4 := ⟨_, rfl⟩
        have hb4 : Below wr.heap.size wr w4 := by rw [← hw4]; exact (((Below.refl _ wr).alloc (Nat.le_refl _) _).alloc (by simp) _).alloc (by simp; omega) _
        have k1' : w4.cell? ⟨wr.heap.size, 0, none⟩ = some (.slice A' n' c') := by rw [← hw4]; exact cell_old _ (cell_old _ k1.1)
        have k2' : w4.cell? ⟨wr.heap.size + 1, 0, none⟩ = some (.int .i64 (p : Int)) := by rw [← hw4, ← World.size_alloc wr]; exact cell_old _ k2.1
        have k3' : w4.cell? ⟨wr.heap.size + 1 + 1, 0, none⟩ = some (.int .u32 (8 * (sz : Int))) := by rw [← hw4]; simp only [World.size_alloc] at k3; exact k3.1
        have hs4 : w4.heap.size = wr.heap.size + 1 + 1 + 1 := by rw [← hw4]; simp
        have hB4 : Below w.heap.size w w4 := hbr.trans (hb4.mono hbr.size)
        have hlr := World.block_lt_of_cell? _ _ hcr
        have hc4 := (hb4.cell (p := ⟨w.heap.size + 1, 0, none⟩) hlr).trans hcr
        have ho4 := Own.below hor hb4
        have hD4 : ∀ D ∈ Ds, D < wr.heap.size ∧ w4.heap[D]? = some (.deferred (some [])) := fun D hD => by
          have h1 := (hDs D hD).2
          exact ⟨heap_lt h1, (hb4.block D (heap_lt h1)).trans h1⟩
        rw [hw4]
        clear k1 k2 k3
        have HX := Lib.hid hor
        clear hor
        refine range_one rfl (by omega) (p := 40) (q := 9) (gf := 114) rfl trivial (enters_of Tryz.func114 (by kernel_rfl) rfl)
          (each_stops _ (by omega) _ _ _ A' n' c' keys[j] p (8 * sz) hm (by omega) w4 k1' k2' k3' (hsl.below (by omega) hb4) (hqr.below hb4)) keep1_t (keep1_b (by omega)) (Below.refl _ _)
          (fun pre W => (W.cell? ⟨w.heap.size + 1, 0, none⟩ = some (.slice (some ⟨w.heap.size, 0, none⟩) (sz + 1) (sz + 1)) ∧
            OwnB W w.heap.size (some ⟨w.heap.size, 0, none⟩) (sz + 1) (sz + 1) (bytesN (setAll (setAll (List.replicate (8 * sz) false) ((keys.take j).flatMap fun key => probesL key (8 * sz) p)) (pre.map (·.val))) sz ++ [p.toUInt8]) ∧
            ∀ D ∈ Ds, W.heap[D]? = some (.deferred (some []))) ∧ Below w.heap.size w W)
          (fun _ _ _ => False)
          (OwnFrom.and (fun s X Y row hs hg hr => ⟨cell_kept hs.1 hg (fun r e => (hr r e).2), Own.grown hs.2.1 hg (fun b hb e => ?_), fun D hD => (hg.block D (heap_lt (hs.2.2 D hD)) (fun e => ?_)).trans (hs.2.2 D hD)⟩) (ownFrom_below (Nat.le_refl _) hB4.size))
          (fun _ _ _ _ _ hs _ _ => hs)
          ⟨⟨hc4, ?_, fun D hD => (hD4 D hD).2⟩, hB4⟩ (by simp) ?body ?done ?stop
        · have h1 := (hr b e).1
          have h2 := hbr.size
          simp [blk] at hb
          omega
        · have h1 := (hr D e.symm).1
          have h2 := (hD4 D hD).1
          omega
        · exact ho4
        case body =>
          rintro l pre v W ⟨⟨hcW, hoW, hDW⟩, hBW⟩ _
          obtain ⟨v, hv⟩ := v
          obtain ⟨s, hs⟩ : ∃ s, setAll (setAll (List.replicate (8 * sz) false) ((keys.take j).flatMap fun key => probesL key (8 * sz) p)) (pre.map (·.val)) = s := ⟨_, rfl⟩
          have hsl : s.length = 8 * sz := by rw [← hs]; simp
          rw [hs] at hoW
          have hv8 : v / 8 < sz := by omega
          have hv9 : v / 8 < sz + 1 := by omega
          obtain ⟨g, o, xb, eA, _, _, hxb, hcellW, hfrW⟩ := OwnB.place hoW hv9
          obtain ⟨rfl, rfl⟩ : w.heap.size = g ∧ 0 = o := by simpa using eA
          rw [List.getElem?_append_left (by simp [hv8]), List.getElem?_eq_getElem (by simp [hv8])] at hxb
          have hxn : xb.toNat = byteN s (v / 8) := by rw [← Option.some.inj hxb]; exact bytesN_get s sz (v / 8) (by simp [hv8])
          have hyl := byteN_lt s (v / 8)
          rw [hxn] at hcellW
          rw [Nat.zero_add] at hcellW hfrW
          obtain ⟨y, hy⟩ : ∃ y, byteN s (v / 8) = y := ⟨_, rfl⟩
          rw [hy] at hcellW hyl
          have HoW := Lib.hid hoW
          have Hs := Lib.hid hs
          have Hy := Lib.hid hy
          clear hxn hxb eA hoW hs hy
          have hp2 : 2 ^ (v % 8) < 256 := by
            have h1 : (2 : Nat) ^ (v % 8) ≤ 2 ^ 7 := Nat.pow_le_pow_right (by omega) (by omega)
            have h2 : (2 : Nat) ^ 7 = 128 := rfl
            rw [h2] at h1
            exact Nat.lt_of_le_of_lt h1 (by omega)
          have hset := bytesN_set s sz v (by omega) hv8
          rw [Hy.out] at hset
          have eI : (2 : Int) ^ (v % 8) = ((2 ^ (v % 8) : Nat) : Int) := by simp
          obtain ⟨q, hqe⟩ : ∃ q : Nat, 2 ^ (v % 8) = q := ⟨_, rfl⟩
          rw [hqe] at hset eI hp2
          have hor8 : y ||| q < 256 := Nat.or_lt_two_pow (n := 8) hyl hp2
          obtain ⟨r, hr⟩ : ∃ r : Nat, y ||| q = r := ⟨_, rfl⟩
          rw [hr] at hset hor8
          have eor : Go.bits .or .u8 (y : Int) (2 ^ (v % 8) % 256) = (r : Int) := by
            rw [eI, ← hr, show (q : Int) % 256 = (q : Int) by omega]
            exact u8_or_nat y q hyl hp2
          have hst := OwnB.stored HoW.out (k := v / 8) hv9 r.toUInt8
          rw [Nat.zero_add, show (r.toUInt8.toNat : Int) = (r : Int) by simp; omega, List.set_append_left _ _ (by simp [hv8]), ← hset] at hst
          clear hset hqe eI hr
          have Hst := Lib.hid hst
          clear hst
          gi_wp2
          refine ⟨KeepsOthers.setCell _ _ _, Below.heap_setCell _ _ _ _ (by show _ ≠ w.heap.size; omega), ⟨?_, ?_, fun D hD => (KeepsOthers.setCell _ _ _).same D _ (hDW D hD) rfl⟩, hBW.setCell (p := ⟨w.heap.size, v / 8, none⟩) (Nat.le_refl _) _⟩
          · exact (World.cell?_of_block (a := ⟨w.heap.size + 1, 0, none⟩) (Below.heap_setCell _ _ _ _ (by show w.heap.size + 1 ≠ w.heap.size; omega))).trans hcW
          · rw [List.map_append, List.map_cons, List.map_nil, setAll_snoc, Hs.out]
            exact Hst.out
        case done =>
          rintro D ys W hD rfl ⟨⟨hcW, hoW, hDW⟩, hBW⟩ hK
          gi_wp2
          refine ⟨⟨j + 1, D :: Ds, ⟨by simp, rfl⟩, by omega, ?_, List.nodup_cons.2 ⟨fun h1 => ?_, hnd⟩, fun D' hD' => ?_⟩, ?_⟩
          · rw [take_snoc _ _ hkl, List.flatMap_append, setAll_append]
            rw [comeL_val] at hoW
            simpa using hoW
          · have h2 := (hD4 D h1).1
            omega
          · rcases List.mem_cons.1 hD' with rfl | h1
            · exact ⟨by have := hB4.size; omega, hK⟩
            · exact ⟨(hDs D' h1).1, hDW D' h1⟩
          · simp [intOf]
            omega
        case stop =>
          rintro D cd pre W _ _ hf _
          exact hf.elim
      · obtain rfl : j = n := by omega
        rw [List.take_of_length_le (show keys.length ≤ j by have := Hl.out; omega)] at hor
        gi_wp2
        refine leaves_all Ds wr hnd (fun D hD => (hDs D hD).2) (fun W' h1 h2 h3 h4 h5 => ?_)
        refine ⟨_, results_tmp rfl _ _ _, _, _, _, rfl, Own.keep hor (fun b hb => h5 b (fun hm => ?_)), ?_⟩
        · obtain ⟨g, o, cur, e1, _, hh, _⟩ := Own.row hor (by omega)
          simp [blk] at hb
          obtain ⟨rfl, rfl⟩ : w.heap.size = g ∧ 0 = o := by simpa using e1
          subst hb
          rw [(hDs _ hm).2] at hh
          cases hh
        · exact ⟨h1.trans hbr.os, h2.trans hbr.tape, h3.trans hbr.output, by rw [h4]; exact hbr.size, fun k hk => (h5 k (fun hm => by have := (hDs k hm).1; omega)).trans (hbr.block k hk)⟩
  refine Code.wpIn_mono calm_post ?_
  gi_region_with_o (refine ⟨trivial, ?_⟩; gi_at_call 88; refine (callsIn_wide.2 (Hpb.out _)).mono ?_; rintro e w' ⟨rfl, rfl⟩)
  all_goals
    refine calm_normal ?_
    have hs := OwnB.stored Ho2.out (k := sz) (by omega) p.toUInt8
    rw [Nat.zero_add, show (p.toUInt8.toNat : Int) = (p : Int) by simp; omega] at hs
    refine hrest _ _ _ _ _ _ _ _ _ _ _ _ _ _ _ _ _ _ _ _ _ _ _ _ _ _ _ _ _ _ _ _ _ _ _ _ _ _ _ _ _ _ _ _ _ _ _ _ _ ?_ ?_ ?_
    · exact (hb2.setCell (p := ⟨w.heap.size, sz, none⟩) (Nat.le_refl _) _).drew
    · exact (World.cell?_of_block (a := ⟨w.heap.size + 1, 0, none⟩) (Below.heap_setCell _ _ _ _ (by show w.heap.size + 1 ≠ w.heap.size; omega))).trans Hco.out
    · rw [bytesN_none]
      have e : (List.replicate (sz + 1) (0 : UInt8)).set sz p.toUInt8 = List.replicate sz 0 ++ [p.toUInt8] := by
        rw [List.replicate_succ', List.set_append_right _ _ (by simp)]
        simp
      rw [e] at hs
      exact hs.drew
end Go.Proofs.YtpffieogkfndaaaGreatDoor
