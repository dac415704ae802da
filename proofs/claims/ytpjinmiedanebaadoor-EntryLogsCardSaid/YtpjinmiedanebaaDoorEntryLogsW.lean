/-
  The walk of EntryLogs: it returns true at every input. (Printed by genlogs.py.) The table lies in its variable; else no condition.
-/
import Derived.Test.YtpjinmiedanebaaDoorJTornRel
import Derived.Test.YtpjinmiedanebaaDoorJLogW
namespace Go.Proofs.YtpjinmiedanebaaDoor
open Go.RowKit
set_option maxRecDepth 100000
theorem reads_take {P : List UInt8} {k a e : Nat} {rs : List (List UInt8)} (h : Reads (P.take k) a rs e) : Reads P a rs e := by
  induction h with
  | nil a => exact .nil a
  | cons a r rs e h0 _ ih =>
    refine .cons a r rs e ⟨h0.1, h0.2.trans ?_⟩ ih
    rw [List.drop_take]
    exact List.take_prefix _ _
/-- of a beginning of notes' log the notes that lie whole in it are replayed -/
theorem replay_cut (ks : List NoteL) (hf : ∀ x ∈ ks, formL x = true) (k : Nat) {rs : List (List UInt8)} {e : Nat} (h : Reads ((allL (ks.map noteBytesL)).take k) 0 rs e) : rs.length ≤ ks.length ∧ replayL rs = ks.take rs.length := by
  have hl : ∀ l ∈ ks.map noteBytesL, l.length ≤ 65536 := fun l hl => by
    obtain ⟨x, hx, rfl⟩ := List.mem_map.1 hl
    have := noteBytes_le x (hf x hx)
    omega
  have h5 := reads_all (ks.map noteBytesL) hl (allL (ks.map noteBytesL)) (ks.map noteBytesL).length (Nat.le_refl _) (by rw [List.take_length]; exact List.prefix_rfl)
  rw [List.take_length] at h5
  have hp := reads_prefix (reads_take h) h5 (stuck_end (Nat.le_refl _))
  have e1 := List.prefix_iff_eq_take.1 hp
  have h6 := hp.length_le
  rw [List.length_map] at h6
  refine ⟨h6, ?_⟩
  rw [e1, ← List.map_take, replay_back _ fun x hx => hf x (List.mem_of_mem_take hx), List.length_map, List.length_take]
  congr 1
  omega
/-- what is known behind j notes, all of them right -/
def LogsRel (w3 : World) (ks : List NoteL) (n1 : Nat) (rv wv iv : Value) (wr : World) : Prop :=
  ∃ (j : Nat) (Ar : Option Addr) (nr cr : Nat) (vs2 : List Value), iv = .int .i64 (j : Int) ∧ rv = .slice Ar nr cr ∧ wv = .int .i64 0 ∧ j ≤ n1 ∧ Below w3.heap.size w3 wr ∧
    OwnP wr w3.heap.size Ar nr cr vs2 ∧ OwnParts wr w3.heap.size none vs2 ((ks.take j).map noteBytesL) ∧ Hid (∀ x ∈ ks.take j, formL x = true)
set_option maxHeartbeats 32000000 in
theorem entryLogs.walk (w : World) (A : Option Addr) (n c : Nat) (ls : List NoteL) (h : SlR w (fun _ => True) A n c ls) (at_ : Nat) (hat : at_ < 65536) (hq : Quarter w) :
    Calls Tryd.prog 5 #[.slice A n c, .int .u16 (at_ : Int)] w fun e w' => e = .returned (.bool true) ∧ Below w.heap.size w w' := by
  go_enter Tryd.func5, Tryd.ntmps5
  go_wp2_with fail
  refine (awake07 w).mono ?_
  rintro e w0 ⟨rfl, hb0⟩
  have h0 := h.below hb0
  go_wp2_with fail
  refine (fewnotes_any w0 _ A n c ls 10 h0 (by omega)).mono ?_
  rintro e w1 ⟨A1, n1, c1, rfl, ho1, hb1⟩
  have hl8 : (fewNotes ls 10).length ≤ 10 := by unfold fewNotes; simp; omega
  generalize fewNotes ls 10 = ks at *
  have h1 := ho1.sl
  have hl1 := h1.lenR
  have hn1 : n1 ≤ 10 := by omega
  have hbw1 := hb0.trans (hb1.mono hb0.size)
  have hq1 := hq.below hbw1
  have Hl1 := Lib.hid hl1
  have hcp1 := h1.cap
  unfold maxLen at hcp1
  clear h h0 hb0 hb1 ho1 hl1 hl8
  go_wp2_with fail
  refine (of_any w1 A1 n1 c1 ks h1 (by omega)).mono ?_
  rintro e w2 ⟨A2, n2, c2, rfl, ho2, hb2⟩
  have h2 := ho2.sl
  have hn2 : n2 ≤ 10 := by have := h2.lenR; have := Hl1.out; omega
  have hbw2 := hbw1.trans (hb2.mono hbw1.size)
  have k3 := log_any w2 A2 n2 c2 ks h2 (hq1.below hb2) hn2
  obtain ⟨pl, hpl⟩ : ∃ pl, (logBE ks).1 = pl := ⟨_, rfl⟩
  obtain ⟨pe, hpe⟩ : ∃ pe, (logBE ks).2 = pe := ⟨_, rfl⟩
  rw [hpl, hpe] at k3
  unfold GotBE at k3
  have K3 := Lib.hid k3
  have hlog : ((∀ x ∈ ks, formL x = true) → pl = allL (ks.map noteBytesL) ∧ pe = 0) ∧ ((∃ x ∈ ks, ¬ formL x = true) → pl = [] ∧ pe = 4) := by
    subst hpl hpe
    unfold logBE
    constructor
    · intro g
      rw [if_pos (List.all_eq_true.2 g)]
      exact ⟨rfl, rfl⟩
    · rintro ⟨x, hx, hf⟩
      rw [if_neg (fun q => hf (List.all_eq_true.1 q x hx))]
      exact ⟨rfl, rfl⟩
  have Hlog := Lib.hid hlog
  clear k3 hpl hpe hlog ho2 h2
  go_wp2_with fail
  refine K3.out.mono ?_
  rintro e w3 ⟨A3, n3, c3, rfl, ho3, hb3⟩
  have hb13 := hb2.trans (hb3.mono hb2.size)
  have hbw3 := hbw1.trans (hb13.mono hbw1.size)
  have s3 := OwnB.sl ho3
  have h1 := h1.below hb13
  have hq3 := hq1.below hb13
  clear ho3 hb2 hb3 hb13 hq1 hbw2 K3
  go_wp2
  go_loopw [7, 8, 32] (LogsRel w3 ks n1) (fun _ _ q _ => n1 - (intOf q).toNat)
  case atStart => exact ⟨0, none, 0, 0, [], rfl, rfl, rfl, Nat.zero_le _, Below.refl _ _, Own.nil _ _ _ _ _, OwnParts.nil _ _ _, fun x hx => by simp at hx⟩
  case round =>
    obtain ⟨j, Ar, nr, cr, vs2, rfl, rfl, rfl, hj, hbr, hoP, hpP, HFJ⟩ := hrel
    by_cases hlt : j < n1
    case pos =>
      have hnr : nr ≤ 10 := by
        have h2 := Own.sl hoP |>.len
        have h4 := hpP.1
        rw [List.length_map, List.length_take] at h4
        omega
      have hr : SlR wr (fun _ => True) A1 n1 c1 ks := h1.below hbr
      obtain ⟨b, o, A5, n5, c5, A6, n6, c6, hjl, rfl, d0, d1, d2, d3, s5, h5, s6⟩ := hr.noteAtP hlt
      clear hr h5
      have hst : ks.take (j + 1) = ks.take j ++ [ks[j]] := List.take_succ_eq_append_getElem hjl
      have hmem : ks[j] ∈ ks := List.getElem_mem hjl
      generalize hx : ks[j] = x at *
      clear hx
      have al := (Below.refl wr.heap.size wr).alloc (Nat.le_refl _) (.cells #[.int .u8 (x.kind.toNat : Int), .int .u64 (x.seq.toNat : Int), .slice A5 n5 c5, .slice A6 n6 c6] 41)
      have hcn := rnbytes_any (wr.alloc (.cells #[.int .u8 (x.kind.toNat : Int), .int .u64 (x.seq.toNat : Int), .slice A5 n5 c5, .slice A6 n6 c6] 41)) _ A5 n5 c5 A6 n6 c6 x (s5.below (by omega) al) (s6.below al)
      generalize hd : x.kind.toNat = d at *
      generalize hs : x.seq.toNat = s at *
      have kB := Bx4.fresh wr (.int .u8 (d : Int)) (.int .u64 (s : Int)) (.slice A5 n5 c5) (.slice A6 n6 c6) 41
      have hoP := Own.below hoP al
      have hpP := hpP.below al
      have hbr6 := hbr.trans (al.mono hbr.size)
      have s3 := s3.below (by omega) hbr6
      generalize hW : (wr.alloc (.cells #[.int .u8 (d : Int), .int .u64 (s : Int), .slice A5 n5 c5, .slice A6 n6 c6] 41)) = w6 at *
      clear al hd hs s5 s6
      obtain ⟨x0, x1, x2, x3, x4⟩ := id kB
      by_cases hf : formL x = true
      case neg =>
        rw [show noteBE x = ([], 4) by unfold noteBE; rw [if_neg hf]] at hcn
        unfold GotBE at hcn
        have Hcn := Lib.hid hcn
        obtain ⟨rfl, rfl⟩ := Hlog.out.2 ⟨x, hmem, hf⟩
        obtain rfl : n3 = 0 := by have := s3.lenb; simpa using this.symm
        clear hcn hf hst hmem Hlog
        go_wp2_with fail
        try rw [hW]
        refine Hcn.out.mono ?_
        rintro e w7 ⟨A7, n7, c7, rfl, ho7, hb7⟩
        have hb9 := hbr6.trans (hb7.mono hbr6.size)
        have hbz := hbw3.trans (hb9.mono hbw3.size)
        clear x0 x1 x2 x3 x4 d0 d1 d2 d3 kB ho7 hb7
        go_wp2
        go_ret
        exact ⟨rfl, hbz⟩
      rw [show noteBE x = (noteBytesL x, 0) by unfold noteBE; rw [if_pos hf]] at hcn
      unfold GotBE at hcn
      have Hcn := Lib.hid hcn
      have hfe : (ks.take (j + 1)).map noteBytesL = (ks.take j).map noteBytesL ++ [noteBytesL x] := by rw [hst, List.map_append]; rfl
      have HF := Lib.hid hfe
      have hfj : ∀ y ∈ ks.take (j + 1), formL y = true := by
        rw [hst]
        intro y hy
        rcases List.mem_append.1 hy with hy | hy
        · exact HFJ.out y hy
        · rw [List.mem_singleton.1 hy]; exact hf
      have HFJ2 := Lib.hid hfj
      clear hcn hf hfe hst hmem hfj HFJ
      go_wp2_with fail
      try rw [hW]
      refine Hcn.out.mono ?_
      rintro e w7 ⟨A7, n7, c7, rfl, ho7, hb7⟩
      have hb8 := hbr6.trans (hb7.mono hbr6.size)
      have ho5 := Own.below hoP hb7
      have hp5 := hpP.below hb7
      have hsz := hbr6.size
      have hba := (Below.refl w7.heap.size w7).alloc (Nat.le_refl _) (.cells #[.slice A7 n7 c7] 22)
      have hlit := Own.lit w7 w3.heap.size 22 1 #[.slice A7 n7 c7] [.slice A7 n7 c7] hb8.size rfl (by unfold maxLen; omega) rfl
      have hoQ : OwnP (w7.alloc (.cells #[.slice A7 n7 c7] 22)) w3.heap.size Ar nr cr vs2 := Own.below ho5 hba
      have hpQ := hp5.below hba
      have hoN := Own.below ho7 hba
      clear x0 x1 x2 x3 x4 d0 d1 d2 d3 kB hb7 ho5 hp5 ho7 Hcn hoP hpP
      go_wp2_with (at_builtin; refine wpList_appP _ rfl (.tmp 44) (.tmp 46) rfl w3.heap.size Ar nr cr _ rfl hoQ _ 1 1 [.slice A7 n7 c7] rfl hlit.sl (one_cell _ _ _) ?_ ?_ ?_)
      · omega
      · have := hb8.size; rw [World.size_alloc]; omega
      intro A9 c9 w9 ho9 hg9 _
      have hb9 := (hb8.alloc hb8.size (.cells #[.slice A7 n7 c7] 22)).grown hg9 (by have := hb8.size; rw [World.size_alloc]; omega) (fun q hq => (Own.lt hoQ q hq).1)
      have hpN := (hpQ.wroteRow hoQ (by decide) hg9).snoc (Own.mono (Own.grown hoN hg9 (own_apart hoN hoQ (by decide))) hsz) (fun b hb => by simp)
      have Ho9 := Lib.hid ho9
      have HpN := Lib.hid hpN
      clear ho9 hpN hoQ hpQ hoN hg9 hlit hba
      go_wp2
      go_roundw
      case rel => exact ⟨j + 1, A9, _, c9, _, by go_num, rfl, rfl, by omega, hb9, Ho9.out, by rw [HF.out]; exact HpN.out, HFJ2.out⟩
      case measure => simp [intOf]; omega
    obtain rfl : n1 = j := by omega
    obtain ⟨wo, rfl⟩ : ∃ wo : World, wo = wr := ⟨_, rfl⟩
    have hfj := HFJ.out
    rw [List.take_of_length_le (show ks.length ≤ n1 by have := Hl1.out; omega)] at hpP hfj
    obtain ⟨rfl, rfl⟩ := Hlog.out.1 hfj
    have HFK := Lib.hid hfj
    clear Hlog HFJ hfj
    obtain ⟨rl, hrl⟩ : ∃ rl, ks.map noteBytesL = rl := ⟨_, rfl⟩
    rw [hrl] at hpP s3
    have hlong : ∀ l ∈ rl, l.length ≤ 45000 := fun l hl => by
      rw [← hrl] at hl
      obtain ⟨x, hx, rfl⟩ := List.mem_map.1 hl
      exact noteBytes_le x (HFK.out x hx)
    have hlen : rl.length = n1 := by rw [← hrl, List.length_map]; exact Hl1.out
    have hall : ∀ k, (allL (rl.take k)).length ≤ 900200 := fun k => by
      have h2 := allL_len2 45000 rl hlong (min k 10)
      have h3 : rl.take k = rl.take (min k 10) := by
        rcases Nat.le_total k 10 with q | q
        · rw [Nat.min_eq_left q]
        · rw [Nat.min_eq_right q, List.take_of_length_le (by omega), List.take_of_length_le (by omega)]
      rw [h3]
      have : (2 * 45000 + 20) * min k 10 ≤ (2 * 45000 + 20) * 10 := Nat.mul_le_mul_left _ (Nat.min_le_right _ _)
      omega
    have hsP := Own.sl hoP
    have hps := hpP.parts
    have hnr : nr = rl.length := by have h2 := hsP.len; have h3 := hps.1; omega
    have hnr8 : nr ≤ 10 := by omega
    have hn3 : (allL rl).length = n3 := s3.lenb
    have hn3l : n3 ≤ 900200 := by have h2 := hall n1; rw [List.take_of_length_le (by omega)] at h2; omega
    have Hn3 := Lib.hid hn3
    have Hrl := Lib.hid hrl
    have Hlong := Lib.hid hlong
    have Hall := Lib.hid hall
    have hqr := hq3.below hbr
    have hbwr := hbw3.trans (hbr.mono hbw3.size)
    have s3 := s3.below (by omega) hbr
    have h1 := h1.below hbr
    have hcap3 := s3.cap
    have hcm3 := s3.capm
    unfold maxLen at hcm3
    clear hlong hall hnr hrl hlen hoP hpP hn3 hbr hbw3 hq3
    go_wp2_with fail
    refine (rall_gen wo Ar nr cr vs2 rl hsP hps (fun l hl => by have := Hlong.out l hl; omega) (fun k => by have := Hall.out k; omega) (by omega)).mono ?_
    rintro e w4 ⟨A4, n4, c4, rfl, ho4, hb4⟩
    have s4 := OwnB.sl ho4
    have s3 := s3.below (by omega) hb4
    have h1 := h1.below hb4
    have hqr := hqr.below hb4
    have hbwr := hbwr.trans (hb4.mono hbwr.size)
    clear ho4 hb4 hsP hps
    go_wp2_with fail
    refine (same_is w4 A3 n3 c3 _ A4 n4 c4 _ true (by unfold Hid; simp) s3 s4).mono ?_
    rintro e w' ⟨rfl, rfl⟩
    clear s4
    have k6 := replay_any w4 A3 n3 c3 _ s3 hqr (by omega)
    have K6 := Lib.hid k6
    clear k6
    go_wp2_with fail
    refine K6.out.mono ?_
    rintro e w5 ⟨rs, z, A7, n7, c7, hrt, rfl, s7, hb5⟩
    obtain ⟨hrs, -⟩ := back_all rl (fun l hl => by have := Hlong.out l hl; omega) hrt
    rw [hrs, ← Hrl.out, replay_back ks HFK.out] at s7
    have s7 := s7.mono (q := fun _ => True) fun _ _ _ => trivial
    have hn7 : n7 = n1 := by have h2 := s7.lenR; have := Hl1.out; omega
    subst hn7
    have s3 := s3.below (by omega) hb5
    have h1 := h1.below hb5
    have hqr := hqr.below hb5
    have hbwr := hbwr.trans (hb5.mono hbwr.size)
    clear hrs hrt hb5 K6
    obtain ⟨k, hk, hkl⟩ : ∃ k, at_ % (n3 + 1) = k ∧ k ≤ n3 := ⟨_, rfl, by have := Nat.mod_lt at_ (show 0 < n3 + 1 by omega); omega⟩
    have ecut : (at_ : Int) % ((n3 : Int) + 1) = (k : Int) := by rw [← hk]; simp
    have dn0 : ((n3 : Int) + 1 == 0) = false := by simp; omega
    obtain ⟨r1, s1⟩ := cutH s3 .i64 (k : Int) k rfl hkl
    clear hk
    have k6 := replay_any w5 A3 k c3 _ s1 hqr (by omega)
    have K6 := Lib.hid k6
    clear k6
    go_wp2_with fail
    try rw [ecut]
    refine K6.out.mono ?_
    rintro e w6 ⟨rs2, z2, A8, n8, c8, hrt2, rfl, s8, hb6⟩
    obtain ⟨e1, hr1, hk1, he1, -⟩ := id hrt2
    have s8 := s8.mono (q := fun _ => True) fun _ _ _ => trivial
    have s7 := s7.below hb6
    have s1 := s1.below (by omega) hb6
    have h1 := h1.below hb6
    have hbwr := hbwr.trans (hb6.mono hbwr.size)
    have Hr1 := Lib.hid hr1
    have Hk1 := Lib.hid hk1
    clear hr1 hk1 he1 hrt2 hb6 K6 s3
    have k7 := rreelread_any w6 A3 k c3 _ s1 (by omega)
    have K7 := Lib.hid k7
    clear k7
    go_wp2_with fail
    try rw [ecut]
    refine K7.out.mono ?_
    rintro e w7 ⟨rs3, e3, z3, A9, n9, c9, vs9, hr3, hk3, _, rfl, ho9, hp9, hb7⟩
    obtain ⟨rfl, -⟩ := reads_one hr3 hk3 Hr1.out Hk1.out
    have hn9 : n9 = rs3.length := by have h2 := ho9.len; have h3 := hp9.1; omega
    have hrc := hr3
    rw [← Hrl.out] at hrc
    obtain ⟨hm1, hm2⟩ := replay_cut ks HFK.out k hrc
    rw [hm2] at s8
    have hn8 : n8 = n9 := by have h2 := s8.lenR; rw [List.length_take] at h2; omega
    rw [← hn9, ← hn8] at s8
    have hn8l : n8 ≤ n7 := by have := Hl1.out; omega
    subst hn8
    have s8 := s8.below hb7
    have s7 := s7.below hb7
    have h1 := h1.below hb7
    have hbwr := hbwr.trans (hb7.mono hbwr.size)
    have hcap1 := hcp1.1
    have r3 := fun w => cutHN (A := A1) (n := n7) (c := c1) .i64 (n8 : Int) n8 rfl hn8l hcap1 w
    have dn7 : ((n7 : Int) == (n7 : Int)) = true := by simp
    have dn8 : ((n8 : Int) == (n8 : Int)) = true := by simp
    clear hm1 hm2 hrc hr3 hk3 Hr1 Hk1 hn9 ho9 hp9 hb7 K7 s1 r1 ecut dn0
    have s7d := s7.below (Below.refl w7.heap.size w7).drew
    have s8d := s8.below (Below.refl w7.heap.size w7).drew
    have h1d := h1.below (Below.refl w7.heap.size w7).drew
    have hbwd := hbwr.drew
    go_wp2_with fail
    refine wp_region_any (by kernel_rfl) ?_
    try (change wpAny _ _ _ _ _ _ _ (World.drew _))
    refine wpAny_take (i := 0) (v := ?_) rfl (by kernel_rfl) (by kernel_rfl) (by kernel_rfl) (fun _ _ _ h => h) (Or.inl ⟨by kernel_rfl, ?_⟩) ?_
    case refine_2 => ((intro w; go_simp); try with_reducible rfl)
    refine wpAny_take (i := 2) (v := ?_) rfl (by kernel_rfl) (by kernel_rfl) (by kernel_rfl) (fun _ _ _ h => h) (Or.inl ⟨by kernel_rfl, ?_⟩) ?_
    case refine_2 => ((intro w; go_simp); try with_reducible rfl)
    refine wpAny_ready (rs := [1]) (by kernel_rfl) (by simp) ?_
    refine AllReady.cons rfl (fun K hK => ?_) AllReady.nil
    go_simp
    refine (back_any _ A7 n7 c7 _ s7d (by omega)).mono ?_
    rintro e wa ⟨Aa, na, ca, rfl, hoa, hba⟩
    go_simp
    refine hK _ _ ?_
    clear hK K
    refine wpAny_ready (rs := [3]) (by kernel_rfl) (by simp) ?_
    refine AllReady.cons rfl (fun K hK => ?_) AllReady.nil
    go_simp
    refine (samenotes_is wa _ Aa na ca _ hoa.sl _ A1 n7 c1 (h1d.below hba)).mono ?_
    rintro e wb ⟨rfl, hbb⟩
    go_simp
    refine hK _ _ ?_
    clear hK K
    refine wpAny_take (i := 4) (v := ?_) rfl (by kernel_rfl) (by kernel_rfl) (by kernel_rfl) (fun _ _ _ h => h) (Or.inl ⟨by kernel_rfl, ?_⟩) ?_
    case refine_2 => ((intro w; go_simp); try with_reducible rfl)
    refine wpAny_take (i := 5) (v := ?_) rfl (by kernel_rfl) (by kernel_rfl) (by kernel_rfl) (fun _ _ _ h => h) (Or.inl ⟨by kernel_rfl, ?_⟩) ?_
    case refine_2 => ((intro w; go_simp); try with_reducible rfl)
    refine wpAny_take (i := 6) (v := ?_) rfl (by kernel_rfl) (by kernel_rfl) (by kernel_rfl) (fun _ _ _ h => h) (Or.inl ⟨by kernel_rfl, ?_⟩) ?_
    case refine_2 => ((intro w; go_simp); try with_reducible rfl)
    refine wpAny_take (i := 7) (v := ?_) rfl (by kernel_rfl) (by kernel_rfl) (by kernel_rfl) (fun _ _ _ h => h) (Or.inl ⟨by kernel_rfl, ?_⟩) ?_
    case refine_2 => ((intro w; go_simp); try with_reducible rfl)
    refine wpAny_take (i := 8) (v := ?_) rfl (by kernel_rfl) (by kernel_rfl) (by kernel_rfl) (fun _ _ _ h => h) (Or.inl ⟨by kernel_rfl, ?_⟩) ?_
    case refine_2 => ((intro w; go_simp); try with_reducible rfl)
    refine wpAny_take (i := 9) (v := ?_) rfl (by kernel_rfl) (by kernel_rfl) (by kernel_rfl) (fun _ _ _ h => h) (Or.inl ⟨by kernel_rfl, ?_⟩) ?_
    case refine_2 => ((intro w; go_simp); try with_reducible rfl)
    refine wpAny_take (i := 10) (v := ?_) rfl (by kernel_rfl) (by kernel_rfl) (by kernel_rfl) (fun _ _ _ h => h) (Or.inl ⟨by kernel_rfl, ?_⟩) ?_
    case refine_2 => ((intro w; go_simp); try with_reducible rfl)
    refine wpAny_take (i := 11) (v := ?_) rfl (by kernel_rfl) (by kernel_rfl) (by kernel_rfl) (fun _ _ _ h => h) (Or.inl ⟨by kernel_rfl, ?_⟩) ?_
    case refine_2 => ((intro w; go_simp); try with_reducible rfl)
    refine wpAny_take (i := 13) (v := ?_) rfl (by kernel_rfl) (by kernel_rfl) (by kernel_rfl) (fun _ _ _ h => h) (Or.inl ⟨by kernel_rfl, ?_⟩) ?_
    case refine_2 => ((intro w; go_simp); try with_reducible rfl)
    refine wpAny_take (i := 14) (v := ?_) rfl (by kernel_rfl) (by kernel_rfl) (by kernel_rfl) (fun _ _ _ h => h) (Or.inl ⟨by kernel_rfl, ?_⟩) ?_
    case refine_2 => ((intro w; go_simp); try with_reducible rfl)
    refine wpAny_take (i := 15) (v := ?_) rfl (by kernel_rfl) (by kernel_rfl) (by kernel_rfl) (fun _ _ _ h => h) (Or.inl ⟨by kernel_rfl, ?_⟩) ?_
    case refine_2 => ((intro w; go_simp); try with_reducible rfl)
    refine wpAny_take (i := 16) (v := ?_) rfl (by kernel_rfl) (by kernel_rfl) (by kernel_rfl) (fun _ _ _ h => h) (Or.inl ⟨by kernel_rfl, ?_⟩) ?_
    case refine_2 => ((intro w; go_simp); try with_reducible rfl)
    refine wpAny_ready (rs := [12]) (by kernel_rfl) (by simp) ?_
    refine AllReady.cons rfl (fun K hK => ?_) AllReady.nil
    go_simp
    refine (back_any wb A8 n8 c8 _ ((s8d.below hba).below hbb) (by omega)).mono ?_
    rintro e we ⟨Ae, ne, ce, rfl, hoe, hbe⟩
    go_simp
    refine hK _ _ ?_
    clear hK K
    refine wpAny_ready (rs := [17]) (by kernel_rfl) (by simp) ?_
    refine AllReady.cons rfl (fun K hK => ?_) AllReady.nil
    go_simp
    refine (samenotes_is we _ Ae ne ce _ hoe.sl _ A1 n8 c1 ((((h1d.below hba).below hbb).below hbe).take hn8l)).mono ?_
    rintro e wf ⟨rfl, hbf⟩
    go_simp
    refine hK _ _ ?_
    clear hK K
    refine wpAny_take (i := 18) (v := ?_) rfl (by kernel_rfl) (by kernel_rfl) (by kernel_rfl) (fun _ _ _ h => h) (Or.inl ⟨by kernel_rfl, ?_⟩) ?_
    case refine_2 => ((intro w; go_simp); try with_reducible rfl)
    refine wpAny_take (i := 19) (v := ?_) rfl (by kernel_rfl) (by kernel_rfl) (by kernel_rfl) (fun _ _ _ h => h) (Or.inl ⟨by kernel_rfl, ?_⟩) ?_
    case refine_2 => ((intro w; go_simp); try with_reducible rfl)
    refine wpAny_take (i := 20) (v := ?_) rfl (by kernel_rfl) (by kernel_rfl) (by kernel_rfl) (fun _ _ _ h => h) (Or.inl ⟨by kernel_rfl, ?_⟩) ?_
    case refine_2 => ((intro w; go_simp); try with_reducible rfl)
    refine wpAny_take (i := 21) (v := ?_) rfl (by kernel_rfl) (by kernel_rfl) (by kernel_rfl) (fun _ _ _ h => h) (Or.inl ⟨by kernel_rfl, ?_⟩) ?_
    case refine_2 => ((intro w; go_simp); try with_reducible rfl)
    refine wpAny_take (i := 22) (v := ?_) rfl (by kernel_rfl) (by kernel_rfl) (by kernel_rfl) (fun _ _ _ h => h) (Or.inl ⟨by kernel_rfl, ?_⟩) ?_
    case refine_2 => ((intro w; go_simp); try with_reducible rfl)
    refine wpAny_take (i := 23) (v := ?_) rfl (by kernel_rfl) (by kernel_rfl) (by kernel_rfl) (fun _ _ _ h => h) (Or.inl ⟨by kernel_rfl, ?_⟩) ?_
    case refine_2 => ((intro w; go_simp); try with_reducible rfl)
    refine wpAny_take (i := 24) (v := ?_) rfl (by kernel_rfl) (by kernel_rfl) (by kernel_rfl) (fun _ _ _ h => h) (Or.inl ⟨by kernel_rfl, ?_⟩) ?_
    case refine_2 => ((intro w; go_simp); try with_reducible rfl)
    refine wpAny_take (i := 25) (v := ?_) rfl (by kernel_rfl) (by kernel_rfl) (by kernel_rfl) (fun _ _ _ h => h) (Or.inl ⟨by kernel_rfl, ?_⟩) ?_
    case refine_2 => ((intro w; go_simp); try with_reducible rfl)
    refine wpAny_done (by kernel_rfl) ?_ _
    try simp only [List.getElem_toArray, List.getElem_cons_succ, List.getElem_cons_zero, Act.put, List.setIfInBounds_toArray, List.set_cons_zero, List.set_cons_succ]
    go_wp2
    go_ret
    have z1 := hbwd.trans (hba.mono hbwd.size)
    have z2 := z1.trans (hbb.mono z1.size)
    have z3 := z2.trans (hbe.mono z2.size)
    refine ⟨?_, z3.trans (hbf.mono z3.size)⟩
    go_simp
end Go.Proofs.YtpjinmiedanebaaDoor
