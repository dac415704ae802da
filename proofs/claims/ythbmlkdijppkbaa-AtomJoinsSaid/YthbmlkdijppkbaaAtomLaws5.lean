/-
  The walk of AtomJoins: it returns true at every input. No condition.
-/
import Derived.Test.YthbmlkdijppkbaaAtomJoin
import Derived.Test.YthbmlkdijppkbaaAtomAwake
namespace Go.Proofs.Ythbmlkdijppkbaa
open Go.RowKit

/-- values that are bytes -/
theorem bytes_of : ∀ (xs : List Value), (∀ (i : Nat) (v : Value), xs[i]? = some v → ∃ x : UInt8, v = .int .u8 (x.toNat : Int)) → ∃ l, xs = bc l
  | [], _ => ⟨[], rfl⟩
  | v :: t, h => by
    obtain ⟨x, rfl⟩ := h 0 v rfl
    obtain ⟨l, rfl⟩ := bytes_of t (fun i u hu => h (i + 1) u (by simpa using hu))
    exact ⟨x :: l, rfl⟩
/-- a byte was written somewhere: bytes of one's own are bytes of one's own -/
theorem OwnB.turned {w : World} {B : Nat} {A : Option Addr} {n c : Nat} {l : List UInt8} (h : OwnB w B A n c l) (g o : Nat) (x : UInt8) : ∃ l', OwnB (w.setCell ⟨g, o, none⟩ (.int .u8 (x.toNat : Int))) B A n c l' := by
  by_cases hb : blk A c = some g
  · have hc : 0 < c := by
      unfold blk at hb
      split at hb
      · cases hb
      · omega
    obtain ⟨g', o', cur, rfl, hB, hh, hf, ht⟩ := Own.row h hc
    have hgg : g' = g := by
      unfold blk at hb
      rw [if_neg (by omega)] at hb
      simpa using hb
    subst hgg
    have hn := Own.len h
    have hcap := Own.cap h
    obtain ⟨l', hl'⟩ := bytes_of (((cur.setIfInBounds o (.int .u8 (x.toNat : Int))).toList.drop o').take (n * 1)) (fun i v hv => by
      rw [Array.toList_setIfInBounds, List.getElem?_take] at hv
      split at hv
      · rename_i hi
        rw [List.getElem?_drop, List.getElem?_set] at hv
        split at hv
        · split at hv
          · exact ⟨x, (Option.some.inj hv).symm⟩
          · cases hv
        · have h1 : (bc l)[i]? = some v := by
            rw [← ht, List.getElem?_take, if_pos hi, List.getElem?_drop]
            exact hv
          rw [bc_get] at h1
          obtain ⟨y, _, rfl⟩ := Option.map_eq_some_iff.1 h1
          exact ⟨y, rfl⟩
      · cases hv)
    refine ⟨l', ?_, hcap, Own.capm h, fun _ => ⟨g', o', cur.setIfInBounds o (.int .u8 (x.toNat : Int)), rfl, hB, ?_, by simpa using hf, hl'⟩⟩
    · rw [← hl']
      simp
      omega
    · simp [World.setCell, Array.getElem?_modify, hh]
  · exact ⟨l, Own.keep h (fun b k => Below.heap_setCell _ _ _ _ (by
      show b ≠ g
      intro e
      subst e
      exact hb k))⟩
/-- rows of bytes that may be written, all below block Y, none in block X -/
def WP (w : World) (B Y : Nat) (X : Option Nat) (vs : List Value) : Prop :=
  ∀ (i : Nat) (v : Value), vs[i]? = some v → ∃ (A : Option Addr) (n c : Nat) (l : List UInt8), v = .slice A n c ∧ OwnB w B A n c l ∧ ∀ b, blk A c = some b → b < Y ∧ X ≠ some b
theorem WP.turned {w : World} {B Y : Nat} {X : Option Nat} {vs : List Value} (h : WP w B Y X vs) (g o : Nat) (x : UInt8) : WP (w.setCell ⟨g, o, none⟩ (.int .u8 (x.toNat : Int))) B Y X vs := fun i v hv => by
  obtain ⟨A, n, c, l, e, ho, hb⟩ := h i v hv
  obtain ⟨l', ho'⟩ := ho.turned g o x
  exact ⟨A, n, c, l', e, ho', hb⟩
theorem WP.below {w w' : World} {B Y : Nat} {X : Option Nat} {vs : List Value} (h : WP w B Y X vs) (hb : Below w.heap.size w w') : WP w' B Y X vs := fun i v hv => by
  obtain ⟨A, n, c, l, e, ho, hx⟩ := h i v hv
  exact ⟨A, n, c, l, e, Own.below ho hb, hx⟩
/-- what holds while the parts are written -/
def JR (w0 : World) (B Y : Nat) (X : Option Nat) (A1 : Option Addr) (n1 c1 : Nat) (vs : List Value) (Ap : Option Addr) (np cp : Nat) (Aw : Option Addr) (nw cw : Nat) (F : List UInt8) (wr : World) : Prop :=
  Below B w0 wr ∧ OwnP wr B A1 n1 c1 vs ∧ WP wr B Y X vs ∧ OwnB wr Y Ap np cp F ∧ OwnB wr B Aw nw cw F
theorem JR.turned {w0 : World} {B Y : Nat} {A1 : Option Addr} {n1 c1 : Nat} {vs : List Value} {Ap : Option Addr} {np cp : Nat} {Aw : Option Addr} {nw cw : Nat} {F : List UInt8} {wr : World}
    (h : JR w0 B Y (blk Aw cw) A1 n1 c1 vs Ap np cp Aw nw cw F wr) {A : Option Addr} {n c : Nat} {l : List UInt8} (ho : OwnB wr B A n c l) {g : Nat} (hg : blk A c = some g) (h1 : g < Y) (h2 : blk Aw cw ≠ some g) (o : Nat) (x : UInt8) :
    JR w0 B Y (blk Aw cw) A1 n1 c1 vs Ap np cp Aw nw cw F (wr.setCell ⟨g, o, none⟩ (.int .u8 (x.toNat : Int))) := by
  obtain ⟨a1, a2, a3, a4, a5⟩ := h
  refine ⟨a1.setCell (p := ⟨g, o, none⟩) (Own.lt ho g hg).1 _, Own.keep a2 (fun b hb => Below.heap_setCell _ _ _ _ ?_), a3.turned g o x, Own.keep a4 (fun b hb => Below.heap_setCell _ _ _ _ ?_), Own.keep a5 (fun b hb => Below.heap_setCell _ _ _ _ ?_)⟩
  · show b ≠ g
    intro e
    subst e
    exact own_apart a2 ho (by decide) b hb hg
  · show b ≠ g
    have := (Own.lt a4 b hb).1
    omega
  · show b ≠ g
    intro e
    subst e
    exact h2 hb
/-- the parts, and what they make -/
def cutsL (ls : List (List UInt8)) : List (List UInt8) := ls.map fun l => l.take 100
theorem cutsL_snoc (ls : List (List UInt8)) (l : List UInt8) : cutsL (ls ++ [l]) = cutsL ls ++ [l.take 100] := by simp [cutsL]
theorem cutsL_flat (ls : List (List UInt8)) : (cutsL ls).flatten.length ≤ 100 * ls.length := by
  induction ls with
  | nil => simp [cutsL]
  | cons l t ih =>
    have e : cutsL (l :: t) = l.take 100 :: cutsL t := rfl
    rw [e, List.flatten_cons, List.length_append, List.length_cons]
    have : (l.take 100).length ≤ 100 := by simp; omega
    omega
set_option maxHeartbeats 8000000 in
theorem atomJoins.walk (w : World) (A : Option Addr) (n c : Nat) (vs : List Value) (ls : List (List UInt8)) (h : Sl w 1 A n c vs) (hp : PartsOf w vs ls) :
    Calls Try.prog 6 #[.slice A n c] w fun e w' => e = .returned (.bool true) ∧ Below w.heap.size w w' := by
  have hcap := h.cap
  have hcm := h.capm
  unfold maxLen at hcm
  obtain ⟨k, hk, hkn, hk30⟩ : ∃ k, min n 30 = k ∧ k ≤ n ∧ k ≤ 30 := ⟨_, rfl, by omega, by omega⟩
  have hs := (cutHP h .i64 k k rfl hkn).2
  have hps := hp.take k
  have Hl : Hid ((ls.take k).length = k) := by have h1 := h.len; have h2 := hp.1; unfold Hid; simp; omega
  have HR : Hid (∀ i : Int, i = (k : Int) → ∀ w' : World, (Instr.slice 42 (.slice A n c) none (some (.int .i64 i)) none).run Try.prog w' = .ok (.slice A k c) w') := fun i hi => (cutHP h .i64 i k hi hkn).1
  generalize vs.take k = vs' at *
  generalize ls.take k = ks at *
  have HK := Lib.hid hk
  clear h hp hk
  rcases Nat.lt_or_ge 30 n with h30 | h30
  · have hr := HR.out 30 (by have := HK.out; omega)
    clear HK HR
    go_enter Try.func6, Try.ntmps6
    go_wp2_with fail
    refine (awake01 w).mono ?_
    rintro e w0 ⟨rfl, hb0⟩
    have h0 := hs.below (by omega) hb0
    have hp0 := hps.below hb0
    go_wp2_with fail
    go_loopw [3, 4, 20] (fun a b i wr => ∃ j : Nat, j ≤ k ∧ i = .int .i64 j ∧ Below w0.heap.size w0 wr ∧
      ∃ (A3 : Option Addr) (m c3 : Nat) (ws : List Value) (A4 : Option Addr) (n4 c4 : Nat), a = .slice A3 m c3 ∧ b = .slice A4 n4 c4 ∧ OwnP wr w0.heap.size A3 m c3 ws ∧ OwnParts wr w0.heap.size (blk A4 c4) ws (cutsL (ks.take j)) ∧ OwnB wr w0.heap.size A4 n4 c4 (cutsL (ks.take j)).flatten) (fun _ _ i _ => k - (intOf i).toNat)
    case atStart => exact ⟨0, Nat.zero_le _, rfl, Below.refl _ _, none, 0, 0, [], none, 0, 0, rfl, rfl, Own.nil _ _ _ _ _, by simpa [cutsL] using OwnParts.nil _ _ _, by have := Own.nil w0 w0.heap.size 5 1 none; unfold OwnB; simpa [cutsL] using this⟩
    case round =>
      obtain ⟨j, hj, rfl, hbr, A3, m, c3, ws, A4, n4, c4, rfl, rfl, hoP, hoQ, hoB⟩ := hrel
      by_cases hlt : j < k
      · obtain ⟨b, o, A', n', c', hkl, rfl, hcell0, hsl0⟩ := hp0.get h0 hlt
        have hcell := (hbr.cell (p := ⟨b, o + j, none⟩) (World.block_lt_of_cell? _ _ hcell0)).trans hcell0
        have hsl := hsl0.below (by omega) hbr
        have hfm := cutsL_snoc (ks.take j) ks[j]
        rw [← List.take_succ_eq_append_getElem hkl] at hfm
        have hfl := cutsL_flat (ks.take j)
        have hkj : (ks.take j).length ≤ 30 := by simp; omega
        have hm3 : m ≤ 30 := by have h1 := hoP.len; have h2 := hoQ.1; have h3 : (cutsL (ks.take j)).length = (ks.take j).length := by simp [cutsL]
                                omega
        have hn4 : n4 ≤ 3000 := by have := OwnB.len' hoB; omega
        have Hfm := Lib.hid hfm
        clear hfm hfl hkj
        go_wp2_with fail
        refine (cut_any wr A' n' c' _ 100 hsl (by omega)).mono ?_
        rintro e w1 ⟨A5, n5, c5, rfl, ho5, hb5⟩
        have hlit : Sl (w1.alloc (.cells #[.slice A5 n5 c5] 23)) 1 (some ⟨w1.heap.size, 0, none⟩) 1 1 [.slice A5 n5 c5] := Sl.lit w1 _ _ 1 _ _ rfl (by unfold maxLen; omega) rfl
        have hba := (Below.refl w1.heap.size w1).alloc (Nat.le_refl _) (.cells #[.slice A5 n5 c5] 23)
        have hb5a := hb5.trans (hba.mono hb5.size)
        have oP := Own.below hoP hb5a
        have oQ := hoQ.below hb5a
        have oB := Own.below hoB hb5a
        have o5 := Own.below ho5 hba
        have hsz := hbr.size
        have hs5 := hb5.size
        go_wp2_with (at_builtin; refine wpList_appP _ rfl (.tmp 24) (.tmp 27) rfl w0.heap.size A3 m c3 ws rfl oP _ 1 1 _ rfl hlit (one_cell _ _ _) ?_ ?_ ?_)
        · omega
        · simp; omega
        intro A6 c6 w2 ho6 hg6 hk6
        have oQ2 := oQ.wroteRow oP (by decide) hg6
        have oB2 := Own.grown oB hg6 (fun b hb => own_apart oB oP (by decide) b hb)
        have o52 := Own.grown o5 hg6 (fun b hb => own_apart o5 oP (by decide) b hb)
        have hsz2 := hg6.size
        simp at hsz2
        have hX : ∀ b, blk A5 c5 = some b → blk A4 c4 ≠ some b := fun b hb hb' => by
          have h1 := (Own.lt ho5 b hb).1
          have h2 := (Own.lt hoB b hb').2
          omega
        have oQ3 := oQ2.snoc (Own.mono o52 (by omega)) hX
        have hbr2 : Below w0.heap.size w0 w2 := (hbr.trans (hb5a.mono hsz)).grown hg6 (by simp; omega) (fun b hb => by have := (Own.lt oP b hb).1; omega)
        have hsl2 := hsl0.below (by omega) hbr2
        clear hlit hba hg6 hk6 oQ2 o5 hsl hcell
        go_wp2_with fail
        refine (cut_any w2 A' n' c' _ 100 hsl2 (by omega)).mono ?_
        have ht : (ks[j].take 100).length ≤ 100 := by simp; omega
        generalize ks[j].take 100 = t at *
        rintro e w7 ⟨A7, n7, c7, rfl, ho7, hb7⟩
        have hn7 := ho7.len'
        have hn7l : n7 ≤ 100 := by omega
        clear hn7
        have oP7 := Own.below ho6 hb7
        have oQ7 := oQ3.below hb7
        have oB7 := Own.below oB2 hb7
        have hbr7 := hbr2.trans (hb7.mono hbr2.size)
        go_wp2_with (at_builtin; refine wpList_appB _ rfl (.tmp 29) (.tmp 31) rfl w0.heap.size A4 n4 c4 _ rfl oB7 A7 n7 c7 t rfl (OwnB.sl ho7) ?_ ?_ ?_)
        · omega
        · exact hbr7.size
        intro A8 c8 w8 ho8 hg8 hk8
        have oP3 := Own.grown oP7 hg8 (fun b hb => own_apart oP7 oB7 (by decide) b hb)
        have oQ4 := oQ7.moved hg8 hk8
        have hbr3 : Below w0.heap.size w0 w8 := hbr7.grown hg8 hbr7.size (fun b hb => (Own.lt oB7 b hb).1)
        go_wp2
        go_roundw
        case rel => exact ⟨j + 1, by omega, by go_num, hbr3, A6, _, c6, _, A8, _, c8, rfl, rfl, oP3, by rw [Hfm.out]; exact oQ4, by rw [Hfm.out, List.flatten_append]; simpa using ho8⟩
        case measure => simp [intOf]; omega
      · obtain rfl : k = j := by omega
        rw [List.take_of_length_le (show ks.length ≤ k by have := Hl.out; omega)] at hoQ hoB
        have hfl := cutsL_flat ks
        have hm30 : m ≤ 30 := by have h1 := hoP.len; have h2 := hoQ.1; have h3 : (cutsL ks).length = ks.length := by simp [cutsL]
                                 have := Hl.out; omega
        have hfl2 : (cutsL ks).flatten.length ≤ 3000 := by have := Hl.out; omega
        have hbw := hb0.trans (hbr.mono hb0.size)
        have hwp : WP wr w0.heap.size wr.heap.size (blk A4 c4) ws := fun i v hv => by
          have hi : i < ws.length := (List.getElem?_eq_some_iff.1 hv).1
          have hlen := hoQ.1
          obtain ⟨A9, n9, c9, e9, ho9, hx9⟩ := hoQ.2 i v _ hv (List.getElem?_eq_getElem (by omega))
          exact ⟨A9, n9, c9, _, e9, ho9, fun b hb => ⟨(Own.lt ho9 b hb).2, hx9 b hb⟩⟩
        go_wp2_with fail
        refine (ajoin_any wr A3 m c3 ws _ (Own.sl hoP) hoQ.parts (by omega) (by omega)).mono ?_
        generalize (cutsL ks).flatten = F at *
        rintro e w5 ⟨A5, n5, c5, rfl, ho5, hb5⟩
        have hJ : JR w0 w0.heap.size wr.heap.size (blk A4 c4) A3 m c3 ws A5 n5 c5 A4 n4 c4 F w5 := ⟨hbr.trans (hb5.mono hbr.size), Own.below hoP hb5, hwp.below hb5, ho5, Own.below hoB hb5⟩
        have hY : w0.heap.size ≤ wr.heap.size := hbr.size
        generalize wr.heap.size = Y at *
        have HJ := Lib.hid hJ
        clear hoP hoQ hoB hwp ho5 hb5 hbr hJ hfl
        go_wp2
        go_loopw [38] (fun q wx => ∃ j : Nat, j ≤ m ∧ q = .int .i64 j ∧ Hid (JR w0 w0.heap.size Y (blk A4 c4) A3 m c3 ws A5 n5 c5 A4 n4 c4 F wx)) (fun q _ => m - (intOf q).toNat)
        case atStart => exact ⟨0, Nat.zero_le _, rfl, HJ⟩
        case round =>
          obtain ⟨j, hj, rfl, HJx⟩ := hrel
          by_cases hlt : j < m
          · obtain ⟨b, o, u, eA3, hu, hcell⟩ := (Own.sl HJx.out.2.1).cell hlt
            obtain ⟨A9, n9, c9, l9, rfl, ho9, hx9⟩ := HJx.out.2.2.1 j u hu
            have hcap9 := Own.cap ho9
            have hcm9 := Own.capm ho9
            unfold maxLen at hcm9
            subst eA3
            have Hu := Lib.hid hu
            clear ho9 hu
            go_wp2
            go_loopw [44] (fun q wx => ∃ i : Nat, i ≤ n9 ∧ q = .int .i64 i ∧ Hid (JR w0 w0.heap.size Y (blk A4 c4) (some ⟨b, o, none⟩) m c3 ws A5 n5 c5 A4 n4 c4 F wx)) (fun q _ => n9 - (intOf q).toNat)
            case atStart => exact ⟨0, Nat.zero_le _, rfl, HJx⟩
            case round =>
              obtain ⟨i, hi, rfl, HJy⟩ := hrel
              by_cases hlti : i < n9
              · obtain ⟨A10, n10, c10, l10, e10, ho10, hx10⟩ := HJy.out.2.2.1 j _ Hu.out
                injection e10 with q1 q2 q3
                subst q1
                subst q2
                subst q3
                obtain ⟨g, o2, x, rfl, hg, hgl, hx, hcl, hfr⟩ := ho10.place hlti
                have hblk : blk (some ⟨g, o2, none⟩ : Option Addr) c9 = some g := by simp [blk]; omega
                have hJz := JR.turned HJy.out ho10 hblk (hx10 g hblk).1 (hx10 g hblk).2 (o2 + i) (UInt8.ofNat (x.toNat ^^^ 1))
                have hv : x.toNat ^^^ 1 < 256 := Nat.xor_lt_two_pow (n := 8) x.toNat_lt (by omega)
                rw [UInt8.toNat_ofNat_of_lt' (by simpa using hv)] at hJz
                have hxor := u8_xor_nat x.toNat 1 x.toNat_lt (by omega)
                have hxor2 : bits .xor .u8 (x.toNat : Int) 1 = ((x.toNat ^^^ 1 : Nat) : Int) := hxor
                have hxl := x.toNat_lt
                generalize x.toNat ^^^ 1 = y at *
                generalize x.toNat = xn at *
                have HJz := Lib.hid hJz
                clear hJz hx hxor ho10
                go_wp2
                go_roundw
                case rel => exact ⟨i + 1, by omega, by go_num, HJz.out⟩
                case measure => simp [intOf]; omega
              · obtain rfl : n9 = i := by omega
                go_wp2
                go_roundw
                case rel => exact ⟨j + 1, by omega, by go_num, HJy.out⟩
                case measure => simp [intOf]; omega
          · obtain rfl : m = j := by omega
            obtain ⟨a1, a2, a3, a4, a5⟩ := HJx.out
            have hbwx := hb0.trans (a1.mono hb0.size)
            clear a2 a3
            go_wp2_with fail
            refine (same_is _ A5 n5 c5 F A4 n4 c4 F true (by unfold Hid; simp) (OwnB.sl a4) (OwnB.sl a5)).mono ?_
            rintro e w' ⟨rfl, rfl⟩
            go_wp2_with fail
            refine (ajoin_any _ none 0 0 [] [] (Sl.nil _ _ _ _ (Nat.zero_le _)) ⟨rfl, fun i v l hv => by simp at hv⟩ (by omega) (by simp)).mono ?_
            rintro e w9 ⟨A9, n9, c9, rfl, ho9, hb9⟩
            have hn9 := OwnB.len' ho9
            obtain rfl : n9 = 0 := by simpa using hn9.symm
            clear hn9
            go_wp2
            go_ret
            exact ⟨rfl, hbwx.trans (hb9.mono hbwx.size)⟩
  · have hr := HR.out n (by have := HK.out; omega)
    clear HK HR
    go_enter Try.func6, Try.ntmps6
    go_wp2_with fail
    refine (awake01 w).mono ?_
    rintro e w0 ⟨rfl, hb0⟩
    have h0 := hs.below (by omega) hb0
    have hp0 := hps.below hb0
    go_wp2_with fail
    go_loopw [3, 4, 20] (fun a b i wr => ∃ j : Nat, j ≤ k ∧ i = .int .i64 j ∧ Below w0.heap.size w0 wr ∧
      ∃ (A3 : Option Addr) (m c3 : Nat) (ws : List Value) (A4 : Option Addr) (n4 c4 : Nat), a = .slice A3 m c3 ∧ b = .slice A4 n4 c4 ∧ OwnP wr w0.heap.size A3 m c3 ws ∧ OwnParts wr w0.heap.size (blk A4 c4) ws (cutsL (ks.take j)) ∧ OwnB wr w0.heap.size A4 n4 c4 (cutsL (ks.take j)).flatten) (fun _ _ i _ => k - (intOf i).toNat)
    case atStart => exact ⟨0, Nat.zero_le _, rfl, Below.refl _ _, none, 0, 0, [], none, 0, 0, rfl, rfl, Own.nil _ _ _ _ _, by simpa [cutsL] using OwnParts.nil _ _ _, by have := Own.nil w0 w0.heap.size 5 1 none; unfold OwnB; simpa [cutsL] using this⟩
    case round =>
      obtain ⟨j, hj, rfl, hbr, A3, m, c3, ws, A4, n4, c4, rfl, rfl, hoP, hoQ, hoB⟩ := hrel
      by_cases hlt : j < k
      · obtain ⟨b, o, A', n', c', hkl, rfl, hcell0, hsl0⟩ := hp0.get h0 hlt
        have hcell := (hbr.cell (p := ⟨b, o + j, none⟩) (World.block_lt_of_cell? _ _ hcell0)).trans hcell0
        have hsl := hsl0.below (by omega) hbr
        have hfm := cutsL_snoc (ks.take j) ks[j]
        rw [← List.take_succ_eq_append_getElem hkl] at hfm
        have hfl := cutsL_flat (ks.take j)
        have hkj : (ks.take j).length ≤ 30 := by simp; omega
        have hm3 : m ≤ 30 := by have h1 := hoP.len; have h2 := hoQ.1; have h3 : (cutsL (ks.take j)).length = (ks.take j).length := by simp [cutsL]
                                omega
        have hn4 : n4 ≤ 3000 := by have := OwnB.len' hoB; omega
        have Hfm := Lib.hid hfm
        clear hfm hfl hkj
        go_wp2_with fail
        refine (cut_any wr A' n' c' _ 100 hsl (by omega)).mono ?_
        rintro e w1 ⟨A5, n5, c5, rfl, ho5, hb5⟩
        have hlit : Sl (w1.alloc (.cells #[.slice A5 n5 c5] 23)) 1 (some ⟨w1.heap.size, 0, none⟩) 1 1 [.slice A5 n5 c5] := Sl.lit w1 _ _ 1 _ _ rfl (by unfold maxLen; omega) rfl
        have hba := (Below.refl w1.heap.size w1).alloc (Nat.le_refl _) (.cells #[.slice A5 n5 c5] 23)
        have hb5a := hb5.trans (hba.mono hb5.size)
        have oP := Own.below hoP hb5a
        have oQ := hoQ.below hb5a
        have oB := Own.below hoB hb5a
        have o5 := Own.below ho5 hba
        have hsz := hbr.size
        have hs5 := hb5.size
        go_wp2_with (at_builtin; refine wpList_appP _ rfl (.tmp 24) (.tmp 27) rfl w0.heap.size A3 m c3 ws rfl oP _ 1 1 _ rfl hlit (one_cell _ _ _) ?_ ?_ ?_)
        · omega
        · simp; omega
        intro A6 c6 w2 ho6 hg6 hk6
        have oQ2 := oQ.wroteRow oP (by decide) hg6
        have oB2 := Own.grown oB hg6 (fun b hb => own_apart oB oP (by decide) b hb)
        have o52 := Own.grown o5 hg6 (fun b hb => own_apart o5 oP (by decide) b hb)
        have hsz2 := hg6.size
        simp at hsz2
        have hX : ∀ b, blk A5 c5 = some b → blk A4 c4 ≠ some b := fun b hb hb' => by
          have h1 := (Own.lt ho5 b hb).1
          have h2 := (Own.lt hoB b hb').2
          omega
        have oQ3 := oQ2.snoc (Own.mono o52 (by omega)) hX
        have hbr2 : Below w0.heap.size w0 w2 := (hbr.trans (hb5a.mono hsz)).grown hg6 (by simp; omega) (fun b hb => by have := (Own.lt oP b hb).1; omega)
        have hsl2 := hsl0.below (by omega) hbr2
        clear hlit hba hg6 hk6 oQ2 o5 hsl hcell
        go_wp2_with fail
        refine (cut_any w2 A' n' c' _ 100 hsl2 (by omega)).mono ?_
        have ht : (ks[j].take 100).length ≤ 100 := by simp; omega
        generalize ks[j].take 100 = t at *
        rintro e w7 ⟨A7, n7, c7, rfl, ho7, hb7⟩
        have hn7 := ho7.len'
        have hn7l : n7 ≤ 100 := by omega
        clear hn7
        have oP7 := Own.below ho6 hb7
        have oQ7 := oQ3.below hb7
        have oB7 := Own.below oB2 hb7
        have hbr7 := hbr2.trans (hb7.mono hbr2.size)
        go_wp2_with (at_builtin; refine wpList_appB _ rfl (.tmp 29) (.tmp 31) rfl w0.heap.size A4 n4 c4 _ rfl oB7 A7 n7 c7 t rfl (OwnB.sl ho7) ?_ ?_ ?_)
        · omega
        · exact hbr7.size
        intro A8 c8 w8 ho8 hg8 hk8
        have oP3 := Own.grown oP7 hg8 (fun b hb => own_apart oP7 oB7 (by decide) b hb)
        have oQ4 := oQ7.moved hg8 hk8
        have hbr3 : Below w0.heap.size w0 w8 := hbr7.grown hg8 hbr7.size (fun b hb => (Own.lt oB7 b hb).1)
        go_wp2
        go_roundw
        case rel => exact ⟨j + 1, by omega, by go_num, hbr3, A6, _, c6, _, A8, _, c8, rfl, rfl, oP3, by rw [Hfm.out]; exact oQ4, by rw [Hfm.out, List.flatten_append]; simpa using ho8⟩
        case measure => simp [intOf]; omega
      · obtain rfl : k = j := by omega
        rw [List.take_of_length_le (show ks.length ≤ k by have := Hl.out; omega)] at hoQ hoB
        have hfl := cutsL_flat ks
        have hm30 : m ≤ 30 := by have h1 := hoP.len; have h2 := hoQ.1; have h3 : (cutsL ks).length = ks.length := by simp [cutsL]
                                 have := Hl.out; omega
        have hfl2 : (cutsL ks).flatten.length ≤ 3000 := by have := Hl.out; omega
        have hbw := hb0.trans (hbr.mono hb0.size)
        have hwp : WP wr w0.heap.size wr.heap.size (blk A4 c4) ws := fun i v hv => by
          have hi : i < ws.length := (List.getElem?_eq_some_iff.1 hv).1
          have hlen := hoQ.1
          obtain ⟨A9, n9, c9, e9, ho9, hx9⟩ := hoQ.2 i v _ hv (List.getElem?_eq_getElem (by omega))
          exact ⟨A9, n9, c9, _, e9, ho9, fun b hb => ⟨(Own.lt ho9 b hb).2, hx9 b hb⟩⟩
        go_wp2_with fail
        refine (ajoin_any wr A3 m c3 ws _ (Own.sl hoP) hoQ.parts (by omega) (by omega)).mono ?_
        generalize (cutsL ks).flatten = F at *
        rintro e w5 ⟨A5, n5, c5, rfl, ho5, hb5⟩
        have hJ : JR w0 w0.heap.size wr.heap.size (blk A4 c4) A3 m c3 ws A5 n5 c5 A4 n4 c4 F w5 := ⟨hbr.trans (hb5.mono hbr.size), Own.below hoP hb5, hwp.below hb5, ho5, Own.below hoB hb5⟩
        have hY : w0.heap.size ≤ wr.heap.size := hbr.size
        generalize wr.heap.size = Y at *
        have HJ := Lib.hid hJ
        clear hoP hoQ hoB hwp ho5 hb5 hbr hJ hfl
        go_wp2
        go_loopw [38] (fun q wx => ∃ j : Nat, j ≤ m ∧ q = .int .i64 j ∧ Hid (JR w0 w0.heap.size Y (blk A4 c4) A3 m c3 ws A5 n5 c5 A4 n4 c4 F wx)) (fun q _ => m - (intOf q).toNat)
        case atStart => exact ⟨0, Nat.zero_le _, rfl, HJ⟩
        case round =>
          obtain ⟨j, hj, rfl, HJx⟩ := hrel
          by_cases hlt : j < m
          · obtain ⟨b, o, u, eA3, hu, hcell⟩ := (Own.sl HJx.out.2.1).cell hlt
            obtain ⟨A9, n9, c9, l9, rfl, ho9, hx9⟩ := HJx.out.2.2.1 j u hu
            have hcap9 := Own.cap ho9
            have hcm9 := Own.capm ho9
            unfold maxLen at hcm9
            subst eA3
            have Hu := Lib.hid hu
            clear ho9 hu
            go_wp2
            go_loopw [44] (fun q wx => ∃ i : Nat, i ≤ n9 ∧ q = .int .i64 i ∧ Hid (JR w0 w0.heap.size Y (blk A4 c4) (some ⟨b, o, none⟩) m c3 ws A5 n5 c5 A4 n4 c4 F wx)) (fun q _ => n9 - (intOf q).toNat)
            case atStart => exact ⟨0, Nat.zero_le _, rfl, HJx⟩
            case round =>
              obtain ⟨i, hi, rfl, HJy⟩ := hrel
              by_cases hlti : i < n9
              · obtain ⟨A10, n10, c10, l10, e10, ho10, hx10⟩ := HJy.out.2.2.1 j _ Hu.out
                injection e10 with q1 q2 q3
                subst q1
                subst q2
                subst q3
                obtain ⟨g, o2, x, rfl, hg, hgl, hx, hcl, hfr⟩ := ho10.place hlti
                have hblk : blk (some ⟨g, o2, none⟩ : Option Addr) c9 = some g := by simp [blk]; omega
                have hJz := JR.turned HJy.out ho10 hblk (hx10 g hblk).1 (hx10 g hblk).2 (o2 + i) (UInt8.ofNat (x.toNat ^^^ 1))
                have hv : x.toNat ^^^ 1 < 256 := Nat.xor_lt_two_pow (n := 8) x.toNat_lt (by omega)
                rw [UInt8.toNat_ofNat_of_lt' (by simpa using hv)] at hJz
                have hxor := u8_xor_nat x.toNat 1 x.toNat_lt (by omega)
                have hxor2 : bits .xor .u8 (x.toNat : Int) 1 = ((x.toNat ^^^ 1 : Nat) : Int) := hxor
                have hxl := x.toNat_lt
                generalize x.toNat ^^^ 1 = y at *
                generalize x.toNat = xn at *
                have HJz := Lib.hid hJz
                clear hJz hx hxor ho10
                go_wp2
                go_roundw
                case rel => exact ⟨i + 1, by omega, by go_num, HJz.out⟩
                case measure => simp [intOf]; omega
              · obtain rfl : n9 = i := by omega
                go_wp2
                go_roundw
                case rel => exact ⟨j + 1, by omega, by go_num, HJy.out⟩
                case measure => simp [intOf]; omega
          · obtain rfl : m = j := by omega
            obtain ⟨a1, a2, a3, a4, a5⟩ := HJx.out
            have hbwx := hb0.trans (a1.mono hb0.size)
            clear a2 a3
            go_wp2_with fail
            refine (same_is _ A5 n5 c5 F A4 n4 c4 F true (by unfold Hid; simp) (OwnB.sl a4) (OwnB.sl a5)).mono ?_
            rintro e w' ⟨rfl, rfl⟩
            go_wp2_with fail
            refine (ajoin_any _ none 0 0 [] [] (Sl.nil _ _ _ _ (Nat.zero_le _)) ⟨rfl, fun i v l hv => by simp at hv⟩ (by omega) (by simp)).mono ?_
            rintro e w9 ⟨A9, n9, c9, rfl, ho9, hb9⟩
            have hn9 := OwnB.len' ho9
            obtain rfl : n9 = 0 := by simpa using hn9.symm
            clear hn9
            go_wp2
            go_ret
            exact ⟨rfl, hbwx.trans (hb9.mono hbwx.size)⟩
end Go.Proofs.Ythbmlkdijppkbaa
