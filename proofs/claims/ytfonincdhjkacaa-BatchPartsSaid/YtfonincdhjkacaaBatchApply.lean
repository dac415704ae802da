/-
  What the reference's Apply makes of a map. (Printed by genapply.py.) No condition but sizes.
-/
import Derived.Test.YtfonincdhjkacaaGBat
import Derived.Test.YtfonincdhjkacaaGByt
import Derived.Test.YtfonincdhjkacaaGLib
namespace Go.Proofs.Ytfonincdhjkacaa
open Go.RowKit
set_option maxRecDepth 20000
theorem infoPair : (Try.prog.info? 114).map (fun i => (i.zero, i.size, i.bytes)) = some (some (.agg #[.slice none 0 0, .slice none 0 0]), 2, 48) := by kernel_rfl
/-- a row of one pair, laid new, whose bytes lie apart from block X -/
theorem pairRow (w : World) (X : Option Nat) (x : PairL) (A3 : Option Addr) (n3 c3 : Nat) (A4 : Option Addr) (n4 c4 : Nat) (s3 : Sl w 1 A3 n3 c3 (bc x.key)) (s4 : Sl w 1 A4 n4 c4 (bc x.value))
    (h3 : ∀ b, 0 < n3 → A3.map (·.block) = some b → X ≠ some b) (h4 : ∀ b, 0 < n4 → A4.map (·.block) = some b → X ≠ some b) :
    ∃ xs, Sl (w.alloc (.cells #[.slice A3 n3 c3, .slice A4 n4 c4] 114)) 2 (some ⟨w.heap.size, 0, none⟩) 1 1 xs ∧ RowC (w.alloc (.cells #[.slice A3 n3 c3, .slice A4 n4 c4] 114)) (fun b => X ≠ some b) xs [x] := by
  have al := (Below.refl w.heap.size w).alloc (Nat.le_refl _) (.cells #[.slice A3 n3 c3, .slice A4 n4 c4] 114)
  exact ⟨_, ⟨rfl, Nat.le_refl _, by unfold maxLen; omega, fun _ => ⟨w.heap.size, 0, rfl, fun j u hu => by rw [cell_of_row _ _ _ _ _ _ (heap_alloc_new w _)]; simpa using hu⟩⟩, RowC.single ⟨_, _, rfl, ⟨A3, n3, c3, rfl, s3.below (by omega) al, h3⟩, ⟨A4, n4, c4, rfl, s4.below (by omega) al, h4⟩⟩⟩
/-- a new row of the call's own that lies in block from B on, or grew out of one that did -/
theorem OwnX.lt2 {α : Type} [Rep α] {w : World} {B : Nat} {e : TypeId} {A : Option Addr} {n c : Nat} {ls : List α} (h : OwnX w B e A n c ls) : blk A c ≠ some w.heap.size ∧ ∀ g, g < B → blk A c ≠ some g :=
  ⟨fun e => by have := (h.lt _ e).2; omega, fun g hg e => by have := (h.lt _ e).1; omega⟩
set_option maxHeartbeats 8000000 in
theorem rapply_any (w : World) (p : Nat → Prop) (A : Option Addr) (n c : Nat) (ms : List PairL) (h : SlR w p A n c ms) (hn : ms.length ≤ 1000) (A3 : Option Addr) (n3 c3 : Nat) (A4 : Option Addr) (n4 c4 : Nat) (x : OpL) (hs3 : Sl w 1 A3 n3 c3 (bc x.key)) (hs4 : Sl w 1 A4 n4 c4 (bc x.value)) :
    Calls Try.prog 81 #[.slice A n c, .agg #[.int .u8 (x.kind.toNat : Int), .slice A3 n3 c3, .slice A4 n4 c4]] w fun e w' => ∃ A' n' c', e = .returned (.slice A' n' c') ∧ SlR w' (fun _ => True) A' n' c' (applyL ms x) ∧ Below w.heap.size w w' := by
  have hcp := h.cap
  unfold maxLen at hcp
  have hl := h.lenR
  have hn' : n ≤ 1000 := by omega
  obtain ⟨d0, hd0⟩ : ∃ d0, (!decide (x.kind.toNat = 2)) = d0 := ⟨_, rfl⟩
  have hd1 : ((x.kind.toNat : Int) != 2) = d0 := by
    rw [← hd0, bne, Bool.eq_iff_iff]
    simp
    omega
  have hd2 : ((x.kind.toNat : Int) == 2) = !d0 := by rw [← hd1]; simp [bne]
  obtain ⟨rr, hrr⟩ : ∃ rr, applyL ms x = rr := ⟨_, rfl⟩
  rw [hrr]
  unfold applyL at hrr
  rw [hd0] at hrr
  have hx3 : ∀ b, 0 < n3 → A3.map (·.block) = some b → b < w.heap.size := fun b hn e => hs3.lt (by omega) hn b e
  have hx4 : ∀ b, 0 < n4 → A4.map (·.block) = some b → b < w.heap.size := fun b hn e => hs4.lt (by omega) hn b e
  have ccov := fun (B : Option Addr) (m dd : Nat) (key : List UInt8) (hk : Sl w 1 B m dd (bc key)) (w' : World) (hb : Below w.heap.size w w') => rcovers_any w' A3 n3 c3 A4 n4 c4 x (hs3.below (by omega) hb) (hs4.below (by omega) hb) B m dd key (hk.below (by omega) hb)
  have hrow := fun (w' : World) (hb : Below w.heap.size w w') (X : Option Nat) (hX : ∀ b, b < w.heap.size → X ≠ some b) => pairRow w' X ⟨x.key, x.value⟩ A3 n3 c3 A4 n4 c4 (hs3.below (by omega) hb) (hs4.below (by omega) hb) (fun b hn e => hX b (hx3 b hn e)) (fun b hn e => hX b (hx4 b hn e))
  generalize hkk : x.kind.toNat = k at *
  have Hl := Lib.hid hl
  have Hrr := Lib.hid hrr
  have Hccov := Lib.hid ccov
  have Hrow := Lib.hid hrow
  have Hs3 := Lib.hid hs3
  clear hl hd0 hrr ccov hrow hs3 hs4 hx3 hx4 hkk
  have al := (Below.refl w.heap.size w).alloc (Nat.le_refl _) (.cells #[.int .u8 (k : Int), .slice A3 n3 c3, .slice A4 n4 c4] 47)
  have kO := Bx.fresh w (.int .u8 (k : Int)) (.slice A3 n3 c3) (.slice A4 n4 c4) 47
  have z0 : (w.alloc (.cells #[.int .u8 (k : Int), .slice A3 n3 c3, .slice A4 n4 c4] 47)).heap.size = w.heap.size + 1 := by simp
  go_enter Try.func81, Try.ntmps81
  go_wp2
  generalize (w.alloc (.cells #[.int .u8 (k : Int), .slice A3 n3 c3, .slice A4 n4 c4] 47)) = w1 at *
  go_loopw [5, 6, 14] (fun s q i wr => ∃ j : Nat, j ≤ n ∧ i = .int .i64 j ∧ Below w.heap.size w wr ∧ w.heap.size + 1 ≤ wr.heap.size ∧ Bx wr w.heap.size (.int .u8 (k : Int)) (.slice A3 n3 c3) (.slice A4 n4 c4) ∧ ∃ A2 n2 c2 outs d, s = .slice A2 n2 c2 ∧ OwnX wr (w.heap.size + 1) 114 A2 n2 c2 outs ∧ outs.length ≤ 2 * j ∧ q = .bool d ∧ Hid (applyGo x d0 ms = outs ++ applyGo x d (ms.drop j))) (fun _ _ i _ => n - (intOf i).toNat)
  case atStart => exact ⟨0, Nat.zero_le _, rfl, al, by omega, kO, none, 0, 0, [], d0, rfl, OwnX.nil _ _ _ _, by simp, rfl, Lib.hid rfl⟩
  case round =>
    clear al kO z0 hd1 hd2
    obtain ⟨j, hj, rfl, hbr, hsz, kO, A2, n2, c2, outs, d, rfl, ho2, hol, rfl, Heq⟩ := hrel
    by_cases hlt : j < n
    · obtain ⟨b, o, A5, n5, c5, A6, n6, c6, hjl, rfl, d1, d2, hs5, hs6⟩ := h.pairAt hlt
      have hx5 : ∀ b, 0 < n5 → A5.map (·.block) = some b → b < w.heap.size := fun b hn e => hs5.lt (by omega) hn b e
      have hx6 : ∀ b, 0 < n6 → A6.map (·.block) = some b → b < w.heap.size := fun b hn e => hs6.lt (by omega) hn b e
      have d1 := stays hbr d1
      have d2 := stays hbr d2
      have hst : applyGo x d (ms.drop j) = (if !d && ltL x.key ms[j].key then [⟨x.key, x.value⟩] else []) ++ (if coversL x ms[j].key then [] else [ms[j]]) ++ applyGo x (d || ltL x.key ms[j].key) (ms.drop (j + 1)) := by
        rw [List.drop_eq_getElem_cons hjl]
        rfl
      have cc := Hccov.out A5 n5 c5 ms[j].key hs5
      obtain ⟨lt, hlt1⟩ : ∃ lt, ltL x.key ms[j].key = lt := ⟨_, rfl⟩
      have cl := fun (w' : World) (hb : Below w.heap.size w w') => rless_is w' A3 n3 c3 x.key (Hs3.out.below (by omega) hb) A5 n5 c5 ms[j].key (hs5.below (by omega) hb) lt (Lib.hid hlt1)
      have rw5 := fun (w' : World) (hb : Below w.heap.size w w') (X : Option Nat) (hX : ∀ b, b < w.heap.size → X ≠ some b) => pairRow w' X ms[j] A5 n5 c5 A6 n6 c6 (hs5.below (by omega) hb) (hs6.below (by omega) hb) (fun b hn e => hX b (hx5 b hn e)) (fun b hn e => hX b (hx6 b hn e))
      generalize hv : coversL x ms[j].key = v at *
      rw [hlt1] at hst
      have Hst : Hid (applyGo x d0 ms = outs ++ ((if !d && lt then [⟨x.key, x.value⟩] else []) ++ (if v then [] else [ms[j]]) ++ applyGo x (d || lt) (ms.drop (j + 1)))) := Lib.hid (by rw [Heq.out, hst])
      have hn2 := ho2.lenR
      have Hn2 : Hid (n2 ≤ 2 * j) := by unfold Hid; omega
      have Cc := Lib.hid cc
      have Cl := Lib.hid cl
      have Rw5 := Lib.hid rw5
      have Hj : Hid (j ≤ 1000) := by unfold Hid; omega
      clear hst cc cl rw5 hs5 hs6 hx5 hx6 hv hlt1 hn2 hol
      have al := (Below.refl wr.heap.size wr).alloc (Nat.le_refl _) (.cells #[.slice A5 n5 c5, .slice A6 n6 c6] 114)
      have kP := Bx2.fresh wr (.slice A5 n5 c5) (.slice A6 n6 c6) 114
      have kO := kO.below al
      have hlt2 : ∀ b, blk A2 c2 = some b → w.heap.size + 1 ≤ b ∧ b < wr.heap.size := ho2.lt
      have ho2 := ho2.below al
      have hbr := hbr.trans (al.mono hbr.size)
      have hsz := Nat.le_trans hsz al.size
      obtain ⟨wa, ea⟩ : ∃ wa, wa = (wr.alloc (.cells #[.slice A5 n5 c5, .slice A6 n6 c6] 114)) := ⟨_, rfl⟩
      rw [← ea] at kO kP ho2 hbr hsz
      obtain ⟨gp, egp⟩ : ∃ gp, gp = wr.heap.size := ⟨_, rfl⟩
      rw [← egp] at kP hlt2
      clear al
      have hlt2 : ∀ b, blk A2 c2 = some b → w.heap.size + 1 ≤ b ∧ (b < gp ∨ gp < b) := fun b e => by have := hlt2 b e; omega
      cases d
      · obtain ⟨x0, x1, x2, x3⟩ := id kO
        obtain ⟨p0, p1⟩ := id kP
        subst egp
        subst ea
        go_wp2_with fail
        clear x0 x1 x2 x3 p0 p1 d1 d2
        generalize (wr.alloc (.cells #[.slice A5 n5 c5, .slice A6 n6 c6] 114)) = wa at *
        obtain ⟨gp, egp⟩ : ∃ gp, gp = wr.heap.size := ⟨_, rfl⟩
        rw [← egp] at kP hlt2 ⊢
        clear egp
        refine (Cl.out _ hbr).mono ?_
        rintro e w' ⟨rfl, rfl⟩
        cases lt
        · obtain ⟨x0, x1, x2, x3⟩ := id kO
          obtain ⟨p0, p1⟩ := id kP
          go_wp2_with fail
          clear x0 x1 x2 x3 p0 p1
          refine (Cc.out _ hbr).mono ?_
          rintro e w3 ⟨rfl, hb3⟩
          have kO := kO.below hb3
          have kP := kP.below hb3
          have ho2 := ho2.below hb3
          have hbr := hbr.trans (hb3.mono hbr.size)
          have hsz := Nat.le_trans hsz hb3.size
          clear hb3
          cases v
          · have hrow := Rw5.out w3 hbr (blk A2 c2) (fun b hb e => by have := (ho2.lt b e).1; omega)
            have al := (Below.refl w3.heap.size w3).alloc (Nat.le_refl _) (.cells #[.slice A5 n5 c5, .slice A6 n6 c6] 114)
            have hgp := kP.lt
            obtain ⟨x0, x1, x2, x3⟩ := id kO
            obtain ⟨p0, p1⟩ := id kP
            have ho2 := ho2.below al
            have kO := kO.below al
            have kP := kP.below al
            have hbr := hbr.trans (al.mono hbr.size)
            have hsz := Nat.le_trans hsz al.size
            clear al
            go_wp2_with (at_builtin; refine wpList_appX _ rfl (.tmp 40) (.tmp 42) 58 rfl (w.heap.size + 1) 114 _ 48 Try.underlying58 infoPair rfl A2 (n2) c2 (outs) rfl ho2 _ 1 1 [ms[j]] rfl hrow ?_ ?_ ?_ ?_)
            · have := Hn2.out; have := Hj.out; unfold maxLen; omega
            · have := Hn2.out; have := Hj.out; omega
            · exact hsz
            intro A7 c7 w7 ho7 hg hx
            clear x0 x1 x2 x3 p0 p1 hrow
            have hne1 : blk A2 c2 ≠ some w.heap.size := ho2.lt2.2 _ (by omega)
            have hne2 : blk A2 c2 ≠ some gp := fun e => by have := hlt2 _ e; omega
            have hlt7 : ∀ b, blk A7 c7 = some b → w.heap.size + 1 ≤ b ∧ (b < gp ∨ gp < b) := fun b e => by
              have h1 := (ho7.lt b e).1
              rcases hx with h2 | h2
              · rw [h2] at e
                have := hlt2 b e
                omega
              · rw [h2] at e
                simp at e
                omega
            have kO := kO.grownO hg hne1
            have kP := kP.grownO hg hne2
            have hbr := hbr.grown hg hbr.size (fun b hb => by have := (ho2.lt b hb).1; omega)
            have hsz := Nat.le_trans hsz hg.size
            clear hg hx hne1 hne2 hgp
            go_wp2
            go_roundw
            case rel => exact ⟨j + 1, by omega, by go_num, hbr, hsz, kO, A7, _, c7, _, false, rfl, ho7, by have := ho7.lenR; have := Hn2.out; omega, rfl, Lib.hid (by rw [Hst.out]; simp)⟩
            case measure => simp [intOf]; omega
          · obtain ⟨x0, x1, x2, x3⟩ := id kO
            clear x0 x1 x2 x3
            go_wp2
            go_roundw
            case rel => exact ⟨j + 1, by omega, by go_num, hbr, hsz, kO, A2, _, c2, _, false, rfl, ho2, by have := ho2.lenR; have := Hn2.out; omega, rfl, Lib.hid (by rw [Hst.out]; simp)⟩
            case measure => simp [intOf]; omega
        · have hrow := Hrow.out wa hbr (blk A2 c2) (fun b hb e => by have := (ho2.lt b e).1; omega)
          have al := (Below.refl wa.heap.size wa).alloc (Nat.le_refl _) (.cells #[.slice A3 n3 c3, .slice A4 n4 c4] 114)
          have hgp := kP.lt
          obtain ⟨x0, x1, x2, x3⟩ := id kO
          obtain ⟨p0, p1⟩ := id kP
          have ho2 := ho2.below al
          have kO := kO.below al
          have kP := kP.below al
          have hbr := hbr.trans (al.mono hbr.size)
          have hsz := Nat.le_trans hsz al.size
          clear al
          go_wp2_with (at_builtin; refine wpList_appX _ rfl (.tmp 27) (.tmp 33) 58 rfl (w.heap.size + 1) 114 _ 48 Try.underlying58 infoPair rfl A2 (n2) c2 (outs) rfl ho2 _ 1 1 [⟨x.key, x.value⟩] rfl hrow ?_ ?_ ?_ ?_)
          · have := Hn2.out; have := Hj.out; unfold maxLen; omega
          · have := Hn2.out; have := Hj.out; omega
          · exact hsz
          intro A7 c7 w7 ho7 hg hx
          clear x0 x1 x2 x3 p0 p1 hrow
          have hne1 : blk A2 c2 ≠ some w.heap.size := ho2.lt2.2 _ (by omega)
          have hne2 : blk A2 c2 ≠ some gp := fun e => by have := hlt2 _ e; omega
          have hlt7 : ∀ b, blk A7 c7 = some b → w.heap.size + 1 ≤ b ∧ (b < gp ∨ gp < b) := fun b e => by
            have h1 := (ho7.lt b e).1
            rcases hx with h2 | h2
            · rw [h2] at e
              have := hlt2 b e
              omega
            · rw [h2] at e
              simp at e
              omega
          have kO := kO.grownO hg hne1
          have kP := kP.grownO hg hne2
          have hbr := hbr.grown hg hbr.size (fun b hb => by have := (ho2.lt b hb).1; omega)
          have hsz := Nat.le_trans hsz hg.size
          clear hg hx hne1 hne2 hgp
          obtain ⟨x0, x1, x2, x3⟩ := id kO
          obtain ⟨p0, p1⟩ := id kP
          go_wp2_with fail
          clear x0 x1 x2 x3 p0 p1
          refine (Cc.out _ hbr).mono ?_
          rintro e w3 ⟨rfl, hb3⟩
          have kO := kO.below hb3
          have kP := kP.below hb3
          have ho7 := ho7.below hb3
          have hbr := hbr.trans (hb3.mono hbr.size)
          have hsz := Nat.le_trans hsz hb3.size
          clear hb3
          cases v
          · have hrow := Rw5.out w3 hbr (blk A7 c7) (fun b hb e => by have := (ho7.lt b e).1; omega)
            have al := (Below.refl w3.heap.size w3).alloc (Nat.le_refl _) (.cells #[.slice A5 n5 c5, .slice A6 n6 c6] 114)
            have hgp := kP.lt
            obtain ⟨x0, x1, x2, x3⟩ := id kO
            obtain ⟨p0, p1⟩ := id kP
            have ho7 := ho7.below al
            have kO := kO.below al
            have kP := kP.below al
            have hbr := hbr.trans (al.mono hbr.size)
            have hsz := Nat.le_trans hsz al.size
            clear al
            go_wp2_with (at_builtin; refine wpList_appX _ rfl (.tmp 40) (.tmp 42) 58 rfl (w.heap.size + 1) 114 _ 48 Try.underlying58 infoPair rfl A7 (n2 + 1) c7 (outs ++ [⟨x.key, x.value⟩]) rfl ho7 _ 1 1 [ms[j]] rfl hrow ?_ ?_ ?_ ?_)
            · have := Hn2.out; have := Hj.out; unfold maxLen; omega
            · have := Hn2.out; have := Hj.out; omega
            · exact hsz
            intro A8 c8 w8 ho8 hg hx
            clear x0 x1 x2 x3 p0 p1 hrow
            have hne1 : blk A7 c7 ≠ some w.heap.size := ho7.lt2.2 _ (by omega)
            have hne2 : blk A7 c7 ≠ some gp := fun e => by have := hlt7 _ e; omega
            have hlt8 : ∀ b, blk A8 c8 = some b → w.heap.size + 1 ≤ b ∧ (b < gp ∨ gp < b) := fun b e => by
              have h1 := (ho8.lt b e).1
              rcases hx with h2 | h2
              · rw [h2] at e
                have := hlt7 b e
                omega
              · rw [h2] at e
                simp at e
                omega
            have kO := kO.grownO hg hne1
            have kP := kP.grownO hg hne2
            have hbr := hbr.grown hg hbr.size (fun b hb => by have := (ho7.lt b hb).1; omega)
            have hsz := Nat.le_trans hsz hg.size
            clear hg hx hne1 hne2 hgp
            go_wp2
            go_roundw
            case rel => exact ⟨j + 1, by omega, by go_num, hbr, hsz, kO, A8, _, c8, _, true, rfl, ho8, by have := ho8.lenR; have := Hn2.out; omega, rfl, Lib.hid (by rw [Hst.out]; simp)⟩
            case measure => simp [intOf]; omega
          · obtain ⟨x0, x1, x2, x3⟩ := id kO
            clear x0 x1 x2 x3
            go_wp2
            go_roundw
            case rel => exact ⟨j + 1, by omega, by go_num, hbr, hsz, kO, A7, _, c7, _, true, rfl, ho7, by have := ho7.lenR; have := Hn2.out; omega, rfl, Lib.hid (by rw [Hst.out]; simp)⟩
            case measure => simp [intOf]; omega
      · obtain ⟨x0, x1, x2, x3⟩ := id kO
        obtain ⟨p0, p1⟩ := id kP
        subst egp
        subst ea
        go_wp2_with fail
        clear x0 x1 x2 x3 p0 p1 d1 d2
        generalize (wr.alloc (.cells #[.slice A5 n5 c5, .slice A6 n6 c6] 114)) = wa at *
        obtain ⟨gp, egp⟩ : ∃ gp, gp = wr.heap.size := ⟨_, rfl⟩
        rw [← egp] at kP hlt2 ⊢
        clear egp
        refine (Cc.out _ hbr).mono ?_
        rintro e w3 ⟨rfl, hb3⟩
        have kO := kO.below hb3
        have kP := kP.below hb3
        have ho2 := ho2.below hb3
        have hbr := hbr.trans (hb3.mono hbr.size)
        have hsz := Nat.le_trans hsz hb3.size
        clear hb3
        cases v
        · have hrow := Rw5.out w3 hbr (blk A2 c2) (fun b hb e => by have := (ho2.lt b e).1; omega)
          have al := (Below.refl w3.heap.size w3).alloc (Nat.le_refl _) (.cells #[.slice A5 n5 c5, .slice A6 n6 c6] 114)
          have hgp := kP.lt
          obtain ⟨x0, x1, x2, x3⟩ := id kO
          obtain ⟨p0, p1⟩ := id kP
          have ho2 := ho2.below al
          have kO := kO.below al
          have kP := kP.below al
          have hbr := hbr.trans (al.mono hbr.size)
          have hsz := Nat.le_trans hsz al.size
          clear al
          go_wp2_with (at_builtin; refine wpList_appX _ rfl (.tmp 40) (.tmp 42) 58 rfl (w.heap.size + 1) 114 _ 48 Try.underlying58 infoPair rfl A2 (n2) c2 (outs) rfl ho2 _ 1 1 [ms[j]] rfl hrow ?_ ?_ ?_ ?_)
          · have := Hn2.out; have := Hj.out; unfold maxLen; omega
          · have := Hn2.out; have := Hj.out; omega
          · exact hsz
          intro A7 c7 w7 ho7 hg hx
          clear x0 x1 x2 x3 p0 p1 hrow
          have hne1 : blk A2 c2 ≠ some w.heap.size := ho2.lt2.2 _ (by omega)
          have hne2 : blk A2 c2 ≠ some gp := fun e => by have := hlt2 _ e; omega
          have hlt7 : ∀ b, blk A7 c7 = some b → w.heap.size + 1 ≤ b ∧ (b < gp ∨ gp < b) := fun b e => by
            have h1 := (ho7.lt b e).1
            rcases hx with h2 | h2
            · rw [h2] at e
              have := hlt2 b e
              omega
            · rw [h2] at e
              simp at e
              omega
          have kO := kO.grownO hg hne1
          have kP := kP.grownO hg hne2
          have hbr := hbr.grown hg hbr.size (fun b hb => by have := (ho2.lt b hb).1; omega)
          have hsz := Nat.le_trans hsz hg.size
          clear hg hx hne1 hne2 hgp
          go_wp2
          go_roundw
          case rel => exact ⟨j + 1, by omega, by go_num, hbr, hsz, kO, A7, _, c7, _, true, rfl, ho7, by have := ho7.lenR; have := Hn2.out; omega, rfl, Lib.hid (by rw [Hst.out]; simp)⟩
          case measure => simp [intOf]; omega
        · obtain ⟨x0, x1, x2, x3⟩ := id kO
          clear x0 x1 x2 x3
          go_wp2
          go_roundw
          case rel => exact ⟨j + 1, by omega, by go_num, hbr, hsz, kO, A2, _, c2, _, true, rfl, ho2, by have := ho2.lenR; have := Hn2.out; omega, rfl, Lib.hid (by rw [Hst.out]; simp)⟩
          case measure => simp [intOf]; omega
    · obtain rfl : n = j := by omega
      have heq := Heq.out
      rw [List.drop_of_length_le (by have := Hl.out; omega), Hrr.out] at heq
      have hn2 := ho2.lenR
      cases d
      · simp only [applyGo, Bool.false_eq_true, if_false] at heq
        subst heq
        have hrow := Hrow.out wr hbr (blk A2 c2) (fun b hb e => by have := (ho2.lt b e).1; omega)
        have al := (Below.refl wr.heap.size wr).alloc (Nat.le_refl _) (.cells #[.slice A3 n3 c3, .slice A4 n4 c4] 114)
        have ho2 := ho2.below al
        have q6 := hbr.trans (al.mono hbr.size)
        have hsz6 := Nat.le_trans hsz al.size
        obtain ⟨x0, x1, x2, x3⟩ := id kO
        clear al
        go_wp2_with (at_builtin; refine wpList_appX _ rfl (.tmp 47) (.tmp 53) 58 rfl (w.heap.size + 1) 114 _ 48 Try.underlying58 infoPair rfl A2 n2 c2 outs rfl ho2 _ 1 1 [⟨x.key, x.value⟩] rfl hrow ?_ ?_ ?_ ?_)
        · unfold maxLen; omega
        · omega
        · exact hsz6
        intro A7 c7 w7 ho7 hg7 _
        have q7 := q6.grown hg7 q6.size (fun b hb => by have := (ho2.lt b hb).1; omega)
        go_wp2
        go_ret
        exact ⟨A7, _, c7, rfl, ho7.sl, q7⟩
      · simp only [applyGo, if_true, List.append_nil] at heq
        subst heq
        go_wp2
        go_ret
        exact ⟨A2, n2, c2, rfl, ho2.sl, hbr⟩
end Go.Proofs.Ytfonincdhjkacaa
