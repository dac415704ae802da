/-
  The walk of BloomMore: it returns true at every input. The table lies in its variable.
-/
import Derived.Test.YthbmlkdijppkbaaDoorBloomLaws1
namespace Go.Proofs.YthbmlkdijppkbaaDoor
open Go.RowKit

/-- rows of two lists, one behind the other -/
theorem PartsOf.append {w : World} {vs vs' : List Value} {ls ls' : List (List UInt8)} (h : PartsOf w vs ls) (h' : PartsOf w vs' ls') : PartsOf w (vs ++ vs') (ls ++ ls') :=
  ⟨by simp [h.1, h'.1], fun i v x hv hl => by
    have hlen := h.1
    rcases Nat.lt_or_ge i vs.length with hi | hi
    · rw [List.getElem?_append_left hi] at hv
      rw [List.getElem?_append_left (by omega)] at hl
      exact h.2 i v x hv hl
    · rw [List.getElem?_append_right hi] at hv
      rw [List.getElem?_append_right (by omega)] at hl
      rw [← hlen] at hl
      exact h'.2 _ v x hv hl⟩
theorem PartsOf.one {w : World} {vs : List Value} {ls : List (List UInt8)} (h : PartsOf w vs ls) : ∀ u ∈ vs, u.oneCell' = true := by
  intro u hu
  obtain ⟨i, hi, rfl⟩ := List.getElem_of_mem hu
  have hl := h.1
  obtain ⟨A, n, c, e, _⟩ := h.2 i _ _ (List.getElem?_eq_getElem hi) (List.getElem?_eq_getElem (by omega))
  rw [e]
  rfl
theorem OwnParts.wroteAny {w w' : World} {B B' : Nat} {X : Option Nat} {vs : List Value} {ls : List (List UInt8)} (h : OwnParts w B X vs ls) {A : Option Addr} {n c : Nat} {xs : List Value} (hr : OwnP w B' A n c xs) (hg : w.grownBy w' (blk A c)) : PartsOf w' vs ls :=
  (h.wroteRow hr (by decide) hg).parts
set_option maxHeartbeats 2000000 in
theorem bloomMore.walk (w : World) (A : Option Addr) (n c : Nat) (vs : List Value) (ls : List (List UInt8)) (h : Sl w 1 A n c vs) (hp : PartsOf w vs ls)
    (Am : Option Addr) (nm cm : Nat) (vm : List Value) (lm : List (List UInt8)) (hm : Sl w 1 Am nm cm vm) (hpm : PartsOf w vm lm)
    (Ao : Option Addr) (no co : Nat) (other : List UInt8) (ho : Sl w 1 Ao no co (bc other)) (hq : Quarter w) :
    Calls Tryd.prog 13 #[.slice A n c, .slice Am nm cm, .slice Ao no co] w fun e w' => e = .returned (.bool true) ∧ Below w.heap.size w w' := by
  go_enter Tryd.func13, Tryd.ntmps13
  go_wp2_with fail
  refine (awake11 w hq).mono ?_
  rintro e w0 ⟨rfl, hb0⟩
  go_wp2_with fail
  refine (few_any w0 A n c vs ls 6 60 (h.below (by omega) hb0) (hp.below hb0) (by omega) (by omega)).mono ?_
  rintro e w1 ⟨A1, n1, c1, vs1, rfl, ho1, hp1, hb1⟩
  have hfl := fewL_length ls 6 60
  have hn1 := NewP.len ho1 hp1
  have hl6 : (fewL ls 6 60).length ≤ 6 := by omega
  clear hfl h hp
  generalize fewL ls 6 60 = ks at *
  have hn6 : n1 ≤ 6 := by omega
  clear hn1
  have hbw1 := hb0.trans (hb1.mono hb0.size)
  go_wp2_with fail
  refine (few_any w1 Am nm cm vm lm 6 60 (hm.below (by omega) hbw1) (hpm.below hbw1) (by omega) (by omega)).mono ?_
  rintro e w2 ⟨A2, n2, c2, vs2, rfl, ho2, hp2, hb2⟩
  have hfl := fewL_length lm 6 60
  have hn2 := NewP.len ho2 hp2
  have hm6 : (fewL lm 6 60).length ≤ 6 := by omega
  clear hfl hm hpm
  generalize fewL lm 6 60 = ms at *
  have hnm6 : n2 ≤ 6 := by omega
  clear hn2
  have hbw2 := hbw1.trans (hb2.mono hbw1.size)
  have h1 := Own.below ho1 hb2
  have p1 := hp1.below hb2
  clear ho1 hp1
  go_wp2_with fail
  refine (cut_any w2 Ao no co other 60 (ho.below (by omega) hbw2) (by omega)).mono ?_
  have ht : (other.take 60).length ≤ 60 := by simp; omega
  generalize other.take 60 = t at *
  rintro e w3 ⟨A3, n3, c3, rfl, ho3, hb3⟩
  have hn3 := ho3.len'
  have hn60 : n3 ≤ 60 := by omega
  clear hn3 ho
  have hbw3 := hbw2.trans (hb3.mono hbw2.size)
  have hba := (Below.refl w3.heap.size w3).alloc (Nat.le_refl _) (.cells #[] 24)
  have hb3a := hb3.trans (hba.mono hb3.size)
  have ho1w := Own.below h1 hb3
  have h1 := Own.below h1 hb3a
  have p1 := p1.below hb3a
  have hlt1 := Own.lt h1
  have h2 := Own.below ho2 hb3a
  have hlt2 := Own.lt h2
  have p2 := hp2.below hb3a
  have h3 := Own.below ho3 hba
  have hbw4 := hbw3.trans (hba.mono hbw3.size)
  clear ho2 hp2 ho3 hb0 hb1 hb2 hb3 hb3a hbw1 hbw2
  go_wp2_with (at_builtin; refine wpList_appP _ rfl (.tmp 18) (.tmp 19) rfl w3.heap.size _ 0 0 [] rfl (Own.nil _ _ _ _ _) A1 n1 c1 vs1 rfl (Own.sl h1) p1.parts.one ?_ ?_ ?_)
  · omega
  · simp
  intro A4 c4 w4 h4 hg4 _
  try simp only [Nat.zero_add, List.nil_append] at h4
  have hb4 : Below w3.heap.size w3 w4 := hba.grown hg4 (by simp) (by simp [blk])
  have h4l := (Own.lt h4)
  have hb34 : Below (w3.alloc (.cells #[] 24)).heap.size (w3.alloc (.cells #[] 24)) w4 := (Below.refl _ _).grown hg4 (Nat.le_refl _) (by simp [blk])
  have h1 := Own.below h1 hb34
  have p1 := p1.below hb34
  have h2 := Own.below h2 hb34
  have p2 := p2.below hb34
  have h3 := Own.below h3 hb34
  go_wp2_with (at_builtin; refine wpList_appP _ rfl (.tmp 20) (.tmp 21) rfl w3.heap.size A4 n1 c4 vs1 rfl h4 A2 n2 c2 vs2 rfl (Own.sl h2) p2.parts.one ?_ ?_ ?_)
  · omega
  · exact hb4.size
  intro A5 c5 w5 h5 hg5 _
  have q1 := p1.wroteAny h4 hg5
  have q2 := p2.wroteAny h4 hg5
  rw [World.size_alloc] at hlt1 hlt2
  have h4' := h4
  have hne : ∀ (A : Option Addr) (c : Nat), (∀ b, blk A c = some b → b < w3.heap.size) → ∀ b, blk A c = some b → blk A4 c4 ≠ some b := fun A c hlt b hb hb' => by
    have e1 := hlt b hb
    have e2 := (h4l b hb').1
    omega
  have hs1 := Own.sl (Own.grown h1 hg5 (hne _ _ fun b hb => (Own.lt ho1w b hb).2))
  have hs3 := OwnB.sl (Own.grown h3 hg5 (fun b hb => own_apart h3 h4 (by decide) b hb))
  have hb5 : Below w3.heap.size w3 w5 := hb4.grown hg5 hb4.size (fun b hb => (h4l b hb).1)
  have hbw5 := hbw3.trans (hb5.mono hbw3.size)
  have hq5 := hq.below hbw5
  have hs5 := Own.sl h5
  have q3 := q1.append q2
  have hmo := has_more 4 ks ms t
  have Hmo := Lib.hid hmo
  have hle : (buildL 4 ks).length ≤ 12502 := buildL_le 4 ks (by omega)
  have hle2 : (buildL 4 (ks ++ ms)).length ≤ 12502 := buildL_le 4 (ks ++ ms) (by simp; omega)
  clear h1 p1 h2 p2 h3 h4 h4' h5 hg5 hg4 hb34 q2 hlt1 hlt2 hne h4l hmo hbw4 hba
  go_wp2_with fail
  refine (build_any w5 4 A1 n1 c1 vs1 ks hs1 q1 hq5 (by omega)).mono ?_
  generalize buildL 4 ks = f at *
  rintro e w6 ⟨A6, n6, c6, rfl, ho6, hb6⟩
  have hn6 := ho6.len'
  subst hn6
  have hbw6 := hbw5.trans (hb6.mono hbw5.size)
  go_wp2_with fail
  refine (build_any w6 4 A5 _ c5 _ _ (hs5.below (by omega) hb6) (q3.below hb6) (hq.below hbw6) (by omega)).mono ?_
  generalize buildL 4 (ks ++ ms) = g at *
  rintro e w7 ⟨A7, n7, c7, rfl, ho7, hb7⟩
  have hn7 := ho7.len'
  subst hn7
  have hb57 := hb6.trans (hb7.mono hb6.size)
  have hbw7 := hbw5.trans (hb57.mono hbw5.size)
  have hq7 := hq.below hbw7
  have s6 := (OwnB.sl ho6).below (by omega) hb7
  have s7 := OwnB.sl ho7
  have s3 := hs3.below (by omega) hb57
  clear hs1 q1 hq5 q3 hs5 hs3 hb6 hb57 hb7 ho6 ho7 hbw6 hbw5 hbw3 hb4 hb5
  by_cases hfg : f.length = g.length
  · have d1 : ((f.length : Int) != (g.length : Int)) = false := by simp; omega
    have Hfg := Lib.hid hfg
    clear hfg
    go_wp2_with fail
    refine (has_any w7 A6 _ c6 f s6 A3 n3 c3 t s3 hq7 (by omega)).mono ?_
    cases hf : hasL f t with
    | false =>
      rintro e w8 ⟨rfl, hb8⟩
      go_wp2
      go_ret
      exact ⟨rfl, hbw7.trans (hb8.mono hbw7.size)⟩
    | true =>
      have hgt := Hmo.out Hfg.out hf
      have Hgt := Lib.hid hgt
      clear hgt hf
      rintro e w8 ⟨rfl, hb8⟩
      have hbw8 := hbw7.trans (hb8.mono hbw7.size)
      go_wp2_with fail
      refine (has_any w8 A7 _ c7 g (s7.below (by omega) hb8) A3 n3 c3 t (s3.below (by omega) hb8) (hq.below hbw8) (by omega)).mono ?_
      rw [Hgt.out]
      rintro e w9 ⟨rfl, hb9⟩
      go_wp2
      go_ret
      exact ⟨rfl, hbw8.trans (hb9.mono hbw8.size)⟩
  · have d1 : ((f.length : Int) != (g.length : Int)) = true := by simp; omega
    clear hfg
    go_wp2
    go_ret
    exact ⟨rfl, hbw7⟩
end Go.Proofs.YthbmlkdijppkbaaDoor
