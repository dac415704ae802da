/-
  A reel of which one byte is another one, in plain lists: at the record that holds that byte no record stands any more, unless the byte tells how many bytes a piece has. Nothing of the program stands here.
-/
import Derived.Test.YthbmlkdijppkbaaDoorReelChain
import Derived.Test.YthbmlkdijppkbaaDoorSealLaws2
namespace Go.Proofs.YthbmlkdijppkbaaDoor

/-- from a on no piece's length stands at k -/
inductive Free (P : List UInt8) (k : Nat) : Nat → Prop
  | done (a : Nat) : P.length ≤ a → Free P k a
  | go (a kd : Nat) (x : List UInt8) (e : Nat) : PieceAt P (a + padN a) kd x e → k ≠ a + padN a + 4 → k ≠ a + padN a + 5 → Free P k e → Free P k a
theorem drop_set_at (P : List UInt8) (k a : Nat) (x : UInt8) (h : a ≤ k) : (P.set k x).drop a = (P.drop a).set (k - a) x := by
  rw [List.drop_set, if_neg (by omega)]
/-- no piece stands where one stood of which a byte is another one, but for the two that tell its length -/
theorem piece_spoilt {P : List UInt8} {k a kd kd' e e' : Nat} {x : UInt8} {b b' : List UInt8} (hk : k < P.length) (hx : x ≠ P[k]) (h : PieceAt P a kd b e) (h' : PieceAt (P.set k x) a kd' b' e') (h1 : a ≤ k) (h2 : k < e) (h4 : k ≠ a + 4) (h5 : k ≠ a + 5) : False := by
  obtain ⟨p1, p2, p3, p4, t, ht⟩ := h
  obtain ⟨q1, q2, q3, q4, u, hu⟩ := h'
  rw [drop_set_at P k a x h1, ← ht] at hu
  have hj : k - a < (pieceL kd b).length := by simp; omega
  rw [List.set_append_left _ _ hj] at hu
  have hC : (pieceL kd b)[k - a] ≠ x := by
    intro e
    apply hx
    have g : (P.drop a)[k - a]? = some x := by rw [← ht, List.getElem?_append_left hj, List.getElem?_eq_getElem hj, e]
    rw [List.getElem?_drop, show a + (k - a) = k by omega, List.getElem?_eq_getElem hk] at g
    exact (Option.some.inj g).symm
  obtain ⟨j, hjk⟩ : ∃ j, k - a = j := ⟨_, rfl⟩
  have j4 : j ≠ 4 := by omega
  have j5 : j ≠ 5 := by omega
  simp only [hjk] at hu hj hC
  have g4 := congrArg (fun l : List UInt8 => l[4]?) hu
  have g5 := congrArg (fun l : List UInt8 => l[5]?) hu
  simp only [List.getElem?_append_left (show 4 < (pieceL kd' b').length by simp; omega), List.getElem?_append_left (show 5 < (pieceL kd' b').length by simp; omega), List.getElem?_append_left (show 4 < ((pieceL kd b).set j x).length by simp; omega), List.getElem?_append_left (show 5 < ((pieceL kd b).set j x).length by simp; omega), List.getElem?_set_ne j4, List.getElem?_set_ne j5, pieceL_get _ _ 4 (by omega), pieceL_get _ _ 5 (by omega), headL_get4, headL_get5, Option.some.injEq] at g4 g5
  have m4 := ofNat_mod g4
  have m5 := ofNat_mod g5
  have hl : b'.length = b.length := by omega
  obtain ⟨hc, -⟩ := List.append_inj hu (by simp [hl])
  have d6 : ∀ (z : Nat) (l : List UInt8), (pieceL z l).drop 6 = UInt8.ofNat z :: l := fun _ _ => rfl
  have t4 : ∀ (z : Nat) (l : List UInt8), (pieceL z l).take 4 = le4 (maskL (sumL (UInt8.ofNat z :: l))) := fun _ _ => rfl
  have e6 := congrArg (List.drop 6) hc
  have e4 := congrArg (List.take 4) hc
  by_cases hj6 : j < 6
  · rw [d6, List.drop_set, if_pos hj6, d6] at e6
    injection e6 with ek eb
    have ekm := ofNat_mod ek
    obtain rfl : kd' = kd := by omega
    subst eb
    have := congrArg (fun l : List UInt8 => l[j]?) hc
    rw [List.getElem?_set_self hj, List.getElem?_eq_getElem hj] at this
    exact hC (Option.some.inj this)
  · rw [d6, List.drop_set, if_neg hj6, d6] at e6
    rw [t4, List.take_set, List.set_eq_of_length_le (by simp; omega), t4] at e4
    have e7 := mask_inj (sumL_lt _) (sumL_lt _) (le4_inj (maskL_lt _) (maskL_lt _) e4)
    rw [e6] at e7
    have hj2 : j < 7 + b.length := by simpa using hj
    refine sum_byte (UInt8.ofNat kd :: b) (j - 6) x (by simp; omega) (fun e => hC ?_) e7
    have g : ((pieceL kd b).drop 6)[j - 6]? = some x := by rw [d6, List.getElem?_eq_getElem (by simp; omega), e]
    rw [List.getElem?_drop, show 6 + (j - 6) = j by omega, List.getElem?_eq_getElem hj] at g
    exact Option.some.inj g
/-- no frame stands where one stood -/
theorem frame_spoilt {P : List UInt8} {k : Nat} {x : UInt8} (hk : k < P.length) (hx : x ≠ P[k]) (a : Nat) (b : Bool) (p q : List UInt8) (ha : a ≤ k) (hp : frameL a b p <+: P.drop a) (hq : frameL a b q <+: (P.set k x).drop a) (hf : Free P k a) (h2 : k < a + (frameL a b p).length) : False := by
  obtain ⟨f1, f2⟩ := frame_piece hp
  obtain ⟨g1, g2⟩ := frame_piece hq
  by_cases hpad : k < a + padN a
  · obtain ⟨t, ht⟩ := hp
    obtain ⟨u, hu⟩ := hq
    rw [frameL_eq, List.append_assoc] at ht hu
    rw [drop_set_at P k a x ha] at hu
    have hlen : k - a < (P.drop a).length := by simp; omega
    have c1 := congrArg (fun l : List UInt8 => l[k - a]?) ht
    have c2 := congrArg (fun l : List UInt8 => l[k - a]?) hu
    simp only [List.getElem?_append_left (show k - a < (List.replicate (padN a) (0 : UInt8)).length by simp; omega), List.getElem?_set_self hlen, List.getElem?_replicate, if_pos (show k - a < padN a by omega), List.getElem?_drop, show a + (k - a) = k by omega, List.getElem?_eq_getElem hk, Option.some.injEq] at c1 c2
    exact hx (by rw [← c1, ← c2])
  · cases hf with
    | done _ h =>
      have := f1.le
      omega
    | go _ kd y e hpc n4 n5 hfe =>
      obtain ⟨rfl, rfl, rfl⟩ := hpc.one f1
      by_cases hin : k < a + padN a + 7 + (p.take (roomN a)).length
      · exact piece_spoilt hk hx f1 g1 (by omega) hin n4 n5
      · -- the piece is as it was
        obtain ⟨r1, r2, r3, r4, t, ht⟩ := f1
        obtain ⟨s1, s2, s3, s4, u, hu⟩ := g1
        rw [drop_set_at P k _ x (by omega), ← ht, List.set_append_right _ _ (by rw [pieceL_length]; omega)] at hu
        obtain ⟨e1, e2, e3⟩ := pieceL_inj (kindN_lt _ _) (kindN_lt _ _) (by have := take_room_lt a q; omega) (by have := take_room_lt a p; omega) hu
        have e4 := kindN_inj e1
        cases he : endsAt a p with
        | true =>
          have hr : p.length ≤ roomN a := by simpa [endsAt] using he
          rw [frameL_end a b p hr] at h2
          rw [List.take_of_length_le hr] at hin
          simp at h2
          omega
        | false =>
          have hr : ¬ p.length ≤ roomN a := by simpa [endsAt] using he
          have hl : (p.take (roomN a)).length = roomN a := by simp; omega
          rw [hl] at hin hfe
          rw [frameL_go a b p hr] at h2
          have h2' : k < a + padN a + 7 + roomN a + (frameL (a + padN a + 7 + roomN a) false (p.drop (roomN a))).length := by simp [hl] at h2; omega
          exact frame_spoilt hk hx (a + padN a + 7 + roomN a) false (p.drop (roomN a)) (q.drop (roomN a)) (by omega) (f2 he) (g2 (e4.trans he)) hfe h2'
termination_by 2 * p.length + (if roomN a = 0 then 1 else 0)
decreasing_by
  rw [List.length_drop]
  by_cases h0 : roomN a = 0
  · have := room_next a h0
    rw [h0, this]
    simp
  · rw [if_neg h0]
    split <;> omega
/-- behind a whole frame they are free as they were ahead of it -/
theorem free_frame {P : List UInt8} {k : Nat} (a : Nat) (b : Bool) (p : List UInt8) (hp : frameL a b p <+: P.drop a) (hf : Free P k a) : Free P k (a + (frameL a b p).length) := by
  obtain ⟨f1, f2⟩ := frame_piece hp
  cases hf with
  | done _ h =>
    have := f1.le
    exact .done _ (by omega)
  | go _ kd y e hpc n4 n5 hfe =>
    obtain ⟨rfl, rfl, rfl⟩ := hpc.one f1
    cases he : endsAt a p with
    | true =>
      have hr : p.length ≤ roomN a := by simpa [endsAt] using he
      rw [List.take_of_length_le hr] at hfe
      rw [frameL_end a b p hr]
      have e : a + (List.replicate (padN a) 0 ++ pieceL (kindN b true) p).length = a + padN a + 7 + p.length := by simp; omega
      rwa [e]
    | false =>
      have hr : ¬ p.length ≤ roomN a := by simpa [endsAt] using he
      have hl : (p.take (roomN a)).length = roomN a := by simp; omega
      rw [hl] at hfe
      have ih := free_frame (a + padN a + 7 + roomN a) false (p.drop (roomN a)) (f2 he) hfe
      rw [frameL_go a b p hr]
      have e : a + (List.replicate (padN a) 0 ++ pieceL (kindN b false) (p.take (roomN a)) ++ frameL (a + padN a + 7 + roomN a) false (p.drop (roomN a))).length = a + padN a + 7 + roomN a + (frameL (a + padN a + 7 + roomN a) false (p.drop (roomN a))).length := by simp [hl]; omega
      rwa [e]
termination_by 2 * p.length + (if roomN a = 0 then 1 else 0)
decreasing_by
  rw [List.length_drop]
  by_cases h0 : roomN a = 0
  · have := room_next a h0
    rw [h0, this]
    simp
  · rw [if_neg h0]
    split <;> omega
/-- A REEL OF WHICH ONE BYTE IS ANOTHER ONE HAS THE RECORDS AHEAD OF THAT BYTE, AND NO OTHERS -/
theorem spoilt_all (ls : List (List UInt8)) (hl : ∀ l ∈ ls, l.length ≤ 65536) (k m : Nat) (x : UInt8) (hk : k < (allL ls).length) (hx : x ≠ (allL ls)[k]) (hf : Free (allL ls) k 0)
    (hm : m < ls.length) (h1 : (allL (ls.take m)).length ≤ k) (h2 : k < (allL (ls.take (m + 1))).length) {rs : List (List UInt8)} {n : Nat} (h : ReadsTo ((allL ls).set k x) rs n) : rs = ls.take m ∧ n ≤ k := by
  obtain ⟨e, g1, g2, g3, g4⟩ := h
  have free : ∀ j, j ≤ ls.length → Free (allL ls) k (allL (ls.take j)).length := by
    intro j
    induction j with
    | zero => intro _; simpa [allL] using hf
    | succ j ih =>
      intro hj
      have f := ih (by omega)
      have e1 := allL_step ls j (by omega)
      have hp : frameL (allL (ls.take j)).length true ls[j] <+: (allL ls).drop (allL (ls.take j)).length := by
        obtain ⟨t, ht⟩ := allL_take_le ls (j + 1)
        rw [e1, List.append_assoc] at ht
        rw [← ht, List.drop_left]
        exact List.prefix_append _ _
      have := free_frame _ _ _ hp f
      rw [e1, List.length_append]
      exact this
  have hp : allL (ls.take m) <+: (allL ls).set k x := by
    obtain ⟨t, ht⟩ := allL_take_le ls m
    rw [← ht, List.set_append_right _ _ h1]
    exact List.prefix_append _ _
  have h5 := reads_all ls hl _ m (by omega) hp
  have e1 := allL_step ls m hm
  have hr3 : frameL (allL (ls.take m)).length true ls[m] <+: (allL ls).drop (allL (ls.take m)).length := by
    obtain ⟨t, ht⟩ := allL_take_le ls (m + 1)
    rw [e1, List.append_assoc] at ht
    rw [← ht, List.drop_left]
    exact List.prefix_append _ _
  have hst : Stuck ((allL ls).set k x) (allL (ls.take m)).length := by
    intro r hr
    exact frame_spoilt hk hx _ true ls[m] r h1 hr3 hr.2 (free m (by omega)) (by rw [e1, List.length_append] at h2; exact h2)
  obtain ⟨e2, e3⟩ := reads_one g1 g2 h5 hst
  refine ⟨e2, ?_⟩
  rw [g4, e3]
  unfold endN
  rw [if_neg]
  · exact h1
  · rintro ⟨_, h7, _⟩
    have h8 := frameL_pos (allL (ls.take m)).length true ls[m]
    have h9 := hr3.length_le
    have h10 := padN_le (allL (ls.take m)).length
    simp at h7 h9
    omega
end Go.Proofs.YthbmlkdijppkbaaDoor
