/-
  Parts of lists of bytes: l[:k], l[k:]; and copying bytes into the midst of bytes of the call's own. No condition but sizes.
-/
import Derived.Test.YtfonincdhjkacaaParts
namespace Go.Proofs.Ytfonincdhjkacaa
set_option maxRecDepth 20000
open Go.RowKit

theorem run_sizeP (w : World) : (sizeOf 23).run Try.prog w = .ok 1 w := by
  obtain ⟨i, hi, _, hs, _⟩ := info_parts infoP
  simp [sizeOf, typeInfo, hi, hs]
theorem PartsOf.take {w : World} {vs : List Value} {ls : List (List UInt8)} (h : PartsOf w vs ls) (k : Nat) : PartsOf w (vs.take k) (ls.take k) :=
  ⟨by simp [h.1], fun i v l hv hl => by
    rw [List.getElem?_take] at hv hl
    split at hv
    · rename_i hi
      rw [if_pos hi] at hl
      exact h.2 i v l hv hl
    · cases hv⟩
theorem PartsOf.drop {w : World} {vs : List Value} {ls : List (List UInt8)} (h : PartsOf w vs ls) (k : Nat) : PartsOf w (vs.drop k) (ls.drop k) :=
  ⟨by simp [h.1], fun i v l hv hl => by
    rw [List.getElem?_drop] at hv hl
    exact h.2 _ v l hv hl⟩
/-- l[:k] -/
theorem cutHP {w : World} {A : Option Addr} {n c : Nat} {vs : List Value} (h : Sl w 1 A n c vs) (q : IntKind) (i : Int) (k : Nat) (hi : i = k) (hk : k ≤ n) :
    (∀ w' : World, (Instr.slice 116 (.slice A n c) none (some (.int q i)) none).run Try.prog w' = .ok (.slice A k c) w') ∧ Sl w 1 A k c (vs.take k) := by
  have hcap := h.cap
  constructor
  · intro w'
    subst hi
    have := run_slice_h (P := Try.prog) w' 116 A n c Try.underlying116 q k (by omega) (by omega)
    rw [this]
    show ((sizeOf 23).run Try.prog w').andThen _ = _
    rw [run_sizeP]
    simp only [Result.andThen, sliced, Int.toNat_natCast, Nat.sub_zero, Nat.zero_mul]
    rw [addr0]
  · have := h.cut (lo := 0) (hi := k) (m := c) (Nat.zero_le _) hk (by omega) (Nat.le_refl _)
    simp only [List.drop_zero, Nat.sub_zero, Nat.mul_one] at this
    rw [addr0] at this
    exact this
/-- l[k:] -/
theorem cutLP {w : World} {A : Option Addr} {n c : Nat} {vs : List Value} (h : Sl w 1 A n c vs) (q : IntKind) (i : Int) (lo : Nat) (ei : i = lo) (h2 : lo ≤ n) :
    ∃ A', (∀ w' : World, (Instr.slice 116 (.slice A n c) (some (.int q i)) none none).run Try.prog w' = .ok (.slice A' (n - lo) (c - lo)) w') ∧ Sl w 1 A' (n - lo) (c - lo) (vs.drop lo) := by
  have hcap := h.cap
  have hl := h.len
  subst ei
  refine ⟨if c = lo then A else A.map (·.add (lo * 1)), fun w' => ?_, ?_⟩
  · have := run_slice_l (P := Try.prog) w' 116 A n c Try.underlying116 q lo (by omega) (by omega)
    rw [this]
    show ((sizeOf 23).run Try.prog w').andThen _ = _
    rw [run_sizeP]
    simp only [Result.andThen, sliced, Int.toNat_natCast]
  · have := h.cut (lo := lo) (hi := n) (m := c) h2 (Nat.le_refl _) (by omega) (Nat.le_refl _)
    simp only [Nat.mul_one] at this
    rw [List.take_of_length_le (by simp; omega)] at this
    rw [Nat.mul_one]
    exact this
/-- where p[k:] lies -/
def tailA (A : Option Addr) (c k : Nat) : Option Addr := if c = k then A else A.map (·.add (k * 1))
theorem run_tailB (w' : World) (A : Option Addr) (n c : Nat) (q : IntKind) (i : Int) (k : Nat) (ei : i = k) (hk : k ≤ n) :
    (Instr.slice 23 (.slice A n c) (some (.int q i)) none none).run Try.prog w' = .ok (.slice (tailA A c k) (n - k) (c - k)) w' := by
  subst ei
  have := run_slice_l (P := Try.prog) w' 23 A n c Try.underlying23 q k (by omega) (by omega)
  rw [this]
  show ((sizeOf 5).run Try.prog w').andThen _ = _
  rw [run_sizeB]
  simp only [Result.andThen, sliced, Int.toNat_natCast]
  rfl
section
variable {P : Program} (w : World)
/-- copy onto the tail of what the call owns -/
theorem run_copy_sub (B : Nat) (t ty e : TypeId) (i : TypeInfo) (ht : P.underlying t = some (.slice e)) (hi : P.info? e = some i) (hsize : i.size = 1)
    (A : Option Addr) (n c : Nat) (xs : List Value) (hown : Own w B e 1 A n c xs) (k : Nat) (hk : k ≤ n)
    (A2 : Option Addr) (m c2 : Nat) (news : List Value) (hs : Sl w 1 A2 m c2 news) (h1 : ∀ u ∈ news, u.oneCell' = true) (hmn : k + m ≤ n) :
    ∃ w', (Builtin.copy_ #[t, t] ty #[.slice (tailA A c k) (n - k) (c - k), .slice A2 m c2]).run P w = .ok (goInt m) w' ∧ Own w' B e 1 A n c (xs.take k ++ news ++ xs.drop (k + m)) ∧ w.grownBy w' (blk A c) := by
  have hf := run_first (P := P) w 1 m c2 A2 news hs
  have hnl : news.length = m := by have := hs.len; omega
  have hxl : xs.length = n := by have := hown.len; omega
  have hmin : Nat.min m (n - k) = m := Nat.min_eq_left (by omega)
  have hcap := hown.cap
  by_cases hck : c = k
  · obtain rfl : n = k := by omega
    obtain rfl : m = 0 := by omega
    obtain rfl : news = [] := List.eq_nil_of_length_eq_zero hnl
    refine ⟨w, ?_, ?_, World.grownBy.refl w _⟩
    · unfold tailA
      rw [if_pos hck]
      cases A <;> simp [Builtin.copy_, run_underlying ht, sizeOf, typeInfo, hi, hsize, Builtin.lenOf, hf, storeCells]
    · have e1 : xs.take n ++ [] ++ xs.drop (n + 0) = xs := by
        rw [List.append_nil, Nat.add_zero, List.take_append_drop]
      rw [e1]
      exact hown
  · obtain ⟨g, o, cur, rfl, hb, hh, hfit, htk⟩ := hown.row (by omega)
    rw [Nat.mul_one] at hfit htk
    have hst := run_storeCells_at P g (o + k) e news 0 cur w hh (by simp; omega) h1
    simp only [Nat.add_zero] at hst
    have eA : tailA (some ⟨g, o, none⟩) c k = some ⟨g, o + k, none⟩ := by
      unfold tailA
      rw [if_neg hck]
      simp [Addr.add_lit]
    rw [eA]
    refine ⟨w.setRow g (cur.toList.take (o + k) ++ news ++ cur.toList.drop (o + k + news.length)).toArray, ?_, ⟨by simp; omega, hcap, hown.capm, fun _ => ⟨g, o, _, rfl, hb, setRow_heap w g cur _ e _ hh, ?_, ?_⟩⟩, ⟨rfl, rfl, rfl, by simp, fun j _ hj => setRow_other w g j _ (fun e => hj (by simp [blk, e]; omega))⟩⟩
    · simp only [Builtin.copy_, List.getElem?_toArray]
      simp [run_underlying ht, sizeOf, typeInfo, hi, hsize, Builtin.lenOf, hmin, hf]
      rw [hst]
      simp [Result.andThen]
    · simp only [List.size_toArray, List.length_append, List.length_take, List.length_drop, Array.length_toList]
      omega
    · have hlo : o + k ≤ cur.toList.length := by simp; omega
      have e1 : cur.toList.take (o + k) = cur.toList.take o ++ xs.take k := by
        rw [List.take_add, ← htk, List.take_take, Nat.min_eq_left hk]
      have e2 : xs.drop (k + m) = ((cur.toList.drop (o + k + news.length)).take (n - (k + m))) := by
        rw [← htk, List.drop_take, List.drop_drop, hnl]
        congr 2
        omega
      rw [e1, e2]
      simp only [List.append_assoc, Nat.mul_one]
      rw [List.drop_left' (by simp; omega), ← List.append_assoc, List.take_append]
      rw [List.take_of_length_le (by simp; omega)]
      rw [List.append_assoc]
      congr 3
      simp
      omega
end
theorem tailA_zero (A : Option Addr) (c : Nat) : tailA A c 0 = A := by
  unfold tailA
  split
  · rfl
  · cases A <;> simp [Addr.add]
/-- copy of bytes into the midst of a row of the call's own, as an equation (the walk stands before it) -/
theorem run_cpySub (w : World) (B : Nat) (A : Option Addr) (n c : Nat) (xs : List Value) (hown : Own w B 5 1 A n c xs) (k : Nat) (hk : k ≤ n)
    (A2 : Option Addr) (m c2 : Nat) (l2 : List UInt8) (hs : Sl w 1 A2 m c2 (bc l2)) (hmn : k + m ≤ n) :
    ∃ w', (Builtin.copy_ #[23, 23] 3 #[.slice (tailA A c k) (n - k) (c - k), .slice A2 m c2]).run Try.prog w = .ok (.int .i64 (m : Int)) w' ∧ Own w' B 5 1 A n c (xs.take k ++ bc l2 ++ xs.drop (k + m)) ∧ w.grownBy w' (blk A c) := by
  obtain ⟨i, hi, hz, hs1, hb1⟩ := info_parts infoB
  exact run_copy_sub (P := Try.prog) w B 23 3 _ i Try.underlying23 hi hs1 A n c xs hown k hk A2 m c2 (bc l2) hs (bc_one _) hmn
theorem run_cpyHead (w : World) (B : Nat) (A : Option Addr) (n c : Nat) (xs : List Value) (hown : Own w B 5 1 A n c xs)
    (A2 : Option Addr) (m c2 : Nat) (l2 : List UInt8) (hs : Sl w 1 A2 m c2 (bc l2)) (hmn : m ≤ n) :
    ∃ w', (Builtin.copy_ #[23, 23] 3 #[.slice A n c, .slice A2 m c2]).run Try.prog w = .ok (.int .i64 (m : Int)) w' ∧ Own w' B 5 1 A n c (bc l2 ++ xs.drop m) ∧ w.grownBy w' (blk A c) := by
  obtain ⟨w', h1, h2, h3⟩ := run_cpySub w B A n c xs hown 0 (Nat.zero_le _) A2 m c2 l2 hs (by omega)
  rw [tailA_zero] at h1
  exact ⟨w', h1, by simpa using h2, h3⟩
end Go.Proofs.Ytfonincdhjkacaa
