/-
  What is built into a filter it has, and more keys set more bits: in plain lists. Nothing of the program stands here.
-/
import Derived.Test.YthbmlkdijppkbaaDoorBloomPlain
namespace Go.Proofs.YthbmlkdijppkbaaDoor

theorem sizeN_ge (bt : Int) (k : Nat) : 8 ≤ sizeN bt k := by unfold sizeN; omega
theorem sizeN_le (bt : Int) (k : Nat) (h : k ≤ 1000) : sizeN bt k ≤ 12501 := by
  have h1 := takeN_le bt
  have h2 : takeN bt * k ≤ 100 * 1000 := Nat.mul_le_mul h1 h
  unfold sizeN
  omega
@[simp] theorem buildL_length (bt : Int) (keys : List (List UInt8)) : (buildL bt keys).length = sizeN bt keys.length + 1 := by simp [buildL]
theorem buildL_last (bt : Int) (keys : List (List UInt8)) : ((buildL bt keys)[sizeN bt keys.length]?.getD 0).toNat = probesN bt := by
  have h1 := probesN_le bt
  have e : (buildL bt keys)[sizeN bt keys.length]? = some (probesN bt).toUInt8 := by
    unfold buildL
    rw [List.getElem?_append_right (by simp)]
    simp
  rw [e]
  simp
  omega
theorem buildL_byte (bt : Int) (keys : List (List UInt8)) (j : Nat) (hj : j < sizeN bt keys.length) : ((buildL bt keys)[j]?.getD 0).toNat = byteN (bitsL keys (8 * sizeN bt keys.length) (probesN bt)) j := by
  have e : (buildL bt keys)[j]? = (bytesN (bitsL keys (8 * sizeN bt keys.length) (probesN bt)) (sizeN bt keys.length))[j]? := by
    unfold buildL
    rw [List.getElem?_append_left (by simpa using hj)]
  rw [e, List.getElem?_eq_getElem (by simpa using hj), Option.getD_some, bytesN_get]
theorem buildL_bit (bt : Int) (keys : List (List UInt8)) (k : Nat) (hk : k < 8 * sizeN bt keys.length) : bitL (buildL bt keys) k = (bitsL keys (8 * sizeN bt keys.length) (probesN bt))[k]?.getD false := by
  unfold bitL
  rw [buildL_byte _ _ _ (by omega), byteN_bit]
  have h1 : k % 8 < 8 := Nat.mod_lt _ (by decide)
  have h2 : 8 * (k / 8) + k % 8 = k := Nat.div_add_mod k 8
  rw [h2]
  simp [h1]
/-- a key is let through just if each of its probes is some key's -/
theorem hasL_build (bt : Int) (keys : List (List UInt8)) (key : List UInt8) :
    hasL (buildL bt keys) key = true ↔ ∀ k ∈ probesL key (8 * sizeN bt keys.length) (probesN bt), ∃ q ∈ keys, k ∈ probesL q (8 * sizeN bt keys.length) (probesN bt) := by
  have h1 := sizeN_ge bt keys.length
  have h2 := probesN_pos bt
  have h3 := probesN_le bt
  unfold hasL
  rw [buildL_length, Nat.add_sub_cancel, buildL_last, if_neg (by omega), List.all_eq_true]
  have lt : ∀ k, k ∈ probesL key (8 * sizeN bt keys.length) (probesN bt) → k < 8 * sizeN bt keys.length := by
    intro k hk
    obtain ⟨i, _, rfl⟩ := probesL_mem.1 hk
    exact probeL_lt _ (by omega) _
  constructor
  · intro h k hk
    have := h k hk
    rw [buildL_bit _ _ _ (lt k hk)] at this
    exact (bitsL_get _ _ _ _ (lt k hk)).1 this
  · intro h k hk
    rw [buildL_bit _ _ _ (lt k hk)]
    exact (bitsL_get _ _ _ _ (lt k hk)).2 (h k hk)
theorem has_built (bt : Int) (keys : List (List UInt8)) (key : List UInt8) (h : key ∈ keys) : hasL (buildL bt keys) key = true :=
  (hasL_build bt keys key).2 fun _ hk => ⟨key, h, hk⟩
theorem has_more (bt : Int) (keys more : List (List UInt8)) (key : List UInt8) (hl : (buildL bt keys).length = (buildL bt (keys ++ more)).length) (h : hasL (buildL bt keys) key = true) :
    hasL (buildL bt (keys ++ more)) key = true := by
  have e : sizeN bt (keys ++ more).length = sizeN bt keys.length := by simp at hl ⊢; omega
  rw [hasL_build] at h ⊢
  rw [e]
  intro k hk
  obtain ⟨q, hq, hkq⟩ := h k hk
  exact ⟨q, List.mem_append_left _ hq, hkq⟩
/-- the document's examples -/
theorem ex_all : hasL (List.replicate 8 0) [] = true := by decide +kernel
theorem ex_one : hasL (List.replicate 8 0 ++ [1]) [] = false := by decide +kernel
theorem ex_probes : probesN 10 = 6 := by decide
theorem ex_size : sizeN 10 2 = 8 := by decide
end Go.Proofs.YthbmlkdijppkbaaDoor
