/-
  The seal's sum as plain arithmetic: four bits at a time, off the table. Nothing of the program stands here. No condition.
-/
namespace Go.Proofs.YthbmlkdijppkbaaDoor

/-- the table -/
def quarterL : List Nat := [0x00000000, 0x105ec76f, 0x20bd8ede, 0x30e349b1, 0x417b1dbc, 0x5125dad3, 0x61c69362, 0x7198540d,
  0x82f63b78, 0x92a8fc17, 0xa24bb5a6, 0xb21572c9, 0xc38d26c4, 0xd3d3e1ab, 0xe330a81a, 0xf36e6f75]
/-- what four bits leave -/
def nib (c : Nat) : Nat := (c / 16) ^^^ quarterL.getD (c % 16) 0
def stepB (c b : Nat) : Nat := nib (nib (c ^^^ b))
def crcL (c : Nat) (l : List UInt8) : Nat := l.foldl (fun c b => stepB c b.toNat) c
/-- the sum -/
def sumL (l : List UInt8) : Nat := 4294967295 - crcL 4294967295 l

theorem quarter_lt (i : Nat) : quarterL.getD i 0 < 4294967296 := by
  rcases Nat.lt_or_ge i 16 with h | h
  · have : ∀ i : Fin 16, quarterL.getD i.val 0 < 4294967296 := by decide
    exact this ⟨i, h⟩
  · rw [List.getD_eq_getElem?_getD, List.getElem?_eq_none (by simpa [quarterL] using h)]
    decide
theorem nib_lt {c : Nat} (h : c < 4294967296) : nib c < 4294967296 := by
  unfold nib
  exact Nat.xor_lt_two_pow (n := 32) (by omega) (quarter_lt _)
theorem stepB_lt {c b : Nat} (h : c < 4294967296) (hb : b < 4294967296) : stepB c b < 4294967296 :=
  nib_lt (nib_lt (Nat.xor_lt_two_pow (n := 32) h hb))
theorem crcL_lt {c : Nat} (h : c < 4294967296) (l : List UInt8) : crcL c l < 4294967296 := by
  unfold crcL
  induction l generalizing c with
  | nil => exact h
  | cons b r ih => exact ih (stepB_lt h (by have := b.toNat_lt; omega))
theorem crcL_snoc (c : Nat) (l : List UInt8) (b : UInt8) : crcL c (l ++ [b]) = stepB (crcL c l) b.toNat := by simp [crcL]
theorem crcL_append (c : Nat) (l m : List UInt8) : crcL c (l ++ m) = crcL (crcL c l) m := by simp [crcL]
theorem sumL_lt (l : List UInt8) : sumL l < 4294967296 := by unfold sumL; omega
theorem xor_ones {c : Nat} (h : c < 4294967296) : 4294967295 ^^^ c = 4294967295 - c := by
  have h1 : (BitVec.allOnes 32 ^^^ BitVec.ofNat 32 c).toNat = (~~~ BitVec.ofNat 32 c).toNat := by rw [BitVec.allOnes_xor]
  rw [BitVec.toNat_xor, BitVec.toNat_not, BitVec.toNat_allOnes, BitVec.toNat_ofNat, Nat.mod_eq_of_lt (by omega)] at h1
  simpa using h1
theorem take_snoc {α : Type} (l : List α) (k : Nat) (h : k < l.length) : l.take (k + 1) = l.take k ++ [l[k]] := by
  rw [List.take_succ_eq_append_getElem h]
end Go.Proofs.YthbmlkdijppkbaaDoor
