/-
  SealPlain, BytesEq, OpenR, Parts in one text. No condition but sizes.
-/
import Derived.Test.YtpffieogkfndaaaGreatDoorJBytes
import Derived.Test.YtpffieogkfndaaaGreatDoorJRecs
namespace Go.Proofs.YtpffieogkfndaaaGreatDoor
set_option maxRecDepth 20000
set_option linter.unusedVariables false
set_option linter.unusedSimpArgs false

/-- the table -/
def quarterL : List Nat := [0x00000000, 0x105ec76f, 0x20bd8ede, 0x30e349b1, 0x417b1dbc, 0x5125dad3, 0x61c69362, 0x7198540d,
  0x82f63b78, 0x92a8fc17, 0xa24bb5a6, 0xb21572c9, 0xc38d26c4, 0xd3d3e1ab, 0xe330a81a, 0xf36e6f75]
/-- what four bits leave -/
def nib (c : Nat) : Nat := (c / 16) ^^^ quarterL.getD (c % 16) 0
def stepB (c b : Nat) : Nat := nib (nib (c ^^^ b))
def crcL (c : Nat) (l : List UInt8) : Nat := l.foldl (fun c b => stepB c b.toNat) c
/-- the sum -/
def sumL (l : List UInt8) : Nat := 4294967295 - crcL 4294967295 l

theorem quarter_lt (i : Nat) : quarterL.getD i 0 < 4294967296 := by
  rcases Nat.lt_or_ge i 16 with h | h
  · have : ∀ i : Fin 16, quarterL.getD i.val 0 < 4294967296 := by decide
    exact this ⟨i, h⟩
  · rw [List.getD_eq_getElem?_getD, List.getElem?_eq_none (by simpa [quarterL] using h)]
    decide
theorem nib_lt {c : Nat} (h : c < 4294967296) : nib c < 4294967296 := by
  unfold nib
  exact Nat.xor_lt_two_pow (n := 32) (by omega) (quarter_lt _)
theorem stepB_lt {c b : Nat} (h : c < 4294967296) (hb : b < 4294967296) : stepB c b < 4294967296 :=
  nib_lt (nib_lt (Nat.xor_lt_two_pow (n := 32) h hb))
theorem crcL_lt {c : Nat} (h : c < 4294967296) (l : List UInt8) : crcL c l < 4294967296 := by
  unfold crcL
  induction l generalizing c with
  | nil => exact h
  | cons b r ih => exact ih (stepB_lt h (by have := b.toNat_lt; omega))
theorem crcL_snoc (c : Nat) (l : List UInt8) (b : UInt8) : crcL c (l ++ [b]) = stepB (crcL c l) b.toNat := by simp [crcL]
theorem crcL_append (c : Nat) (l m : List UInt8) : crcL c (l ++ m) = crcL (crcL c l) m := by simp [crcL]
theorem sumL_lt (l : List UInt8) : sumL l < 4294967296 := by unfold sumL; omega
theorem xor_ones {c : Nat} (h : c < 4294967296) : 4294967295 ^^^ c = 4294967295 - c := by
  have h1 : (BitVec.allOnes 32 ^^^ BitVec.ofNat 32 c).toNat = (~~~ BitVec.ofNat 32 c).toNat := by rw [BitVec.allOnes_xor]
  rw [BitVec.toNat_xor, BitVec.toNat_not, BitVec.toNat_allOnes, BitVec.toNat_ofNat, Nat.mod_eq_of_lt (by omega)] at h1
  simpa using h1
theorem take_snoc {α : Type} (l : List α) (k : Nat) (h : k < l.length) : l.take (k + 1) = l.take k ++ [l[k]] := by
  rw [List.take_succ_eq_append_getElem h]
end Go.Proofs.YtpffieogkfndaaaGreatDoor

namespace Go.Proofs.YtpffieogkfndaaaGreatDoor
set_option maxRecDepth 20000
set_option linter.unusedVariables false
set_option linter.unusedSimpArgs false
open Go.RowKit

set_option maxHeartbeats 400000 in
/-- bytes.Equal: of two -/
theorem equal_any (w : World) (A1 : Option Addr) (n1 c1 : Nat) (l1 : List UInt8) (A2 : Option Addr) (n2 c2 : Nat) (l2 : List UInt8) (h1 : Sl w 1 A1 n1 c1 (bc l1)) (h2 : Sl w 1 A2 n2 c2 (bc l2)) :
    Calls Tryz.prog 68 #[.slice A1 n1 c1, .slice A2 n2 c2] w fun e w' => e = .returned (.bool (l1 == l2)) ∧ w = w' := by
  obtain ⟨s1, e1, r1⟩ := run_conv w A1 n1 c1 l1 h1
  obtain ⟨s2, e2, r2⟩ := run_conv w A2 n2 c2 l2 h2
  have E1 := Lib.hid e1
  have E2 := Lib.hid e2
  clear e1 e2 h1 h2
  go_enter Tryz.func68, Tryz.ntmps68
  go_wp2
  go_ret
  refine ⟨ret_bool ?_, rfl⟩
  rw [E1.out, E2.out]

theorem equal_is (w : World) (A1 : Option Addr) (n1 c1 : Nat) (l1 : List UInt8) (A2 : Option Addr) (n2 c2 : Nat) (l2 : List UInt8) (b : Bool) (hb : Hid ((l1 == l2) = b)) (h1 : Sl w 1 A1 n1 c1 (bc l1)) (h2 : Sl w 1 A2 n2 c2 (bc l2)) :
    Calls Tryz.prog 68 #[.slice A1 n1 c1, .slice A2 n2 c2] w fun e w' => e = .returned (.bool b) ∧ w = w' := by
  rw [← hb.out]
  exact equal_any w A1 n1 c1 l1 A2 n2 c2 l2 h1 h2
end Go.Proofs.YtpffieogkfndaaaGreatDoor

namespace Go.Proofs.YtpffieogkfndaaaGreatDoor
set_option maxRecDepth 20000
set_option linter.unusedVariables false
set_option linter.unusedSimpArgs false
open Go.ChangeShapes Go.WideShapes Go.ChangeAt Go.RowKit Go.Deep

section
variable {P : Program}
section
variable {H : Type} {enc : TypeId × Value → H} {w : World} {base : Nat} {held : Bool} {fuel : Nat} {cs : List Value} {x : DataW H × List MemPlace}
end
end
end Go.Proofs.YtpffieogkfndaaaGreatDoor

namespace Go.Proofs.YtpffieogkfndaaaGreatDoor
set_option maxRecDepth 20000
set_option linter.unusedVariables false
set_option linter.unusedSimpArgs false
open Go.RowKit

theorem infoP : (Tryz.prog.info? 29).map (fun i => (i.zero, i.size, i.bytes)) = some (some (.slice none 0 0), 1, 24) := by kernel_rfl

/-- rows of unlike element types lie apart -/
theorem own_apart {w : World} {B B' e e' size size' n n' c c' : Nat} {A A' : Option Addr} {xs xs' : List Value} (h : Own w B e size A n c xs) (h' : Own w B' e' size' A' n' c' xs') (he : e ≠ e') : ∀ b, blk A c = some b → blk A' c' ≠ some b := by
  intro b hb hb'
  unfold blk at hb hb'
  split at hb
  · cases hb
  · split at hb'
    · cases hb'
    · obtain ⟨g, o, cur, rfl, _, hh, _⟩ := h.row (by omega)
      obtain ⟨g', o', cur', rfl, _, hh', _⟩ := h'.row (by omega)
      simp at hb hb'
      subst hb
      subst hb'
      rw [hh] at hh'
      injection hh' with hh'
      injection hh' with _ hh' _
      exact he hh'
/-- the values vs are byte slices of the texts ls, each in memory of the call's own from block B on, none in block X -/
def OwnParts (w : World) (B : Nat) (X : Option Nat) (vs : List Value) (ls : List (List UInt8)) : Prop :=
  vs.length = ls.length ∧ ∀ (i : Nat) (v : Value) (l : List UInt8), vs[i]? = some v → ls[i]? = some l → ∃ (A : Option Addr) (n c : Nat), v = Value.slice A n c ∧ OwnB w B A n c l ∧ ∀ b, blk A c = some b → X ≠ some b
section
variable {w w' : World} {B B' : Nat} {X X' : Option Nat} {vs : List Value} {ls : List (List UInt8)}
theorem OwnParts.nil (w : World) (B : Nat) (X : Option Nat) : OwnParts w B X [] [] := ⟨rfl, fun i v l hv => by simp at hv⟩
theorem OwnParts.parts (h : OwnParts w B X vs ls) : PartsOf w vs ls :=
  ⟨h.1, fun i v l hv hl => by
    obtain ⟨A, n, c, e, ho, _⟩ := h.2 i v l hv hl
    exact ⟨A, n, c, e, ho.sl⟩⟩
theorem OwnParts.below (h : OwnParts w B X vs ls) (hb : Below w.heap.size w w') : OwnParts w' B X vs ls :=
  ⟨h.1, fun i v l hv hl => by
    obtain ⟨A, n, c, e, ho, hx⟩ := h.2 i v l hv hl
    exact ⟨A, n, c, e, Own.below ho hb, hx⟩⟩
theorem OwnParts.mono (h : OwnParts w B X vs ls) (hB : B' ≤ B) : OwnParts w B' X vs ls :=
  ⟨h.1, fun i v l hv hl => by
    obtain ⟨A, n, c, e, ho, hx⟩ := h.2 i v l hv hl
    exact ⟨A, n, c, e, Own.mono ho hB, hx⟩⟩
end

end Go.Proofs.YtpffieogkfndaaaGreatDoor
