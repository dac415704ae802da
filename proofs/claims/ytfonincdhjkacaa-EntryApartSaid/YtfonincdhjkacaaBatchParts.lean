/-
  The bytes of ops, plain: their parts, how many they are. No program stands here. No condition.
-/
import Derived.Test.YtfonincdhjkacaaBatchPlain
import Derived.Test.YtfonincdhjkacaaAtomWalk
namespace Go.Proofs.Ytfonincdhjkacaa
open Go.RowKit
set_option maxRecDepth 20000
def opsBE (l : List OpL) : List UInt8 × Nat := if checkOpsL l = 0 then (opsBytesL l, 0) else ([], checkOpsL l)
def partsL (N : Nat) (ls : List OpL) : List (List UInt8) := numL N :: (ls.map fun o => [numL o.kind.toNat, textL o.key, textL o.value]).flatten
theorem partsL_snoc (N : Nat) (ls : List OpL) (o : OpL) : partsL N (ls ++ [o]) = partsL N ls ++ [numL o.kind.toNat, textL o.key, textL o.value] := by simp [partsL]
theorem partsL_len (N : Nat) : ∀ ls : List OpL, (partsL N ls).length = 1 + 3 * ls.length
  | [] => rfl
  | o :: ls => by
    have ih := partsL_len N ls
    unfold partsL at ih ⊢
    simp only [List.length_cons, List.map_cons, List.flatten_cons, List.length_append, List.length_nil] at ih ⊢
    omega
theorem partsL_flat (N : Nat) (ls : List OpL) : (partsL N ls).flatten = numL N ++ (ls.map opBytesL).flatten := by
  unfold partsL
  rw [List.flatten_cons]
  congr 1
  induction ls with
  | nil => rfl
  | cons o ls ih =>
    simp only [List.map_cons, List.flatten_cons, List.cons_append, List.nil_append, ih, opBytesL, List.append_assoc]
theorem numL_le (n : Nat) : (numL n).length ≤ 9 := (num_len n).2
theorem textL_le (t : List UInt8) : (textL t).length ≤ t.length + 9 := by
  unfold textL
  rw [List.length_append]
  have := numL_le t.length
  omega
theorem opFlat_le : ∀ ls : List OpL, (∀ o ∈ ls, o.key.length ≤ 64 ∧ o.value.length ≤ 512 ∧ o.kind.toNat ≤ 3) → (ls.map opBytesL).flatten.length ≤ 700 * ls.length
  | [], _ => by simp
  | o :: ls, h => by
    have ih := opFlat_le ls (fun x hx => h x (by simp [hx]))
    have ho := h o (by simp)
    have h1 := numL_le o.kind.toNat
    have h2 := textL_le o.key
    have h3 := textL_le o.value
    simp only [List.map_cons, List.flatten_cons, List.length_append, opBytesL, List.length_cons]
    omega
end Go.Proofs.Ytfonincdhjkacaa
