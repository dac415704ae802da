/-
  The records of this program, plain, and how they lie in cells: versions (KeyL), ops (OpL), entries (EntL), spans (SpanL), pairs (PairL), notes (NoteL). No condition.
-/
import Derived.Test.YtfonincdhjkacaaRows0
namespace Go.Proofs.Ytfonincdhjkacaa
set_option maxRecDepth 20000
open Go.RowKit

structure KeyL where
  user : List UInt8
  seq : UInt64
  kind : UInt8
  deriving DecidableEq
structure OpL where
  kind : UInt8
  key : List UInt8
  value : List UInt8
  deriving DecidableEq
structure EntL where
  key : KeyL
  value : List UInt8
  deriving DecidableEq
structure SpanL where
  lo : List UInt8
  hi : List UInt8
  seq : UInt64
  deriving DecidableEq
structure PairL where
  key : List UInt8
  value : List UInt8
  deriving DecidableEq
structure NoteL where
  kind : UInt8
  seq : UInt64
  name : List UInt8
  ops : List OpL
  deriving DecidableEq
def u8v (x : UInt8) : Value := .int .u8 (x.toNat : Int)
def u64v (x : UInt64) : Value := .int .u64 (x.toNat : Int)
theorem bk_one {w : World} {p : Nat → Prop} {v : Value} {l : List UInt8} (h : Bk w p v l) : v.oneCell' = true := by
  obtain ⟨A, n, c, rfl, _⟩ := h
  rfl
instance : Rep (List UInt8) where
  size := 1
  cells w p cs l := ∃ v, cs = [v] ∧ Bk w p v l
  pos := by omega
  len := by rintro w p cs x ⟨v, rfl, _⟩; rfl
  one := by
    rintro w p cs x ⟨v, rfl, h⟩ u hu
    simp at hu
    subst hu
    exact bk_one h
  move := by
    rintro w w' p q cs x ⟨v, rfl, h⟩ hm
    exact ⟨v, rfl, h.move hm⟩
instance : Rep UInt64 where
  size := 1
  cells _ _ cs x := cs = [u64v x]
  pos := by omega
  len := by rintro w p cs x rfl; rfl
  one := by
    rintro w p cs x rfl u hu
    simp at hu
    subst hu
    rfl
  move := by
    rintro w w' p q cs x rfl hm
    rfl
instance : Rep KeyL where
  size := 3
  cells w p cs k := ∃ v, cs = [v, u64v k.seq, u8v k.kind] ∧ Bk w p v k.user
  pos := by omega
  len := by rintro w p cs x ⟨v, rfl, _⟩; rfl
  one := by
    rintro w p cs x ⟨v, rfl, h⟩ u hu
    simp at hu
    rcases hu with rfl | rfl | rfl
    · exact bk_one h
    · rfl
    · rfl
  move := by
    rintro w w' p q cs x ⟨v, rfl, h⟩ hm
    exact ⟨v, rfl, h.move hm⟩
instance : Rep OpL where
  size := 3
  cells w p cs o := ∃ v v', cs = [u8v o.kind, v, v'] ∧ Bk w p v o.key ∧ Bk w p v' o.value
  pos := by omega
  len := by rintro w p cs x ⟨v, v', rfl, _⟩; rfl
  one := by
    rintro w p cs x ⟨v, v', rfl, h, h'⟩ u hu
    simp at hu
    rcases hu with rfl | rfl | rfl
    · rfl
    · exact bk_one h
    · exact bk_one h'
  move := by
    rintro w w' p q cs x ⟨v, v', rfl, h, h'⟩ hm
    exact ⟨v, v', rfl, h.move hm, h'.move hm⟩
instance : Rep EntL where
  size := 4
  cells w p cs o := ∃ v v', cs = [v, u64v o.key.seq, u8v o.key.kind, v'] ∧ Bk w p v o.key.user ∧ Bk w p v' o.value
  pos := by omega
  len := by rintro w p cs x ⟨v, v', rfl, _⟩; rfl
  one := by
    rintro w p cs x ⟨v, v', rfl, h, h'⟩ u hu
    simp at hu
    rcases hu with rfl | rfl | rfl | rfl
    · exact bk_one h
    · rfl
    · rfl
    · exact bk_one h'
  move := by
    rintro w w' p q cs x ⟨v, v', rfl, h, h'⟩ hm
    exact ⟨v, v', rfl, h.move hm, h'.move hm⟩
instance : Rep SpanL where
  size := 3
  cells w p cs o := ∃ v v', cs = [v, v', u64v o.seq] ∧ Bk w p v o.lo ∧ Bk w p v' o.hi
  pos := by omega
  len := by rintro w p cs x ⟨v, v', rfl, _⟩; rfl
  one := by
    rintro w p cs x ⟨v, v', rfl, h, h'⟩ u hu
    simp at hu
    rcases hu with rfl | rfl | rfl
    · exact bk_one h
    · exact bk_one h'
    · rfl
  move := by
    rintro w w' p q cs x ⟨v, v', rfl, h, h'⟩ hm
    exact ⟨v, v', rfl, h.move hm, h'.move hm⟩
instance : Rep PairL where
  size := 2
  cells w p cs o := ∃ v v', cs = [v, v'] ∧ Bk w p v o.key ∧ Bk w p v' o.value
  pos := by omega
  len := by rintro w p cs x ⟨v, v', rfl, _⟩; rfl
  one := by
    rintro w p cs x ⟨v, v', rfl, h, h'⟩ u hu
    simp at hu
    rcases hu with rfl | rfl
    · exact bk_one h
    · exact bk_one h'
  move := by
    rintro w w' p q cs x ⟨v, v', rfl, h, h'⟩ hm
    exact ⟨v, v', rfl, h.move hm, h'.move hm⟩
instance : Rep NoteL where
  size := 4
  cells w p cs o := ∃ v A n c, cs = [u8v o.kind, u64v o.seq, v, .slice A n c] ∧ Bk w p v o.name ∧ SlR w p A n c o.ops
  pos := by omega
  len := by rintro w p cs x ⟨v, A, n, c, rfl, _⟩; rfl
  one := by
    rintro w p cs x ⟨v, A, n, c, rfl, h, h'⟩ u hu
    simp at hu
    rcases hu with rfl | rfl | rfl | rfl
    · rfl
    · rfl
    · exact bk_one h
    · rfl
  move := by
    rintro w w' p q cs x ⟨v, A, n, c, rfl, h, h'⟩ hm
    exact ⟨v, A, n, c, rfl, h.move hm, h'.move hm⟩
end Go.Proofs.Ytfonincdhjkacaa
