/-
  TabGet, BatchReadW, Bridge, EntSort in one text. No condition but sizes.
-/
import Derived.Test.YtpffieogkfndaaaGreatDoorJTabBounds
import Derived.Test.YtpffieogkfndaaaGreatDoorJKeyAfterW
import Derived.Test.YtpffieogkfndaaaGreatDoorJSpanFew
import Derived.Test.YtpffieogkfndaaaGreatDoorAtomRTake
import Derived.Test.YtpffieogkfndaaaGreatDoorJAtomWalk
import Derived.Test.YtpffieogkfndaaaGreatDoorJSpans
import Derived.Test.YtpffieogkfndaaaGreatDoorJBloomPlain
namespace Go.Proofs.YtpffieogkfndaaaGreatDoor
set_option maxRecDepth 20000
set_option linter.unusedVariables false
set_option linter.unusedSimpArgs false
/-- the leaf where one looks; the entry there -/
def findLeaf (l : List EntL) (at_ : KeyL) : Option Nat := (List.range (leafCount l)).find? fun i => decide (0 ≤ cmpKey (lastKey (chunkL l i)) at_)
def versionL (l : List EntL) (key : List UInt8) (seq : UInt64) : Option EntL :=
  if hasL (buildL 10 (usersL l)) key = true then
    match findLeaf l (uptoKey key seq) with
    | none => none
    | some i => match fromL (chunkL l i) (uptoKey key seq) with
      | none => none
      | some e => if e.key.user = key then some e else none
  else none
def getL (l : List EntL) (sp : List SpanL) (key : List UInt8) (seq : UInt64) : List UInt8 × Nat × Nat :=
  match versionL l key seq with
  | none => if coverL sp key seq.toNat = 0 then ([], 0, 0) else ([], coverL sp key seq.toNat, 2)
  | some e => if e.key.seq.toNat < coverL sp key seq.toNat then ([], coverL sp key seq.toNat, 2) else if e.key.kind.toNat = 1 then ([], e.key.seq.toNat, 2) else (e.value, e.key.seq.toNat, 1)
end Go.Proofs.YtpffieogkfndaaaGreatDoor

namespace Go.Proofs.YtpffieogkfndaaaGreatDoor
open Go.RowKit
set_option maxRecDepth 20000
set_option linter.unusedVariables false
set_option linter.unusedSimpArgs false
theorem takeText_len (p : List UInt8) (m : Int) : (takeTextL p m).2.1.length ≤ p.length := by
  have h := takeL_len p
  unfold takeTextL
  repeat' split
  · simp
  · simp
  · simp
  · simp only [List.length_drop]
    omega
end Go.Proofs.YtpffieogkfndaaaGreatDoor

namespace Go.Proofs.YtpffieogkfndaaaGreatDoor
open Go.RowKit
set_option maxRecDepth 20000
set_option linter.unusedVariables false
set_option linter.unusedSimpArgs false
section
variable {P : Program} {ops : Array Oper} {Q : Exit → Act → World → Prop} {md : Region.Mode} {l n : Nat}
theorem oper_bridge {o : Oper} {a : Act} {w : World} {K : Act → World → Prop} (hd : ∀ c, o.op ≠ .defer c) (h : o.wp P a w K Q) : o.wpIn (Fence.wide.inRound l) n P a w K Q := by
  unfold Oper.wpIn
  refine ⟨fun _ _ => trivial, ?_⟩
  rw [show (Fence.wide.inRound l).round = some l from rfl, Oper.semAt_some l _ _ hd]
  unfold Oper.wp at h
  generalize (execOp a.eval o).run P w = r at *
  cases r with
  | ok x w' =>
    cases x
    case enter f args => exact ⟨(fun q => by cases q), CallsIn.inRound l (callsIn_wide.2 h)⟩
    case row r args => exact ⟨(fun q => by cases q), fun c cs _ => let ⟨v, w', r, s⟩ := h c cs; ⟨v, w', r, stepsIn_wide.2 s⟩⟩
    case round => exact h.elim
    all_goals exact h
  | halt x w' => cases x <;> exact h
theorem any_bridge {S : Nat → World → World → Prop} (hd : ∀ (i : Nat) (o : Oper) c, ops[i]? = some o → o.op ≠ .defer c) (hout : ¬ LetsOut Q) :
    ∀ (fuel : Nat) (listed : Array Bool) (a : Act) (w : World), AnyF P md ops Q S fuel listed a w → wpAnyIn (Fence.wide.inRound l) n P md ops Q fuel listed a w
  | 0, _, _, _, h => h
  | fuel + 1, listed, a, w, h => by
    refine ⟨h.1, fun i hi => ?_⟩
    have h2 := h.2 i hi
    unfold wpOp at h2
    unfold wpOpIn
    split at h2
    · rename_i ho
      rw [ho]
      exact any_bridge hd hout fuel _ _ _ h2.2
    · rename_i o ho
      rw [ho]
      simp only
      split at h2
      · rename_i hw
        rw [if_pos hw]
        rcases h2 with h2 | ⟨_, h2⟩
        · exact oper_bridge (fun c => hd i o c ho) (Oper.wp_mono (fun a' w' q => any_bridge hd hout fuel _ a' w' q.2) h2)
        · exact absurd h2 hout
      · rename_i hw
        rw [if_neg hw]
        exact ⟨fun _ _ => trivial, any_bridge hd hout fuel _ _ _ h2.2⟩
theorem regionF_in {S : Nat → World → World → Prop} {id : Nat} {a : Act} {w : World} (hm : P.follows .mixedOrders = true) (hd : ∀ (i : Nat) (o : Oper) c, ops[i]? = some o → o.op ≠ .defer c) (hout : ¬ LetsOut Q)
    (h : AnyF P .any ops Q S ops.size (Array.replicate ops.size false) a w.drew) : (Code.region id ops true).wpIn (Fence.wide.inRound l) n P Q a w :=
  wpIn_region_any hm (any_bridge hd hout _ _ _ _ h)
end
end Go.Proofs.YtpffieogkfndaaaGreatDoor

namespace Go.Proofs.YtpffieogkfndaaaGreatDoor
open Go.RowKit
set_option maxRecDepth 100000
set_option linter.unusedVariables false
set_option linter.unusedSimpArgs false
theorem OwnR.cutH {α : Type} [Rep α] {w : World} {B : Nat} {e : TypeId} {A : Option Addr} {n c : Nat} {ls : List α} (h : OwnR w B e A n c ls) {k : Nat} (hk : k ≤ n) :
    ∃ xs, Sl w (Rep.size α) A k c xs ∧ RowC w (fun b => b < B ∨ NotTy w e b) xs (ls.take k) := by
  obtain ⟨xs, ho, hr⟩ := h
  have hs := ho.sl
  have hcap := hs.cap
  have := hs.cut (lo := 0) (hi := k) (m := c) (Nat.zero_le _) hk (by omega) (Nat.le_refl _)
  have e0 : (if c = 0 then A else A.map (·.add (0 * Rep.size α))) = A := by
    split
    · rfl
    · cases A <;> simp [Addr.add]
  rw [e0] at this
  simp only [Nat.sub_zero, Nat.zero_mul, List.drop_zero] at this
  exact ⟨_, this, hr.take k⟩
theorem OwnR.cutL {α : Type} [Rep α] {w : World} {B : Nat} {e : TypeId} {A : Option Addr} {n c : Nat} {ls : List α} (h : OwnR w B e A n c ls) {k : Nat} (hk : k ≤ n) :
    ∃ xs, Sl w (Rep.size α) (if c = k then A else A.map (·.add (k * Rep.size α))) (n - k) (c - k) xs ∧ RowC w (fun b => b < B ∨ NotTy w e b) xs (ls.drop k) := by
  obtain ⟨xs, ho, hr⟩ := h
  have hs := ho.sl
  have hcap := hs.cap
  have hl := hs.len
  have := hs.cut (lo := k) (hi := n) (m := c) hk (Nat.le_refl _) (by omega) (Nat.le_refl _)
  refine ⟨_, this, ?_⟩
  rw [List.take_of_length_le (by rw [List.length_drop, hl, Nat.sub_mul]; omega)]
  exact hr.drop k
theorem run_sizeE (w : World) : (sizeOf 69).run Tryz.prog w = .ok 4 w := by
  obtain ⟨i, hi, _, hs, _⟩ := info_parts infoEnt
  simp [sizeOf, typeInfo, hi, hs]
theorem cutLE {A : Option Addr} {n c : Nat} (q : IntKind) (i : Int) (lo : Nat) (ei : i = lo) (h2 : lo ≤ n) (hcap : n ≤ c) (w' : World) :
    (Instr.slice 22 (.slice A n c) (some (.int q i)) none none).run Tryz.prog w' = .ok (.slice (if c = lo then A else A.map (·.add (lo * 4))) (n - lo) (c - lo)) w' := by
  subst ei
  have := run_slice_l (P := Tryz.prog) w' 22 A n c Tryz.underlying22 q lo (by omega) (by omega)
  rw [this]
  show ((sizeOf 69).run Tryz.prog w').andThen _ = _
  rw [run_sizeE]
  simp only [Result.andThen, sliced, Int.toNat_natCast]
end Go.Proofs.YtpffieogkfndaaaGreatDoor
