/-
  No cell of these rows narrows 'for every input' (looked for: loops, veiled, ifaces, maps, wideKeys, modest, calm, conditions, laid).
  DERIVED. THE GIVEN ROWS OF THIS SEAT. 7 by the template 'for every input the law returns true; each argument reads behind the call as it read before'; 0 by the template 'total and deterministic' (their statements: YthbmlkdijppkbaaTotals.lean).
  GIVEN WITH THE SEED: the statements are not yours to turn. If you find one false, say at which input.
  Laid BY PROGRAM, IN A SANDBOX (cutbox-rows.mjs): the forced cells as the released guide's own fill.sh prints them over the translation c7f2c2c4114f35fb… (all of the seat's roots in one cut). By AI agents, Wed Nov 11 2026. No macro, syntax, notation, axiom, sorry.
-/
import Derived.Test.YthbmlkdijppkbaaChecked
import GoSem.Claim
import GoSem.ClaimJoined
import GoSem.ClaimMapViews
import Derived.JoinedTies
import Derived.KernelRfl
namespace Go.Proofs.Ythbmlkdijppkbaa
/- THE CELL 'sum', in the pinned program and in every row, IS THE sha256 OF THE DUMP (.gsa) THAT YthbmlkdijppkbaaProg.lean LOADS. Nothing in Lean hashes anything: it is a label: what it is worth is what the hold of that sum in a sandbox is worth. -/
noncomputable def Try.pinned : Pinned := { name := "ythbmlkdijppkbaa", sum := "c7f2c2c4114f35fb5095cbacab576a8eb9b29703cb7365bf219b41f0aad40ad0", checked := Try.checked }
namespace Rows
def none {H : Type} : Left H := { results := [], args := [] }

/-- 'bartizanlaw01.AtomNums': WHATEVER THE INPUT: true; the input reads as it did. -/
def atomNumsSpec : ChangeSpec := { name := "atomNums", fn := fun _ => fun
  | [d1, d2] => { results := [.lit (.bool true)], args := [d1, d2] }
  | _ => none }
def atomNumsRow : OpenClaim := { program := "ythbmlkdijppkbaa", sum := "c7f2c2c4114f35fb5095cbacab576a8eb9b29703cb7365bf219b41f0aad40ad0", func := "bartizan/bartizanlaw01.AtomNums", spec := "atomNums", apart := false }
def AtomNumsSaid : Prop := atomNumsRow.holds Try.pinned (OpenSpec.ofChange atomNumsSpec)

/-- ITS FALSE NEIGHBOUR: 'it returns false'. Refute it at one input. -/
def atomNumsWrong : ChangeSpec := { name := "atomNums", fn := fun _ => fun
  | [d1, d2] => { results := [.lit (.bool false)], args := [d1, d2] }
  | _ => none }
def AtomNumsWrongFalsely : Prop := atomNumsRow.holds Try.pinned (OpenSpec.ofChange atomNumsWrong)

/-- 'bartizanlaw01.AtomWide': WHATEVER THE INPUT: true; the input reads as it did. -/
def atomWideSpec : ChangeSpec := { name := "atomWide", fn := fun _ => fun
  | [d] => { results := [.lit (.bool true)], args := [d] }
  | _ => none }
def atomWideRow : OpenClaim := { program := "ythbmlkdijppkbaa", sum := "c7f2c2c4114f35fb5095cbacab576a8eb9b29703cb7365bf219b41f0aad40ad0", func := "bartizan/bartizanlaw01.AtomWide", spec := "atomWide", apart := false }
def AtomWideSaid : Prop := atomWideRow.holds Try.pinned (OpenSpec.ofChange atomWideSpec)

/-- ITS FALSE NEIGHBOUR: 'it returns false'. Refute it at one input. -/
def atomWideWrong : ChangeSpec := { name := "atomWide", fn := fun _ => fun
  | [d] => { results := [.lit (.bool false)], args := [d] }
  | _ => none }
def AtomWideWrongFalsely : Prop := atomWideRow.holds Try.pinned (OpenSpec.ofChange atomWideWrong)

/-- 'bartizanlaw01.AtomReads': WHATEVER THE INPUT: true; the input reads as it did. -/
def atomReadsSpec : ChangeSpec := { name := "atomReads", fn := fun _ => fun
  | [d1, d2] => { results := [.lit (.bool true)], args := [d1, d2] }
  | _ => none }
def atomReadsRow : OpenClaim := { program := "ythbmlkdijppkbaa", sum := "c7f2c2c4114f35fb5095cbacab576a8eb9b29703cb7365bf219b41f0aad40ad0", func := "bartizan/bartizanlaw01.AtomReads", spec := "atomReads", apart := false }
def AtomReadsSaid : Prop := atomReadsRow.holds Try.pinned (OpenSpec.ofChange atomReadsSpec)

/-- ITS FALSE NEIGHBOUR: 'it returns false'. Refute it at one input. -/
def atomReadsWrong : ChangeSpec := { name := "atomReads", fn := fun _ => fun
  | [d1, d2] => { results := [.lit (.bool false)], args := [d1, d2] }
  | _ => none }
def AtomReadsWrongFalsely : Prop := atomReadsRow.holds Try.pinned (OpenSpec.ofChange atomReadsWrong)

/-- 'bartizanlaw01.AtomJoins': WHATEVER THE INPUT: true; the input reads as it did. -/
def atomJoinsSpec : ChangeSpec := { name := "atomJoins", fn := fun _ => fun
  | [d] => { results := [.lit (.bool true)], args := [d] }
  | _ => none }
def atomJoinsRow : OpenClaim := { program := "ythbmlkdijppkbaa", sum := "c7f2c2c4114f35fb5095cbacab576a8eb9b29703cb7365bf219b41f0aad40ad0", func := "bartizan/bartizanlaw01.AtomJoins", spec := "atomJoins", inPlace := ["internal/bytealg.MakeNoZero"], apart := false }
def AtomJoinsSaid : Prop := atomJoinsRow.holds Try.pinned (OpenSpec.ofChange atomJoinsSpec)

/-- ITS FALSE NEIGHBOUR: 'it returns false'. Refute it at one input. -/
def atomJoinsWrong : ChangeSpec := { name := "atomJoins", fn := fun _ => fun
  | [d] => { results := [.lit (.bool false)], args := [d] }
  | _ => none }
def AtomJoinsWrongFalsely : Prop := atomJoinsRow.holds Try.pinned (OpenSpec.ofChange atomJoinsWrong)

/-- 'bartizanlaw01.AtomRises': WHATEVER THE INPUT: true; the input reads as it did. -/
def atomRisesSpec : ChangeSpec := { name := "atomRises", fn := fun _ => fun
  | [d1, d2, d3, d4] => { results := [.lit (.bool true)], args := [d1, d2, d3, d4] }
  | _ => none }
def atomRisesRow : OpenClaim := { program := "ythbmlkdijppkbaa", sum := "c7f2c2c4114f35fb5095cbacab576a8eb9b29703cb7365bf219b41f0aad40ad0", func := "bartizan/bartizanlaw01.AtomRises", spec := "atomRises", inPlace := ["internal/bytealg.MakeNoZero", "internal/bytealg.Compare"], apart := false }
def AtomRisesSaid : Prop := atomRisesRow.holds Try.pinned (OpenSpec.ofChange atomRisesSpec)

/-- ITS FALSE NEIGHBOUR: 'it returns false'. Refute it at one input. -/
def atomRisesWrong : ChangeSpec := { name := "atomRises", fn := fun _ => fun
  | [d1, d2, d3, d4] => { results := [.lit (.bool false)], args := [d1, d2, d3, d4] }
  | _ => none }
def AtomRisesWrongFalsely : Prop := atomRisesRow.holds Try.pinned (OpenSpec.ofChange atomRisesWrong)

/-- 'bartizanlaw01.AtomPairs': WHATEVER THE INPUT: true; the input reads as it did. -/
def atomPairsSpec : ChangeSpec := { name := "atomPairs", fn := fun _ => fun
  | [d1, d2, d3, d4] => { results := [.lit (.bool true)], args := [d1, d2, d3, d4] }
  | _ => none }
def atomPairsRow : OpenClaim := { program := "ythbmlkdijppkbaa", sum := "c7f2c2c4114f35fb5095cbacab576a8eb9b29703cb7365bf219b41f0aad40ad0", func := "bartizan/bartizanlaw01.AtomPairs", spec := "atomPairs", inPlace := ["internal/bytealg.MakeNoZero", "internal/bytealg.Compare"], apart := false }
def AtomPairsSaid : Prop := atomPairsRow.holds Try.pinned (OpenSpec.ofChange atomPairsSpec)

/-- ITS FALSE NEIGHBOUR: 'it returns false'. Refute it at one input. -/
def atomPairsWrong : ChangeSpec := { name := "atomPairs", fn := fun _ => fun
  | [d1, d2, d3, d4] => { results := [.lit (.bool false)], args := [d1, d2, d3, d4] }
  | _ => none }
def AtomPairsWrongFalsely : Prop := atomPairsRow.holds Try.pinned (OpenSpec.ofChange atomPairsWrong)

/-- 'bartizanlaw01.AtomTexts': WHATEVER THE INPUT: true; the input reads as it did. -/
def atomTextsSpec : ChangeSpec := { name := "atomTexts", fn := fun _ => fun
  | [d1, d2] => { results := [.lit (.bool true)], args := [d1, d2] }
  | _ => none }
def atomTextsRow : OpenClaim := { program := "ythbmlkdijppkbaa", sum := "c7f2c2c4114f35fb5095cbacab576a8eb9b29703cb7365bf219b41f0aad40ad0", func := "bartizan/bartizanlaw01.AtomTexts", spec := "atomTexts", inPlace := ["internal/bytealg.MakeNoZero"], apart := false }
def AtomTextsSaid : Prop := atomTextsRow.holds Try.pinned (OpenSpec.ofChange atomTextsSpec)

/-- ITS FALSE NEIGHBOUR: 'it returns false'. Refute it at one input. -/
def atomTextsWrong : ChangeSpec := { name := "atomTexts", fn := fun _ => fun
  | [d1, d2] => { results := [.lit (.bool false)], args := [d1, d2] }
  | _ => none }
def AtomTextsWrongFalsely : Prop := atomTextsRow.holds Try.pinned (OpenSpec.ofChange atomTextsWrong)

/- THE SECOND FORM. 'bulk': how many values and letters a reading holds, each counted each time it is reached (what is shared counts as often as it is met; a slice's spare places count too). A statement '..UptoSaid' is the law's where the arguments, and the package variables that the reading takes, are together of bulk at most 1048576: NARROWER than '..Said'. Prove '..Said' where nothing that the law and all that it calls make is longer than what came in: it says more and counts as full. Else prove '..UptoSaid'. A law counts once. -/
mutual
def uptoBulk {H : Type} : DataW H → Nat
  | .lit (.string bytes) => bytes.length + 1
  | .lit _ => 1
  | .nil => 1
  | .ptr d => uptoBulk d + 1
  | .slice elems spare => uptoBulkAll elems + uptoBulkAll spare + 1
  | .agg parts => uptoBulkAll parts + 1
  | .iface _ d => uptoBulk d + 1
  | .map entries => uptoBulkEntries entries + 1
  | .held _ => 1
def uptoBulkAll {H : Type} : List (DataW H) → Nat
  | [] => 0
  | d :: r => uptoBulk d + uptoBulkAll r
def uptoBulkEntries {H : Type} : List (Lit × DataW H) → Nat
  | [] => 0
  | x :: r => uptoBulkEntry x + uptoBulkEntries r
def uptoBulkEntry {H : Type} : Lit × DataW H → Nat
  | (.string bytes, d) => bytes.length + uptoBulk d + 1
  | (_, d) => uptoBulk d + 1
 end
def uptoSmall : (H : Type) → List (DataW H) → Bool := fun _ ds => decide (uptoBulkAll ds ≤ 1048576)
def OpenSpec.upto (s : _root_.Go.ChangeSpec) : _root_.Go.OpenSpec := { _root_.Go.OpenSpec.ofChange s with cond := some uptoSmall }

/-- 'bartizanlaw01.AtomNums', WHERE WHAT IT READS IS OF BULK AT MOST 1048576: true; the input reads as it did. -/
def atomNumsUptoRow : OpenClaim := { program := "ythbmlkdijppkbaa", sum := "c7f2c2c4114f35fb5095cbacab576a8eb9b29703cb7365bf219b41f0aad40ad0", func := "bartizan/bartizanlaw01.AtomNums", spec := "atomNums", apart := false, narrowed := true }
def AtomNumsUptoSaid : Prop := atomNumsUptoRow.holds Try.pinned (OpenSpec.upto atomNumsSpec)

/-- 'bartizanlaw01.AtomWide', WHERE WHAT IT READS IS OF BULK AT MOST 1048576: true; the input reads as it did. -/
def atomWideUptoRow : OpenClaim := { program := "ythbmlkdijppkbaa", sum := "c7f2c2c4114f35fb5095cbacab576a8eb9b29703cb7365bf219b41f0aad40ad0", func := "bartizan/bartizanlaw01.AtomWide", spec := "atomWide", apart := false, narrowed := true }
def AtomWideUptoSaid : Prop := atomWideUptoRow.holds Try.pinned (OpenSpec.upto atomWideSpec)

/-- 'bartizanlaw01.AtomReads', WHERE WHAT IT READS IS OF BULK AT MOST 1048576: true; the input reads as it did. -/
def atomReadsUptoRow : OpenClaim := { program := "ythbmlkdijppkbaa", sum := "c7f2c2c4114f35fb5095cbacab576a8eb9b29703cb7365bf219b41f0aad40ad0", func := "bartizan/bartizanlaw01.AtomReads", spec := "atomReads", apart := false, narrowed := true }
def AtomReadsUptoSaid : Prop := atomReadsUptoRow.holds Try.pinned (OpenSpec.upto atomReadsSpec)

/-- 'bartizanlaw01.AtomJoins', WHERE WHAT IT READS IS OF BULK AT MOST 1048576: true; the input reads as it did. -/
def atomJoinsUptoRow : OpenClaim := { program := "ythbmlkdijppkbaa", sum := "c7f2c2c4114f35fb5095cbacab576a8eb9b29703cb7365bf219b41f0aad40ad0", func := "bartizan/bartizanlaw01.AtomJoins", spec := "atomJoins", inPlace := ["internal/bytealg.MakeNoZero"], apart := false, narrowed := true }
def AtomJoinsUptoSaid : Prop := atomJoinsUptoRow.holds Try.pinned (OpenSpec.upto atomJoinsSpec)

/-- 'bartizanlaw01.AtomRises', WHERE WHAT IT READS IS OF BULK AT MOST 1048576: true; the input reads as it did. -/
def atomRisesUptoRow : OpenClaim := { program := "ythbmlkdijppkbaa", sum := "c7f2c2c4114f35fb5095cbacab576a8eb9b29703cb7365bf219b41f0aad40ad0", func := "bartizan/bartizanlaw01.AtomRises", spec := "atomRises", inPlace := ["internal/bytealg.MakeNoZero", "internal/bytealg.Compare"], apart := false, narrowed := true }
def AtomRisesUptoSaid : Prop := atomRisesUptoRow.holds Try.pinned (OpenSpec.upto atomRisesSpec)

/-- 'bartizanlaw01.AtomPairs', WHERE WHAT IT READS IS OF BULK AT MOST 1048576: true; the input reads as it did. -/
def atomPairsUptoRow : OpenClaim := { program := "ythbmlkdijppkbaa", sum := "c7f2c2c4114f35fb5095cbacab576a8eb9b29703cb7365bf219b41f0aad40ad0", func := "bartizan/bartizanlaw01.AtomPairs", spec := "atomPairs", inPlace := ["internal/bytealg.MakeNoZero", "internal/bytealg.Compare"], apart := false, narrowed := true }
def AtomPairsUptoSaid : Prop := atomPairsUptoRow.holds Try.pinned (OpenSpec.upto atomPairsSpec)

/-- 'bartizanlaw01.AtomTexts', WHERE WHAT IT READS IS OF BULK AT MOST 1048576: true; the input reads as it did. -/
def atomTextsUptoRow : OpenClaim := { program := "ythbmlkdijppkbaa", sum := "c7f2c2c4114f35fb5095cbacab576a8eb9b29703cb7365bf219b41f0aad40ad0", func := "bartizan/bartizanlaw01.AtomTexts", spec := "atomTexts", inPlace := ["internal/bytealg.MakeNoZero"], apart := false, narrowed := true }
def AtomTextsUptoSaid : Prop := atomTextsUptoRow.holds Try.pinned (OpenSpec.upto atomTextsSpec)

end Rows
end Go.Proofs.Ythbmlkdijppkbaa
