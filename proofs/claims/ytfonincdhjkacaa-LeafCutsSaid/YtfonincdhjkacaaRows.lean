/-
  No cell of these rows narrows 'for every input' (looked for: loops, veiled, ifaces, maps, wideKeys, modest, calm, conditions, laid).
  DERIVED. THE GIVEN ROWS OF THIS SEAT. 17 by the template 'for every input the law returns true; each argument reads behind the call as it read before'; 0 by the template 'total and deterministic' (their statements: YtfonincdhjkacaaTotals.lean).
  GIVEN WITH THE SEED: the statements are not yours to turn. If you find one false, say at which input.
  Laid BY PROGRAM, IN A SANDBOX (cutbox-rows.mjs): the forced cells as the released guide's own fill.sh prints them over the translation b5deb2e8bb32599a… (all of the seat's roots in one cut). By AI agents, Wed Nov 11 2026. No macro, syntax, notation, axiom, sorry.
-/
import Derived.Test.YtfonincdhjkacaaChecked
import GoSem.Claim
import GoSem.ClaimJoined
import GoSem.ClaimMapViews
import Derived.JoinedTies
import Derived.KernelRfl
namespace Go.Proofs.Ytfonincdhjkacaa
/- THE CELL 'sum', in the pinned program and in every row, IS THE sha256 OF THE DUMP (.gsa) THAT YtfonincdhjkacaaProg.lean LOADS. Nothing in Lean hashes anything: it is a label: what it is worth is what the hold of that sum in a sandbox is worth. -/
noncomputable def Try.pinned : Pinned := { name := "ytfonincdhjkacaa", sum := "b5deb2e8bb32599a55b0cc83ae08718fe753f7e4dfdf4d0fb65bf17f10d898c9", checked := Try.checked }
namespace Rows
def none {H : Type} : Left H := { results := [], args := [] }

/-- 'bartizanlaw07.EntryApart': WHATEVER THE INPUT: true; the input reads as it did. -/
def entryApartSpec : ChangeSpec := { name := "entryApart", fn := fun _ => fun
  | [d1, d2] => { results := [.lit (.bool true)], args := [d1, d2] }
  | _ => none }
def entryApartRow : OpenClaim := { program := "ytfonincdhjkacaa", sum := "b5deb2e8bb32599a55b0cc83ae08718fe753f7e4dfdf4d0fb65bf17f10d898c9", func := "bartizan/bartizanlaw07.EntryApart", spec := "entryApart", inPlace := ["internal/bytealg.Compare", "internal/bytealg.MakeNoZero"], apart := false }
def EntryApartSaid : Prop := entryApartRow.holds Try.pinned (OpenSpec.ofChange entryApartSpec)

/-- ITS FALSE NEIGHBOUR: 'it returns false'. Refute it at one input. -/
def entryApartWrong : ChangeSpec := { name := "entryApart", fn := fun _ => fun
  | [d1, d2] => { results := [.lit (.bool false)], args := [d1, d2] }
  | _ => none }
def EntryApartWrongFalsely : Prop := entryApartRow.holds Try.pinned (OpenSpec.ofChange entryApartWrong)

/-- 'bartizanlaw03.KeyNewest': WHATEVER THE INPUT: true; the input reads as it did. -/
def keyNewestSpec : ChangeSpec := { name := "keyNewest", fn := fun _ => fun
  | [d1, d2, d3] => { results := [.lit (.bool true)], args := [d1, d2, d3] }
  | _ => none }
def keyNewestRow : OpenClaim := { program := "ytfonincdhjkacaa", sum := "b5deb2e8bb32599a55b0cc83ae08718fe753f7e4dfdf4d0fb65bf17f10d898c9", func := "bartizan/bartizanlaw03.KeyNewest", spec := "keyNewest", inPlace := ["internal/bytealg.MakeNoZero", "internal/bytealg.Compare"], apart := false }
def KeyNewestSaid : Prop := keyNewestRow.holds Try.pinned (OpenSpec.ofChange keyNewestSpec)

/-- ITS FALSE NEIGHBOUR: 'it returns false'. Refute it at one input. -/
def keyNewestWrong : ChangeSpec := { name := "keyNewest", fn := fun _ => fun
  | [d1, d2, d3] => { results := [.lit (.bool false)], args := [d1, d2, d3] }
  | _ => none }
def KeyNewestWrongFalsely : Prop := keyNewestRow.holds Try.pinned (OpenSpec.ofChange keyNewestWrong)

/-- 'bartizanlaw04.BatchChecks': WHATEVER THE INPUT: true; the input reads as it did. -/
def batchChecksSpec : ChangeSpec := { name := "batchChecks", fn := fun _ => fun
  | [d] => { results := [.lit (.bool true)], args := [d] }
  | _ => none }
def batchChecksRow : OpenClaim := { program := "ytfonincdhjkacaa", sum := "b5deb2e8bb32599a55b0cc83ae08718fe753f7e4dfdf4d0fb65bf17f10d898c9", func := "bartizan/bartizanlaw04.BatchChecks", spec := "batchChecks", inPlace := ["internal/bytealg.Compare", "internal/bytealg.MakeNoZero"], apart := false }
def BatchChecksSaid : Prop := batchChecksRow.holds Try.pinned (OpenSpec.ofChange batchChecksSpec)

/-- ITS FALSE NEIGHBOUR: 'it returns false'. Refute it at one input. -/
def batchChecksWrong : ChangeSpec := { name := "batchChecks", fn := fun _ => fun
  | [d] => { results := [.lit (.bool false)], args := [d] }
  | _ => none }
def BatchChecksWrongFalsely : Prop := batchChecksRow.holds Try.pinned (OpenSpec.ofChange batchChecksWrong)

/-- 'bartizanlaw04.BatchOver': WHATEVER THE INPUT: true; the input reads as it did. -/
def batchOverSpec : ChangeSpec := { name := "batchOver", fn := fun _ => fun
  | [d1, d2] => { results := [.lit (.bool true)], args := [d1, d2] }
  | _ => none }
def batchOverRow : OpenClaim := { program := "ytfonincdhjkacaa", sum := "b5deb2e8bb32599a55b0cc83ae08718fe753f7e4dfdf4d0fb65bf17f10d898c9", func := "bartizan/bartizanlaw04.BatchOver", spec := "batchOver", inPlace := ["internal/bytealg.Compare", "internal/bytealg.MakeNoZero"], apart := false }
def BatchOverSaid : Prop := batchOverRow.holds Try.pinned (OpenSpec.ofChange batchOverSpec)

/-- ITS FALSE NEIGHBOUR: 'it returns false'. Refute it at one input. -/
def batchOverWrong : ChangeSpec := { name := "batchOver", fn := fun _ => fun
  | [d1, d2] => { results := [.lit (.bool false)], args := [d1, d2] }
  | _ => none }
def BatchOverWrongFalsely : Prop := batchOverRow.holds Try.pinned (OpenSpec.ofChange batchOverWrong)

/-- 'bartizanlaw04.BatchLast': WHATEVER THE INPUT: true; the input reads as it did. -/
def batchLastSpec : ChangeSpec := { name := "batchLast", fn := fun _ => fun
  | [d1, d2, d3] => { results := [.lit (.bool true)], args := [d1, d2, d3] }
  | _ => none }
def batchLastRow : OpenClaim := { program := "ytfonincdhjkacaa", sum := "b5deb2e8bb32599a55b0cc83ae08718fe753f7e4dfdf4d0fb65bf17f10d898c9", func := "bartizan/bartizanlaw04.BatchLast", spec := "batchLast", inPlace := ["internal/bytealg.Compare", "internal/bytealg.MakeNoZero"], apart := false }
def BatchLastSaid : Prop := batchLastRow.holds Try.pinned (OpenSpec.ofChange batchLastSpec)

/-- ITS FALSE NEIGHBOUR: 'it returns false'. Refute it at one input. -/
def batchLastWrong : ChangeSpec := { name := "batchLast", fn := fun _ => fun
  | [d1, d2, d3] => { results := [.lit (.bool false)], args := [d1, d2, d3] }
  | _ => none }
def BatchLastWrongFalsely : Prop := batchLastRow.holds Try.pinned (OpenSpec.ofChange batchLastWrong)

/-- 'bartizanlaw04.BatchCopies': WHATEVER THE INPUT: true; the input reads as it did. -/
def batchCopiesSpec : ChangeSpec := { name := "batchCopies", fn := fun _ => fun
  | [d] => { results := [.lit (.bool true)], args := [d] }
  | _ => none }
def batchCopiesRow : OpenClaim := { program := "ytfonincdhjkacaa", sum := "b5deb2e8bb32599a55b0cc83ae08718fe753f7e4dfdf4d0fb65bf17f10d898c9", func := "bartizan/bartizanlaw04.BatchCopies", spec := "batchCopies", inPlace := ["internal/bytealg.Compare", "internal/bytealg.MakeNoZero"], apart := false }
def BatchCopiesSaid : Prop := batchCopiesRow.holds Try.pinned (OpenSpec.ofChange batchCopiesSpec)

/-- ITS FALSE NEIGHBOUR: 'it returns false'. Refute it at one input. -/
def batchCopiesWrong : ChangeSpec := { name := "batchCopies", fn := fun _ => fun
  | [d] => { results := [.lit (.bool false)], args := [d] }
  | _ => none }
def BatchCopiesWrongFalsely : Prop := batchCopiesRow.holds Try.pinned (OpenSpec.ofChange batchCopiesWrong)

/-- 'bartizanlaw04.BatchParts': WHATEVER THE INPUT: true; the input reads as it did. -/
def batchPartsSpec : ChangeSpec := { name := "batchParts", fn := fun _ => fun
  | [d1, d2, d3] => { results := [.lit (.bool true)], args := [d1, d2, d3] }
  | _ => none }
def batchPartsRow : OpenClaim := { program := "ytfonincdhjkacaa", sum := "b5deb2e8bb32599a55b0cc83ae08718fe753f7e4dfdf4d0fb65bf17f10d898c9", func := "bartizan/bartizanlaw04.BatchParts", spec := "batchParts", inPlace := ["internal/bytealg.Compare", "internal/bytealg.MakeNoZero"], apart := false }
def BatchPartsSaid : Prop := batchPartsRow.holds Try.pinned (OpenSpec.ofChange batchPartsSpec)

/-- ITS FALSE NEIGHBOUR: 'it returns false'. Refute it at one input. -/
def batchPartsWrong : ChangeSpec := { name := "batchParts", fn := fun _ => fun
  | [d1, d2, d3] => { results := [.lit (.bool false)], args := [d1, d2, d3] }
  | _ => none }
def BatchPartsWrongFalsely : Prop := batchPartsRow.holds Try.pinned (OpenSpec.ofChange batchPartsWrong)

/-- 'bartizanlaw04.BatchBytes': WHATEVER THE INPUT: true; the input reads as it did. -/
def batchBytesSpec : ChangeSpec := { name := "batchBytes", fn := fun _ => fun
  | [d] => { results := [.lit (.bool true)], args := [d] }
  | _ => none }
def batchBytesRow : OpenClaim := { program := "ytfonincdhjkacaa", sum := "b5deb2e8bb32599a55b0cc83ae08718fe753f7e4dfdf4d0fb65bf17f10d898c9", func := "bartizan/bartizanlaw04.BatchBytes", spec := "batchBytes", inPlace := ["internal/bytealg.Compare", "internal/bytealg.MakeNoZero"], apart := false }
def BatchBytesSaid : Prop := batchBytesRow.holds Try.pinned (OpenSpec.ofChange batchBytesSpec)

/-- ITS FALSE NEIGHBOUR: 'it returns false'. Refute it at one input. -/
def batchBytesWrong : ChangeSpec := { name := "batchBytes", fn := fun _ => fun
  | [d] => { results := [.lit (.bool false)], args := [d] }
  | _ => none }
def BatchBytesWrongFalsely : Prop := batchBytesRow.holds Try.pinned (OpenSpec.ofChange batchBytesWrong)

/-- 'bartizanlaw04.BatchReads': WHATEVER THE INPUT: true; the input reads as it did. -/
def batchReadsSpec : ChangeSpec := { name := "batchReads", fn := fun _ => fun
  | [d] => { results := [.lit (.bool true)], args := [d] }
  | _ => none }
def batchReadsRow : OpenClaim := { program := "ytfonincdhjkacaa", sum := "b5deb2e8bb32599a55b0cc83ae08718fe753f7e4dfdf4d0fb65bf17f10d898c9", func := "bartizan/bartizanlaw04.BatchReads", spec := "batchReads", inPlace := ["internal/bytealg.Compare", "internal/bytealg.MakeNoZero"], apart := false }
def BatchReadsSaid : Prop := batchReadsRow.holds Try.pinned (OpenSpec.ofChange batchReadsSpec)

/-- ITS FALSE NEIGHBOUR: 'it returns false'. Refute it at one input. -/
def batchReadsWrong : ChangeSpec := { name := "batchReads", fn := fun _ => fun
  | [d] => { results := [.lit (.bool false)], args := [d] }
  | _ => none }
def BatchReadsWrongFalsely : Prop := batchReadsRow.holds Try.pinned (OpenSpec.ofChange batchReadsWrong)

/-- 'bartizanlaw07.EntryBytes': WHATEVER THE INPUT: true; the input reads as it did. -/
def entryBytesSpec : ChangeSpec := { name := "entryBytes", fn := fun _ => fun
  | [d] => { results := [.lit (.bool true)], args := [d] }
  | _ => none }
def entryBytesRow : OpenClaim := { program := "ytfonincdhjkacaa", sum := "b5deb2e8bb32599a55b0cc83ae08718fe753f7e4dfdf4d0fb65bf17f10d898c9", func := "bartizan/bartizanlaw07.EntryBytes", spec := "entryBytes", inPlace := ["internal/bytealg.Compare", "internal/bytealg.MakeNoZero"], apart := false }
def EntryBytesSaid : Prop := entryBytesRow.holds Try.pinned (OpenSpec.ofChange entryBytesSpec)

/-- ITS FALSE NEIGHBOUR: 'it returns false'. Refute it at one input. -/
def entryBytesWrong : ChangeSpec := { name := "entryBytes", fn := fun _ => fun
  | [d] => { results := [.lit (.bool false)], args := [d] }
  | _ => none }
def EntryBytesWrongFalsely : Prop := entryBytesRow.holds Try.pinned (OpenSpec.ofChange entryBytesWrong)

/-- 'bartizanlaw07.EntryReads': WHATEVER THE INPUT: true; the input reads as it did. -/
def entryReadsSpec : ChangeSpec := { name := "entryReads", fn := fun _ => fun
  | [d] => { results := [.lit (.bool true)], args := [d] }
  | _ => none }
def entryReadsRow : OpenClaim := { program := "ytfonincdhjkacaa", sum := "b5deb2e8bb32599a55b0cc83ae08718fe753f7e4dfdf4d0fb65bf17f10d898c9", func := "bartizan/bartizanlaw07.EntryReads", spec := "entryReads", inPlace := ["internal/bytealg.Compare", "internal/bytealg.MakeNoZero"], apart := false }
def EntryReadsSaid : Prop := entryReadsRow.holds Try.pinned (OpenSpec.ofChange entryReadsSpec)

/-- ITS FALSE NEIGHBOUR: 'it returns false'. Refute it at one input. -/
def entryReadsWrong : ChangeSpec := { name := "entryReads", fn := fun _ => fun
  | [d] => { results := [.lit (.bool false)], args := [d] }
  | _ => none }
def EntryReadsWrongFalsely : Prop := entryReadsRow.holds Try.pinned (OpenSpec.ofChange entryReadsWrong)

/-- 'bartizanlaw12.LeafBuilds': WHATEVER THE INPUT: true; the input reads as it did. -/
def leafBuildsSpec : ChangeSpec := { name := "leafBuilds", fn := fun _ => fun
  | [d1, d2] => { results := [.lit (.bool true)], args := [d1, d2] }
  | _ => none }
def leafBuildsRow : OpenClaim := { program := "ytfonincdhjkacaa", sum := "b5deb2e8bb32599a55b0cc83ae08718fe753f7e4dfdf4d0fb65bf17f10d898c9", func := "bartizan/bartizanlaw12.LeafBuilds", spec := "leafBuilds", inPlace := ["internal/bytealg.Compare", "internal/bytealg.MakeNoZero"], apart := false }
def LeafBuildsSaid : Prop := leafBuildsRow.holds Try.pinned (OpenSpec.ofChange leafBuildsSpec)

/-- ITS FALSE NEIGHBOUR: 'it returns false'. Refute it at one input. -/
def leafBuildsWrong : ChangeSpec := { name := "leafBuilds", fn := fun _ => fun
  | [d1, d2] => { results := [.lit (.bool false)], args := [d1, d2] }
  | _ => none }
def LeafBuildsWrongFalsely : Prop := leafBuildsRow.holds Try.pinned (OpenSpec.ofChange leafBuildsWrong)

/-- 'bartizanlaw12.LeafSmall': WHATEVER THE INPUT: true; the input reads as it did. -/
def leafSmallSpec : ChangeSpec := { name := "leafSmall", fn := fun _ => fun
  | [d] => { results := [.lit (.bool true)], args := [d] }
  | _ => none }
def leafSmallRow : OpenClaim := { program := "ytfonincdhjkacaa", sum := "b5deb2e8bb32599a55b0cc83ae08718fe753f7e4dfdf4d0fb65bf17f10d898c9", func := "bartizan/bartizanlaw12.LeafSmall", spec := "leafSmall", inPlace := ["internal/bytealg.Compare", "internal/bytealg.MakeNoZero"], apart := false }
def LeafSmallSaid : Prop := leafSmallRow.holds Try.pinned (OpenSpec.ofChange leafSmallSpec)

/-- ITS FALSE NEIGHBOUR: 'it returns false'. Refute it at one input. -/
def leafSmallWrong : ChangeSpec := { name := "leafSmall", fn := fun _ => fun
  | [d] => { results := [.lit (.bool false)], args := [d] }
  | _ => none }
def LeafSmallWrongFalsely : Prop := leafSmallRow.holds Try.pinned (OpenSpec.ofChange leafSmallWrong)

/-- 'bartizanlaw12.LeafBack': WHATEVER THE INPUT: true; the input reads as it did. -/
def leafBackSpec : ChangeSpec := { name := "leafBack", fn := fun _ => fun
  | [d] => { results := [.lit (.bool true)], args := [d] }
  | _ => none }
def leafBackRow : OpenClaim := { program := "ytfonincdhjkacaa", sum := "b5deb2e8bb32599a55b0cc83ae08718fe753f7e4dfdf4d0fb65bf17f10d898c9", func := "bartizan/bartizanlaw12.LeafBack", spec := "leafBack", inPlace := ["internal/bytealg.Compare", "internal/bytealg.MakeNoZero"], apart := false }
def LeafBackSaid : Prop := leafBackRow.holds Try.pinned (OpenSpec.ofChange leafBackSpec)

/-- ITS FALSE NEIGHBOUR: 'it returns false'. Refute it at one input. -/
def leafBackWrong : ChangeSpec := { name := "leafBack", fn := fun _ => fun
  | [d] => { results := [.lit (.bool false)], args := [d] }
  | _ => none }
def LeafBackWrongFalsely : Prop := leafBackRow.holds Try.pinned (OpenSpec.ofChange leafBackWrong)

/-- 'bartizanlaw12.LeafCuts': WHATEVER THE INPUT: true; the input reads as it did. -/
def leafCutsSpec : ChangeSpec := { name := "leafCuts", fn := fun _ => fun
  | [d1, d2] => { results := [.lit (.bool true)], args := [d1, d2] }
  | _ => none }
def leafCutsRow : OpenClaim := { program := "ytfonincdhjkacaa", sum := "b5deb2e8bb32599a55b0cc83ae08718fe753f7e4dfdf4d0fb65bf17f10d898c9", func := "bartizan/bartizanlaw12.LeafCuts", spec := "leafCuts", inPlace := ["internal/bytealg.Compare", "internal/bytealg.MakeNoZero"], apart := false }
def LeafCutsSaid : Prop := leafCutsRow.holds Try.pinned (OpenSpec.ofChange leafCutsSpec)

/-- ITS FALSE NEIGHBOUR: 'it returns false'. Refute it at one input. -/
def leafCutsWrong : ChangeSpec := { name := "leafCuts", fn := fun _ => fun
  | [d1, d2] => { results := [.lit (.bool false)], args := [d1, d2] }
  | _ => none }
def LeafCutsWrongFalsely : Prop := leafCutsRow.holds Try.pinned (OpenSpec.ofChange leafCutsWrong)

/-- 'bartizanlaw12.LeafReads': WHATEVER THE INPUT: true; the input reads as it did. -/
def leafReadsSpec : ChangeSpec := { name := "leafReads", fn := fun _ => fun
  | [d1, d2] => { results := [.lit (.bool true)], args := [d1, d2] }
  | _ => none }
def leafReadsRow : OpenClaim := { program := "ytfonincdhjkacaa", sum := "b5deb2e8bb32599a55b0cc83ae08718fe753f7e4dfdf4d0fb65bf17f10d898c9", func := "bartizan/bartizanlaw12.LeafReads", spec := "leafReads", inPlace := ["internal/bytealg.Compare", "internal/bytealg.MakeNoZero"], unfollowed := true, recurses := true, apart := false }
def LeafReadsSaid : Prop := leafReadsRow.holds Try.pinned (OpenSpec.ofChange leafReadsSpec)

/-- ITS FALSE NEIGHBOUR: 'it returns false'. Refute it at one input. -/
def leafReadsWrong : ChangeSpec := { name := "leafReads", fn := fun _ => fun
  | [d1, d2] => { results := [.lit (.bool false)], args := [d1, d2] }
  | _ => none }
def LeafReadsWrongFalsely : Prop := leafReadsRow.holds Try.pinned (OpenSpec.ofChange leafReadsWrong)

/-- 'bartizanlaw12.LeafPlaces': WHATEVER THE INPUT: true; the input reads as it did. -/
def leafPlacesSpec : ChangeSpec := { name := "leafPlaces", fn := fun _ => fun
  | [d] => { results := [.lit (.bool true)], args := [d] }
  | _ => none }
def leafPlacesRow : OpenClaim := { program := "ytfonincdhjkacaa", sum := "b5deb2e8bb32599a55b0cc83ae08718fe753f7e4dfdf4d0fb65bf17f10d898c9", func := "bartizan/bartizanlaw12.LeafPlaces", spec := "leafPlaces", inPlace := ["internal/bytealg.Compare", "internal/bytealg.MakeNoZero"], unfollowed := true, recurses := true, apart := false }
def LeafPlacesSaid : Prop := leafPlacesRow.holds Try.pinned (OpenSpec.ofChange leafPlacesSpec)

/-- ITS FALSE NEIGHBOUR: 'it returns false'. Refute it at one input. -/
def leafPlacesWrong : ChangeSpec := { name := "leafPlaces", fn := fun _ => fun
  | [d] => { results := [.lit (.bool false)], args := [d] }
  | _ => none }
def LeafPlacesWrongFalsely : Prop := leafPlacesRow.holds Try.pinned (OpenSpec.ofChange leafPlacesWrong)

/- THE SECOND FORM. 'bulk': how many values and letters a reading holds, each counted each time it is reached (what is shared counts as often as it is met; a slice's spare places count too). A statement '..UptoSaid' is the law's where the arguments, and the package variables that the reading takes, are together of bulk at most 1048576: NARROWER than '..Said'. Prove '..Said' where nothing that the law and all that it calls make is longer than what came in: it says more and counts as full. Else prove '..UptoSaid'. A law counts once. -/
mutual
def uptoBulk {H : Type} : DataW H → Nat
  | .lit (.string bytes) => bytes.length + 1
  | .lit _ => 1
  | .nil => 1
  | .ptr d => uptoBulk d + 1
  | .slice elems spare => uptoBulkAll elems + uptoBulkAll spare + 1
  | .agg parts => uptoBulkAll parts + 1
  | .iface _ d => uptoBulk d + 1
  | .map entries => uptoBulkEntries entries + 1
  | .held _ => 1
def uptoBulkAll {H : Type} : List (DataW H) → Nat
  | [] => 0
  | d :: r => uptoBulk d + uptoBulkAll r
def uptoBulkEntries {H : Type} : List (Lit × DataW H) → Nat
  | [] => 0
  | x :: r => uptoBulkEntry x + uptoBulkEntries r
def uptoBulkEntry {H : Type} : Lit × DataW H → Nat
  | (.string bytes, d) => bytes.length + uptoBulk d + 1
  | (_, d) => uptoBulk d + 1
 end
def uptoSmall : (H : Type) → List (DataW H) → Bool := fun _ ds => decide (uptoBulkAll ds ≤ 1048576)
def OpenSpec.upto (s : _root_.Go.ChangeSpec) : _root_.Go.OpenSpec := { _root_.Go.OpenSpec.ofChange s with cond := some uptoSmall }

/-- 'bartizanlaw07.EntryApart', WHERE WHAT IT READS IS OF BULK AT MOST 1048576: true; the input reads as it did. -/
def entryApartUptoRow : OpenClaim := { program := "ytfonincdhjkacaa", sum := "b5deb2e8bb32599a55b0cc83ae08718fe753f7e4dfdf4d0fb65bf17f10d898c9", func := "bartizan/bartizanlaw07.EntryApart", spec := "entryApart", inPlace := ["internal/bytealg.Compare", "internal/bytealg.MakeNoZero"], apart := false, narrowed := true }
def EntryApartUptoSaid : Prop := entryApartUptoRow.holds Try.pinned (OpenSpec.upto entryApartSpec)

/-- 'bartizanlaw03.KeyNewest', WHERE WHAT IT READS IS OF BULK AT MOST 1048576: true; the input reads as it did. -/
def keyNewestUptoRow : OpenClaim := { program := "ytfonincdhjkacaa", sum := "b5deb2e8bb32599a55b0cc83ae08718fe753f7e4dfdf4d0fb65bf17f10d898c9", func := "bartizan/bartizanlaw03.KeyNewest", spec := "keyNewest", inPlace := ["internal/bytealg.MakeNoZero", "internal/bytealg.Compare"], apart := false, narrowed := true }
def KeyNewestUptoSaid : Prop := keyNewestUptoRow.holds Try.pinned (OpenSpec.upto keyNewestSpec)

/-- 'bartizanlaw04.BatchChecks', WHERE WHAT IT READS IS OF BULK AT MOST 1048576: true; the input reads as it did. -/
def batchChecksUptoRow : OpenClaim := { program := "ytfonincdhjkacaa", sum := "b5deb2e8bb32599a55b0cc83ae08718fe753f7e4dfdf4d0fb65bf17f10d898c9", func := "bartizan/bartizanlaw04.BatchChecks", spec := "batchChecks", inPlace := ["internal/bytealg.Compare", "internal/bytealg.MakeNoZero"], apart := false, narrowed := true }
def BatchChecksUptoSaid : Prop := batchChecksUptoRow.holds Try.pinned (OpenSpec.upto batchChecksSpec)

/-- 'bartizanlaw04.BatchOver', WHERE WHAT IT READS IS OF BULK AT MOST 1048576: true; the input reads as it did. -/
def batchOverUptoRow : OpenClaim := { program := "ytfonincdhjkacaa", sum := "b5deb2e8bb32599a55b0cc83ae08718fe753f7e4dfdf4d0fb65bf17f10d898c9", func := "bartizan/bartizanlaw04.BatchOver", spec := "batchOver", inPlace := ["internal/bytealg.Compare", "internal/bytealg.MakeNoZero"], apart := false, narrowed := true }
def BatchOverUptoSaid : Prop := batchOverUptoRow.holds Try.pinned (OpenSpec.upto batchOverSpec)

/-- 'bartizanlaw04.BatchLast', WHERE WHAT IT READS IS OF BULK AT MOST 1048576: true; the input reads as it did. -/
def batchLastUptoRow : OpenClaim := { program := "ytfonincdhjkacaa", sum := "b5deb2e8bb32599a55b0cc83ae08718fe753f7e4dfdf4d0fb65bf17f10d898c9", func := "bartizan/bartizanlaw04.BatchLast", spec := "batchLast", inPlace := ["internal/bytealg.Compare", "internal/bytealg.MakeNoZero"], apart := false, narrowed := true }
def BatchLastUptoSaid : Prop := batchLastUptoRow.holds Try.pinned (OpenSpec.upto batchLastSpec)

/-- 'bartizanlaw04.BatchCopies', WHERE WHAT IT READS IS OF BULK AT MOST 1048576: true; the input reads as it did. -/
def batchCopiesUptoRow : OpenClaim := { program := "ytfonincdhjkacaa", sum := "b5deb2e8bb32599a55b0cc83ae08718fe753f7e4dfdf4d0fb65bf17f10d898c9", func := "bartizan/bartizanlaw04.BatchCopies", spec := "batchCopies", inPlace := ["internal/bytealg.Compare", "internal/bytealg.MakeNoZero"], apart := false, narrowed := true }
def BatchCopiesUptoSaid : Prop := batchCopiesUptoRow.holds Try.pinned (OpenSpec.upto batchCopiesSpec)

/-- 'bartizanlaw04.BatchParts', WHERE WHAT IT READS IS OF BULK AT MOST 1048576: true; the input reads as it did. -/
def batchPartsUptoRow : OpenClaim := { program := "ytfonincdhjkacaa", sum := "b5deb2e8bb32599a55b0cc83ae08718fe753f7e4dfdf4d0fb65bf17f10d898c9", func := "bartizan/bartizanlaw04.BatchParts", spec := "batchParts", inPlace := ["internal/bytealg.Compare", "internal/bytealg.MakeNoZero"], apart := false, narrowed := true }
def BatchPartsUptoSaid : Prop := batchPartsUptoRow.holds Try.pinned (OpenSpec.upto batchPartsSpec)

/-- 'bartizanlaw04.BatchBytes', WHERE WHAT IT READS IS OF BULK AT MOST 1048576: true; the input reads as it did. -/
def batchBytesUptoRow : OpenClaim := { program := "ytfonincdhjkacaa", sum := "b5deb2e8bb32599a55b0cc83ae08718fe753f7e4dfdf4d0fb65bf17f10d898c9", func := "bartizan/bartizanlaw04.BatchBytes", spec := "batchBytes", inPlace := ["internal/bytealg.Compare", "internal/bytealg.MakeNoZero"], apart := false, narrowed := true }
def BatchBytesUptoSaid : Prop := batchBytesUptoRow.holds Try.pinned (OpenSpec.upto batchBytesSpec)

/-- 'bartizanlaw04.BatchReads', WHERE WHAT IT READS IS OF BULK AT MOST 1048576: true; the input reads as it did. -/
def batchReadsUptoRow : OpenClaim := { program := "ytfonincdhjkacaa", sum := "b5deb2e8bb32599a55b0cc83ae08718fe753f7e4dfdf4d0fb65bf17f10d898c9", func := "bartizan/bartizanlaw04.BatchReads", spec := "batchReads", inPlace := ["internal/bytealg.Compare", "internal/bytealg.MakeNoZero"], apart := false, narrowed := true }
def BatchReadsUptoSaid : Prop := batchReadsUptoRow.holds Try.pinned (OpenSpec.upto batchReadsSpec)

/-- 'bartizanlaw07.EntryBytes', WHERE WHAT IT READS IS OF BULK AT MOST 1048576: true; the input reads as it did. -/
def entryBytesUptoRow : OpenClaim := { program := "ytfonincdhjkacaa", sum := "b5deb2e8bb32599a55b0cc83ae08718fe753f7e4dfdf4d0fb65bf17f10d898c9", func := "bartizan/bartizanlaw07.EntryBytes", spec := "entryBytes", inPlace := ["internal/bytealg.Compare", "internal/bytealg.MakeNoZero"], apart := false, narrowed := true }
def EntryBytesUptoSaid : Prop := entryBytesUptoRow.holds Try.pinned (OpenSpec.upto entryBytesSpec)

/-- 'bartizanlaw07.EntryReads', WHERE WHAT IT READS IS OF BULK AT MOST 1048576: true; the input reads as it did. -/
def entryReadsUptoRow : OpenClaim := { program := "ytfonincdhjkacaa", sum := "b5deb2e8bb32599a55b0cc83ae08718fe753f7e4dfdf4d0fb65bf17f10d898c9", func := "bartizan/bartizanlaw07.EntryReads", spec := "entryReads", inPlace := ["internal/bytealg.Compare", "internal/bytealg.MakeNoZero"], apart := false, narrowed := true }
def EntryReadsUptoSaid : Prop := entryReadsUptoRow.holds Try.pinned (OpenSpec.upto entryReadsSpec)

/-- 'bartizanlaw12.LeafBuilds', WHERE WHAT IT READS IS OF BULK AT MOST 1048576: true; the input reads as it did. -/
def leafBuildsUptoRow : OpenClaim := { program := "ytfonincdhjkacaa", sum := "b5deb2e8bb32599a55b0cc83ae08718fe753f7e4dfdf4d0fb65bf17f10d898c9", func := "bartizan/bartizanlaw12.LeafBuilds", spec := "leafBuilds", inPlace := ["internal/bytealg.Compare", "internal/bytealg.MakeNoZero"], apart := false, narrowed := true }
def LeafBuildsUptoSaid : Prop := leafBuildsUptoRow.holds Try.pinned (OpenSpec.upto leafBuildsSpec)

/-- 'bartizanlaw12.LeafSmall', WHERE WHAT IT READS IS OF BULK AT MOST 1048576: true; the input reads as it did. -/
def leafSmallUptoRow : OpenClaim := { program := "ytfonincdhjkacaa", sum := "b5deb2e8bb32599a55b0cc83ae08718fe753f7e4dfdf4d0fb65bf17f10d898c9", func := "bartizan/bartizanlaw12.LeafSmall", spec := "leafSmall", inPlace := ["internal/bytealg.Compare", "internal/bytealg.MakeNoZero"], apart := false, narrowed := true }
def LeafSmallUptoSaid : Prop := leafSmallUptoRow.holds Try.pinned (OpenSpec.upto leafSmallSpec)

/-- 'bartizanlaw12.LeafBack', WHERE WHAT IT READS IS OF BULK AT MOST 1048576: true; the input reads as it did. -/
def leafBackUptoRow : OpenClaim := { program := "ytfonincdhjkacaa", sum := "b5deb2e8bb32599a55b0cc83ae08718fe753f7e4dfdf4d0fb65bf17f10d898c9", func := "bartizan/bartizanlaw12.LeafBack", spec := "leafBack", inPlace := ["internal/bytealg.Compare", "internal/bytealg.MakeNoZero"], apart := false, narrowed := true }
def LeafBackUptoSaid : Prop := leafBackUptoRow.holds Try.pinned (OpenSpec.upto leafBackSpec)

/-- 'bartizanlaw12.LeafCuts', WHERE WHAT IT READS IS OF BULK AT MOST 1048576: true; the input reads as it did. -/
def leafCutsUptoRow : OpenClaim := { program := "ytfonincdhjkacaa", sum := "b5deb2e8bb32599a55b0cc83ae08718fe753f7e4dfdf4d0fb65bf17f10d898c9", func := "bartizan/bartizanlaw12.LeafCuts", spec := "leafCuts", inPlace := ["internal/bytealg.Compare", "internal/bytealg.MakeNoZero"], apart := false, narrowed := true }
def LeafCutsUptoSaid : Prop := leafCutsUptoRow.holds Try.pinned (OpenSpec.upto leafCutsSpec)

/-- 'bartizanlaw12.LeafReads', WHERE WHAT IT READS IS OF BULK AT MOST 1048576: true; the input reads as it did. -/
def leafReadsUptoRow : OpenClaim := { program := "ytfonincdhjkacaa", sum := "b5deb2e8bb32599a55b0cc83ae08718fe753f7e4dfdf4d0fb65bf17f10d898c9", func := "bartizan/bartizanlaw12.LeafReads", spec := "leafReads", inPlace := ["internal/bytealg.Compare", "internal/bytealg.MakeNoZero"], unfollowed := true, recurses := true, apart := false, narrowed := true }
def LeafReadsUptoSaid : Prop := leafReadsUptoRow.holds Try.pinned (OpenSpec.upto leafReadsSpec)

/-- 'bartizanlaw12.LeafPlaces', WHERE WHAT IT READS IS OF BULK AT MOST 1048576: true; the input reads as it did. -/
def leafPlacesUptoRow : OpenClaim := { program := "ytfonincdhjkacaa", sum := "b5deb2e8bb32599a55b0cc83ae08718fe753f7e4dfdf4d0fb65bf17f10d898c9", func := "bartizan/bartizanlaw12.LeafPlaces", spec := "leafPlaces", inPlace := ["internal/bytealg.Compare", "internal/bytealg.MakeNoZero"], unfollowed := true, recurses := true, apart := false, narrowed := true }
def LeafPlacesUptoSaid : Prop := leafPlacesUptoRow.holds Try.pinned (OpenSpec.upto leafPlacesSpec)

end Rows
end Go.Proofs.Ytfonincdhjkacaa
