/-
  NARROWER THAN 'FOR EVERY INPUT', by the rows' own cells (each row's printed sentence says how): EntryReplays: laid · EntryTorn: laid · EntryLogs: laid.
  DERIVED. THE GIVEN ROWS OF THIS SEAT. 3 by the template 'for every input the law returns true; each argument reads behind the call as it read before'; 0 by the template 'total and deterministic' (their statements: YtpjinmiedanebaaDoorTotals.lean).
  GIVEN WITH THE SEED: the statements are not yours to turn. If you find one false, say at which input.
  Laid BY PROGRAM, IN A SANDBOX (cutbox-rows.mjs): the forced cells as the released guide's own fill.sh prints them over the translation 722c33bf791551e2… (all of the seat's roots in one cut). By AI agents, Wed Nov 11 2026. No macro, syntax, notation, axiom, sorry.
-/
import Derived.Test.YtpjinmiedanebaaDoorChecked
import GoSem.PinnedTables
import GoSem.Claim
import GoSem.ClaimJoined
import GoSem.ClaimMapViews
import Derived.JoinedTies
import Derived.KernelRfl
namespace Go.Proofs.YtpjinmiedanebaaDoor
/- THE CELL 'sum', in the pinned program and in every row, IS THE sha256 OF THE DUMP (.gsa) THAT YtpjinmiedanebaaDoorProg.lean LOADS. Nothing in Lean hashes anything: it is a label: what it is worth is what the hold of that sum in a sandbox is worth. -/
noncomputable def Tryd.pinned : Pinned := { name := "ytpjinmiedanebaadoor", sum := "722c33bf791551e2fd65e88e5e4e9d6b45cb8e61381049a6b0eec5fd677bfa01", checked := Tryd.checked }
namespace Rows
def none {H : Type} : Left H := { results := [], args := [] }

/- WHAT THE LISTED PACKAGE-LEVEL VARIABLES READ AS WHEN THE CALL BEGINS. Each datum BY PROGRAM (the guide's laid-datum.mjs) off the statement by which the dump's own 'gosem.cut.vars' lays the variable. In a bare row this is a premise. The card (YtpjinmiedanebaaDoorCards.lean) ties it to the program's text. -/
def laid_unicode_utf8_acceptRanges {H : Type} : DataW H := .agg [.agg [.lit (.int .u8 128), .lit (.int .u8 191)], .agg [.lit (.int .u8 160), .lit (.int .u8 191)], .agg [.lit (.int .u8 128), .lit (.int .u8 159)], .agg [.lit (.int .u8 144), .lit (.int .u8 191)], .agg [.lit (.int .u8 128), .lit (.int .u8 143)], .agg [.lit (.int .u8 0), .lit (.int .u8 0)], .agg [.lit (.int .u8 0), .lit (.int .u8 0)], .agg [.lit (.int .u8 0), .lit (.int .u8 0)], .agg [.lit (.int .u8 0), .lit (.int .u8 0)], .agg [.lit (.int .u8 0), .lit (.int .u8 0)], .agg [.lit (.int .u8 0), .lit (.int .u8 0)], .agg [.lit (.int .u8 0), .lit (.int .u8 0)], .agg [.lit (.int .u8 0), .lit (.int .u8 0)], .agg [.lit (.int .u8 0), .lit (.int .u8 0)], .agg [.lit (.int .u8 0), .lit (.int .u8 0)], .agg [.lit (.int .u8 0), .lit (.int .u8 0)]]
def laid_bartizan_seal_quarter {H : Type} : DataW H := .agg [.lit (.int .u32 0), .lit (.int .u32 274646895), .lit (.int .u32 549293790), .lit (.int .u32 820201905), .lit (.int .u32 1098587580), .lit (.int .u32 1361435347), .lit (.int .u32 1640403810), .lit (.int .u32 1905808397), .lit (.int .u32 2197175160), .lit (.int .u32 2460548119), .lit (.int .u32 2722870694), .lit (.int .u32 2987750089), .lit (.int .u32 3280807620), .lit (.int .u32 3553878443), .lit (.int .u32 3811616794), .lit (.int .u32 4084100981)]
/-- One of Go's own tables, pinned by name: the form's constant. -/
def laid_unicode_utf8_first : DataW Unit := Go.Pinned.utf8First

/-- 'bartizanlaw07.EntryReplays': WHATEVER THE INPUT: true; the input reads as it did. -/
def entryReplaysSpec : ChangeSpec := { name := "entryReplays", fn := fun _ => fun
  | [d] => { results := [.lit (.bool true)], args := [d] }
  | _ => none }
def entryReplaysRow : OpenClaim := { program := "ytpjinmiedanebaadoor", sum := "722c33bf791551e2fd65e88e5e4e9d6b45cb8e61381049a6b0eec5fd677bfa01", func := "bartizan/bartizanlaw07.EntryReplays", spec := "entryReplays", inPlace := ["internal/bytealg.Compare", "internal/bytealg.MakeNoZero"], named := ["bartizan/seal.quarter", "unicode/utf8.first", "unicode/utf8.acceptRanges"], apart := false, laid := [("unicode/utf8.acceptRanges", laid_unicode_utf8_acceptRanges), ("bartizan/seal.quarter", laid_bartizan_seal_quarter), ("unicode/utf8.first", laid_unicode_utf8_first)] }
def EntryReplaysSaid : Prop := entryReplaysRow.holds Tryd.pinned (OpenSpec.ofChange entryReplaysSpec)

/-- ITS FALSE NEIGHBOUR: 'it returns false'. Refute it at one input. -/
def entryReplaysWrong : ChangeSpec := { name := "entryReplays", fn := fun _ => fun
  | [d] => { results := [.lit (.bool false)], args := [d] }
  | _ => none }
def EntryReplaysWrongFalsely : Prop := entryReplaysRow.holds Tryd.pinned (OpenSpec.ofChange entryReplaysWrong)

/-- 'bartizanlaw07.EntryTorn': WHATEVER THE INPUT: true; the input reads as it did. -/
def entryTornSpec : ChangeSpec := { name := "entryTorn", fn := fun _ => fun
  | [d1, d2, d3] => { results := [.lit (.bool true)], args := [d1, d2, d3] }
  | _ => none }
def entryTornRow : OpenClaim := { program := "ytpjinmiedanebaadoor", sum := "722c33bf791551e2fd65e88e5e4e9d6b45cb8e61381049a6b0eec5fd677bfa01", func := "bartizan/bartizanlaw07.EntryTorn", spec := "entryTorn", inPlace := ["internal/bytealg.Compare", "internal/bytealg.MakeNoZero"], named := ["bartizan/seal.quarter", "unicode/utf8.first", "unicode/utf8.acceptRanges"], apart := false, laid := [("unicode/utf8.acceptRanges", laid_unicode_utf8_acceptRanges), ("bartizan/seal.quarter", laid_bartizan_seal_quarter), ("unicode/utf8.first", laid_unicode_utf8_first)] }
def EntryTornSaid : Prop := entryTornRow.holds Tryd.pinned (OpenSpec.ofChange entryTornSpec)

/-- ITS FALSE NEIGHBOUR: 'it returns false'. Refute it at one input. -/
def entryTornWrong : ChangeSpec := { name := "entryTorn", fn := fun _ => fun
  | [d1, d2, d3] => { results := [.lit (.bool false)], args := [d1, d2, d3] }
  | _ => none }
def EntryTornWrongFalsely : Prop := entryTornRow.holds Tryd.pinned (OpenSpec.ofChange entryTornWrong)

/-- 'bartizanlaw07.EntryLogs': WHATEVER THE INPUT: true; the input reads as it did. -/
def entryLogsSpec : ChangeSpec := { name := "entryLogs", fn := fun _ => fun
  | [d1, d2] => { results := [.lit (.bool true)], args := [d1, d2] }
  | _ => none }
def entryLogsRow : OpenClaim := { program := "ytpjinmiedanebaadoor", sum := "722c33bf791551e2fd65e88e5e4e9d6b45cb8e61381049a6b0eec5fd677bfa01", func := "bartizan/bartizanlaw07.EntryLogs", spec := "entryLogs", inPlace := ["internal/bytealg.Compare", "internal/bytealg.MakeNoZero"], named := ["bartizan/seal.quarter", "unicode/utf8.first", "unicode/utf8.acceptRanges"], apart := false, laid := [("unicode/utf8.acceptRanges", laid_unicode_utf8_acceptRanges), ("bartizan/seal.quarter", laid_bartizan_seal_quarter), ("unicode/utf8.first", laid_unicode_utf8_first)] }
def EntryLogsSaid : Prop := entryLogsRow.holds Tryd.pinned (OpenSpec.ofChange entryLogsSpec)

/-- ITS FALSE NEIGHBOUR: 'it returns false'. Refute it at one input. -/
def entryLogsWrong : ChangeSpec := { name := "entryLogs", fn := fun _ => fun
  | [d1, d2] => { results := [.lit (.bool false)], args := [d1, d2] }
  | _ => none }
def EntryLogsWrongFalsely : Prop := entryLogsRow.holds Tryd.pinned (OpenSpec.ofChange entryLogsWrong)

/- THE SECOND FORM. 'bulk': how many values and letters a reading holds, each counted each time it is reached (what is shared counts as often as it is met; a slice's spare places count too). A statement '..UptoSaid' is the law's where the arguments, and the package variables that the reading takes, are together of bulk at most 1048576: NARROWER than '..Said'. Prove '..Said' where nothing that the law and all that it calls make is longer than what came in: it says more and counts as full. Else prove '..UptoSaid'. A law counts once. -/
mutual
def uptoBulk {H : Type} : DataW H → Nat
  | .lit (.string bytes) => bytes.length + 1
  | .lit _ => 1
  | .nil => 1
  | .ptr d => uptoBulk d + 1
  | .slice elems spare => uptoBulkAll elems + uptoBulkAll spare + 1
  | .agg parts => uptoBulkAll parts + 1
  | .iface _ d => uptoBulk d + 1
  | .map entries => uptoBulkEntries entries + 1
  | .held _ => 1
def uptoBulkAll {H : Type} : List (DataW H) → Nat
  | [] => 0
  | d :: r => uptoBulk d + uptoBulkAll r
def uptoBulkEntries {H : Type} : List (Lit × DataW H) → Nat
  | [] => 0
  | x :: r => uptoBulkEntry x + uptoBulkEntries r
def uptoBulkEntry {H : Type} : Lit × DataW H → Nat
  | (.string bytes, d) => bytes.length + uptoBulk d + 1
  | (_, d) => uptoBulk d + 1
 end
def uptoSmall : (H : Type) → List (DataW H) → Bool := fun _ ds => decide (uptoBulkAll ds ≤ 1048576)
def OpenSpec.upto (s : _root_.Go.ChangeSpec) : _root_.Go.OpenSpec := { _root_.Go.OpenSpec.ofChange s with cond := some uptoSmall }

/-- 'bartizanlaw07.EntryReplays', WHERE WHAT IT READS IS OF BULK AT MOST 1048576: true; the input reads as it did. -/
def entryReplaysUptoRow : OpenClaim := { program := "ytpjinmiedanebaadoor", sum := "722c33bf791551e2fd65e88e5e4e9d6b45cb8e61381049a6b0eec5fd677bfa01", func := "bartizan/bartizanlaw07.EntryReplays", spec := "entryReplays", inPlace := ["internal/bytealg.Compare", "internal/bytealg.MakeNoZero"], named := ["bartizan/seal.quarter", "unicode/utf8.first", "unicode/utf8.acceptRanges"], apart := false, laid := [("unicode/utf8.acceptRanges", laid_unicode_utf8_acceptRanges), ("bartizan/seal.quarter", laid_bartizan_seal_quarter), ("unicode/utf8.first", laid_unicode_utf8_first)], narrowed := true }
def EntryReplaysUptoSaid : Prop := entryReplaysUptoRow.holds Tryd.pinned (OpenSpec.upto entryReplaysSpec)

/-- 'bartizanlaw07.EntryTorn', WHERE WHAT IT READS IS OF BULK AT MOST 1048576: true; the input reads as it did. -/
def entryTornUptoRow : OpenClaim := { program := "ytpjinmiedanebaadoor", sum := "722c33bf791551e2fd65e88e5e4e9d6b45cb8e61381049a6b0eec5fd677bfa01", func := "bartizan/bartizanlaw07.EntryTorn", spec := "entryTorn", inPlace := ["internal/bytealg.Compare", "internal/bytealg.MakeNoZero"], named := ["bartizan/seal.quarter", "unicode/utf8.first", "unicode/utf8.acceptRanges"], apart := false, laid := [("unicode/utf8.acceptRanges", laid_unicode_utf8_acceptRanges), ("bartizan/seal.quarter", laid_bartizan_seal_quarter), ("unicode/utf8.first", laid_unicode_utf8_first)], narrowed := true }
def EntryTornUptoSaid : Prop := entryTornUptoRow.holds Tryd.pinned (OpenSpec.upto entryTornSpec)

/-- 'bartizanlaw07.EntryLogs', WHERE WHAT IT READS IS OF BULK AT MOST 1048576: true; the input reads as it did. -/
def entryLogsUptoRow : OpenClaim := { program := "ytpjinmiedanebaadoor", sum := "722c33bf791551e2fd65e88e5e4e9d6b45cb8e61381049a6b0eec5fd677bfa01", func := "bartizan/bartizanlaw07.EntryLogs", spec := "entryLogs", inPlace := ["internal/bytealg.Compare", "internal/bytealg.MakeNoZero"], named := ["bartizan/seal.quarter", "unicode/utf8.first", "unicode/utf8.acceptRanges"], apart := false, laid := [("unicode/utf8.acceptRanges", laid_unicode_utf8_acceptRanges), ("bartizan/seal.quarter", laid_bartizan_seal_quarter), ("unicode/utf8.first", laid_unicode_utf8_first)], narrowed := true }
def EntryLogsUptoSaid : Prop := entryLogsUptoRow.holds Tryd.pinned (OpenSpec.upto entryLogsSpec)

end Rows
end Go.Proofs.YtpjinmiedanebaaDoor
