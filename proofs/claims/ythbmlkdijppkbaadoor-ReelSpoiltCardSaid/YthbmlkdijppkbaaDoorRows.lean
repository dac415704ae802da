/-
  NARROWER THAN 'FOR EVERY INPUT', by the rows' own cells (each row's printed sentence says how): SealSums: laid · SealApart: laid · SealMasks: laid · SealCloses: laid · SealOpens: laid · SealByte: laid · SealShort: laid · BloomBuilds: laid · BloomHas: laid · BloomAny: laid · BloomMore: laid · ReelFrames: laid · ReelLong: laid · ReelBlocks: laid · ReelBack: laid · ReelCuts: laid · ReelSpoilt: laid.
  DERIVED. THE GIVEN ROWS OF THIS SEAT. 17 by the template 'for every input the law returns true; each argument reads behind the call as it read before'; 0 by the template 'total and deterministic' (their statements: YthbmlkdijppkbaaDoorTotals.lean).
  GIVEN WITH THE SEED: the statements are not yours to turn. If you find one false, say at which input.
  Laid BY PROGRAM, IN A SANDBOX (cutbox-rows.mjs): the forced cells as the released guide's own fill.sh prints them over the translation 28cb32525b11e89b… (all of the seat's roots in one cut). By AI agents, Wed Nov 11 2026. No macro, syntax, notation, axiom, sorry.
-/
import Derived.Test.YthbmlkdijppkbaaDoorChecked
import GoSem.PinnedTables
import GoSem.Claim
import GoSem.ClaimJoined
import GoSem.ClaimMapViews
import Derived.JoinedTies
import Derived.KernelRfl
namespace Go.Proofs.YthbmlkdijppkbaaDoor
/- THE CELL 'sum', in the pinned program and in every row, IS THE sha256 OF THE DUMP (.gsa) THAT YthbmlkdijppkbaaDoorProg.lean LOADS. Nothing in Lean hashes anything: it is a label: what it is worth is what the hold of that sum in a sandbox is worth. -/
noncomputable def Tryd.pinned : Pinned := { name := "ythbmlkdijppkbaadoor", sum := "28cb32525b11e89bb181d99c4a14d709cd61cb48d4c5c6774caa5fc84e372ce0", checked := Tryd.checked }
namespace Rows
def none {H : Type} : Left H := { results := [], args := [] }

/- WHAT THE LISTED PACKAGE-LEVEL VARIABLES READ AS WHEN THE CALL BEGINS. Each datum BY PROGRAM (the guide's laid-datum.mjs) off the statement by which the dump's own 'gosem.cut.vars' lays the variable. In a bare row this is a premise. The card (YthbmlkdijppkbaaDoorCards.lean) ties it to the program's text. -/
def laid_bartizan_seal_quarter {H : Type} : DataW H := .agg [.lit (.int .u32 0), .lit (.int .u32 274646895), .lit (.int .u32 549293790), .lit (.int .u32 820201905), .lit (.int .u32 1098587580), .lit (.int .u32 1361435347), .lit (.int .u32 1640403810), .lit (.int .u32 1905808397), .lit (.int .u32 2197175160), .lit (.int .u32 2460548119), .lit (.int .u32 2722870694), .lit (.int .u32 2987750089), .lit (.int .u32 3280807620), .lit (.int .u32 3553878443), .lit (.int .u32 3811616794), .lit (.int .u32 4084100981)]
def laid_unicode_utf8_acceptRanges {H : Type} : DataW H := .agg [.agg [.lit (.int .u8 128), .lit (.int .u8 191)], .agg [.lit (.int .u8 160), .lit (.int .u8 191)], .agg [.lit (.int .u8 128), .lit (.int .u8 159)], .agg [.lit (.int .u8 144), .lit (.int .u8 191)], .agg [.lit (.int .u8 128), .lit (.int .u8 143)], .agg [.lit (.int .u8 0), .lit (.int .u8 0)], .agg [.lit (.int .u8 0), .lit (.int .u8 0)], .agg [.lit (.int .u8 0), .lit (.int .u8 0)], .agg [.lit (.int .u8 0), .lit (.int .u8 0)], .agg [.lit (.int .u8 0), .lit (.int .u8 0)], .agg [.lit (.int .u8 0), .lit (.int .u8 0)], .agg [.lit (.int .u8 0), .lit (.int .u8 0)], .agg [.lit (.int .u8 0), .lit (.int .u8 0)], .agg [.lit (.int .u8 0), .lit (.int .u8 0)], .agg [.lit (.int .u8 0), .lit (.int .u8 0)], .agg [.lit (.int .u8 0), .lit (.int .u8 0)]]
/-- One of Go's own tables, pinned by name: the form's constant. -/
def laid_unicode_utf8_first : DataW Unit := Go.Pinned.utf8First

/-- 'bartizanlaw02.SealSums': WHATEVER THE INPUT: true; the input reads as it did. -/
def sealSumsSpec : ChangeSpec := { name := "sealSums", fn := fun _ => fun
  | [d] => { results := [.lit (.bool true)], args := [d] }
  | _ => none }
def sealSumsRow : OpenClaim := { program := "ythbmlkdijppkbaadoor", sum := "28cb32525b11e89bb181d99c4a14d709cd61cb48d4c5c6774caa5fc84e372ce0", func := "bartizan/bartizanlaw02.SealSums", spec := "sealSums", named := ["bartizan/seal.quarter"], apart := false, laid := [("bartizan/seal.quarter", laid_bartizan_seal_quarter)] }
def SealSumsSaid : Prop := sealSumsRow.holds Tryd.pinned (OpenSpec.ofChange sealSumsSpec)

/-- ITS FALSE NEIGHBOUR: 'it returns false'. Refute it at one input. -/
def sealSumsWrong : ChangeSpec := { name := "sealSums", fn := fun _ => fun
  | [d] => { results := [.lit (.bool false)], args := [d] }
  | _ => none }
def SealSumsWrongFalsely : Prop := sealSumsRow.holds Tryd.pinned (OpenSpec.ofChange sealSumsWrong)

/-- 'bartizanlaw02.SealApart': WHATEVER THE INPUT: true; the input reads as it did. -/
def sealApartSpec : ChangeSpec := { name := "sealApart", fn := fun _ => fun
  | [d1, d2, d3] => { results := [.lit (.bool true)], args := [d1, d2, d3] }
  | _ => none }
def sealApartRow : OpenClaim := { program := "ythbmlkdijppkbaadoor", sum := "28cb32525b11e89bb181d99c4a14d709cd61cb48d4c5c6774caa5fc84e372ce0", func := "bartizan/bartizanlaw02.SealApart", spec := "sealApart", named := ["bartizan/seal.quarter"], apart := false, laid := [("bartizan/seal.quarter", laid_bartizan_seal_quarter)] }
def SealApartSaid : Prop := sealApartRow.holds Tryd.pinned (OpenSpec.ofChange sealApartSpec)

/-- ITS FALSE NEIGHBOUR: 'it returns false'. Refute it at one input. -/
def sealApartWrong : ChangeSpec := { name := "sealApart", fn := fun _ => fun
  | [d1, d2, d3] => { results := [.lit (.bool false)], args := [d1, d2, d3] }
  | _ => none }
def SealApartWrongFalsely : Prop := sealApartRow.holds Tryd.pinned (OpenSpec.ofChange sealApartWrong)

/-- 'bartizanlaw02.SealMasks': WHATEVER THE INPUT: true; the input reads as it did. -/
def sealMasksSpec : ChangeSpec := { name := "sealMasks", fn := fun _ => fun
  | [d] => { results := [.lit (.bool true)], args := [d] }
  | _ => none }
def sealMasksRow : OpenClaim := { program := "ythbmlkdijppkbaadoor", sum := "28cb32525b11e89bb181d99c4a14d709cd61cb48d4c5c6774caa5fc84e372ce0", func := "bartizan/bartizanlaw02.SealMasks", spec := "sealMasks", named := ["bartizan/seal.quarter"], apart := false, laid := [("bartizan/seal.quarter", laid_bartizan_seal_quarter)] }
def SealMasksSaid : Prop := sealMasksRow.holds Tryd.pinned (OpenSpec.ofChange sealMasksSpec)

/-- ITS FALSE NEIGHBOUR: 'it returns false'. Refute it at one input. -/
def sealMasksWrong : ChangeSpec := { name := "sealMasks", fn := fun _ => fun
  | [d] => { results := [.lit (.bool false)], args := [d] }
  | _ => none }
def SealMasksWrongFalsely : Prop := sealMasksRow.holds Tryd.pinned (OpenSpec.ofChange sealMasksWrong)

/-- 'bartizanlaw02.SealCloses': WHATEVER THE INPUT: true; the input reads as it did. -/
def sealClosesSpec : ChangeSpec := { name := "sealCloses", fn := fun _ => fun
  | [d] => { results := [.lit (.bool true)], args := [d] }
  | _ => none }
def sealClosesRow : OpenClaim := { program := "ythbmlkdijppkbaadoor", sum := "28cb32525b11e89bb181d99c4a14d709cd61cb48d4c5c6774caa5fc84e372ce0", func := "bartizan/bartizanlaw02.SealCloses", spec := "sealCloses", named := ["bartizan/seal.quarter"], apart := false, laid := [("bartizan/seal.quarter", laid_bartizan_seal_quarter)] }
def SealClosesSaid : Prop := sealClosesRow.holds Tryd.pinned (OpenSpec.ofChange sealClosesSpec)

/-- ITS FALSE NEIGHBOUR: 'it returns false'. Refute it at one input. -/
def sealClosesWrong : ChangeSpec := { name := "sealCloses", fn := fun _ => fun
  | [d] => { results := [.lit (.bool false)], args := [d] }
  | _ => none }
def SealClosesWrongFalsely : Prop := sealClosesRow.holds Tryd.pinned (OpenSpec.ofChange sealClosesWrong)

/-- 'bartizanlaw02.SealOpens': WHATEVER THE INPUT: true; the input reads as it did. -/
def sealOpensSpec : ChangeSpec := { name := "sealOpens", fn := fun _ => fun
  | [d] => { results := [.lit (.bool true)], args := [d] }
  | _ => none }
def sealOpensRow : OpenClaim := { program := "ythbmlkdijppkbaadoor", sum := "28cb32525b11e89bb181d99c4a14d709cd61cb48d4c5c6774caa5fc84e372ce0", func := "bartizan/bartizanlaw02.SealOpens", spec := "sealOpens", named := ["bartizan/seal.quarter"], apart := false, laid := [("bartizan/seal.quarter", laid_bartizan_seal_quarter)] }
def SealOpensSaid : Prop := sealOpensRow.holds Tryd.pinned (OpenSpec.ofChange sealOpensSpec)

/-- ITS FALSE NEIGHBOUR: 'it returns false'. Refute it at one input. -/
def sealOpensWrong : ChangeSpec := { name := "sealOpens", fn := fun _ => fun
  | [d] => { results := [.lit (.bool false)], args := [d] }
  | _ => none }
def SealOpensWrongFalsely : Prop := sealOpensRow.holds Tryd.pinned (OpenSpec.ofChange sealOpensWrong)

/-- 'bartizanlaw02.SealByte': WHATEVER THE INPUT: true; the input reads as it did. -/
def sealByteSpec : ChangeSpec := { name := "sealByte", fn := fun _ => fun
  | [d1, d2, d3] => { results := [.lit (.bool true)], args := [d1, d2, d3] }
  | _ => none }
def sealByteRow : OpenClaim := { program := "ythbmlkdijppkbaadoor", sum := "28cb32525b11e89bb181d99c4a14d709cd61cb48d4c5c6774caa5fc84e372ce0", func := "bartizan/bartizanlaw02.SealByte", spec := "sealByte", named := ["bartizan/seal.quarter"], apart := false, laid := [("bartizan/seal.quarter", laid_bartizan_seal_quarter)] }
def SealByteSaid : Prop := sealByteRow.holds Tryd.pinned (OpenSpec.ofChange sealByteSpec)

/-- ITS FALSE NEIGHBOUR: 'it returns false'. Refute it at one input. -/
def sealByteWrong : ChangeSpec := { name := "sealByte", fn := fun _ => fun
  | [d1, d2, d3] => { results := [.lit (.bool false)], args := [d1, d2, d3] }
  | _ => none }
def SealByteWrongFalsely : Prop := sealByteRow.holds Tryd.pinned (OpenSpec.ofChange sealByteWrong)

/-- 'bartizanlaw02.SealShort': WHATEVER THE INPUT: true; the input reads as it did. -/
def sealShortSpec : ChangeSpec := { name := "sealShort", fn := fun _ => fun
  | [d] => { results := [.lit (.bool true)], args := [d] }
  | _ => none }
def sealShortRow : OpenClaim := { program := "ythbmlkdijppkbaadoor", sum := "28cb32525b11e89bb181d99c4a14d709cd61cb48d4c5c6774caa5fc84e372ce0", func := "bartizan/bartizanlaw02.SealShort", spec := "sealShort", named := ["bartizan/seal.quarter"], apart := false, laid := [("bartizan/seal.quarter", laid_bartizan_seal_quarter)] }
def SealShortSaid : Prop := sealShortRow.holds Tryd.pinned (OpenSpec.ofChange sealShortSpec)

/-- ITS FALSE NEIGHBOUR: 'it returns false'. Refute it at one input. -/
def sealShortWrong : ChangeSpec := { name := "sealShort", fn := fun _ => fun
  | [d] => { results := [.lit (.bool false)], args := [d] }
  | _ => none }
def SealShortWrongFalsely : Prop := sealShortRow.holds Tryd.pinned (OpenSpec.ofChange sealShortWrong)

/-- 'bartizanlaw11.BloomBuilds': WHATEVER THE INPUT: true; the input reads as it did. -/
def bloomBuildsSpec : ChangeSpec := { name := "bloomBuilds", fn := fun _ => fun
  | [d1, d2] => { results := [.lit (.bool true)], args := [d1, d2] }
  | _ => none }
def bloomBuildsRow : OpenClaim := { program := "ythbmlkdijppkbaadoor", sum := "28cb32525b11e89bb181d99c4a14d709cd61cb48d4c5c6774caa5fc84e372ce0", func := "bartizan/bartizanlaw11.BloomBuilds", spec := "bloomBuilds", unfollowed := true, recurses := true, named := ["bartizan/seal.quarter"], apart := false, laid := [("bartizan/seal.quarter", laid_bartizan_seal_quarter)] }
def BloomBuildsSaid : Prop := bloomBuildsRow.holds Tryd.pinned (OpenSpec.ofChange bloomBuildsSpec)

/-- ITS FALSE NEIGHBOUR: 'it returns false'. Refute it at one input. -/
def bloomBuildsWrong : ChangeSpec := { name := "bloomBuilds", fn := fun _ => fun
  | [d1, d2] => { results := [.lit (.bool false)], args := [d1, d2] }
  | _ => none }
def BloomBuildsWrongFalsely : Prop := bloomBuildsRow.holds Tryd.pinned (OpenSpec.ofChange bloomBuildsWrong)

/-- 'bartizanlaw11.BloomHas': WHATEVER THE INPUT: true; the input reads as it did. -/
def bloomHasSpec : ChangeSpec := { name := "bloomHas", fn := fun _ => fun
  | [d1, d2, d3] => { results := [.lit (.bool true)], args := [d1, d2, d3] }
  | _ => none }
def bloomHasRow : OpenClaim := { program := "ythbmlkdijppkbaadoor", sum := "28cb32525b11e89bb181d99c4a14d709cd61cb48d4c5c6774caa5fc84e372ce0", func := "bartizan/bartizanlaw11.BloomHas", spec := "bloomHas", unfollowed := true, recurses := true, named := ["bartizan/seal.quarter"], apart := false, laid := [("bartizan/seal.quarter", laid_bartizan_seal_quarter)] }
def BloomHasSaid : Prop := bloomHasRow.holds Tryd.pinned (OpenSpec.ofChange bloomHasSpec)

/-- ITS FALSE NEIGHBOUR: 'it returns false'. Refute it at one input. -/
def bloomHasWrong : ChangeSpec := { name := "bloomHas", fn := fun _ => fun
  | [d1, d2, d3] => { results := [.lit (.bool false)], args := [d1, d2, d3] }
  | _ => none }
def BloomHasWrongFalsely : Prop := bloomHasRow.holds Tryd.pinned (OpenSpec.ofChange bloomHasWrong)

/-- 'bartizanlaw11.BloomAny': WHATEVER THE INPUT: true; the input reads as it did. -/
def bloomAnySpec : ChangeSpec := { name := "bloomAny", fn := fun _ => fun
  | [d1, d2] => { results := [.lit (.bool true)], args := [d1, d2] }
  | _ => none }
def bloomAnyRow : OpenClaim := { program := "ythbmlkdijppkbaadoor", sum := "28cb32525b11e89bb181d99c4a14d709cd61cb48d4c5c6774caa5fc84e372ce0", func := "bartizan/bartizanlaw11.BloomAny", spec := "bloomAny", unfollowed := true, recurses := true, named := ["bartizan/seal.quarter"], apart := false, laid := [("bartizan/seal.quarter", laid_bartizan_seal_quarter)] }
def BloomAnySaid : Prop := bloomAnyRow.holds Tryd.pinned (OpenSpec.ofChange bloomAnySpec)

/-- ITS FALSE NEIGHBOUR: 'it returns false'. Refute it at one input. -/
def bloomAnyWrong : ChangeSpec := { name := "bloomAny", fn := fun _ => fun
  | [d1, d2] => { results := [.lit (.bool false)], args := [d1, d2] }
  | _ => none }
def BloomAnyWrongFalsely : Prop := bloomAnyRow.holds Tryd.pinned (OpenSpec.ofChange bloomAnyWrong)

/-- 'bartizanlaw11.BloomMore': WHATEVER THE INPUT: true; the input reads as it did. -/
def bloomMoreSpec : ChangeSpec := { name := "bloomMore", fn := fun _ => fun
  | [d1, d2, d3] => { results := [.lit (.bool true)], args := [d1, d2, d3] }
  | _ => none }
def bloomMoreRow : OpenClaim := { program := "ythbmlkdijppkbaadoor", sum := "28cb32525b11e89bb181d99c4a14d709cd61cb48d4c5c6774caa5fc84e372ce0", func := "bartizan/bartizanlaw11.BloomMore", spec := "bloomMore", unfollowed := true, recurses := true, named := ["bartizan/seal.quarter"], apart := false, laid := [("bartizan/seal.quarter", laid_bartizan_seal_quarter)] }
def BloomMoreSaid : Prop := bloomMoreRow.holds Tryd.pinned (OpenSpec.ofChange bloomMoreSpec)

/-- ITS FALSE NEIGHBOUR: 'it returns false'. Refute it at one input. -/
def bloomMoreWrong : ChangeSpec := { name := "bloomMore", fn := fun _ => fun
  | [d1, d2, d3] => { results := [.lit (.bool false)], args := [d1, d2, d3] }
  | _ => none }
def BloomMoreWrongFalsely : Prop := bloomMoreRow.holds Tryd.pinned (OpenSpec.ofChange bloomMoreWrong)

/-- 'bartizanlaw06.ReelFrames': WHATEVER THE INPUT: true; the input reads as it did. -/
def reelFramesSpec : ChangeSpec := { name := "reelFrames", fn := fun _ => fun
  | [d1, d2] => { results := [.lit (.bool true)], args := [d1, d2] }
  | _ => none }
def reelFramesRow : OpenClaim := { program := "ythbmlkdijppkbaadoor", sum := "28cb32525b11e89bb181d99c4a14d709cd61cb48d4c5c6774caa5fc84e372ce0", func := "bartizan/bartizanlaw06.ReelFrames", spec := "reelFrames", named := ["bartizan/seal.quarter"], apart := false, laid := [("bartizan/seal.quarter", laid_bartizan_seal_quarter)] }
def ReelFramesSaid : Prop := reelFramesRow.holds Tryd.pinned (OpenSpec.ofChange reelFramesSpec)

/-- ITS FALSE NEIGHBOUR: 'it returns false'. Refute it at one input. -/
def reelFramesWrong : ChangeSpec := { name := "reelFrames", fn := fun _ => fun
  | [d1, d2] => { results := [.lit (.bool false)], args := [d1, d2] }
  | _ => none }
def ReelFramesWrongFalsely : Prop := reelFramesRow.holds Tryd.pinned (OpenSpec.ofChange reelFramesWrong)

/-- 'bartizanlaw06.ReelLong': WHATEVER THE INPUT: true; the input reads as it did. -/
def reelLongSpec : ChangeSpec := { name := "reelLong", fn := fun _ => fun
  | [d] => { results := [.lit (.bool true)], args := [d] }
  | _ => none }
def reelLongRow : OpenClaim := { program := "ythbmlkdijppkbaadoor", sum := "28cb32525b11e89bb181d99c4a14d709cd61cb48d4c5c6774caa5fc84e372ce0", func := "bartizan/bartizanlaw06.ReelLong", spec := "reelLong", named := ["bartizan/seal.quarter"], apart := false, laid := [("bartizan/seal.quarter", laid_bartizan_seal_quarter)] }
def ReelLongSaid : Prop := reelLongRow.holds Tryd.pinned (OpenSpec.ofChange reelLongSpec)

/-- ITS FALSE NEIGHBOUR: 'it returns false'. Refute it at one input. -/
def reelLongWrong : ChangeSpec := { name := "reelLong", fn := fun _ => fun
  | [d] => { results := [.lit (.bool false)], args := [d] }
  | _ => none }
def ReelLongWrongFalsely : Prop := reelLongRow.holds Tryd.pinned (OpenSpec.ofChange reelLongWrong)

/-- 'bartizanlaw06.ReelBlocks': WHATEVER THE INPUT: true; the input reads as it did. -/
def reelBlocksSpec : ChangeSpec := { name := "reelBlocks", fn := fun _ => fun
  | [d] => { results := [.lit (.bool true)], args := [d] }
  | _ => none }
def reelBlocksRow : OpenClaim := { program := "ythbmlkdijppkbaadoor", sum := "28cb32525b11e89bb181d99c4a14d709cd61cb48d4c5c6774caa5fc84e372ce0", func := "bartizan/bartizanlaw06.ReelBlocks", spec := "reelBlocks", named := ["bartizan/seal.quarter"], apart := false, laid := [("bartizan/seal.quarter", laid_bartizan_seal_quarter)] }
def ReelBlocksSaid : Prop := reelBlocksRow.holds Tryd.pinned (OpenSpec.ofChange reelBlocksSpec)

/-- ITS FALSE NEIGHBOUR: 'it returns false'. Refute it at one input. -/
def reelBlocksWrong : ChangeSpec := { name := "reelBlocks", fn := fun _ => fun
  | [d] => { results := [.lit (.bool false)], args := [d] }
  | _ => none }
def ReelBlocksWrongFalsely : Prop := reelBlocksRow.holds Tryd.pinned (OpenSpec.ofChange reelBlocksWrong)

/-- 'bartizanlaw06.ReelBack': WHATEVER THE INPUT: true; the input reads as it did. -/
def reelBackSpec : ChangeSpec := { name := "reelBack", fn := fun _ => fun
  | [d] => { results := [.lit (.bool true)], args := [d] }
  | _ => none }
def reelBackRow : OpenClaim := { program := "ythbmlkdijppkbaadoor", sum := "28cb32525b11e89bb181d99c4a14d709cd61cb48d4c5c6774caa5fc84e372ce0", func := "bartizan/bartizanlaw06.ReelBack", spec := "reelBack", named := ["bartizan/seal.quarter", "unicode/utf8.first", "unicode/utf8.acceptRanges"], apart := false, laid := [("unicode/utf8.acceptRanges", laid_unicode_utf8_acceptRanges), ("bartizan/seal.quarter", laid_bartizan_seal_quarter), ("unicode/utf8.first", laid_unicode_utf8_first)] }
def ReelBackSaid : Prop := reelBackRow.holds Tryd.pinned (OpenSpec.ofChange reelBackSpec)

/-- ITS FALSE NEIGHBOUR: 'it returns false'. Refute it at one input. -/
def reelBackWrong : ChangeSpec := { name := "reelBack", fn := fun _ => fun
  | [d] => { results := [.lit (.bool false)], args := [d] }
  | _ => none }
def ReelBackWrongFalsely : Prop := reelBackRow.holds Tryd.pinned (OpenSpec.ofChange reelBackWrong)

/-- 'bartizanlaw06.ReelCuts': WHATEVER THE INPUT: true; the input reads as it did. -/
def reelCutsSpec : ChangeSpec := { name := "reelCuts", fn := fun _ => fun
  | [d1, d2, d3] => { results := [.lit (.bool true)], args := [d1, d2, d3] }
  | _ => none }
def reelCutsRow : OpenClaim := { program := "ythbmlkdijppkbaadoor", sum := "28cb32525b11e89bb181d99c4a14d709cd61cb48d4c5c6774caa5fc84e372ce0", func := "bartizan/bartizanlaw06.ReelCuts", spec := "reelCuts", named := ["bartizan/seal.quarter", "unicode/utf8.first", "unicode/utf8.acceptRanges"], apart := false, laid := [("unicode/utf8.acceptRanges", laid_unicode_utf8_acceptRanges), ("bartizan/seal.quarter", laid_bartizan_seal_quarter), ("unicode/utf8.first", laid_unicode_utf8_first)] }
def ReelCutsSaid : Prop := reelCutsRow.holds Tryd.pinned (OpenSpec.ofChange reelCutsSpec)

/-- ITS FALSE NEIGHBOUR: 'it returns false'. Refute it at one input. -/
def reelCutsWrong : ChangeSpec := { name := "reelCuts", fn := fun _ => fun
  | [d1, d2, d3] => { results := [.lit (.bool false)], args := [d1, d2, d3] }
  | _ => none }
def ReelCutsWrongFalsely : Prop := reelCutsRow.holds Tryd.pinned (OpenSpec.ofChange reelCutsWrong)

/-- 'bartizanlaw06.ReelSpoilt': WHATEVER THE INPUT: true; the input reads as it did. -/
def reelSpoiltSpec : ChangeSpec := { name := "reelSpoilt", fn := fun _ => fun
  | [d1, d2, d3] => { results := [.lit (.bool true)], args := [d1, d2, d3] }
  | _ => none }
def reelSpoiltRow : OpenClaim := { program := "ythbmlkdijppkbaadoor", sum := "28cb32525b11e89bb181d99c4a14d709cd61cb48d4c5c6774caa5fc84e372ce0", func := "bartizan/bartizanlaw06.ReelSpoilt", spec := "reelSpoilt", named := ["bartizan/seal.quarter", "unicode/utf8.first", "unicode/utf8.acceptRanges"], apart := false, laid := [("unicode/utf8.acceptRanges", laid_unicode_utf8_acceptRanges), ("bartizan/seal.quarter", laid_bartizan_seal_quarter), ("unicode/utf8.first", laid_unicode_utf8_first)] }
def ReelSpoiltSaid : Prop := reelSpoiltRow.holds Tryd.pinned (OpenSpec.ofChange reelSpoiltSpec)

/-- ITS FALSE NEIGHBOUR: 'it returns false'. Refute it at one input. -/
def reelSpoiltWrong : ChangeSpec := { name := "reelSpoilt", fn := fun _ => fun
  | [d1, d2, d3] => { results := [.lit (.bool false)], args := [d1, d2, d3] }
  | _ => none }
def ReelSpoiltWrongFalsely : Prop := reelSpoiltRow.holds Tryd.pinned (OpenSpec.ofChange reelSpoiltWrong)

/- THE SECOND FORM. 'bulk': how many values and letters a reading holds, each counted each time it is reached (what is shared counts as often as it is met; a slice's spare places count too). A statement '..UptoSaid' is the law's where the arguments, and the package variables that the reading takes, are together of bulk at most 1048576: NARROWER than '..Said'. Prove '..Said' where nothing that the law and all that it calls make is longer than what came in: it says more and counts as full. Else prove '..UptoSaid'. A law counts once. -/
mutual
def uptoBulk {H : Type} : DataW H → Nat
  | .lit (.string bytes) => bytes.length + 1
  | .lit _ => 1
  | .nil => 1
  | .ptr d => uptoBulk d + 1
  | .slice elems spare => uptoBulkAll elems + uptoBulkAll spare + 1
  | .agg parts => uptoBulkAll parts + 1
  | .iface _ d => uptoBulk d + 1
  | .map entries => uptoBulkEntries entries + 1
  | .held _ => 1
def uptoBulkAll {H : Type} : List (DataW H) → Nat
  | [] => 0
  | d :: r => uptoBulk d + uptoBulkAll r
def uptoBulkEntries {H : Type} : List (Lit × DataW H) → Nat
  | [] => 0
  | x :: r => uptoBulkEntry x + uptoBulkEntries r
def uptoBulkEntry {H : Type} : Lit × DataW H → Nat
  | (.string bytes, d) => bytes.length + uptoBulk d + 1
  | (_, d) => uptoBulk d + 1
 end
def uptoSmall : (H : Type) → List (DataW H) → Bool := fun _ ds => decide (uptoBulkAll ds ≤ 1048576)
def OpenSpec.upto (s : _root_.Go.ChangeSpec) : _root_.Go.OpenSpec := { _root_.Go.OpenSpec.ofChange s with cond := some uptoSmall }

/-- 'bartizanlaw02.SealSums', WHERE WHAT IT READS IS OF BULK AT MOST 1048576: true; the input reads as it did. -/
def sealSumsUptoRow : OpenClaim := { program := "ythbmlkdijppkbaadoor", sum := "28cb32525b11e89bb181d99c4a14d709cd61cb48d4c5c6774caa5fc84e372ce0", func := "bartizan/bartizanlaw02.SealSums", spec := "sealSums", named := ["bartizan/seal.quarter"], apart := false, laid := [("bartizan/seal.quarter", laid_bartizan_seal_quarter)], narrowed := true }
def SealSumsUptoSaid : Prop := sealSumsUptoRow.holds Tryd.pinned (OpenSpec.upto sealSumsSpec)

/-- 'bartizanlaw02.SealApart', WHERE WHAT IT READS IS OF BULK AT MOST 1048576: true; the input reads as it did. -/
def sealApartUptoRow : OpenClaim := { program := "ythbmlkdijppkbaadoor", sum := "28cb32525b11e89bb181d99c4a14d709cd61cb48d4c5c6774caa5fc84e372ce0", func := "bartizan/bartizanlaw02.SealApart", spec := "sealApart", named := ["bartizan/seal.quarter"], apart := false, laid := [("bartizan/seal.quarter", laid_bartizan_seal_quarter)], narrowed := true }
def SealApartUptoSaid : Prop := sealApartUptoRow.holds Tryd.pinned (OpenSpec.upto sealApartSpec)

/-- 'bartizanlaw02.SealMasks', WHERE WHAT IT READS IS OF BULK AT MOST 1048576: true; the input reads as it did. -/
def sealMasksUptoRow : OpenClaim := { program := "ythbmlkdijppkbaadoor", sum := "28cb32525b11e89bb181d99c4a14d709cd61cb48d4c5c6774caa5fc84e372ce0", func := "bartizan/bartizanlaw02.SealMasks", spec := "sealMasks", named := ["bartizan/seal.quarter"], apart := false, laid := [("bartizan/seal.quarter", laid_bartizan_seal_quarter)], narrowed := true }
def SealMasksUptoSaid : Prop := sealMasksUptoRow.holds Tryd.pinned (OpenSpec.upto sealMasksSpec)

/-- 'bartizanlaw02.SealCloses', WHERE WHAT IT READS IS OF BULK AT MOST 1048576: true; the input reads as it did. -/
def sealClosesUptoRow : OpenClaim := { program := "ythbmlkdijppkbaadoor", sum := "28cb32525b11e89bb181d99c4a14d709cd61cb48d4c5c6774caa5fc84e372ce0", func := "bartizan/bartizanlaw02.SealCloses", spec := "sealCloses", named := ["bartizan/seal.quarter"], apart := false, laid := [("bartizan/seal.quarter", laid_bartizan_seal_quarter)], narrowed := true }
def SealClosesUptoSaid : Prop := sealClosesUptoRow.holds Tryd.pinned (OpenSpec.upto sealClosesSpec)

/-- 'bartizanlaw02.SealOpens', WHERE WHAT IT READS IS OF BULK AT MOST 1048576: true; the input reads as it did. -/
def sealOpensUptoRow : OpenClaim := { program := "ythbmlkdijppkbaadoor", sum := "28cb32525b11e89bb181d99c4a14d709cd61cb48d4c5c6774caa5fc84e372ce0", func := "bartizan/bartizanlaw02.SealOpens", spec := "sealOpens", named := ["bartizan/seal.quarter"], apart := false, laid := [("bartizan/seal.quarter", laid_bartizan_seal_quarter)], narrowed := true }
def SealOpensUptoSaid : Prop := sealOpensUptoRow.holds Tryd.pinned (OpenSpec.upto sealOpensSpec)

/-- 'bartizanlaw02.SealByte', WHERE WHAT IT READS IS OF BULK AT MOST 1048576: true; the input reads as it did. -/
def sealByteUptoRow : OpenClaim := { program := "ythbmlkdijppkbaadoor", sum := "28cb32525b11e89bb181d99c4a14d709cd61cb48d4c5c6774caa5fc84e372ce0", func := "bartizan/bartizanlaw02.SealByte", spec := "sealByte", named := ["bartizan/seal.quarter"], apart := false, laid := [("bartizan/seal.quarter", laid_bartizan_seal_quarter)], narrowed := true }
def SealByteUptoSaid : Prop := sealByteUptoRow.holds Tryd.pinned (OpenSpec.upto sealByteSpec)

/-- 'bartizanlaw02.SealShort', WHERE WHAT IT READS IS OF BULK AT MOST 1048576: true; the input reads as it did. -/
def sealShortUptoRow : OpenClaim := { program := "ythbmlkdijppkbaadoor", sum := "28cb32525b11e89bb181d99c4a14d709cd61cb48d4c5c6774caa5fc84e372ce0", func := "bartizan/bartizanlaw02.SealShort", spec := "sealShort", named := ["bartizan/seal.quarter"], apart := false, laid := [("bartizan/seal.quarter", laid_bartizan_seal_quarter)], narrowed := true }
def SealShortUptoSaid : Prop := sealShortUptoRow.holds Tryd.pinned (OpenSpec.upto sealShortSpec)

/-- 'bartizanlaw11.BloomBuilds', WHERE WHAT IT READS IS OF BULK AT MOST 1048576: true; the input reads as it did. -/
def bloomBuildsUptoRow : OpenClaim := { program := "ythbmlkdijppkbaadoor", sum := "28cb32525b11e89bb181d99c4a14d709cd61cb48d4c5c6774caa5fc84e372ce0", func := "bartizan/bartizanlaw11.BloomBuilds", spec := "bloomBuilds", unfollowed := true, recurses := true, named := ["bartizan/seal.quarter"], apart := false, laid := [("bartizan/seal.quarter", laid_bartizan_seal_quarter)], narrowed := true }
def BloomBuildsUptoSaid : Prop := bloomBuildsUptoRow.holds Tryd.pinned (OpenSpec.upto bloomBuildsSpec)

/-- 'bartizanlaw11.BloomHas', WHERE WHAT IT READS IS OF BULK AT MOST 1048576: true; the input reads as it did. -/
def bloomHasUptoRow : OpenClaim := { program := "ythbmlkdijppkbaadoor", sum := "28cb32525b11e89bb181d99c4a14d709cd61cb48d4c5c6774caa5fc84e372ce0", func := "bartizan/bartizanlaw11.BloomHas", spec := "bloomHas", unfollowed := true, recurses := true, named := ["bartizan/seal.quarter"], apart := false, laid := [("bartizan/seal.quarter", laid_bartizan_seal_quarter)], narrowed := true }
def BloomHasUptoSaid : Prop := bloomHasUptoRow.holds Tryd.pinned (OpenSpec.upto bloomHasSpec)

/-- 'bartizanlaw11.BloomAny', WHERE WHAT IT READS IS OF BULK AT MOST 1048576: true; the input reads as it did. -/
def bloomAnyUptoRow : OpenClaim := { program := "ythbmlkdijppkbaadoor", sum := "28cb32525b11e89bb181d99c4a14d709cd61cb48d4c5c6774caa5fc84e372ce0", func := "bartizan/bartizanlaw11.BloomAny", spec := "bloomAny", unfollowed := true, recurses := true, named := ["bartizan/seal.quarter"], apart := false, laid := [("bartizan/seal.quarter", laid_bartizan_seal_quarter)], narrowed := true }
def BloomAnyUptoSaid : Prop := bloomAnyUptoRow.holds Tryd.pinned (OpenSpec.upto bloomAnySpec)

/-- 'bartizanlaw11.BloomMore', WHERE WHAT IT READS IS OF BULK AT MOST 1048576: true; the input reads as it did. -/
def bloomMoreUptoRow : OpenClaim := { program := "ythbmlkdijppkbaadoor", sum := "28cb32525b11e89bb181d99c4a14d709cd61cb48d4c5c6774caa5fc84e372ce0", func := "bartizan/bartizanlaw11.BloomMore", spec := "bloomMore", unfollowed := true, recurses := true, named := ["bartizan/seal.quarter"], apart := false, laid := [("bartizan/seal.quarter", laid_bartizan_seal_quarter)], narrowed := true }
def BloomMoreUptoSaid : Prop := bloomMoreUptoRow.holds Tryd.pinned (OpenSpec.upto bloomMoreSpec)

/-- 'bartizanlaw06.ReelFrames', WHERE WHAT IT READS IS OF BULK AT MOST 1048576: true; the input reads as it did. -/
def reelFramesUptoRow : OpenClaim := { program := "ythbmlkdijppkbaadoor", sum := "28cb32525b11e89bb181d99c4a14d709cd61cb48d4c5c6774caa5fc84e372ce0", func := "bartizan/bartizanlaw06.ReelFrames", spec := "reelFrames", named := ["bartizan/seal.quarter"], apart := false, laid := [("bartizan/seal.quarter", laid_bartizan_seal_quarter)], narrowed := true }
def ReelFramesUptoSaid : Prop := reelFramesUptoRow.holds Tryd.pinned (OpenSpec.upto reelFramesSpec)

/-- 'bartizanlaw06.ReelLong', WHERE WHAT IT READS IS OF BULK AT MOST 1048576: true; the input reads as it did. -/
def reelLongUptoRow : OpenClaim := { program := "ythbmlkdijppkbaadoor", sum := "28cb32525b11e89bb181d99c4a14d709cd61cb48d4c5c6774caa5fc84e372ce0", func := "bartizan/bartizanlaw06.ReelLong", spec := "reelLong", named := ["bartizan/seal.quarter"], apart := false, laid := [("bartizan/seal.quarter", laid_bartizan_seal_quarter)], narrowed := true }
def ReelLongUptoSaid : Prop := reelLongUptoRow.holds Tryd.pinned (OpenSpec.upto reelLongSpec)

/-- 'bartizanlaw06.ReelBlocks', WHERE WHAT IT READS IS OF BULK AT MOST 1048576: true; the input reads as it did. -/
def reelBlocksUptoRow : OpenClaim := { program := "ythbmlkdijppkbaadoor", sum := "28cb32525b11e89bb181d99c4a14d709cd61cb48d4c5c6774caa5fc84e372ce0", func := "bartizan/bartizanlaw06.ReelBlocks", spec := "reelBlocks", named := ["bartizan/seal.quarter"], apart := false, laid := [("bartizan/seal.quarter", laid_bartizan_seal_quarter)], narrowed := true }
def ReelBlocksUptoSaid : Prop := reelBlocksUptoRow.holds Tryd.pinned (OpenSpec.upto reelBlocksSpec)

/-- 'bartizanlaw06.ReelBack', WHERE WHAT IT READS IS OF BULK AT MOST 1048576: true; the input reads as it did. -/
def reelBackUptoRow : OpenClaim := { program := "ythbmlkdijppkbaadoor", sum := "28cb32525b11e89bb181d99c4a14d709cd61cb48d4c5c6774caa5fc84e372ce0", func := "bartizan/bartizanlaw06.ReelBack", spec := "reelBack", named := ["bartizan/seal.quarter", "unicode/utf8.first", "unicode/utf8.acceptRanges"], apart := false, laid := [("unicode/utf8.acceptRanges", laid_unicode_utf8_acceptRanges), ("bartizan/seal.quarter", laid_bartizan_seal_quarter), ("unicode/utf8.first", laid_unicode_utf8_first)], narrowed := true }
def ReelBackUptoSaid : Prop := reelBackUptoRow.holds Tryd.pinned (OpenSpec.upto reelBackSpec)

/-- 'bartizanlaw06.ReelCuts', WHERE WHAT IT READS IS OF BULK AT MOST 1048576: true; the input reads as it did. -/
def reelCutsUptoRow : OpenClaim := { program := "ythbmlkdijppkbaadoor", sum := "28cb32525b11e89bb181d99c4a14d709cd61cb48d4c5c6774caa5fc84e372ce0", func := "bartizan/bartizanlaw06.ReelCuts", spec := "reelCuts", named := ["bartizan/seal.quarter", "unicode/utf8.first", "unicode/utf8.acceptRanges"], apart := false, laid := [("unicode/utf8.acceptRanges", laid_unicode_utf8_acceptRanges), ("bartizan/seal.quarter", laid_bartizan_seal_quarter), ("unicode/utf8.first", laid_unicode_utf8_first)], narrowed := true }
def ReelCutsUptoSaid : Prop := reelCutsUptoRow.holds Tryd.pinned (OpenSpec.upto reelCutsSpec)

/-- 'bartizanlaw06.ReelSpoilt', WHERE WHAT IT READS IS OF BULK AT MOST 1048576: true; the input reads as it did. -/
def reelSpoiltUptoRow : OpenClaim := { program := "ythbmlkdijppkbaadoor", sum := "28cb32525b11e89bb181d99c4a14d709cd61cb48d4c5c6774caa5fc84e372ce0", func := "bartizan/bartizanlaw06.ReelSpoilt", spec := "reelSpoilt", named := ["bartizan/seal.quarter", "unicode/utf8.first", "unicode/utf8.acceptRanges"], apart := false, laid := [("unicode/utf8.acceptRanges", laid_unicode_utf8_acceptRanges), ("bartizan/seal.quarter", laid_bartizan_seal_quarter), ("unicode/utf8.first", laid_unicode_utf8_first)], narrowed := true }
def ReelSpoiltUptoSaid : Prop := reelSpoiltUptoRow.holds Tryd.pinned (OpenSpec.upto reelSpoiltSpec)

end Rows
end Go.Proofs.YthbmlkdijppkbaaDoor
