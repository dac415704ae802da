/-
  DERIVED. GIVEN WITH THE SEED: THE CARDS: each row of YthbmlkdijppkbaaDoorRows.lean that lists a variable, with what it lists TIED to the program's text (the seventh form; the later family's looks); each row that meets fmt, with fmt's text TOLD by the authors' own Lean function (tested against real Go, not proved from fmt's source: count such statements apart). THE CARD IS WHAT COUNTS. Prove the row's statement (the work); the ties are given (YthbmlkdijppkbaaDoorTie.lean); close each card by the builder's one call (the guide's Derived/Test/ToyasCard.lean, 'card_holds'). Laid BY PROGRAM, IN A SANDBOX (cutbox-door.mjs). By AI agents, Wed Nov 11 2026. No macro, syntax, notation, axiom, sorry.
-/
import Derived.Test.YthbmlkdijppkbaaDoorRows
import GoSem.ClaimSeven
namespace Go.Proofs.YthbmlkdijppkbaaDoor
namespace Rows

/-- THE TIED CARD OF 'bartizanlaw02.SealSums'. -/
def sealSumsCard : Claim7 := { stood := { row := sealSumsRow, standIns := [], harness := (true, "c9e5e9f0d897f657287a36b907bf1531cb1adb64d3afe27f61a3ad864fcdf4d3"), looks := false }, kinds := [], alts := [], laidByText := true, laidKinds := [.data], laidTests := true, laidLooks := .later }
def SealSumsCardSaid : Prop := Claim7.holds Tryd.pinned (.plain (OpenSpec.ofChange sealSumsSpec)) sealSumsCard

/-- THE TIED CARD OF 'bartizanlaw02.SealApart'. -/
def sealApartCard : Claim7 := { stood := { row := sealApartRow, standIns := [], harness := (true, "c9e5e9f0d897f657287a36b907bf1531cb1adb64d3afe27f61a3ad864fcdf4d3"), looks := false }, kinds := [], alts := [], laidByText := true, laidKinds := [.data], laidTests := true, laidLooks := .later }
def SealApartCardSaid : Prop := Claim7.holds Tryd.pinned (.plain (OpenSpec.ofChange sealApartSpec)) sealApartCard

/-- THE TIED CARD OF 'bartizanlaw02.SealMasks'. -/
def sealMasksCard : Claim7 := { stood := { row := sealMasksRow, standIns := [], harness := (true, "c9e5e9f0d897f657287a36b907bf1531cb1adb64d3afe27f61a3ad864fcdf4d3"), looks := false }, kinds := [], alts := [], laidByText := true, laidKinds := [.data], laidTests := true, laidLooks := .later }
def SealMasksCardSaid : Prop := Claim7.holds Tryd.pinned (.plain (OpenSpec.ofChange sealMasksSpec)) sealMasksCard

/-- THE TIED CARD OF 'bartizanlaw02.SealCloses'. -/
def sealClosesCard : Claim7 := { stood := { row := sealClosesRow, standIns := [], harness := (true, "c9e5e9f0d897f657287a36b907bf1531cb1adb64d3afe27f61a3ad864fcdf4d3"), looks := false }, kinds := [], alts := [], laidByText := true, laidKinds := [.data], laidTests := true, laidLooks := .later }
def SealClosesCardSaid : Prop := Claim7.holds Tryd.pinned (.plain (OpenSpec.ofChange sealClosesSpec)) sealClosesCard

/-- THE TIED CARD OF 'bartizanlaw02.SealOpens'. -/
def sealOpensCard : Claim7 := { stood := { row := sealOpensRow, standIns := [], harness := (true, "c9e5e9f0d897f657287a36b907bf1531cb1adb64d3afe27f61a3ad864fcdf4d3"), looks := false }, kinds := [], alts := [], laidByText := true, laidKinds := [.data], laidTests := true, laidLooks := .later }
def SealOpensCardSaid : Prop := Claim7.holds Tryd.pinned (.plain (OpenSpec.ofChange sealOpensSpec)) sealOpensCard

/-- THE TIED CARD OF 'bartizanlaw02.SealByte'. -/
def sealByteCard : Claim7 := { stood := { row := sealByteRow, standIns := [], harness := (true, "c9e5e9f0d897f657287a36b907bf1531cb1adb64d3afe27f61a3ad864fcdf4d3"), looks := false }, kinds := [], alts := [], laidByText := true, laidKinds := [.data], laidTests := true, laidLooks := .later }
def SealByteCardSaid : Prop := Claim7.holds Tryd.pinned (.plain (OpenSpec.ofChange sealByteSpec)) sealByteCard

/-- THE TIED CARD OF 'bartizanlaw02.SealShort'. -/
def sealShortCard : Claim7 := { stood := { row := sealShortRow, standIns := [], harness := (true, "c9e5e9f0d897f657287a36b907bf1531cb1adb64d3afe27f61a3ad864fcdf4d3"), looks := false }, kinds := [], alts := [], laidByText := true, laidKinds := [.data], laidTests := true, laidLooks := .later }
def SealShortCardSaid : Prop := Claim7.holds Tryd.pinned (.plain (OpenSpec.ofChange sealShortSpec)) sealShortCard

/-- THE TIED CARD OF 'bartizanlaw11.BloomBuilds'. -/
def bloomBuildsCard : Claim7 := { stood := { row := bloomBuildsRow, standIns := [], harness := (true, "c9e5e9f0d897f657287a36b907bf1531cb1adb64d3afe27f61a3ad864fcdf4d3"), looks := false }, kinds := [], alts := [], laidByText := true, laidKinds := [.data], laidTests := true, laidLooks := .later }
def BloomBuildsCardSaid : Prop := Claim7.holds Tryd.pinned (.plain (OpenSpec.ofChange bloomBuildsSpec)) bloomBuildsCard

/-- THE TIED CARD OF 'bartizanlaw11.BloomHas'. -/
def bloomHasCard : Claim7 := { stood := { row := bloomHasRow, standIns := [], harness := (true, "c9e5e9f0d897f657287a36b907bf1531cb1adb64d3afe27f61a3ad864fcdf4d3"), looks := false }, kinds := [], alts := [], laidByText := true, laidKinds := [.data], laidTests := true, laidLooks := .later }
def BloomHasCardSaid : Prop := Claim7.holds Tryd.pinned (.plain (OpenSpec.ofChange bloomHasSpec)) bloomHasCard

/-- THE TIED CARD OF 'bartizanlaw11.BloomAny'. -/
def bloomAnyCard : Claim7 := { stood := { row := bloomAnyRow, standIns := [], harness := (true, "c9e5e9f0d897f657287a36b907bf1531cb1adb64d3afe27f61a3ad864fcdf4d3"), looks := false }, kinds := [], alts := [], laidByText := true, laidKinds := [.data], laidTests := true, laidLooks := .later }
def BloomAnyCardSaid : Prop := Claim7.holds Tryd.pinned (.plain (OpenSpec.ofChange bloomAnySpec)) bloomAnyCard

/-- THE TIED CARD OF 'bartizanlaw11.BloomMore'. -/
def bloomMoreCard : Claim7 := { stood := { row := bloomMoreRow, standIns := [], harness := (true, "c9e5e9f0d897f657287a36b907bf1531cb1adb64d3afe27f61a3ad864fcdf4d3"), looks := false }, kinds := [], alts := [], laidByText := true, laidKinds := [.data], laidTests := true, laidLooks := .later }
def BloomMoreCardSaid : Prop := Claim7.holds Tryd.pinned (.plain (OpenSpec.ofChange bloomMoreSpec)) bloomMoreCard

/-- THE TIED CARD OF 'bartizanlaw06.ReelFrames'. -/
def reelFramesCard : Claim7 := { stood := { row := reelFramesRow, standIns := [], harness := (true, "c9e5e9f0d897f657287a36b907bf1531cb1adb64d3afe27f61a3ad864fcdf4d3"), looks := false }, kinds := [], alts := [], laidByText := true, laidKinds := [.data], laidTests := true, laidLooks := .later }
def ReelFramesCardSaid : Prop := Claim7.holds Tryd.pinned (.plain (OpenSpec.ofChange reelFramesSpec)) reelFramesCard

/-- THE TIED CARD OF 'bartizanlaw06.ReelLong'. -/
def reelLongCard : Claim7 := { stood := { row := reelLongRow, standIns := [], harness := (true, "c9e5e9f0d897f657287a36b907bf1531cb1adb64d3afe27f61a3ad864fcdf4d3"), looks := false }, kinds := [], alts := [], laidByText := true, laidKinds := [.data], laidTests := true, laidLooks := .later }
def ReelLongCardSaid : Prop := Claim7.holds Tryd.pinned (.plain (OpenSpec.ofChange reelLongSpec)) reelLongCard

/-- THE TIED CARD OF 'bartizanlaw06.ReelBlocks'. -/
def reelBlocksCard : Claim7 := { stood := { row := reelBlocksRow, standIns := [], harness := (true, "c9e5e9f0d897f657287a36b907bf1531cb1adb64d3afe27f61a3ad864fcdf4d3"), looks := false }, kinds := [], alts := [], laidByText := true, laidKinds := [.data], laidTests := true, laidLooks := .later }
def ReelBlocksCardSaid : Prop := Claim7.holds Tryd.pinned (.plain (OpenSpec.ofChange reelBlocksSpec)) reelBlocksCard

/-- THE TIED CARD OF 'bartizanlaw06.ReelBack'. -/
def reelBackCard : Claim7 := { stood := { row := reelBackRow, standIns := [], harness := (true, "c9e5e9f0d897f657287a36b907bf1531cb1adb64d3afe27f61a3ad864fcdf4d3"), looks := false }, kinds := [], alts := [], laidByText := true, laidKinds := [.data, .data, .pinned], laidTests := true, laidLooks := .later }
def ReelBackCardSaid : Prop := Claim7.holds Tryd.pinned (.plain (OpenSpec.ofChange reelBackSpec)) reelBackCard

/-- THE TIED CARD OF 'bartizanlaw06.ReelCuts'. -/
def reelCutsCard : Claim7 := { stood := { row := reelCutsRow, standIns := [], harness := (true, "c9e5e9f0d897f657287a36b907bf1531cb1adb64d3afe27f61a3ad864fcdf4d3"), looks := false }, kinds := [], alts := [], laidByText := true, laidKinds := [.data, .data, .pinned], laidTests := true, laidLooks := .later }
def ReelCutsCardSaid : Prop := Claim7.holds Tryd.pinned (.plain (OpenSpec.ofChange reelCutsSpec)) reelCutsCard

/-- THE TIED CARD OF 'bartizanlaw06.ReelSpoilt'. -/
def reelSpoiltCard : Claim7 := { stood := { row := reelSpoiltRow, standIns := [], harness := (true, "c9e5e9f0d897f657287a36b907bf1531cb1adb64d3afe27f61a3ad864fcdf4d3"), looks := false }, kinds := [], alts := [], laidByText := true, laidKinds := [.data, .data, .pinned], laidTests := true, laidLooks := .later }
def ReelSpoiltCardSaid : Prop := Claim7.holds Tryd.pinned (.plain (OpenSpec.ofChange reelSpoiltSpec)) reelSpoiltCard

/-- THE SECOND FORM's CARD OF 'bartizanlaw02.SealSums'. -/
def sealSumsUptoCard : Claim7 := { stood := { row := sealSumsUptoRow, standIns := [], harness := (true, "c9e5e9f0d897f657287a36b907bf1531cb1adb64d3afe27f61a3ad864fcdf4d3"), looks := false }, kinds := [], alts := [], laidByText := true, laidKinds := [.data], laidTests := true, laidLooks := .later }
def SealSumsUptoCardSaid : Prop := Claim7.holds Tryd.pinned (.plain (OpenSpec.upto sealSumsSpec)) sealSumsUptoCard

/-- THE SECOND FORM's CARD OF 'bartizanlaw02.SealApart'. -/
def sealApartUptoCard : Claim7 := { stood := { row := sealApartUptoRow, standIns := [], harness := (true, "c9e5e9f0d897f657287a36b907bf1531cb1adb64d3afe27f61a3ad864fcdf4d3"), looks := false }, kinds := [], alts := [], laidByText := true, laidKinds := [.data], laidTests := true, laidLooks := .later }
def SealApartUptoCardSaid : Prop := Claim7.holds Tryd.pinned (.plain (OpenSpec.upto sealApartSpec)) sealApartUptoCard

/-- THE SECOND FORM's CARD OF 'bartizanlaw02.SealMasks'. -/
def sealMasksUptoCard : Claim7 := { stood := { row := sealMasksUptoRow, standIns := [], harness := (true, "c9e5e9f0d897f657287a36b907bf1531cb1adb64d3afe27f61a3ad864fcdf4d3"), looks := false }, kinds := [], alts := [], laidByText := true, laidKinds := [.data], laidTests := true, laidLooks := .later }
def SealMasksUptoCardSaid : Prop := Claim7.holds Tryd.pinned (.plain (OpenSpec.upto sealMasksSpec)) sealMasksUptoCard

/-- THE SECOND FORM's CARD OF 'bartizanlaw02.SealCloses'. -/
def sealClosesUptoCard : Claim7 := { stood := { row := sealClosesUptoRow, standIns := [], harness := (true, "c9e5e9f0d897f657287a36b907bf1531cb1adb64d3afe27f61a3ad864fcdf4d3"), looks := false }, kinds := [], alts := [], laidByText := true, laidKinds := [.data], laidTests := true, laidLooks := .later }
def SealClosesUptoCardSaid : Prop := Claim7.holds Tryd.pinned (.plain (OpenSpec.upto sealClosesSpec)) sealClosesUptoCard

/-- THE SECOND FORM's CARD OF 'bartizanlaw02.SealOpens'. -/
def sealOpensUptoCard : Claim7 := { stood := { row := sealOpensUptoRow, standIns := [], harness := (true, "c9e5e9f0d897f657287a36b907bf1531cb1adb64d3afe27f61a3ad864fcdf4d3"), looks := false }, kinds := [], alts := [], laidByText := true, laidKinds := [.data], laidTests := true, laidLooks := .later }
def SealOpensUptoCardSaid : Prop := Claim7.holds Tryd.pinned (.plain (OpenSpec.upto sealOpensSpec)) sealOpensUptoCard

/-- THE SECOND FORM's CARD OF 'bartizanlaw02.SealByte'. -/
def sealByteUptoCard : Claim7 := { stood := { row := sealByteUptoRow, standIns := [], harness := (true, "c9e5e9f0d897f657287a36b907bf1531cb1adb64d3afe27f61a3ad864fcdf4d3"), looks := false }, kinds := [], alts := [], laidByText := true, laidKinds := [.data], laidTests := true, laidLooks := .later }
def SealByteUptoCardSaid : Prop := Claim7.holds Tryd.pinned (.plain (OpenSpec.upto sealByteSpec)) sealByteUptoCard

/-- THE SECOND FORM's CARD OF 'bartizanlaw02.SealShort'. -/
def sealShortUptoCard : Claim7 := { stood := { row := sealShortUptoRow, standIns := [], harness := (true, "c9e5e9f0d897f657287a36b907bf1531cb1adb64d3afe27f61a3ad864fcdf4d3"), looks := false }, kinds := [], alts := [], laidByText := true, laidKinds := [.data], laidTests := true, laidLooks := .later }
def SealShortUptoCardSaid : Prop := Claim7.holds Tryd.pinned (.plain (OpenSpec.upto sealShortSpec)) sealShortUptoCard

/-- THE SECOND FORM's CARD OF 'bartizanlaw11.BloomBuilds'. -/
def bloomBuildsUptoCard : Claim7 := { stood := { row := bloomBuildsUptoRow, standIns := [], harness := (true, "c9e5e9f0d897f657287a36b907bf1531cb1adb64d3afe27f61a3ad864fcdf4d3"), looks := false }, kinds := [], alts := [], laidByText := true, laidKinds := [.data], laidTests := true, laidLooks := .later }
def BloomBuildsUptoCardSaid : Prop := Claim7.holds Tryd.pinned (.plain (OpenSpec.upto bloomBuildsSpec)) bloomBuildsUptoCard

/-- THE SECOND FORM's CARD OF 'bartizanlaw11.BloomHas'. -/
def bloomHasUptoCard : Claim7 := { stood := { row := bloomHasUptoRow, standIns := [], harness := (true, "c9e5e9f0d897f657287a36b907bf1531cb1adb64d3afe27f61a3ad864fcdf4d3"), looks := false }, kinds := [], alts := [], laidByText := true, laidKinds := [.data], laidTests := true, laidLooks := .later }
def BloomHasUptoCardSaid : Prop := Claim7.holds Tryd.pinned (.plain (OpenSpec.upto bloomHasSpec)) bloomHasUptoCard

/-- THE SECOND FORM's CARD OF 'bartizanlaw11.BloomAny'. -/
def bloomAnyUptoCard : Claim7 := { stood := { row := bloomAnyUptoRow, standIns := [], harness := (true, "c9e5e9f0d897f657287a36b907bf1531cb1adb64d3afe27f61a3ad864fcdf4d3"), looks := false }, kinds := [], alts := [], laidByText := true, laidKinds := [.data], laidTests := true, laidLooks := .later }
def BloomAnyUptoCardSaid : Prop := Claim7.holds Tryd.pinned (.plain (OpenSpec.upto bloomAnySpec)) bloomAnyUptoCard

/-- THE SECOND FORM's CARD OF 'bartizanlaw11.BloomMore'. -/
def bloomMoreUptoCard : Claim7 := { stood := { row := bloomMoreUptoRow, standIns := [], harness := (true, "c9e5e9f0d897f657287a36b907bf1531cb1adb64d3afe27f61a3ad864fcdf4d3"), looks := false }, kinds := [], alts := [], laidByText := true, laidKinds := [.data], laidTests := true, laidLooks := .later }
def BloomMoreUptoCardSaid : Prop := Claim7.holds Tryd.pinned (.plain (OpenSpec.upto bloomMoreSpec)) bloomMoreUptoCard

/-- THE SECOND FORM's CARD OF 'bartizanlaw06.ReelFrames'. -/
def reelFramesUptoCard : Claim7 := { stood := { row := reelFramesUptoRow, standIns := [], harness := (true, "c9e5e9f0d897f657287a36b907bf1531cb1adb64d3afe27f61a3ad864fcdf4d3"), looks := false }, kinds := [], alts := [], laidByText := true, laidKinds := [.data], laidTests := true, laidLooks := .later }
def ReelFramesUptoCardSaid : Prop := Claim7.holds Tryd.pinned (.plain (OpenSpec.upto reelFramesSpec)) reelFramesUptoCard

/-- THE SECOND FORM's CARD OF 'bartizanlaw06.ReelLong'. -/
def reelLongUptoCard : Claim7 := { stood := { row := reelLongUptoRow, standIns := [], harness := (true, "c9e5e9f0d897f657287a36b907bf1531cb1adb64d3afe27f61a3ad864fcdf4d3"), looks := false }, kinds := [], alts := [], laidByText := true, laidKinds := [.data], laidTests := true, laidLooks := .later }
def ReelLongUptoCardSaid : Prop := Claim7.holds Tryd.pinned (.plain (OpenSpec.upto reelLongSpec)) reelLongUptoCard

/-- THE SECOND FORM's CARD OF 'bartizanlaw06.ReelBlocks'. -/
def reelBlocksUptoCard : Claim7 := { stood := { row := reelBlocksUptoRow, standIns := [], harness := (true, "c9e5e9f0d897f657287a36b907bf1531cb1adb64d3afe27f61a3ad864fcdf4d3"), looks := false }, kinds := [], alts := [], laidByText := true, laidKinds := [.data], laidTests := true, laidLooks := .later }
def ReelBlocksUptoCardSaid : Prop := Claim7.holds Tryd.pinned (.plain (OpenSpec.upto reelBlocksSpec)) reelBlocksUptoCard

/-- THE SECOND FORM's CARD OF 'bartizanlaw06.ReelBack'. -/
def reelBackUptoCard : Claim7 := { stood := { row := reelBackUptoRow, standIns := [], harness := (true, "c9e5e9f0d897f657287a36b907bf1531cb1adb64d3afe27f61a3ad864fcdf4d3"), looks := false }, kinds := [], alts := [], laidByText := true, laidKinds := [.data, .data, .pinned], laidTests := true, laidLooks := .later }
def ReelBackUptoCardSaid : Prop := Claim7.holds Tryd.pinned (.plain (OpenSpec.upto reelBackSpec)) reelBackUptoCard

/-- THE SECOND FORM's CARD OF 'bartizanlaw06.ReelCuts'. -/
def reelCutsUptoCard : Claim7 := { stood := { row := reelCutsUptoRow, standIns := [], harness := (true, "c9e5e9f0d897f657287a36b907bf1531cb1adb64d3afe27f61a3ad864fcdf4d3"), looks := false }, kinds := [], alts := [], laidByText := true, laidKinds := [.data, .data, .pinned], laidTests := true, laidLooks := .later }
def ReelCutsUptoCardSaid : Prop := Claim7.holds Tryd.pinned (.plain (OpenSpec.upto reelCutsSpec)) reelCutsUptoCard

/-- THE SECOND FORM's CARD OF 'bartizanlaw06.ReelSpoilt'. -/
def reelSpoiltUptoCard : Claim7 := { stood := { row := reelSpoiltUptoRow, standIns := [], harness := (true, "c9e5e9f0d897f657287a36b907bf1531cb1adb64d3afe27f61a3ad864fcdf4d3"), looks := false }, kinds := [], alts := [], laidByText := true, laidKinds := [.data, .data, .pinned], laidTests := true, laidLooks := .later }
def ReelSpoiltUptoCardSaid : Prop := Claim7.holds Tryd.pinned (.plain (OpenSpec.upto reelSpoiltSpec)) reelSpoiltUptoCard
end Rows
end Go.Proofs.YthbmlkdijppkbaaDoor
