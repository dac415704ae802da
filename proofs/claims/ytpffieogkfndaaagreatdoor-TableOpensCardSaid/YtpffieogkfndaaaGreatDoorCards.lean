/-
  DERIVED. GIVEN WITH THE SEED: THE CARDS: each row of YtpffieogkfndaaaGreatDoorRows.lean that lists a variable, with what it lists TIED to the program's text (the seventh form; the later family's looks); each row that meets fmt, with fmt's text TOLD by the authors' own Lean function (tested against real Go, not proved from fmt's source: count such statements apart). THE CARD IS WHAT COUNTS. Prove the row's statement (the work); the ties are given (YtpffieogkfndaaaGreatDoorTie.lean); close each card by the builder's one call (the guide's Derived/Test/ToyasCard.lean, 'card_holds'). Laid BY PROGRAM, IN A SANDBOX (cutbox-door.mjs). By AI agents, Wed Nov 11 2026. No macro, syntax, notation, axiom, sorry.
-/
import Derived.Test.YtpffieogkfndaaaGreatDoorRows
import GoSem.ClaimSeven
namespace Go.Proofs.YtpffieogkfndaaaGreatDoor
namespace Rows

/-- THE TIED CARD OF 'bartizanlaw13.TableBuilds'. -/
def tableBuildsCard : Claim7 := { stood := { row := tableBuildsRow, standIns := [], harness := (true, "cef06b38b4356baa4ceb6f87f6fa7035ef9b49bab90416176486e2c0fb622be1"), looks := false }, kinds := [], alts := [], laidByText := true, laidKinds := [.data], laidTests := true, laidLooks := .later }
def TableBuildsCardSaid : Prop := Claim7.holds Tryz.pinned (.plain (OpenSpec.ofChange tableBuildsSpec)) tableBuildsCard

/-- THE TIED CARD OF 'bartizanlaw13.TableBounds'. -/
def tableBoundsCard : Claim7 := { stood := { row := tableBoundsRow, standIns := [], harness := (true, "cef06b38b4356baa4ceb6f87f6fa7035ef9b49bab90416176486e2c0fb622be1"), looks := false }, kinds := [], alts := [], laidByText := true, laidKinds := [.data], laidTests := true, laidLooks := .later }
def TableBoundsCardSaid : Prop := Claim7.holds Tryz.pinned (.plain (OpenSpec.ofChange tableBoundsSpec)) tableBoundsCard

/-- THE TIED CARD OF 'bartizanlaw13.TableByte'. -/
def tableByteCard : Claim7 := { stood := { row := tableByteRow, standIns := [], harness := (true, "cef06b38b4356baa4ceb6f87f6fa7035ef9b49bab90416176486e2c0fb622be1"), looks := false }, kinds := [], alts := [], laidByText := true, laidKinds := [.data], laidTests := true, laidLooks := .later }
def TableByteCardSaid : Prop := Claim7.holds Tryz.pinned (.plain (OpenSpec.ofChange tableByteSpec)) tableByteCard

/-- THE TIED CARD OF 'bartizanlaw13.TableOpens'. -/
def tableOpensCard : Claim7 := { stood := { row := tableOpensRow, standIns := [], harness := (true, "cef06b38b4356baa4ceb6f87f6fa7035ef9b49bab90416176486e2c0fb622be1"), looks := false }, kinds := [], alts := [], laidByText := true, laidKinds := [.data], laidTests := true, laidLooks := .later }
def TableOpensCardSaid : Prop := Claim7.holds Tryz.pinned (.plain (OpenSpec.ofChange tableOpensSpec)) tableOpensCard

/-- THE SECOND FORM's CARD OF 'bartizanlaw13.TableBuilds'. -/
def tableBuildsUptoCard : Claim7 := { stood := { row := tableBuildsUptoRow, standIns := [], harness := (true, "cef06b38b4356baa4ceb6f87f6fa7035ef9b49bab90416176486e2c0fb622be1"), looks := false }, kinds := [], alts := [], laidByText := true, laidKinds := [.data], laidTests := true, laidLooks := .later }
def TableBuildsUptoCardSaid : Prop := Claim7.holds Tryz.pinned (.plain (OpenSpec.upto tableBuildsSpec)) tableBuildsUptoCard

/-- THE SECOND FORM's CARD OF 'bartizanlaw13.TableBounds'. -/
def tableBoundsUptoCard : Claim7 := { stood := { row := tableBoundsUptoRow, standIns := [], harness := (true, "cef06b38b4356baa4ceb6f87f6fa7035ef9b49bab90416176486e2c0fb622be1"), looks := false }, kinds := [], alts := [], laidByText := true, laidKinds := [.data], laidTests := true, laidLooks := .later }
def TableBoundsUptoCardSaid : Prop := Claim7.holds Tryz.pinned (.plain (OpenSpec.upto tableBoundsSpec)) tableBoundsUptoCard

/-- THE SECOND FORM's CARD OF 'bartizanlaw13.TableByte'. -/
def tableByteUptoCard : Claim7 := { stood := { row := tableByteUptoRow, standIns := [], harness := (true, "cef06b38b4356baa4ceb6f87f6fa7035ef9b49bab90416176486e2c0fb622be1"), looks := false }, kinds := [], alts := [], laidByText := true, laidKinds := [.data], laidTests := true, laidLooks := .later }
def TableByteUptoCardSaid : Prop := Claim7.holds Tryz.pinned (.plain (OpenSpec.upto tableByteSpec)) tableByteUptoCard

/-- THE SECOND FORM's CARD OF 'bartizanlaw13.TableOpens'. -/
def tableOpensUptoCard : Claim7 := { stood := { row := tableOpensUptoRow, standIns := [], harness := (true, "cef06b38b4356baa4ceb6f87f6fa7035ef9b49bab90416176486e2c0fb622be1"), looks := false }, kinds := [], alts := [], laidByText := true, laidKinds := [.data], laidTests := true, laidLooks := .later }
def TableOpensUptoCardSaid : Prop := Claim7.holds Tryz.pinned (.plain (OpenSpec.upto tableOpensSpec)) tableOpensUptoCard
end Rows
end Go.Proofs.YtpffieogkfndaaaGreatDoor
