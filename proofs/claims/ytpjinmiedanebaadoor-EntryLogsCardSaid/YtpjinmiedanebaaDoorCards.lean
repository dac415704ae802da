/-
  DERIVED. GIVEN WITH THE SEED: THE CARDS: each row of YtpjinmiedanebaaDoorRows.lean that lists a variable, with what it lists TIED to the program's text (the seventh form; the later family's looks); each row that meets fmt, with fmt's text TOLD by the authors' own Lean function (tested against real Go, not proved from fmt's source: count such statements apart). THE CARD IS WHAT COUNTS. Prove the row's statement (the work); the ties are given (YtpjinmiedanebaaDoorTie.lean); close each card by the builder's one call (the guide's Derived/Test/ToyasCard.lean, 'card_holds'). Laid BY PROGRAM, IN A SANDBOX (cutbox-door.mjs). By AI agents, Wed Nov 11 2026. No macro, syntax, notation, axiom, sorry.
-/
import Derived.Test.YtpjinmiedanebaaDoorRows
import GoSem.ClaimSeven
namespace Go.Proofs.YtpjinmiedanebaaDoor
namespace Rows

/-- THE TIED CARD OF 'bartizanlaw07.EntryReplays'. -/
def entryReplaysCard : Claim7 := { stood := { row := entryReplaysRow, standIns := [], harness := (true, "d0d5c8ab8a22795456c183a2d75e0c6dcba66e130374b77881a1f2c5e9770cf0"), looks := false }, kinds := [], alts := [], laidByText := true, laidKinds := [.data, .data, .pinned], laidTests := true, laidLooks := .later }
def EntryReplaysCardSaid : Prop := Claim7.holds Tryd.pinned (.plain (OpenSpec.ofChange entryReplaysSpec)) entryReplaysCard

/-- THE TIED CARD OF 'bartizanlaw07.EntryTorn'. -/
def entryTornCard : Claim7 := { stood := { row := entryTornRow, standIns := [], harness := (true, "d0d5c8ab8a22795456c183a2d75e0c6dcba66e130374b77881a1f2c5e9770cf0"), looks := false }, kinds := [], alts := [], laidByText := true, laidKinds := [.data, .data, .pinned], laidTests := true, laidLooks := .later }
def EntryTornCardSaid : Prop := Claim7.holds Tryd.pinned (.plain (OpenSpec.ofChange entryTornSpec)) entryTornCard

/-- THE TIED CARD OF 'bartizanlaw07.EntryLogs'. -/
def entryLogsCard : Claim7 := { stood := { row := entryLogsRow, standIns := [], harness := (true, "d0d5c8ab8a22795456c183a2d75e0c6dcba66e130374b77881a1f2c5e9770cf0"), looks := false }, kinds := [], alts := [], laidByText := true, laidKinds := [.data, .data, .pinned], laidTests := true, laidLooks := .later }
def EntryLogsCardSaid : Prop := Claim7.holds Tryd.pinned (.plain (OpenSpec.ofChange entryLogsSpec)) entryLogsCard

/-- THE SECOND FORM's CARD OF 'bartizanlaw07.EntryReplays'. -/
def entryReplaysUptoCard : Claim7 := { stood := { row := entryReplaysUptoRow, standIns := [], harness := (true, "d0d5c8ab8a22795456c183a2d75e0c6dcba66e130374b77881a1f2c5e9770cf0"), looks := false }, kinds := [], alts := [], laidByText := true, laidKinds := [.data, .data, .pinned], laidTests := true, laidLooks := .later }
def EntryReplaysUptoCardSaid : Prop := Claim7.holds Tryd.pinned (.plain (OpenSpec.upto entryReplaysSpec)) entryReplaysUptoCard

/-- THE SECOND FORM's CARD OF 'bartizanlaw07.EntryTorn'. -/
def entryTornUptoCard : Claim7 := { stood := { row := entryTornUptoRow, standIns := [], harness := (true, "d0d5c8ab8a22795456c183a2d75e0c6dcba66e130374b77881a1f2c5e9770cf0"), looks := false }, kinds := [], alts := [], laidByText := true, laidKinds := [.data, .data, .pinned], laidTests := true, laidLooks := .later }
def EntryTornUptoCardSaid : Prop := Claim7.holds Tryd.pinned (.plain (OpenSpec.upto entryTornSpec)) entryTornUptoCard

/-- THE SECOND FORM's CARD OF 'bartizanlaw07.EntryLogs'. -/
def entryLogsUptoCard : Claim7 := { stood := { row := entryLogsUptoRow, standIns := [], harness := (true, "d0d5c8ab8a22795456c183a2d75e0c6dcba66e130374b77881a1f2c5e9770cf0"), looks := false }, kinds := [], alts := [], laidByText := true, laidKinds := [.data, .data, .pinned], laidTests := true, laidLooks := .later }
def EntryLogsUptoCardSaid : Prop := Claim7.holds Tryd.pinned (.plain (OpenSpec.upto entryLogsSpec)) entryLogsUptoCard
end Rows
end Go.Proofs.YtpjinmiedanebaaDoor
