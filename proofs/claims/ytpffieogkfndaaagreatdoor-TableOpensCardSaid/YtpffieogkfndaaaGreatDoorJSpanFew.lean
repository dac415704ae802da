/-
  StepX, RowsStep, BatchFew, SpanFew in one text. No condition but sizes.
-/
import Derived.Test.YtpffieogkfndaaaGreatDoorJRowsX
import Derived.Test.YtpffieogkfndaaaGreatDoorJRecs
import Derived.Test.YtpffieogkfndaaaGreatDoorJKeyAfterW
import Derived.Test.YtpffieogkfndaaaGreatDoorJAtomWalk
import Derived.Deep.CutRange
import Derived.Test.YtpffieogkfndaaaGreatDoorJSpans
namespace Go.Proofs.YtpffieogkfndaaaGreatDoor
open Go.RowKit
set_option maxRecDepth 20000
set_option linter.unusedVariables false
set_option linter.unusedSimpArgs false
end Go.Proofs.YtpffieogkfndaaaGreatDoor

namespace Go.Proofs.YtpffieogkfndaaaGreatDoor
open Go.RowKit
set_option maxRecDepth 20000
set_option linter.unusedVariables false
set_option linter.unusedSimpArgs false
end Go.Proofs.YtpffieogkfndaaaGreatDoor

namespace Go.Proofs.YtpffieogkfndaaaGreatDoor
open Go.RowKit
set_option maxRecDepth 20000
set_option linter.unusedVariables false
set_option linter.unusedSimpArgs false
end Go.Proofs.YtpffieogkfndaaaGreatDoor

namespace Go.Proofs.YtpffieogkfndaaaGreatDoor
open Go.RowKit
set_option maxRecDepth 20000
set_option linter.unusedVariables false
set_option linter.unusedSimpArgs false
end Go.Proofs.YtpffieogkfndaaaGreatDoor
