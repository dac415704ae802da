/-
  What the reference's Take computes: the number in front, and what stands behind. No condition but sizes.
-/
import Derived.Test.YtpffieogkfndaaaGreatDoorAtomTake
import Derived.Test.YtpffieogkfndaaaGreatDoorJZeros
namespace Go.Proofs.YtpffieogkfndaaaGreatDoor
set_option maxRecDepth 20000
set_option linter.unusedVariables false
set_option linter.unusedSimpArgs false
open Go.RowKit

end Go.Proofs.YtpffieogkfndaaaGreatDoor
