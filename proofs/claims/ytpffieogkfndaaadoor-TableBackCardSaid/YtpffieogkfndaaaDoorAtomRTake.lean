/-
  What the reference's Take computes: the number in front, and what stands behind. No condition but sizes.
-/
import Derived.Test.YtpffieogkfndaaaDoorAtomTake
import Derived.Test.YtpffieogkfndaaaDoorJBridge
namespace Go.Proofs.YtpffieogkfndaaaDoor
set_option maxRecDepth 20000
set_option linter.unusedVariables false
set_option linter.unusedSimpArgs false
open Go.RowKit

end Go.Proofs.YtpffieogkfndaaaDoor
