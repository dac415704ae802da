/-
  What the reference's Build makes. No condition.
-/
import Derived.Test.YtpffieogkfndaaaDoorJBloomRef
import Derived.Test.YtpffieogkfndaaaDoorJAtomWalk
namespace Go.Proofs.YtpffieogkfndaaaDoor
set_option maxRecDepth 20000
set_option linter.unusedVariables false
set_option linter.unusedSimpArgs false
open Go.RowKit

def bv (s : List Bool) : List Value := s.map Value.bool
end Go.Proofs.YtpffieogkfndaaaDoor
