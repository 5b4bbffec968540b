/- Walks of the helpers on lists of Stain. No condition but that a list has at most 1048576 elements. -/
import Derived.Test.YtlpononcpocmoaaDoorNodes
import Derived.Test.YtlpononcpocmoaaDoorLists
import Derived.Test.YtlpononcpocmoaaDoorStain
set_option linter.unusedSimpArgs false
set_option linter.unusedVariables false
namespace Go.Proofs.YtlpononcpocmoaaDoor
open Go.RowKit
end Go.Proofs.YtlpononcpocmoaaDoor
