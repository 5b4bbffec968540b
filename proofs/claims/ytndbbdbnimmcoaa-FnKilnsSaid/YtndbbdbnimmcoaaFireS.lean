/- Walks of the helpers on lists of Firing. No condition but that a list has at most 1048576 elements. -/
import Derived.Test.YtndbbdbnimmcoaaNodes
import Derived.Test.YtndbbdbnimmcoaaLists
import Derived.Test.YtndbbdbnimmcoaaSun
set_option linter.unusedSimpArgs false
set_option linter.unusedVariables false
namespace Go.Proofs.Ytndbbdbnimmcoaa
open Go.RowKit
theorem firing_info : (Try.prog.info? 30).map (fun i => (i.zero, i.size, i.bytes)) = some (some (.agg #[.int .i64 0, .int .i64 0, .int .i64 0]), 3, 24) := by kernel_rfl
end Go.Proofs.Ytndbbdbnimmcoaa
