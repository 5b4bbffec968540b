/- Words for lists of stains. No condition. -/
import Derived.Test.YtabgcpoaepafjaaGreatMem
import Derived.Test.YtabgcpoaepafjaaGreatStain
set_option linter.unusedSimpArgs false
set_option linter.unusedVariables false
namespace Go.Proofs.YtabgcpoaepafjaaGreat
open Go.RowKit

def okS (s : P3) : Bool := stainOk s.1 s.2.1 s.2.2
theorem stain_info : (Tryz.prog.info? 50).map (fun i => (i.zero, i.size, i.bytes)) = some (some (.agg #[.int .i64 0, .int .i64 0, .int .i64 0]), 3, 24) := by kernel_rfl
end Go.Proofs.YtabgcpoaepafjaaGreat
