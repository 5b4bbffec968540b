/- The walks of CanFill (both forms). No condition but that a list has at most 1048576 elements. -/
import Derived.Test.YtabgcpoaepafjaaShapeO
set_option linter.unusedSimpArgs false
set_option linter.unusedVariables false
namespace Go.Proofs.Ytabgcpoaepafjaa
open Go.RowKit

noncomputable def fillB (N E : List P2) (f : Int) (S : List P2) : Bool := isPaneB N E f && Shp.alikeB S (shapeV N E f)
end Go.Proofs.Ytabgcpoaepafjaa
