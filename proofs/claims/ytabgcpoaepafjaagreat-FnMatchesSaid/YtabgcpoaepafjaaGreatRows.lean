/-
  No cell of these rows narrows 'for every input' (looked for: loops, veiled, ifaces, maps, wideKeys, modest, calm, conditions, laid).
  DERIVED. THE GIVEN ROWS OF THIS SEAT. 4 by the template 'for every input the law returns true; each argument reads behind the call as it read before'; 0 by the template 'total and deterministic' (their statements: YtabgcpoaepafjaaGreatTotals.lean).
  GIVEN WITH THE SEED: the statements are not yours to turn. If you find one false, say at which input.
  Laid BY PROGRAM, IN A SANDBOX (cutbox-rows.mjs): the forced cells as the released guide's own fill.sh prints them over the translation 775dd2adbd3b6c10… (all of the seat's roots in one cut). By AI agents, Wed Nov 11 2026. No macro, syntax, notation, axiom, sorry.
-/
import Derived.Test.YtabgcpoaepafjaaGreatChecked
import GoSem.Claim
import GoSem.ClaimJoined
import GoSem.ClaimMapViews
import Derived.JoinedTies
import Derived.KernelRfl
namespace Go.Proofs.YtabgcpoaepafjaaGreat
/- THE CELL 'sum', in the pinned program and in every row, IS THE sha256 OF THE DUMP (.gsa) THAT YtabgcpoaepafjaaGreatProg.lean LOADS. Nothing in Lean hashes anything: it is a label: what it is worth is what the hold of that sum in a sandbox is worth. -/
noncomputable def Tryz.pinned : Pinned := { name := "ytabgcpoaepafjaagreat", sum := "775dd2adbd3b6c10ffb45d281352e5edfb9cb230724f7977ef047aa182aa60f7", checked := Tryz.checked }
namespace Rows
def none {H : Type} : Left H := { results := [], args := [] }

/-- 'laws.FnMatches': WHATEVER THE INPUT: true; the input reads as it did. -/
def fnMatchesSpec : ChangeSpec := { name := "fnMatches", fn := fun _ => fun
  | [d] => { results := [.lit (.bool true)], args := [d] }
  | _ => none }
def fnMatchesRow : OpenClaim := { program := "ytabgcpoaepafjaagreat", sum := "775dd2adbd3b6c10ffb45d281352e5edfb9cb230724f7977ef047aa182aa60f7", func := "loop.example/g03303/laws.FnMatches", spec := "fnMatches", unfollowed := true, recurses := true, apart := false }
def FnMatchesSaid : Prop := fnMatchesRow.holds Tryz.pinned (OpenSpec.ofChange fnMatchesSpec)

/-- ITS FALSE NEIGHBOUR: 'it returns false'. Refute it at one input. -/
def fnMatchesWrong : ChangeSpec := { name := "fnMatches", fn := fun _ => fun
  | [d] => { results := [.lit (.bool false)], args := [d] }
  | _ => none }
def FnMatchesWrongFalsely : Prop := fnMatchesRow.holds Tryz.pinned (OpenSpec.ofChange fnMatchesWrong)

/-- 'laws.FnLight': WHATEVER THE INPUT: true; the input reads as it did. -/
def fnLightSpec : ChangeSpec := { name := "fnLight", fn := fun _ => fun
  | [d] => { results := [.lit (.bool true)], args := [d] }
  | _ => none }
def fnLightRow : OpenClaim := { program := "ytabgcpoaepafjaagreat", sum := "775dd2adbd3b6c10ffb45d281352e5edfb9cb230724f7977ef047aa182aa60f7", func := "loop.example/g03303/laws.FnLight", spec := "fnLight", unfollowed := true, recurses := true, apart := false }
def FnLightSaid : Prop := fnLightRow.holds Tryz.pinned (OpenSpec.ofChange fnLightSpec)

/-- ITS FALSE NEIGHBOUR: 'it returns false'. Refute it at one input. -/
def fnLightWrong : ChangeSpec := { name := "fnLight", fn := fun _ => fun
  | [d] => { results := [.lit (.bool false)], args := [d] }
  | _ => none }
def FnLightWrongFalsely : Prop := fnLightRow.holds Tryz.pinned (OpenSpec.ofChange fnLightWrong)

/-- 'laws.FnExactLackingShapes': WHATEVER THE INPUT: true; the input reads as it did. -/
def fnExactLackingShapesSpec : ChangeSpec := { name := "fnExactLackingShapes", fn := fun _ => fun
  | [d1, d2] => { results := [.lit (.bool true)], args := [d1, d2] }
  | _ => none }
def fnExactLackingShapesRow : OpenClaim := { program := "ytabgcpoaepafjaagreat", sum := "775dd2adbd3b6c10ffb45d281352e5edfb9cb230724f7977ef047aa182aa60f7", func := "loop.example/g03303/laws.FnExactLackingShapes", spec := "fnExactLackingShapes", unfollowed := true, recurses := true, apart := false }
def FnExactLackingShapesSaid : Prop := fnExactLackingShapesRow.holds Tryz.pinned (OpenSpec.ofChange fnExactLackingShapesSpec)

/-- ITS FALSE NEIGHBOUR: 'it returns false'. Refute it at one input. -/
def fnExactLackingShapesWrong : ChangeSpec := { name := "fnExactLackingShapes", fn := fun _ => fun
  | [d1, d2] => { results := [.lit (.bool false)], args := [d1, d2] }
  | _ => none }
def FnExactLackingShapesWrongFalsely : Prop := fnExactLackingShapesRow.holds Tryz.pinned (OpenSpec.ofChange fnExactLackingShapesWrong)

/-- 'laws.FnExactMatchPanes': WHATEVER THE INPUT: true; the input reads as it did. -/
def fnExactMatchPanesSpec : ChangeSpec := { name := "fnExactMatchPanes", fn := fun _ => fun
  | [d1, d2] => { results := [.lit (.bool true)], args := [d1, d2] }
  | _ => none }
def fnExactMatchPanesRow : OpenClaim := { program := "ytabgcpoaepafjaagreat", sum := "775dd2adbd3b6c10ffb45d281352e5edfb9cb230724f7977ef047aa182aa60f7", func := "loop.example/g03303/laws.FnExactMatchPanes", spec := "fnExactMatchPanes", unfollowed := true, recurses := true, apart := false }
def FnExactMatchPanesSaid : Prop := fnExactMatchPanesRow.holds Tryz.pinned (OpenSpec.ofChange fnExactMatchPanesSpec)

/-- ITS FALSE NEIGHBOUR: 'it returns false'. Refute it at one input. -/
def fnExactMatchPanesWrong : ChangeSpec := { name := "fnExactMatchPanes", fn := fun _ => fun
  | [d1, d2] => { results := [.lit (.bool false)], args := [d1, d2] }
  | _ => none }
def FnExactMatchPanesWrongFalsely : Prop := fnExactMatchPanesRow.holds Tryz.pinned (OpenSpec.ofChange fnExactMatchPanesWrong)

/- THE SECOND FORM. 'bulk': how many values and letters a reading holds, each counted each time it is reached (what is shared counts as often as it is met; a slice's spare places count too). A statement '..UptoSaid' is the law's where the arguments, and the package variables that the reading takes, are together of bulk at most 1048576: NARROWER than '..Said'. Prove '..Said' where nothing that the law and all that it calls make is longer than what came in: it says more and counts as full. Else prove '..UptoSaid'. A law counts once. -/
mutual
def uptoBulk {H : Type} : DataW H → Nat
  | .lit (.string bytes) => bytes.length + 1
  | .lit _ => 1
  | .nil => 1
  | .ptr d => uptoBulk d + 1
  | .slice elems spare => uptoBulkAll elems + uptoBulkAll spare + 1
  | .agg parts => uptoBulkAll parts + 1
  | .iface _ d => uptoBulk d + 1
  | .map entries => uptoBulkEntries entries + 1
  | .held _ => 1
def uptoBulkAll {H : Type} : List (DataW H) → Nat
  | [] => 0
  | d :: r => uptoBulk d + uptoBulkAll r
def uptoBulkEntries {H : Type} : List (Lit × DataW H) → Nat
  | [] => 0
  | x :: r => uptoBulkEntry x + uptoBulkEntries r
def uptoBulkEntry {H : Type} : Lit × DataW H → Nat
  | (.string bytes, d) => bytes.length + uptoBulk d + 1
  | (_, d) => uptoBulk d + 1
 end
def uptoSmall : (H : Type) → List (DataW H) → Bool := fun _ ds => decide (uptoBulkAll ds ≤ 1048576)
def OpenSpec.upto (s : _root_.Go.ChangeSpec) : _root_.Go.OpenSpec := { _root_.Go.OpenSpec.ofChange s with cond := some uptoSmall }

/-- 'laws.FnMatches', WHERE WHAT IT READS IS OF BULK AT MOST 1048576: true; the input reads as it did. -/
def fnMatchesUptoRow : OpenClaim := { program := "ytabgcpoaepafjaagreat", sum := "775dd2adbd3b6c10ffb45d281352e5edfb9cb230724f7977ef047aa182aa60f7", func := "loop.example/g03303/laws.FnMatches", spec := "fnMatches", unfollowed := true, recurses := true, apart := false, narrowed := true }
def FnMatchesUptoSaid : Prop := fnMatchesUptoRow.holds Tryz.pinned (OpenSpec.upto fnMatchesSpec)

/-- 'laws.FnLight', WHERE WHAT IT READS IS OF BULK AT MOST 1048576: true; the input reads as it did. -/
def fnLightUptoRow : OpenClaim := { program := "ytabgcpoaepafjaagreat", sum := "775dd2adbd3b6c10ffb45d281352e5edfb9cb230724f7977ef047aa182aa60f7", func := "loop.example/g03303/laws.FnLight", spec := "fnLight", unfollowed := true, recurses := true, apart := false, narrowed := true }
def FnLightUptoSaid : Prop := fnLightUptoRow.holds Tryz.pinned (OpenSpec.upto fnLightSpec)

/-- 'laws.FnExactLackingShapes', WHERE WHAT IT READS IS OF BULK AT MOST 1048576: true; the input reads as it did. -/
def fnExactLackingShapesUptoRow : OpenClaim := { program := "ytabgcpoaepafjaagreat", sum := "775dd2adbd3b6c10ffb45d281352e5edfb9cb230724f7977ef047aa182aa60f7", func := "loop.example/g03303/laws.FnExactLackingShapes", spec := "fnExactLackingShapes", unfollowed := true, recurses := true, apart := false, narrowed := true }
def FnExactLackingShapesUptoSaid : Prop := fnExactLackingShapesUptoRow.holds Tryz.pinned (OpenSpec.upto fnExactLackingShapesSpec)

/-- 'laws.FnExactMatchPanes', WHERE WHAT IT READS IS OF BULK AT MOST 1048576: true; the input reads as it did. -/
def fnExactMatchPanesUptoRow : OpenClaim := { program := "ytabgcpoaepafjaagreat", sum := "775dd2adbd3b6c10ffb45d281352e5edfb9cb230724f7977ef047aa182aa60f7", func := "loop.example/g03303/laws.FnExactMatchPanes", spec := "fnExactMatchPanes", unfollowed := true, recurses := true, apart := false, narrowed := true }
def FnExactMatchPanesUptoSaid : Prop := fnExactMatchPanesUptoRow.holds Tryz.pinned (OpenSpec.upto fnExactMatchPanesSpec)

end Rows
end Go.Proofs.YtabgcpoaepafjaaGreat
