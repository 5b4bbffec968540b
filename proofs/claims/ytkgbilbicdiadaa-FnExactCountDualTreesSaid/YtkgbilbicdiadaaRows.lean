/-
  No cell of these rows narrows 'for every input' (looked for: loops, veiled, ifaces, maps, wideKeys, modest, calm, conditions, laid).
  DERIVED. THE GIVEN ROWS OF THIS SEAT. 14 by the template 'for every input the law returns true; each argument reads behind the call as it read before'; 0 by the template 'total and deterministic' (their statements: YtkgbilbicdiadaaTotals.lean).
  GIVEN WITH THE SEED: the statements are not yours to turn. If you find one false, say at which input.
  Laid BY PROGRAM, IN A SANDBOX (cutbox-rows.mjs): the forced cells as the released guide's own fill.sh prints them over the translation 5b49066a16eeb9bc… (all of the seat's roots in one cut). By AI agents, Wed Nov 11 2026. No macro, syntax, notation, axiom, sorry.
-/
import Derived.Test.YtkgbilbicdiadaaChecked
import GoSem.Claim
import GoSem.ClaimJoined
import GoSem.ClaimMapViews
import Derived.JoinedTies
import Derived.KernelRfl
namespace Go.Proofs.Ytkgbilbicdiadaa
/- THE CELL 'sum', in the pinned program and in every row, IS THE sha256 OF THE DUMP (.gsa) THAT YtkgbilbicdiadaaProg.lean LOADS. Nothing in Lean hashes anything: it is a label: what it is worth is what the hold of that sum in a sandbox is worth. -/
noncomputable def Try.pinned : Pinned := { name := "ytkgbilbicdiadaa", sum := "5b49066a16eeb9bc65a97410776c26fd68f98f8d71154aa6103f77af414ba8a5", checked := Try.checked }
namespace Rows
def none {H : Type} : Left H := { results := [], args := [] }

/-- 'laws.FnTrees': WHATEVER THE INPUT: true; the input reads as it did. -/
def fnTreesSpec : ChangeSpec := { name := "fnTrees", fn := fun _ => fun
  | [d] => { results := [.lit (.bool true)], args := [d] }
  | _ => none }
def fnTreesRow : OpenClaim := { program := "ytkgbilbicdiadaa", sum := "5b49066a16eeb9bc65a97410776c26fd68f98f8d71154aa6103f77af414ba8a5", func := "loop.example/g03303/laws.FnTrees", spec := "fnTrees", unfollowed := true, recurses := true, apart := false }
def FnTreesSaid : Prop := fnTreesRow.holds Try.pinned (OpenSpec.ofChange fnTreesSpec)

/-- ITS FALSE NEIGHBOUR: 'it returns false'. Refute it at one input. -/
def fnTreesWrong : ChangeSpec := { name := "fnTrees", fn := fun _ => fun
  | [d] => { results := [.lit (.bool false)], args := [d] }
  | _ => none }
def FnTreesWrongFalsely : Prop := fnTreesRow.holds Try.pinned (OpenSpec.ofChange fnTreesWrong)

/-- 'laws.FnExactAreJoined': WHATEVER THE INPUT: true; the input reads as it did. -/
def fnExactAreJoinedSpec : ChangeSpec := { name := "fnExactAreJoined", fn := fun _ => fun
  | [d1, d2] => { results := [.lit (.bool true)], args := [d1, d2] }
  | _ => none }
def fnExactAreJoinedRow : OpenClaim := { program := "ytkgbilbicdiadaa", sum := "5b49066a16eeb9bc65a97410776c26fd68f98f8d71154aa6103f77af414ba8a5", func := "loop.example/g03303/laws.FnExactAreJoined", spec := "fnExactAreJoined", unfollowed := true, recurses := true, apart := false }
def FnExactAreJoinedSaid : Prop := fnExactAreJoinedRow.holds Try.pinned (OpenSpec.ofChange fnExactAreJoinedSpec)

/-- ITS FALSE NEIGHBOUR: 'it returns false'. Refute it at one input. -/
def fnExactAreJoinedWrong : ChangeSpec := { name := "fnExactAreJoined", fn := fun _ => fun
  | [d1, d2] => { results := [.lit (.bool false)], args := [d1, d2] }
  | _ => none }
def FnExactAreJoinedWrongFalsely : Prop := fnExactAreJoinedRow.holds Try.pinned (OpenSpec.ofChange fnExactAreJoinedWrong)

/-- 'laws.FnExactCountAssemblies': WHATEVER THE INPUT: true; the input reads as it did. -/
def fnExactCountAssembliesSpec : ChangeSpec := { name := "fnExactCountAssemblies", fn := fun _ => fun
  | [d] => { results := [.lit (.bool true)], args := [d] }
  | _ => none }
def fnExactCountAssembliesRow : OpenClaim := { program := "ytkgbilbicdiadaa", sum := "5b49066a16eeb9bc65a97410776c26fd68f98f8d71154aa6103f77af414ba8a5", func := "loop.example/g03303/laws.FnExactCountAssemblies", spec := "fnExactCountAssemblies", unfollowed := true, recurses := true, apart := false }
def FnExactCountAssembliesSaid : Prop := fnExactCountAssembliesRow.holds Try.pinned (OpenSpec.ofChange fnExactCountAssembliesSpec)

/-- ITS FALSE NEIGHBOUR: 'it returns false'. Refute it at one input. -/
def fnExactCountAssembliesWrong : ChangeSpec := { name := "fnExactCountAssemblies", fn := fun _ => fun
  | [d] => { results := [.lit (.bool false)], args := [d] }
  | _ => none }
def FnExactCountAssembliesWrongFalsely : Prop := fnExactCountAssembliesRow.holds Try.pinned (OpenSpec.ofChange fnExactCountAssembliesWrong)

/-- 'laws.FnExactCountDualTrees': WHATEVER THE INPUT: true; the input reads as it did. -/
def fnExactCountDualTreesSpec : ChangeSpec := { name := "fnExactCountDualTrees", fn := fun _ => fun
  | [d] => { results := [.lit (.bool true)], args := [d] }
  | _ => none }
def fnExactCountDualTreesRow : OpenClaim := { program := "ytkgbilbicdiadaa", sum := "5b49066a16eeb9bc65a97410776c26fd68f98f8d71154aa6103f77af414ba8a5", func := "loop.example/g03303/laws.FnExactCountDualTrees", spec := "fnExactCountDualTrees", unfollowed := true, recurses := true, apart := false }
def FnExactCountDualTreesSaid : Prop := fnExactCountDualTreesRow.holds Try.pinned (OpenSpec.ofChange fnExactCountDualTreesSpec)

/-- ITS FALSE NEIGHBOUR: 'it returns false'. Refute it at one input. -/
def fnExactCountDualTreesWrong : ChangeSpec := { name := "fnExactCountDualTrees", fn := fun _ => fun
  | [d] => { results := [.lit (.bool false)], args := [d] }
  | _ => none }
def FnExactCountDualTreesWrongFalsely : Prop := fnExactCountDualTreesRow.holds Try.pinned (OpenSpec.ofChange fnExactCountDualTreesWrong)

/-- 'laws.FnExactIsAssembly': WHATEVER THE INPUT: true; the input reads as it did. -/
def fnExactIsAssemblySpec : ChangeSpec := { name := "fnExactIsAssembly", fn := fun _ => fun
  | [d1, d2] => { results := [.lit (.bool true)], args := [d1, d2] }
  | _ => none }
def fnExactIsAssemblyRow : OpenClaim := { program := "ytkgbilbicdiadaa", sum := "5b49066a16eeb9bc65a97410776c26fd68f98f8d71154aa6103f77af414ba8a5", func := "loop.example/g03303/laws.FnExactIsAssembly", spec := "fnExactIsAssembly", unfollowed := true, recurses := true, apart := false }
def FnExactIsAssemblySaid : Prop := fnExactIsAssemblyRow.holds Try.pinned (OpenSpec.ofChange fnExactIsAssemblySpec)

/-- ITS FALSE NEIGHBOUR: 'it returns false'. Refute it at one input. -/
def fnExactIsAssemblyWrong : ChangeSpec := { name := "fnExactIsAssembly", fn := fun _ => fun
  | [d1, d2] => { results := [.lit (.bool false)], args := [d1, d2] }
  | _ => none }
def FnExactIsAssemblyWrongFalsely : Prop := fnExactIsAssemblyRow.holds Try.pinned (OpenSpec.ofChange fnExactIsAssemblyWrong)

/-- 'laws.FnExactBrightestFace': WHATEVER THE INPUT: true; the input reads as it did. -/
def fnExactBrightestFaceSpec : ChangeSpec := { name := "fnExactBrightestFace", fn := fun _ => fun
  | [d1, d2] => { results := [.lit (.bool true)], args := [d1, d2] }
  | _ => none }
def fnExactBrightestFaceRow : OpenClaim := { program := "ytkgbilbicdiadaa", sum := "5b49066a16eeb9bc65a97410776c26fd68f98f8d71154aa6103f77af414ba8a5", func := "loop.example/g03303/laws.FnExactBrightestFace", spec := "fnExactBrightestFace", unfollowed := true, recurses := true, apart := false }
def FnExactBrightestFaceSaid : Prop := fnExactBrightestFaceRow.holds Try.pinned (OpenSpec.ofChange fnExactBrightestFaceSpec)

/-- ITS FALSE NEIGHBOUR: 'it returns false'. Refute it at one input. -/
def fnExactBrightestFaceWrong : ChangeSpec := { name := "fnExactBrightestFace", fn := fun _ => fun
  | [d1, d2] => { results := [.lit (.bool false)], args := [d1, d2] }
  | _ => none }
def FnExactBrightestFaceWrongFalsely : Prop := fnExactBrightestFaceRow.holds Try.pinned (OpenSpec.ofChange fnExactBrightestFaceWrong)

/-- 'laws.FnExactLightOf': WHATEVER THE INPUT: true; the input reads as it did. -/
def fnExactLightOfSpec : ChangeSpec := { name := "fnExactLightOf", fn := fun _ => fun
  | [d1, d2] => { results := [.lit (.bool true)], args := [d1, d2] }
  | _ => none }
def fnExactLightOfRow : OpenClaim := { program := "ytkgbilbicdiadaa", sum := "5b49066a16eeb9bc65a97410776c26fd68f98f8d71154aa6103f77af414ba8a5", func := "loop.example/g03303/laws.FnExactLightOf", spec := "fnExactLightOf", unfollowed := true, recurses := true, apart := false }
def FnExactLightOfSaid : Prop := fnExactLightOfRow.holds Try.pinned (OpenSpec.ofChange fnExactLightOfSpec)

/-- ITS FALSE NEIGHBOUR: 'it returns false'. Refute it at one input. -/
def fnExactLightOfWrong : ChangeSpec := { name := "fnExactLightOf", fn := fun _ => fun
  | [d1, d2] => { results := [.lit (.bool false)], args := [d1, d2] }
  | _ => none }
def FnExactLightOfWrongFalsely : Prop := fnExactLightOfRow.holds Try.pinned (OpenSpec.ofChange fnExactLightOfWrong)

/-- 'laws.FnExactShapeOf': WHATEVER THE INPUT: true; the input reads as it did. -/
def fnExactShapeOfSpec : ChangeSpec := { name := "fnExactShapeOf", fn := fun _ => fun
  | [d1, d2] => { results := [.lit (.bool true)], args := [d1, d2] }
  | _ => none }
def fnExactShapeOfRow : OpenClaim := { program := "ytkgbilbicdiadaa", sum := "5b49066a16eeb9bc65a97410776c26fd68f98f8d71154aa6103f77af414ba8a5", func := "loop.example/g03303/laws.FnExactShapeOf", spec := "fnExactShapeOf", unfollowed := true, recurses := true, apart := false }
def FnExactShapeOfSaid : Prop := fnExactShapeOfRow.holds Try.pinned (OpenSpec.ofChange fnExactShapeOfSpec)

/-- ITS FALSE NEIGHBOUR: 'it returns false'. Refute it at one input. -/
def fnExactShapeOfWrong : ChangeSpec := { name := "fnExactShapeOf", fn := fun _ => fun
  | [d1, d2] => { results := [.lit (.bool false)], args := [d1, d2] }
  | _ => none }
def FnExactShapeOfWrongFalsely : Prop := fnExactShapeOfRow.holds Try.pinned (OpenSpec.ofChange fnExactShapeOfWrong)

/-- 'laws.FnExactShareOfLight': WHATEVER THE INPUT: true; the input reads as it did. -/
def fnExactShareOfLightSpec : ChangeSpec := { name := "fnExactShareOfLight", fn := fun _ => fun
  | [d1, d2] => { results := [.lit (.bool true)], args := [d1, d2] }
  | _ => none }
def fnExactShareOfLightRow : OpenClaim := { program := "ytkgbilbicdiadaa", sum := "5b49066a16eeb9bc65a97410776c26fd68f98f8d71154aa6103f77af414ba8a5", func := "loop.example/g03303/laws.FnExactShareOfLight", spec := "fnExactShareOfLight", unfollowed := true, recurses := true, apart := false }
def FnExactShareOfLightSaid : Prop := fnExactShareOfLightRow.holds Try.pinned (OpenSpec.ofChange fnExactShareOfLightSpec)

/-- ITS FALSE NEIGHBOUR: 'it returns false'. Refute it at one input. -/
def fnExactShareOfLightWrong : ChangeSpec := { name := "fnExactShareOfLight", fn := fun _ => fun
  | [d1, d2] => { results := [.lit (.bool false)], args := [d1, d2] }
  | _ => none }
def FnExactShareOfLightWrongFalsely : Prop := fnExactShareOfLightRow.holds Try.pinned (OpenSpec.ofChange fnExactShareOfLightWrong)

/-- 'laws.FnAssembly': WHATEVER THE INPUT: true; the input reads as it did. -/
def fnAssemblySpec : ChangeSpec := { name := "fnAssembly", fn := fun _ => fun
  | [d] => { results := [.lit (.bool true)], args := [d] }
  | _ => none }
def fnAssemblyRow : OpenClaim := { program := "ytkgbilbicdiadaa", sum := "5b49066a16eeb9bc65a97410776c26fd68f98f8d71154aa6103f77af414ba8a5", func := "loop.example/g03303/laws.FnAssembly", spec := "fnAssembly", unfollowed := true, recurses := true, apart := false }
def FnAssemblySaid : Prop := fnAssemblyRow.holds Try.pinned (OpenSpec.ofChange fnAssemblySpec)

/-- ITS FALSE NEIGHBOUR: 'it returns false'. Refute it at one input. -/
def fnAssemblyWrong : ChangeSpec := { name := "fnAssembly", fn := fun _ => fun
  | [d] => { results := [.lit (.bool false)], args := [d] }
  | _ => none }
def FnAssemblyWrongFalsely : Prop := fnAssemblyRow.holds Try.pinned (OpenSpec.ofChange fnAssemblyWrong)

/-- 'laws.FnExactLooseAfter': WHATEVER THE INPUT: true; the input reads as it did. -/
def fnExactLooseAfterSpec : ChangeSpec := { name := "fnExactLooseAfter", fn := fun _ => fun
  | [d1, d2] => { results := [.lit (.bool true)], args := [d1, d2] }
  | _ => none }
def fnExactLooseAfterRow : OpenClaim := { program := "ytkgbilbicdiadaa", sum := "5b49066a16eeb9bc65a97410776c26fd68f98f8d71154aa6103f77af414ba8a5", func := "loop.example/g03303/laws.FnExactLooseAfter", spec := "fnExactLooseAfter", unfollowed := true, recurses := true, apart := false }
def FnExactLooseAfterSaid : Prop := fnExactLooseAfterRow.holds Try.pinned (OpenSpec.ofChange fnExactLooseAfterSpec)

/-- ITS FALSE NEIGHBOUR: 'it returns false'. Refute it at one input. -/
def fnExactLooseAfterWrong : ChangeSpec := { name := "fnExactLooseAfter", fn := fun _ => fun
  | [d1, d2] => { results := [.lit (.bool false)], args := [d1, d2] }
  | _ => none }
def FnExactLooseAfterWrongFalsely : Prop := fnExactLooseAfterRow.holds Try.pinned (OpenSpec.ofChange fnExactLooseAfterWrong)

/-- 'laws.FnExactCanFill': WHATEVER THE INPUT: true; the input reads as it did. -/
def fnExactCanFillSpec : ChangeSpec := { name := "fnExactCanFill", fn := fun _ => fun
  | [d1, d2, d3] => { results := [.lit (.bool true)], args := [d1, d2, d3] }
  | _ => none }
def fnExactCanFillRow : OpenClaim := { program := "ytkgbilbicdiadaa", sum := "5b49066a16eeb9bc65a97410776c26fd68f98f8d71154aa6103f77af414ba8a5", func := "loop.example/g03303/laws.FnExactCanFill", spec := "fnExactCanFill", unfollowed := true, recurses := true, apart := false }
def FnExactCanFillSaid : Prop := fnExactCanFillRow.holds Try.pinned (OpenSpec.ofChange fnExactCanFillSpec)

/-- ITS FALSE NEIGHBOUR: 'it returns false'. Refute it at one input. -/
def fnExactCanFillWrong : ChangeSpec := { name := "fnExactCanFill", fn := fun _ => fun
  | [d1, d2, d3] => { results := [.lit (.bool false)], args := [d1, d2, d3] }
  | _ => none }
def FnExactCanFillWrongFalsely : Prop := fnExactCanFillRow.holds Try.pinned (OpenSpec.ofChange fnExactCanFillWrong)

/-- 'laws.FnShapes': WHATEVER THE INPUT: true; the input reads as it did. -/
def fnShapesSpec : ChangeSpec := { name := "fnShapes", fn := fun _ => fun
  | [d] => { results := [.lit (.bool true)], args := [d] }
  | _ => none }
def fnShapesRow : OpenClaim := { program := "ytkgbilbicdiadaa", sum := "5b49066a16eeb9bc65a97410776c26fd68f98f8d71154aa6103f77af414ba8a5", func := "loop.example/g03303/laws.FnShapes", spec := "fnShapes", unfollowed := true, recurses := true, apart := false }
def FnShapesSaid : Prop := fnShapesRow.holds Try.pinned (OpenSpec.ofChange fnShapesSpec)

/-- ITS FALSE NEIGHBOUR: 'it returns false'. Refute it at one input. -/
def fnShapesWrong : ChangeSpec := { name := "fnShapes", fn := fun _ => fun
  | [d] => { results := [.lit (.bool false)], args := [d] }
  | _ => none }
def FnShapesWrongFalsely : Prop := fnShapesRow.holds Try.pinned (OpenSpec.ofChange fnShapesWrong)

/-- 'laws.FnExactFirstAssembly': WHATEVER THE INPUT: true; the input reads as it did. -/
def fnExactFirstAssemblySpec : ChangeSpec := { name := "fnExactFirstAssembly", fn := fun _ => fun
  | [d1, d2] => { results := [.lit (.bool true)], args := [d1, d2] }
  | _ => none }
def fnExactFirstAssemblyRow : OpenClaim := { program := "ytkgbilbicdiadaa", sum := "5b49066a16eeb9bc65a97410776c26fd68f98f8d71154aa6103f77af414ba8a5", func := "loop.example/g03303/laws.FnExactFirstAssembly", spec := "fnExactFirstAssembly", unfollowed := true, recurses := true, apart := false }
def FnExactFirstAssemblySaid : Prop := fnExactFirstAssemblyRow.holds Try.pinned (OpenSpec.ofChange fnExactFirstAssemblySpec)

/-- ITS FALSE NEIGHBOUR: 'it returns false'. Refute it at one input. -/
def fnExactFirstAssemblyWrong : ChangeSpec := { name := "fnExactFirstAssembly", fn := fun _ => fun
  | [d1, d2] => { results := [.lit (.bool false)], args := [d1, d2] }
  | _ => none }
def FnExactFirstAssemblyWrongFalsely : Prop := fnExactFirstAssemblyRow.holds Try.pinned (OpenSpec.ofChange fnExactFirstAssemblyWrong)

/- THE SECOND FORM. 'bulk': how many values and letters a reading holds, each counted each time it is reached (what is shared counts as often as it is met; a slice's spare places count too). A statement '..UptoSaid' is the law's where the arguments, and the package variables that the reading takes, are together of bulk at most 1048576: NARROWER than '..Said'. Prove '..Said' where nothing that the law and all that it calls make is longer than what came in: it says more and counts as full. Else prove '..UptoSaid'. A law counts once. -/
mutual
def uptoBulk {H : Type} : DataW H → Nat
  | .lit (.string bytes) => bytes.length + 1
  | .lit _ => 1
  | .nil => 1
  | .ptr d => uptoBulk d + 1
  | .slice elems spare => uptoBulkAll elems + uptoBulkAll spare + 1
  | .agg parts => uptoBulkAll parts + 1
  | .iface _ d => uptoBulk d + 1
  | .map entries => uptoBulkEntries entries + 1
  | .held _ => 1
def uptoBulkAll {H : Type} : List (DataW H) → Nat
  | [] => 0
  | d :: r => uptoBulk d + uptoBulkAll r
def uptoBulkEntries {H : Type} : List (Lit × DataW H) → Nat
  | [] => 0
  | x :: r => uptoBulkEntry x + uptoBulkEntries r
def uptoBulkEntry {H : Type} : Lit × DataW H → Nat
  | (.string bytes, d) => bytes.length + uptoBulk d + 1
  | (_, d) => uptoBulk d + 1
 end
def uptoSmall : (H : Type) → List (DataW H) → Bool := fun _ ds => decide (uptoBulkAll ds ≤ 1048576)
def OpenSpec.upto (s : _root_.Go.ChangeSpec) : _root_.Go.OpenSpec := { _root_.Go.OpenSpec.ofChange s with cond := some uptoSmall }

/-- 'laws.FnTrees', WHERE WHAT IT READS IS OF BULK AT MOST 1048576: true; the input reads as it did. -/
def fnTreesUptoRow : OpenClaim := { program := "ytkgbilbicdiadaa", sum := "5b49066a16eeb9bc65a97410776c26fd68f98f8d71154aa6103f77af414ba8a5", func := "loop.example/g03303/laws.FnTrees", spec := "fnTrees", unfollowed := true, recurses := true, apart := false, narrowed := true }
def FnTreesUptoSaid : Prop := fnTreesUptoRow.holds Try.pinned (OpenSpec.upto fnTreesSpec)

/-- 'laws.FnExactAreJoined', WHERE WHAT IT READS IS OF BULK AT MOST 1048576: true; the input reads as it did. -/
def fnExactAreJoinedUptoRow : OpenClaim := { program := "ytkgbilbicdiadaa", sum := "5b49066a16eeb9bc65a97410776c26fd68f98f8d71154aa6103f77af414ba8a5", func := "loop.example/g03303/laws.FnExactAreJoined", spec := "fnExactAreJoined", unfollowed := true, recurses := true, apart := false, narrowed := true }
def FnExactAreJoinedUptoSaid : Prop := fnExactAreJoinedUptoRow.holds Try.pinned (OpenSpec.upto fnExactAreJoinedSpec)

/-- 'laws.FnExactCountAssemblies', WHERE WHAT IT READS IS OF BULK AT MOST 1048576: true; the input reads as it did. -/
def fnExactCountAssembliesUptoRow : OpenClaim := { program := "ytkgbilbicdiadaa", sum := "5b49066a16eeb9bc65a97410776c26fd68f98f8d71154aa6103f77af414ba8a5", func := "loop.example/g03303/laws.FnExactCountAssemblies", spec := "fnExactCountAssemblies", unfollowed := true, recurses := true, apart := false, narrowed := true }
def FnExactCountAssembliesUptoSaid : Prop := fnExactCountAssembliesUptoRow.holds Try.pinned (OpenSpec.upto fnExactCountAssembliesSpec)

/-- 'laws.FnExactCountDualTrees', WHERE WHAT IT READS IS OF BULK AT MOST 1048576: true; the input reads as it did. -/
def fnExactCountDualTreesUptoRow : OpenClaim := { program := "ytkgbilbicdiadaa", sum := "5b49066a16eeb9bc65a97410776c26fd68f98f8d71154aa6103f77af414ba8a5", func := "loop.example/g03303/laws.FnExactCountDualTrees", spec := "fnExactCountDualTrees", unfollowed := true, recurses := true, apart := false, narrowed := true }
def FnExactCountDualTreesUptoSaid : Prop := fnExactCountDualTreesUptoRow.holds Try.pinned (OpenSpec.upto fnExactCountDualTreesSpec)

/-- 'laws.FnExactIsAssembly', WHERE WHAT IT READS IS OF BULK AT MOST 1048576: true; the input reads as it did. -/
def fnExactIsAssemblyUptoRow : OpenClaim := { program := "ytkgbilbicdiadaa", sum := "5b49066a16eeb9bc65a97410776c26fd68f98f8d71154aa6103f77af414ba8a5", func := "loop.example/g03303/laws.FnExactIsAssembly", spec := "fnExactIsAssembly", unfollowed := true, recurses := true, apart := false, narrowed := true }
def FnExactIsAssemblyUptoSaid : Prop := fnExactIsAssemblyUptoRow.holds Try.pinned (OpenSpec.upto fnExactIsAssemblySpec)

/-- 'laws.FnExactBrightestFace', WHERE WHAT IT READS IS OF BULK AT MOST 1048576: true; the input reads as it did. -/
def fnExactBrightestFaceUptoRow : OpenClaim := { program := "ytkgbilbicdiadaa", sum := "5b49066a16eeb9bc65a97410776c26fd68f98f8d71154aa6103f77af414ba8a5", func := "loop.example/g03303/laws.FnExactBrightestFace", spec := "fnExactBrightestFace", unfollowed := true, recurses := true, apart := false, narrowed := true }
def FnExactBrightestFaceUptoSaid : Prop := fnExactBrightestFaceUptoRow.holds Try.pinned (OpenSpec.upto fnExactBrightestFaceSpec)

/-- 'laws.FnExactLightOf', WHERE WHAT IT READS IS OF BULK AT MOST 1048576: true; the input reads as it did. -/
def fnExactLightOfUptoRow : OpenClaim := { program := "ytkgbilbicdiadaa", sum := "5b49066a16eeb9bc65a97410776c26fd68f98f8d71154aa6103f77af414ba8a5", func := "loop.example/g03303/laws.FnExactLightOf", spec := "fnExactLightOf", unfollowed := true, recurses := true, apart := false, narrowed := true }
def FnExactLightOfUptoSaid : Prop := fnExactLightOfUptoRow.holds Try.pinned (OpenSpec.upto fnExactLightOfSpec)

/-- 'laws.FnExactShapeOf', WHERE WHAT IT READS IS OF BULK AT MOST 1048576: true; the input reads as it did. -/
def fnExactShapeOfUptoRow : OpenClaim := { program := "ytkgbilbicdiadaa", sum := "5b49066a16eeb9bc65a97410776c26fd68f98f8d71154aa6103f77af414ba8a5", func := "loop.example/g03303/laws.FnExactShapeOf", spec := "fnExactShapeOf", unfollowed := true, recurses := true, apart := false, narrowed := true }
def FnExactShapeOfUptoSaid : Prop := fnExactShapeOfUptoRow.holds Try.pinned (OpenSpec.upto fnExactShapeOfSpec)

/-- 'laws.FnExactShareOfLight', WHERE WHAT IT READS IS OF BULK AT MOST 1048576: true; the input reads as it did. -/
def fnExactShareOfLightUptoRow : OpenClaim := { program := "ytkgbilbicdiadaa", sum := "5b49066a16eeb9bc65a97410776c26fd68f98f8d71154aa6103f77af414ba8a5", func := "loop.example/g03303/laws.FnExactShareOfLight", spec := "fnExactShareOfLight", unfollowed := true, recurses := true, apart := false, narrowed := true }
def FnExactShareOfLightUptoSaid : Prop := fnExactShareOfLightUptoRow.holds Try.pinned (OpenSpec.upto fnExactShareOfLightSpec)

/-- 'laws.FnAssembly', WHERE WHAT IT READS IS OF BULK AT MOST 1048576: true; the input reads as it did. -/
def fnAssemblyUptoRow : OpenClaim := { program := "ytkgbilbicdiadaa", sum := "5b49066a16eeb9bc65a97410776c26fd68f98f8d71154aa6103f77af414ba8a5", func := "loop.example/g03303/laws.FnAssembly", spec := "fnAssembly", unfollowed := true, recurses := true, apart := false, narrowed := true }
def FnAssemblyUptoSaid : Prop := fnAssemblyUptoRow.holds Try.pinned (OpenSpec.upto fnAssemblySpec)

/-- 'laws.FnExactLooseAfter', WHERE WHAT IT READS IS OF BULK AT MOST 1048576: true; the input reads as it did. -/
def fnExactLooseAfterUptoRow : OpenClaim := { program := "ytkgbilbicdiadaa", sum := "5b49066a16eeb9bc65a97410776c26fd68f98f8d71154aa6103f77af414ba8a5", func := "loop.example/g03303/laws.FnExactLooseAfter", spec := "fnExactLooseAfter", unfollowed := true, recurses := true, apart := false, narrowed := true }
def FnExactLooseAfterUptoSaid : Prop := fnExactLooseAfterUptoRow.holds Try.pinned (OpenSpec.upto fnExactLooseAfterSpec)

/-- 'laws.FnExactCanFill', WHERE WHAT IT READS IS OF BULK AT MOST 1048576: true; the input reads as it did. -/
def fnExactCanFillUptoRow : OpenClaim := { program := "ytkgbilbicdiadaa", sum := "5b49066a16eeb9bc65a97410776c26fd68f98f8d71154aa6103f77af414ba8a5", func := "loop.example/g03303/laws.FnExactCanFill", spec := "fnExactCanFill", unfollowed := true, recurses := true, apart := false, narrowed := true }
def FnExactCanFillUptoSaid : Prop := fnExactCanFillUptoRow.holds Try.pinned (OpenSpec.upto fnExactCanFillSpec)

/-- 'laws.FnShapes', WHERE WHAT IT READS IS OF BULK AT MOST 1048576: true; the input reads as it did. -/
def fnShapesUptoRow : OpenClaim := { program := "ytkgbilbicdiadaa", sum := "5b49066a16eeb9bc65a97410776c26fd68f98f8d71154aa6103f77af414ba8a5", func := "loop.example/g03303/laws.FnShapes", spec := "fnShapes", unfollowed := true, recurses := true, apart := false, narrowed := true }
def FnShapesUptoSaid : Prop := fnShapesUptoRow.holds Try.pinned (OpenSpec.upto fnShapesSpec)

/-- 'laws.FnExactFirstAssembly', WHERE WHAT IT READS IS OF BULK AT MOST 1048576: true; the input reads as it did. -/
def fnExactFirstAssemblyUptoRow : OpenClaim := { program := "ytkgbilbicdiadaa", sum := "5b49066a16eeb9bc65a97410776c26fd68f98f8d71154aa6103f77af414ba8a5", func := "loop.example/g03303/laws.FnExactFirstAssembly", spec := "fnExactFirstAssembly", unfollowed := true, recurses := true, apart := false, narrowed := true }
def FnExactFirstAssemblyUptoSaid : Prop := fnExactFirstAssemblyUptoRow.holds Try.pinned (OpenSpec.upto fnExactFirstAssemblySpec)

end Rows
end Go.Proofs.Ytkgbilbicdiadaa
