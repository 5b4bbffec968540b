/-
  No cell of these rows narrows 'for every input' (looked for: loops, veiled, ifaces, maps, wideKeys, modest, calm, conditions, laid).
  DERIVED. THE GIVEN ROWS OF THIS SEAT. 10 by the template 'for every input the law returns true; each argument reads behind the call as it read before'; 0 by the template 'total and deterministic' (their statements: YtjibcmmnohjhkaaTotals.lean).
  GIVEN WITH THE SEED: the statements are not yours to turn. If you find one false, say at which input.
  Laid BY PROGRAM, IN A SANDBOX (cutbox-rows.mjs): the forced cells as the released guide's own fill.sh prints them over the translation 6fab5d541dcfa322… (all of the seat's roots in one cut). By AI agents, Wed Nov 11 2026. No macro, syntax, notation, axiom, sorry.
-/
import Derived.Test.YtjibcmmnohjhkaaChecked
import GoSem.Claim
import GoSem.ClaimJoined
import GoSem.ClaimMapViews
import Derived.JoinedTies
import Derived.KernelRfl
namespace Go.Proofs.Ytjibcmmnohjhkaa
/- THE CELL 'sum', in the pinned program and in every row, IS THE sha256 OF THE DUMP (.gsa) THAT YtjibcmmnohjhkaaProg.lean LOADS. Nothing in Lean hashes anything: it is a label: what it is worth is what the hold of that sum in a sandbox is worth. -/
noncomputable def Try.pinned : Pinned := { name := "ytjibcmmnohjhkaa", sum := "6fab5d541dcfa32212d8a37671e67114fc36369972b12f1082aaddbe85f91a6b", checked := Try.checked }
namespace Rows
def none {H : Type} : Left H := { results := [], args := [] }

/-- 'laws.FnExactFewestCuts': WHATEVER THE INPUT: true; the input reads as it did. -/
def fnExactFewestCutsSpec : ChangeSpec := { name := "fnExactFewestCuts", fn := fun _ => fun
  | [d1, d2] => { results := [.lit (.bool true)], args := [d1, d2] }
  | _ => none }
def fnExactFewestCutsRow : OpenClaim := { program := "ytjibcmmnohjhkaa", sum := "6fab5d541dcfa32212d8a37671e67114fc36369972b12f1082aaddbe85f91a6b", func := "loop.example/g03303/laws.FnExactFewestCuts", spec := "fnExactFewestCuts", apart := false }
def FnExactFewestCutsSaid : Prop := fnExactFewestCutsRow.holds Try.pinned (OpenSpec.ofChange fnExactFewestCutsSpec)

/-- ITS FALSE NEIGHBOUR: 'it returns false'. Refute it at one input. -/
def fnExactFewestCutsWrong : ChangeSpec := { name := "fnExactFewestCuts", fn := fun _ => fun
  | [d1, d2] => { results := [.lit (.bool false)], args := [d1, d2] }
  | _ => none }
def FnExactFewestCutsWrongFalsely : Prop := fnExactFewestCutsRow.holds Try.pinned (OpenSpec.ofChange fnExactFewestCutsWrong)

/-- 'laws.FnExactFlawedOk': WHATEVER THE INPUT: true; the input reads as it did. -/
def fnExactFlawedOkSpec : ChangeSpec := { name := "fnExactFlawedOk", fn := fun _ => fun
  | [d] => { results := [.lit (.bool true)], args := [d] }
  | _ => none }
def fnExactFlawedOkRow : OpenClaim := { program := "ytjibcmmnohjhkaa", sum := "6fab5d541dcfa32212d8a37671e67114fc36369972b12f1082aaddbe85f91a6b", func := "loop.example/g03303/laws.FnExactFlawedOk", spec := "fnExactFlawedOk", apart := false }
def FnExactFlawedOkSaid : Prop := fnExactFlawedOkRow.holds Try.pinned (OpenSpec.ofChange fnExactFlawedOkSpec)

/-- ITS FALSE NEIGHBOUR: 'it returns false'. Refute it at one input. -/
def fnExactFlawedOkWrong : ChangeSpec := { name := "fnExactFlawedOk", fn := fun _ => fun
  | [d] => { results := [.lit (.bool false)], args := [d] }
  | _ => none }
def FnExactFlawedOkWrongFalsely : Prop := fnExactFlawedOkRow.holds Try.pinned (OpenSpec.ofChange fnExactFlawedOkWrong)

/-- 'laws.FnExactIsClear': WHATEVER THE INPUT: true; the input reads as it did. -/
def fnExactIsClearSpec : ChangeSpec := { name := "fnExactIsClear", fn := fun _ => fun
  | [d1, d2, d3] => { results := [.lit (.bool true)], args := [d1, d2, d3] }
  | _ => none }
def fnExactIsClearRow : OpenClaim := { program := "ytjibcmmnohjhkaa", sum := "6fab5d541dcfa32212d8a37671e67114fc36369972b12f1082aaddbe85f91a6b", func := "loop.example/g03303/laws.FnExactIsClear", spec := "fnExactIsClear", apart := false }
def FnExactIsClearSaid : Prop := fnExactIsClearRow.holds Try.pinned (OpenSpec.ofChange fnExactIsClearSpec)

/-- ITS FALSE NEIGHBOUR: 'it returns false'. Refute it at one input. -/
def fnExactIsClearWrong : ChangeSpec := { name := "fnExactIsClear", fn := fun _ => fun
  | [d1, d2, d3] => { results := [.lit (.bool false)], args := [d1, d2, d3] }
  | _ => none }
def FnExactIsClearWrongFalsely : Prop := fnExactIsClearRow.holds Try.pinned (OpenSpec.ofChange fnExactIsClearWrong)

/-- 'laws.FnExactCountSpots': WHATEVER THE INPUT: true; the input reads as it did. -/
def fnExactCountSpotsSpec : ChangeSpec := { name := "fnExactCountSpots", fn := fun _ => fun
  | [d1, d2, d3] => { results := [.lit (.bool true)], args := [d1, d2, d3] }
  | _ => none }
def fnExactCountSpotsRow : OpenClaim := { program := "ytjibcmmnohjhkaa", sum := "6fab5d541dcfa32212d8a37671e67114fc36369972b12f1082aaddbe85f91a6b", func := "loop.example/g03303/laws.FnExactCountSpots", spec := "fnExactCountSpots", apart := false }
def FnExactCountSpotsSaid : Prop := fnExactCountSpotsRow.holds Try.pinned (OpenSpec.ofChange fnExactCountSpotsSpec)

/-- ITS FALSE NEIGHBOUR: 'it returns false'. Refute it at one input. -/
def fnExactCountSpotsWrong : ChangeSpec := { name := "fnExactCountSpots", fn := fun _ => fun
  | [d1, d2, d3] => { results := [.lit (.bool false)], args := [d1, d2, d3] }
  | _ => none }
def FnExactCountSpotsWrongFalsely : Prop := fnExactCountSpotsRow.holds Try.pinned (OpenSpec.ofChange fnExactCountSpotsWrong)

/-- 'laws.FnExactFirstClear': WHATEVER THE INPUT: true; the input reads as it did. -/
def fnExactFirstClearSpec : ChangeSpec := { name := "fnExactFirstClear", fn := fun _ => fun
  | [d1, d2] => { results := [.lit (.bool true)], args := [d1, d2] }
  | _ => none }
def fnExactFirstClearRow : OpenClaim := { program := "ytjibcmmnohjhkaa", sum := "6fab5d541dcfa32212d8a37671e67114fc36369972b12f1082aaddbe85f91a6b", func := "loop.example/g03303/laws.FnExactFirstClear", spec := "fnExactFirstClear", apart := false }
def FnExactFirstClearSaid : Prop := fnExactFirstClearRow.holds Try.pinned (OpenSpec.ofChange fnExactFirstClearSpec)

/-- ITS FALSE NEIGHBOUR: 'it returns false'. Refute it at one input. -/
def fnExactFirstClearWrong : ChangeSpec := { name := "fnExactFirstClear", fn := fun _ => fun
  | [d1, d2] => { results := [.lit (.bool false)], args := [d1, d2] }
  | _ => none }
def FnExactFirstClearWrongFalsely : Prop := fnExactFirstClearRow.holds Try.pinned (OpenSpec.ofChange fnExactFirstClearWrong)

/-- 'laws.FnExactLargestClear': WHATEVER THE INPUT: true; the input reads as it did. -/
def fnExactLargestClearSpec : ChangeSpec := { name := "fnExactLargestClear", fn := fun _ => fun
  | [d] => { results := [.lit (.bool true)], args := [d] }
  | _ => none }
def fnExactLargestClearRow : OpenClaim := { program := "ytjibcmmnohjhkaa", sum := "6fab5d541dcfa32212d8a37671e67114fc36369972b12f1082aaddbe85f91a6b", func := "loop.example/g03303/laws.FnExactLargestClear", spec := "fnExactLargestClear", apart := false }
def FnExactLargestClearSaid : Prop := fnExactLargestClearRow.holds Try.pinned (OpenSpec.ofChange fnExactLargestClearSpec)

/-- ITS FALSE NEIGHBOUR: 'it returns false'. Refute it at one input. -/
def fnExactLargestClearWrong : ChangeSpec := { name := "fnExactLargestClear", fn := fun _ => fun
  | [d] => { results := [.lit (.bool false)], args := [d] }
  | _ => none }
def FnExactLargestClearWrongFalsely : Prop := fnExactLargestClearRow.holds Try.pinned (OpenSpec.ofChange fnExactLargestClearWrong)

/-- 'laws.FnFlaws': WHATEVER THE INPUT: true; the input reads as it did. -/
def fnFlawsSpec : ChangeSpec := { name := "fnFlaws", fn := fun _ => fun
  | [d] => { results := [.lit (.bool true)], args := [d] }
  | _ => none }
def fnFlawsRow : OpenClaim := { program := "ytjibcmmnohjhkaa", sum := "6fab5d541dcfa32212d8a37671e67114fc36369972b12f1082aaddbe85f91a6b", func := "loop.example/g03303/laws.FnFlaws", spec := "fnFlaws", apart := false }
def FnFlawsSaid : Prop := fnFlawsRow.holds Try.pinned (OpenSpec.ofChange fnFlawsSpec)

/-- ITS FALSE NEIGHBOUR: 'it returns false'. Refute it at one input. -/
def fnFlawsWrong : ChangeSpec := { name := "fnFlaws", fn := fun _ => fun
  | [d] => { results := [.lit (.bool false)], args := [d] }
  | _ => none }
def FnFlawsWrongFalsely : Prop := fnFlawsRow.holds Try.pinned (OpenSpec.ofChange fnFlawsWrong)

/-- 'laws.FnExactBestValue': WHATEVER THE INPUT: true; the input reads as it did. -/
def fnExactBestValueSpec : ChangeSpec := { name := "fnExactBestValue", fn := fun _ => fun
  | [d1, d2, d3] => { results := [.lit (.bool true)], args := [d1, d2, d3] }
  | _ => none }
def fnExactBestValueRow : OpenClaim := { program := "ytjibcmmnohjhkaa", sum := "6fab5d541dcfa32212d8a37671e67114fc36369972b12f1082aaddbe85f91a6b", func := "loop.example/g03303/laws.FnExactBestValue", spec := "fnExactBestValue", apart := false }
def FnExactBestValueSaid : Prop := fnExactBestValueRow.holds Try.pinned (OpenSpec.ofChange fnExactBestValueSpec)

/-- ITS FALSE NEIGHBOUR: 'it returns false'. Refute it at one input. -/
def fnExactBestValueWrong : ChangeSpec := { name := "fnExactBestValue", fn := fun _ => fun
  | [d1, d2, d3] => { results := [.lit (.bool false)], args := [d1, d2, d3] }
  | _ => none }
def FnExactBestValueWrongFalsely : Prop := fnExactBestValueRow.holds Try.pinned (OpenSpec.ofChange fnExactBestValueWrong)

/-- 'laws.FnExactWasteOf': WHATEVER THE INPUT: true; the input reads as it did. -/
def fnExactWasteOfSpec : ChangeSpec := { name := "fnExactWasteOf", fn := fun _ => fun
  | [d1, d2] => { results := [.lit (.bool true)], args := [d1, d2] }
  | _ => none }
def fnExactWasteOfRow : OpenClaim := { program := "ytjibcmmnohjhkaa", sum := "6fab5d541dcfa32212d8a37671e67114fc36369972b12f1082aaddbe85f91a6b", func := "loop.example/g03303/laws.FnExactWasteOf", spec := "fnExactWasteOf", apart := false }
def FnExactWasteOfSaid : Prop := fnExactWasteOfRow.holds Try.pinned (OpenSpec.ofChange fnExactWasteOfSpec)

/-- ITS FALSE NEIGHBOUR: 'it returns false'. Refute it at one input. -/
def fnExactWasteOfWrong : ChangeSpec := { name := "fnExactWasteOf", fn := fun _ => fun
  | [d1, d2] => { results := [.lit (.bool false)], args := [d1, d2] }
  | _ => none }
def FnExactWasteOfWrongFalsely : Prop := fnExactWasteOfRow.holds Try.pinned (OpenSpec.ofChange fnExactWasteOfWrong)

/-- 'laws.FnSheets': WHATEVER THE INPUT: true; the input reads as it did. -/
def fnSheetsSpec : ChangeSpec := { name := "fnSheets", fn := fun _ => fun
  | [d] => { results := [.lit (.bool true)], args := [d] }
  | _ => none }
def fnSheetsRow : OpenClaim := { program := "ytjibcmmnohjhkaa", sum := "6fab5d541dcfa32212d8a37671e67114fc36369972b12f1082aaddbe85f91a6b", func := "loop.example/g03303/laws.FnSheets", spec := "fnSheets", apart := false }
def FnSheetsSaid : Prop := fnSheetsRow.holds Try.pinned (OpenSpec.ofChange fnSheetsSpec)

/-- ITS FALSE NEIGHBOUR: 'it returns false'. Refute it at one input. -/
def fnSheetsWrong : ChangeSpec := { name := "fnSheets", fn := fun _ => fun
  | [d] => { results := [.lit (.bool false)], args := [d] }
  | _ => none }
def FnSheetsWrongFalsely : Prop := fnSheetsRow.holds Try.pinned (OpenSpec.ofChange fnSheetsWrong)

/- THE SECOND FORM. 'bulk': how many values and letters a reading holds, each counted each time it is reached (what is shared counts as often as it is met; a slice's spare places count too). A statement '..UptoSaid' is the law's where the arguments, and the package variables that the reading takes, are together of bulk at most 1048576: NARROWER than '..Said'. Prove '..Said' where nothing that the law and all that it calls make is longer than what came in: it says more and counts as full. Else prove '..UptoSaid'. A law counts once. -/
mutual
def uptoBulk {H : Type} : DataW H → Nat
  | .lit (.string bytes) => bytes.length + 1
  | .lit _ => 1
  | .nil => 1
  | .ptr d => uptoBulk d + 1
  | .slice elems spare => uptoBulkAll elems + uptoBulkAll spare + 1
  | .agg parts => uptoBulkAll parts + 1
  | .iface _ d => uptoBulk d + 1
  | .map entries => uptoBulkEntries entries + 1
  | .held _ => 1
def uptoBulkAll {H : Type} : List (DataW H) → Nat
  | [] => 0
  | d :: r => uptoBulk d + uptoBulkAll r
def uptoBulkEntries {H : Type} : List (Lit × DataW H) → Nat
  | [] => 0
  | x :: r => uptoBulkEntry x + uptoBulkEntries r
def uptoBulkEntry {H : Type} : Lit × DataW H → Nat
  | (.string bytes, d) => bytes.length + uptoBulk d + 1
  | (_, d) => uptoBulk d + 1
 end
def uptoSmall : (H : Type) → List (DataW H) → Bool := fun _ ds => decide (uptoBulkAll ds ≤ 1048576)
def OpenSpec.upto (s : _root_.Go.ChangeSpec) : _root_.Go.OpenSpec := { _root_.Go.OpenSpec.ofChange s with cond := some uptoSmall }

/-- 'laws.FnExactFewestCuts', WHERE WHAT IT READS IS OF BULK AT MOST 1048576: true; the input reads as it did. -/
def fnExactFewestCutsUptoRow : OpenClaim := { program := "ytjibcmmnohjhkaa", sum := "6fab5d541dcfa32212d8a37671e67114fc36369972b12f1082aaddbe85f91a6b", func := "loop.example/g03303/laws.FnExactFewestCuts", spec := "fnExactFewestCuts", apart := false, narrowed := true }
def FnExactFewestCutsUptoSaid : Prop := fnExactFewestCutsUptoRow.holds Try.pinned (OpenSpec.upto fnExactFewestCutsSpec)

/-- 'laws.FnExactFlawedOk', WHERE WHAT IT READS IS OF BULK AT MOST 1048576: true; the input reads as it did. -/
def fnExactFlawedOkUptoRow : OpenClaim := { program := "ytjibcmmnohjhkaa", sum := "6fab5d541dcfa32212d8a37671e67114fc36369972b12f1082aaddbe85f91a6b", func := "loop.example/g03303/laws.FnExactFlawedOk", spec := "fnExactFlawedOk", apart := false, narrowed := true }
def FnExactFlawedOkUptoSaid : Prop := fnExactFlawedOkUptoRow.holds Try.pinned (OpenSpec.upto fnExactFlawedOkSpec)

/-- 'laws.FnExactIsClear', WHERE WHAT IT READS IS OF BULK AT MOST 1048576: true; the input reads as it did. -/
def fnExactIsClearUptoRow : OpenClaim := { program := "ytjibcmmnohjhkaa", sum := "6fab5d541dcfa32212d8a37671e67114fc36369972b12f1082aaddbe85f91a6b", func := "loop.example/g03303/laws.FnExactIsClear", spec := "fnExactIsClear", apart := false, narrowed := true }
def FnExactIsClearUptoSaid : Prop := fnExactIsClearUptoRow.holds Try.pinned (OpenSpec.upto fnExactIsClearSpec)

/-- 'laws.FnExactCountSpots', WHERE WHAT IT READS IS OF BULK AT MOST 1048576: true; the input reads as it did. -/
def fnExactCountSpotsUptoRow : OpenClaim := { program := "ytjibcmmnohjhkaa", sum := "6fab5d541dcfa32212d8a37671e67114fc36369972b12f1082aaddbe85f91a6b", func := "loop.example/g03303/laws.FnExactCountSpots", spec := "fnExactCountSpots", apart := false, narrowed := true }
def FnExactCountSpotsUptoSaid : Prop := fnExactCountSpotsUptoRow.holds Try.pinned (OpenSpec.upto fnExactCountSpotsSpec)

/-- 'laws.FnExactFirstClear', WHERE WHAT IT READS IS OF BULK AT MOST 1048576: true; the input reads as it did. -/
def fnExactFirstClearUptoRow : OpenClaim := { program := "ytjibcmmnohjhkaa", sum := "6fab5d541dcfa32212d8a37671e67114fc36369972b12f1082aaddbe85f91a6b", func := "loop.example/g03303/laws.FnExactFirstClear", spec := "fnExactFirstClear", apart := false, narrowed := true }
def FnExactFirstClearUptoSaid : Prop := fnExactFirstClearUptoRow.holds Try.pinned (OpenSpec.upto fnExactFirstClearSpec)

/-- 'laws.FnExactLargestClear', WHERE WHAT IT READS IS OF BULK AT MOST 1048576: true; the input reads as it did. -/
def fnExactLargestClearUptoRow : OpenClaim := { program := "ytjibcmmnohjhkaa", sum := "6fab5d541dcfa32212d8a37671e67114fc36369972b12f1082aaddbe85f91a6b", func := "loop.example/g03303/laws.FnExactLargestClear", spec := "fnExactLargestClear", apart := false, narrowed := true }
def FnExactLargestClearUptoSaid : Prop := fnExactLargestClearUptoRow.holds Try.pinned (OpenSpec.upto fnExactLargestClearSpec)

/-- 'laws.FnFlaws', WHERE WHAT IT READS IS OF BULK AT MOST 1048576: true; the input reads as it did. -/
def fnFlawsUptoRow : OpenClaim := { program := "ytjibcmmnohjhkaa", sum := "6fab5d541dcfa32212d8a37671e67114fc36369972b12f1082aaddbe85f91a6b", func := "loop.example/g03303/laws.FnFlaws", spec := "fnFlaws", apart := false, narrowed := true }
def FnFlawsUptoSaid : Prop := fnFlawsUptoRow.holds Try.pinned (OpenSpec.upto fnFlawsSpec)

/-- 'laws.FnExactBestValue', WHERE WHAT IT READS IS OF BULK AT MOST 1048576: true; the input reads as it did. -/
def fnExactBestValueUptoRow : OpenClaim := { program := "ytjibcmmnohjhkaa", sum := "6fab5d541dcfa32212d8a37671e67114fc36369972b12f1082aaddbe85f91a6b", func := "loop.example/g03303/laws.FnExactBestValue", spec := "fnExactBestValue", apart := false, narrowed := true }
def FnExactBestValueUptoSaid : Prop := fnExactBestValueUptoRow.holds Try.pinned (OpenSpec.upto fnExactBestValueSpec)

/-- 'laws.FnExactWasteOf', WHERE WHAT IT READS IS OF BULK AT MOST 1048576: true; the input reads as it did. -/
def fnExactWasteOfUptoRow : OpenClaim := { program := "ytjibcmmnohjhkaa", sum := "6fab5d541dcfa32212d8a37671e67114fc36369972b12f1082aaddbe85f91a6b", func := "loop.example/g03303/laws.FnExactWasteOf", spec := "fnExactWasteOf", apart := false, narrowed := true }
def FnExactWasteOfUptoSaid : Prop := fnExactWasteOfUptoRow.holds Try.pinned (OpenSpec.upto fnExactWasteOfSpec)

/-- 'laws.FnSheets', WHERE WHAT IT READS IS OF BULK AT MOST 1048576: true; the input reads as it did. -/
def fnSheetsUptoRow : OpenClaim := { program := "ytjibcmmnohjhkaa", sum := "6fab5d541dcfa32212d8a37671e67114fc36369972b12f1082aaddbe85f91a6b", func := "loop.example/g03303/laws.FnSheets", spec := "fnSheets", apart := false, narrowed := true }
def FnSheetsUptoSaid : Prop := fnSheetsUptoRow.holds Try.pinned (OpenSpec.upto fnSheetsSpec)

end Rows
end Go.Proofs.Ytjibcmmnohjhkaa
