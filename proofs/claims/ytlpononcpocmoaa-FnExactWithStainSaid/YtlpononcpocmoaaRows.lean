/-
  No cell of these rows narrows 'for every input' (looked for: loops, veiled, ifaces, maps, wideKeys, modest, calm, conditions, laid).
  DERIVED. THE GIVEN ROWS OF THIS SEAT. 8 by the template 'for every input the law returns true; each argument reads behind the call as it read before'; 0 by the template 'total and deterministic' (their statements: YtlpononcpocmoaaTotals.lean).
  GIVEN WITH THE SEED: the statements are not yours to turn. If you find one false, say at which input.
  Laid BY PROGRAM, IN A SANDBOX (cutbox-rows.mjs): the forced cells as the released guide's own fill.sh prints them over the translation a81160edfdd3153c… (all of the seat's roots in one cut). By AI agents, Wed Nov 11 2026. No macro, syntax, notation, axiom, sorry.
-/
import Derived.Test.YtlpononcpocmoaaChecked
import GoSem.Claim
import GoSem.ClaimJoined
import GoSem.ClaimMapViews
import Derived.JoinedTies
import Derived.KernelRfl
namespace Go.Proofs.Ytlpononcpocmoaa
/- THE CELL 'sum', in the pinned program and in every row, IS THE sha256 OF THE DUMP (.gsa) THAT YtlpononcpocmoaaProg.lean LOADS. Nothing in Lean hashes anything: it is a label: what it is worth is what the hold of that sum in a sandbox is worth. -/
noncomputable def Try.pinned : Pinned := { name := "ytlpononcpocmoaa", sum := "a81160edfdd3153c6b771a5c75bc8c876bca35098c8fb69d5a508aa178adbaac", checked := Try.checked }
namespace Rows
def none {H : Type} : Left H := { results := [], args := [] }

/-- 'laws.FnExactSameShape': WHATEVER THE INPUT: true; the input reads as it did. -/
def fnExactSameShapeSpec : ChangeSpec := { name := "fnExactSameShape", fn := fun _ => fun
  | [d1, d2] => { results := [.lit (.bool true)], args := [d1, d2] }
  | _ => none }
def fnExactSameShapeRow : OpenClaim := { program := "ytlpononcpocmoaa", sum := "a81160edfdd3153c6b771a5c75bc8c876bca35098c8fb69d5a508aa178adbaac", func := "loop.example/g03303/laws.FnExactSameShape", spec := "fnExactSameShape", apart := false }
def FnExactSameShapeSaid : Prop := fnExactSameShapeRow.holds Try.pinned (OpenSpec.ofChange fnExactSameShapeSpec)

/-- ITS FALSE NEIGHBOUR: 'it returns false'. Refute it at one input. -/
def fnExactSameShapeWrong : ChangeSpec := { name := "fnExactSameShape", fn := fun _ => fun
  | [d1, d2] => { results := [.lit (.bool false)], args := [d1, d2] }
  | _ => none }
def FnExactSameShapeWrongFalsely : Prop := fnExactSameShapeRow.holds Try.pinned (OpenSpec.ofChange fnExactSameShapeWrong)

/-- 'laws.FnExactTurnShape': WHATEVER THE INPUT: true; the input reads as it did. -/
def fnExactTurnShapeSpec : ChangeSpec := { name := "fnExactTurnShape", fn := fun _ => fun
  | [d] => { results := [.lit (.bool true)], args := [d] }
  | _ => none }
def fnExactTurnShapeRow : OpenClaim := { program := "ytlpononcpocmoaa", sum := "a81160edfdd3153c6b771a5c75bc8c876bca35098c8fb69d5a508aa178adbaac", func := "loop.example/g03303/laws.FnExactTurnShape", spec := "fnExactTurnShape", apart := false }
def FnExactTurnShapeSaid : Prop := fnExactTurnShapeRow.holds Try.pinned (OpenSpec.ofChange fnExactTurnShapeSpec)

/-- ITS FALSE NEIGHBOUR: 'it returns false'. Refute it at one input. -/
def fnExactTurnShapeWrong : ChangeSpec := { name := "fnExactTurnShape", fn := fun _ => fun
  | [d] => { results := [.lit (.bool false)], args := [d] }
  | _ => none }
def FnExactTurnShapeWrongFalsely : Prop := fnExactTurnShapeRow.holds Try.pinned (OpenSpec.ofChange fnExactTurnShapeWrong)

/-- 'laws.FnExactMirrorShape': WHATEVER THE INPUT: true; the input reads as it did. -/
def fnExactMirrorShapeSpec : ChangeSpec := { name := "fnExactMirrorShape", fn := fun _ => fun
  | [d] => { results := [.lit (.bool true)], args := [d] }
  | _ => none }
def fnExactMirrorShapeRow : OpenClaim := { program := "ytlpononcpocmoaa", sum := "a81160edfdd3153c6b771a5c75bc8c876bca35098c8fb69d5a508aa178adbaac", func := "loop.example/g03303/laws.FnExactMirrorShape", spec := "fnExactMirrorShape", apart := false }
def FnExactMirrorShapeSaid : Prop := fnExactMirrorShapeRow.holds Try.pinned (OpenSpec.ofChange fnExactMirrorShapeSpec)

/-- ITS FALSE NEIGHBOUR: 'it returns false'. Refute it at one input. -/
def fnExactMirrorShapeWrong : ChangeSpec := { name := "fnExactMirrorShape", fn := fun _ => fun
  | [d] => { results := [.lit (.bool false)], args := [d] }
  | _ => none }
def FnExactMirrorShapeWrongFalsely : Prop := fnExactMirrorShapeRow.holds Try.pinned (OpenSpec.ofChange fnExactMirrorShapeWrong)

/-- 'laws.FnExactAreAlike': WHATEVER THE INPUT: true; the input reads as it did. -/
def fnExactAreAlikeSpec : ChangeSpec := { name := "fnExactAreAlike", fn := fun _ => fun
  | [d1, d2] => { results := [.lit (.bool true)], args := [d1, d2] }
  | _ => none }
def fnExactAreAlikeRow : OpenClaim := { program := "ytlpononcpocmoaa", sum := "a81160edfdd3153c6b771a5c75bc8c876bca35098c8fb69d5a508aa178adbaac", func := "loop.example/g03303/laws.FnExactAreAlike", spec := "fnExactAreAlike", apart := false }
def FnExactAreAlikeSaid : Prop := fnExactAreAlikeRow.holds Try.pinned (OpenSpec.ofChange fnExactAreAlikeSpec)

/-- ITS FALSE NEIGHBOUR: 'it returns false'. Refute it at one input. -/
def fnExactAreAlikeWrong : ChangeSpec := { name := "fnExactAreAlike", fn := fun _ => fun
  | [d1, d2] => { results := [.lit (.bool false)], args := [d1, d2] }
  | _ => none }
def FnExactAreAlikeWrongFalsely : Prop := fnExactAreAlikeRow.holds Try.pinned (OpenSpec.ofChange fnExactAreAlikeWrong)

/-- 'laws.FnExactAreMirrored': WHATEVER THE INPUT: true; the input reads as it did. -/
def fnExactAreMirroredSpec : ChangeSpec := { name := "fnExactAreMirrored", fn := fun _ => fun
  | [d1, d2] => { results := [.lit (.bool true)], args := [d1, d2] }
  | _ => none }
def fnExactAreMirroredRow : OpenClaim := { program := "ytlpononcpocmoaa", sum := "a81160edfdd3153c6b771a5c75bc8c876bca35098c8fb69d5a508aa178adbaac", func := "loop.example/g03303/laws.FnExactAreMirrored", spec := "fnExactAreMirrored", apart := false }
def FnExactAreMirroredSaid : Prop := fnExactAreMirroredRow.holds Try.pinned (OpenSpec.ofChange fnExactAreMirroredSpec)

/-- ITS FALSE NEIGHBOUR: 'it returns false'. Refute it at one input. -/
def fnExactAreMirroredWrong : ChangeSpec := { name := "fnExactAreMirrored", fn := fun _ => fun
  | [d1, d2] => { results := [.lit (.bool false)], args := [d1, d2] }
  | _ => none }
def FnExactAreMirroredWrongFalsely : Prop := fnExactAreMirroredRow.holds Try.pinned (OpenSpec.ofChange fnExactAreMirroredWrong)

/-- 'laws.FnExactLayAll': WHATEVER THE INPUT: true; the input reads as it did. -/
def fnExactLayAllSpec : ChangeSpec := { name := "fnExactLayAll", fn := fun _ => fun
  | [d] => { results := [.lit (.bool true)], args := [d] }
  | _ => none }
def fnExactLayAllRow : OpenClaim := { program := "ytlpononcpocmoaa", sum := "a81160edfdd3153c6b771a5c75bc8c876bca35098c8fb69d5a508aa178adbaac", func := "loop.example/g03303/laws.FnExactLayAll", spec := "fnExactLayAll", apart := false }
def FnExactLayAllSaid : Prop := fnExactLayAllRow.holds Try.pinned (OpenSpec.ofChange fnExactLayAllSpec)

/-- ITS FALSE NEIGHBOUR: 'it returns false'. Refute it at one input. -/
def fnExactLayAllWrong : ChangeSpec := { name := "fnExactLayAll", fn := fun _ => fun
  | [d] => { results := [.lit (.bool false)], args := [d] }
  | _ => none }
def FnExactLayAllWrongFalsely : Prop := fnExactLayAllRow.holds Try.pinned (OpenSpec.ofChange fnExactLayAllWrong)

/-- 'laws.FnExactWithStain': WHATEVER THE INPUT: true; the input reads as it did. -/
def fnExactWithStainSpec : ChangeSpec := { name := "fnExactWithStain", fn := fun _ => fun
  | [d1, d2, d3] => { results := [.lit (.bool true)], args := [d1, d2, d3] }
  | _ => none }
def fnExactWithStainRow : OpenClaim := { program := "ytlpononcpocmoaa", sum := "a81160edfdd3153c6b771a5c75bc8c876bca35098c8fb69d5a508aa178adbaac", func := "loop.example/g03303/laws.FnExactWithStain", spec := "fnExactWithStain", apart := false }
def FnExactWithStainSaid : Prop := fnExactWithStainRow.holds Try.pinned (OpenSpec.ofChange fnExactWithStainSpec)

/-- ITS FALSE NEIGHBOUR: 'it returns false'. Refute it at one input. -/
def fnExactWithStainWrong : ChangeSpec := { name := "fnExactWithStain", fn := fun _ => fun
  | [d1, d2, d3] => { results := [.lit (.bool false)], args := [d1, d2, d3] }
  | _ => none }
def FnExactWithStainWrongFalsely : Prop := fnExactWithStainRow.holds Try.pinned (OpenSpec.ofChange fnExactWithStainWrong)

/-- 'laws.FnExactColorStains': WHATEVER THE INPUT: true; the input reads as it did. -/
def fnExactColorStainsSpec : ChangeSpec := { name := "fnExactColorStains", fn := fun _ => fun
  | [d1, d2] => { results := [.lit (.bool true)], args := [d1, d2] }
  | _ => none }
def fnExactColorStainsRow : OpenClaim := { program := "ytlpononcpocmoaa", sum := "a81160edfdd3153c6b771a5c75bc8c876bca35098c8fb69d5a508aa178adbaac", func := "loop.example/g03303/laws.FnExactColorStains", spec := "fnExactColorStains", apart := false }
def FnExactColorStainsSaid : Prop := fnExactColorStainsRow.holds Try.pinned (OpenSpec.ofChange fnExactColorStainsSpec)

/-- ITS FALSE NEIGHBOUR: 'it returns false'. Refute it at one input. -/
def fnExactColorStainsWrong : ChangeSpec := { name := "fnExactColorStains", fn := fun _ => fun
  | [d1, d2] => { results := [.lit (.bool false)], args := [d1, d2] }
  | _ => none }
def FnExactColorStainsWrongFalsely : Prop := fnExactColorStainsRow.holds Try.pinned (OpenSpec.ofChange fnExactColorStainsWrong)

/- THE SECOND FORM. 'bulk': how many values and letters a reading holds, each counted each time it is reached (what is shared counts as often as it is met; a slice's spare places count too). A statement '..UptoSaid' is the law's where the arguments, and the package variables that the reading takes, are together of bulk at most 1048576: NARROWER than '..Said'. Prove '..Said' where nothing that the law and all that it calls make is longer than what came in: it says more and counts as full. Else prove '..UptoSaid'. A law counts once. -/
mutual
def uptoBulk {H : Type} : DataW H → Nat
  | .lit (.string bytes) => bytes.length + 1
  | .lit _ => 1
  | .nil => 1
  | .ptr d => uptoBulk d + 1
  | .slice elems spare => uptoBulkAll elems + uptoBulkAll spare + 1
  | .agg parts => uptoBulkAll parts + 1
  | .iface _ d => uptoBulk d + 1
  | .map entries => uptoBulkEntries entries + 1
  | .held _ => 1
def uptoBulkAll {H : Type} : List (DataW H) → Nat
  | [] => 0
  | d :: r => uptoBulk d + uptoBulkAll r
def uptoBulkEntries {H : Type} : List (Lit × DataW H) → Nat
  | [] => 0
  | x :: r => uptoBulkEntry x + uptoBulkEntries r
def uptoBulkEntry {H : Type} : Lit × DataW H → Nat
  | (.string bytes, d) => bytes.length + uptoBulk d + 1
  | (_, d) => uptoBulk d + 1
 end
def uptoSmall : (H : Type) → List (DataW H) → Bool := fun _ ds => decide (uptoBulkAll ds ≤ 1048576)
def OpenSpec.upto (s : _root_.Go.ChangeSpec) : _root_.Go.OpenSpec := { _root_.Go.OpenSpec.ofChange s with cond := some uptoSmall }

/-- 'laws.FnExactSameShape', WHERE WHAT IT READS IS OF BULK AT MOST 1048576: true; the input reads as it did. -/
def fnExactSameShapeUptoRow : OpenClaim := { program := "ytlpononcpocmoaa", sum := "a81160edfdd3153c6b771a5c75bc8c876bca35098c8fb69d5a508aa178adbaac", func := "loop.example/g03303/laws.FnExactSameShape", spec := "fnExactSameShape", apart := false, narrowed := true }
def FnExactSameShapeUptoSaid : Prop := fnExactSameShapeUptoRow.holds Try.pinned (OpenSpec.upto fnExactSameShapeSpec)

/-- 'laws.FnExactTurnShape', WHERE WHAT IT READS IS OF BULK AT MOST 1048576: true; the input reads as it did. -/
def fnExactTurnShapeUptoRow : OpenClaim := { program := "ytlpononcpocmoaa", sum := "a81160edfdd3153c6b771a5c75bc8c876bca35098c8fb69d5a508aa178adbaac", func := "loop.example/g03303/laws.FnExactTurnShape", spec := "fnExactTurnShape", apart := false, narrowed := true }
def FnExactTurnShapeUptoSaid : Prop := fnExactTurnShapeUptoRow.holds Try.pinned (OpenSpec.upto fnExactTurnShapeSpec)

/-- 'laws.FnExactMirrorShape', WHERE WHAT IT READS IS OF BULK AT MOST 1048576: true; the input reads as it did. -/
def fnExactMirrorShapeUptoRow : OpenClaim := { program := "ytlpononcpocmoaa", sum := "a81160edfdd3153c6b771a5c75bc8c876bca35098c8fb69d5a508aa178adbaac", func := "loop.example/g03303/laws.FnExactMirrorShape", spec := "fnExactMirrorShape", apart := false, narrowed := true }
def FnExactMirrorShapeUptoSaid : Prop := fnExactMirrorShapeUptoRow.holds Try.pinned (OpenSpec.upto fnExactMirrorShapeSpec)

/-- 'laws.FnExactAreAlike', WHERE WHAT IT READS IS OF BULK AT MOST 1048576: true; the input reads as it did. -/
def fnExactAreAlikeUptoRow : OpenClaim := { program := "ytlpononcpocmoaa", sum := "a81160edfdd3153c6b771a5c75bc8c876bca35098c8fb69d5a508aa178adbaac", func := "loop.example/g03303/laws.FnExactAreAlike", spec := "fnExactAreAlike", apart := false, narrowed := true }
def FnExactAreAlikeUptoSaid : Prop := fnExactAreAlikeUptoRow.holds Try.pinned (OpenSpec.upto fnExactAreAlikeSpec)

/-- 'laws.FnExactAreMirrored', WHERE WHAT IT READS IS OF BULK AT MOST 1048576: true; the input reads as it did. -/
def fnExactAreMirroredUptoRow : OpenClaim := { program := "ytlpononcpocmoaa", sum := "a81160edfdd3153c6b771a5c75bc8c876bca35098c8fb69d5a508aa178adbaac", func := "loop.example/g03303/laws.FnExactAreMirrored", spec := "fnExactAreMirrored", apart := false, narrowed := true }
def FnExactAreMirroredUptoSaid : Prop := fnExactAreMirroredUptoRow.holds Try.pinned (OpenSpec.upto fnExactAreMirroredSpec)

/-- 'laws.FnExactLayAll', WHERE WHAT IT READS IS OF BULK AT MOST 1048576: true; the input reads as it did. -/
def fnExactLayAllUptoRow : OpenClaim := { program := "ytlpononcpocmoaa", sum := "a81160edfdd3153c6b771a5c75bc8c876bca35098c8fb69d5a508aa178adbaac", func := "loop.example/g03303/laws.FnExactLayAll", spec := "fnExactLayAll", apart := false, narrowed := true }
def FnExactLayAllUptoSaid : Prop := fnExactLayAllUptoRow.holds Try.pinned (OpenSpec.upto fnExactLayAllSpec)

/-- 'laws.FnExactWithStain', WHERE WHAT IT READS IS OF BULK AT MOST 1048576: true; the input reads as it did. -/
def fnExactWithStainUptoRow : OpenClaim := { program := "ytlpononcpocmoaa", sum := "a81160edfdd3153c6b771a5c75bc8c876bca35098c8fb69d5a508aa178adbaac", func := "loop.example/g03303/laws.FnExactWithStain", spec := "fnExactWithStain", apart := false, narrowed := true }
def FnExactWithStainUptoSaid : Prop := fnExactWithStainUptoRow.holds Try.pinned (OpenSpec.upto fnExactWithStainSpec)

/-- 'laws.FnExactColorStains', WHERE WHAT IT READS IS OF BULK AT MOST 1048576: true; the input reads as it did. -/
def fnExactColorStainsUptoRow : OpenClaim := { program := "ytlpononcpocmoaa", sum := "a81160edfdd3153c6b771a5c75bc8c876bca35098c8fb69d5a508aa178adbaac", func := "loop.example/g03303/laws.FnExactColorStains", spec := "fnExactColorStains", apart := false, narrowed := true }
def FnExactColorStainsUptoSaid : Prop := fnExactColorStainsUptoRow.holds Try.pinned (OpenSpec.upto fnExactColorStainsSpec)

end Rows
end Go.Proofs.Ytlpononcpocmoaa
