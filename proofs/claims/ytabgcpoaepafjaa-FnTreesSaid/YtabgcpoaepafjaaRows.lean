/-
  No cell of these rows narrows 'for every input' (looked for: loops, veiled, ifaces, maps, wideKeys, modest, calm, conditions, laid).
  DERIVED. THE GIVEN ROWS OF THIS SEAT. 3 by the template 'for every input the law returns true; each argument reads behind the call as it read before'; 0 by the template 'total and deterministic' (their statements: YtabgcpoaepafjaaTotals.lean).
  GIVEN WITH THE SEED: the statements are not yours to turn. If you find one false, say at which input.
  Laid BY PROGRAM, IN A SANDBOX (cutbox-rows.mjs): the forced cells as the released guide's own fill.sh prints them over the translation 7c27b59f8f7c29dd… (all of the seat's roots in one cut). By AI agents, Wed Nov 11 2026. No macro, syntax, notation, axiom, sorry.
-/
import Derived.Test.YtabgcpoaepafjaaChecked
import GoSem.Claim
import GoSem.ClaimJoined
import GoSem.ClaimMapViews
import Derived.JoinedTies
import Derived.KernelRfl
namespace Go.Proofs.Ytabgcpoaepafjaa
/- THE CELL 'sum', in the pinned program and in every row, IS THE sha256 OF THE DUMP (.gsa) THAT YtabgcpoaepafjaaProg.lean LOADS. Nothing in Lean hashes anything: it is a label: what it is worth is what the hold of that sum in a sandbox is worth. -/
noncomputable def Try.pinned : Pinned := { name := "ytabgcpoaepafjaa", sum := "7c27b59f8f7c29dd9d9cc9805d9b0055cf1f7d1fbfc3ffa9ea8411f4035314d5", checked := Try.checked }
namespace Rows
def none {H : Type} : Left H := { results := [], args := [] }

/-- 'laws.FnTrees': WHATEVER THE INPUT: true; the input reads as it did. -/
def fnTreesSpec : ChangeSpec := { name := "fnTrees", fn := fun _ => fun
  | [d] => { results := [.lit (.bool true)], args := [d] }
  | _ => none }
def fnTreesRow : OpenClaim := { program := "ytabgcpoaepafjaa", sum := "7c27b59f8f7c29dd9d9cc9805d9b0055cf1f7d1fbfc3ffa9ea8411f4035314d5", func := "loop.example/g03303/laws.FnTrees", spec := "fnTrees", unfollowed := true, recurses := true, apart := false }
def FnTreesSaid : Prop := fnTreesRow.holds Try.pinned (OpenSpec.ofChange fnTreesSpec)

/-- ITS FALSE NEIGHBOUR: 'it returns false'. Refute it at one input. -/
def fnTreesWrong : ChangeSpec := { name := "fnTrees", fn := fun _ => fun
  | [d] => { results := [.lit (.bool false)], args := [d] }
  | _ => none }
def FnTreesWrongFalsely : Prop := fnTreesRow.holds Try.pinned (OpenSpec.ofChange fnTreesWrong)

/-- 'laws.FnAssembly': WHATEVER THE INPUT: true; the input reads as it did. -/
def fnAssemblySpec : ChangeSpec := { name := "fnAssembly", fn := fun _ => fun
  | [d] => { results := [.lit (.bool true)], args := [d] }
  | _ => none }
def fnAssemblyRow : OpenClaim := { program := "ytabgcpoaepafjaa", sum := "7c27b59f8f7c29dd9d9cc9805d9b0055cf1f7d1fbfc3ffa9ea8411f4035314d5", func := "loop.example/g03303/laws.FnAssembly", spec := "fnAssembly", unfollowed := true, recurses := true, apart := false }
def FnAssemblySaid : Prop := fnAssemblyRow.holds Try.pinned (OpenSpec.ofChange fnAssemblySpec)

/-- ITS FALSE NEIGHBOUR: 'it returns false'. Refute it at one input. -/
def fnAssemblyWrong : ChangeSpec := { name := "fnAssembly", fn := fun _ => fun
  | [d] => { results := [.lit (.bool false)], args := [d] }
  | _ => none }
def FnAssemblyWrongFalsely : Prop := fnAssemblyRow.holds Try.pinned (OpenSpec.ofChange fnAssemblyWrong)

/-- 'laws.FnShapes': WHATEVER THE INPUT: true; the input reads as it did. -/
def fnShapesSpec : ChangeSpec := { name := "fnShapes", fn := fun _ => fun
  | [d] => { results := [.lit (.bool true)], args := [d] }
  | _ => none }
def fnShapesRow : OpenClaim := { program := "ytabgcpoaepafjaa", sum := "7c27b59f8f7c29dd9d9cc9805d9b0055cf1f7d1fbfc3ffa9ea8411f4035314d5", func := "loop.example/g03303/laws.FnShapes", spec := "fnShapes", unfollowed := true, recurses := true, apart := false }
def FnShapesSaid : Prop := fnShapesRow.holds Try.pinned (OpenSpec.ofChange fnShapesSpec)

/-- ITS FALSE NEIGHBOUR: 'it returns false'. Refute it at one input. -/
def fnShapesWrong : ChangeSpec := { name := "fnShapes", fn := fun _ => fun
  | [d] => { results := [.lit (.bool false)], args := [d] }
  | _ => none }
def FnShapesWrongFalsely : Prop := fnShapesRow.holds Try.pinned (OpenSpec.ofChange fnShapesWrong)

/- THE SECOND FORM. 'bulk': how many values and letters a reading holds, each counted each time it is reached (what is shared counts as often as it is met; a slice's spare places count too). A statement '..UptoSaid' is the law's where the arguments, and the package variables that the reading takes, are together of bulk at most 1048576: NARROWER than '..Said'. Prove '..Said' where nothing that the law and all that it calls make is longer than what came in: it says more and counts as full. Else prove '..UptoSaid'. A law counts once. -/
mutual
def uptoBulk {H : Type} : DataW H → Nat
  | .lit (.string bytes) => bytes.length + 1
  | .lit _ => 1
  | .nil => 1
  | .ptr d => uptoBulk d + 1
  | .slice elems spare => uptoBulkAll elems + uptoBulkAll spare + 1
  | .agg parts => uptoBulkAll parts + 1
  | .iface _ d => uptoBulk d + 1
  | .map entries => uptoBulkEntries entries + 1
  | .held _ => 1
def uptoBulkAll {H : Type} : List (DataW H) → Nat
  | [] => 0
  | d :: r => uptoBulk d + uptoBulkAll r
def uptoBulkEntries {H : Type} : List (Lit × DataW H) → Nat
  | [] => 0
  | x :: r => uptoBulkEntry x + uptoBulkEntries r
def uptoBulkEntry {H : Type} : Lit × DataW H → Nat
  | (.string bytes, d) => bytes.length + uptoBulk d + 1
  | (_, d) => uptoBulk d + 1
 end
def uptoSmall : (H : Type) → List (DataW H) → Bool := fun _ ds => decide (uptoBulkAll ds ≤ 1048576)
def OpenSpec.upto (s : _root_.Go.ChangeSpec) : _root_.Go.OpenSpec := { _root_.Go.OpenSpec.ofChange s with cond := some uptoSmall }

/-- 'laws.FnTrees', WHERE WHAT IT READS IS OF BULK AT MOST 1048576: true; the input reads as it did. -/
def fnTreesUptoRow : OpenClaim := { program := "ytabgcpoaepafjaa", sum := "7c27b59f8f7c29dd9d9cc9805d9b0055cf1f7d1fbfc3ffa9ea8411f4035314d5", func := "loop.example/g03303/laws.FnTrees", spec := "fnTrees", unfollowed := true, recurses := true, apart := false, narrowed := true }
def FnTreesUptoSaid : Prop := fnTreesUptoRow.holds Try.pinned (OpenSpec.upto fnTreesSpec)

/-- 'laws.FnAssembly', WHERE WHAT IT READS IS OF BULK AT MOST 1048576: true; the input reads as it did. -/
def fnAssemblyUptoRow : OpenClaim := { program := "ytabgcpoaepafjaa", sum := "7c27b59f8f7c29dd9d9cc9805d9b0055cf1f7d1fbfc3ffa9ea8411f4035314d5", func := "loop.example/g03303/laws.FnAssembly", spec := "fnAssembly", unfollowed := true, recurses := true, apart := false, narrowed := true }
def FnAssemblyUptoSaid : Prop := fnAssemblyUptoRow.holds Try.pinned (OpenSpec.upto fnAssemblySpec)

/-- 'laws.FnShapes', WHERE WHAT IT READS IS OF BULK AT MOST 1048576: true; the input reads as it did. -/
def fnShapesUptoRow : OpenClaim := { program := "ytabgcpoaepafjaa", sum := "7c27b59f8f7c29dd9d9cc9805d9b0055cf1f7d1fbfc3ffa9ea8411f4035314d5", func := "loop.example/g03303/laws.FnShapes", spec := "fnShapes", unfollowed := true, recurses := true, apart := false, narrowed := true }
def FnShapesUptoSaid : Prop := fnShapesUptoRow.holds Try.pinned (OpenSpec.upto fnShapesSpec)

end Rows
end Go.Proofs.Ytabgcpoaepafjaa
