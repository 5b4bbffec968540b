/-
  No cell of these rows narrows 'for every input' (looked for: loops, veiled, ifaces, maps, wideKeys, modest, calm, conditions, laid).
  DERIVED. THE GIVEN ROWS OF THIS SEAT. 4 by the template 'for every input the law returns true; each argument reads behind the call as it read before'; 0 by the template 'total and deterministic' (their statements: YtgddpeaoacmfnaaTotals.lean).
  GIVEN WITH THE SEED: the statements are not yours to turn. If you find one false, say at which input.
  Laid BY PROGRAM, IN A SANDBOX (cutbox-rows.mjs): the forced cells as the released guide's own fill.sh prints them over the translation ecf0947e1a153486… (all of the seat's roots in one cut). By AI agents, Wed Nov 11 2026. No macro, syntax, notation, axiom, sorry.
-/
import Derived.Test.YtgddpeaoacmfnaaChecked
import GoSem.Claim
import GoSem.ClaimJoined
import GoSem.ClaimMapViews
import Derived.JoinedTies
import Derived.KernelRfl
namespace Go.Proofs.Ytgddpeaoacmfnaa
/- THE CELL 'sum', in the pinned program and in every row, IS THE sha256 OF THE DUMP (.gsa) THAT YtgddpeaoacmfnaaProg.lean LOADS. Nothing in Lean hashes anything: it is a label: what it is worth is what the hold of that sum in a sandbox is worth. -/
noncomputable def Try.pinned : Pinned := { name := "ytgddpeaoacmfnaa", sum := "ecf0947e1a153486d60a289f3d3410077a51f74b8bbccec92956d31c682d99a2", checked := Try.checked }
namespace Rows
def none {H : Type} : Left H := { results := [], args := [] }

/-- 'laws.FnExactFewestFirings': WHATEVER THE INPUT: true; the input reads as it did. -/
def fnExactFewestFiringsSpec : ChangeSpec := { name := "fnExactFewestFirings", fn := fun _ => fun
  | [d] => { results := [.lit (.bool true)], args := [d] }
  | _ => none }
def fnExactFewestFiringsRow : OpenClaim := { program := "ytgddpeaoacmfnaa", sum := "ecf0947e1a153486d60a289f3d3410077a51f74b8bbccec92956d31c682d99a2", func := "loop.example/g03303/laws.FnExactFewestFirings", spec := "fnExactFewestFirings", unfollowed := true, recurses := true, apart := false }
def FnExactFewestFiringsSaid : Prop := fnExactFewestFiringsRow.holds Try.pinned (OpenSpec.ofChange fnExactFewestFiringsSpec)

/-- ITS FALSE NEIGHBOUR: 'it returns false'. Refute it at one input. -/
def fnExactFewestFiringsWrong : ChangeSpec := { name := "fnExactFewestFirings", fn := fun _ => fun
  | [d] => { results := [.lit (.bool false)], args := [d] }
  | _ => none }
def FnExactFewestFiringsWrongFalsely : Prop := fnExactFewestFiringsRow.holds Try.pinned (OpenSpec.ofChange fnExactFewestFiringsWrong)

/-- 'laws.FnExactHoursOf': WHATEVER THE INPUT: true; the input reads as it did. -/
def fnExactHoursOfSpec : ChangeSpec := { name := "fnExactHoursOf", fn := fun _ => fun
  | [d] => { results := [.lit (.bool true)], args := [d] }
  | _ => none }
def fnExactHoursOfRow : OpenClaim := { program := "ytgddpeaoacmfnaa", sum := "ecf0947e1a153486d60a289f3d3410077a51f74b8bbccec92956d31c682d99a2", func := "loop.example/g03303/laws.FnExactHoursOf", spec := "fnExactHoursOf", unfollowed := true, recurses := true, apart := false }
def FnExactHoursOfSaid : Prop := fnExactHoursOfRow.holds Try.pinned (OpenSpec.ofChange fnExactHoursOfSpec)

/-- ITS FALSE NEIGHBOUR: 'it returns false'. Refute it at one input. -/
def fnExactHoursOfWrong : ChangeSpec := { name := "fnExactHoursOf", fn := fun _ => fun
  | [d] => { results := [.lit (.bool false)], args := [d] }
  | _ => none }
def FnExactHoursOfWrongFalsely : Prop := fnExactHoursOfRow.holds Try.pinned (OpenSpec.ofChange fnExactHoursOfWrong)

/-- 'laws.FnExactFireOrder': WHATEVER THE INPUT: true; the input reads as it did. -/
def fnExactFireOrderSpec : ChangeSpec := { name := "fnExactFireOrder", fn := fun _ => fun
  | [d] => { results := [.lit (.bool true)], args := [d] }
  | _ => none }
def fnExactFireOrderRow : OpenClaim := { program := "ytgddpeaoacmfnaa", sum := "ecf0947e1a153486d60a289f3d3410077a51f74b8bbccec92956d31c682d99a2", func := "loop.example/g03303/laws.FnExactFireOrder", spec := "fnExactFireOrder", unfollowed := true, recurses := true, apart := false }
def FnExactFireOrderSaid : Prop := fnExactFireOrderRow.holds Try.pinned (OpenSpec.ofChange fnExactFireOrderSpec)

/-- ITS FALSE NEIGHBOUR: 'it returns false'. Refute it at one input. -/
def fnExactFireOrderWrong : ChangeSpec := { name := "fnExactFireOrder", fn := fun _ => fun
  | [d] => { results := [.lit (.bool false)], args := [d] }
  | _ => none }
def FnExactFireOrderWrongFalsely : Prop := fnExactFireOrderRow.holds Try.pinned (OpenSpec.ofChange fnExactFireOrderWrong)

/-- 'laws.FnKilns': WHATEVER THE INPUT: true; the input reads as it did. -/
def fnKilnsSpec : ChangeSpec := { name := "fnKilns", fn := fun _ => fun
  | [d] => { results := [.lit (.bool true)], args := [d] }
  | _ => none }
def fnKilnsRow : OpenClaim := { program := "ytgddpeaoacmfnaa", sum := "ecf0947e1a153486d60a289f3d3410077a51f74b8bbccec92956d31c682d99a2", func := "loop.example/g03303/laws.FnKilns", spec := "fnKilns", unfollowed := true, recurses := true, apart := false }
def FnKilnsSaid : Prop := fnKilnsRow.holds Try.pinned (OpenSpec.ofChange fnKilnsSpec)

/-- ITS FALSE NEIGHBOUR: 'it returns false'. Refute it at one input. -/
def fnKilnsWrong : ChangeSpec := { name := "fnKilns", fn := fun _ => fun
  | [d] => { results := [.lit (.bool false)], args := [d] }
  | _ => none }
def FnKilnsWrongFalsely : Prop := fnKilnsRow.holds Try.pinned (OpenSpec.ofChange fnKilnsWrong)

/- THE SECOND FORM. 'bulk': how many values and letters a reading holds, each counted each time it is reached (what is shared counts as often as it is met; a slice's spare places count too). A statement '..UptoSaid' is the law's where the arguments, and the package variables that the reading takes, are together of bulk at most 1048576: NARROWER than '..Said'. Prove '..Said' where nothing that the law and all that it calls make is longer than what came in: it says more and counts as full. Else prove '..UptoSaid'. A law counts once. -/
mutual
def uptoBulk {H : Type} : DataW H → Nat
  | .lit (.string bytes) => bytes.length + 1
  | .lit _ => 1
  | .nil => 1
  | .ptr d => uptoBulk d + 1
  | .slice elems spare => uptoBulkAll elems + uptoBulkAll spare + 1
  | .agg parts => uptoBulkAll parts + 1
  | .iface _ d => uptoBulk d + 1
  | .map entries => uptoBulkEntries entries + 1
  | .held _ => 1
def uptoBulkAll {H : Type} : List (DataW H) → Nat
  | [] => 0
  | d :: r => uptoBulk d + uptoBulkAll r
def uptoBulkEntries {H : Type} : List (Lit × DataW H) → Nat
  | [] => 0
  | x :: r => uptoBulkEntry x + uptoBulkEntries r
def uptoBulkEntry {H : Type} : Lit × DataW H → Nat
  | (.string bytes, d) => bytes.length + uptoBulk d + 1
  | (_, d) => uptoBulk d + 1
 end
def uptoSmall : (H : Type) → List (DataW H) → Bool := fun _ ds => decide (uptoBulkAll ds ≤ 1048576)
def OpenSpec.upto (s : _root_.Go.ChangeSpec) : _root_.Go.OpenSpec := { _root_.Go.OpenSpec.ofChange s with cond := some uptoSmall }

/-- 'laws.FnExactFewestFirings', WHERE WHAT IT READS IS OF BULK AT MOST 1048576: true; the input reads as it did. -/
def fnExactFewestFiringsUptoRow : OpenClaim := { program := "ytgddpeaoacmfnaa", sum := "ecf0947e1a153486d60a289f3d3410077a51f74b8bbccec92956d31c682d99a2", func := "loop.example/g03303/laws.FnExactFewestFirings", spec := "fnExactFewestFirings", unfollowed := true, recurses := true, apart := false, narrowed := true }
def FnExactFewestFiringsUptoSaid : Prop := fnExactFewestFiringsUptoRow.holds Try.pinned (OpenSpec.upto fnExactFewestFiringsSpec)

/-- 'laws.FnExactHoursOf', WHERE WHAT IT READS IS OF BULK AT MOST 1048576: true; the input reads as it did. -/
def fnExactHoursOfUptoRow : OpenClaim := { program := "ytgddpeaoacmfnaa", sum := "ecf0947e1a153486d60a289f3d3410077a51f74b8bbccec92956d31c682d99a2", func := "loop.example/g03303/laws.FnExactHoursOf", spec := "fnExactHoursOf", unfollowed := true, recurses := true, apart := false, narrowed := true }
def FnExactHoursOfUptoSaid : Prop := fnExactHoursOfUptoRow.holds Try.pinned (OpenSpec.upto fnExactHoursOfSpec)

/-- 'laws.FnExactFireOrder', WHERE WHAT IT READS IS OF BULK AT MOST 1048576: true; the input reads as it did. -/
def fnExactFireOrderUptoRow : OpenClaim := { program := "ytgddpeaoacmfnaa", sum := "ecf0947e1a153486d60a289f3d3410077a51f74b8bbccec92956d31c682d99a2", func := "loop.example/g03303/laws.FnExactFireOrder", spec := "fnExactFireOrder", unfollowed := true, recurses := true, apart := false, narrowed := true }
def FnExactFireOrderUptoSaid : Prop := fnExactFireOrderUptoRow.holds Try.pinned (OpenSpec.upto fnExactFireOrderSpec)

/-- 'laws.FnKilns', WHERE WHAT IT READS IS OF BULK AT MOST 1048576: true; the input reads as it did. -/
def fnKilnsUptoRow : OpenClaim := { program := "ytgddpeaoacmfnaa", sum := "ecf0947e1a153486d60a289f3d3410077a51f74b8bbccec92956d31c682d99a2", func := "loop.example/g03303/laws.FnKilns", spec := "fnKilns", unfollowed := true, recurses := true, apart := false, narrowed := true }
def FnKilnsUptoSaid : Prop := fnKilnsUptoRow.holds Try.pinned (OpenSpec.upto fnKilnsSpec)

end Rows
end Go.Proofs.Ytgddpeaoacmfnaa
