/- The walk of the reference's FirstClear. No condition but that a list has at most 1048576 elements. -/
import Derived.Test.YtgaeafjmofbkbaaFlawF
set_option linter.unusedSimpArgs false
set_option linter.unusedVariables false
namespace Go.Proofs.Ytgaeafjmofbkbaa
open Go.RowKit

def badTo (l : List P2) (a p : P2) (k : Nat) : Bool := (l.take k).any (fun s => lies s a p)
theorem badTo_succ {l : List P2} {a p : P2} {k : Nat} (h : k < l.length) : badTo l a p (k + 1) = (badTo l a p k || lies l[k] a p) := by
  unfold badTo
  rw [List.take_succ_eq_append_getElem h]; simp only [List.any_append, List.any_cons, List.any_nil, Bool.or_false]
theorem badTo_all {l : List P2} {a p : P2} : badTo l a p l.length = !(l.all (fun s => !lies s a p)) := by
  unfold badTo
  rw [List.take_of_length_le (Nat.le_refl _), Bool.eq_iff_iff]
  simp
end Go.Proofs.Ytgaeafjmofbkbaa
