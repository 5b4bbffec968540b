/- Words for the marks that a law writes into its own lists. No condition. -/
import Derived.Test.YtndbbdbnimmcoaaNodes
import Derived.Test.YtndbbdbnimmcoaaOwn
set_option linter.unusedSimpArgs false
set_option linter.unusedVariables false
namespace Go.Proofs.Ytndbbdbnimmcoaa
open Go.RowKit

/-- The numbers k, k + 1, .. -/
def marks (k : Int) (m : Nat) : List Int := (List.range m).map fun (j : Nat) => k + j
theorem marks_length (k : Int) (m : Nat) : (marks k m).length = m := by simp [marks]
theorem marks_get {k : Int} {m j : Nat} (h : j < m) : (encI (marks k m))[j]? = some (.int .i64 (k + j)) := by simp [marks, encI, h]
theorem marks_succ (k : Int) (m : Nat) : encI (marks k (m + 1)) = encI (marks k m) ++ [.int .i64 (k + m)] := by
  simp [marks, encI, List.range_succ]
theorem take_set_at (xs : List Value) (m : Nat) (a : Value) (h : m < xs.length) : (xs.set m a).take (m + 1) = xs.take m ++ [a] := by
  rw [List.take_succ_eq_append_getElem (by simpa using h)]
  simp [List.take_set_of_le]
/-- Storing the next mark. -/
theorem marks_step {xs : List Value} {k : Int} {m : Nat} {v : Int} (h : xs.take m = encI (marks k m)) (hm : m < xs.length) (hv : v = k + m) : (xs.set m (.int .i64 v)).take (m + 1) = encI (marks k (m + 1)) := by
  subst hv
  rw [take_set_at _ _ _ hm, h, marks_succ]
end Go.Proofs.Ytndbbdbnimmcoaa
