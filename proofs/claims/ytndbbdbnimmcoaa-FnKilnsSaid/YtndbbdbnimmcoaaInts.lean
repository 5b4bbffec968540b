/- Walks of the functions on lists of numbers. No condition but that a list has at most 1048576 elements. -/
import Derived.Test.YtndbbdbnimmcoaaMem
set_option linter.unusedSimpArgs false
set_option linter.unusedVariables false
namespace Go.Proofs.Ytndbbdbnimmcoaa
open Go.RowKit


theorem int_info : (Try.prog.info? 3).map (fun i => (i.zero, i.size, i.bytes)) = some (some (.int .i64 0), 1, 8) := by kernel_rfl

theorem set_fill (l : List Int) (k : Nat) (h : k < l.length) : ((encI (l.take k)) ++ List.replicate (l.length - k) (Value.int .i64 0)).set k (.int .i64 l[k]) = encI (l.take (k + 1)) ++ List.replicate (l.length - (k + 1)) (Value.int .i64 0) := by
  have e : l.length - k = (l.length - (k + 1)) + 1 := by omega
  rw [e, List.replicate_succ, List.set_append, if_neg (by simp [encI]; omega), List.take_succ_eq_append_getElem h, encI_append]
  simp [encI, Nat.min_eq_left (Nat.le_of_lt h)]


end Go.Proofs.Ytndbbdbnimmcoaa
