/- Walk of the reference's least number of batches for rooms. No condition but that there are at most ten, each from 1 to 100. -/
import Derived.Test.YtndbbdbnimmcoaaKilnP
import Derived.Test.YtndbbdbnimmcoaaBits
import Derived.Test.YtndbbdbnimmcoaaMat
import Derived.Test.YtndbbdbnimmcoaaOwn
import Derived.Test.YtndbbdbnimmcoaaInts
import Derived.IntWalk
set_option linter.unusedSimpArgs false
set_option linter.unusedVariables false
namespace Go.Proofs.Ytndbbdbnimmcoaa
open Go.RowKit

theorem made_zeros (n : Nat) : (madeCells (Value.int .i64 0).cells (n * 1)).toList = List.replicate n (Value.int .i64 0) := by
  rw [Nat.mul_one]
  exact toList_madeCells_one _ _
/-- The tables are right for the sets below s. -/
def TabB (R : List Int) (s : Nat) (f g : Nat → Int) : Prop := ∀ t, t < s → ∃ b : Nat, f t = b ∧ BestPk (elems R t) b (g t)
theorem TabB.upd {R : List Int} {s : Nat} {f g : Nat → Int} (h : TabB R s f g) (v v' : Int) : TabB R s (fun k => if k = s then v else f k) (fun k => if k = s then v' else g k) := fun t ht => by
  obtain ⟨b, h1, h2⟩ := h t ht
  exact ⟨b, (if_neg (by omega)).trans h1, by show BestPk _ _ (if t = s then v' else g t); rw [if_neg (by omega)]; exact h2⟩
theorem TabB.updF {R : List Int} {s : Nat} {f g : Nat → Int} (h : TabB R s f g) (v : Int) : TabB R s (fun k => if k = s then v else f k) g := fun t ht => by
  obtain ⟨b, h1, h2⟩ := h t ht
  exact ⟨b, (if_neg (by omega)).trans h1, h2⟩
end Go.Proofs.Ytndbbdbnimmcoaa
