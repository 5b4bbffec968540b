/- Walks of the draws of sheets. No condition but that the bytes are at most 1048576. -/
import Derived.Test.YtgaeafjmofbkbaaDraw
import Derived.Test.YtgaeafjmofbkbaaTrackG
import Derived.Deep.RegionWith
import Derived.IntWalk
set_option linter.unusedSimpArgs false
set_option linter.unusedVariables false
namespace Go.Proofs.Ytgaeafjmofbkbaa
open Go.RowKit

section
variable {w w' : World} {g : Nat}
theorem grown_cells (h : w.grownBy w' (some g)) : ∀ q o, q < w.heap.size → q ≠ g → w'.cell? ⟨q, o, none⟩ = w.cell? ⟨q, o, none⟩ := fun q o hq hn => by
  simp only [World.cell?]
  rw [h.block q hq (fun e => hn (by injection e))]
theorem grown_frz (h : w.grownBy w' (some g)) : ∀ q o, q < w.heap.size → q ≠ g → w'.frozen? ⟨q, o, none⟩ = w.frozen? ⟨q, o, none⟩ := fun q o hq hn => by
  simp only [World.frozen?]
  rw [h.block q hq (fun e => hn (by injection e))]
theorem grown_lt (h : w.grownBy w' (some g)) : ∀ q, q < w.heap.size → q < w'.heap.size := fun q hq => Nat.lt_of_lt_of_le hq h.size
theorem grown_new (h : w.grownBy w' (some g)) {k : Nat} (hk : w.heap.size ≤ k) (i : Nat) (v : Value) : w.grownBy (w'.setCell ⟨k, i, none⟩ v) (some g) :=
  ⟨h.os, h.tape, h.output, by simpa using h.size, fun q hq hn => (Below.heap_setCell _ _ _ _ (show q ≠ k by omega)).trans (h.block q hq hn)⟩
theorem grown_alloc (h : w.grownBy w' (some g)) (o : Obj) : w.grownBy (w'.alloc o) (some g) := h.trans (World.grownBy_alloc w' o _)
end
end Go.Proofs.Ytgaeafjmofbkbaa
