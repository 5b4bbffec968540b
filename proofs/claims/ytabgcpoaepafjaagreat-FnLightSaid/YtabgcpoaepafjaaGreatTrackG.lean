/- What is left of the boxes of a call behind a store into a row of the call's own. No condition. -/
import Derived.Test.YtabgcpoaepafjaaGreatMem
set_option linter.unusedSimpArgs false
set_option linter.unusedVariables false
namespace Go.Proofs.YtabgcpoaepafjaaGreat
open Go.RowKit

theorem CellsAt.grown {w w' : World} {b : Nat} {row : Option Nat} (hg : w.grownBy w' row) (hb : b < w.heap.size) (hne : row ≠ some b) : ∀ {i : Nat} {vs : List Value}, CellsAt w b i vs → CellsAt w' b i vs
  | _, [], _ => trivial
  | i, _ :: _, h => ⟨by rw [← h.1]; simp only [World.cell?]; rw [hg.block b hb (fun e => hne e.symm)], CellsAt.grown hg hb hne h.2⟩
theorem Bx.grown {w w' W0 : World} {row : Option Nat} (hg : w.grownBy w' row) (hr : ∀ k, row = some k → W0.heap.size ≤ k) : ∀ {bs : List (Nat × List Value)}, Bx bs W0 → Bx bs w → Bx bs w'
  | [], _, _ => trivial
  | (b, _) :: _, h0, h => by
    have hne : row ≠ some b := fun e => by have := hr b e; have := h0.1.1; omega
    refine ⟨⟨Nat.lt_of_lt_of_le h.1.1 hg.size, fun i => ?_, CellsAt.grown hg h.1.1 hne h.1.2.2⟩, Bx.grown hg hr h0.2 h.2⟩
    rw [← h.1.2.1 i]
    simp only [World.frozen?]
    rw [hg.block b h.1.1 (fun e => hne e.symm)]
theorem Tr.grown {bs : List (Nat × List Value)} {a w w' W0 : World} {row : Option Nat} (h : Tr bs a w) (h0 : Tr bs a W0) (hg : w.grownBy w' row) (hr : ∀ k, row = some k → W0.heap.size ≤ k) : Tr bs a w' :=
  ⟨Bx.grown hg hr h0.1 h.1, h.2.grown hg (fun k hk => Nat.le_trans h0.2.size (hr k hk))⟩
theorem Tr.drew {bs : List (Nat × List Value)} {a w : World} (h : Tr bs a w) : Tr bs a w.drew := ⟨Bx.ext ((Ext.refl w).drew) h.1, h.2.drew⟩
/-- None of the boxes is the row. -/
def Ap (row : Option Nat) : List (Nat × List Value) → Prop
  | [] => True
  | (b, _) :: r => row ≠ some b ∧ Ap row r
theorem Bx.grownA {w w' : World} {row : Option Nat} (hg : w.grownBy w' row) : ∀ {bs : List (Nat × List Value)}, Ap row bs → Bx bs w → Bx bs w'
  | [], _, _ => trivial
  | (b, _) :: _, h0, h => by
    refine ⟨⟨Nat.lt_of_lt_of_le h.1.1 hg.size, fun i => ?_, CellsAt.grown hg h.1.1 h0.1 h.1.2.2⟩, Bx.grownA hg h0.2 h.2⟩
    rw [← h.1.2.1 i]
    simp only [World.frozen?]
    rw [hg.block b h.1.1 (fun e => h0.1 e.symm)]
theorem Tr.grownA {bs : List (Nat × List Value)} {a w w' : World} {row : Option Nat} (h : Tr bs a w) (hg : w.grownBy w' row) (hr : ∀ k, row = some k → a.heap.size ≤ k) (ha : Ap row bs) : Tr bs a w' :=
  ⟨Bx.grownA hg ha h.1, h.2.grown hg hr⟩
end Go.Proofs.YtabgcpoaepafjaaGreat
