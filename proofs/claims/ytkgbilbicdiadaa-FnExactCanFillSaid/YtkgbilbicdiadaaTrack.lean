/- Words for the boxes of a call: what a list of blocks reads as, kept in later worlds. No condition. -/
import Derived.Test.YtkgbilbicdiadaaMem
set_option linter.unusedSimpArgs false
set_option linter.unusedVariables false
namespace Go.Proofs.Ytkgbilbicdiadaa
open Go.RowKit

/-- The cells of block b from place i on read as the values. -/
def CellsAt (w : World) (b : Nat) : Nat → List Value → Prop
  | _, [] => True
  | i, v :: vs => w.cell? ⟨b, i, none⟩ = some v ∧ CellsAt w b (i + 1) vs
/-- The boxes read so. -/
def Bx : List (Nat × List Value) → World → Prop
  | [], _ => True
  | (b, vs) :: r, w => (b < w.heap.size ∧ (∀ i, w.frozen? ⟨b, i, none⟩ = false) ∧ CellsAt w b 0 vs) ∧ Bx r w
theorem CellsAt.ext {w w' : World} {b : Nat} (hE : Ext w w') (hb : b < w.heap.size) : ∀ {i : Nat} {vs : List Value}, CellsAt w b i vs → CellsAt w' b i vs
  | _, [], _ => trivial
  | i, _ :: _, h => ⟨(hE.facts.1 b i hb).trans h.1, CellsAt.ext hE hb h.2⟩
theorem Bx.ext {w w' : World} (hE : Ext w w') : ∀ {bs : List (Nat × List Value)}, Bx bs w → Bx bs w'
  | [], _ => trivial
  | (b, _) :: _, h => ⟨⟨hE.facts.2.2 b h.1.1, fun i => (hE.facts.2.1 b i h.1.1).trans (h.1.2.1 i), CellsAt.ext hE h.1.1 h.1.2.2⟩, Bx.ext hE h.2⟩
/-- Boxes of a world behind w0. -/
def Tr (bs : List (Nat × List Value)) (w0 w : World) : Prop := Bx bs w ∧ Ext w0 w
theorem Tr.ext {bs : List (Nat × List Value)} {w0 w w' : World} (h : Tr bs w0 w) (hE : Ext w w') : Tr bs w0 w' := ⟨Bx.ext hE h.1, h.2.trans hE⟩
theorem Tr.more {bs : List (Nat × List Value)} {w0 w w' : World} (h : Tr bs w0 w) (hE : Ext w w') (b : Nat) (vs : List Value) (hb : b < w'.heap.size ∧ (∀ i, w'.frozen? ⟨b, i, none⟩ = false) ∧ CellsAt w' b 0 vs) : Tr ((b, vs) :: bs) w0 w' := ⟨⟨hb, Bx.ext hE h.1⟩, h.2.trans hE⟩
end Go.Proofs.Ytkgbilbicdiadaa
