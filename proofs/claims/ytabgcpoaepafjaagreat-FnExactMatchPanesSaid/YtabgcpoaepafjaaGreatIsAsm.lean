/- The walks of IsAssembly (both forms). No condition but that a list has at most 1048576 elements. -/
import Derived.Test.YtabgcpoaepafjaaGreatJoined
set_option linter.unusedSimpArgs false
set_option linter.unusedVariables false
namespace Go.Proofs.YtabgcpoaepafjaaGreat
open Go.RowKit

/-- The k-th number of a list, as a face. -/
def faceOf (l : List Int) (k : Nat) : Nat := (l.getD k 0).toNat
/-- It is one of n faces. -/
def isFace (l : List Int) (n k : Nat) : Bool := inR (l.getD k 0) 0 ((n : Int) - 1)
theorem isFace_lt {l : List Int} {n k : Nat} (h : isFace l n k = true) : faceOf l k < n := by
  have h' : 0 ≤ l.getD k 0 ∧ l.getD k 0 ≤ (n : Int) - 1 := by simpa [isFace, inR] using h
  unfold faceOf
  omega
theorem isFace_nat {l : List Int} {n k : Nat} (hk : k < l.length) (h : isFace l n k = true) : l[k] = (faceOf l k : Nat) := by
  have h' : 0 ≤ l.getD k 0 ∧ l.getD k 0 ≤ (n : Int) - 1 := by simpa [isFace, inR] using h
  have e : l.getD k 0 = l[k] := by simp [List.getD, hk]
  unfold faceOf
  rw [e] at h' ⊢
  omega
open Classical in
noncomputable def asmB (N E : List P2) (l : List Int) : Bool := wholeB N E && decide (AsmOk (besTo (sd N E) E.length) (isFace l (fcs N E).length) (faceOf l) (fcs N E).length (oN N E) l.length)
open Classical in
theorem asmB_yes {N E : List P2} {l : List Int} (h : wholeB N E = true) : asmB N E l = true ↔ AsmOk (besTo (sd N E) E.length) (isFace l (fcs N E).length) (faceOf l) (fcs N E).length (oN N E) l.length := by
  unfold asmB
  rw [h]
  simp
theorem asmB_no {N E : List P2} {l : List Int} (h : wholeB N E = false) : asmB N E l = false := by
  unfold asmB
  rw [h]
  rfl
theorem bool_no {v : Bool} {P : Prop} (h : v = true ↔ P) (hn : ¬ P) : v = false := by
  cases v with
  | false => rfl
  | true => exact absurd (h.1 rfl) hn
theorem MatB.top {w : World} {B U hd n : Nat} {Th Te : TypeId} {f : Nat → Nat → Bool} (h : MatB w B U hd n Th Te f) : MatB w B w.heap.size hd n Th Te f := by
  obtain ⟨G, hs, h1, h0, h2, h3, h5, h6⟩ := h
  exact ⟨G, hs, h1, h2.lt, h2, h3, fun i hi => ⟨(h5 i hi).1, (h5 i hi).2.1, (h5 i hi).2.2.2.2.lt, (h5 i hi).2.2.2⟩, h6⟩
theorem MatB.setk {w : World} {B U hd n k i : Nat} {u : Value} {Th Te : TypeId} {f : Nat → Nat → Bool} (h : MatB w B U hd n Th Te f) (hk : U ≤ k) : MatB (w.setCell ⟨k, i, none⟩ u) B U hd n Th Te f := by
  obtain ⟨G, hs, h1, h0, h2, h3, h5, h6⟩ := h
  exact ⟨G, hs, h1, h0, h2.other (by omega) _, h3, fun j hj => ⟨(h5 j hj).1, (h5 j hj).2.1, (h5 j hj).2.2.1, (h5 j hj).2.2.2.1, (h5 j hj).2.2.2.2.other (by have := (h5 j hj).2.2.1; omega) _⟩, h6⟩
theorem rowB_falses (n : Nat) : (madeCells (Value.bool false).cells (n * 1)).toList = rowB n (fun _ => false) := by
  rw [made_falses, rowB_zero]
theorem own_cellB {w : World} {B g n c k : Nat} {T : TypeId} {f : Nat → Bool} (h : w.ownsRow B T 1 (.slice (some ⟨g, 0, none⟩) n c) n (rowB n f)) (hk : k < n) : w.cell? ⟨g, k, none⟩ = some (.bool (f k)) := by
  rw [h.cellAt k (by omega)]
  exact rowB_get f hk
theorem setTo_row (F : Nat → Nat) (k : Nat) : (fun j => if j = F k then true else (setTo F k).testBit j) = fun j => (setTo F (k + 1)).testBit j := by
  funext j
  simp only [setTo]
  rw [Nat.testBit_or, Nat.testBit_two_pow]
  by_cases h : j = F k
  · simp [h]
  · rw [if_neg h, decide_eq_false (fun e => h e.symm), Bool.or_false]
theorem start_beside (b : Nat → Nat → Bool) (F : Nat → Nat) (k : Nat) : besideTo b F k 0 = ((k : Int) == 0) := by
  rw [Bool.eq_iff_iff]
  simp [besideTo]
theorem asm_len {b : Nat → Nat → Bool} {R : Nat → Bool} {F : Nat → Nat} {n o m : Nat} (h : StepI b R F m) (h2 : ∀ j, j < m → F j ≠ o) : AsmOk b R F n o m ↔ m + 1 = n := ⟨fun q => q.1, fun q => ⟨q, h, h2⟩⟩
end Go.Proofs.YtabgcpoaepafjaaGreat
