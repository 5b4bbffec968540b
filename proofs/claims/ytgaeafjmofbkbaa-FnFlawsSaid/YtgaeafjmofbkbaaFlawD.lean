/- The walk of the reference's CountSpots. No condition but that a list has at most 1048576 elements. -/
import Derived.Test.YtgaeafjmofbkbaaFlawC
set_option linter.unusedSimpArgs false
set_option linter.unusedVariables false
namespace Go.Proofs.Ytgaeafjmofbkbaa
open Go.RowKit

theorem mem_take_succ (l : List P2) (p : P2) (i : Nat) (h : i < l.length) : p ∈ l.take (i + 1) ↔ p ∈ l.take i ∨ l[i] = p := by
  rw [List.take_succ_eq_append_getElem h, List.mem_append]
  simp [eq_comm]
def fresh (l : List P2) (k i : Nat) : Bool := match l[k]? with | some p => !decide (p ∈ l.take i) | none => true
theorem fresh_at {l : List P2} {k : Nat} (h : k < l.length) (i : Nat) : fresh l k i = !decide (l[k] ∈ l.take i) := by simp [fresh, h]
theorem fresh_zero (l : List P2) (k : Nat) : fresh l k 0 = true := by unfold fresh; cases l[k]? <;> simp
theorem fresh_hit {l : List P2} {k i : Nat} (h : k < l.length) (hi : i < l.length) (he : l[i] = l[k]) : fresh l k (i + 1) = false := by
  rw [fresh_at h]
  have : l[k] ∈ l.take (i + 1) := (mem_take_succ l _ i hi).2 (.inr he)
  simp [this]
theorem fresh_no {l : List P2} {k i : Nat} (h : k < l.length) (hf : fresh l k i = false) (hi : i < l.length) : fresh l k (i + 1) = false := by
  rw [fresh_at h] at hf ⊢
  have h1 : l[k] ∈ l.take i := by simpa using hf
  have : l[k] ∈ l.take (i + 1) := (mem_take_succ l _ i hi).2 (.inl h1)
  simp [this]
theorem fresh_on {l : List P2} {k i : Nat} (h : k < l.length) (hi : i < l.length) (hf : fresh l k i = true) (he : l[i] ≠ l[k]) : fresh l k (i + 1) = true := by
  rw [fresh_at h] at hf ⊢
  have h1 : ¬ l[k] ∈ l.take i := by simpa using hf
  have : ¬ l[k] ∈ l.take (i + 1) := fun hm => by
    rcases (mem_take_succ l _ i hi).1 hm with h2 | h2
    · exact h1 h2
    · exact he h2
  simp [this]
end Go.Proofs.Ytgaeafjmofbkbaa
