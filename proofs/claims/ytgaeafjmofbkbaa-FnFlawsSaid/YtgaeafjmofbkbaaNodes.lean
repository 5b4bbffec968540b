/- Walks of the helpers on lists of nodes. No condition but that a list has at most 1048576 elements. -/
import Derived.Test.YtgaeafjmofbkbaaMem
set_option linter.unusedSimpArgs false
set_option linter.unusedVariables false
namespace Go.Proofs.Ytgaeafjmofbkbaa
open Go.RowKit

theorem ext_grown {w w' : World} (h : Ext w w') (row : Option Nat) : w.grownBy w' row := ⟨h.os, h.tape, h.output, h.size, fun k hk _ => h.block k hk⟩
theorem own_ext {w w' : World} {base n sz : Nat} {e : TypeId} {v : Value} {xs : List Value} (h : w.ownsRow base e sz v n xs) (hE : Ext w w') : w'.ownsRow base e sz v n xs := by
  rcases hv : v.ownBlock with _ | g
  · exact h.kept (ext_grown hE none) (.inl hv)
  · exact h.kept (ext_grown hE none) (.inr (by rw [hv]; simp))

def szR (n : Nat) (left : Int) : Int := if left < n then -1 else left - n
theorem take_set2 (xs : List Value) (k : Nat) (a b : Value) (h : k * 2 + 1 < xs.length) : ((xs.set (k * 2) a).set (k * 2 + 1) b).take ((k + 1) * 2) = xs.take (k * 2) ++ [a, b] := by
  apply List.ext_getElem?
  intro j
  by_cases h1 : j < k * 2
  · rw [List.getElem?_take_of_lt (by omega), List.getElem?_set_ne (by omega), List.getElem?_set_ne (by omega), List.getElem?_append_left (by simp; omega), List.getElem?_take_of_lt h1]
  · by_cases h2 : j = k * 2
    · subst h2
      rw [List.getElem?_take_of_lt (by omega), List.getElem?_set_ne (by omega), List.getElem?_set_self (by omega), List.getElem?_append_right (by simp; omega)]
      simp [Nat.min_eq_left (show k * 2 ≤ xs.length by omega)]
    · by_cases h3 : j = k * 2 + 1
      · subst h3
        rw [List.getElem?_take_of_lt (by omega), List.getElem?_set_self (by simp; omega), List.getElem?_append_right (by simp; omega)]
        simp [Nat.min_eq_left (show k * 2 ≤ xs.length by omega)]
      · rw [List.getElem?_eq_none (by simp; omega), List.getElem?_eq_none (by simp; omega)]
theorem enc2_take_succ (l : List P2) (k : Nat) (h : k < l.length) : enc2 (l.take (k + 1)) = enc2 (l.take k) ++ [.int .i64 l[k].1, .int .i64 l[k].2] := by
  rw [List.take_succ_eq_append_getElem h, enc2_append]
  rfl
def eq2 (a b x y : Int) : Bool := decide (a = x) && decide (b = y)
theorem eq2_iff (a b x y : Int) : eq2 a b x y = true ↔ a = x ∧ b = y := by simp [eq2]
end Go.Proofs.Ytgaeafjmofbkbaa
