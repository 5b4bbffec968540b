/- Words for lists of triples. No condition. -/
import Derived.Test.YtkgbilbicdiadaaNodes
set_option linter.unusedSimpArgs false
set_option linter.unusedVariables false
namespace Go.Proofs.Ytkgbilbicdiadaa
open Go.RowKit
theorem take_set3 (xs : List Value) (k : Nat) (a b c : Value) (h : k * 3 + 2 < xs.length) : (((xs.set (k * 3) a).set (k * 3 + 1) b).set (k * 3 + 2) c).take ((k + 1) * 3) = xs.take (k * 3) ++ [a, b, c] := by
  apply List.ext_getElem?
  intro j
  by_cases h1 : j < k * 3
  · rw [List.getElem?_take_of_lt (by omega), List.getElem?_set_ne (by omega), List.getElem?_set_ne (by omega), List.getElem?_set_ne (by omega), List.getElem?_append_left (by simp; omega), List.getElem?_take_of_lt h1]
  · have hl : (xs.take (k * 3)).length = k * 3 := by simp; omega
    by_cases h2 : j = k * 3
    · subst h2
      rw [List.getElem?_take_of_lt (by omega), List.getElem?_set_ne (by omega), List.getElem?_set_ne (by omega), List.getElem?_set_self (by omega), List.getElem?_append_right (by omega), hl]
      simp
    · by_cases h3 : j = k * 3 + 1
      · subst h3
        rw [List.getElem?_take_of_lt (by omega), List.getElem?_set_ne (by omega), List.getElem?_set_self (by simp; omega), List.getElem?_append_right (by omega), hl]
        simp
      · by_cases h4 : j = k * 3 + 2
        · subst h4
          rw [List.getElem?_take_of_lt (by omega), List.getElem?_set_self (by simp; omega), List.getElem?_append_right (by omega), hl]
          simp
        · rw [List.getElem?_eq_none (by simp; omega), List.getElem?_eq_none (by simp; omega)]
theorem enc3_take_succ (l : List P3) (k : Nat) (h : k < l.length) : enc3 (l.take (k + 1)) = enc3 (l.take k) ++ [.int .i64 l[k].1, .int .i64 l[k].2.1, .int .i64 l[k].2.2] := by
  rw [List.take_succ_eq_append_getElem h, enc3_append]
  rfl
def eq3 (a b c x y z : Int) : Bool := decide (a = x) && decide (b = y) && decide (c = z)
theorem eq3_iff (a b c x y z : Int) : eq3 a b c x y z = true ↔ a = x ∧ b = y ∧ c = z := by simp [eq3, and_assoc]
end Go.Proofs.Ytkgbilbicdiadaa
