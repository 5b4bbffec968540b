/- More walks of the chapter on flaws: spots in a rectangle. No condition but small numbers and lists. -/
import Derived.Test.YtgaeafjmofbkbaaFlaw
set_option linter.unusedSimpArgs false
set_option linter.unusedVariables false
namespace Go.Proofs.Ytgaeafjmofbkbaa
open Go.RowKit

def lies (s a p : P2) : Bool := decide (a.1 ≤ s.1) && decide (s.1 - a.1 < p.1) && decide (a.2 ≤ s.2) && decide (s.2 - a.2 < p.2)
theorem liesIn_any (s0 s1 a0 a1 p0 p1 : Int) (w : World) (hs : -2000 ≤ s0 ∧ s0 ≤ 2000 ∧ -2000 ≤ s1 ∧ s1 ≤ 2000) (ha : -2000 ≤ a0 ∧ a0 ≤ 2000 ∧ -2000 ≤ a1 ∧ a1 ≤ 2000) :
    Calls Try.prog 16 #[.agg #[.int .i64 s0, .int .i64 s1], .agg #[.int .i64 a0, .int .i64 a1], .agg #[.int .i64 p0, .int .i64 p1]] w fun e w' => e = .returned (.bool (lies (s0, s1) (a0, a1) (p0, p1))) ∧ Ext w w' := by
  obtain ⟨b1, b2, b3, b4⟩ := hs
  obtain ⟨b5, b6, b7, b8⟩ := ha
  by_cases h1 : a0 ≤ s0
  · by_cases h2 : a1 ≤ s1
    · by_cases h3 : s0 - a0 < p0
      · by_cases h4 : s1 - a1 < p1
        all_goals
          go_enter Try.func16, Try.ntmps16
          go_wp2
          go_ret
          exact ⟨(ret_bool (by (try simp only [Bool.not_eq_true'] at *); (try simp only [Bool.not_eq_false'] at *); (try simp only [Bool.not_eq_true] at *); first | (simp [lies, *]; done) | (simp [lies, *]; omega) | (subst_vars; simp [lies, *]; done) | (subst_vars; simp [lies, *]; omega))), by repeat (first | exact kE | exact Ext.refl _ | apply Ext.alloc | apply Ext.drewN | apply Ext.drew | apply Ext.set0 | apply Ext.set1 | apply Ext.set2 | apply Ext.set3 | (refine Ext.setk ?_ (by omega) _) | (apply Ext.snoc; assumption))⟩
      · go_enter Try.func16, Try.ntmps16
        go_wp2
        go_ret
        exact ⟨(ret_bool (by (try simp only [Bool.not_eq_true'] at *); (try simp only [Bool.not_eq_false'] at *); (try simp only [Bool.not_eq_true] at *); first | (simp [lies, *]; done) | (simp [lies, *]; omega) | (subst_vars; simp [lies, *]; done) | (subst_vars; simp [lies, *]; omega))), by repeat (first | exact kE | exact Ext.refl _ | apply Ext.alloc | apply Ext.drewN | apply Ext.drew | apply Ext.set0 | apply Ext.set1 | apply Ext.set2 | apply Ext.set3 | (refine Ext.setk ?_ (by omega) _) | (apply Ext.snoc; assumption))⟩
    · by_cases h3 : s0 - a0 < p0
      all_goals
        go_enter Try.func16, Try.ntmps16
        go_wp2
        go_ret
        exact ⟨(ret_bool (by (try simp only [Bool.not_eq_true'] at *); (try simp only [Bool.not_eq_false'] at *); (try simp only [Bool.not_eq_true] at *); first | (simp [lies, *]; done) | (simp [lies, *]; omega) | (subst_vars; simp [lies, *]; done) | (subst_vars; simp [lies, *]; omega))), by repeat (first | exact kE | exact Ext.refl _ | apply Ext.alloc | apply Ext.drewN | apply Ext.drew | apply Ext.set0 | apply Ext.set1 | apply Ext.set2 | apply Ext.set3 | (refine Ext.setk ?_ (by omega) _) | (apply Ext.snoc; assumption))⟩
  · go_enter Try.func16, Try.ntmps16
    go_wp2
    go_ret
    exact ⟨(ret_bool (by (try simp only [Bool.not_eq_true'] at *); (try simp only [Bool.not_eq_false'] at *); (try simp only [Bool.not_eq_true] at *); first | (simp [lies, *]; done) | (simp [lies, *]; omega) | (subst_vars; simp [lies, *]; done) | (subst_vars; simp [lies, *]; omega))), by repeat (first | exact kE | exact Ext.refl _ | apply Ext.alloc | apply Ext.drewN | apply Ext.drew | apply Ext.set0 | apply Ext.set1 | apply Ext.set2 | apply Ext.set3 | (refine Ext.setk ?_ (by omega) _) | (apply Ext.snoc; assumption))⟩

end Go.Proofs.Ytgaeafjmofbkbaa
