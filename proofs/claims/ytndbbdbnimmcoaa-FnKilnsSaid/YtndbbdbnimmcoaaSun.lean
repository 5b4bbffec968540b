/- Walks of small functions on nodes, firings and the sun: what each returns, for all arguments. No condition. -/
import Derived.Test.YtndbbdbnimmcoaaBase
set_option linter.unusedSimpArgs false
set_option linter.unusedVariables false
namespace Go.Proofs.Ytndbbdbnimmcoaa
open Go.RowKit

def firingOk (a b c : Int) : Bool := inR a 400 900 && inR b 1 24 && inR c 1 100
theorem firingOk_true {a b c : Int} (h : firingOk a b c = true) : 400 ≤ a ∧ a ≤ 900 ∧ 1 ≤ b ∧ b ≤ 24 ∧ 1 ≤ c ∧ c ≤ 100 := by simp [firingOk, inR] at h; omega
def sunOk (a b c : Int) : Bool := inR a (-1000) 1000 && inR b 1 1000 && inR c 1 100
theorem sunOk_true {a b c : Int} (h : sunOk a b c = true) : -1000 ≤ a ∧ a ≤ 1000 ∧ 1 ≤ b ∧ b ≤ 1000 ∧ 1 ≤ c ∧ c ≤ 100 := by simp [sunOk, inR] at h; omega
def nodeOk (a b : Int) : Bool := inR a 0 20 && inR b 0 20
theorem nodeOk_true {a b : Int} (h : nodeOk a b = true) : 0 ≤ a ∧ a ≤ 20 ∧ 0 ≤ b ∧ b ≤ 20 := by simp [nodeOk, inR] at h; omega
theorem FiringOk_any (a b c : Int) (w : World) : Calls Try.prog 11 #[.agg #[.int .i64 a, .int .i64 b, .int .i64 c]] w fun e w' => e = .returned (.bool (firingOk a b c)) ∧ Ext w w' := by
  go_enter Try.func11, Try.ntmps11
  go_wp2_with (first | (go_at_call 20; refine (within_any _ _ _ _).mono ?_; rintro e w' ⟨rfl, rfl⟩))
  all_goals (go_ret; exact ⟨by simp [firingOk, *], (Ext.refl _).alloc _⟩)
def canShare (a b c x y z : Int) : Bool := firingOk a b c && firingOk x y z && decide (a = x) && decide (b = y) && decide (c + z ≤ 100)
theorem CanShare_any (a b c x y z : Int) (w : World) : Calls Try.prog 9 #[.agg #[.int .i64 a, .int .i64 b, .int .i64 c], .agg #[.int .i64 x, .int .i64 y, .int .i64 z]] w fun e w' => e = .returned (.bool (canShare a b c x y z)) ∧ Ext w w' := by
  by_cases h1 : firingOk a b c = true
  · by_cases h2 : firingOk x y z = true
    · have B1 := firingOk_true h1
      have B2 := firingOk_true h2
      go_enter Try.func9, Try.ntmps9
      go_wp2_with (first | (go_at_call 11; refine (FiringOk_any _ _ _ _).mono ?_; rintro e w1 ⟨rfl, hb1⟩; obtain ⟨hc1, hf1, _⟩ := hb1.facts; have hs1 := hb1.size; (try simp only [World.size_alloc] at hs1); have hz1_0 : w.heap.size < w1.heap.size := (by omega); have hz1_1 : w.heap.size + 1 < w1.heap.size := (by omega)))
      all_goals (go_ret; exact ⟨(ret_bool (by (try simp only [Bool.not_eq_true'] at *); (try simp only [Bool.not_eq_false'] at *); (try simp only [Bool.not_eq_true] at *); first | (simp [canShare, *]; done) | (simp [canShare, *]; omega) | (subst_vars; simp [canShare, *]; done) | (subst_vars; simp [canShare, *]; omega))), by repeat (first | exact kE | exact Ext.refl _ | apply Ext.alloc | apply Ext.drewN | apply Ext.drew | apply Ext.set0 | apply Ext.set1 | apply Ext.set2 | apply Ext.set3 | (refine Ext.setk ?_ (by omega) _) | (apply Ext.snoc; assumption))⟩)
    · go_enter Try.func9, Try.ntmps9
      go_wp2_with (first | (go_at_call 11; refine (FiringOk_any _ _ _ _).mono ?_; rintro e w1 ⟨rfl, hb1⟩; obtain ⟨hc1, hf1, _⟩ := hb1.facts; have hs1 := hb1.size; (try simp only [World.size_alloc] at hs1); have hz1_0 : w.heap.size < w1.heap.size := (by omega); have hz1_1 : w.heap.size + 1 < w1.heap.size := (by omega)))
      all_goals (go_ret; exact ⟨(ret_bool (by (try simp only [Bool.not_eq_true'] at *); (try simp only [Bool.not_eq_false'] at *); (try simp only [Bool.not_eq_true] at *); first | (simp [canShare, *]; done) | (simp [canShare, *]; omega) | (subst_vars; simp [canShare, *]; done) | (subst_vars; simp [canShare, *]; omega))), by repeat (first | exact kE | exact Ext.refl _ | apply Ext.alloc | apply Ext.drewN | apply Ext.drew | apply Ext.set0 | apply Ext.set1 | apply Ext.set2 | apply Ext.set3 | (refine Ext.setk ?_ (by omega) _) | (apply Ext.snoc; assumption))⟩)
  · go_enter Try.func9, Try.ntmps9
    go_wp2_with (first | (go_at_call 11; refine (FiringOk_any _ _ _ _).mono ?_; rintro e w1 ⟨rfl, hb1⟩; obtain ⟨hc1, hf1, _⟩ := hb1.facts; have hs1 := hb1.size; (try simp only [World.size_alloc] at hs1); have hz1_0 : w.heap.size < w1.heap.size := (by omega); have hz1_1 : w.heap.size + 1 < w1.heap.size := (by omega)))
    all_goals (go_ret; exact ⟨(ret_bool (by (try simp only [Bool.not_eq_true'] at *); (try simp only [Bool.not_eq_false'] at *); (try simp only [Bool.not_eq_true] at *); first | (simp [canShare, *]; done) | (simp [canShare, *]; omega) | (subst_vars; simp [canShare, *]; done) | (subst_vars; simp [canShare, *]; omega))), by repeat (first | exact kE | exact Ext.refl _ | apply Ext.alloc | apply Ext.drewN | apply Ext.drew | apply Ext.set0 | apply Ext.set1 | apply Ext.set2 | apply Ext.set3 | (refine Ext.setk ?_ (by omega) _) | (apply Ext.snoc; assumption))⟩)

end Go.Proofs.Ytndbbdbnimmcoaa
