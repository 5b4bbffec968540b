/- Walks of the chapter on stains: what each function returns, for all arguments. No condition. -/
import Derived.Test.YtlpononcpocmoaaDoorInts
import Derived.Test.YtlpononcpocmoaaDoorReg
set_option linter.unusedSimpArgs false
set_option linter.unusedVariables false
namespace Go.Proofs.YtlpononcpocmoaaDoor
open Go.RowKit

def stainOk (a b c : Int) : Bool := inR a 0 1000 && inR b 0 1000 && inR c 0 1000
theorem stainOk_true {a b c : Int} (h : stainOk a b c = true) : 0 ≤ a ∧ a ≤ 1000 ∧ 0 ≤ b ∧ b ≤ 1000 ∧ 0 ≤ c ∧ c ≤ 1000 := by
  simp [stainOk, inR] at h; omega

theorem StainOk_any (a b c : Int) (w : World) : Calls Tryd.prog 13 #[.agg #[.int .i64 a, .int .i64 b, .int .i64 c]] w fun e w' => e = .returned (.bool (stainOk a b c)) ∧ Ext w w' := by
  go_enter Tryd.func13, Tryd.ntmps13
  go_wp2_with fail
  refine (allWithin_any [a, b, c] _ _ _ _ _ (by simp) (Rds_new _ _ _ _ _ _ rfl (by simp))).mono ?_
  rintro e w' ⟨rfl, rfl⟩
  go_wp2
  go_ret
  exact ⟨ret_bool (by simp [stainOk, Bool.and_assoc]), by repeat (first | exact Ext.refl _ | apply Ext.alloc)⟩

theorem sStainOk_any (a b c : Int) (w : World) : Calls Tryd.prog 15 #[.agg #[.int .i64 a, .int .i64 b, .int .i64 c]] w fun e w' => e = .returned (.bool (stainOk a b c)) ∧ Ext w w' := by
  go_enter Tryd.func15, Tryd.ntmps15
  go_wp2_with (first | (go_at_call 23; refine (l01In_any _ _ _ _).mono ?_; rintro e w' ⟨rfl, rfl⟩))
  all_goals (go_ret; exact ⟨by simp [stainOk, *], (Ext.refl _).alloc _⟩)

theorem toStain_any (a b c : Int) (w : World) : Calls Tryd.prog 6 #[.agg #[.int .i64 a, .int .i64 b, .int .i64 c]] w fun e w' => e = .returned (.agg #[.int .i64 a, .int .i64 b, .int .i64 c]) ∧ Ext w w' := by
  go_enter Tryd.func6, Tryd.ntmps6
  go_wp2
  go_returns
  exact ⟨rfl, (((Ext.refl _).alloc _).alloc _).alloc _⟩
theorem lay_bound {a x : Int} (h1 : 0 ≤ a) (h2 : a ≤ 1000) (h3 : 0 ≤ x) (h4 : x ≤ 1000) : 0 ≤ a * x ∧ a * x ≤ 1000000 :=
  ⟨Int.mul_nonneg h1 h3, Int.le_trans (Int.mul_le_mul h2 h4 h3 (by omega)) (by omega)⟩
def lay (a x : Int) : Int := (a * x) / 1000
def layS (a b c x y z : Int) : P3 := if stainOk a b c && stainOk x y z then (lay a x, lay b y, lay c z) else (0, 0, 0)
theorem LayStains_any (a b c x y z : Int) (w : World) : Calls Tryd.prog 10 #[.agg #[.int .i64 a, .int .i64 b, .int .i64 c], .agg #[.int .i64 x, .int .i64 y, .int .i64 z]] w fun e w' => e = .returned (.agg #[.int .i64 (layS a b c x y z).1, .int .i64 (layS a b c x y z).2.1, .int .i64 (layS a b c x y z).2.2]) ∧ Ext w w' := by
  by_cases h1 : stainOk a b c = true
  · by_cases h2 : stainOk x y z = true
    · have B1 := stainOk_true h1
      have B2 := stainOk_true h2
      have e1 := lay_bound B1.1 B1.2.1 B2.1 B2.2.1
      have e2 := lay_bound B1.2.2.1 B1.2.2.2.1 B2.2.2.1 B2.2.2.2.1
      have e3 := lay_bound B1.2.2.2.2.1 B1.2.2.2.2.2 B2.2.2.2.2.1 B2.2.2.2.2.2
      go_enter Tryd.func10, Tryd.ntmps10
      go_wp2_with (first | (go_at_call 13; refine (StainOk_any _ _ _ _).mono ?_; rintro e w1 ⟨rfl, hb1⟩; obtain ⟨hc1, hf1, _⟩ := hb1.facts; have hs1 := hb1.size; (try simp only [World.size_alloc] at hs1); have hz1_0 : w.heap.size < w1.heap.size := (by omega); have hz1_1 : w.heap.size + 1 < w1.heap.size := (by omega); have hz1_2 : w.heap.size + 1 + 1 < w1.heap.size := (by omega)))
      refine bodyPost_ret (v := .agg #[.int .i64 (a * x / 1000), .int .i64 (b * y / 1000), .int .i64 (c * z / 1000)]) (by simp only [results, Tryd.results10]; go_simp) rfl ⟨?_, ?_⟩
      · simp [layS, h1, h2, lay]
      · repeat (first | exact kE | exact Ext.refl _ | apply Ext.alloc | apply Ext.drewN | apply Ext.drew | apply Ext.set0 | apply Ext.set1 | apply Ext.set2 | apply Ext.set3 | (refine Ext.setk ?_ (by omega) _) | (apply Ext.snoc; assumption))
    · go_enter Tryd.func10, Tryd.ntmps10
      go_wp2_with (first | (go_at_call 13; refine (StainOk_any _ _ _ _).mono ?_; rintro e w1 ⟨rfl, hb1⟩; obtain ⟨hc1, hf1, _⟩ := hb1.facts; have hs1 := hb1.size; (try simp only [World.size_alloc] at hs1); have hz1_0 : w.heap.size < w1.heap.size := (by omega); have hz1_1 : w.heap.size + 1 < w1.heap.size := (by omega); have hz1_2 : w.heap.size + 1 + 1 < w1.heap.size := (by omega)))
      refine bodyPost_ret (v := .agg #[.int .i64 0, .int .i64 0, .int .i64 0]) (by simp only [results, Tryd.results10]; go_simp) rfl ⟨?_, ?_⟩
      · simp [layS, h1, h2]
      · repeat (first | exact kE | exact Ext.refl _ | apply Ext.alloc | apply Ext.drewN | apply Ext.drew | apply Ext.set0 | apply Ext.set1 | apply Ext.set2 | apply Ext.set3 | (refine Ext.setk ?_ (by omega) _) | (apply Ext.snoc; assumption))
  · go_enter Tryd.func10, Tryd.ntmps10
    go_wp2_with (first | (go_at_call 13; refine (StainOk_any _ _ _ _).mono ?_; rintro e w1 ⟨rfl, hb1⟩; obtain ⟨hc1, hf1, _⟩ := hb1.facts; have hs1 := hb1.size; (try simp only [World.size_alloc] at hs1); have hz1_0 : w.heap.size < w1.heap.size := (by omega); have hz1_1 : w.heap.size + 1 < w1.heap.size := (by omega); have hz1_2 : w.heap.size + 1 + 1 < w1.heap.size := (by omega)))
    refine bodyPost_ret (v := .agg #[.int .i64 0, .int .i64 0, .int .i64 0]) (by simp only [results, Tryd.results10]; go_simp) rfl ⟨?_, ?_⟩
    · simp [layS, h1]
    · repeat (first | exact kE | exact Ext.refl _ | apply Ext.alloc | apply Ext.drewN | apply Ext.drew | apply Ext.set0 | apply Ext.set1 | apply Ext.set2 | apply Ext.set3 | (refine Ext.setk ?_ (by omega) _) | (apply Ext.snoc; assumption))
def darker (a b c x y z : Int) : Bool := stainOk a b c && stainOk x y z && (decide (a ≤ x) && decide (b ≤ y) && decide (c ≤ z)) && !(decide (a = x) && decide (b = y) && decide (c = z))
theorem IsDarker_any (a b c x y z : Int) (w : World) : Calls Tryd.prog 14 #[.agg #[.int .i64 a, .int .i64 b, .int .i64 c], .agg #[.int .i64 x, .int .i64 y, .int .i64 z]] w fun e w' => e = .returned (.bool (darker a b c x y z)) ∧ Ext w w' := by
  go_enter Tryd.func14, Tryd.ntmps14
  go_wp2_with (first | (go_at_call 13; refine (StainOk_any _ _ _ _).mono ?_; rintro e w1 ⟨rfl, hb1⟩; obtain ⟨hc1, hf1, _⟩ := hb1.facts; have hs1 := hb1.size; (try simp only [World.size_alloc] at hs1); have hz1_0 : w.heap.size < w1.heap.size := (by omega); have hz1_1 : w.heap.size + 1 < w1.heap.size := (by omega)))
  all_goals (go_ret; exact ⟨(ret_bool (by (try simp only [Bool.not_eq_true'] at *); (try simp only [Bool.not_eq_false'] at *); (try simp only [Bool.not_eq_true] at *); first | (simp [darker, *]; done) | (simp [darker, *]; omega) | (subst_vars; simp [darker, *]; done) | (subst_vars; simp [darker, *]; omega))), by repeat (first | exact kE | exact Ext.refl _ | apply Ext.alloc | apply Ext.drewN | apply Ext.drew | apply Ext.set0 | apply Ext.set1 | apply Ext.set2 | apply Ext.set3 | (refine Ext.setk ?_ (by omega) _) | (apply Ext.snoc; assumption))⟩)
end Go.Proofs.YtlpononcpocmoaaDoor
