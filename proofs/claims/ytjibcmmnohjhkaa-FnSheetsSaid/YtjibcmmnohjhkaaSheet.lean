/- Walks of the chapter on sheets: what each function returns, for all arguments. No condition. -/
import Derived.Test.YtjibcmmnohjhkaaBase
set_option linter.unusedSimpArgs false
set_option linter.unusedVariables false
namespace Go.Proofs.Ytjibcmmnohjhkaa
open Go.RowKit

def sheetOk (a b : Int) : Bool := inR a 1 40 && inR b 1 40
theorem sheetOk_true {a b : Int} (h : sheetOk a b = true) : 1 ≤ a ∧ a ≤ 40 ∧ 1 ≤ b ∧ b ≤ 40 := by simp [sheetOk, inR] at h; omega
theorem SheetOk_any (a b : Int) (w : World) : Calls Try.prog 46 #[.agg #[.int .i64 a, .int .i64 b]] w fun e w' => e = .returned (.bool (sheetOk a b)) ∧ Ext w w' := by
  go_enter Try.func46, Try.ntmps46
  go_wp2_with (first | (go_at_call 52; refine (within_any _ _ _ _).mono ?_; rintro e w' ⟨rfl, rfl⟩))
  all_goals (go_ret; exact ⟨by simp [sheetOk, *], (Ext.refl _).alloc _⟩)
theorem sSheetOk_any (a b : Int) (w : World) : Calls Try.prog 50 #[.agg #[.int .i64 a, .int .i64 b]] w fun e w' => e = .returned (.bool (sheetOk a b)) ∧ Ext w w' := by
  go_enter Try.func50, Try.ntmps50
  go_wp2_with (first | (go_at_call 49; refine (l01In_any _ _ _ _).mono ?_; rintro e w' ⟨rfl, rfl⟩))
  all_goals (go_ret; exact ⟨by simp [sheetOk, *], (Ext.refl _).alloc _⟩)
theorem toSheet_any (a b : Int) (w : World) : Calls Try.prog 14 #[.agg #[.int .i64 a, .int .i64 b]] w fun e w' => e = .returned (.agg #[.int .i64 a, .int .i64 b]) ∧ Ext w w' := by
  go_enter Try.func14, Try.ntmps14
  go_wp2
  go_returns
  exact ⟨rfl, by repeat (first | exact kE | exact Ext.refl _ | apply Ext.alloc | apply Ext.drewN | apply Ext.drew | apply Ext.set0 | apply Ext.set1 | apply Ext.set2 | apply Ext.set3 | (refine Ext.setk ?_ (by omega) _) | (apply Ext.snoc; assumption))⟩
def fits (a b c d : Int) (g : Bool) : Bool := sheetOk a b && sheetOk c d && (decide (c ≤ a ∧ d ≤ b) || (!g && decide (d ≤ a ∧ c ≤ b)))
theorem FitsSheet_any (a b c d : Int) (g : Bool) (w : World) : Calls Try.prog 45 #[.agg #[.int .i64 a, .int .i64 b], .agg #[.int .i64 c, .int .i64 d], .bool g] w fun e w' => e = .returned (.bool (fits a b c d g)) ∧ Ext w w' := by
  go_enter Try.func45, Try.ntmps45
  go_wp2_with (first | (go_at_call 46; refine (SheetOk_any _ _ _).mono ?_; rintro e w1 ⟨rfl, hb1⟩; obtain ⟨hc1, hf1, _⟩ := hb1.facts; have hs1 := hb1.size; (try simp only [World.size_alloc] at hs1); have hz1_0 : w.heap.size < w1.heap.size := (by omega); have hz1_1 : w.heap.size + 1 < w1.heap.size := (by omega)))
  all_goals (go_ret; exact ⟨(ret_bool (by (try simp only [Bool.not_eq_true'] at *); (try simp only [Bool.not_eq_false'] at *); (try simp only [Bool.not_eq_true] at *); first | (simp [fits, *]; done) | (simp [fits, *]; omega) | (subst_vars; simp [fits, *]; done) | (subst_vars; simp [fits, *]; omega))), by repeat (first | exact kE | exact Ext.refl _ | apply Ext.alloc | apply Ext.drewN | apply Ext.drew | apply Ext.set0 | apply Ext.set1 | apply Ext.set2 | apply Ext.set3 | (refine Ext.setk ?_ (by omega) _) | (apply Ext.snoc; assumption))⟩)
theorem sFitsSheet_any (a b c d : Int) (g : Bool) (w : World) : Calls Try.prog 47 #[.agg #[.int .i64 a, .int .i64 b], .agg #[.int .i64 c, .int .i64 d], .bool g] w fun e w' => e = .returned (.bool (fits a b c d g)) ∧ Ext w w' := by
  go_enter Try.func47, Try.ntmps47
  go_wp2_with (first | (go_at_call 50; refine (sSheetOk_any _ _ _).mono ?_; rintro e w1 ⟨rfl, hb1⟩; obtain ⟨hc1, hf1, _⟩ := hb1.facts; have hs1 := hb1.size; (try simp only [World.size_alloc] at hs1); have hz1_0 : w.heap.size < w1.heap.size := (by omega); have hz1_1 : w.heap.size + 1 < w1.heap.size := (by omega)))
  all_goals (go_ret; exact ⟨(ret_bool (by (try simp only [Bool.not_eq_true'] at *); (try simp only [Bool.not_eq_false'] at *); (try simp only [Bool.not_eq_true] at *); first | (simp [fits, *]; done) | (simp [fits, *]; omega) | (subst_vars; simp [fits, *]; done) | (subst_vars; simp [fits, *]; omega))), by repeat (first | exact kE | exact Ext.refl _ | apply Ext.alloc | apply Ext.drewN | apply Ext.drew | apply Ext.set0 | apply Ext.set1 | apply Ext.set2 | apply Ext.set3 | (refine Ext.setk ?_ (by omega) _) | (apply Ext.snoc; assumption))⟩)
def most (a b c d : Int) : Int := if sheetOk a b && sheetOk c d then (a / c) * (b / d) else 0
theorem most_bound {a c : Int} (h1 : 0 ≤ a) (h2 : a ≤ 40) (h3 : 1 ≤ c) : 0 ≤ a / c ∧ a / c ≤ 40 :=
  ⟨Int.ediv_nonneg h1 (by omega), Int.le_trans (Int.ediv_le_self _ h1) h2⟩
theorem MostPieces_any (a b c d : Int) (w : World) : Calls Try.prog 44 #[.agg #[.int .i64 a, .int .i64 b], .agg #[.int .i64 c, .int .i64 d]] w fun e w' => e = .returned (.int .i64 (most a b c d)) ∧ Ext w w' := by
  by_cases h1 : sheetOk a b = true
  · by_cases h2 : sheetOk c d = true
    · have B1 := sheetOk_true h1
      have B2 := sheetOk_true h2
      have e1 := most_bound (a := a) (c := c) (by omega) (by omega) (by omega)
      have e2 := most_bound (a := b) (c := d) (by omega) (by omega) (by omega)
      have e3 : 0 ≤ (a / c) * (b / d) := Int.mul_nonneg e1.1 e2.1
      have e4 : (a / c) * (b / d) ≤ 1600 := Int.le_trans (Int.mul_le_mul e1.2 e2.2 e2.1 (by omega)) (by omega)
      have hc0 : (c == 0) = false := by rw [beq_eq_false_iff_ne]; omega
      have hd0 : (d == 0) = false := by rw [beq_eq_false_iff_ne]; omega
      go_enter Try.func44, Try.ntmps44
      go_wp2_with (first | (go_at_call 46; refine (SheetOk_any _ _ _).mono ?_; rintro e w1 ⟨rfl, hb1⟩; obtain ⟨hc1, hf1, _⟩ := hb1.facts; have hs1 := hb1.size; (try simp only [World.size_alloc] at hs1); have hz1_0 : w.heap.size < w1.heap.size := (by omega); have hz1_1 : w.heap.size + 1 < w1.heap.size := (by omega)))
      go_quiet (fail)
      go_wp2
      go_ret
      exact ⟨ret_int (by simp [most, h1, h2]), by repeat (first | exact kE | exact Ext.refl _ | apply Ext.alloc | apply Ext.drewN | apply Ext.drew | apply Ext.set0 | apply Ext.set1 | apply Ext.set2 | apply Ext.set3 | (refine Ext.setk ?_ (by omega) _) | (apply Ext.snoc; assumption))⟩
    · go_enter Try.func44, Try.ntmps44
      go_wp2_with (first | (go_at_call 46; refine (SheetOk_any _ _ _).mono ?_; rintro e w1 ⟨rfl, hb1⟩; obtain ⟨hc1, hf1, _⟩ := hb1.facts; have hs1 := hb1.size; (try simp only [World.size_alloc] at hs1); have hz1_0 : w.heap.size < w1.heap.size := (by omega); have hz1_1 : w.heap.size + 1 < w1.heap.size := (by omega)))
      go_ret
      exact ⟨ret_int (by simp [most, h2]), by repeat (first | exact kE | exact Ext.refl _ | apply Ext.alloc | apply Ext.drewN | apply Ext.drew | apply Ext.set0 | apply Ext.set1 | apply Ext.set2 | apply Ext.set3 | (refine Ext.setk ?_ (by omega) _) | (apply Ext.snoc; assumption))⟩
  · go_enter Try.func44, Try.ntmps44
    go_wp2_with (first | (go_at_call 46; refine (SheetOk_any _ _ _).mono ?_; rintro e w1 ⟨rfl, hb1⟩; obtain ⟨hc1, hf1, _⟩ := hb1.facts; have hs1 := hb1.size; (try simp only [World.size_alloc] at hs1); have hz1_0 : w.heap.size < w1.heap.size := (by omega); have hz1_1 : w.heap.size + 1 < w1.heap.size := (by omega)))
    go_ret
    exact ⟨ret_int (by simp [most, h1]), by repeat (first | exact kE | exact Ext.refl _ | apply Ext.alloc | apply Ext.drewN | apply Ext.drew | apply Ext.set0 | apply Ext.set1 | apply Ext.set2 | apply Ext.set3 | (refine Ext.setk ?_ (by omega) _) | (apply Ext.snoc; assumption))⟩

end Go.Proofs.Ytjibcmmnohjhkaa
