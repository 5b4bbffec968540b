/- Walks of the chapter on stains: what each function returns, for all arguments. No condition. -/
import Derived.Test.YtkgbilbicdiadaaInts
import Derived.Test.YtkgbilbicdiadaaReg
set_option linter.unusedSimpArgs false
set_option linter.unusedVariables false
namespace Go.Proofs.Ytkgbilbicdiadaa
open Go.RowKit

def stainOk (a b c : Int) : Bool := inR a 0 1000 && inR b 0 1000 && inR c 0 1000
theorem stainOk_true {a b c : Int} (h : stainOk a b c = true) : 0 ≤ a ∧ a ≤ 1000 ∧ 0 ≤ b ∧ b ≤ 1000 ∧ 0 ≤ c ∧ c ≤ 1000 := by
  simp [stainOk, inR] at h; omega

theorem StainOk_any (a b c : Int) (w : World) : Calls Try.prog 149 #[.agg #[.int .i64 a, .int .i64 b, .int .i64 c]] w fun e w' => e = .returned (.bool (stainOk a b c)) ∧ Ext w w' := by
  go_enter Try.func149, Try.ntmps149
  go_wp2_with fail
  refine (allWithin_any [a, b, c] _ _ _ _ _ (by simp) (Rds_new _ _ _ _ _ _ rfl (by simp))).mono ?_
  rintro e w' ⟨rfl, rfl⟩
  go_wp2
  go_ret
  exact ⟨ret_bool (by simp [stainOk, Bool.and_assoc]), by repeat (first | exact Ext.refl _ | apply Ext.alloc)⟩

theorem sStainOk_any (a b c : Int) (w : World) : Calls Try.prog 148 #[.agg #[.int .i64 a, .int .i64 b, .int .i64 c]] w fun e w' => e = .returned (.bool (stainOk a b c)) ∧ Ext w w' := by
  go_enter Try.func148, Try.ntmps148
  go_wp2_with (first | (go_at_call 95; refine (l01In_any _ _ _ _).mono ?_; rintro e w' ⟨rfl, rfl⟩))
  all_goals (go_ret; exact ⟨by simp [stainOk, *], (Ext.refl _).alloc _⟩)

theorem toStain_any (a b c : Int) (w : World) : Calls Try.prog 109 #[.agg #[.int .i64 a, .int .i64 b, .int .i64 c]] w fun e w' => e = .returned (.agg #[.int .i64 a, .int .i64 b, .int .i64 c]) ∧ Ext w w' := by
  go_enter Try.func109, Try.ntmps109
  go_wp2
  go_returns
  exact ⟨rfl, (((Ext.refl _).alloc _).alloc _).alloc _⟩
theorem eqStain_any (a b c x y z : Int) (w : World) : Calls Try.prog 113 #[.agg #[.int .i64 a, .int .i64 b, .int .i64 c], .agg #[.int .i64 x, .int .i64 y, .int .i64 z]] w fun e w' => e = .returned (.bool (decide (a = x ∧ b = y ∧ c = z))) ∧ Ext w w' := by
  go_enter Try.func113, Try.ntmps113
  go_wp2
  all_goals (go_ret; exact ⟨ret_bool (by simp_all), by repeat (first | exact Ext.refl _ | apply Ext.alloc)⟩)
end Go.Proofs.Ytkgbilbicdiadaa
