/- Walks of the chapter on stains: what each function returns, for all arguments. No condition. -/
import Derived.Test.YtabgcpoaepafjaaGreatMem
import Derived.Test.YtabgcpoaepafjaaGreatReg
set_option linter.unusedSimpArgs false
set_option linter.unusedVariables false
namespace Go.Proofs.YtabgcpoaepafjaaGreat
open Go.RowKit

def stainOk (a b c : Int) : Bool := inR a 0 1000 && inR b 0 1000 && inR c 0 1000
theorem stainOk_true {a b c : Int} (h : stainOk a b c = true) : 0 ≤ a ∧ a ≤ 1000 ∧ 0 ≤ b ∧ b ≤ 1000 ∧ 0 ≤ c ∧ c ≤ 1000 := by
  simp [stainOk, inR] at h; omega

theorem StainOk_any (a b c : Int) (w : World) : Calls Tryz.prog 66 #[.agg #[.int .i64 a, .int .i64 b, .int .i64 c]] w fun e w' => e = .returned (.bool (stainOk a b c)) ∧ Ext w w' := by
  go_enter Tryz.func66, Tryz.ntmps66
  go_wp2_with fail
  refine (allWithin_any [a, b, c] _ _ _ _ _ (by simp) (Rds_new _ _ _ _ _ _ rfl (by simp))).mono ?_
  rintro e w' ⟨rfl, rfl⟩
  go_wp2
  go_ret
  exact ⟨ret_bool (by simp [stainOk, Bool.and_assoc]), by repeat (first | exact Ext.refl _ | apply Ext.alloc)⟩

theorem sStainOk_any (a b c : Int) (w : World) : Calls Tryz.prog 23 #[.agg #[.int .i64 a, .int .i64 b, .int .i64 c]] w fun e w' => e = .returned (.bool (stainOk a b c)) ∧ Ext w w' := by
  go_enter Tryz.func23, Tryz.ntmps23
  go_wp2_with (first | (go_at_call 65; refine (l01In_any _ _ _ _).mono ?_; rintro e w' ⟨rfl, rfl⟩))
  all_goals (go_ret; exact ⟨by simp [stainOk, *], (Ext.refl _).alloc _⟩)

end Go.Proofs.YtabgcpoaepafjaaGreat
