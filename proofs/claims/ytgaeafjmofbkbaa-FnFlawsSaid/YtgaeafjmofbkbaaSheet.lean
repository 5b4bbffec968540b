/- Walks of the chapter on sheets: what each function returns, for all arguments. No condition. -/
import Derived.Test.YtgaeafjmofbkbaaBase
set_option linter.unusedSimpArgs false
set_option linter.unusedVariables false
namespace Go.Proofs.Ytgaeafjmofbkbaa
open Go.RowKit

def sheetOk (a b : Int) : Bool := inR a 1 40 && inR b 1 40
theorem sheetOk_true {a b : Int} (h : sheetOk a b = true) : 1 ≤ a ∧ a ≤ 40 ∧ 1 ≤ b ∧ b ≤ 40 := by simp [sheetOk, inR] at h; omega
theorem SheetOk_any (a b : Int) (w : World) : Calls Try.prog 14 #[.agg #[.int .i64 a, .int .i64 b]] w fun e w' => e = .returned (.bool (sheetOk a b)) ∧ Ext w w' := by
  go_enter Try.func14, Try.ntmps14
  go_wp2_with (first | (go_at_call 15; refine (within_any _ _ _ _).mono ?_; rintro e w' ⟨rfl, rfl⟩))
  all_goals (go_ret; exact ⟨by simp [sheetOk, *], (Ext.refl _).alloc _⟩)

end Go.Proofs.Ytgaeafjmofbkbaa
