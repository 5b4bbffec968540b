/- Walks of the chapter on sheets: what each function returns, for all arguments. No condition. -/
import Derived.Test.YtdoikenjdaeeiaaBase
namespace Go.Proofs.Ytdoikenjdaeeiaa
open Go.RowKit

def sheetV (a b : Int) : Value := .agg #[.int .i64 a, .int .i64 b]
def sheetOk (a b : Int) : Bool := inR a 1 40 && inR b 1 40
theorem SheetOk_any (a b : Int) (w : World) : Calls Try.prog 17 #[.agg #[.int .i64 a, .int .i64 b]] w fun e w' => e = .returned (.bool (sheetOk a b)) ∧ Ext w w' := by
  go_enter Try.func17, Try.ntmps17
  go_wp2_with (first | (go_at_call 48; refine (within_any _ _ _ _).mono ?_; rintro e w' ⟨rfl, rfl⟩))
  all_goals (go_ret; exact ⟨by simp [sheetOk, *], (Ext.refl _).alloc _⟩)

theorem sSheetOk_any (a b : Int) (w : World) : Calls Try.prog 15 #[.agg #[.int .i64 a, .int .i64 b]] w fun e w' => e = .returned (.bool (sheetOk a b)) ∧ Ext w w' := by
  go_enter Try.func15, Try.ntmps15
  go_wp2_with (first | (go_at_call 47; refine (l01In_any _ _ _ _).mono ?_; rintro e w' ⟨rfl, rfl⟩))
  all_goals (go_ret; exact ⟨by simp [sheetOk, *], (Ext.refl _).alloc _⟩)

theorem toSheet_any (a b : Int) (w : World) : Calls Try.prog 16 #[.agg #[.int .i64 a, .int .i64 b]] w fun e w' => e = .returned (.agg #[.int .i64 a, .int .i64 b]) ∧ Ext w w' := by
  go_enter Try.func16, Try.ntmps16
  go_wp2
  go_returns
  exact ⟨rfl, (((Ext.refl _).alloc _).alloc _).alloc _⟩
theorem FnExactSheetOk_walk (a b : Int) (w : World) : Calls Try.prog 3 #[.agg #[.int .i64 a, .int .i64 b]] w fun e w' => e = .returned (.bool true) ∧ Ext w w' := by
  go_enter Try.func3, Try.ntmps3
  go_wp2_with (first | (go_at_call 16; refine (toSheet_any _ _ _).mono ?_; rintro e w1 ⟨rfl, hb1⟩; obtain ⟨hc1, hf1, hz1⟩ := hb1.facts) | (go_at_call 15; refine (sSheetOk_any _ _ _).mono ?_; rintro e w2 ⟨rfl, hb2⟩; obtain ⟨hc2, hf2, hz2⟩ := hb2.facts) | (go_at_call 17; refine (SheetOk_any _ _ _).mono ?_; rintro e w3 ⟨rfl, hb3⟩; obtain ⟨hc3, hf3, hz3⟩ := hb3.facts))
  go_ret
  exact ⟨rfl, by repeat (first | exact Ext.refl _ | apply Ext.alloc | (apply Ext.snoc; assumption))⟩
end Go.Proofs.Ytdoikenjdaeeiaa
