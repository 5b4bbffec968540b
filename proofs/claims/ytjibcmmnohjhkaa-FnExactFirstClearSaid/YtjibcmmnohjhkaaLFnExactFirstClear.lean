/- The statement of FnExactFirstClear: for every input the law returns true, and each argument reads behind the call as it read before. No condition. -/
import Derived.Test.YtjibcmmnohjhkaaRows
import Derived.Test.YtjibcmmnohjhkaaFrame
import Derived.Test.YtjibcmmnohjhkaaFlawX
import Derived.Test.YtjibcmmnohjhkaaArgs
import Derived.Lib.SmallJoins
namespace Go.Proofs.Ytjibcmmnohjhkaa
open Go.ChangeShapes Go.WideShapes Go.ChangeAt Go.RowKit Go.Joins

set_option maxRecDepth 100000 in
set_option linter.unusedVariables false in
theorem FnExactFirstClear_lifted (os : Os) (started : os.Started) (H : Type) (enc : TypeId × Value → H) :
    ReturnsInHanded {} Try.checked os 7 .any (Rows.fnExactFirstClearSpec.pre6 enc Try.prog Try.f7 [] false) (Rows.fnExactFirstClearSpec.post enc Try.prog Try.f7 false true false false) := by
  refine law_returns (C := Try.checked) own started (by kernel_rfl) Try.func7 laidOut rfl (by kernel_rfl) 4 Try.underlying4 (by kernel_rfl) ?_
    (ChangeSpec.witness6 (enc := enc) (C := Try.checked) false ⟨#[], #[.agg #[.int .i64 0, .int .i64 0, .slice none 0 0], .agg #[.int .i64 0, .int .i64 0]], []⟩ 8 (by kernel_rfl) (by kernel_rfl) (by kernel_rfl) (by kernel_rfl)) ?_
  · intro ds hd
    rw [Try.params7] at hd
    match ds, hd with
    | [d0, d1], _ => rfl
  · intro W base args ds p hval0 hA
    have hval : ∀ (j : Nat) t v, Try.f7.params[j]? = some t → args[j]? = some v → Value.okWide Try.prog W .any base t v := hval0
    have hA : DataW.TrodAll enc Try.prog W 0 (fun _ => true) true Try.f7.params.toList args.toList ds p := hA
    clear hval0
    rw [Try.params7] at hA hval
    obtain ⟨v0, vs0, d0, ds0, p0, q0, hargs, rfl, rfl, h0, r0⟩ := trodAll_cons hA
    obtain ⟨v1, vs1, d1, ds1, p1, q1, rfl, rfl, rfl, h1, r1⟩ := trodAll_cons r0
    obtain ⟨rfl, rfl, rfl⟩ := trodAll_nil r1
    obtain rfl : args = #[v0, v1] := by cases args; simp_all
    obtain ⟨x0, y0, A0, cp0, l0, rfl, hlc0, hcm0, hr0⟩ := open_sheeted Try.underlying30 rfl rfl Try.underlying23 Try.underlying28 Try.underlying40 Try.underlying3 rfl rfl rfl rfl (by kernel_rfl) (by kernel_rfl) (show Try.prog.cellsOf 40 = 2 by kernel_rfl) (show Try.prog.cellsOf 23 = 2 by kernel_rfl) (show Try.prog.cellsOf 30 = 3 by kernel_rfl) (show Try.prog.cellsOf 28 = 1 by kernel_rfl) rfl rfl (hval 0 30 v0 rfl rfl) h0
    obtain ⟨c1_0, c1_1, y1_0, y1_1, m1, rfl, rfl, rfl, hy1_0, hy1_1⟩ := open_agg2 Try.underlying23 (by kernel_rfl) (show Try.prog.cellsOf 23 = 2 by kernel_rfl) (hval 1 23 v1 rfl rfl) h1
    obtain ⟨x1_0, e1_0, rfl, wx1_0⟩ := DataW.trod_int Try.underlying3 hy1_0
    simp at e1_0; subst e1_0
    obtain ⟨x1_1, e1_1, rfl, wx1_1⟩ := DataW.trod_int Try.underlying3 hy1_1
    simp at e1_1; subst e1_1
    exact (FnExactFirstClear_walk x0 y0 l0 A0 cp0 x1_0 x1_1 W (Nat.le_trans hlc0 hcm0) hr0)

theorem FnExactFirstClear_holds : Rows.FnExactFirstClearSaid :=
  OpenClaim.holds_of_wide 7 Try.f7 rfl rfl rfl rfl rfl rfl rfl ⟨rfl, rfl, rfl, rfl, rfl⟩ rfl rfl rfl rfl rfl (by kernel_rfl) Try.func7 (by kernel_rfl)
    (of_decide_eq_true (by kernel_rfl)) (by unfold Func.isWrapper; rw [if_neg (of_decide_eq_false (by kernel_rfl))]; exact ⟨rfl, rfl⟩)
    (fun os started H enc _ => FnExactFirstClear_lifted os started H enc)
#print axioms FnExactFirstClear_holds
end Go.Proofs.Ytjibcmmnohjhkaa
