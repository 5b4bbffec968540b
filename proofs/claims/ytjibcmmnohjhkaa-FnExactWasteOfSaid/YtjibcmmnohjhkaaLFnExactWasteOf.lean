/- The statement of FnExactWasteOf: for every input the law returns true, and each argument reads behind the call as it read before. No condition. -/
import Derived.Test.YtjibcmmnohjhkaaRows
import Derived.Test.YtjibcmmnohjhkaaFrame
import Derived.Test.YtjibcmmnohjhkaaWasteL
import Derived.Test.YtjibcmmnohjhkaaArgs
import Derived.Lib.SmallJoins
set_option linter.unusedSimpArgs false
set_option linter.unusedVariables false
namespace Go.Proofs.Ytjibcmmnohjhkaa
open Go.ChangeShapes Go.WideShapes Go.ChangeAt Go.RowKit Go.Joins

set_option maxRecDepth 100000 in
set_option linter.unusedVariables false in
theorem FnExactWasteOf_lifted (os : Os) (started : os.Started) (H : Type) (enc : TypeId × Value → H) :
    ReturnsInHanded {} Try.checked os 11 .any (Rows.fnExactWasteOfSpec.pre6 enc Try.prog Try.f11 [] false) (Rows.fnExactWasteOfSpec.post enc Try.prog Try.f11 false true false false) := by
  refine law_returns (C := Try.checked) own started (by kernel_rfl) Try.func11 laidOut rfl (by kernel_rfl) 4 Try.underlying4 (by kernel_rfl) ?_
    (ChangeSpec.witness6 (enc := enc) (C := Try.checked) false ⟨#[], #[.agg #[.int .i64 0, .int .i64 0], .slice none 0 0], []⟩ 8 (by kernel_rfl) (by kernel_rfl) (by kernel_rfl) (by kernel_rfl)) ?_
  · intro ds hd
    rw [Try.params11] at hd
    match ds, hd with
    | [d0, d1], _ => rfl
  · intro W base args ds p hval0 hA
    have hval : ∀ (j : Nat) t v, Try.f11.params[j]? = some t → args[j]? = some v → Value.okWide Try.prog W .any base t v := hval0
    have hA : DataW.TrodAll enc Try.prog W 0 (fun _ => true) true Try.f11.params.toList args.toList ds p := hA
    clear hval0
    rw [Try.params11] at hA hval
    obtain ⟨v0, vs0, d0, ds0, p0, q0, hargs, rfl, rfl, h0, r0⟩ := trodAll_cons hA
    obtain ⟨v1, vs1, d1, ds1, p1, q1, rfl, rfl, rfl, h1, r1⟩ := trodAll_cons r0
    obtain ⟨rfl, rfl, rfl⟩ := trodAll_nil r1
    obtain rfl : args = #[v0, v1] := by cases args; simp_all
    obtain ⟨c0_0, c0_1, y0_0, y0_1, m0, rfl, rfl, rfl, hy0_0, hy0_1⟩ := open_agg2 Try.underlying23 (by kernel_rfl) (show Try.prog.cellsOf 23 = 2 by kernel_rfl) (hval 0 23 v0 rfl rfl) h0
    obtain ⟨x0_0, e0_0, rfl, wx0_0⟩ := DataW.trod_int Try.underlying3 hy0_0
    simp at e0_0; subst e0_0
    obtain ⟨x0_1, e0_1, rfl, wx0_1⟩ := DataW.trod_int Try.underlying3 hy0_1
    simp at e0_1; subst e0_1
    obtain ⟨A1, cp1, l1, rfl, hlc1, hcm1, hr1⟩ := open_slice2 Try.underlying55 Try.underlying23 rfl rfl Try.underlying3 (by kernel_rfl) (show Try.prog.cellsOf 23 = 2 by kernel_rfl) (hval 1 55 v1 rfl rfl) h1
    exact (FnExactWasteOf_walk x0_0 x0_1 l1 A1 cp1 W (Nat.le_trans hlc1 hcm1) hr1)

theorem FnExactWasteOf_holds : Rows.FnExactWasteOfSaid :=
  OpenClaim.holds_of_wide 11 Try.f11 rfl rfl rfl rfl rfl rfl rfl ⟨rfl, rfl, rfl, rfl, rfl⟩ rfl rfl rfl rfl rfl (by kernel_rfl) Try.func11 (by kernel_rfl)
    (of_decide_eq_true (by kernel_rfl)) (by unfold Func.isWrapper; rw [if_neg (of_decide_eq_false (by kernel_rfl))]; exact ⟨rfl, rfl⟩)
    (fun os started H enc _ => FnExactWasteOf_lifted os started H enc)
#print axioms FnExactWasteOf_holds
end Go.Proofs.Ytjibcmmnohjhkaa
