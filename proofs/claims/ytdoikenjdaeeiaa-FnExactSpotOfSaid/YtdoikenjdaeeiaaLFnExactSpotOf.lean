/- The statement of FnExactSpotOf: for every input the law returns true, and each argument reads behind the call as it read before. No condition. -/
import Derived.Test.YtdoikenjdaeeiaaRows
import Derived.Test.YtdoikenjdaeeiaaFrame
import Derived.Test.YtdoikenjdaeeiaaSun
import Derived.Lib.SmallJoins
namespace Go.Proofs.Ytdoikenjdaeeiaa
open Go.ChangeShapes Go.WideShapes Go.ChangeAt Go.RowKit Go.Joins

set_option maxRecDepth 100000 in
set_option linter.unusedVariables false in
theorem FnExactSpotOf_lifted (os : Os) (started : os.Started) (H : Type) (enc : TypeId × Value → H) :
    ReturnsInHanded {} Try.checked os 12 .any (Rows.fnExactSpotOfSpec.pre6 enc Try.prog Try.f12 [] false) (Rows.fnExactSpotOfSpec.post enc Try.prog Try.f12 false true false false) := by
  refine law_returns (C := Try.checked) own started (by kernel_rfl) Try.func12 laidOut rfl (by kernel_rfl) 4 Try.underlying4 (by kernel_rfl) ?_
    (ChangeSpec.witness6 (enc := enc) (C := Try.checked) false ⟨#[], #[.agg #[.int .i64 0, .int .i64 0], .int .i64 0, .agg #[.int .i64 0, .int .i64 0, .int .i64 0]], []⟩ 8 (by kernel_rfl) (by kernel_rfl) (by kernel_rfl) (by kernel_rfl)) ?_
  · intro ds hd
    rw [Try.params12] at hd
    match ds, hd with
    | [d0, d1, d2], _ => rfl
  · intro W base args ds p hval0 hA
    have hval : ∀ (j : Nat) t v, Try.f12.params[j]? = some t → args[j]? = some v → Value.okWide Try.prog W .any base t v := hval0
    have hA : DataW.TrodAll enc Try.prog W 0 (fun _ => true) true Try.f12.params.toList args.toList ds p := hA
    clear hval0
    rw [Try.params12] at hA hval
    obtain ⟨v0, vs0, d0, ds0, p0, q0, hargs, rfl, rfl, h0, r0⟩ := trodAll_cons hA
    obtain ⟨v1, vs1, d1, ds1, p1, q1, rfl, rfl, rfl, h1, r1⟩ := trodAll_cons r0
    obtain ⟨v2, vs2, d2, ds2, p2, q2, rfl, rfl, rfl, h2, r2⟩ := trodAll_cons r1
    obtain ⟨rfl, rfl, rfl⟩ := trodAll_nil r2
    obtain rfl : args = #[v0, v1, v2] := by cases args; simp_all
    obtain ⟨c0_0, c0_1, y0_0, y0_1, m0, rfl, rfl, rfl, hy0_0, hy0_1⟩ := open_agg2 Try.underlying60 (by kernel_rfl) (show Try.prog.cellsOf 60 = 2 by kernel_rfl) (hval 0 60 v0 rfl rfl) h0
    obtain ⟨x0_0, e0_0, rfl, wx0_0⟩ := DataW.trod_int Try.underlying3 hy0_0
    simp at e0_0; subst e0_0
    obtain ⟨x0_1, e0_1, rfl, wx0_1⟩ := DataW.trod_int Try.underlying3 hy0_1
    simp at e0_1; subst e0_1
    obtain ⟨x1, rfl, rfl, rfl, wx1⟩ := open_int Try.underlying3 (hval 1 3 v1 rfl rfl) h1
    obtain ⟨c2_0, c2_1, c2_2, y2_0, y2_1, y2_2, m2, rfl, rfl, rfl, hy2_0, hy2_1, hy2_2⟩ := open_agg3 Try.underlying35 (by kernel_rfl) (show Try.prog.cellsOf 35 = 3 by kernel_rfl) (hval 2 35 v2 rfl rfl) h2
    obtain ⟨x2_0, e2_0, rfl, wx2_0⟩ := DataW.trod_int Try.underlying3 hy2_0
    simp at e2_0; subst e2_0
    obtain ⟨x2_1, e2_1, rfl, wx2_1⟩ := DataW.trod_int Try.underlying3 hy2_1
    simp at e2_1; subst e2_1
    obtain ⟨x2_2, e2_2, rfl, wx2_2⟩ := DataW.trod_int Try.underlying3 hy2_2
    simp at e2_2; subst e2_2
    exact (FnExactSpotOf_walk x0_0 x0_1 x1 x2_0 x2_1 x2_2 W )

theorem FnExactSpotOf_holds : Rows.FnExactSpotOfSaid :=
  OpenClaim.holds_of_wide 12 Try.f12 rfl rfl rfl rfl rfl rfl rfl ⟨rfl, rfl, rfl, rfl, rfl⟩ rfl rfl rfl rfl rfl (by kernel_rfl) Try.func12 (by kernel_rfl)
    (of_decide_eq_true (by kernel_rfl)) (by unfold Func.isWrapper; rw [if_neg (of_decide_eq_false (by kernel_rfl))]; exact ⟨rfl, rfl⟩)
    (fun os started H enc _ => FnExactSpotOf_lifted os started H enc)
#print axioms FnExactSpotOf_holds
end Go.Proofs.Ytdoikenjdaeeiaa
