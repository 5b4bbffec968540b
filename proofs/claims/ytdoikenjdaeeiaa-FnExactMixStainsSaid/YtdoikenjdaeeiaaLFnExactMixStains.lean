/- The statement of FnExactMixStains: for every input the law returns true, and each argument reads behind the call as it read before. No condition. -/
import Derived.Test.YtdoikenjdaeeiaaRows
import Derived.Test.YtdoikenjdaeeiaaFrame
import Derived.Test.YtdoikenjdaeeiaaStainY
import Derived.Lib.SmallJoins
namespace Go.Proofs.Ytdoikenjdaeeiaa
open Go.ChangeShapes Go.WideShapes Go.ChangeAt Go.RowKit Go.Joins

set_option maxRecDepth 100000 in
set_option linter.unusedVariables false in
theorem FnExactMixStains_lifted (os : Os) (started : os.Started) (H : Type) (enc : TypeId × Value → H) :
    ReturnsInHanded {} Try.checked os 14 .any (Rows.fnExactMixStainsSpec.pre6 enc Try.prog Try.f14 [] false) (Rows.fnExactMixStainsSpec.post enc Try.prog Try.f14 false true false false) := by
  refine law_returns (C := Try.checked) own started (by kernel_rfl) Try.func14 laidOut rfl (by kernel_rfl) 4 Try.underlying4 (by kernel_rfl) ?_
    (ChangeSpec.witness6 (enc := enc) (C := Try.checked) false ⟨#[], #[.agg #[.int .i64 0, .int .i64 0, .int .i64 0], .agg #[.int .i64 0, .int .i64 0, .int .i64 0], .int .i64 0], []⟩ 8 (by kernel_rfl) (by kernel_rfl) (by kernel_rfl) (by kernel_rfl)) ?_
  · intro ds hd
    rw [Try.params14] at hd
    match ds, hd with
    | [d0, d1, d2], _ => rfl
  · intro W base args ds p hval0 hA
    have hval : ∀ (j : Nat) t v, Try.f14.params[j]? = some t → args[j]? = some v → Value.okWide Try.prog W .any base t v := hval0
    have hA : DataW.TrodAll enc Try.prog W 0 (fun _ => true) true Try.f14.params.toList args.toList ds p := hA
    clear hval0
    rw [Try.params14] at hA hval
    obtain ⟨v0, vs0, d0, ds0, p0, q0, hargs, rfl, rfl, h0, r0⟩ := trodAll_cons hA
    obtain ⟨v1, vs1, d1, ds1, p1, q1, rfl, rfl, rfl, h1, r1⟩ := trodAll_cons r0
    obtain ⟨v2, vs2, d2, ds2, p2, q2, rfl, rfl, rfl, h2, r2⟩ := trodAll_cons r1
    obtain ⟨rfl, rfl, rfl⟩ := trodAll_nil r2
    obtain rfl : args = #[v0, v1, v2] := by cases args; simp_all
    obtain ⟨c0_0, c0_1, c0_2, y0_0, y0_1, y0_2, m0, rfl, rfl, rfl, hy0_0, hy0_1, hy0_2⟩ := open_agg3 Try.underlying41 (by kernel_rfl) (show Try.prog.cellsOf 41 = 3 by kernel_rfl) (hval 0 41 v0 rfl rfl) h0
    obtain ⟨x0_0, e0_0, rfl, wx0_0⟩ := DataW.trod_int Try.underlying3 hy0_0
    simp at e0_0; subst e0_0
    obtain ⟨x0_1, e0_1, rfl, wx0_1⟩ := DataW.trod_int Try.underlying3 hy0_1
    simp at e0_1; subst e0_1
    obtain ⟨x0_2, e0_2, rfl, wx0_2⟩ := DataW.trod_int Try.underlying3 hy0_2
    simp at e0_2; subst e0_2
    obtain ⟨c1_0, c1_1, c1_2, y1_0, y1_1, y1_2, m1, rfl, rfl, rfl, hy1_0, hy1_1, hy1_2⟩ := open_agg3 Try.underlying41 (by kernel_rfl) (show Try.prog.cellsOf 41 = 3 by kernel_rfl) (hval 1 41 v1 rfl rfl) h1
    obtain ⟨x1_0, e1_0, rfl, wx1_0⟩ := DataW.trod_int Try.underlying3 hy1_0
    simp at e1_0; subst e1_0
    obtain ⟨x1_1, e1_1, rfl, wx1_1⟩ := DataW.trod_int Try.underlying3 hy1_1
    simp at e1_1; subst e1_1
    obtain ⟨x1_2, e1_2, rfl, wx1_2⟩ := DataW.trod_int Try.underlying3 hy1_2
    simp at e1_2; subst e1_2
    obtain ⟨x2, rfl, rfl, rfl, wx2⟩ := open_int Try.underlying3 (hval 2 3 v2 rfl rfl) h2
    exact (FnExactMixStains_walk x0_0 x0_1 x0_2 x1_0 x1_1 x1_2 x2 W )

theorem FnExactMixStains_holds : Rows.FnExactMixStainsSaid :=
  OpenClaim.holds_of_wide 14 Try.f14 rfl rfl rfl rfl rfl rfl rfl ⟨rfl, rfl, rfl, rfl, rfl⟩ rfl rfl rfl rfl rfl (by kernel_rfl) Try.func14 (by kernel_rfl)
    (of_decide_eq_true (by kernel_rfl)) (by unfold Func.isWrapper; rw [if_neg (of_decide_eq_false (by kernel_rfl))]; exact ⟨rfl, rfl⟩)
    (fun os started H enc _ => FnExactMixStains_lifted os started H enc)
#print axioms FnExactMixStains_holds
end Go.Proofs.Ytdoikenjdaeeiaa
