/- The statement of FnExactWithStain: for every input the law returns true, and each argument reads behind the call as it read before. No condition. -/
import Derived.Test.YtlpononcpocmoaaRows
import Derived.Test.YtlpononcpocmoaaFrame
import Derived.Test.YtlpononcpocmoaaWithL
import Derived.Test.YtlpononcpocmoaaArgs
import Derived.Lib.SmallJoins
set_option linter.unusedSimpArgs false
set_option linter.unusedVariables false
namespace Go.Proofs.Ytlpononcpocmoaa
open Go.ChangeShapes Go.WideShapes Go.ChangeAt Go.RowKit Go.Joins

set_option maxRecDepth 100000 in
set_option linter.unusedVariables false in
theorem FnExactWithStain_lifted (os : Os) (started : os.Started) (H : Type) (enc : TypeId × Value → H) :
    ReturnsInHanded {} Try.checked os 9 .any (Rows.fnExactWithStainSpec.pre6 enc Try.prog Try.f9 [] false) (Rows.fnExactWithStainSpec.post enc Try.prog Try.f9 false true false false) := by
  refine law_returns (C := Try.checked) own started (by kernel_rfl) Try.func9 laidOut rfl (by kernel_rfl) 4 Try.underlying4 (by kernel_rfl) ?_
    (ChangeSpec.witness6 (enc := enc) (C := Try.checked) false ⟨#[], #[.slice none 0 0, .int .i64 0, .agg #[.int .i64 0, .int .i64 0, .int .i64 0]], []⟩ 8 (by kernel_rfl) (by kernel_rfl) (by kernel_rfl) (by kernel_rfl)) ?_
  · intro ds hd
    rw [Try.params9] at hd
    match ds, hd with
    | [d0, d1, d2], _ => rfl
  · intro W base args ds p hval0 hA
    have hval : ∀ (j : Nat) t v, Try.f9.params[j]? = some t → args[j]? = some v → Value.okWide Try.prog W .any base t v := hval0
    have hA : DataW.TrodAll enc Try.prog W 0 (fun _ => true) true Try.f9.params.toList args.toList ds p := hA
    clear hval0
    rw [Try.params9] at hA hval
    obtain ⟨v0, vs0, d0, ds0, p0, q0, hargs, rfl, rfl, h0, r0⟩ := trodAll_cons hA
    obtain ⟨v1, vs1, d1, ds1, p1, q1, rfl, rfl, rfl, h1, r1⟩ := trodAll_cons r0
    obtain ⟨v2, vs2, d2, ds2, p2, q2, rfl, rfl, rfl, h2, r2⟩ := trodAll_cons r1
    obtain ⟨rfl, rfl, rfl⟩ := trodAll_nil r2
    obtain rfl : args = #[v0, v1, v2] := by cases args; simp_all
    obtain ⟨A0, cp0, l0, rfl, hlc0, hcm0, hr0⟩ := open_slice3 Try.underlying31 Try.underlying41 rfl rfl rfl Try.underlying3 (by kernel_rfl) (show Try.prog.cellsOf 41 = 3 by kernel_rfl) (hval 0 31 v0 rfl rfl) h0
    obtain ⟨x1, rfl, rfl, rfl, wx1⟩ := open_int Try.underlying3 (hval 1 3 v1 rfl rfl) h1
    obtain ⟨c2_0, c2_1, c2_2, y2_0, y2_1, y2_2, m2, rfl, rfl, rfl, hy2_0, hy2_1, hy2_2⟩ := open_agg3 Try.underlying41 (by kernel_rfl) (show Try.prog.cellsOf 41 = 3 by kernel_rfl) (hval 2 41 v2 rfl rfl) h2
    obtain ⟨x2_0, e2_0, rfl, wx2_0⟩ := DataW.trod_int Try.underlying3 hy2_0
    simp at e2_0; subst e2_0
    obtain ⟨x2_1, e2_1, rfl, wx2_1⟩ := DataW.trod_int Try.underlying3 hy2_1
    simp at e2_1; subst e2_1
    obtain ⟨x2_2, e2_2, rfl, wx2_2⟩ := DataW.trod_int Try.underlying3 hy2_2
    simp at e2_2; subst e2_2
    exact (FnExactWithStain_walk l0 A0 cp0 x1 x2_0 x2_1 x2_2 W (Nat.le_trans hlc0 hcm0) hr0)

theorem FnExactWithStain_holds : Rows.FnExactWithStainSaid :=
  OpenClaim.holds_of_wide 9 Try.f9 rfl rfl rfl rfl rfl rfl rfl ⟨rfl, rfl, rfl, rfl, rfl⟩ rfl rfl rfl rfl rfl (by kernel_rfl) Try.func9 (by kernel_rfl)
    (of_decide_eq_true (by kernel_rfl)) (by unfold Func.isWrapper; rw [if_neg (of_decide_eq_false (by kernel_rfl))]; exact ⟨rfl, rfl⟩)
    (fun os started H enc _ => FnExactWithStain_lifted os started H enc)
#print axioms FnExactWithStain_holds
end Go.Proofs.Ytlpononcpocmoaa
