/- The statement of FnExactColorStains: for every input the law returns true, and each argument reads behind the call as it read before. No condition. -/
import Derived.Test.YtlpononcpocmoaaRows
import Derived.Test.YtlpononcpocmoaaFrame
import Derived.Test.YtlpononcpocmoaaColorL
import Derived.Test.YtlpononcpocmoaaArgs
import Derived.Lib.SmallJoins
set_option linter.unusedSimpArgs false
set_option linter.unusedVariables false
namespace Go.Proofs.Ytlpononcpocmoaa
open Go.ChangeShapes Go.WideShapes Go.ChangeAt Go.RowKit Go.Joins

set_option maxRecDepth 100000 in
set_option linter.unusedVariables false in
theorem FnExactColorStains_lifted (os : Os) (started : os.Started) (H : Type) (enc : TypeId × Value → H) :
    ReturnsInHanded {} Try.checked os 10 .any (Rows.fnExactColorStainsSpec.pre6 enc Try.prog Try.f10 [] false) (Rows.fnExactColorStainsSpec.post enc Try.prog Try.f10 false true false false) := by
  refine law_returns (C := Try.checked) own started (by kernel_rfl) Try.func10 laidOut rfl (by kernel_rfl) 4 Try.underlying4 (by kernel_rfl) ?_
    (ChangeSpec.witness6 (enc := enc) (C := Try.checked) false ⟨#[], #[.slice none 0 0, .slice none 0 0], []⟩ 8 (by kernel_rfl) (by kernel_rfl) (by kernel_rfl) (by kernel_rfl)) ?_
  · intro ds hd
    rw [Try.params10] at hd
    match ds, hd with
    | [d0, d1], _ => rfl
  · intro W base args ds p hval0 hA
    have hval : ∀ (j : Nat) t v, Try.f10.params[j]? = some t → args[j]? = some v → Value.okWide Try.prog W .any base t v := hval0
    have hA : DataW.TrodAll enc Try.prog W 0 (fun _ => true) true Try.f10.params.toList args.toList ds p := hA
    clear hval0
    rw [Try.params10] at hA hval
    obtain ⟨v0, vs0, d0, ds0, p0, q0, hargs, rfl, rfl, h0, r0⟩ := trodAll_cons hA
    obtain ⟨v1, vs1, d1, ds1, p1, q1, rfl, rfl, rfl, h1, r1⟩ := trodAll_cons r0
    obtain ⟨rfl, rfl, rfl⟩ := trodAll_nil r1
    obtain rfl : args = #[v0, v1] := by cases args; simp_all
    obtain ⟨A0, cp0, l0, rfl, hlc0, hcm0, hr0⟩ := open_sliceI Try.underlying47 Try.underlying3 (show Try.prog.cellsOf 3 = 1 by kernel_rfl) (hval 0 47 v0 rfl rfl) h0
    obtain ⟨A1, cp1, l1, rfl, hlc1, hcm1, hr1⟩ := open_slice3 Try.underlying31 Try.underlying41 rfl rfl rfl Try.underlying3 (by kernel_rfl) (show Try.prog.cellsOf 41 = 3 by kernel_rfl) (hval 1 31 v1 rfl rfl) h1
    exact (FnExactColorStains_walk l0 A0 cp0 l1 A1 cp1 W (Nat.le_trans hlc0 hcm0) hr0 (Nat.le_trans hlc1 hcm1) hr1)

theorem FnExactColorStains_holds : Rows.FnExactColorStainsSaid :=
  OpenClaim.holds_of_wide 10 Try.f10 rfl rfl rfl rfl rfl rfl rfl ⟨rfl, rfl, rfl, rfl, rfl⟩ rfl rfl rfl rfl rfl (by kernel_rfl) Try.func10 (by kernel_rfl)
    (of_decide_eq_true (by kernel_rfl)) (by unfold Func.isWrapper; rw [if_neg (of_decide_eq_false (by kernel_rfl))]; exact ⟨rfl, rfl⟩)
    (fun os started H enc _ => FnExactColorStains_lifted os started H enc)
#print axioms FnExactColorStains_holds
end Go.Proofs.Ytlpononcpocmoaa
