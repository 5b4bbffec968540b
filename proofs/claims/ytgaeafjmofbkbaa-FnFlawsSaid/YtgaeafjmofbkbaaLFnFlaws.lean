/- The statement of FnFlaws: for every input the law returns true, and each argument reads behind the call as it read before. No condition. -/
import Derived.Test.YtgaeafjmofbkbaaRows
import Derived.Test.YtgaeafjmofbkbaaFrame
import Derived.Test.YtgaeafjmofbkbaaFlawT
import Derived.Test.YtgaeafjmofbkbaaArgB
import Derived.Test.YtgaeafjmofbkbaaArgs
import Derived.Lib.SmallJoins
set_option linter.unusedSimpArgs false
set_option linter.unusedVariables false
namespace Go.Proofs.Ytgaeafjmofbkbaa
open Go.ChangeShapes Go.WideShapes Go.ChangeAt Go.RowKit Go.Joins

set_option maxRecDepth 100000 in
set_option linter.unusedVariables false in
theorem FnFlaws_lifted (os : Os) (started : os.Started) (H : Type) (enc : TypeId × Value → H) :
    ReturnsInHanded {} Try.checked os 3 .any (Rows.fnFlawsSpec.pre6 enc Try.prog Try.f3 [] false) (Rows.fnFlawsSpec.post enc Try.prog Try.f3 false true false false) := by
  refine law_returns (C := Try.checked) own started (by kernel_rfl) Try.func3 laidOut rfl (by kernel_rfl) 4 Try.underlying4 (by kernel_rfl) ?_
    (ChangeSpec.witness6 (enc := enc) (C := Try.checked) false ⟨#[], #[.slice none 0 0], []⟩ 8 (by kernel_rfl) (by kernel_rfl) (by kernel_rfl) (by kernel_rfl)) ?_
  · intro ds hd
    rw [Try.params3] at hd
    match ds, hd with
    | [d0], _ => rfl
  · intro W base args ds p hval0 hA
    have hval : ∀ (j : Nat) t v, Try.f3.params[j]? = some t → args[j]? = some v → Value.okWide Try.prog W .any base t v := hval0
    have hA : DataW.TrodAll enc Try.prog W 0 (fun _ => true) true Try.f3.params.toList args.toList ds p := hA
    clear hval0
    rw [Try.params3] at hA hval
    obtain ⟨v0, vs0, d0, ds0, p0, q0, hargs, rfl, rfl, h0, r0⟩ := trodAll_cons hA
    obtain ⟨rfl, rfl, rfl⟩ := trodAll_nil r0
    obtain rfl : args = #[v0] := by cases args; simp_all
    obtain ⟨A0, cp0, l0, rfl, hlc0, hcm0, hr0⟩ := open_sliceB Try.underlying22 Try.underlying5 (show Try.prog.cellsOf 5 = 1 by kernel_rfl) (hval 0 22 v0 rfl rfl) h0
    exact (FnFlaws_walk l0 A0 cp0 W (Nat.le_trans hlc0 hcm0) hr0)

theorem FnFlaws_holds : Rows.FnFlawsSaid :=
  OpenClaim.holds_of_wide 3 Try.f3 rfl rfl rfl rfl rfl rfl rfl ⟨rfl, rfl, rfl, rfl, rfl⟩ rfl rfl rfl rfl rfl (by kernel_rfl) Try.func3 (by kernel_rfl)
    (of_decide_eq_true (by kernel_rfl)) (by unfold Func.isWrapper; rw [if_neg (of_decide_eq_false (by kernel_rfl))]; exact ⟨rfl, rfl⟩)
    (fun os started H enc _ => FnFlaws_lifted os started H enc)
#print axioms FnFlaws_holds
end Go.Proofs.Ytgaeafjmofbkbaa
