/- The statement of FnExactFireOrder: for every input the law returns true, and each argument reads behind the call as it read before. No condition. -/
import Derived.Test.YtgddpeaoacmfnaaRows
import Derived.Test.YtgddpeaoacmfnaaFrame
import Derived.Test.YtgddpeaoacmfnaaFireL
import Derived.Test.YtgddpeaoacmfnaaArgs
import Derived.Lib.SmallJoins
set_option linter.unusedSimpArgs false
set_option linter.unusedVariables false
namespace Go.Proofs.Ytgddpeaoacmfnaa
open Go.ChangeShapes Go.WideShapes Go.ChangeAt Go.RowKit Go.Joins

set_option maxRecDepth 100000 in
set_option linter.unusedVariables false in
theorem FnExactFireOrder_lifted (os : Os) (started : os.Started) (H : Type) (enc : TypeId × Value → H) :
    ReturnsInHanded {} Try.checked os 5 .any (Rows.fnExactFireOrderSpec.pre6 enc Try.prog Try.f5 [] false) (Rows.fnExactFireOrderSpec.post enc Try.prog Try.f5 false true false false) := by
  refine law_returns (C := Try.checked) own started (by kernel_rfl) Try.func5 laidOut rfl (by kernel_rfl) 4 Try.underlying4 (by kernel_rfl) ?_
    (ChangeSpec.witness6 (enc := enc) (C := Try.checked) false ⟨#[], #[.slice none 0 0], []⟩ 8 (by kernel_rfl) (by kernel_rfl) (by kernel_rfl) (by kernel_rfl)) ?_
  · intro ds hd
    rw [Try.params5] at hd
    match ds, hd with
    | [d0], _ => rfl
  · intro W base args ds p hval0 hA
    have hval : ∀ (j : Nat) t v, Try.f5.params[j]? = some t → args[j]? = some v → Value.okWide Try.prog W .any base t v := hval0
    have hA : DataW.TrodAll enc Try.prog W 0 (fun _ => true) true Try.f5.params.toList args.toList ds p := hA
    clear hval0
    rw [Try.params5] at hA hval
    obtain ⟨v0, vs0, d0, ds0, p0, q0, hargs, rfl, rfl, h0, r0⟩ := trodAll_cons hA
    obtain ⟨rfl, rfl, rfl⟩ := trodAll_nil r0
    obtain rfl : args = #[v0] := by cases args; simp_all
    obtain ⟨A0, cp0, l0, rfl, hlc0, hcm0, hr0⟩ := open_slice3 Try.underlying22 Try.underlying46 rfl rfl rfl Try.underlying3 (by kernel_rfl) (show Try.prog.cellsOf 46 = 3 by kernel_rfl) (hval 0 22 v0 rfl rfl) h0
    exact (FnExactFireOrder_walk l0 A0 cp0 W (Nat.le_trans hlc0 hcm0) hr0)

theorem FnExactFireOrder_holds : Rows.FnExactFireOrderSaid :=
  OpenClaim.holds_of_wide 5 Try.f5 rfl rfl rfl rfl rfl rfl rfl ⟨rfl, rfl, rfl, rfl, rfl⟩ rfl rfl rfl rfl rfl (by kernel_rfl) Try.func5 (by kernel_rfl)
    (of_decide_eq_true (by kernel_rfl)) (by unfold Func.isWrapper; rw [if_neg (of_decide_eq_false (by kernel_rfl))]; exact ⟨rfl, rfl⟩)
    (fun os started H enc _ => FnExactFireOrder_lifted os started H enc)
#print axioms FnExactFireOrder_holds
end Go.Proofs.Ytgddpeaoacmfnaa
