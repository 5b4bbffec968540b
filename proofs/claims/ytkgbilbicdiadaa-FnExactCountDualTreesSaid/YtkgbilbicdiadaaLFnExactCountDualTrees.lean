/- The statement of FnExactCountDualTrees: for every input the law returns true, and each argument reads behind the call as it read before. No condition. -/
import Derived.Test.YtkgbilbicdiadaaRows
import Derived.Test.YtkgbilbicdiadaaFrame
import Derived.Test.YtkgbilbicdiadaaDualL
import Derived.Lib.SmallJoins
set_option linter.unusedSimpArgs false
set_option linter.unusedVariables false
namespace Go.Proofs.Ytkgbilbicdiadaa
open Go.ChangeShapes Go.WideShapes Go.ChangeAt Go.RowKit Go.Joins

set_option maxRecDepth 100000 in
set_option linter.unusedVariables false in
theorem FnExactCountDualTrees_lifted (os : Os) (started : os.Started) (H : Type) (enc : TypeId × Value → H) :
    ReturnsInHanded {} Try.checked os 6 .any (Rows.fnExactCountDualTreesSpec.pre6 enc Try.prog Try.f6 [] false) (Rows.fnExactCountDualTreesSpec.post enc Try.prog Try.f6 false true false false) := by
  refine law_returns (C := Try.checked) own started (by kernel_rfl) Try.func6 laidOut rfl (by kernel_rfl) 4 Try.underlying4 (by kernel_rfl) ?_
    (ChangeSpec.witness6 (enc := enc) (C := Try.checked) false ⟨#[], #[.agg #[.slice none 0 0, .slice none 0 0]], []⟩ 8 (by kernel_rfl) (by kernel_rfl) (by kernel_rfl) (by kernel_rfl)) ?_
  · intro ds hd
    rw [Try.params6] at hd
    match ds, hd with
    | [d0], _ => rfl
  · intro W base args ds p hval0 hA
    have hval : ∀ (j : Nat) t v, Try.f6.params[j]? = some t → args[j]? = some v → Value.okWide Try.prog W .any base t v := hval0
    have hA : DataW.TrodAll enc Try.prog W 0 (fun _ => true) true Try.f6.params.toList args.toList ds p := hA
    clear hval0
    rw [Try.params6] at hA hval
    obtain ⟨v0, vs0, d0, ds0, p0, q0, hargs, rfl, rfl, h0, r0⟩ := trodAll_cons hA
    obtain ⟨rfl, rfl, rfl⟩ := trodAll_nil r0
    obtain rfl : args = #[v0] := by cases args; simp_all
    obtain ⟨A0, B0, cp0, cq0, l0, m0, rfl, hlc0, hlm0, hr0, hs0⟩ := open_window Try.underlying43 rfl rfl Try.underlying40 Try.underlying41 Try.underlying112 Try.underlying126 Try.underlying3 rfl rfl rfl rfl (by kernel_rfl) (by kernel_rfl) (show Try.prog.cellsOf 112 = 2 by kernel_rfl) (show Try.prog.cellsOf 126 = 2 by kernel_rfl) (show Try.prog.cellsOf 43 = 2 by kernel_rfl) (show Try.prog.cellsOf 40 = 1 by kernel_rfl) (show Try.prog.cellsOf 41 = 1 by kernel_rfl) rfl rfl (hval 0 43 v0 rfl rfl) h0
    exact (FnExactCountDualTrees_walk l0 m0 A0 B0 cp0 cq0 W hlc0 hlm0 hr0 hs0)

theorem and_true_of {a b : Bool} (h1 : a = true) (h2 : b = true) : (a && b) = true := by rw [h1, h2]; rfl
set_option maxHeartbeats 4000000 in
theorem FnExactCountDualTrees_closed : joinedFacts Try.pinned.checked.prog 6 Try.f6 Rows.fnExactCountDualTreesSpec Rows.fnExactCountDualTreesRow = true := by
  unfold joinedFacts
  repeat' (with_reducible refine and_true_of ?_ ?_)
  all_goals (as_aux_lemma => kernel_rfl)
set_option maxHeartbeats 4000000 in
theorem FnExactCountDualTrees_holds : Rows.FnExactCountDualTreesSaid :=
  OpenClaim.holds_of_wide 6 Try.f6 rfl rfl rfl rfl rfl rfl rfl ⟨rfl, rfl, rfl, rfl, rfl⟩ rfl rfl rfl rfl rfl (by as_aux_lemma => kernel_rfl) Try.func6 FnExactCountDualTrees_closed
    (of_decide_eq_true (by as_aux_lemma => kernel_rfl)) (by unfold Func.isWrapper; rw [if_neg (of_decide_eq_false (by as_aux_lemma => kernel_rfl))]; exact ⟨rfl, rfl⟩)
    (fun os started H enc _ => FnExactCountDualTrees_lifted os started H enc)
#print axioms FnExactCountDualTrees_holds
end Go.Proofs.Ytkgbilbicdiadaa
