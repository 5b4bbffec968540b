/- The statement of FnExactMatchPanes: for every input the law returns true, and each argument reads behind the call as it read before. No condition. -/
import Derived.Test.YtabgcpoaepafjaaGreatRows
import Derived.Test.YtabgcpoaepafjaaGreatFrame
import Derived.Test.YtabgcpoaepafjaaGreatMatchL
import Derived.Lib.SmallJoins
set_option linter.unusedSimpArgs false
set_option linter.unusedVariables false
namespace Go.Proofs.YtabgcpoaepafjaaGreat
open Go.ChangeShapes Go.WideShapes Go.ChangeAt Go.RowKit Go.Joins

set_option maxRecDepth 100000 in
set_option linter.unusedVariables false in
theorem FnExactMatchPanes_lifted (os : Os) (started : os.Started) (H : Type) (enc : TypeId × Value → H) :
    ReturnsInHanded {} Tryz.checked os 6 .any (Rows.fnExactMatchPanesSpec.pre6 enc Tryz.prog Tryz.f6 [] false) (Rows.fnExactMatchPanesSpec.post enc Tryz.prog Tryz.f6 false true false false) := by
  refine law_returns (C := Tryz.checked) own started (by kernel_rfl) Tryz.func6 laidOut rfl (by kernel_rfl) 4 Tryz.underlying4 (by kernel_rfl) ?_
    (ChangeSpec.witness6 (enc := enc) (C := Tryz.checked) false ⟨#[], #[.agg #[.slice none 0 0, .slice none 0 0], .slice none 0 0], []⟩ 8 (by kernel_rfl) (by kernel_rfl) (by kernel_rfl) (by kernel_rfl)) ?_
  · intro ds hd
    rw [Tryz.params6] at hd
    match ds, hd with
    | [d0, d1], _ => rfl
  · intro W base args ds p hval0 hA
    have hval : ∀ (j : Nat) t v, Tryz.f6.params[j]? = some t → args[j]? = some v → Value.okWide Tryz.prog W .any base t v := hval0
    have hA : DataW.TrodAll enc Tryz.prog W 0 (fun _ => true) true Tryz.f6.params.toList args.toList ds p := hA
    clear hval0
    rw [Tryz.params6] at hA hval
    obtain ⟨v0, vs0, d0, ds0, p0, q0, hargs, rfl, rfl, h0, r0⟩ := trodAll_cons hA
    obtain ⟨v1, vs1, d1, ds1, p1, q1, rfl, rfl, rfl, h1, r1⟩ := trodAll_cons r0
    obtain ⟨rfl, rfl, rfl⟩ := trodAll_nil r1
    obtain rfl : args = #[v0, v1] := by cases args; simp_all
    obtain ⟨A0, B0, cp0, cq0, l0, m0, rfl, hlc0, hlm0, hr0, hs0⟩ := open_window Tryz.underlying60 rfl rfl Tryz.underlying57 Tryz.underlying58 Tryz.underlying121 Tryz.underlying123 Tryz.underlying3 rfl rfl rfl rfl (by kernel_rfl) (by kernel_rfl) (show Tryz.prog.cellsOf 121 = 2 by kernel_rfl) (show Tryz.prog.cellsOf 123 = 2 by kernel_rfl) (show Tryz.prog.cellsOf 60 = 2 by kernel_rfl) (show Tryz.prog.cellsOf 57 = 1 by kernel_rfl) (show Tryz.prog.cellsOf 58 = 1 by kernel_rfl) rfl rfl (hval 0 60 v0 rfl rfl) h0
    obtain ⟨A1, cp1, l1, rfl, hlc1, hcm1, hr1⟩ := open_sliceSS Tryz.underlying61 Tryz.underlying57 Tryz.underlying121 rfl rfl Tryz.underlying3 (by kernel_rfl) (show Tryz.prog.cellsOf 121 = 2 by kernel_rfl) (show Tryz.prog.cellsOf 57 = 1 by kernel_rfl) (hval 1 61 v1 rfl rfl) h1
    exact (FnExactMatchPanes_walk l0 m0 A0 B0 cp0 cq0 l1 A1 cp1 W hlc0 hlm0 hr0 hs0 (Nat.le_trans hlc1 hcm1) hr1)

theorem and_true_of {a b : Bool} (h1 : a = true) (h2 : b = true) : (a && b) = true := by rw [h1, h2]; rfl
set_option maxHeartbeats 4000000 in
theorem FnExactMatchPanes_closed : joinedFacts Tryz.pinned.checked.prog 6 Tryz.f6 Rows.fnExactMatchPanesSpec Rows.fnExactMatchPanesRow = true := by
  unfold joinedFacts
  repeat' (with_reducible refine and_true_of ?_ ?_)
  all_goals (as_aux_lemma => kernel_rfl)
set_option maxHeartbeats 4000000 in
theorem FnExactMatchPanes_holds : Rows.FnExactMatchPanesSaid :=
  OpenClaim.holds_of_wide 6 Tryz.f6 rfl rfl rfl rfl rfl rfl rfl ⟨rfl, rfl, rfl, rfl, rfl⟩ rfl rfl rfl rfl rfl (by as_aux_lemma => kernel_rfl) Tryz.func6 FnExactMatchPanes_closed
    (of_decide_eq_true (by as_aux_lemma => kernel_rfl)) (by unfold Func.isWrapper; rw [if_neg (of_decide_eq_false (by as_aux_lemma => kernel_rfl))]; exact ⟨rfl, rfl⟩)
    (fun os started H enc _ => FnExactMatchPanes_lifted os started H enc)
#print axioms FnExactMatchPanes_holds
end Go.Proofs.YtabgcpoaepafjaaGreat
