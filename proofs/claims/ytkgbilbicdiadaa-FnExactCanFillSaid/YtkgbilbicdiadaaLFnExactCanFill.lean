/- The statement of FnExactCanFill: for every input the law returns true, and each argument reads behind the call as it read before. No condition. -/
import Derived.Test.YtkgbilbicdiadaaRows
import Derived.Test.YtkgbilbicdiadaaFrame
import Derived.Test.YtkgbilbicdiadaaFillL
import Derived.Test.YtkgbilbicdiadaaMem
import Derived.Lib.SmallJoins
set_option linter.unusedSimpArgs false
set_option linter.unusedVariables false
namespace Go.Proofs.Ytkgbilbicdiadaa
open Go.ChangeShapes Go.WideShapes Go.ChangeAt Go.RowKit Go.Joins

set_option maxRecDepth 100000 in
set_option linter.unusedVariables false in
theorem FnExactCanFill_lifted (os : Os) (started : os.Started) (H : Type) (enc : TypeId × Value → H) :
    ReturnsInHanded {} Try.checked os 14 .any (Rows.fnExactCanFillSpec.pre6 enc Try.prog Try.f14 [] false) (Rows.fnExactCanFillSpec.post enc Try.prog Try.f14 false true false false) := by
  refine law_returns (C := Try.checked) own started (by kernel_rfl) Try.func14 laidOut rfl (by kernel_rfl) 4 Try.underlying4 (by kernel_rfl) ?_
    (ChangeSpec.witness6 (enc := enc) (C := Try.checked) false ⟨#[], #[.agg #[.slice none 0 0, .slice none 0 0], .int .i64 0, .slice none 0 0], []⟩ 8 (by kernel_rfl) (by kernel_rfl) (by kernel_rfl) (by kernel_rfl)) ?_
  · intro ds hd
    rw [Try.params14] at hd
    match ds, hd with
    | [d0, d1, d2], _ => rfl
  · intro W base args ds p hval0 hA
    have hval : ∀ (j : Nat) t v, Try.f14.params[j]? = some t → args[j]? = some v → Value.okWide Try.prog W .any base t v := hval0
    have hA : DataW.TrodAll enc Try.prog W 0 (fun _ => true) true Try.f14.params.toList args.toList ds p := hA
    clear hval0
    rw [Try.params14] at hA hval
    obtain ⟨v0, vs0, d0, ds0, p0, q0, hargs, rfl, rfl, h0, r0⟩ := trodAll_cons hA
    obtain ⟨v1, vs1, d1, ds1, p1, q1, rfl, rfl, rfl, h1, r1⟩ := trodAll_cons r0
    obtain ⟨v2, vs2, d2, ds2, p2, q2, rfl, rfl, rfl, h2, r2⟩ := trodAll_cons r1
    obtain ⟨rfl, rfl, rfl⟩ := trodAll_nil r2
    obtain rfl : args = #[v0, v1, v2] := by cases args; simp_all
    obtain ⟨A0, B0, cp0, cq0, l0, m0, rfl, hlc0, hlm0, hr0, hs0⟩ := open_window Try.underlying43 rfl rfl Try.underlying40 Try.underlying41 Try.underlying112 Try.underlying126 Try.underlying3 rfl rfl rfl rfl (by kernel_rfl) (by kernel_rfl) (show Try.prog.cellsOf 112 = 2 by kernel_rfl) (show Try.prog.cellsOf 126 = 2 by kernel_rfl) (show Try.prog.cellsOf 43 = 2 by kernel_rfl) (show Try.prog.cellsOf 40 = 1 by kernel_rfl) (show Try.prog.cellsOf 41 = 1 by kernel_rfl) rfl rfl (hval 0 43 v0 rfl rfl) h0
    obtain ⟨x1, rfl, rfl, rfl, wx1⟩ := open_int Try.underlying3 (hval 1 3 v1 rfl rfl) h1
    obtain ⟨A2, cp2, l2, rfl, hlc2, hcm2, hr2⟩ := open_slice2 Try.underlying40 Try.underlying112 rfl rfl Try.underlying3 (by kernel_rfl) (show Try.prog.cellsOf 112 = 2 by kernel_rfl) (hval 2 40 v2 rfl rfl) h2
    exact (FnExactCanFill_walk l0 m0 A0 B0 cp0 cq0 x1 l2 A2 cp2 W hlc0 hlm0 hr0 hs0 (Nat.le_trans hlc2 hcm2) hr2)

theorem and_true_of {a b : Bool} (h1 : a = true) (h2 : b = true) : (a && b) = true := by rw [h1, h2]; rfl
set_option maxHeartbeats 4000000 in
theorem FnExactCanFill_closed : joinedFacts Try.pinned.checked.prog 14 Try.f14 Rows.fnExactCanFillSpec Rows.fnExactCanFillRow = true := by
  unfold joinedFacts
  repeat' (with_reducible refine and_true_of ?_ ?_)
  all_goals (as_aux_lemma => kernel_rfl)
set_option maxHeartbeats 4000000 in
theorem FnExactCanFill_holds : Rows.FnExactCanFillSaid :=
  OpenClaim.holds_of_wide 14 Try.f14 rfl rfl rfl rfl rfl rfl rfl ⟨rfl, rfl, rfl, rfl, rfl⟩ rfl rfl rfl rfl rfl (by as_aux_lemma => kernel_rfl) Try.func14 FnExactCanFill_closed
    (of_decide_eq_true (by as_aux_lemma => kernel_rfl)) (by unfold Func.isWrapper; rw [if_neg (of_decide_eq_false (by as_aux_lemma => kernel_rfl))]; exact ⟨rfl, rfl⟩)
    (fun os started H enc _ => FnExactCanFill_lifted os started H enc)
#print axioms FnExactCanFill_holds
end Go.Proofs.Ytkgbilbicdiadaa
