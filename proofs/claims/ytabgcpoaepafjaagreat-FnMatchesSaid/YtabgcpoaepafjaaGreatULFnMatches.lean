/- The statement of FnMatches: for every input the law returns true, and each argument reads behind the call as it read before. No condition. -/
import Derived.Test.YtabgcpoaepafjaaGreatU1
import Derived.Test.YtabgcpoaepafjaaGreatU2
import Derived.Test.YtabgcpoaepafjaaGreatU32
import Derived.Test.YtabgcpoaepafjaaGreatU33
import Derived.Test.YtabgcpoaepafjaaGreatRows
import Derived.Lib.SmallJoins
namespace Go.Proofs.YtabgcpoaepafjaaGreat
open Go.ChangeShapes Go.WideShapes Go.ChangeAt Go.RowKit Go.Joins
set_option maxRecDepth 100000 in
theorem FnMatches_lifted (os : Os) (started : os.Started) (H : Type) (enc : TypeId × Value → H) :
    ReturnsInHanded {} Tryz.checked os 3 .any (Rows.fnMatchesSpec.pre6 enc Tryz.prog Tryz.f3 [] false) (Rows.fnMatchesSpec.post enc Tryz.prog Tryz.f3 false true false false) := by
  refine law_returns (C := Tryz.checked) own started (by kernel_rfl) Tryz.func3 laidOut rfl (by kernel_rfl) 4 Tryz.underlying4 (by kernel_rfl) ?_
    (ChangeSpec.witness6 (enc := enc) (C := Tryz.checked) false ⟨#[], #[.slice none 0 0], []⟩ 8 (by kernel_rfl) (by kernel_rfl) (by kernel_rfl) (by kernel_rfl)) ?_
  · intro ds hd
    rw [Tryz.params3] at hd
    match ds, hd with
    | [d0], _ => rfl
  · intro W base args ds p hval0 hA
    have hval : ∀ (j : Nat) t v, Tryz.f3.params[j]? = some t → args[j]? = some v → Value.okWide Tryz.prog W .any base t v := hval0
    have hA : DataW.TrodAll enc Tryz.prog W 0 (fun _ => true) true Tryz.f3.params.toList args.toList ds p := hA
    clear hval0
    rw [Tryz.params3] at hA hval
    obtain ⟨v0, vs0, d0, ds0, p0, q0, hargs, rfl, rfl, h0, r0⟩ := trodAll_cons hA
    obtain ⟨rfl, rfl, rfl⟩ := trodAll_nil r0
    obtain rfl : args = #[v0] := by cases args; simp_all
    obtain ⟨A0, cp0, l0, rfl, hlc0, hcm0, hr0⟩ := open_sliceB Tryz.underlying22 Tryz.underlying5 (show Tryz.prog.cellsOf 5 = 1 by kernel_rfl) (hval 0 22 v0 rfl rfl) h0
    exact (FnMatches_walk l0 A0 cp0 W (Nat.le_trans hlc0 hcm0) hr0)
theorem and_true_of {a b : Bool} (h1 : a = true) (h2 : b = true) : (a && b) = true := by rw [h1, h2]; rfl
set_option maxHeartbeats 4000000 in
theorem FnMatches_closed : joinedFacts Tryz.pinned.checked.prog 3 Tryz.f3 Rows.fnMatchesSpec Rows.fnMatchesRow = true := by
  unfold joinedFacts
  repeat' (with_reducible refine and_true_of ?_ ?_)
  all_goals (as_aux_lemma => kernel_rfl)
set_option maxHeartbeats 4000000 in
theorem FnMatches_holds : Rows.FnMatchesSaid :=
  OpenClaim.holds_of_wide 3 Tryz.f3 rfl rfl rfl rfl rfl rfl rfl ⟨rfl, rfl, rfl, rfl, rfl⟩ rfl rfl rfl rfl rfl (by as_aux_lemma => kernel_rfl) Tryz.func3 FnMatches_closed
    (of_decide_eq_true (by as_aux_lemma => kernel_rfl)) (by unfold Func.isWrapper; rw [if_neg (of_decide_eq_false (by as_aux_lemma => kernel_rfl))]; exact ⟨rfl, rfl⟩)
    (fun os started H enc _ => FnMatches_lifted os started H enc)
#print axioms FnMatches_holds
end Go.Proofs.YtabgcpoaepafjaaGreat
