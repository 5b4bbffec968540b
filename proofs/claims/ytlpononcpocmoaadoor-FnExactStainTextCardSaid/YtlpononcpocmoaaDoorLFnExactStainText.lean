/- The statement of FnExactStainText: for every input the law returns true, and each argument reads behind the call as it read before; the tables of the library that it lists are tied to the text. No condition. -/
import Derived.Test.YtlpononcpocmoaaDoorRows
import Derived.Test.YtlpononcpocmoaaDoorCards
import Derived.Test.YtlpononcpocmoaaDoorTie
import Derived.Test.YtlpononcpocmoaaDoorFrameT
import Derived.Test.YtlpononcpocmoaaDoorArgs
import Derived.Test.YtlpononcpocmoaaDoorTextL
import Derived.Lib.SmallJoins
import Derived.SevenTiedAt
set_option linter.unusedSimpArgs false
set_option linter.unusedVariables false
namespace Go.Proofs.YtlpononcpocmoaaDoor
open Go.ChangeShapes Go.WideShapes Go.ChangeAt Go.RowKit Go.Joins

set_option maxRecDepth 100000 in
set_option linter.unusedVariables false in
theorem FnExactStainText_lifted (os : Os) (started : os.Started) (H : Type) (enc : TypeId × Value → H) :
    ReturnsInHanded {} Tryd.checked os 3 .any (fun w args => (Rows.fnExactStainTextSpec.pre enc Tryd.prog Tryd.f3 [] false w args ∧ laidMetH Tryd.prog laid3 w) ∧ sizedMet enc Tryd.prog Tryd.f3 (OpenSpec.ofChange Rows.fnExactStainTextSpec) false w args) (Rows.fnExactStainTextSpec.post enc Tryd.prog Tryd.f3 false true false false) := by
  refine law_returns_laid (C := Tryd.checked) laid3 own started (by kernel_rfl) Tryd.func3 laidOut rfl (by kernel_rfl) 4 Tryd.underlying4 (by kernel_rfl) ?_
    (ChangeSpec.witness_shaped (enc := enc) (C := Tryd.checked) (os := os) (X := fun w _ => laidMetH Tryd.prog laid3 w) false (World.doorLaid Tryd.prog 4000 os) #[.agg #[.int .i64 0, .int .i64 0, .int .i64 0]] 8 rfl (World.shaped_of_RefB (by kernel_rfl) (by kernel_rfl)) (by kernel_rfl) (by kernel_rfl) (by kernel_rfl) (door_met os _)) ?_
  · intro ds hd
    rw [Tryd.params3] at hd
    match ds, hd with
    | [d0], _ => rfl
  · intro W base args ds p hL hval0 hA
    have hval : ∀ (j : Nat) t v, Tryd.f3.params[j]? = some t → args[j]? = some v → Value.okWide Tryd.prog W .any base t v := hval0
    have hA : DataW.TrodAll enc Tryd.prog W 0 (fun _ => true) true Tryd.f3.params.toList args.toList ds p := hA
    clear hval0
    rw [Tryd.params3] at hA hval
    obtain ⟨v0, vs0, d0, ds0, p0, q0, hargs, rfl, rfl, h0, r0⟩ := trodAll_cons hA
    obtain ⟨rfl, rfl, rfl⟩ := trodAll_nil r0
    obtain rfl : args = #[v0] := by cases args; simp_all
    obtain ⟨c0_0, c0_1, c0_2, y0_0, y0_1, y0_2, m0, rfl, rfl, rfl, hy0_0, hy0_1, hy0_2⟩ := open_agg3 Tryd.underlying23 (by kernel_rfl) (show Tryd.prog.cellsOf 23 = 3 by kernel_rfl) (hval 0 23 v0 rfl rfl) h0
    obtain ⟨x0_0, e0_0, rfl, wx0_0⟩ := DataW.trod_int Tryd.underlying3 hy0_0
    simp at e0_0; subst e0_0
    obtain ⟨x0_1, e0_1, rfl, wx0_1⟩ := DataW.trod_int Tryd.underlying3 hy0_1
    simp at e0_1; subst e0_1
    obtain ⟨x0_2, e0_2, rfl, wx0_2⟩ := DataW.trod_int Tryd.underlying3 hy0_2
    simp at e0_2; subst e0_2
    exact (FnExactStainText_walk x0_0 x0_1 x0_2 W (tab_of_laid hL))

theorem FnExactStainText_said : Rows.FnExactStainTextSaid :=
  OpenClaim.holds_of_wide 3 Tryd.f3 rfl rfl rfl rfl rfl rfl rfl ⟨rfl, rfl, rfl, rfl, rfl⟩ rfl rfl rfl rfl rfl (by kernel_rfl) Tryd.func3 (by kernel_rfl)
    (of_decide_eq_true (by kernel_rfl)) (by unfold Func.isWrapper; rw [if_neg (of_decide_eq_false (by kernel_rfl))]; exact ⟨rfl, rfl⟩)
    (fun os started H enc _ => FnExactStainText_lifted os started H enc)
theorem FnExactStainText_holds : Rows.FnExactStainTextCardSaid :=
  Claim7.holds_tied_plain_at .later [] [.data, .data, .data] true _ false
    FnExactStainText_said (fun _ h => by cases h) (by kernel_rfl) (fun _ h => by cases h) fnExactStainText_row_tie rfl ⟨rfl, rfl⟩ (by kernel_rfl) rfl
    (fun f fn hf hfn => by
      obtain rfl : f = 3 := Option.some.inj ((show Tryd.prog.funcNamed Rows.fnExactStainTextRow.func = some 3 by kernel_rfl).symm.trans hf) |>.symm
      obtain rfl : fn = Tryd.f3 := (Option.some.inj (Tryd.func3.symm.trans hfn)).symm
      exact ⟨by kernel_rfl, fun j t ht => by
        rw [Tryd.params3] at ht
        have hm : t ∈ [23] := by simpa using Array.mem_of_getElem? ht
        have hall : ([23].all fun u => !Tryd.prog.wantsStandIn u) = true := by kernel_rfl
        exact (show Tryd.prog.wantsStandIn t = false by simpa using List.all_eq_true.1 hall t hm)⟩)
    (by kernel_rfl)
#print axioms FnExactStainText_holds
end Go.Proofs.YtlpononcpocmoaaDoor
