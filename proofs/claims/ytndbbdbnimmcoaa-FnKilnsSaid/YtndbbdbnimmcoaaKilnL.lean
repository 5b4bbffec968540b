/- Walks of the least numbers of batches and of hours, in both forms. No condition but that a list has at most 1048576 elements. -/
import Derived.Test.YtndbbdbnimmcoaaKilnF
import Derived.Test.YtndbbdbnimmcoaaKilnG
set_option linter.unusedSimpArgs false
set_option linter.unusedVariables false
namespace Go.Proofs.Ytndbbdbnimmcoaa
open Go.RowKit

/-- The least cost of batches, or -1. -/
noncomputable def fewV (c : Int × Int → Int) (l : List P3) : Int := if firingsB l then Classical.epsilon (fun v => MinFir c l v) else -1
theorem fewV_no {c : Int × Int → Int} {l : List P3} (h : firingsB l = false) : fewV c l = -1 := by
  unfold fewV
  rw [h]
  rfl
theorem fewV_yes {c : Int × Int → Int} {l : List P3} {v : Int} (h : firingsB l = true) (hv : MinFir c l v) : v = fewV c l := by
  unfold fewV
  rw [h, if_pos rfl]
  exact hv.unique (Classical.epsilon_spec (p := fun v => MinFir c l v) ⟨v, hv⟩)
theorem FewestFirings_any (l : List P3) (A : Option Addr) (c : Nat) (w : World) (hl : l.length ≤ 1048576) (hr : R3 w A l) :
    Calls Try.prog 6 #[.slice A l.length c] w fun e w' => e = .returned (.int .i64 (fewV costOne l)) ∧ Ext w w' := by
  have HR := hide hr
  clear hr
  by_cases h1 : firingsB l = true
  · have H1 := hide h1
    go_enter Try.func6, Try.ntmps6
    go_wp2_with fail
    refine (firingsOk_any l A c _ hl HR.out).mono ?_; rintro e w1 ⟨rfl, hb1⟩
    have HB1 := hide hb1
    rw [h1]
    clear h1 hb1
    go_wp2_with fail
    refine (fewestOne_any l A c _ H1.out (HR.out.ext HB1.out)).mono ?_; rintro e w2 ⟨v, rfl, hv, hb2⟩
    have HV := hide (fewV_yes H1.out hv)
    have HB2 := hide hb2
    clear hv hb2
    go_wp2_with fail
    go_ret
    exact ⟨ret_int HV.out, HB1.out.trans HB2.out⟩
  · have h2 : firingsB l = false := by simpa using h1
    have H2 := hide h2
    clear h1
    go_enter Try.func6, Try.ntmps6
    go_wp2_with fail
    refine (firingsOk_any l A c _ hl HR.out).mono ?_; rintro e w1 ⟨rfl, hb1⟩
    rw [h2]
    clear h2
    go_wp2_with fail
    go_ret
    exact ⟨ret_int (fewV_no H2.out).symm, hb1⟩
theorem HoursOf_any (l : List P3) (A : Option Addr) (c : Nat) (w : World) (hl : l.length ≤ 1048576) (hr : R3 w A l) :
    Calls Try.prog 7 #[.slice A l.length c] w fun e w' => e = .returned (.int .i64 (fewV costHours l)) ∧ Ext w w' := by
  have HR := hide hr
  clear hr
  by_cases h1 : firingsB l = true
  · have H1 := hide h1
    go_enter Try.func7, Try.ntmps7
    go_wp2_with fail
    refine (firingsOk_any l A c _ hl HR.out).mono ?_; rintro e w1 ⟨rfl, hb1⟩
    have HB1 := hide hb1
    rw [h1]
    clear h1 hb1
    go_wp2_with fail
    refine (fewestHours_any l A c _ H1.out (HR.out.ext HB1.out)).mono ?_; rintro e w2 ⟨v, rfl, hv, hb2⟩
    have HV := hide (fewV_yes H1.out hv)
    have HB2 := hide hb2
    clear hv hb2
    go_wp2_with fail
    go_ret
    exact ⟨ret_int HV.out, HB1.out.trans HB2.out⟩
  · have h2 : firingsB l = false := by simpa using h1
    have H2 := hide h2
    clear h1
    go_enter Try.func7, Try.ntmps7
    go_wp2_with fail
    refine (firingsOk_any l A c _ hl HR.out).mono ?_; rintro e w1 ⟨rfl, hb1⟩
    rw [h2]
    clear h2
    go_wp2_with fail
    go_ret
    exact ⟨ret_int (fewV_no H2.out).symm, hb1⟩
end Go.Proofs.Ytndbbdbnimmcoaa
