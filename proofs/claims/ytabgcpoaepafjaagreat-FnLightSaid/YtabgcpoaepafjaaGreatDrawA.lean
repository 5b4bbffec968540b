/- Walks of the small functions of the laws over drawn bytes. No condition but that the bytes lie in memory. -/
import Derived.Test.YtabgcpoaepafjaaGreatDraw
import Derived.IntWalk
set_option linter.unusedSimpArgs false
set_option linter.unusedVariables false
namespace Go.Proofs.YtabgcpoaepafjaaGreat
open Go.RowKit

theorem big_any (l : List Int) (A : Option Addr) (c : Nat) (w : World) (hl : l.length ≤ maxLen) :
    Calls Tryz.prog 7 #[.slice A l.length c] w fun e w' => e = .returned (.bool (decide ((1048576 : Int) < l.length))) ∧ w = w' := by
  unfold maxLen at hl
  go_enter Tryz.func7, Tryz.ntmps7
  go_wp2
  go_ret
  exact ⟨rfl, rfl⟩
theorem at_any (l : List Int) (A : Option Addr) (c : Nat) (i : Nat) (w : World) (hl : l.length ≤ 1048576) (hi : i ≤ 10) (hr : RB w A l) :
    Calls Tryz.prog 26 #[.slice A l.length c, .int .i64 i] w fun e w' => ∃ x, e = .returned (.int .i64 x) ∧ 0 ≤ x ∧ x ≤ 255 ∧ w = w' := by
  by_cases h0 : l.length = 0
  · have hne : ((l.length : Int) == 0) = true := by rw [beq_iff_eq]; omega
    clear h0
    go_enter Tryz.func26, Tryz.ntmps26
    go_wp2
    go_ret
    exact ⟨0, rfl, by omega, by omega, rfl⟩
  · have hne : ((l.length : Int) == 0) = false := by rw [beq_eq_false_iff_ne]; omega
    have HR := hide hr
    clear hr
    obtain ⟨j, hj⟩ : ∃ j, (i * 5 + 1) % l.length = j := ⟨_, rfl⟩
    have hjl : j < l.length := by rw [← hj]; exact Nat.mod_lt _ (by omega)
    have q0 : ((i : Int) * 5 + 1) % (l.length : Int) = (j : Int) := by rw [← hj]; push_cast; rfl
    clear hj
    have q1 : (j : Int) < (l.length : Int) := by omega
    have q2 : (0 : Int) ≤ (j : Int) := by omega
    obtain ⟨b, off, rfl, hb, e0, e1, e2⟩ := HR.out.at_ hjl
    go_enter Tryz.func26, Tryz.ntmps26
    go_wp2
    go_ret
    exact ⟨_, rfl, by omega, by omega, rfl⟩
end Go.Proofs.YtabgcpoaepafjaaGreat
