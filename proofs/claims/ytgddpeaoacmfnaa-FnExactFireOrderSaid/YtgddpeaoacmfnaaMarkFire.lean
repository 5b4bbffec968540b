/- Walks of markFiringS and heldFiringS. No condition but that a list has at most 1048576 elements. -/
import Derived.Test.YtgddpeaoacmfnaaMarks
set_option linter.unusedSimpArgs false
set_option linter.unusedVariables false
namespace Go.Proofs.Ytgddpeaoacmfnaa
open Go.RowKit
theorem markFiringS_any (n : Nat) (A : Option Addr) (c base : Nat) (xs : List Value) (k : Int) (w : World) (hn : n ≤ 1048576) (hk : 0 ≤ k) (hk' : k ≤ 1000000000) (h : w.ownsRow base 38 3 (.slice A n c) n xs) :
    Calls Try.prog 17 #[.slice A n c, .int .i64 k] w fun e w' => e = .returned (.int .i64 (k + 3 * n)) ∧ w'.ownsRow base 38 3 (.slice A n c) n (encI (marks k (n * 3))) ∧ w.grownBy w' (Value.slice A n c).ownBlock := by
  have HO := hide h
  have HF := hide (own_slice h)
  clear h
  go_enter Try.func17, Try.ntmps17
  go_wp2
  go_loopw [1, 5] (fun q i wr => ∃ j : Nat, j ≤ n ∧ i = .int .i64 j ∧ q = .int .i64 (k + 3 * j) ∧ (∃ ys, wr.ownsRow base 38 3 (.slice A n c) n ys ∧ ys.take (j * 3) = encI (marks k (j * 3))) ∧ w.grownBy wr (Value.slice A n c).ownBlock) (fun _ i _ => n - (intOf i).toNat)
  case atStart => exact ⟨0, Nat.zero_le _, rfl, by simp, ⟨xs, HO.out, by simp [marks, encI]⟩, World.grownBy.refl _ _⟩
  case round =>
    obtain ⟨j, hj, rfl, rfl, ⟨ys, hown, hy⟩, hg⟩ := hrel
    have HY := hide hy
    have HG := hide hg
    have HL := hide hown.1
    clear hy hg
    by_cases hlt : j < n
    · obtain ⟨A', c', e1, _, hA0, hA1⟩ := HF.out
      injection e1 with e1 e2 e3
      subst e1 e3
      obtain ⟨a, rfl⟩ : ∃ a, A = some a := by
        cases A with
        | none => exact absurd (hA0 rfl) (by omega)
        | some a => exact ⟨a, rfl⟩
      obtain ⟨g, rfl, _, _, _⟩ := hA1 a rfl
      clear hA0 hA1
      obtain ⟨v0, hd0⟩ := own_cell hown (j * 3 + 0) (by omega)
      have hf0 := hown.frozenAt (j * 3)
      simp only [Nat.add_zero] at hd0
      obtain ⟨v1, hd1⟩ := own_cell hown (j * 3 + 1) (by omega)
      have hf1 := hown.frozenAt (j * 3 + 1)
      obtain ⟨v2, hd2⟩ := own_cell hown (j * 3 + 2) (by omega)
      have hf2 := hown.frozenAt (j * 3 + 2)
      have HW := hide hown
      clear hown
      go_wp2
      go_roundw
      case rel =>
        have hl := HL.out
        have s0 := (HW.out).stored (j * 3) (.int .i64 (k + 3 * j))
        have s1 := (s0.1).stored (j * 3 + 1) (.int .i64 (k + 3 * j + 1))
        have s2 := (s1.1).stored (j * 3 + 2) (.int .i64 (k + 3 * j + 1 + 1))
        refine ⟨j + 1, by omega, by go_num, by go_num, ⟨_, s2.1, ?_⟩, World.grownBy.trans (World.grownBy.trans (World.grownBy.trans (HG.out) (s0.2)) (s1.2)) (s2.2)⟩
        have m0 : _ := HY.out
        have m1 := marks_step (v := k + 3 * j) m0 (by (try simp); omega) (by (try push_cast); omega)
        have m2 := marks_step (v := k + 3 * j + 1) m1 (by (try simp); omega) (by (try push_cast); omega)
        have m3 := marks_step (v := k + 3 * j + 1 + 1) m2 (by (try simp); omega) (by (try push_cast); omega)
        have e : (j + 1) * 3 = j * 3 + 1 + 1 + 1 := by omega
        rw [e]
        exact m3
      case measure => simp [intOf]; omega
    · have hjn : j = n := by omega
      subst hjn
      go_wp2
      go_ret
      have hy := HY.out
      rw [List.take_of_length_le (by rw [HL.out]; omega)] at hy
      rw [hy] at hown
      exact ⟨rfl, hown, HG.out⟩
end Go.Proofs.Ytgddpeaoacmfnaa
