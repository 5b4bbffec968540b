/- Walks of markIntS and heldIntS. No condition but that a list has at most 1048576 elements. -/
import Derived.Test.YtgddpeaoacmfnaaMarks
set_option linter.unusedSimpArgs false
set_option linter.unusedVariables false
namespace Go.Proofs.Ytgddpeaoacmfnaa
open Go.RowKit
theorem markIntS_any (n : Nat) (A : Option Addr) (c base : Nat) (xs : List Value) (k : Int) (w : World) (hn : n ≤ 1048576) (hk : 0 ≤ k) (hk' : k ≤ 1000000000) (h : w.ownsRow base 3 1 (.slice A n c) n xs) :
    Calls Try.prog 18 #[.slice A n c, .int .i64 k] w fun e w' => e = .returned (.int .i64 (k + 1 * n)) ∧ w'.ownsRow base 3 1 (.slice A n c) n (encI (marks k (n * 1))) ∧ w.grownBy w' (Value.slice A n c).ownBlock := by
  have HO := hide h
  have HF := hide (own_slice h)
  clear h
  go_enter Try.func18, Try.ntmps18
  go_wp2
  go_loopw [1, 5] (fun q i wr => ∃ j : Nat, j ≤ n ∧ i = .int .i64 j ∧ q = .int .i64 (k + 1 * j) ∧ (∃ ys, wr.ownsRow base 3 1 (.slice A n c) n ys ∧ ys.take (j * 1) = encI (marks k (j * 1))) ∧ w.grownBy wr (Value.slice A n c).ownBlock) (fun _ i _ => n - (intOf i).toNat)
  case atStart => exact ⟨0, Nat.zero_le _, rfl, by simp, ⟨xs, HO.out, by simp [marks, encI]⟩, World.grownBy.refl _ _⟩
  case round =>
    obtain ⟨j, hj, rfl, rfl, ⟨ys, hown, hy⟩, hg⟩ := hrel
    have HY := hide hy
    have HG := hide hg
    have HL := hide hown.1
    clear hy hg
    by_cases hlt : j < n
    · obtain ⟨A', c', e1, _, hA0, hA1⟩ := HF.out
      injection e1 with e1 e2 e3
      subst e1 e3
      obtain ⟨a, rfl⟩ : ∃ a, A = some a := by
        cases A with
        | none => exact absurd (hA0 rfl) (by omega)
        | some a => exact ⟨a, rfl⟩
      obtain ⟨g, rfl, _, _, _⟩ := hA1 a rfl
      clear hA0 hA1
      obtain ⟨v0, hd0⟩ := own_cell hown j (by omega)
      have hf0 := hown.frozenAt j
      have HW := hide hown
      clear hown
      go_wp2
      go_roundw
      case rel =>
        have hl := HL.out
        have s0 := (HW.out).stored (j) (.int .i64 (k + j))
        refine ⟨j + 1, by omega, by go_num, by go_num, ⟨_, s0.1, ?_⟩, World.grownBy.trans (HG.out) (s0.2)⟩
        have m0 : _ := HY.out
        have m1 := marks_step (v := k + j) m0 (by (try simp); omega) (by (try push_cast); omega)
        have e : (j + 1) * 1 = j * 1 + 1 := by omega
        rw [e]
        rw [Nat.mul_one] at m1 ⊢
        exact m1
      case measure => simp [intOf]; omega
    · have hjn : j = n := by omega
      subst hjn
      go_wp2
      go_ret
      have hy := HY.out
      rw [List.take_of_length_le (by rw [HL.out]; omega)] at hy
      rw [hy] at hown
      exact ⟨rfl, hown, HG.out⟩
theorem heldIntS_any (n : Nat) (A : Option Addr) (c : Nat) (k : Int) (w : World) (hn : n ≤ 1048576) (hk : 0 ≤ k) (hk' : k ≤ 1000000000) (h : Rds w 1 A n (encI (marks k (n * 1)))) :
    Calls Try.prog 19 #[.slice A n c, .int .i64 k] w fun e w' => e = .returned (.int .i64 (k + 1 * n)) ∧ Ext w w' := by
  have HR := hide h
  clear h
  go_enter Try.func19, Try.ntmps19
  go_wp2
  go_loopw [1, 5] (fun q i wr => ∃ j : Nat, j ≤ n ∧ i = .int .i64 j ∧ q = .int .i64 (k + 1 * j) ∧ Ext w wr) (fun _ i _ => n - (intOf i).toNat)
  case atStart => exact ⟨0, Nat.zero_le _, rfl, by simp, Ext.refl _⟩
  case round =>
    obtain ⟨j, hj, rfl, rfl, hE⟩ := hrel
    by_cases hlt : j < n
    · obtain ⟨b, off, rfl, hb, hc⟩ := (HR.out.ext hE).2 (by omega)
      have e0 := hc j _ (marks_get (by omega))
      have g0 : k + ((j : Nat) : Int) = k + 1 * j := by omega
      rw [g0] at e0
      clear g0
      clear hc
      go_wp2
      (try go_quiet (fail); go_wp2)
      go_roundw
      case rel => exact ⟨j + 1, by omega, by go_num, by go_num, by repeat (first | exact kE | exact Ext.refl _ | apply Ext.alloc | apply Ext.drewN | apply Ext.drew | apply Ext.set0 | apply Ext.set1 | apply Ext.set2 | apply Ext.set3 | (refine Ext.setk ?_ (by omega) _) | (apply Ext.snoc; assumption))⟩
      case measure => simp [intOf]; omega
    · have hjn : j = n := by omega
      subst hjn
      go_wp2
      go_ret
      exact ⟨rfl, hE⟩
end Go.Proofs.Ytgddpeaoacmfnaa
