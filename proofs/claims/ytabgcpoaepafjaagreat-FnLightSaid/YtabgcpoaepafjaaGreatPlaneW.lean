/- Plain law on whole windows: the outer face is the one whose area is not above 0 (no program in sight). No condition. -/
import Derived.Test.YtabgcpoaepafjaaGreatPlane
import Derived.Test.YtabgcpoaepafjaaGreatOuter
set_option linter.unusedSimpArgs false
set_option linter.unusedVariables false
namespace Go.Proofs.YtabgcpoaepafjaaGreat

theorem fcs_faces {N E : List P2} (h : wholeB N E = true) : fcs N E = facesL N E := fcs_yes h
/-- The outer face of a whole window. -/
theorem outer_whole {N E : List P2} (h : wholeB N E = true) : ∃ k0, k0 < (fcs N E).length ∧ outerI N E = (k0 : Nat) ∧ (∀ k, k < (fcs N E).length → k ≠ k0 → 0 < areaL N E ((fcs N E).getD k [])) ∧ areaL N E ((fcs N E).getD k0 []) ≤ 0 ∧ (1 < (fcs N E).length → areaL N E ((fcs N E).getD k0 []) < 0) := by
  obtain ⟨hW, hm, hwh⟩ := wholeB_iff.1 h
  obtain ⟨k0, h1, h2, h3, h4⟩ := outer_one hW hm hwh
  rw [← fcs_faces h] at h1 h2 h3 h4
  have e : ∀ k (hk : k < (fcs N E).length), (fcs N E).getD k [] = (fcs N E)[k] := fun k hk => by simp [hk]
  refine ⟨k0, h1, outer_at h1 (by rw [← e]; exact h3) (fun j hj hlt => ?_), h2, h3, h4⟩
  rw [← e]
  exact h2 j hj (by omega)
/-- All areas of a window come to nothing. -/
theorem areas_zero {N E : List P2} (h : wholeB N E = true) : sumI (fun k => areaL N E ((fcs N E).getD k [])) (fcs N E).length = 0 := by
  have h1 := (next_inj N E).sum_faces (cross2 N E)
  rw [sum_pairs _ _ fun k _ => cross2_twin N E k] at h1
  rw [← sumI_range, ← h1, fcs_yes h]
  congr 1
  refine List.ext_getElem (by simp) fun i h1 h2 => ?_
  simp at h1
  simp [areaL, h1]
theorem total_pos {N E : List P2} (h : wholeB N E = true) (h1 : 1 < (fcs N E).length) : 0 < areaAt N E (outerI N E) := by
  obtain ⟨k0, hk, ho, _, _, hn⟩ := outer_whole h
  rw [ho, areaAt_yes hk]
  have := hn h1
  have e : (fcs N E).getD k0 [] = (fcs N E)[k0] := by simp [hk]
  rw [e] at this
  omega
/-- The area of the outer face is that of all others together. -/
theorem total_sum {N E : List P2} (h : wholeB N E = true) : areaAt N E (outerI N E) = sumI (fun k => if (k : Int) = outerI N E then 0 else areaAt N E (k : Nat)) (fcs N E).length := by
  obtain ⟨k0, hk, ho, hp, hn, _⟩ := outer_whole h
  have hz := areas_zero h
  have e1 : ∀ k, k < (fcs N E).length → areaL N E ((fcs N E).getD k []) = (if (k : Int) = outerI N E then 0 else areaAt N E (k : Nat)) + (if k = k0 then areaL N E ((fcs N E).getD k0 []) else 0) := fun k hk' => by
    rw [ho]
    by_cases q : k = k0
    · subst q
      rw [if_pos rfl, if_pos rfl]
      omega
    · rw [if_neg (by omega), if_neg q, areaAt_yes hk']
      have := hp k hk' q
      have e : (fcs N E).getD k [] = (fcs N E)[k] := by simp [hk']
      rw [e] at this ⊢
      omega
  rw [sumI_congr _ e1, sumI_add, sumI_one (k := k0) _ (fun i _ hne => if_neg hne), if_pos hk, if_pos rfl] at hz
  have e2 : areaAt N E (outerI N E) = - areaL N E ((fcs N E).getD k0 []) := by
    have e : (fcs N E).getD k0 [] = (fcs N E)[k0] := by simp [hk]
    rw [ho, areaAt_yes hk, e]
    rw [e] at hn
    omega
  omega
end Go.Proofs.YtabgcpoaepafjaaGreat
