/- Plain law on light: it adds up pane by pane, no more comes in than falls on the window, the brightest face (no program in sight). No condition. -/
import Derived.Test.YtabgcpoaepafjaaGreatShare
import Derived.Test.YtabgcpoaepafjaaGreatBright
import Derived.Test.YtabgcpoaepafjaaGreatPlaneW
set_option linter.unusedSimpArgs false
set_option linter.unusedVariables false
namespace Go.Proofs.YtabgcpoaepafjaaGreat
section
variable {N E : List P2} {S : List P3}
/-- The area that lets light in. -/
noncomputable def arI (N E : List P2) (f : Nat) : Int := if (f : Int) = outerI N E then 0 else areaAt N E f
theorem lit_set (h : litOk N E S = true) {f : Nat} : litOk N E (S.set f (1000, 1000, 1000)) = true := by
  obtain ⟨h1, h2, h3⟩ := litOk_iff.1 h
  refine litOk_iff.2 ⟨h1, by simp [h2], ?_⟩
  rw [List.all_eq_true] at h3 ⊢
  intro x hx
  rcases List.mem_or_eq_of_mem_set hx with q | q
  · exact h3 x q
  · rw [q]; decide
theorem set_getD {f k : Nat} (hf : f < S.length) (c : P3) : (S.set f c).getD k (0, 0, 0) = if k = f then c else S.getD k (0, 0, 0) := by
  by_cases e : k = f
  · subst e; simp [List.getD, hf]
  · rw [if_neg e]
    have e2 : ¬ f = k := fun q => e q.symm
    simp [List.getD, List.getElem?_set, e2]
theorem light_set {f : Nat} (hf : f < S.length) : ∀ k : Nat,
    (lightTo N E (S.set f (1000, 1000, 1000)) k).1 = (lightTo N E S k).1 + (if f < k then arI N E f * (1000 - (S.getD f (0, 0, 0)).1) else 0) ∧
    (lightTo N E (S.set f (1000, 1000, 1000)) k).2.1 = (lightTo N E S k).2.1 + (if f < k then arI N E f * (1000 - (S.getD f (0, 0, 0)).2.1) else 0) ∧
    (lightTo N E (S.set f (1000, 1000, 1000)) k).2.2 = (lightTo N E S k).2.2 + (if f < k then arI N E f * (1000 - (S.getD f (0, 0, 0)).2.2) else 0)
  | 0 => by simp [lightTo]
  | k + 1 => by
    obtain ⟨i1, i2, i3⟩ := light_set hf k
    simp only [lightTo]
    rw [set_getD hf]
    by_cases e : k = f
    · subst e
      rw [if_neg (Nat.lt_irrefl k)] at i1 i2 i3
      rw [if_pos rfl, if_pos (Nat.lt_succ_self k), if_pos (Nat.lt_succ_self k), if_pos (Nat.lt_succ_self k)]
      unfold arI
      by_cases ho : (k : Int) = outerI N E
      · rw [if_pos ho, if_pos ho, if_pos ho]
        simp only [Int.zero_mul]
        exact ⟨i1, i2, i3⟩
      · rw [if_neg ho, if_neg ho, if_neg ho]
        dsimp only
        rw [i1, i2, i3]
        exact ⟨by grind, by grind, by grind⟩
    · rw [if_neg e]
      have hi : ∀ x : Int, (if f < k + 1 then x else 0) = if f < k then x else 0 := fun x => by
        by_cases q : f < k
        · rw [if_pos q, if_pos (by omega)]
        · rw [if_neg q, if_neg (by omega)]
      rw [hi, hi, hi]
      by_cases ho : (k : Int) = outerI N E
      · rw [if_pos ho, if_pos ho]
        exact ⟨i1, i2, i3⟩
      · rw [if_neg ho, if_neg ho]
        dsimp only
        rw [i1, i2, i3]
        exact ⟨by omega, by omega, by omega⟩
theorem ar_in (h : wholeB N E = true) {f : Nat} (hf : f < (fcs N E).length) : 0 ≤ arI N E f ∧ arI N E f ≤ 16000 := by
  have := area_range hf
  unfold arI
  split <;> omega
/-- Light adds up pane by pane. -/
theorem light_adds (h : litOk N E S = true) {f : Nat} (hf : f < S.length) :
    (lightV N E (S.set f (1000, 1000, 1000))).1 - (lightV N E S).1 = arI N E f * (1000 - (S.getD f (0, 0, 0)).1) ∧
    (lightV N E (S.set f (1000, 1000, 1000))).2.1 - (lightV N E S).2.1 = arI N E f * (1000 - (S.getD f (0, 0, 0)).2.1) ∧
    (lightV N E (S.set f (1000, 1000, 1000))).2.2 - (lightV N E S).2.2 = arI N E f * (1000 - (S.getD f (0, 0, 0)).2.2) := by
  obtain ⟨i1, i2, i3⟩ := light_set (N := N) (E := E) hf S.length
  unfold lightV
  rw [if_pos h, if_pos (lit_set h), List.length_set, i1, i2, i3, if_pos hf, if_pos hf, if_pos hf]
  exact ⟨by omega, by omega, by omega⟩
/-- The faces' areas come to the outer one's. -/
theorem area_total (h : wholeB N E = true) : sumI (arI N E) (fcs N E).length = areaAt N E (outerI N E) := by
  rw [total_sum h]
  rfl
theorem light_le (h : litOk N E S = true) : ∀ k : Nat, k ≤ S.length → (lightTo N E S k).1 ≤ 1000 * sumI (arI N E) k ∧ (lightTo N E S k).2.1 ≤ 1000 * sumI (arI N E) k ∧ (lightTo N E S k).2.2 ≤ 1000 * sumI (arI N E) k
  | 0, _ => by simp [lightTo, sumI]
  | k + 1, hk => by
    obtain ⟨h1, h2, h3⟩ := litOk_iff.1 h
    obtain ⟨i1, i2, i3⟩ := light_le h k (by omega)
    have hs := stain_at h3 (show k < S.length by omega)
    have ha := area_range (N := N) (E := E) (k := k) (by omega)
    have e : S.getD k (0, 0, 0) = S[k] := by simp [show k < S.length by omega]
    simp only [lightTo, sumI]
    rw [e]
    have p : ∀ s : Int, s ≤ 1000 → areaAt N E k * s ≤ 1000 * areaAt N E k := fun s q => by
      have := Int.mul_le_mul_of_nonneg_left q ha.1
      rw [Int.mul_comm 1000]
      exact this
    have p1 := p _ hs.2.1
    have p2 := p _ hs.2.2.2.1
    have p3 := p _ hs.2.2.2.2.2
    by_cases ho : (k : Int) = outerI N E
    · have ea : arI N E k = 0 := if_pos ho
      rw [if_pos ho, ea]
      exact ⟨by omega, by omega, by omega⟩
    · have ea : arI N E k = areaAt N E k := if_neg ho
      rw [if_neg ho, ea]
      exact ⟨by dsimp only; omega, by dsimp only; omega, by dsimp only; omega⟩
theorem sum_le (h : litOk N E S = true) : lightSum N E S ≤ 3000 * areaAt N E (outerI N E) := by
  obtain ⟨h1, h2, _⟩ := litOk_iff.1 h
  obtain ⟨i1, i2, i3⟩ := light_le h S.length (Nat.le_refl _)
  rw [h2, area_total h1] at i1 i2 i3
  unfold lightSum lightV
  rw [if_pos h, h2]
  omega
theorem sum_nonneg : 0 ≤ lightSum N E S := by
  have := light_facts N E S
  unfold lightSum
  omega
theorem share_in (h : litOk N E S = true) : 0 ≤ shareI N E S ∧ shareI N E S ≤ 1000 := by
  unfold shareI
  by_cases q : lightSum N E S = 0
  · rw [if_pos q]; exact ⟨by omega, by omega⟩
  · rw [if_neg q]
    have ha := ((light_facts N E S).2.2.2 q).1
    have hs := sum_le h
    have h0 := sum_nonneg (N := N) (E := E) (S := S)
    exact ⟨Int.ediv_nonneg (by omega) (by omega), Int.ediv_le_of_le_mul (by omega) (by omega)⟩
theorem share_mono {S' : List P3} (h' : litOk N E S' = true) (h : lightSum N E S ≤ lightSum N E S') : shareI N E S ≤ shareI N E S' := by
  by_cases q : lightSum N E S = 0
  · have := (share_in h').1
    unfold shareI at this ⊢
    rw [if_pos q]
    exact this
  · have h0 := sum_nonneg (N := N) (E := E) (S := S)
    have ha := ((light_facts N E S).2.2.2 q).1
    unfold shareI
    rw [if_neg q, if_neg (by omega)]
    exact Int.ediv_le_ediv (by omega) (by omega)
theorem share_set (h : litOk N E S = true) {f : Nat} (hf : f < S.length) : shareI N E S ≤ shareI N E (S.set f (1000, 1000, 1000)) := by
  obtain ⟨h1, h2, h3⟩ := litOk_iff.1 h
  refine share_mono (lit_set h) ?_
  obtain ⟨a1, a2, a3⟩ := light_adds h hf
  have hs := stain_at h3 hf
  have ha := ar_in h1 (show f < (fcs N E).length by omega)
  have e : S.getD f (0, 0, 0) = S[f] := by simp [hf]
  rw [e] at a1 a2 a3
  have p1 : 0 ≤ arI N E f * (1000 - S[f].1) := Int.mul_nonneg ha.1 (by omega)
  have p2 : 0 ≤ arI N E f * (1000 - S[f].2.1) := Int.mul_nonneg ha.1 (by omega)
  have p3 : 0 ≤ arI N E f * (1000 - S[f].2.2) := Int.mul_nonneg ha.1 (by omega)
  unfold lightSum
  omega
/-- What a pane lets in. -/
noncomputable def lumI (N E : List P2) (S : List P3) (k : Nat) : Int := areaAt N E k * ((S.getD k (0, 0, 0)).1 + (S.getD k (0, 0, 0)).2.1 + (S.getD k (0, 0, 0)).2.2)
theorem bright_to (h : litOk N E S = true) : ∀ k : Nat, k ≤ S.length → (brightTo N E S k = (-1, -1) ∧ ∀ i : Nat, i < k → (i : Int) = outerI N E) ∨ ∃ b : Nat, b < k ∧ (b : Int) ≠ outerI N E ∧ brightTo N E S k = ((b : Int), lumI N E S b) ∧ ∀ i : Nat, i < k → (i : Int) ≠ outerI N E → lumI N E S i ≤ lumI N E S b
  | 0, _ => .inl ⟨rfl, fun i hi => absurd hi (by omega)⟩
  | k + 1, hk => by
    obtain ⟨h1, h2, h3⟩ := litOk_iff.1 h
    have hs := stain_at h3 (show k < S.length by omega)
    have ha := area_range (N := N) (E := E) (k := k) (by omega)
    have e : S.getD k (0, 0, 0) = S[k] := by simp [show k < S.length by omega]
    have hl : 0 ≤ lumI N E S k := by unfold lumI; rw [e]; exact Int.mul_nonneg ha.1 (by omega)
    have hd : brightTo N E S (k + 1) = if (k : Int) ≠ outerI N E ∧ (brightTo N E S k).2 < lumI N E S k then ((k : Int), lumI N E S k) else brightTo N E S k := rfl
    rw [hd]
    rcases bright_to h k (by omega) with ⟨q1, q2⟩ | ⟨b, q1, q2, q3, q4⟩
    · rw [q1]
      by_cases ho : (k : Int) = outerI N E
      · rw [if_neg (fun z => z.1 ho)]
        exact .inl ⟨rfl, fun i hi => by
          by_cases z : i = k
          · rw [z]; exact ho
          · exact q2 i (by omega)⟩
      · rw [if_pos ⟨ho, by show (-1 : Int) < _; omega⟩]
        exact .inr ⟨k, by omega, ho, rfl, fun i hi z => by
          by_cases y : i = k
          · rw [y]; omega
          · exact absurd (q2 i (by omega)) z⟩
    · rw [q3]
      by_cases hc : (k : Int) ≠ outerI N E ∧ lumI N E S b < lumI N E S k
      · rw [if_pos hc]
        exact .inr ⟨k, by omega, hc.1, rfl, fun i hi z => by
          by_cases y : i = k
          · rw [y]; omega
          · have := q4 i (by omega) z; omega⟩
      · rw [if_neg hc]
        exact .inr ⟨b, by omega, q2, rfl, fun i hi z => by
          by_cases y : i = k
          · subst y
            have := fun t => hc ⟨z, t⟩
            omega
          · exact q4 i (by omega) z⟩
/-- The brightest face of a window of two faces or more. -/
theorem bright_is (h : litOk N E S = true) (hn : 1 < (fcs N E).length) : ∃ b : Nat, brightV N E S = (b : Int) ∧ b < (fcs N E).length ∧ (b : Int) ≠ outerI N E ∧ ∀ f : Nat, f < (fcs N E).length → (f : Int) ≠ outerI N E → lumI N E S f ≤ lumI N E S b := by
  obtain ⟨h1, h2, h3⟩ := litOk_iff.1 h
  unfold brightV
  rw [if_pos h]
  rcases bright_to h S.length (Nat.le_refl _) with ⟨_, q2⟩ | ⟨b, q1, q2, q3, q4⟩
  · have a := q2 0 (by omega)
    have b := q2 1 (by omega)
    omega
  · rw [q3]
    exact ⟨b, rfl, by omega, q2, fun f hf => q4 f (by omega)⟩
theorem light_bad (h : litOk N E S = false) : lightV N E S = (0, 0, 0) ∧ shareI N E S = 0 ∧ brightV N E S = -1 := by
  have e : lightV N E S = (0, 0, 0) := by unfold lightV; rw [if_neg (by simp [h])]
  refine ⟨e, ?_, by unfold brightV; rw [if_neg (by simp [h])]⟩
  unfold shareI lightSum
  rw [e]
  rfl
end
end Go.Proofs.YtabgcpoaepafjaaGreat
