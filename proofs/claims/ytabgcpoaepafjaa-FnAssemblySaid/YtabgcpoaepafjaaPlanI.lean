/- Plain law: the leads of a whole window, seen between nodes and between faces, are a plane drawing; so faces and nodes are two more than leads (no program in sight). No condition. -/
import Derived.Test.YtabgcpoaepafjaaPlane
import Derived.Test.YtabgcpoaepafjaaFaces
import Derived.Test.YtabgcpoaepafjaaTree
set_option linter.unusedSimpArgs false
set_option linter.unusedVariables false
namespace Go.Proofs.Ytabgcpoaepafjaa
section
variable {N E : List P2}
theorem sumI_front (f : Nat → Int) : ∀ m, sumI f (m + 1) = f 0 + sumI (fun k => f (k + 1)) m
  | 0 => by simp [sumI]
  | m + 1 => by
    have h := sumI_front f m
    simp only [sumI] at h ⊢
    omega
theorem esumF_sum {X Y : Nat → Nat} {g φ : Nat → Int} : ∀ (m s : Nat), esumF X Y g φ s m = sumI (fun k => g (s + k) * (φ (X (s + k)) - φ (Y (s + k)))) m
  | 0, _ => rfl
  | m + 1, s => by
    rw [sumI_front]
    simp only [esumF]
    rw [esumF_sum m (s + 1)]
    have e : ∀ k, s + 1 + k = s + (k + 1) := fun k => by omega
    simp only [e, Nat.add_zero]
/-- A height for each face makes a flow. -/
theorem height_flow (h : Nat → Int) : Flow E (fun d => h (sf N E d) - h (sf N E (twin d))) where
  anti d _ := by rw [twin_twin]; omega
  node i := by
    rw [← around_sum N]
    have hm : ∀ d ∈ aroundL N E i, h (sf N E d) - h (sf N E (twin d)) = h (sf N E d) + - h (sf N E (stepIn (aroundL N E i) d (-1))) := fun d hd => by
      have h2 := around_mem.1 hd
      rw [← h2.2, ← next_twin, sf_next (twin_lt h2.1)]
      omega
    rw [List.map_congr_left hm]
    have e : ∀ (l : List Nat) (a b : Nat → Int), (l.map fun d => a d + - b d).sum = (l.map a).sum - (l.map b).sum := by
      intro l a b
      induction l with
      | nil => rfl
      | cons x l ih => simp only [List.map_cons, List.sum_cons, ih]; omega
    rw [e (aroundL N E i) (fun d => h (sf N E d)) (fun d => h (sf N E (stepIn (aroundL N E i) d (-1))))]
    have hp := sum_perm ((rot_perm (around_nodup N E i)).map fun d => h (sf N E d))
    rw [List.map_map] at hp
    have e2 : (fun d => h (sf N E (stepIn (aroundL N E i) d (-1)))) = (fun d => h (sf N E d)) ∘ fun d => stepIn (aroundL N E i) d (-1) := rfl
    rw [e2, hp]
    omega
theorem faces_walk {f : Nat → Nat} {m : Nat} : ∀ n, ∀ l ∈ facesTo f m n, ∃ d, d < n ∧ l = walkL f m d
  | 0, l, h => by simp [facesTo] at h
  | n + 1, l, h => by
    simp only [facesTo] at h
    split at h
    · obtain ⟨d, h1, h2⟩ := faces_walk n l h
      exact ⟨d, by omega, h2⟩
    · rcases List.mem_append.1 h with h | h
      · obtain ⟨d, h1, h2⟩ := faces_walk n l h
        exact ⟨d, by omega, h2⟩
      · simp at h
        exact ⟨n, by omega, h⟩
theorem face_const {φ : Nat → Int} (hn : ∀ d, d < 2 * E.length → φ (nextN N E d) = φ d) {d e : Nat} (hd : d < 2 * E.length) (he : e < 2 * E.length) (h : sf N E d = sf N E e) : φ d = φ e := by
  have h1 := sf_mem (N := N) hd
  have h2 := sf_mem (N := N) he
  rw [← h] at h2
  have hl : (facesL N E).getD (sf N E d) [] ∈ facesL N E := by simp [List.getD, h1.2]
  obtain ⟨x, hx, hw⟩ := faces_walk _ _ hl
  rw [hw] at h1 h2
  obtain ⟨p, _, _, _, _, hp⟩ := (next_inj N E).walk hx
  rw [hp] at h1 h2
  have hit : ∀ k, φ (it (nextN N E) k x) = φ x := fun k => by
    induction k with
    | zero => rfl
    | succ k ih =>
      show φ (nextN N E (it (nextN N E) k x)) = φ x
      rw [hn _ ((next_inj N E).it_lt hx k), ih]
  obtain ⟨a, _, ha⟩ := List.mem_map.1 h1.1
  obtain ⟨c, _, hc⟩ := List.mem_map.1 h2.1
  rw [← ha, ← hc, hit, hit]
open Classical in
/-- The leads of a whole window as a plane drawing. -/
theorem plan_of (h : wholeB N E = true) : Plan (N.length - 1) ((facesL N E).length - 1) E.length (fun k => (fromN E (2 * k)).toNat) (fun k => (fromN E (2 * k + 1)).toNat) (fun k => sf N E (2 * k)) (fun k => sf N E (2 * k + 1)) := by
  obtain ⟨hW, hm, hwh⟩ := wholeB_iff.1 h
  have dlt : ∀ k, k < E.length → 2 * k < 2 * E.length ∧ 2 * k + 1 < 2 * E.length := fun k hk => ⟨by omega, by omega⟩
  have phi : ∀ (g φ : Nat → Int), Flow E g → sumI (fun k => g (2 * k) * (φ (fromN E (2 * k)).toNat - φ (fromN E (2 * k + 1)).toNat)) E.length = 0 := fun g φ hg => by
    have q := hg.phi hW (fun i => φ i.toNat)
    rw [← q]
    refine (sumI_congr _ fun k hk => ?_)
    unfold upD
    split
    · show _ = g (2 * k) * (φ (fromN E (2 * k)).toNat - φ (fromN E (twin (2 * k))).toNat)
      rw [twin_even]
    · have := hg.anti (2 * k) (by omega)
      rw [twin_even] at this
      show _ = g (2 * k + 1) * (φ (fromN E (2 * k + 1)).toNat - φ (fromN E (twin (2 * k + 1))).toNat)
      rw [twin_odd, this]
      grind
  refine ⟨fun k hk => ?_, fun k hk => ?_, fun φ hφ v hv => ?_, fun φ hφ v hv => ?_, fun h φ => ?_, fun g hg => ?_⟩
  · have h1 := hW.ends (dlt k hk).1
    have h2 := hW.ends (dlt k hk).2
    exact ⟨by omega, by omega⟩
  · have h1 := (sf_mem (N := N) (dlt k hk).1).2
    have h2 := (sf_mem (N := N) (dlt k hk).2).2
    exact ⟨by omega, by omega⟩
  · have hN : 0 < N.length := by
      have := hW.ends (dlt 0 hm).1
      omega
    refine hwh (fun i => φ i = φ 0) (fun i j hi hij => ?_) rfl v (by omega)
    obtain ⟨k, hk, hij⟩ := hij
    have q := hφ k hk
    simp only [fromN_even, fromN_odd] at q
    rcases hij with ⟨e1, e2⟩ | ⟨e1, e2⟩ <;> rw [e1, e2] at q
    · rw [← q]; exact hi
    · rw [q]; exact hi
  · have hF : 0 < (facesL N E).length := by have := (sf_mem (N := N) (dlt 0 hm).1).2; omega
    obtain ⟨d, hd, rfl⟩ := sf_some (N := N) (E := E) (k := v) (by omega)
    obtain ⟨e, he, h0⟩ := sf_some (N := N) (E := E) (k := 0) hF
    have q := whole_const hW hm hwh (φ := fun d => φ (sf N E d)) (fun d hd => by show φ _ = φ _; rw [sf_next hd]) (fun d hd => ?_) hd he
    · rw [← h0]; exact q
    · have h2 := hφ (d / 2) (by omega)
      show φ (sf N E (twin d)) = φ (sf N E d)
      rcases Nat.mod_two_eq_zero_or_one d with e | e
      · have e1 : d = 2 * (d / 2) := by omega
        rw [e1, twin_even, h2]
      · have e1 : d = 2 * (d / 2) + 1 := by omega
        rw [e1, twin_odd]
        have e2 : (2 * (d / 2) + 1) / 2 = d / 2 := by omega
        rw [h2]
  · rw [esumF_sum]
    have q := phi _ φ (height_flow (N := N) (E := E) h)
    simp only [twin_even] at q
    simp only [Nat.zero_add]
    exact q
  · have hfl : Flow E (fun d => if d % 2 = 0 then g (d / 2) else - g (d / 2)) := ⟨fun d _ => by
        rcases Nat.mod_two_eq_zero_or_one d with e | e
        · have e1 : d = 2 * (d / 2) := by omega
          obtain ⟨k, hk⟩ : ∃ k, d / 2 = k := ⟨_, rfl⟩
          rw [hk] at e1
          rw [e1, twin_even, if_neg (by omega), if_pos (by omega), show (2 * k + 1) / 2 = k by omega, show 2 * k / 2 = k by omega]
        · have e1 : d = 2 * (d / 2) + 1 := by omega
          obtain ⟨k, hk⟩ : ∃ k, d / 2 = k := ⟨_, rfl⟩
          rw [hk] at e1
          rw [e1, twin_odd, if_pos (by omega), if_neg (by omega), show (2 * k + 1) / 2 = k by omega, show 2 * k / 2 = k by omega]
          omega, fun i => by
        rw [sumI_two]
        have q := hg (fun v => if (v : Int) = i then 1 else 0)
        rw [esumF_sum] at q
        simp only [Nat.zero_add] at q
        refine Eq.trans (sumI_congr _ fun k hk => ?_) q
        have h1 := hW.ends (dlt k hk).1
        have h2 := hW.ends (dlt k hk).2
        rw [Int.toNat_of_nonneg h1.1, Int.toNat_of_nonneg h2.1, show (2 * k) % 2 = 0 by omega, show (2 * k + 1) % 2 = 1 by omega, show 2 * k / 2 = k by omega, show (2 * k + 1) / 2 = k by omega]
        by_cases c1 : fromN E (2 * k) = i <;> by_cases c2 : fromN E (2 * k + 1) = i <;> simp [c1, c2] <;> omega⟩
    obtain ⟨G, hG⟩ : ∃ G : Nat → Int, (fun d => if d % 2 = 0 then g (d / 2) else - g (d / 2)) = G := ⟨_, rfl⟩
    have hg2 : ∀ k, g k = G (2 * k) := fun k => by rw [← hG]; simp
    rw [hG] at hfl
    clear hG hg
    have hc : ∀ d e, d < 2 * E.length → e < 2 * E.length → sf N E d = sf N E e → corner N E G d = corner N E G e := fun d e hd he q => face_const (fun d hd => hfl.corner_next hW hd) hd he q
    refine ⟨fun f => if q : ∃ d, d < 2 * E.length ∧ sf N E d = f then corner N E G q.choose else 0, fun k hk => ?_⟩
    have e1 : ∃ d, d < 2 * E.length ∧ sf N E d = sf N E (2 * k) := ⟨_, (dlt k hk).1, rfl⟩
    have e2 : ∃ d, d < 2 * E.length ∧ sf N E d = sf N E (2 * k + 1) := ⟨_, (dlt k hk).2, rfl⟩
    show g k = (if q : ∃ d, d < 2 * E.length ∧ sf N E d = sf N E (2 * k) then corner N E G q.choose else 0) - (if q : ∃ d, d < 2 * E.length ∧ sf N E d = sf N E (2 * k + 1) then corner N E G q.choose else 0)
    rw [dif_pos e1, dif_pos e2, hc _ _ e1.choose_spec.1 (dlt k hk).1 e1.choose_spec.2, hc _ _ e2.choose_spec.1 (dlt k hk).2 e2.choose_spec.2, hg2]
    have q := hfl.corner_twin hW (dlt k hk).1
    rw [twin_even] at q
    omega
theorem euler_of (h : wholeB N E = true) : E.length + 2 = N.length + (facesL N E).length := by
  have q := (plan_of h).euler
  obtain ⟨hW, hm, _⟩ := wholeB_iff.1 h
  have h1 := hW.ends (d := 0) (by omega)
  have h2 := (sf_mem (N := N) (E := E) (d := 0) (by omega)).2
  omega
end
end Go.Proofs.Ytabgcpoaepafjaa
