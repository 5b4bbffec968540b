/- Words and walks for the law FnTrees, a part of them. No condition but that the arguments lie in memory. -/
import Derived.Test.YtabgcpoaepafjaaU2
import Derived.Test.YtabgcpoaepafjaaU3
import Derived.Test.YtabgcpoaepafjaaU11
import Derived.Test.YtabgcpoaepafjaaU12
import Derived.Test.YtabgcpoaepafjaaU13
import Derived.Test.YtabgcpoaepafjaaU14
set_option linter.unusedVariables false
set_option linter.unusedSimpArgs false
namespace Go.Proofs.Ytabgcpoaepafjaa
section
variable {N E : List P2}
theorem sumI_front (f : Nat → Int) : ∀ m, sumI f (m + 1) = f 0 + sumI (fun k => f (k + 1)) m
  | 0 => by simp [sumI]
  | m + 1 => by
    have h := sumI_front f m
    simp only [sumI] at h ⊢
    omega
theorem esumF_sum {X Y : Nat → Nat} {g φ : Nat → Int} : ∀ (m s : Nat), esumF X Y g φ s m = sumI (fun k => g (s + k) * (φ (X (s + k)) - φ (Y (s + k)))) m
  | 0, _ => rfl
  | m + 1, s => by
    rw [sumI_front]
    simp only [esumF]
    rw [esumF_sum m (s + 1)]
    have e : ∀ k, s + 1 + k = s + (k + 1) := fun k => by omega
    simp only [e, Nat.add_zero]
/-- A height for each face makes a flow. -/
theorem height_flow (h : Nat → Int) : Flow E (fun d => h (sf N E d) - h (sf N E (twin d))) where
  anti d _ := by rw [twin_twin]; omega
  node i := by
    rw [← around_sum N]
    have hm : ∀ d ∈ aroundL N E i, h (sf N E d) - h (sf N E (twin d)) = h (sf N E d) + - h (sf N E (stepIn (aroundL N E i) d (-1))) := fun d hd => by
      have h2 := around_mem.1 hd
      rw [← h2.2, ← next_twin, sf_next (twin_lt h2.1)]
      omega
    rw [List.map_congr_left hm]
    have e : ∀ (l : List Nat) (a b : Nat → Int), (l.map fun d => a d + - b d).sum = (l.map a).sum - (l.map b).sum := by
      intro l a b
      induction l with
      | nil => rfl
      | cons x l ih => simp only [List.map_cons, List.sum_cons, ih]; omega
    rw [e (aroundL N E i) (fun d => h (sf N E d)) (fun d => h (sf N E (stepIn (aroundL N E i) d (-1))))]
    have hp := sum_perm ((rot_perm (around_nodup N E i)).map fun d => h (sf N E d))
    rw [List.map_map] at hp
    have e2 : (fun d => h (sf N E (stepIn (aroundL N E i) d (-1)))) = (fun d => h (sf N E d)) ∘ fun d => stepIn (aroundL N E i) d (-1) := rfl
    rw [e2, hp]
    omega
theorem faces_walk {f : Nat → Nat} {m : Nat} : ∀ n, ∀ l ∈ facesTo f m n, ∃ d, d < n ∧ l = walkL f m d
  | 0, l, h => by simp [facesTo] at h
  | n + 1, l, h => by
    simp only [facesTo] at h
    split at h
    · obtain ⟨d, h1, h2⟩ := faces_walk n l h
      exact ⟨d, by omega, h2⟩
    · rcases List.mem_append.1 h with h | h
      · obtain ⟨d, h1, h2⟩ := faces_walk n l h
        exact ⟨d, by omega, h2⟩
      · simp at h
        exact ⟨n, by omega, h⟩
theorem face_const {φ : Nat → Int} (hn : ∀ d, d < 2 * E.length → φ (nextN N E d) = φ d) {d e : Nat} (hd : d < 2 * E.length) (he : e < 2 * E.length) (h : sf N E d = sf N E e) : φ d = φ e := by
  have h1 := sf_mem (N := N) hd
  have h2 := sf_mem (N := N) he
  rw [← h] at h2
  have hl : (facesL N E).getD (sf N E d) [] ∈ facesL N E := by simp [List.getD, h1.2]
  obtain ⟨x, hx, hw⟩ := faces_walk _ _ hl
  rw [hw] at h1 h2
  obtain ⟨p, _, _, _, _, hp⟩ := (next_inj N E).walk hx
  rw [hp] at h1 h2
  have hit : ∀ k, φ (it (nextN N E) k x) = φ x := fun k => by
    induction k with
    | zero => rfl
    | succ k ih =>
      show φ (nextN N E (it (nextN N E) k x)) = φ x
      rw [hn _ ((next_inj N E).it_lt hx k), ih]
  obtain ⟨a, _, ha⟩ := List.mem_map.1 h1.1
  obtain ⟨c, _, hc⟩ := List.mem_map.1 h2.1
  rw [← ha, ← hc, hit, hit]
open Classical in
/-- The leads of a whole window as a plane drawing. -/
theorem plan_of (h : wholeB N E = true) : Plan (N.length - 1) ((facesL N E).length - 1) E.length (fun k => (fromN E (2 * k)).toNat) (fun k => (fromN E (2 * k + 1)).toNat) (fun k => sf N E (2 * k)) (fun k => sf N E (2 * k + 1)) := by
  obtain ⟨hW, hm, hwh⟩ := wholeB_iff.1 h
  have dlt : ∀ k, k < E.length → 2 * k < 2 * E.length ∧ 2 * k + 1 < 2 * E.length := fun k hk => ⟨by omega, by omega⟩
  have phi : ∀ (g φ : Nat → Int), Flow E g → sumI (fun k => g (2 * k) * (φ (fromN E (2 * k)).toNat - φ (fromN E (2 * k + 1)).toNat)) E.length = 0 := fun g φ hg => by
    have q := hg.phi hW (fun i => φ i.toNat)
    rw [← q]
    refine (sumI_congr _ fun k hk => ?_)
    unfold upD
    split
    · show _ = g (2 * k) * (φ (fromN E (2 * k)).toNat - φ (fromN E (twin (2 * k))).toNat)
      rw [twin_even]
    · have := hg.anti (2 * k) (by omega)
      rw [twin_even] at this
      show _ = g (2 * k + 1) * (φ (fromN E (2 * k + 1)).toNat - φ (fromN E (twin (2 * k + 1))).toNat)
      rw [twin_odd, this]
      grind
  refine ⟨fun k hk => ?_, fun k hk => ?_, fun φ hφ v hv => ?_, fun φ hφ v hv => ?_, fun h φ => ?_, fun g hg => ?_⟩
  · have h1 := hW.ends (dlt k hk).1
    have h2 := hW.ends (dlt k hk).2
    exact ⟨by omega, by omega⟩
  · have h1 := (sf_mem (N := N) (dlt k hk).1).2
    have h2 := (sf_mem (N := N) (dlt k hk).2).2
    exact ⟨by omega, by omega⟩
  · have hN : 0 < N.length := by
      have := hW.ends (dlt 0 hm).1
      omega
    refine hwh (fun i => φ i = φ 0) (fun i j hi hij => ?_) rfl v (by omega)
    obtain ⟨k, hk, hij⟩ := hij
    have q := hφ k hk
    simp only [fromN_even, fromN_odd] at q
    rcases hij with ⟨e1, e2⟩ | ⟨e1, e2⟩ <;> rw [e1, e2] at q
    · rw [← q]; exact hi
    · rw [q]; exact hi
  · have hF : 0 < (facesL N E).length := by have := (sf_mem (N := N) (dlt 0 hm).1).2; omega
    obtain ⟨d, hd, rfl⟩ := sf_some (N := N) (E := E) (k := v) (by omega)
    obtain ⟨e, he, h0⟩ := sf_some (N := N) (E := E) (k := 0) hF
    have q := whole_const hW hm hwh (φ := fun d => φ (sf N E d)) (fun d hd => by show φ _ = φ _; rw [sf_next hd]) (fun d hd => ?_) hd he
    · rw [← h0]; exact q
    · have h2 := hφ (d / 2) (by omega)
      show φ (sf N E (twin d)) = φ (sf N E d)
      rcases Nat.mod_two_eq_zero_or_one d with e | e
      · have e1 : d = 2 * (d / 2) := by omega
        rw [e1, twin_even, h2]
      · have e1 : d = 2 * (d / 2) + 1 := by omega
        rw [e1, twin_odd]
        have e2 : (2 * (d / 2) + 1) / 2 = d / 2 := by omega
        rw [h2]
  · rw [esumF_sum]
    have q := phi _ φ (height_flow (N := N) (E := E) h)
    simp only [twin_even] at q
    simp only [Nat.zero_add]
    exact q
  · have hfl : Flow E (fun d => if d % 2 = 0 then g (d / 2) else - g (d / 2)) := ⟨fun d _ => by
        rcases Nat.mod_two_eq_zero_or_one d with e | e
        · have e1 : d = 2 * (d / 2) := by omega
          obtain ⟨k, hk⟩ : ∃ k, d / 2 = k := ⟨_, rfl⟩
          rw [hk] at e1
          rw [e1, twin_even, if_neg (by omega), if_pos (by omega), show (2 * k + 1) / 2 = k by omega, show 2 * k / 2 = k by omega]
        · have e1 : d = 2 * (d / 2) + 1 := by omega
          obtain ⟨k, hk⟩ : ∃ k, d / 2 = k := ⟨_, rfl⟩
          rw [hk] at e1
          rw [e1, twin_odd, if_pos (by omega), if_neg (by omega), show (2 * k + 1) / 2 = k by omega, show 2 * k / 2 = k by omega]
          omega, fun i => by
        rw [sumI_two]
        have q := hg (fun v => if (v : Int) = i then 1 else 0)
        rw [esumF_sum] at q
        simp only [Nat.zero_add] at q
        refine Eq.trans (sumI_congr _ fun k hk => ?_) q
        have h1 := hW.ends (dlt k hk).1
        have h2 := hW.ends (dlt k hk).2
        rw [Int.toNat_of_nonneg h1.1, Int.toNat_of_nonneg h2.1, show (2 * k) % 2 = 0 by omega, show (2 * k + 1) % 2 = 1 by omega, show 2 * k / 2 = k by omega, show (2 * k + 1) / 2 = k by omega]
        by_cases c1 : fromN E (2 * k) = i <;> by_cases c2 : fromN E (2 * k + 1) = i <;> simp [c1, c2] <;> omega⟩
    obtain ⟨G, hG⟩ : ∃ G : Nat → Int, (fun d => if d % 2 = 0 then g (d / 2) else - g (d / 2)) = G := ⟨_, rfl⟩
    have hg2 : ∀ k, g k = G (2 * k) := fun k => by rw [← hG]; simp
    rw [hG] at hfl
    clear hG hg
    have hc : ∀ d e, d < 2 * E.length → e < 2 * E.length → sf N E d = sf N E e → corner N E G d = corner N E G e := fun d e hd he q => face_const (fun d hd => hfl.corner_next hW hd) hd he q
    refine ⟨fun f => if q : ∃ d, d < 2 * E.length ∧ sf N E d = f then corner N E G q.choose else 0, fun k hk => ?_⟩
    have e1 : ∃ d, d < 2 * E.length ∧ sf N E d = sf N E (2 * k) := ⟨_, (dlt k hk).1, rfl⟩
    have e2 : ∃ d, d < 2 * E.length ∧ sf N E d = sf N E (2 * k + 1) := ⟨_, (dlt k hk).2, rfl⟩
    show g k = (if q : ∃ d, d < 2 * E.length ∧ sf N E d = sf N E (2 * k) then corner N E G q.choose else 0) - (if q : ∃ d, d < 2 * E.length ∧ sf N E d = sf N E (2 * k + 1) then corner N E G q.choose else 0)
    rw [dif_pos e1, dif_pos e2, hc _ _ e1.choose_spec.1 (dlt k hk).1 e1.choose_spec.2, hc _ _ e2.choose_spec.1 (dlt k hk).2 e2.choose_spec.2, hg2]
    have q := hfl.corner_twin hW (dlt k hk).1
    rw [twin_even] at q
    omega
theorem euler_of (h : wholeB N E = true) : E.length + 2 = N.length + (facesL N E).length := by
  have q := (plan_of h).euler
  obtain ⟨hW, hm, _⟩ := wholeB_iff.1 h
  have h1 := hW.ends (d := 0) (by omega)
  have h2 := (sf_mem (N := N) (E := E) (d := 0) (by omega)).2
  omega
end
end Go.Proofs.Ytabgcpoaepafjaa
namespace Go.Proofs.Ytabgcpoaepafjaa
theorem rs_zero_add {D : Nat → Int} : ∀ (c k : Nat), (∀ i, k ≤ i → i < k + c → 0 ≤ D i) → 0 ≤ rs D k c
  | 0, _, _ => Int.le_refl _
  | c + 1, k, h => by
    have := rs_zero_add c (k + 1) fun i h1 h2 => h i (by omega) (by omega)
    have := h k (Nat.le_refl _) (by omega)
    simp only [rs]
    omega
theorem rs_part {D : Nat → Int} : ∀ (c k d : Nat), (∀ i, k ≤ i → i < k + c + d → 0 ≤ D i) → rs D k c ≤ rs D k (c + d)
  | 0, k, d, h => by
    rw [Nat.zero_add]
    exact rs_zero_add d k fun i h1 h2 => h i h1 (by omega)
  | c + 1, k, d, h => by
    have := rs_part c (k + 1) d fun i h1 h2 => h i (by omega) (by omega)
    rw [show c + 1 + d = (c + d) + 1 by omega]
    simp only [rs]
    omega
theorem rs_one {D : Nat → Int} {c k i : Nat} (h : ∀ i, k ≤ i → i < k + c → 0 ≤ D i) (h1 : k ≤ i) (h2 : i < k + c) : D i ≤ rs D k c := by
  rw [rs_split c k i h1 h2]
  have := rs_zero_add (D := fun j => if j = i then 0 else D j) c k fun j a b => by
    show 0 ≤ if j = i then 0 else D j
    split
    · exact Int.le_refl _
    · exact h j a b
  omega
/-- A table of a graph with at most 40 ends of edges. -/
structure Sml (n : Nat) (f : Nat → Nat → Int) : Prop where
  dom : Dom n 0 f
  sum : rs (fun i => f i i) 0 n ≤ 40
theorem Sml.diag {n : Nat} {f : Nat → Nat → Int} (h : Sml n f) {i : Nat} (hi : i < n) : 0 ≤ f i i ∧ f i i ≤ 40 := by
  have h0 : ∀ i, 0 ≤ i → i < 0 + n → 0 ≤ f i i := fun i _ hi => (h.dom.diag (Nat.zero_le _) (by omega)).1
  refine ⟨h0 i (Nat.zero_le _) (by omega), ?_⟩
  have := rs_one (D := fun i => f i i) h0 (Nat.zero_le i) (by omega)
  have := h.sum
  omega
theorem Sml.last {n : Nat} {f : Nat → Nat → Int} (h : Sml n f) {k : Nat} (hk : k ≤ n) (hs : StD n f k) : 0 < (stD n f k).2 ∧ (stD n f k).2 ≤ 2300000 := by
  refine ⟨hs.pos, Int.le_trans hs.le (prod_le _ k (fun i hi => (h.diag (by omega)).1) ?_)⟩
  have := rs_part (D := fun i => f i i) k 0 (n - k) fun i _ hi => (h.diag (by omega)).1
  rw [show k + (n - k) = n by omega] at this
  exact Int.le_trans this h.sum
theorem Sml.entry {n : Nat} {f : Nat → Nat → Int} (h : Sml n f) {k : Nat} (hk : k ≤ n) (hs : StD n f k) {i j : Nat} (h1 : k ≤ i) (h2 : i < n) (h3 : k ≤ j) (h4 : j < n) : -92000000 ≤ (stD n f k).1 i j ∧ (stD n f k).1 i j ≤ 92000000 := by
  have hl := h.last hk hs
  have hd : ∀ i, k ≤ i → i < n → 0 ≤ (stD n f k).1 i i ∧ (stD n f k).1 i i ≤ 92000000 := fun i a b => by
    have e1 := hs.diag i a b
    have e2 := h.diag b
    have e3 : f i i * (stD n f k).2 ≤ 40 * 2300000 := Int.mul_le_mul e2.2 hl.2 (Int.le_of_lt hl.1) (by decide)
    exact ⟨(hs.dom.diag a b).1, by omega⟩
  by_cases e : j = i
  · subst e
    have := hd j h1 h2
    omega
  · have a := (hs.dom.diag h1 h2).2 j h3 h4 e
    have b := hs.dom.off i j h1 h2 h3 h4 (fun q => e q.symm)
    have c := hd i h1 h2
    omega
/-- The table in the middle of step k: the rows below i0 are done, and of row i0 the columns below j0. -/
def elimP (n k : Nat) (last : Int) (g : Nat → Nat → Int) (i0 j0 : Nat) : Nat → Nat → Int := fun i j =>
  if i < i0 ∨ (i = i0 ∧ j < j0) then elimD n k last g i j else g i j
theorem elimP_start (n k : Nat) (last : Int) (g : Nat → Nat → Int) : elimP n k last g (k + 1) (k + 1) = g := by
  funext i j
  unfold elimP
  split
  · unfold elimD
    rw [if_neg (by omega)]
  · rfl
theorem elimP_row {n k : Nat} {last : Int} {g : Nat → Nat → Int} {i0 : Nat} (i j : Nat) (hj : j < n) : elimP n k last g i0 n i j = elimP n k last g (i0 + 1) (k + 1) i j := by
  unfold elimP
  by_cases h1 : i < i0 ∨ (i = i0 ∧ j < n)
  · rw [if_pos h1, if_pos (by omega)]
  · rw [if_neg h1]
    by_cases h2 : i < i0 + 1 ∨ (i = i0 + 1 ∧ j < k + 1)
    · rw [if_pos h2]
      unfold elimD
      rw [if_neg (by omega)]
    · rw [if_neg h2]
theorem elimP_end {n k : Nat} {last : Int} {g : Nat → Nat → Int} (i j : Nat) (hi : i < n) : elimP n k last g n (k + 1) i j = elimD n k last g i j := by
  unfold elimP
  rw [if_pos (.inl hi)]
/-- One store. -/
theorem elimP_next {n k : Nat} {last : Int} {g : Nat → Nat → Int} {i0 j0 : Nat} (h1 : k < i0) (h2 : i0 < n) (h3 : k < j0) (h4 : j0 < n) : upd (elimP n k last g i0 j0) i0 j0 ((g i0 j0 * g k k - g i0 k * g k j0).tdiv last) = elimP n k last g i0 (j0 + 1) := by
  funext i j
  unfold upd
  by_cases e : i = i0 ∧ j = j0
  · rw [if_pos e, e.1, e.2]
    unfold elimP
    rw [if_pos (by omega)]
    unfold elimD
    rw [if_pos (by omega)]
  · rw [if_neg e]
    unfold elimP
    by_cases q : i < i0 ∨ (i = i0 ∧ j < j0)
    · rw [if_pos q, if_pos (by omega)]
    · rw [if_neg q, if_neg (by omega)]
theorem elimP_at {n k : Nat} {last : Int} {g : Nat → Nat → Int} {i0 j0 : Nat} (h1 : k < i0) (h3 : k < j0) : elimP n k last g i0 j0 i0 j0 = g i0 j0 ∧ elimP n k last g i0 j0 k k = g k k ∧ elimP n k last g i0 j0 i0 k = g i0 k ∧ elimP n k last g i0 j0 k j0 = g k j0 := by
  refine ⟨?_, ?_, ?_, ?_⟩
  · unfold elimP; rw [if_neg (by omega)]
  · unfold elimP; split
    · unfold elimD; rw [if_neg (by omega)]
    · rfl
  · unfold elimP; split
    · unfold elimD; rw [if_neg (by omega)]
    · rfl
  · unfold elimP; split
    · unfold elimD; rw [if_neg (by omega)]
    · rfl
theorem det_stop {n : Nat} {f : Nat → Nat → Int} {k : Nat} (hk : k < n) (h : (stD n f k).1 k k = 0) : detD n f = 0 := by
  refine detTo_zero (k := k + 1) ?_ n hk
  simp only [detTo]
  split
  · rfl
  · exact h
theorem det_go {n : Nat} {f : Nat → Nat → Int} {k : Nat} (h : (stD n f k).1 k k ≠ 0) (hd : detTo n f k ≠ 0) : detTo n f (k + 1) ≠ 0 := by
  simp only [detTo]
  rw [if_neg hd]
  exact h
/-- Numbers of one store. -/
theorem step_small {a b c d l : Int} (ha : -92000000 ≤ a ∧ a ≤ 92000000) (hb : -92000000 ≤ b ∧ b ≤ 92000000) (hc : -92000000 ≤ c ∧ c ≤ 92000000) (hd : -92000000 ≤ d ∧ d ≤ 92000000) (hl : 0 < l) :
    IntKind.i64.wrap (a * b) = a * b ∧ IntKind.i64.wrap (c * d) = c * d ∧ IntKind.i64.wrap (a * b - c * d) = a * b - c * d ∧ IntKind.i64.wrap ((a * b - c * d).tdiv l) = (a * b - c * d).tdiv l := by
  have h1 := mul_in (by decide) (by decide) ha hb
  have h2 := mul_in (by decide) (by decide) hc hd
  obtain ⟨x, hx⟩ : ∃ x, a * b = x := ⟨_, rfl⟩
  obtain ⟨y, hy⟩ : ∃ y, c * d = y := ⟨_, rfl⟩
  rw [hx] at h1 ⊢
  rw [hy] at h2 ⊢
  have h3 : (x - y).natAbs ≤ 92000000 * 92000000 + 92000000 * 92000000 := by omega
  have h4 : ((x - y).tdiv l).natAbs ≤ (x - y).natAbs := by
    rw [Int.natAbs_tdiv]
    exact Nat.div_le_self _ _
  refine ⟨?_, ?_, ?_, ?_⟩ <;> rw [IntKind.wrap_i64] <;> omega
end Go.Proofs.Ytabgcpoaepafjaa
namespace Go.Proofs.Ytabgcpoaepafjaa
/-- Lead t lies between a and b. -/
def ssB (s : Nat → Nat) (a b t : Nat) : Bool := (decide (s (2 * t) = a) && decide (s (2 * t + 1) = b)) || (decide (s (2 * t) = b) && decide (s (2 * t + 1) = a))
def shL (s : Nat → Nat) (a b k : Nat) : List Nat := (List.range k).filter (ssB s a b)
def dgB (s : Nat → Nat) (a d : Nat) : Bool := decide (s d = a) && !decide (s (d ^^^ 1) = a)
def dgD (s : Nat → Nat) (a : Nat) : Nat → Nat
  | 0 => 0
  | d + 1 => dgD s a d + if dgB s a d = true then 1 else 0
/-- Ends of lead t at a, if its sides are two. -/
def dg1 (s : Nat → Nat) (a t : Nat) : Nat := if s (2 * t) = s (2 * t + 1) then 0 else if s (2 * t) = a ∨ s (2 * t + 1) = a then 1 else 0
def sh1 (s : Nat → Nat) (a b t : Nat) : Nat := if ssB s a b t = true then 1 else 0
def tabD (s : Nat → Nat) : Nat → Nat → Nat → Int
  | 0 => fun _ _ => 0
  | k + 1 => fun i j => tabD s k i j + if i = j then (dg1 s (i + 1) k : Int) else -(sh1 s (i + 1) (j + 1) k : Int)
theorem tab_diag (s : Nat → Nat) (i : Nat) : ∀ k, tabD s k i i = (dgD s (i + 1) (2 * k) : Int)
  | 0 => rfl
  | k + 1 => by
    have h1 : (2 * k) ^^^ 1 = 2 * k + 1 := by rw [twin_xor]; unfold twin; (try split) <;> omega
    have h2 : (2 * k + 1) ^^^ 1 = 2 * k := by rw [twin_xor]; unfold twin; (try split) <;> omega
    show tabD s k i i + _ = _
    rw [if_pos rfl, tab_diag s i k, show 2 * (k + 1) = 2 * k + 1 + 1 by omega]
    simp only [dgD, dgB, dg1, h1, h2]
    by_cases e1 : s (2 * k) = i + 1
    · by_cases e2 : s (2 * k + 1) = i + 1 <;> simp [e1, e2]
      have e3 : ¬ i + 1 = s (2 * k + 1) := by omega
      simp [e3]
    · by_cases e2 : s (2 * k + 1) = i + 1
      · simp [e1, e2]
      · simp [e1, e2]
theorem shL_next (s : Nat → Nat) (a b k : Nat) : (shL s a b (k + 1)).length = (shL s a b k).length + sh1 s a b k := by
  unfold shL sh1
  rw [List.range_succ, List.filter_append, List.length_append]
  cases h : ssB s a b k <;> simp [h]
theorem tab_off (s : Nat → Nat) {i j : Nat} (hij : i ≠ j) : ∀ k, tabD s k i j = -((shL s (i + 1) (j + 1) k).length : Int)
  | 0 => rfl
  | k + 1 => by
    show tabD s k i j + _ = _
    rw [if_neg hij, tab_off s hij k, shL_next]
    omega
theorem shL_le (s : Nat → Nat) (a b k : Nat) : (shL s a b k).length ≤ k := Nat.le_trans (List.length_filter_le _ _) (by simp)
theorem dgD_le (s : Nat → Nat) (a : Nat) : ∀ d, dgD s a d ≤ d
  | 0 => Nat.le_refl _
  | d + 1 => by
    have := dgD_le s a d
    simp only [dgD]
    split <;> omega
theorem rs_addf (f g : Nat → Int) : ∀ (c k : Nat), rs (fun j => f j + g j) k c = rs f k c + rs g k c
  | 0, _ => rfl
  | c + 1, k => by
    simp only [rs]
    rw [rs_addf f g c (k + 1)]
    omega
theorem rs_none {h : Nat → Int} : ∀ (c k : Nat), (∀ j, k ≤ j → j < k + c → h j = 0) → rs h k c = 0
  | 0, _, _ => rfl
  | c + 1, k, e => by
    simp only [rs]
    rw [e k (Nat.le_refl _) (by omega), rs_none c (k + 1) fun j h1 h2 => e j (by omega) (by omega)]
    rfl
/-- All but one number are 0. -/
theorem rs_single {h : Nat → Int} {c k q : Nat} (e : ∀ j, k ≤ j → j < k + c → j ≠ q → h j = 0) : rs h k c = if k ≤ q ∧ q < k + c then h q else 0 := by
  by_cases hq : k ≤ q ∧ q < k + c
  · rw [if_pos hq, rs_split c k q hq.1 hq.2, rs_none]
    · omega
    · intro j h1 h2
      show (if j = q then 0 else h j) = 0
      split
      · rfl
      · exact e j h1 h2 ‹_›
  · rw [if_neg hq]
    exact rs_none c k fun j h1 h2 => e j h1 h2 (by omega)
theorem row_step (s : Nat → Nat) (n t i : Nat) (hi : i < n) : 0 ≤ rs (fun j => if i = j then (dg1 s (i + 1) t : Int) else -(sh1 s (i + 1) (j + 1) t : Int)) 0 n := by
  rw [rs_split n 0 i (Nat.zero_le _) (by omega), if_pos rfl]
  have H : ∀ q : Nat, (∀ j, j ≠ i → j ≠ q → sh1 s (i + 1) (j + 1) t = 0) → (q ≠ i → sh1 s (i + 1) (q + 1) t ≤ dg1 s (i + 1) t) → 0 ≤ (dg1 s (i + 1) t : Int) + rs (fun j => if j = i then 0 else if i = j then (dg1 s (i + 1) t : Int) else -(sh1 s (i + 1) (j + 1) t : Int)) 0 n := fun q h1 h2 => by
    rw [rs_single (q := q) (fun j _ _ hj => ?_)]
    · by_cases hq : q = i
      · subst hq
        split <;> simp
      · have := h2 hq
        have hq' : ¬ i = q := fun e => hq e.symm
        split
        · (first | rw [if_neg hq, if_neg hq'] | rw [if_neg hq'] | skip); omega
        · omega
    · by_cases hji : j = i
      · rw [if_pos hji]
      · rw [if_neg hji, if_neg (fun e => hji e.symm), h1 j hji hj]; rfl
  by_cases e1 : s (2 * t) = i + 1
  · refine H (s (2 * t + 1) - 1) (fun j hj hq => ?_) (fun hq => ?_)
    · unfold sh1 ssB
      rw [if_neg]
      simp
      omega
    · unfold dg1
      rw [if_neg (by omega), if_pos (.inl e1)]
      unfold sh1
      split <;> omega
  · by_cases e2 : s (2 * t + 1) = i + 1
    · refine H (s (2 * t) - 1) (fun j hj hq => ?_) (fun hq => ?_)
      · unfold sh1 ssB
        rw [if_neg]
        simp
        omega
      · unfold dg1
        rw [if_neg (by omega), if_pos (.inr e2)]
        unfold sh1
        split <;> omega
    · refine H i (fun j hj hq => ?_) (fun hq => absurd rfl hq)
      unfold sh1 ssB
      rw [if_neg]
      simp
      omega
theorem tab_row (s : Nat → Nat) (n i : Nat) (hi : i < n) : ∀ k, 0 ≤ rs (tabD s k i) 0 n
  | 0 => by rw [rs_none]; exact Int.le_refl _; intro j _ _; rfl
  | k + 1 => by
    have h1 := tab_row s n i hi k
    have h2 := row_step s n k i hi
    have e : tabD s (k + 1) i = fun j => tabD s k i j + if i = j then (dg1 s (i + 1) k : Int) else -(sh1 s (i + 1) (j + 1) k : Int) := rfl
    rw [e, rs_addf]
    omega
theorem diag_step (s : Nat → Nat) (n t : Nat) : rs (fun i => (dg1 s (i + 1) t : Int)) 0 n ≤ 2 := by
  have h : (fun i => (dg1 s (i + 1) t : Int)) = fun i => (if s (2 * t) = s (2 * t + 1) then 0 else if s (2 * t) = i + 1 then 1 else 0 : Int) + (if s (2 * t) = s (2 * t + 1) then 0 else if s (2 * t + 1) = i + 1 then 1 else 0 : Int) := by
    funext i
    unfold dg1
    by_cases e : s (2 * t) = s (2 * t + 1)
    · simp [e]
    · rw [if_neg e, if_neg e, if_neg e]
      by_cases e1 : s (2 * t) = i + 1
      · have e2 : ¬ s (2 * t + 1) = i + 1 := by omega
        simp [e1, e2]
      · by_cases e2 : s (2 * t + 1) = i + 1 <;> simp [e1, e2]
  rw [h, rs_addf, rs_single (q := s (2 * t) - 1), rs_single (q := s (2 * t + 1) - 1)]
  · have key : ∀ (P : Prop) [Decidable P] (x : Int), x ≤ 1 → (if P then x else 0) ≤ 1 := fun P _ x hx => by split <;> omega
    have hx : ∀ v i : Nat, (if s (2 * t) = s (2 * t + 1) then 0 else if v = i + 1 then 1 else 0 : Int) ≤ 1 := by
      intro v i
      by_cases q1 : s (2 * t) = s (2 * t + 1)
      · rw [if_pos q1]; decide
      · rw [if_neg q1]
        by_cases q2 : v = i + 1
        · rw [if_pos q2]; decide
        · rw [if_neg q2]; decide
    have a := key (0 ≤ s (2 * t) - 1 ∧ s (2 * t) - 1 < 0 + n) _ (hx (s (2 * t)) (s (2 * t) - 1))
    have b := key (0 ≤ s (2 * t + 1) - 1 ∧ s (2 * t + 1) - 1 < 0 + n) _ (hx (s (2 * t + 1)) (s (2 * t + 1) - 1))
    omega
  · intro j _ _ hj
    split
    · rfl
    · rw [if_neg (by omega)]
  · intro j _ _ hj
    split
    · rfl
    · rw [if_neg (by omega)]
theorem tab_sum (s : Nat → Nat) (n : Nat) : ∀ k, rs (fun i => tabD s k i i) 0 n ≤ 2 * (k : Int)
  | 0 => by rw [rs_none]; exact Int.le_refl _; intro j _ _; rfl
  | k + 1 => by
    have h1 := tab_sum s n k
    have h2 := diag_step s n k
    have e : (fun i => tabD s (k + 1) i i) = fun i => tabD s k i i + (dg1 s (i + 1) k : Int) := by
      funext i
      show tabD s k i i + _ = _
      rw [if_pos rfl]
    rw [e, rs_addf]
    omega
theorem ssB_sym (s : Nat → Nat) (a b t : Nat) : ssB s a b t = ssB s b a t := by
  unfold ssB
  rw [Bool.or_comm]
theorem tab_sml (s : Nat → Nat) (n : Nat) {m : Nat} (hm : m ≤ 20) : Sml n (tabD s m) := by
  refine ⟨⟨fun i j _ _ _ _ => ?_, fun i j _ _ _ _ hij => ?_, fun i _ hi => ?_⟩, ?_⟩
  · by_cases e : i = j
    · subst e; rfl
    · rw [tab_off s e, tab_off s (fun q => e q.symm)]
      have : shL s (i + 1) (j + 1) m = shL s (j + 1) (i + 1) m := by
        unfold shL
        congr 1
        funext t
        exact ssB_sym _ _ _ _
      rw [this]
  · rw [tab_off s hij]; omega
  · exact tab_row s n i hi m
  · have := tab_sum s n m
    omega
end Go.Proofs.Ytabgcpoaepafjaa
namespace Go.Proofs.Ytabgcpoaepafjaa
theorem lsum_snoc (g : Nat × Nat → Int) (X Y : Nat → Nat) : ∀ (m st : Nat), lsum g (edgesF X Y st (m + 1)) = lsum g (edgesF X Y st m) + g (X (st + m), Y (st + m))
  | 0, st => by simp [edgesF, lsum]
  | m + 1, st => by
    have h := lsum_snoc g X Y m (st + 1)
    have e : ∀ n, lsum g (edgesF X Y st (n + 1)) = g (X st, Y st) + lsum g (edgesF X Y (st + 1) n) := fun _ => rfl
    rw [e (m + 1), h, e m, show st + 1 + m = st + (m + 1) by omega]
    omega
theorem tab_lap (s : Nat → Nat) (i j : Nat) : ∀ m, tabD s m i j = lap id (edgesF (fun k => s (2 * k)) (fun k => s (2 * k + 1)) 0 m) i j
  | 0 => by simp [tabD, lap, edgesF, lsum]
  | m + 1 => by
    have h := tab_lap s i j m
    have e : ∀ L, lap id L i j = lsum (fun e => inc id e (i + 1) * inc id e (j + 1)) L := fun L => by simp [lap]
    rw [e, lsum_snoc, ← e, ← h]
    show tabD s m i j + _ = _
    congr 1
    rw [Nat.zero_add]
    obtain ⟨a, ha⟩ : ∃ a, s (2 * m) = a := ⟨_, rfl⟩
    obtain ⟨b, hb⟩ : ∃ b, s (2 * m + 1) = b := ⟨_, rfl⟩
    simp only [dg1, sh1, ssB, inc, ha, hb, id, Bool.or_eq_true, Bool.and_eq_true, decide_eq_true_eq]
    by_cases e5 : i = j
    · subst e5
      (repeat' split) <;> first | omega | (simp; done)
    · (repeat' split) <;> first | omega | (simp; done)
end Go.Proofs.Ytabgcpoaepafjaa
namespace Go.Proofs.Ytabgcpoaepafjaa
theorem esum_append {X Y : Nat → Nat} {g φ : Nat → Int} : ∀ K L : List Nat, esum X Y g φ (K ++ L) = esum X Y g φ K + esum X Y g φ L
  | [], L => by simp [esum]
  | k :: K, L => by simp only [List.cons_append, esum]; rw [esum_append K L]; omega
theorem selB_snoc : ∀ (c : List Bool) (s : Nat) (b : Bool), selB s (c ++ [b]) = selB s c ++ if b = true then [s + c.length] else []
  | [], s, true => rfl
  | [], s, false => rfl
  | true :: c, s, b => by
    show s :: selB (s + 1) (c ++ [b]) = s :: selB (s + 1) c ++ _
    rw [selB_snoc c (s + 1) b, List.length_cons, show s + 1 + c.length = s + (c.length + 1) by omega]
    rfl
  | false :: c, s, b => by
    show selB (s + 1) (c ++ [b]) = selB (s + 1) c ++ _
    rw [selB_snoc c (s + 1) b, List.length_cons, show s + 1 + c.length = s + (c.length + 1) by omega]
theorem selB_rise : ∀ (c : List Bool) (s : Nat), (selB s c).Pairwise (· < ·)
  | [], _ => List.Pairwise.nil
  | true :: c, s => List.pairwise_cons.2 ⟨fun j hj => (selB_mem hj).1, selB_rise c (s + 1)⟩
  | false :: c, s => selB_rise c (s + 1)
theorem selB_not : ∀ (c : List Bool) (s : Nat), selB s (c.map (!·)) = (List.range' s c.length).filter fun k => decide (k ∉ selB s c)
  | [], _ => rfl
  | true :: c, s => by
    show selB (s + 1) (c.map (!·)) = _
    rw [selB_not c (s + 1), List.length_cons, List.range'_succ, List.filter_cons_of_neg (by simp [selB])]
    refine List.filter_congr fun k hk => ?_
    have := (List.mem_range'_1.1 hk).1
    simp only [selB, List.mem_cons, not_or, decide_eq_decide]
    exact ⟨fun h => ⟨by omega, h⟩, fun h => h.2⟩
  | false :: c, s => by
    show s :: selB (s + 1) (c.map (!·)) = _
    rw [selB_not c (s + 1), List.length_cons, List.range'_succ, List.filter_cons_of_pos]
    · rfl
    · refine decide_eq_true fun h => ?_
      have := (selB_mem (s := s + 1) (c := c) h).1
      omega
theorem acyc_ne {X Y : Nat → Nat} : ∀ {K : List Nat} {p : Nat → Nat}, acyc X Y p K → ∀ k, k ∈ K → X k ≠ Y k
  | [], _, _, k, hk => by cases hk
  | j :: K, p, h, k, hk => by
    rcases List.mem_cons.1 hk with rfl | hk
    · intro e
      exact h.1 (by rw [e])
    · exact acyc_ne h.2 k hk
/-- The first k edges, chosen one by one: p labels what hangs together. -/
structure Grd (X Y : Nat → Nat) (k : Nat) (p : Nat → Nat) (c : List Bool) : Prop where
  len : c.length = k
  cls : ∀ φ : Nat → Int, (∀ j, j ∈ selB 0 c → φ (X j) = φ (Y j)) → ∀ v, φ (p v) = φ v
  eq : ∀ j, j < k → p (X j) = p (Y j)
  ac : acyc X Y id (selB 0 c)
theorem Grd.start (X Y : Nat → Nat) : Grd X Y 0 id [] := ⟨rfl, fun _ _ _ => rfl, fun j hj => absurd hj (by omega), trivial⟩
theorem Grd.same {X Y : Nat → Nat} {k : Nat} {p : Nat → Nat} {c : List Bool} (h : Grd X Y k p c) (he : p (X k) = p (Y k)) : Grd X Y (k + 1) p (c ++ [false]) := by
  have e : selB 0 (c ++ [false]) = selB 0 c := by rw [selB_snoc]; simp
  refine ⟨by simp [h.len], by rw [e]; exact h.cls, fun j hj => ?_, by rw [e]; exact h.ac⟩
  rcases Nat.lt_or_ge j k with q | q
  · exact h.eq j q
  · rw [show j = k by omega]; exact he
theorem Grd.new {X Y : Nat → Nat} {k : Nat} {p : Nat → Nat} {c : List Bool} (h : Grd X Y k p c) (hne : p (X k) ≠ p (Y k)) : Grd X Y (k + 1) (fun v => if p v = p (Y k) then p (X k) else p v) (c ++ [true]) := by
  have e : selB 0 (c ++ [true]) = selB 0 c ++ [k] := by rw [selB_snoc]; simp [h.len]
  refine ⟨by simp [h.len], fun φ hφ v => ?_, fun j hj => ?_, ?_⟩
  · rw [e] at hφ
    have h1 := h.cls φ fun j hj => hφ j (by simp [hj])
    have h2 := hφ k (by simp)
    show φ (if p v = p (Y k) then p (X k) else p v) = φ v
    split
    · rename_i q
      rw [h1, h2, ← h1 (Y k), ← q, h1]
    · exact h1 v
  · show (if p (X j) = p (Y k) then p (X k) else p (X j)) = if p (Y j) = p (Y k) then p (X k) else p (Y j)
    rcases Nat.lt_or_ge j k with q | q
    · rw [h.eq j q]
    · rw [show j = k by omega, if_neg hne, if_pos rfl]
  · rw [e]
    by_cases ha : acyc X Y id (selB 0 c ++ [k])
    · exact ha
    · exfalso
      have hk : k ∉ selB 0 c := fun q => by
        have := (selB_mem q).2
        have := h.len
        omega
      have hnd : (selB 0 c ++ [k]).Nodup := List.nodup_append.2 ⟨selB_nodup c 0, by simp, fun a q b q2 => by
        rw [List.mem_singleton] at q2
        rintro rfl
        exact hk (q2 ▸ q)⟩
      obtain ⟨g, ⟨j, hj, hg⟩, hf⟩ := cyc_flow (fun _ => rfl) hnd ha
      have hgk : g k = 0 := by
        have q := hf (fun v => if p v = p (X k) then 1 else 0) fun _ => rfl
        rw [esum_append, esum_congr (g' := fun _ => 0) (φ' := fun _ => 0) (K := selB 0 c) (fun i hi => by
          have q := (selB_mem hi).2
          have q2 := h.eq i (by have := h.len; omega)
          simp [q2]), esum_none] at q
        have hne' : ¬ p (Y k) = p (X k) := fun q => hne q.symm
        simpa [esum, hne'] using q
      have hz := acyc_flow (g := g) (fun _ => rfl) h.ac fun φ _ => by
        have q := hf φ fun _ => rfl
        rw [esum_append] at q
        simpa [esum, hgk] using q
      rcases List.mem_append.1 hj with q | q
      · exact hg (hz j q)
      · rw [List.mem_singleton] at q
        rw [q] at hg
        exact hg hgk
/-- All edges chosen: what joins everything is joined by the chosen. -/
theorem Grd.conn {X Y : Nat → Nat} {n m : Nat} {p : Nat → Nat} {c : List Bool} (h : Grd X Y m p c) (cx : ∀ φ : Nat → Int, (∀ k, k < m → φ (X k) = φ (Y k)) → ∀ v, v ≤ n → φ v = φ 0) : Conn n X Y id (selB 0 c) := fun φ _ hk => cx φ fun k hk' => by
  have h1 := h.cls φ hk
  rw [← h1 (X k), h.eq k hk', h1]
/-! the rounds of a set along pairs -/
/-- As many rounds as there are pairs. -/
def joinedV (Ps : List P2) : Nat := it (spreadTo Ps Ps.length) Ps.length 1
theorem Closing.key {n : Nat} {R : Nat → Nat → Prop} {f : Nat → Nat} (h : Closing n R f) {s : Nat} (hs : s < 2 ^ n) (h0 : s ≠ 0) : ∀ k, f (it f k s) = it f k s ∨ k + 1 ≤ (memN (it f k s) n).length := by
  intro k
  induction k with
  | zero =>
    refine .inr ?_
    obtain ⟨i, hi⟩ := Nat.exists_testBit_of_ne_zero h0
    exact List.length_pos_of_mem (memN_mem.2 ⟨bit_lt hs hi, hi⟩)
  | succ k ih =>
    by_cases e : f (it f k s) = it f k s
    · refine .inl ?_
      show f (f (it f k s)) = f (it f k s)
      rw [e, e]
    · rcases ih with ih | ih
      · exact absurd ih e
      · refine .inr ?_
        have := bits_count (h.it_lt hs k) (h.bound _ (h.it_lt hs k)) (h.infl _ (h.it_lt hs k)) e
        show k + 1 + 1 ≤ (memN (f (it f k s)) n).length
        omega
theorem all_bits {s n : Nat} (hs : s < 2 ^ n) (h : ∀ i, i < n → s.testBit i = true) : s = 2 ^ n - 1 := by
  refine Nat.eq_of_testBit_eq fun i => ?_
  rw [Nat.testBit_two_pow_sub_one]
  rcases Nat.lt_or_ge i n with q | q
  · rw [h i q]; simp [q]
  · rw [Nat.testBit_lt_two_pow (Nat.lt_of_lt_of_le hs (Nat.pow_le_pow_right (by decide) q))]
    simp; omega
theorem joinedV_lt {Ps : List P2} {n : Nat} (hb : ∀ j, j < Ps.length → (at2 Ps j).1.toNat ≤ n ∧ (at2 Ps j).2.toNat ≤ n) (k : Nat) : it (spreadTo Ps Ps.length) k 1 < 2 ^ (n + 1) :=
  (spread_closing fun j hj => by have := hb j hj; omega).it_lt (Nat.one_lt_two_pow (by omega)) k
theorem joinedV_all {Ps : List P2} {n : Nat} (hl : Ps.length = n) (hb : ∀ j, j < Ps.length → (at2 Ps j).1.toNat ≤ n ∧ (at2 Ps j).2.toNat ≤ n)
    (hc : ∀ φ : Nat → Int, (∀ j, j < Ps.length → φ (at2 Ps j).1.toNat = φ (at2 Ps j).2.toNat) → ∀ v, v ≤ n → φ v = φ 0) : joinedV Ps = 2 ^ (n + 1) - 1 := by
  have hcl : Closing (n + 1) (joinedE Ps) (spreadTo Ps Ps.length) := spread_closing fun j hj => by have := hb j hj; omega
  have h1 : (1 : Nat) < 2 ^ (n + 1) := Nat.one_lt_two_pow (by omega)
  have hlt := hcl.it_lt h1 n
  obtain ⟨S, hS⟩ : ∃ S, it (spreadTo Ps Ps.length) n 1 = S := ⟨_, rfl⟩
  have e : joinedV Ps = S := by unfold joinedV; rw [← hS, hl]
  have hk := hcl.key h1 (by decide) n
  have hsub := hcl.it_sub h1 n
  rw [hS] at hlt hk hsub
  rw [e]
  refine all_bits hlt fun i hi => ?_
  rcases hk with q | q
  · have h0 : S.testBit 0 = true := hsub 0 (by decide)
    have hq := hc (fun v => if S.testBit v = true then 1 else 0) (fun j hj => by
      have := spread_end Ps.length q j hj
      show (if S.testBit (at2 Ps j).1.toNat = true then (1 : Int) else 0) = if S.testBit (at2 Ps j).2.toNat = true then 1 else 0
      by_cases z : S.testBit (at2 Ps j).1.toNat = true
      · rw [if_pos z, if_pos (this.1 z)]
      · rw [if_neg z, if_neg fun y => z (this.2 y)]) i (by omega)
    have hq' : (if S.testBit i = true then (1 : Int) else 0) = if S.testBit 0 = true then 1 else 0 := hq
    rw [if_pos h0] at hq'
    by_cases z : S.testBit i = true
    · exact z
    · rw [if_neg z] at hq'
      omega
  · have h2 : memN S (n + 1) = List.range (n + 1) := (List.filter_sublist).eq_of_length_le (by rw [List.length_range]; exact q)
    have h3 : i ∈ memN S (n + 1) := by rw [h2]; exact List.mem_range.2 hi
    exact (memN_mem.1 h3).2
/-! the numbers of trees -/
theorem detTo_pos {n : Nat} {f : Nat → Nat → Int} (hs : Sml n f) : ∀ k, k ≤ n → detTo n f k ≠ 0 → StD n f k
  | 0, _, _ => StD.start hs.dom
  | k + 1, hk, h => by
    have h1 : detTo n f k ≠ 0 := fun q => h (by show (if detTo n f k = 0 then 0 else _) = _; rw [if_pos q])
    have h2 : (stD n f k).1 k k ≠ 0 := fun q => h (by show (if detTo n f k = 0 then 0 else (stD n f k).1 k k) = _; rw [if_neg h1, q])
    exact (detTo_pos hs k (by omega) h1).next (fun i hi => (hs.diag hi).1) (by omega) h2
theorem tab_trees {s : Nat → Nat} {n m : Nat} (hm : m ≤ 20) (hb : ∀ k, k < m → s (2 * k) ≤ n ∧ s (2 * k + 1) ≤ n) : detD n (tabD s m) = trees n id (edgesF (fun k => s (2 * k)) (fun k => s (2 * k + 1)) 0 m) := by
  have hs := tab_sml s n hm
  rw [bareiss fun k hk h => (detTo_pos hs k hk h).dom]
  have e : tabD s m = lap id (edgesF (fun k => s (2 * k)) (fun k => s (2 * k + 1)) 0 m) := by funext i j; exact tab_lap s i j m
  rw [e]
  refine lap_trees _ id (Lb.start n) ?_
  have key : ∀ (m t : Nat), (∀ k, t ≤ k → k < t + m → s (2 * k) ≤ n ∧ s (2 * k + 1) ≤ n) → ∀ e, e ∈ edgesF (fun k => s (2 * k)) (fun k => s (2 * k + 1)) t m → e.1 ≤ n ∧ e.2 ≤ n := by
    intro m
    induction m with
    | zero => intro t _ e he; cases he
    | succ m ih =>
      intro t h e he
      rcases List.mem_cons.1 he with rfl | he
      · exact h t (Nat.le_refl _) (by omega)
      · exact ih (t + 1) (fun k h1 h2 => h k (by omega) (by omega)) e he
  exact key m 0 fun k _ hk => hb k (by omega)
/-- The ends of the leads as naturals. -/
def sE (E : List P2) (d : Nat) : Nat := (fromN E d).toNat
theorem sE_even (E : List P2) (k : Nat) : sE E (2 * k) = (at2 E k).1.toNat := by unfold sE; rw [fromN_even]
theorem sE_odd (E : List P2) (k : Nat) : sE E (2 * k + 1) = (at2 E k).2.toNat := by unfold sE; rw [fromN_odd]
end Go.Proofs.Ytabgcpoaepafjaa
