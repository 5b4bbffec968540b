/- Plain law on tables under elimination: how great their numbers are, and what stands in the middle of a step (no program in sight). No condition. -/
import Derived.Test.YtkgbilbicdiadaaDet
import Derived.Test.YtkgbilbicdiadaaGeo
set_option linter.unusedSimpArgs false
set_option linter.unusedVariables false
namespace Go.Proofs.Ytkgbilbicdiadaa

theorem rs_zero_add {D : Nat → Int} : ∀ (c k : Nat), (∀ i, k ≤ i → i < k + c → 0 ≤ D i) → 0 ≤ rs D k c
  | 0, _, _ => Int.le_refl _
  | c + 1, k, h => by
    have := rs_zero_add c (k + 1) fun i h1 h2 => h i (by omega) (by omega)
    have := h k (Nat.le_refl _) (by omega)
    simp only [rs]
    omega
theorem rs_part {D : Nat → Int} : ∀ (c k d : Nat), (∀ i, k ≤ i → i < k + c + d → 0 ≤ D i) → rs D k c ≤ rs D k (c + d)
  | 0, k, d, h => by
    rw [Nat.zero_add]
    exact rs_zero_add d k fun i h1 h2 => h i h1 (by omega)
  | c + 1, k, d, h => by
    have := rs_part c (k + 1) d fun i h1 h2 => h i (by omega) (by omega)
    rw [show c + 1 + d = (c + d) + 1 by omega]
    simp only [rs]
    omega
theorem rs_one {D : Nat → Int} {c k i : Nat} (h : ∀ i, k ≤ i → i < k + c → 0 ≤ D i) (h1 : k ≤ i) (h2 : i < k + c) : D i ≤ rs D k c := by
  rw [rs_split c k i h1 h2]
  have := rs_zero_add (D := fun j => if j = i then 0 else D j) c k fun j a b => by
    show 0 ≤ if j = i then 0 else D j
    split
    · exact Int.le_refl _
    · exact h j a b
  omega
/-- A table of a graph with at most 40 ends of edges. -/
structure Sml (n : Nat) (f : Nat → Nat → Int) : Prop where
  dom : Dom n 0 f
  sum : rs (fun i => f i i) 0 n ≤ 40
theorem Sml.diag {n : Nat} {f : Nat → Nat → Int} (h : Sml n f) {i : Nat} (hi : i < n) : 0 ≤ f i i ∧ f i i ≤ 40 := by
  have h0 : ∀ i, 0 ≤ i → i < 0 + n → 0 ≤ f i i := fun i _ hi => (h.dom.diag (Nat.zero_le _) (by omega)).1
  refine ⟨h0 i (Nat.zero_le _) (by omega), ?_⟩
  have := rs_one (D := fun i => f i i) h0 (Nat.zero_le i) (by omega)
  have := h.sum
  omega
theorem Sml.last {n : Nat} {f : Nat → Nat → Int} (h : Sml n f) {k : Nat} (hk : k ≤ n) (hs : StD n f k) : 0 < (stD n f k).2 ∧ (stD n f k).2 ≤ 2300000 := by
  refine ⟨hs.pos, Int.le_trans hs.le (prod_le _ k (fun i hi => (h.diag (by omega)).1) ?_)⟩
  have := rs_part (D := fun i => f i i) k 0 (n - k) fun i _ hi => (h.diag (by omega)).1
  rw [show k + (n - k) = n by omega] at this
  exact Int.le_trans this h.sum
theorem Sml.entry {n : Nat} {f : Nat → Nat → Int} (h : Sml n f) {k : Nat} (hk : k ≤ n) (hs : StD n f k) {i j : Nat} (h1 : k ≤ i) (h2 : i < n) (h3 : k ≤ j) (h4 : j < n) : -92000000 ≤ (stD n f k).1 i j ∧ (stD n f k).1 i j ≤ 92000000 := by
  have hl := h.last hk hs
  have hd : ∀ i, k ≤ i → i < n → 0 ≤ (stD n f k).1 i i ∧ (stD n f k).1 i i ≤ 92000000 := fun i a b => by
    have e1 := hs.diag i a b
    have e2 := h.diag b
    have e3 : f i i * (stD n f k).2 ≤ 40 * 2300000 := Int.mul_le_mul e2.2 hl.2 (Int.le_of_lt hl.1) (by decide)
    exact ⟨(hs.dom.diag a b).1, by omega⟩
  by_cases e : j = i
  · subst e
    have := hd j h1 h2
    omega
  · have a := (hs.dom.diag h1 h2).2 j h3 h4 e
    have b := hs.dom.off i j h1 h2 h3 h4 (fun q => e q.symm)
    have c := hd i h1 h2
    omega
/-- The table in the middle of step k: the rows below i0 are done, and of row i0 the columns below j0. -/
def elimP (n k : Nat) (last : Int) (g : Nat → Nat → Int) (i0 j0 : Nat) : Nat → Nat → Int := fun i j =>
  if i < i0 ∨ (i = i0 ∧ j < j0) then elimD n k last g i j else g i j
theorem elimP_start (n k : Nat) (last : Int) (g : Nat → Nat → Int) : elimP n k last g (k + 1) (k + 1) = g := by
  funext i j
  unfold elimP
  split
  · unfold elimD
    rw [if_neg (by omega)]
  · rfl
theorem elimP_row {n k : Nat} {last : Int} {g : Nat → Nat → Int} {i0 : Nat} (i j : Nat) (hj : j < n) : elimP n k last g i0 n i j = elimP n k last g (i0 + 1) (k + 1) i j := by
  unfold elimP
  by_cases h1 : i < i0 ∨ (i = i0 ∧ j < n)
  · rw [if_pos h1, if_pos (by omega)]
  · rw [if_neg h1]
    by_cases h2 : i < i0 + 1 ∨ (i = i0 + 1 ∧ j < k + 1)
    · rw [if_pos h2]
      unfold elimD
      rw [if_neg (by omega)]
    · rw [if_neg h2]
theorem elimP_end {n k : Nat} {last : Int} {g : Nat → Nat → Int} (i j : Nat) (hi : i < n) : elimP n k last g n (k + 1) i j = elimD n k last g i j := by
  unfold elimP
  rw [if_pos (.inl hi)]
/-- One store. -/
theorem elimP_next {n k : Nat} {last : Int} {g : Nat → Nat → Int} {i0 j0 : Nat} (h1 : k < i0) (h2 : i0 < n) (h3 : k < j0) (h4 : j0 < n) : upd (elimP n k last g i0 j0) i0 j0 ((g i0 j0 * g k k - g i0 k * g k j0).tdiv last) = elimP n k last g i0 (j0 + 1) := by
  funext i j
  unfold upd
  by_cases e : i = i0 ∧ j = j0
  · rw [if_pos e, e.1, e.2]
    unfold elimP
    rw [if_pos (by omega)]
    unfold elimD
    rw [if_pos (by omega)]
  · rw [if_neg e]
    unfold elimP
    by_cases q : i < i0 ∨ (i = i0 ∧ j < j0)
    · rw [if_pos q, if_pos (by omega)]
    · rw [if_neg q, if_neg (by omega)]
theorem elimP_at {n k : Nat} {last : Int} {g : Nat → Nat → Int} {i0 j0 : Nat} (h1 : k < i0) (h3 : k < j0) : elimP n k last g i0 j0 i0 j0 = g i0 j0 ∧ elimP n k last g i0 j0 k k = g k k ∧ elimP n k last g i0 j0 i0 k = g i0 k ∧ elimP n k last g i0 j0 k j0 = g k j0 := by
  refine ⟨?_, ?_, ?_, ?_⟩
  · unfold elimP; rw [if_neg (by omega)]
  · unfold elimP; split
    · unfold elimD; rw [if_neg (by omega)]
    · rfl
  · unfold elimP; split
    · unfold elimD; rw [if_neg (by omega)]
    · rfl
  · unfold elimP; split
    · unfold elimD; rw [if_neg (by omega)]
    · rfl
theorem det_stop {n : Nat} {f : Nat → Nat → Int} {k : Nat} (hk : k < n) (h : (stD n f k).1 k k = 0) : detD n f = 0 := by
  refine detTo_zero (k := k + 1) ?_ n hk
  simp only [detTo]
  split
  · rfl
  · exact h
theorem det_go {n : Nat} {f : Nat → Nat → Int} {k : Nat} (h : (stD n f k).1 k k ≠ 0) (hd : detTo n f k ≠ 0) : detTo n f (k + 1) ≠ 0 := by
  simp only [detTo]
  rw [if_neg hd]
  exact h
/-- Numbers of one store. -/
theorem step_small {a b c d l : Int} (ha : -92000000 ≤ a ∧ a ≤ 92000000) (hb : -92000000 ≤ b ∧ b ≤ 92000000) (hc : -92000000 ≤ c ∧ c ≤ 92000000) (hd : -92000000 ≤ d ∧ d ≤ 92000000) (hl : 0 < l) :
    IntKind.i64.wrap (a * b) = a * b ∧ IntKind.i64.wrap (c * d) = c * d ∧ IntKind.i64.wrap (a * b - c * d) = a * b - c * d ∧ IntKind.i64.wrap ((a * b - c * d).tdiv l) = (a * b - c * d).tdiv l := by
  have h1 := mul_in (by decide) (by decide) ha hb
  have h2 := mul_in (by decide) (by decide) hc hd
  obtain ⟨x, hx⟩ : ∃ x, a * b = x := ⟨_, rfl⟩
  obtain ⟨y, hy⟩ : ∃ y, c * d = y := ⟨_, rfl⟩
  rw [hx] at h1 ⊢
  rw [hy] at h2 ⊢
  have h3 : (x - y).natAbs ≤ 92000000 * 92000000 + 92000000 * 92000000 := by omega
  have h4 : ((x - y).tdiv l).natAbs ≤ (x - y).natAbs := by
    rw [Int.natAbs_tdiv]
    exact Nat.div_le_self _ _
  refine ⟨?_, ?_, ?_, ?_⟩ <;> rw [IntKind.wrap_i64] <;> omega
end Go.Proofs.Ytkgbilbicdiadaa
