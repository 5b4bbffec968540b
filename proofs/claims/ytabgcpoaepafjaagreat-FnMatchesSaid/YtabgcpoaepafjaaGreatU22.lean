/- Words and walks for the law FnMatches, a part of them. No condition but that the arguments lie in memory. -/
import Derived.Test.YtabgcpoaepafjaaGreatU3
set_option linter.unusedVariables false
set_option linter.unusedSimpArgs false
namespace Go.Proofs.YtabgcpoaepafjaaGreat
/-- The height of a node above others: no two nodes of the grid have one height. -/
def key (p : P2) : Int := 21 * p.2 + p.1
theorem key_inj {a b : P2} (ha : nodeOk a = true) (hb : nodeOk b = true) (e : key a = key b) : a = b := by
  rw [nodeOk_iff] at ha hb
  unfold key at e
  exact Prod.ext (by omega) (by omega)
theorem half_key {a b : P2} (ha : nodeOk a = true) (hb : nodeOk b = true) : halfP a b = if key a < key b then 0 else 1 := by
  rw [nodeOk_iff] at ha hb
  unfold halfP key
  by_cases h : a.2 < b.2 ∨ (b.2 = a.2 ∧ a.1 < b.1)
  · rw [if_pos h, if_pos (by omega)]
  · rw [if_neg h, if_neg (by omega)]
theorem turn_key (a b c : P2) : 21 * turnN a b c = (b.1 - a.1) * (key c - key a) - (key b - key a) * (c.1 - a.1) := by unfold turnN key; grind
theorem turn_swap (a b c : P2) : turnN a c b = - turnN a b c := by unfold turnN; grind
theorem turn_rot (a b c : P2) : turnN b c a = turnN a b c := by unfold turnN; grind
theorem turn_flip (a b c : P2) : turnN b a c = - turnN a b c := by unfold turnN; grind
theorem turn_same (a b : P2) : turnN a b b = 0 := by unfold turnN; grind
theorem turn_start (a b : P2) : turnN a b a = 0 := by unfold turnN; grind
/-- Three directions: the middle one between the outer ones. -/
theorem turn_three (a b c d : P2) : turnN a b d * (key c - key a) = turnN a b c * (key d - key a) + turnN a c d * (key b - key a) := by unfold turnN key; grind
theorem four_i1 (a b u v : P2) : turnN u v b * (key b - key a) = turnN a b u * (key b - key v) - turnN a b v * (key b - key u) := by unfold turnN key; grind
theorem four_i2 (a b u v : P2) : turnN u v a * (key b - key a) = turnN a b v * (key u - key a) - turnN a b u * (key v - key a) := by unfold turnN key; grind
theorem four_j1 (a b u v : P2) : turnN a b v * (key v - key u) = turnN u v a * (key v - key b) - turnN u v b * (key v - key a) := by unfold turnN key; grind
theorem four_j2 (a b u v : P2) : turnN a b u * (key v - key u) = turnN u v b * (key a - key u) - turnN u v a * (key b - key u) := by unfold turnN key; grind
theorem pos_of {x A y : Int} (hA : 0 < A) (h : x * A = y) (hy : 0 < y) : 0 < x := by
  rcases Int.lt_or_le 0 x with q | q
  · exact q
  · have := Int.mul_nonpos_of_nonpos_of_nonneg q (Int.le_of_lt hA)
    omega
theorem neg_of {x A y : Int} (hA : 0 < A) (h : x * A = y) (hy : y < 0) : x < 0 := by
  rcases Int.lt_or_le x 0 with q | q
  · exact q
  · have := Int.mul_nonneg q (Int.le_of_lt hA)
    omega
theorem zero_of {x A : Int} (hA : 0 < A) (h : x * A = 0) : x = 0 := by
  rcases Int.mul_eq_zero.1 h with q | q
  · exact q
  · omega
theorem pp {p q : Int} (h1 : 0 < p) (h2 : 0 < q) : 0 < p * q := Int.mul_pos h1 h2
theorem np {p q : Int} (h1 : p < 0) (h2 : 0 < q) : p * q < 0 := Int.mul_neg_of_neg_of_pos h1 h2
theorem pn {p q : Int} (h1 : 0 < p) (h2 : q < 0) : p * q < 0 := Int.mul_neg_of_pos_of_neg h1 h2
/-- What lies on a line between two heights lies between the ends. -/
theorem between_of {p q m n : Int} (h : p * m = n * q) (hm : 0 < m) (hn : m < n) : (0 ≤ p → 0 ≤ q ∧ q ≤ p) ∧ (p ≤ 0 → p ≤ q ∧ q ≤ 0) := by
  have key1 : ∀ p q : Int, p * m = n * q → 0 ≤ p → 0 ≤ q ∧ q ≤ p := by
    intro p q h hp
    constructor
    · rcases Int.lt_or_le q 0 with a | a
      · have h1 := Int.mul_nonneg hp (Int.le_of_lt hm)
        have h2 := pn (show 0 < n by omega) a
        omega
      · exact a
    · rcases Int.lt_or_le p q with a | a
      · have h1 : p * m ≤ p * n := Int.mul_le_mul_of_nonneg_left (Int.le_of_lt hn) hp
        have h2 : n * p < n * q := Int.mul_lt_mul_of_pos_left a (by omega)
        rw [Int.mul_comm n p] at h2
        omega
      · exact a
  refine ⟨key1 p q h, fun hp => ?_⟩
  have := key1 (-p) (-q) (by rw [Int.neg_mul, Int.mul_neg, h]) (by omega)
  omega
theorem betw_of {a b c : P2} (ha : nodeOk a = true) (hb : nodeOk b = true) (hc : nodeOk c = true) (h1 : key a < key c) (h2 : key c < key b) (ht : turnN a b c = 0) : betw a b c = true := by
  have e1 : (b.1 - a.1) * (key c - key a) = (key b - key a) * (c.1 - a.1) := by have := turn_key a b c; omega
  have e2 : (b.2 - a.2) * (key c - key a) = (key b - key a) * (c.2 - a.2) := by
    have : (b.2 - a.2) * (key c - key a) - (key b - key a) * (c.2 - a.2) = - turnN a b c := by unfold turnN key; grind
    omega
  have m1 := between_of e1 (by omega) (by omega)
  have m2 := between_of e2 (by omega) (by omega)
  have n1 : a ≠ b := fun e => by rw [e] at h1; omega
  have n2 : a ≠ c := fun e => by rw [e] at h1; omega
  have n3 : b ≠ c := fun e => by rw [e] at h2; omega
  have r1 : inR c.1 (min a.1 b.1) (max a.1 b.1) = true := by
    simp only [inR, Bool.and_eq_true, decide_eq_true_eq]
    rcases Int.le_total 0 (b.1 - a.1) with q | q
    · have := m1.1 q; omega
    · have := m1.2 q; omega
  have r2 : inR c.2 (min a.2 b.2) (max a.2 b.2) = true := by
    simp only [inR, Bool.and_eq_true, decide_eq_true_eq]
    rcases Int.le_total 0 (b.2 - a.2) with q | q
    · have := m2.1 q; omega
    · have := m2.2 q; omega
  simp [betw, ha, hb, hc, n1, n2, n3, ht, r1, r2]
/-- How far (a, b) lies to the right of (u, v) at height t / 2. -/
def gap (a b u v : P2) (t : Int) : Int := (a.1 * (2 * key b - 2 * key a) + (b.1 - a.1) * (t - 2 * key a)) * (2 * key v - 2 * key u) - (u.1 * (2 * key v - 2 * key u) + (v.1 - u.1) * (t - 2 * key u)) * (2 * key b - 2 * key a)
theorem gap_lin (a b u v : P2) (t l h : Int) : gap a b u v t * (h - l) = gap a b u v l * (h - t) + gap a b u v h * (t - l) := by unfold gap; grind
theorem gap_u (a b u v : P2) : gap a b u v (2 * key u) = turnN a b u * (84 * (key v - key u)) := by unfold gap turnN key; grind
theorem gap_v (a b u v : P2) : gap a b u v (2 * key v) = turnN a b v * (84 * (key v - key u)) := by unfold gap turnN key; grind
theorem gap_a (a b u v : P2) : gap a b u v (2 * key a) = - turnN u v a * (84 * (key b - key a)) := by unfold gap turnN key; grind
theorem gap_b (a b u v : P2) : gap a b u v (2 * key b) = - turnN u v b * (84 * (key b - key a)) := by unfold gap turnN key; grind
theorem gap_pos {a b u v : P2} {t l h : Int} (hl : l < t) (hh : t < h) (h1 : 0 ≤ gap a b u v l) (h2 : 0 ≤ gap a b u v h) (h3 : 0 < gap a b u v l ∨ 0 < gap a b u v h) : 0 < gap a b u v t := by
  refine pos_of (show 0 < h - l by omega) (gap_lin a b u v t l h) ?_
  have q1 := Int.mul_nonneg h1 (show 0 ≤ h - t by omega)
  have q2 := Int.mul_nonneg h2 (show 0 ≤ t - l by omega)
  rcases h3 with h3 | h3
  · have := pp h3 (show 0 < h - t by omega); omega
  · have := pp h3 (show 0 < t - l by omega); omega
theorem gap_neg {a b u v : P2} {t l h : Int} (hl : l < t) (hh : t < h) (h1 : gap a b u v l ≤ 0) (h2 : gap a b u v h ≤ 0) (h3 : gap a b u v l < 0 ∨ gap a b u v h < 0) : gap a b u v t < 0 := by
  refine neg_of (show 0 < h - l by omega) (gap_lin a b u v t l h) ?_
  have q1 := Int.mul_nonpos_of_nonpos_of_nonneg h1 (show 0 ≤ h - t by omega)
  have q2 := Int.mul_nonpos_of_nonpos_of_nonneg h2 (show 0 ≤ t - l by omega)
  rcases h3 with h3 | h3
  · have := np h3 (show 0 < h - t by omega); omega
  · have := np h3 (show 0 < t - l by omega); omega
/-- The order at a height both reach is the order at the lower and at the upper end. -/
structure Side (a b u v : P2) (t : Int) : Prop where
  ne : gap a b u v t ≠ 0
  l1 : key a < key u → (0 < gap a b u v t ↔ 0 < turnN a b u)
  l2 : a = u → (0 < gap a b u v t ↔ 0 < turnN u b v)
  l3 : key u < key a → (0 < gap a b u v t ↔ turnN u v a < 0)
  h1 : key v < key b → (0 < gap a b u v t ↔ 0 < turnN a b v)
  h2 : b = v → (0 < gap a b u v t ↔ turnN u v a < 0)
  h3 : key b < key v → (0 < gap a b u v t ↔ turnN u v b < 0)
theorem sgnMul {x A : Int} (hA : 0 < A) : (0 < x * A ↔ 0 < x) ∧ (x * A < 0 ↔ x < 0) ∧ (x * A = 0 ↔ x = 0) := by
  refine ⟨⟨fun h => pos_of hA rfl h, fun h => pp h hA⟩, ⟨fun h => neg_of hA rfl h, fun h => np h hA⟩, ⟨fun h => zero_of hA h, fun h => by rw [h, Int.zero_mul]⟩⟩
theorem side_pos {a b u v : P2} {t : Int} (hg : 0 < gap a b u v t) (l1 : key a < key u → 0 < turnN a b u) (l2 : a = u → 0 < turnN u b v) (l3 : key u < key a → turnN u v a < 0) (h1 : key v < key b → 0 < turnN a b v) (h2 : b = v → turnN u v a < 0) (h3 : key b < key v → turnN u v b < 0) : Side a b u v t :=
  ⟨by omega, fun h => ⟨fun _ => l1 h, fun _ => hg⟩, fun h => ⟨fun _ => l2 h, fun _ => hg⟩, fun h => ⟨fun _ => l3 h, fun _ => hg⟩, fun h => ⟨fun _ => h1 h, fun _ => hg⟩, fun h => ⟨fun _ => h2 h, fun _ => hg⟩, fun h => ⟨fun _ => h3 h, fun _ => hg⟩⟩
theorem side_neg {a b u v : P2} {t : Int} (hg : gap a b u v t < 0) (l1 : key a < key u → turnN a b u < 0) (l2 : a = u → turnN u b v < 0) (l3 : key u < key a → 0 < turnN u v a) (h1 : key v < key b → turnN a b v < 0) (h2 : b = v → 0 < turnN u v a) (h3 : key b < key v → 0 < turnN u v b) : Side a b u v t :=
  ⟨by omega, fun h => ⟨fun _ => by omega, fun _ => by have := l1 h; omega⟩, fun h => ⟨fun _ => by omega, fun _ => by have := l2 h; omega⟩, fun h => ⟨fun _ => by omega, fun _ => by have := l3 h; omega⟩, fun h => ⟨fun _ => by omega, fun _ => by have := h1 h; omega⟩, fun h => ⟨fun _ => by omega, fun _ => by have := h2 h; omega⟩, fun h => ⟨fun _ => by omega, fun _ => by have := h3 h; omega⟩⟩
theorem cross_no {a b u v : P2} (hX : crossN a b u v = false) : (betw a b u = false ∧ betw a b v = false ∧ betw u v a = false ∧ betw u v b = false) ∧ ¬ (turnN a b u * turnN a b v < 0 ∧ turnN u v a * turnN u v b < 0) := by
  unfold crossN at hX
  simp only [Bool.or_eq_false_iff] at hX
  obtain ⟨⟨⟨⟨⟨_, x1⟩, x2⟩, x3⟩, x4⟩, x5⟩ := hX
  refine ⟨⟨x1, x2, x3, x4⟩, fun h => ?_⟩
  simp [h.1, h.2] at x5
theorem side {a b u v : P2} (ha : nodeOk a = true) (hb : nodeOk b = true) (hu : nodeOk u = true) (hv : nodeOk v = true) (hab : key a < key b) (huv : key u < key v) (hne : ¬ (a = u ∧ b = v)) (hX : crossN a b u v = false) {t : Int}
    (h1 : 2 * key a < t) (h2 : t < 2 * key b) (h3 : 2 * key u < t) (h4 : t < 2 * key v) : Side a b u v t := by
  obtain ⟨⟨x1, x2, x3, x4⟩, X⟩ := cross_no hX
  have gu := gap_u a b u v
  have gv := gap_v a b u v
  have ga := gap_a a b u v
  have gb := gap_b a b u v
  have i1 := four_i1 a b u v
  have i2 := four_i2 a b u v
  have j1 := four_j1 a b u v
  have j2 := four_j2 a b u v
  have n1 : key a < key u → turnN a b u ≠ 0 := fun h e => by rw [betw_of ha hb hu h (by omega) e] at x1; cases x1
  have n2 : key v < key b → turnN a b v ≠ 0 := fun h e => by rw [betw_of ha hb hv (by omega) h e] at x2; cases x2
  have n3 : key u < key a → turnN u v a ≠ 0 := fun h e => by rw [betw_of hu hv ha h (by omega) e] at x3; cases x3
  have n4 : key b < key v → turnN u v b ≠ 0 := fun h e => by rw [betw_of hu hv hb (by omega) h e] at x4; cases x4
  have A := sgnMul (x := turnN a b u) (show 0 < 84 * (key v - key u) by omega)
  have B := sgnMul (x := turnN a b v) (show 0 < 84 * (key v - key u) by omega)
  have C := sgnMul (x := - turnN u v a) (show 0 < 84 * (key b - key a) by omega)
  have D := sgnMul (x := - turnN u v b) (show 0 < 84 * (key b - key a) by omega)
  rw [← gu] at A
  rw [← gv] at B
  rw [← ga] at C
  rw [← gb] at D
  clear gu gv ga gb x1 x2 x3 x4 hX
  have eb : b = v → turnN a b u = - turnN u v a := fun e => by subst e; unfold turnN; grind
  have ea : a = u → turnN a b v = turnN u b v ∧ turnN u v b = - turnN u b v := fun e => by subst e; exact ⟨rfl, by unfold turnN; grind⟩
  rcases Int.lt_trichotomy (key a) (key u) with ka | ka | ka
  · have m1 := n1 ka
    have c1 : a ≠ u := fun e => by subst e; omega
    rcases Int.lt_trichotomy (key v) (key b) with kb | kb | kb
    · have m2 := n2 kb
      have c2 : b ≠ v := fun e => by subst e; omega
      rcases Int.lt_or_gt_of_ne m1 with s1 | s1 <;> rcases Int.lt_or_gt_of_ne m2 with s2 | s2
      · exact side_neg (gap_neg h3 h4 (by omega) (by omega) (.inl (by omega))) (fun _ => s1) (fun e => absurd e c1) (fun _ => by omega) (fun _ => s2) (fun e => absurd e c2) (fun _ => by omega)
      · exfalso
        have y1 := np s1 (show 0 < key b - key v by omega)
        have y2 := pp s2 (show 0 < key b - key u by omega)
        have y3 := pp s2 (show 0 < key u - key a by omega)
        have y4 := np s1 (show 0 < key v - key a by omega)
        have z1 := neg_of (show 0 < key b - key a by omega) i1 (by omega)
        have z2 := pos_of (show 0 < key b - key a by omega) i2 (by omega)
        exact X ⟨np s1 s2, pn z2 z1⟩
      · exfalso
        have y1 := pp s1 (show 0 < key b - key v by omega)
        have y2 := np s2 (show 0 < key b - key u by omega)
        have y3 := np s2 (show 0 < key u - key a by omega)
        have y4 := pp s1 (show 0 < key v - key a by omega)
        have z1 := pos_of (show 0 < key b - key a by omega) i1 (by omega)
        have z2 := neg_of (show 0 < key b - key a by omega) i2 (by omega)
        exact X ⟨pn s1 s2, np z2 z1⟩
      · exact side_pos (gap_pos h3 h4 (by omega) (by omega) (.inl (by omega))) (fun _ => s1) (fun e => absurd e c1) (fun _ => by omega) (fun _ => s2) (fun e => absurd e c2) (fun _ => by omega)
    · have c2 : b = v := (key_inj hv hb kb).symm
      have e := eb c2
      have e2 : turnN a b v = 0 := by rw [c2, turn_same]
      rcases Int.lt_or_gt_of_ne m1 with s1 | s1
      · exact side_neg (gap_neg h3 h4 (by omega) (by omega) (.inl (by omega))) (fun _ => s1) (fun e => absurd e c1) (fun _ => by omega) (fun _ => by omega) (fun _ => by omega) (fun _ => by omega)
      · exact side_pos (gap_pos h3 h4 (by omega) (by omega) (.inl (by omega))) (fun _ => s1) (fun e => absurd e c1) (fun _ => by omega) (fun _ => by omega) (fun _ => by omega) (fun _ => by omega)
    · have m4 := n4 kb
      have c2 : b ≠ v := fun e => by subst e; omega
      rcases Int.lt_or_gt_of_ne m1 with s1 | s1 <;> rcases Int.lt_or_gt_of_ne m4 with s2 | s2
      · exfalso
        have y1 := np s1 (show 0 < key v - key b by omega)
        have y2 := np s2 (show 0 < key b - key a by omega)
        have y3 := np s1 (show 0 < key v - key u by omega)
        have y4 := np s2 (show 0 < key u - key a by omega)
        have z1 := pos_of (x := turnN a b v) (show 0 < key b - key u by omega) rfl (by grind)
        have z2 := pos_of (x := turnN u v a) (show 0 < key b - key u by omega) rfl (by grind)
        exact X ⟨np s1 z1, pn z2 s2⟩
      · exact side_neg (gap_neg h3 h2 (by omega) (by omega) (.inl (by omega))) (fun _ => s1) (fun e => absurd e c1) (fun _ => by omega) (fun _ => by omega) (fun e => absurd e c2) (fun _ => s2)
      · exact side_pos (gap_pos h3 h2 (by omega) (by omega) (.inl (by omega))) (fun _ => s1) (fun e => absurd e c1) (fun _ => by omega) (fun _ => by omega) (fun e => absurd e c2) (fun _ => s2)
      · exfalso
        have y1 := pp s1 (show 0 < key v - key b by omega)
        have y2 := pp s2 (show 0 < key b - key a by omega)
        have y3 := pp s1 (show 0 < key v - key u by omega)
        have y4 := pp s2 (show 0 < key u - key a by omega)
        have z1 := neg_of (x := turnN a b v) (show 0 < key b - key u by omega) rfl (by grind)
        have z2 := neg_of (x := turnN u v a) (show 0 < key b - key u by omega) rfl (by grind)
        exact X ⟨pn s1 z1, np z2 s2⟩
  · have c1 : a = u := key_inj ha hu ka
    obtain ⟨e1, e2⟩ := ea c1
    have e3 : turnN a b u = 0 := by rw [← c1, turn_start]
    rcases Int.lt_trichotomy (key v) (key b) with kb | kb | kb
    · have m2 := n2 kb
      have c2 : b ≠ v := fun e => by subst e; omega
      rcases Int.lt_or_gt_of_ne m2 with s2 | s2
      · exact side_neg (gap_neg h3 h4 (by omega) (by omega) (.inr (by omega))) (fun _ => by omega) (fun _ => by omega) (fun _ => by omega) (fun _ => s2) (fun e => absurd e c2) (fun _ => by omega)
      · exact side_pos (gap_pos h3 h4 (by omega) (by omega) (.inr (by omega))) (fun _ => by omega) (fun _ => by omega) (fun _ => by omega) (fun _ => s2) (fun e => absurd e c2) (fun _ => by omega)
    · exact absurd ⟨c1, (key_inj hv hb kb).symm⟩ hne
    · have m4 := n4 kb
      have c2 : b ≠ v := fun e => by subst e; omega
      rcases Int.lt_or_gt_of_ne m4 with s2 | s2
      · exact side_pos (gap_pos h3 h2 (by omega) (by omega) (.inr (by omega))) (fun _ => by omega) (fun _ => by omega) (fun _ => by omega) (fun _ => by omega) (fun e => absurd e c2) (fun _ => s2)
      · exact side_neg (gap_neg h3 h2 (by omega) (by omega) (.inr (by omega))) (fun _ => by omega) (fun _ => by omega) (fun _ => by omega) (fun _ => by omega) (fun e => absurd e c2) (fun _ => s2)
  · have m3 := n3 ka
    have c1 : a ≠ u := fun e => by subst e; omega
    rcases Int.lt_trichotomy (key v) (key b) with kb | kb | kb
    · have m2 := n2 kb
      have c2 : b ≠ v := fun e => by subst e; omega
      rcases Int.lt_or_gt_of_ne m3 with s1 | s1 <;> rcases Int.lt_or_gt_of_ne m2 with s2 | s2
      · exfalso
        have y1 := np s2 (show 0 < key a - key u by omega)
        have y2 := np s1 (show 0 < key b - key a by omega)
        have y3 := np s1 (show 0 < key b - key v by omega)
        have y4 := np s2 (show 0 < key v - key u by omega)
        have z1 := pos_of (x := turnN a b u) (show 0 < key v - key a by omega) rfl (by grind)
        have z2 := pos_of (x := turnN u v b) (show 0 < key v - key a by omega) rfl (by grind)
        exact X ⟨pn z1 s2, np s1 z2⟩
      · exact side_pos (gap_pos h1 h4 (by omega) (by omega) (.inl (by omega))) (fun _ => by omega) (fun e => absurd e c1) (fun _ => s1) (fun _ => s2) (fun e => absurd e c2) (fun _ => by omega)
      · exact side_neg (gap_neg h1 h4 (by omega) (by omega) (.inl (by omega))) (fun _ => by omega) (fun e => absurd e c1) (fun _ => s1) (fun _ => s2) (fun e => absurd e c2) (fun _ => by omega)
      · exfalso
        have y1 := pp s2 (show 0 < key a - key u by omega)
        have y2 := pp s1 (show 0 < key b - key a by omega)
        have y3 := pp s1 (show 0 < key b - key v by omega)
        have y4 := pp s2 (show 0 < key v - key u by omega)
        have z1 := neg_of (x := turnN a b u) (show 0 < key v - key a by omega) rfl (by grind)
        have z2 := neg_of (x := turnN u v b) (show 0 < key v - key a by omega) rfl (by grind)
        exact X ⟨np z1 s2, pn s1 z2⟩
    · have c2 : b = v := (key_inj hv hb kb).symm
      have e2 : turnN u v b = 0 := by rw [c2, turn_same]
      rcases Int.lt_or_gt_of_ne m3 with s1 | s1
      · exact side_pos (gap_pos h1 h2 (by omega) (by omega) (.inl (by omega))) (fun _ => by omega) (fun e => absurd e c1) (fun _ => s1) (fun _ => by omega) (fun _ => s1) (fun _ => by omega)
      · exact side_neg (gap_neg h1 h2 (by omega) (by omega) (.inl (by omega))) (fun _ => by omega) (fun e => absurd e c1) (fun _ => s1) (fun _ => by omega) (fun _ => s1) (fun _ => by omega)
    · have m4 := n4 kb
      have c2 : b ≠ v := fun e => by subst e; omega
      rcases Int.lt_or_gt_of_ne m3 with s1 | s1 <;> rcases Int.lt_or_gt_of_ne m4 with s2 | s2
      · exact side_pos (gap_pos h1 h2 (by omega) (by omega) (.inl (by omega))) (fun _ => by omega) (fun e => absurd e c1) (fun _ => s1) (fun _ => by omega) (fun e => absurd e c2) (fun _ => s2)
      · exfalso
        have y1 := np s1 (show 0 < key v - key b by omega)
        have y2 := pp s2 (show 0 < key v - key a by omega)
        have y3 := pp s2 (show 0 < key a - key u by omega)
        have y4 := np s1 (show 0 < key b - key u by omega)
        have z1 := neg_of (show 0 < key v - key u by omega) j1 (by omega)
        have z2 := pos_of (show 0 < key v - key u by omega) j2 (by omega)
        exact X ⟨pn z2 z1, np s1 s2⟩
      · exfalso
        have y1 := pp s1 (show 0 < key v - key b by omega)
        have y2 := np s2 (show 0 < key v - key a by omega)
        have y3 := np s2 (show 0 < key a - key u by omega)
        have y4 := pp s1 (show 0 < key b - key u by omega)
        have z1 := pos_of (show 0 < key v - key u by omega) j1 (by omega)
        have z2 := neg_of (show 0 < key v - key u by omega) j2 (by omega)
        exact X ⟨np z2 z1, pn s1 s2⟩
      · exact side_neg (gap_neg h1 h2 (by omega) (by omega) (.inl (by omega))) (fun _ => by omega) (fun e => absurd e c1) (fun _ => s1) (fun _ => by omega) (fun e => absurd e c2) (fun _ => s2)
end Go.Proofs.YtabgcpoaepafjaaGreat
namespace Go.Proofs.YtabgcpoaepafjaaGreat
def sumI (f : Nat → Int) : Nat → Int
  | 0 => 0
  | n + 1 => sumI f n + f n
theorem sumI_congr {f g : Nat → Int} : ∀ n, (∀ i, i < n → f i = g i) → sumI f n = sumI g n
  | 0, _ => rfl
  | n + 1, h => by
    simp only [sumI]
    rw [sumI_congr n fun i hi => h i (by omega), h n (by omega)]
theorem sumI_add (f g : Nat → Int) : ∀ n, sumI (fun i => f i + g i) n = sumI f n + sumI g n
  | 0 => rfl
  | n + 1 => by
    simp only [sumI]
    rw [sumI_add f g n]
    omega
theorem sumI_mul (c : Int) (f : Nat → Int) : ∀ n, sumI (fun i => c * f i) n = c * sumI f n
  | 0 => by simp [sumI]
  | n + 1 => by
    simp only [sumI]
    rw [sumI_mul c f n, Int.mul_add]
theorem sumI_neg (f : Nat → Int) : ∀ n, sumI (fun i => - f i) n = - sumI f n
  | 0 => rfl
  | n + 1 => by
    simp only [sumI]
    rw [sumI_neg f n]
    omega
theorem sumI_zero : ∀ n, sumI (fun _ => 0) n = 0
  | 0 => rfl
  | n + 1 => by
    simp only [sumI]
    rw [sumI_zero n]
    rfl
theorem sumI_swap (f : Nat → Nat → Int) (m : Nat) : ∀ n, sumI (fun i => sumI (f i) m) n = sumI (fun j => sumI (fun i => f i j) n) m
  | 0 => by simp [sumI, sumI_zero]
  | n + 1 => by
    simp only [sumI]
    rw [sumI_swap f m n, sumI_add]
theorem sumI_one {f : Nat → Int} {k : Nat} : ∀ n, (∀ i, i < n → i ≠ k → f i = 0) → sumI f n = if k < n then f k else 0
  | 0, _ => by simp [sumI]
  | n + 1, h => by
    simp only [sumI]
    rw [sumI_one n fun i hi => h i (by omega)]
    by_cases e : n = k
    · subst e
      rw [if_neg (by omega), if_pos (by omega)]
      omega
    · rw [h n (by omega) e]
      by_cases q : k < n
      · rw [if_pos q, if_pos (by omega)]; omega
      · rw [if_neg q, if_neg (by omega)]; omega
theorem sumI_two (f : Nat → Int) : ∀ m, sumI f (2 * m) = sumI (fun k => f (2 * k) + f (2 * k + 1)) m
  | 0 => rfl
  | m + 1 => by
    have e : 2 * (m + 1) = 2 * m + 1 + 1 := by omega
    rw [e]
    simp only [sumI]
    rw [sumI_two f m]
    omega
theorem sumI_nonneg {f : Nat → Int} : ∀ n, (∀ i, i < n → 0 ≤ f i) → 0 ≤ sumI f n
  | 0, _ => Int.le_refl _
  | n + 1, h => by
    simp only [sumI]
    have := sumI_nonneg n fun i hi => h i (by omega)
    have := h n (by omega)
    omega
theorem sumI_pos {f : Nat → Int} {k : Nat} : ∀ n, (∀ i, i < n → 0 ≤ f i) → k < n → 0 < f k → 0 < sumI f n
  | 0, _, h, _ => absurd h (by omega)
  | n + 1, h, hk, hp => by
    simp only [sumI]
    have h1 := h n (by omega)
    by_cases e : n = k
    · subst e
      have := sumI_nonneg n fun i hi => h i (by omega)
      omega
    · have := sumI_pos n (fun i hi => h i (by omega)) (show k < n by omega) hp
      omega
theorem sumI_range (f : Nat → Int) : ∀ n, ((List.range n).map f).sum = sumI f n
  | 0 => rfl
  | n + 1 => by
    rw [List.range_succ, List.map_append, List.sum_append_int, sumI_range f n]
    simp [sumI]
/-- 1 or 0. -/
def ind (b : Bool) : Int := if b = true then 1 else 0
theorem ind_mul (b : Bool) (x : Int) : ind b * x = if b = true then x else 0 := by cases b <;> simp [ind]
theorem sum_filter (p : Nat → Bool) (g : Nat → Int) : ∀ l : List Nat, ((l.filter p).map g).sum = (l.map fun x => if p x = true then g x else 0).sum
  | [] => rfl
  | a :: l => by
    rw [List.filter_cons]
    cases h : p a <;> simp [h, sum_filter p g l]
end Go.Proofs.YtabgcpoaepafjaaGreat
namespace Go.Proofs.YtabgcpoaepafjaaGreat
/-- Leads below, at and above a height. -/
def loB (a b u v : P2) : Bool := decide (key a ≤ key u) && decide (key u < key b) && (if a = u then decide (0 < turnN u b v) else decide (0 < turnN a b u))
def hiB (a b u v : P2) : Bool := decide (key a < key v) && decide (key v ≤ key b) && (if b = v then decide (turnN u v a < 0) else decide (0 < turnN a b v))
def midB (a b u v : P2) (t : Int) : Bool := decide (2 * key a < t) && decide (t < 2 * key b) && decide (0 < gap a b u v t)
def inLo (u v : P2) (t : Int) (x : P2) : Bool := decide (key u < key x) && decide (2 * key x < t) && decide (turnN u v x < 0)
def inHi (u v : P2) (t : Int) (x : P2) : Bool := decide (t < 2 * key x) && decide (key x < key v) && decide (turnN u v x < 0)
theorem ind_true {b : Bool} (h : b = true) : ind b = 1 := by rw [h]; rfl
theorem ind_false {b : Bool} (h : b = false) : ind b = 0 := by rw [h]; rfl
theorem gap_self (u v : P2) (t : Int) : gap u v u v t = 0 := by unfold gap; grind
section
variable {a b u v : P2} {t : Int}
theorem lo_no (h : key u < key a ∨ key b ≤ key u) : loB a b u v = false := by
  unfold loB
  rcases h with h | h
  · rw [decide_eq_false (show ¬ key a ≤ key u by omega)]; rfl
  · rw [decide_eq_false (show ¬ key u < key b by omega), Bool.and_false]; rfl
theorem hi_no (h : key v ≤ key a ∨ key b < key v) : hiB a b u v = false := by
  unfold hiB
  rcases h with h | h
  · rw [decide_eq_false (show ¬ key a < key v by omega)]; rfl
  · rw [decide_eq_false (show ¬ key v ≤ key b by omega), Bool.and_false]; rfl
theorem mid_no (h : t ≤ 2 * key a ∨ 2 * key b ≤ t) : midB a b u v t = false := by
  unfold midB
  rcases h with h | h
  · rw [decide_eq_false (show ¬ 2 * key a < t by omega)]; rfl
  · rw [decide_eq_false (show ¬ t < 2 * key b by omega), Bool.and_false]; rfl
theorem inLo_no {x : P2} (h : key x ≤ key u ∨ t ≤ 2 * key x) : inLo u v t x = false := by
  unfold inLo
  rcases h with h | h
  · rw [decide_eq_false (show ¬ key u < key x by omega)]; rfl
  · rw [decide_eq_false (show ¬ 2 * key x < t by omega), Bool.and_false]; rfl
theorem inHi_no {x : P2} (h : key v ≤ key x ∨ 2 * key x ≤ t) : inHi u v t x = false := by
  unfold inHi
  rcases h with h | h
  · rw [decide_eq_false (show ¬ key x < key v by omega), Bool.and_false]; rfl
  · rw [decide_eq_false (show ¬ t < 2 * key x by omega)]; rfl
theorem mid_yes (h1 : 2 * key a < t) (h2 : t < 2 * key b) : midB a b u v t = decide (0 < gap a b u v t) := by
  unfold midB
  rw [decide_eq_true h1, decide_eq_true h2]; rfl
theorem inLo_yes {x : P2} (h1 : key u < key x) (h2 : 2 * key x < t) : inLo u v t x = decide (turnN u v x < 0) := by
  unfold inLo
  rw [decide_eq_true h1, decide_eq_true h2]; rfl
theorem inHi_yes {x : P2} (h1 : t < 2 * key x) (h2 : key x < key v) : inHi u v t x = decide (turnN u v x < 0) := by
  unfold inHi
  rw [decide_eq_true h1, decide_eq_true h2]; rfl
theorem lo_side (h : Side a b u v t) (ha : nodeOk a = true) (hu : nodeOk u = true) (h1 : key a ≤ key u) (h2 : key u < key b) : loB a b u v = decide (0 < gap a b u v t) := by
  unfold loB
  rw [decide_eq_true h1, decide_eq_true h2]
  by_cases e : a = u
  · rw [if_pos e, decide_eq_decide.2 (h.l2 e)]; rfl
  · have : key a ≠ key u := fun q => e (key_inj ha hu q)
    rw [if_neg e, decide_eq_decide.2 (h.l1 (by omega))]; rfl
theorem hi_side (h : Side a b u v t) (hb : nodeOk b = true) (hv : nodeOk v = true) (h1 : key a < key v) (h2 : key v ≤ key b) : hiB a b u v = decide (0 < gap a b u v t) := by
  unfold hiB
  rw [decide_eq_true h1, decide_eq_true h2]
  by_cases e : b = v
  · rw [if_pos e, decide_eq_decide.2 (h.h2 e)]; rfl
  · have : key b ≠ key v := fun q => e (key_inj hb hv q)
    rw [if_neg e, decide_eq_decide.2 (h.h1 (by omega))]; rfl
variable (ha : nodeOk a = true) (hb : nodeOk b = true) (hu : nodeOk u = true) (hv : nodeOk v = true) (hab : key a < key b) (huv : key u < key v) (hX : (a = u ∧ b = v) ∨ (¬ (a = u ∧ b = v) ∧ crossN a b u v = false)) (h3 : 2 * key u < t) (h4 : t < 2 * key v) (hodd : t % 2 = 1)
include ha hb hu hv hab huv hX h3 h4 hodd
/-- What comes into the strip between the lower end and the height t. -/
theorem strip_lo : ind (loB a b u v) - ind (midB a b u v t) = ind (inLo u v t b) - ind (inLo u v t a) := by
  rcases hX with ⟨rfl, rfl⟩ | ⟨hne, hX⟩
  · have e1 : loB a b a b = false := by unfold loB; rw [if_pos rfl, turn_same]; simp
    have e2 : midB a b a b t = false := by unfold midB; rw [gap_self]; simp
    rw [e1, e2, inLo_no (.inr (by omega)), inLo_no (.inl (Int.le_refl _))]
  · have S : ∀ s : Int, 2 * key a < s → s < 2 * key b → 2 * key u < s → s < 2 * key v → Side a b u v s := fun s q1 q2 q3 q4 => side ha hb hu hv hab huv hne hX q1 q2 q3 q4
    rcases Int.lt_or_le (key u) (key b) with k1 | k1
    · rcases Int.lt_or_le (key u) (key a) with k2 | k2
      · rw [lo_no (.inl k2)]
        rcases Int.lt_or_le (2 * key a) t with k3 | k3
        · rcases Int.lt_or_le t (2 * key b) with k4 | k4
          · have s := S t k3 k4 h3 h4
            rw [mid_yes k3 k4, inLo_no (x := b) (.inr (by omega)), inLo_yes k2 k3, decide_eq_decide.2 (s.l3 k2)]
          · have s := S (2 * key b - 1) (by omega) (by omega) (by omega) (by omega)
            rw [mid_no (.inr k4), inLo_yes k1 (by omega), inLo_yes k2 k3, ← decide_eq_decide.2 (s.l3 k2), ← decide_eq_decide.2 (s.h3 (by omega))]
            cases decide (0 < gap a b u v (2 * key b - 1)) <;> rfl
        · rw [mid_no (.inl k3), inLo_no (x := b) (.inr (by omega)), inLo_no (x := a) (.inr k3)]
      · rw [inLo_no (x := a) (.inl k2)]
        rcases Int.lt_or_le t (2 * key b) with k4 | k4
        · have s := S t (by omega) k4 h3 h4
          rw [mid_yes (by omega) k4, inLo_no (x := b) (.inr (by omega)), lo_side s ha hu k2 k1]
          cases decide (0 < gap a b u v t) <;> rfl
        · have s := S (2 * key b - 1) (by omega) (by omega) (by omega) (by omega)
          rw [mid_no (.inr k4), lo_side s ha hu k2 k1, inLo_yes k1 (by omega), ← decide_eq_decide.2 (s.h3 (by omega))]
    · rw [lo_no (.inr k1), mid_no (.inr (by omega)), inLo_no (x := b) (.inl k1), inLo_no (x := a) (.inl (by omega))]
/-- What goes out of the strip between the height t and the upper end. -/
theorem strip_hi : ind (midB a b u v t) - ind (hiB a b u v) = ind (inHi u v t b) - ind (inHi u v t a) := by
  rcases hX with ⟨rfl, rfl⟩ | ⟨hne, hX⟩
  · have e1 : hiB a b a b = false := by unfold hiB; rw [if_pos rfl, turn_start]; simp
    have e2 : midB a b a b t = false := by unfold midB; rw [gap_self]; simp
    rw [e1, e2, inHi_no (.inl (Int.le_refl _)), inHi_no (.inr (by omega))]
  · have S : ∀ s : Int, 2 * key a < s → s < 2 * key b → 2 * key u < s → s < 2 * key v → Side a b u v s := fun s q1 q2 q3 q4 => side ha hb hu hv hab huv hne hX q1 q2 q3 q4
    rcases Int.lt_or_le (key a) (key v) with k1 | k1
    · rcases Int.lt_or_le (key b) (key v) with k2 | k2
      · rw [hi_no (.inr k2)]
        rcases Int.lt_or_le t (2 * key b) with k3 | k3
        · rcases Int.lt_or_le (2 * key a) t with k4 | k4
          · have s := S t k4 k3 h3 h4
            rw [mid_yes k4 k3, inHi_no (x := a) (.inr (by omega)), inHi_yes k3 k2, decide_eq_decide.2 (s.h3 k2)]
          · have s := S (2 * key a + 1) (by omega) (by omega) (by omega) (by omega)
            rw [mid_no (.inl k4), inHi_yes k3 k2, inHi_yes (by omega) k1, ← decide_eq_decide.2 (s.h3 k2), ← decide_eq_decide.2 (s.l3 (by omega))]
            cases decide (0 < gap a b u v (2 * key a + 1)) <;> rfl
        · rw [mid_no (.inr k3), inHi_no (x := a) (.inr (by omega)), inHi_no (x := b) (.inr k3)]
      · rw [inHi_no (x := b) (.inl k2)]
        rcases Int.lt_or_le (2 * key a) t with k4 | k4
        · have s := S t k4 (by omega) h3 h4
          rw [mid_yes k4 (by omega), inHi_no (x := a) (.inr (by omega)), hi_side s hb hv k1 k2]
          cases decide (0 < gap a b u v t) <;> rfl
        · have s := S (2 * key a + 1) (by omega) (by omega) (by omega) (by omega)
          rw [mid_no (.inl k4), hi_side s hb hv k1 k2, inHi_yes (by omega) k1, ← decide_eq_decide.2 (s.l3 (by omega))]
    · rw [hi_no (.inl k1), mid_no (.inl (by omega)), inHi_no (x := a) (.inl k1), inHi_no (x := b) (.inl (by omega))]
end
end Go.Proofs.YtabgcpoaepafjaaGreat
namespace Go.Proofs.YtabgcpoaepafjaaGreat
/-- Where a dart begins. -/
def ptN (N E : List P2) (d : Nat) : P2 := at2 N (fromN E d)
def upB (N E : List P2) (d : Nat) : Bool := decide (key (ptN N E d) < key (ptN N E (twin d)))
/-- The dart of lead k that goes up. -/
def upD (N E : List P2) (k : Nat) : Nat := if upB N E (2 * k) = true then 2 * k else 2 * k + 1
/-- A sum over the darts that go up. -/
def U (N E : List P2) (F : Nat → Int) : Int := sumI (fun k => F (upD N E k)) E.length
theorem twin_even (k : Nat) : twin (2 * k) = 2 * k + 1 := by unfold twin; split <;> omega
theorem twin_odd (k : Nat) : twin (2 * k + 1) = 2 * k := by unfold twin; split <;> omega
theorem upD_half (N E : List P2) (k : Nat) : upD N E k / 2 = k := by unfold upD; split <;> omega
theorem upD_lt {N E : List P2} {k : Nat} (h : k < E.length) : upD N E k < 2 * E.length := by unfold upD; split <;> omega
theorem U_congr {N E : List P2} {F G : Nat → Int} (h : ∀ k, k < E.length → F (upD N E k) = G (upD N E k)) : U N E F = U N E G := sumI_congr _ h
theorem U_add (N E : List P2) (F G : Nat → Int) : U N E (fun d => F d + G d) = U N E F + U N E G := sumI_add _ _ _
theorem U_neg (N E : List P2) (F : Nat → Int) : U N E (fun d => - F d) = - U N E F := sumI_neg _ _
theorem U_sub (N E : List P2) (F G : Nat → Int) : U N E (fun d => F d - G d) = U N E F - U N E G := by
  have h := U_add N E F (fun d => - G d)
  rw [U_neg] at h
  have e : (fun d => F d - G d) = fun d => F d + - G d := by funext d; omega
  rw [e, h]
  omega
theorem U_all (N E : List P2) (F : Nat → Int) : sumI F (2 * E.length) = U N E (fun d => F d + F (twin d)) := by
  rw [sumI_two]
  refine sumI_congr _ fun k _ => ?_
  unfold upD
  split
  · show _ = F (2 * k) + F (twin (2 * k))
    rw [twin_even]
  · show _ = F (2 * k + 1) + F (twin (2 * k + 1))
    rw [twin_odd]; omega
theorem betw_flip (a b c : P2) : betw b a c = betw a b c := by
  unfold betw
  have e1 : decide (b = a) = decide (a = b) := by rw [decide_eq_decide]; exact eq_comm
  have e2 : decide (turnN b a c = 0) = decide (turnN a b c = 0) := by rw [turn_flip, decide_eq_decide]; omega
  have e3 : min b.1 a.1 = min a.1 b.1 := by omega
  have e4 : max b.1 a.1 = max a.1 b.1 := by omega
  have e5 : min b.2 a.2 = min a.2 b.2 := by omega
  have e6 : max b.2 a.2 = max a.2 b.2 := by omega
  rw [e1, e2, e3, e4, e5, e6]
  cases nodeOk a <;> cases nodeOk b <;> cases nodeOk c <;> cases decide (a = b) <;> cases decide (a = c) <;> cases decide (b = c) <;> rfl
theorem crossN_flip (a b u v : P2) : crossN b a u v = crossN a b u v := by
  unfold crossN
  rw [betw_flip a b u, betw_flip a b v, turn_flip a b u, turn_flip a b v, Int.neg_mul_neg]
  have e : turnN u v b * turnN u v a = turnN u v a * turnN u v b := Int.mul_comm _ _
  rw [e]
  cases decide (a = u) <;> cases decide (b = v) <;> cases decide (a = v) <;> cases decide (b = u) <;> cases betw a b u <;> cases betw a b v <;> cases betw u v a <;> cases betw u v b <;> rfl
theorem crossN_flip2 (a b u v : P2) : crossN a b v u = crossN a b u v := by rw [crossN_comm, crossN_flip, crossN_comm]
section
variable {N E : List P2}
theorem WinOk.pt_ok (hW : WinOk N E) {d : Nat} (hd : d < 2 * E.length) : nodeOk (ptN N E d) = true := (hW.ends hd).2.2
theorem WinOk.pt_inj (hW : WinOk N E) {d e : Nat} (hd : d < 2 * E.length) (he : e < 2 * E.length) (h : ptN N E d = ptN N E e) : fromN E d = fromN E e :=
  hW.node_inj (hW.ends hd).1 (hW.ends hd).2.1 (hW.ends he).1 (hW.ends he).2.1 h
theorem WinOk.key_ne (hW : WinOk N E) {d : Nat} (hd : d < 2 * E.length) : key (ptN N E d) ≠ key (ptN N E (twin d)) := fun e =>
  hW.ends_ne hd (hW.pt_inj hd (twin_lt hd) (key_inj (hW.pt_ok hd) (hW.pt_ok (twin_lt hd)) e))
theorem up_iff {d : Nat} : upB N E d = true ↔ key (ptN N E d) < key (ptN N E (twin d)) := by simp [upB]
theorem WinOk.up_twin (hW : WinOk N E) {d : Nat} (hd : d < 2 * E.length) : upB N E (twin d) = !upB N E d := by
  have h := hW.key_ne hd
  unfold upB
  rw [twin_twin]
  by_cases q : key (ptN N E d) < key (ptN N E (twin d))
  · rw [decide_eq_true q, decide_eq_false (by omega)]; rfl
  · rw [decide_eq_false q, decide_eq_true (by omega)]; rfl
theorem WinOk.upD_up (hW : WinOk N E) {k : Nat} (hk : k < E.length) : upB N E (upD N E k) = true := by
  unfold upD
  split
  · rename_i h; exact h
  · rename_i h
    have := hW.up_twin (show 2 * k < 2 * E.length by omega)
    rw [twin_even] at this
    rw [this]
    simp [h]
theorem WinOk.upD_of (hW : WinOk N E) {d : Nat} (hd : d < 2 * E.length) (h : upB N E d = true) : upD N E (d / 2) = d := by
  unfold upD
  have ht := hW.up_twin (show 2 * (d / 2) < 2 * E.length by omega)
  rw [twin_even] at ht
  rcases Nat.mod_two_eq_zero_or_one d with q | q
  · have e : 2 * (d / 2) = d := by omega
    rw [e, if_pos h]
  · have e : 2 * (d / 2) + 1 = d := by omega
    rw [e, h] at ht
    rw [if_neg (by intro z; rw [z] at ht; cases ht), e]
theorem WinOk.apart (hW : WinOk N E) {d e : Nat} (hd : d < 2 * E.length) (he : e < 2 * E.length) (h : d / 2 ≠ e / 2) : crossN (ptN N E d) (ptN N E (twin d)) (ptN N E e) (ptN N E (twin e)) = false := by
  have key1 : ∀ i j : Nat, i < j → j < E.length → crossN (at2 N (at2 E i).1) (at2 N (at2 E i).2) (at2 N (at2 E j).1) (at2 N (at2 E j).2) = false := by
    intro i j hij hj
    have h1 := (hW.leads j hj).2.1 i hij
    unfold crossB at h1
    rw [(hW.leads j hj).1, (hW.leads i (by omega)).1] at h1
    simpa using h1
  have key2 : ∀ i j : Nat, i ≠ j → i < E.length → j < E.length → crossN (at2 N (at2 E i).1) (at2 N (at2 E i).2) (at2 N (at2 E j).1) (at2 N (at2 E j).2) = false := by
    intro i j hne hi hj
    rcases Nat.lt_or_gt_of_ne hne with q | q
    · exact key1 i j q hj
    · rw [crossN_comm]; exact key1 j i q hi
  have h1 := key2 (d / 2) (e / 2) h (by omega) (by omega)
  unfold ptN fromN
  rw [twin_half, twin_half]
  have t1 : twin d % 2 = 1 - d % 2 := by unfold twin; split <;> omega
  have t2 : twin e % 2 = 1 - e % 2 := by unfold twin; split <;> omega
  rw [t1, t2]
  rcases Nat.mod_two_eq_zero_or_one d with a | a <;> rcases Nat.mod_two_eq_zero_or_one e with b | b <;> simp only [a, b, Nat.sub_zero, Nat.sub_self, Nat.one_ne_zero, if_true, if_false]
  · exact h1
  · rw [crossN_flip2]; exact h1
  · rw [crossN_flip]; exact h1
  · rw [crossN_flip, crossN_flip2]; exact h1
theorem WinOk.pair (hW : WinOk N E) {f d : Nat} (hf : f < 2 * E.length) (hd : d < 2 * E.length) (uf : upB N E f = true) (ud : upB N E d = true) :
    (ptN N E f = ptN N E d ∧ ptN N E (twin f) = ptN N E (twin d)) ∨ (¬ (ptN N E f = ptN N E d ∧ ptN N E (twin f) = ptN N E (twin d)) ∧ crossN (ptN N E f) (ptN N E (twin f)) (ptN N E d) (ptN N E (twin d)) = false) := by
  by_cases e : f / 2 = d / 2
  · have : f = d := by rw [← hW.upD_of hf uf, ← hW.upD_of hd ud, e]
    subst this
    exact .inl ⟨rfl, rfl⟩
  · refine .inr ⟨fun h => e ?_, hW.apart hf hd e⟩
    rw [hW.dart_inj hf hd (hW.pt_inj hf hd h.1) (hW.pt_inj (twin_lt hf) (twin_lt hd) h.2)]
/-- A flow: as much comes to a node as goes. -/
structure Flow (E : List P2) (g : Nat → Int) : Prop where
  anti : ∀ d, d < 2 * E.length → g (twin d) = - g d
  node : ∀ i : Int, sumI (fun d => if fromN E d = i then g d else 0) (2 * E.length) = 0
theorem Flow.phi {g : Nat → Int} (hg : Flow E g) (hW : WinOk N E) (φ : Int → Int) : U N E (fun d => g d * (φ (fromN E d) - φ (fromN E (twin d)))) = 0 := by
  have h1 : sumI (fun d => g d * φ (fromN E d)) (2 * E.length) = 0 := by
    have e : ∀ d, d < 2 * E.length → g d * φ (fromN E d) = sumI (fun i : Nat => φ (i : Int) * (if fromN E d = (i : Int) then g d else 0)) N.length := by
      intro d hd
      have h := hW.ends hd
      rw [sumI_one (k := (fromN E d).toNat) N.length (fun i _ hne => by rw [if_neg (by omega)]; exact Int.mul_zero _), if_pos (by omega), if_pos (by omega), Int.toNat_of_nonneg h.1, Int.mul_comm]
    rw [sumI_congr _ e, sumI_swap]
    have e2 : ∀ i : Nat, i < N.length → sumI (fun d => φ (i : Int) * (if fromN E d = (i : Int) then g d else 0)) (2 * E.length) = 0 := fun i _ => by
      rw [sumI_mul, hg.node, Int.mul_zero]
    rw [sumI_congr _ e2, sumI_zero]
  rw [U_all N E] at h1
  rw [← h1]
  refine U_congr fun k hk => ?_
  rw [hg.anti _ (upD_lt hk), Int.mul_sub, Int.neg_mul]
  omega
/-- What flows up to the right of dart d, at its lower end; at a height; at its upper end. -/
def loU (N E : List P2) (g : Nat → Int) (d : Nat) : Int := U N E fun f => ind (loB (ptN N E f) (ptN N E (twin f)) (ptN N E d) (ptN N E (twin d))) * g f
def crossU (N E : List P2) (g : Nat → Int) (d : Nat) (t : Int) : Int := U N E fun f => ind (midB (ptN N E f) (ptN N E (twin f)) (ptN N E d) (ptN N E (twin d)) t) * g f
def hiU (N E : List P2) (g : Nat → Int) (d : Nat) : Int := U N E fun f => ind (hiB (ptN N E f) (ptN N E (twin f)) (ptN N E d) (ptN N E (twin d))) * g f
theorem Flow.lo_mid {g : Nat → Int} (hg : Flow E g) (hW : WinOk N E) {d : Nat} (hd : d < 2 * E.length) (ud : upB N E d = true) {t : Int} (h3 : 2 * key (ptN N E d) < t) (h4 : t < 2 * key (ptN N E (twin d))) (hodd : t % 2 = 1) : loU N E g d = crossU N E g d t := by
  have h := hg.phi hW fun i => - ind (inLo (ptN N E d) (ptN N E (twin d)) t (at2 N i))
  have e : loU N E g d - crossU N E g d t = 0 := by
    unfold loU crossU
    rw [← U_sub, ← h]
    refine U_congr fun k hk => ?_
    have hf := upD_lt (N := N) hk
    have uf := hW.upD_up hk
    obtain ⟨f, hfe⟩ : ∃ f, upD N E k = f := ⟨_, rfl⟩
    rw [hfe] at hf uf ⊢
    have s := strip_lo (hW.pt_ok hf) (hW.pt_ok (twin_lt hf)) (hW.pt_ok hd) (hW.pt_ok (twin_lt hd)) (up_iff.1 uf) (up_iff.1 ud) (hW.pair hf hd uf ud) h3 h4 hodd
    show _ = g f * (- ind (inLo (ptN N E d) (ptN N E (twin d)) t (ptN N E f)) - - ind (inLo (ptN N E d) (ptN N E (twin d)) t (ptN N E (twin f))))
    rw [← Int.sub_mul, s, Int.mul_comm]
    congr 1
    omega
  omega
theorem Flow.mid_hi {g : Nat → Int} (hg : Flow E g) (hW : WinOk N E) {d : Nat} (hd : d < 2 * E.length) (ud : upB N E d = true) {t : Int} (h3 : 2 * key (ptN N E d) < t) (h4 : t < 2 * key (ptN N E (twin d))) (hodd : t % 2 = 1) : crossU N E g d t = hiU N E g d := by
  have h := hg.phi hW fun i => - ind (inHi (ptN N E d) (ptN N E (twin d)) t (at2 N i))
  have e : crossU N E g d t - hiU N E g d = 0 := by
    unfold crossU hiU
    rw [← U_sub, ← h]
    refine U_congr fun k hk => ?_
    have hf := upD_lt (N := N) hk
    have uf := hW.upD_up hk
    obtain ⟨f, hfe⟩ : ∃ f, upD N E k = f := ⟨_, rfl⟩
    rw [hfe] at hf uf ⊢
    have s := strip_hi (hW.pt_ok hf) (hW.pt_ok (twin_lt hf)) (hW.pt_ok hd) (hW.pt_ok (twin_lt hd)) (up_iff.1 uf) (up_iff.1 ud) (hW.pair hf hd uf ud) h3 h4 hodd
    show _ = g f * (- ind (inHi (ptN N E d) (ptN N E (twin d)) t (ptN N E f)) - - ind (inHi (ptN N E d) (ptN N E (twin d)) t (ptN N E (twin f))))
    rw [← Int.sub_mul, s, Int.mul_comm]
    congr 1
    omega
  omega
end
end Go.Proofs.YtabgcpoaepafjaaGreat
namespace Go.Proofs.YtabgcpoaepafjaaGreat
theorem bef_iff {a b c : P2} (ha : nodeOk a = true) (hb : nodeOk b = true) (hc : nodeOk c = true) : befN a b c = true ↔ (key a < key b ∧ ¬ key a < key c) ∨ ((key a < key b ↔ key a < key c) ∧ 0 < turnN a b c) := by
  unfold befN
  rw [ha, hb, hc, half_key ha hb, half_key ha hc]
  by_cases h1 : key a < key b <;> by_cases h2 : key a < key c <;> simp [h1, h2]
theorem bef_trans {a b c d : P2} (ha : nodeOk a = true) (hb : nodeOk b = true) (hc : nodeOk c = true) (hd : nodeOk d = true) (nb : key b ≠ key a) (nc : key c ≠ key a) (nd : key d ≠ key a) (h1 : befN a b c = true) (h2 : befN a c d = true) : befN a b d = true := by
  rw [bef_iff ha hb hc] at h1
  rw [bef_iff ha hc hd] at h2
  rw [bef_iff ha hb hd]
  have q := turn_three a b c d
  rcases h1 with h1 | ⟨h1, t1⟩
  · rcases h2 with h2 | ⟨h2, t2⟩
    · omega
    · left; omega
  · rcases h2 with h2 | ⟨h2, t2⟩
    · left; omega
    · right
      refine ⟨by omega, ?_⟩
      by_cases k : key a < key b
      · have k1 : key a < key c := h1.1 k
        have k2 : key a < key d := h2.1 k1
        refine pos_of (show 0 < key c - key a by omega) q ?_
        have := pp t1 (show 0 < key d - key a by omega)
        have := pp t2 (show 0 < key b - key a by omega)
        omega
      · have k1 : ¬ key a < key c := fun h => k (h1.2 h)
        have k2 : ¬ key a < key d := fun h => k1 (h2.2 h)
        have y1 := pn t1 (show key d - key a < 0 by omega)
        have y2 := pn t2 (show key b - key a < 0 by omega)
        rcases Int.lt_or_le 0 (turnN a b d) with z | z
        · exact z
        · have := Int.mul_nonneg_of_nonpos_of_nonpos z (show key c - key a ≤ 0 by omega)
          omega
theorem bef_asymm {a b c : P2} (ha : nodeOk a = true) (hb : nodeOk b = true) (hc : nodeOk c = true) (h1 : befN a b c = true) : befN a c b = false := by
  cases h : befN a c b with
  | false => rfl
  | true =>
    rw [bef_iff ha hb hc] at h1
    rw [bef_iff ha hc hb, turn_swap] at h
    omega
section
variable {N E : List P2}
/-- No two darts of one node lie on one ray. -/
theorem WinOk.turn_ne (hW : WinOk N E) {d e : Nat} (hd : d < 2 * E.length) (he : e < 2 * E.length) (hne : d ≠ e) (hf : fromN E d = fromN E e) (hs : upB N E d = upB N E e) : turnN (ptN N E d) (ptN N E (twin d)) (ptN N E (twin e)) ≠ 0 := by
  intro h0
  have hp : ptN N E e = ptN N E d := by unfold ptN; rw [hf]
  have hl : d / 2 ≠ e / 2 := fun q => by
    have : d = twin e ∨ d = e := by unfold twin; split <;> omega
    rcases this with r | r
    · rw [r, hW.up_twin he] at hs
      cases h : upB N E e <;> rw [h] at hs <;> cases hs
    · exact hne r
  have hX := hW.apart hd he hl
  rw [hp] at hX
  obtain ⟨⟨_, x2, _, x4⟩, _⟩ := cross_no hX
  have ka := hW.key_ne hd
  have kb := hW.key_ne he
  rw [hp] at kb
  have kd := hW.pt_ok hd
  have k1 := hW.pt_ok (twin_lt hd)
  have k2 := hW.pt_ok (twin_lt he)
  have hk : key (ptN N E (twin d)) ≠ key (ptN N E (twin e)) := fun q => hne (hW.dart_inj hd he hf (hW.pt_inj (twin_lt hd) (twin_lt he) (key_inj k1 k2 q)))
  have hu : key (ptN N E d) < key (ptN N E (twin d)) ↔ key (ptN N E d) < key (ptN N E (twin e)) := by
    have := congrArg (fun x => x = true) hs
    simp only [up_iff, hp, eq_iff_iff] at this
    exact this
  generalize ptN N E d = a at *
  generalize ptN N E (twin d) = b at *
  generalize ptN N E (twin e) = c at *
  have h1 : turnN a c b = 0 := by rw [turn_swap, h0]; rfl
  have h2 : turnN c a b = 0 := by rw [turn_flip, turn_swap, h0]; rfl
  have h3 : turnN b a c = 0 := by rw [turn_flip, h0]; rfl
  by_cases k : key a < key b
  · have k' := hu.1 k
    rcases Int.lt_or_gt_of_ne hk with q | q
    · rw [betw_of kd k2 k1 k q h1] at x4; cases x4
    · rw [betw_of kd k1 k2 k' q h0] at x2; cases x2
  · have k' : ¬ key a < key c := fun h => k (hu.2 h)
    rcases Int.lt_or_gt_of_ne hk with q | q
    · rw [← betw_flip, betw_of k1 kd k2 q (by omega) h3] at x2; cases x2
    · rw [← betw_flip, betw_of k2 kd k1 q (by omega) h2] at x4; cases x4
theorem ltD_iff (hW : WinOk N E) {k : Int} {d e : Nat} (hd : d < 2 * E.length) (he : e < 2 * E.length) (hk : fromN E d = k) : ltD N E k d e = befN (ptN N E d) (ptN N E (twin d)) (ptN N E (twin e)) := by
  unfold ltD ptN
  rw [hk]
theorem WinOk.lt_total (hW : WinOk N E) {k : Int} {d e : Nat} (hd : d < 2 * E.length) (he : e < 2 * E.length) (hk : fromN E d = k) (hk' : fromN E e = k) (hne : d ≠ e) : ltD N E k d e = true ∨ ltD N E k e d = true := by
  have hp : ptN N E e = ptN N E d := by unfold ptN; rw [hk, hk']
  have hs := hW.turn_ne hd he hne (hk.trans hk'.symm)
  rw [ltD_iff hW hd he hk, ltD_iff hW he hd hk', hp, bef_iff (hW.pt_ok hd) (hW.pt_ok (twin_lt hd)) (hW.pt_ok (twin_lt he)), bef_iff (hW.pt_ok hd) (hW.pt_ok (twin_lt he)) (hW.pt_ok (twin_lt hd)), turn_swap _ (ptN N E (twin d))]
  unfold upB at hs
  rw [hp] at hs
  by_cases h1 : key (ptN N E d) < key (ptN N E (twin d)) <;> by_cases h2 : key (ptN N E d) < key (ptN N E (twin e))
  · have := hs (by simp [h1, h2]); omega
  · left; left; exact ⟨h1, h2⟩
  · right; left; exact ⟨h2, h1⟩
  · have := hs (by simp [h1, h2]); omega
theorem WinOk.lt_asymm (hW : WinOk N E) {k : Int} {d e : Nat} (hd : d < 2 * E.length) (he : e < 2 * E.length) (hk : fromN E d = k) (hk' : fromN E e = k) (h : ltD N E k d e = true) : ltD N E k e d = false := by
  have hp : ptN N E e = ptN N E d := by unfold ptN; rw [hk, hk']
  rw [ltD_iff hW hd he hk] at h
  rw [ltD_iff hW he hd hk', hp]
  exact bef_asymm (hW.pt_ok hd) (hW.pt_ok (twin_lt hd)) (hW.pt_ok (twin_lt he)) h
theorem WinOk.lt_trans (hW : WinOk N E) {k : Int} {d e f : Nat} (hd : d < 2 * E.length) (he : e < 2 * E.length) (hf : f < 2 * E.length) (hk : fromN E d = k) (hk' : fromN E e = k) (hk2 : fromN E f = k) (h : ltD N E k d e = true) (h' : ltD N E k e f = true) : ltD N E k d f = true := by
  have hp : ptN N E e = ptN N E d := by unfold ptN; rw [hk, hk']
  have hq : ptN N E f = ptN N E d := by unfold ptN; rw [hk, hk2]
  have n1 := hW.key_ne hd
  have n2 := hW.key_ne he
  have n3 := hW.key_ne hf
  rw [hp] at n2
  rw [hq] at n3
  rw [ltD_iff hW hd he hk] at h
  rw [ltD_iff hW he hf hk', hp] at h'
  rw [ltD_iff hW hd hf hk]
  exact bef_trans (hW.pt_ok hd) (hW.pt_ok (twin_lt hd)) (hW.pt_ok (twin_lt he)) (hW.pt_ok (twin_lt hf)) n1.symm n2.symm n3.symm h h'
theorem insR_pair {lt : Nat → Nat → Bool} {P : Nat → Prop} (htot : ∀ x y, P x → P y → x ≠ y → lt x y = true ∨ lt y x = true) (htr : ∀ x y z, P x → P y → P z → lt x y = true → lt y z = true → lt x z = true) {v : Nat} (hv : P v) :
    ∀ r : List Nat, r.Pairwise (fun x y => lt y x = true) → (∀ x ∈ r, P x ∧ x ≠ v) → (insR lt v r).Pairwise (fun x y => lt y x = true)
  | [], _, _ => by simp [insR]
  | x :: t, h, hP => by
    rw [List.pairwise_cons] at h
    have hx := hP x (by simp)
    simp only [insR]
    split
    · rename_i hlt
      rw [List.pairwise_cons]
      refine ⟨fun y hy => ?_, insR_pair htot htr hv t h.2 fun y hy => hP y (List.mem_cons_of_mem _ hy)⟩
      rcases List.mem_cons.1 ((insR_perm lt v t).mem_iff.1 hy) with rfl | hy
      · exact hlt
      · exact h.1 y hy
    · rename_i hlt
      have hxv : lt x v = true := (htot x v hx.1 hv hx.2).resolve_right hlt
      rw [List.pairwise_cons]
      refine ⟨fun y hy => ?_, List.pairwise_cons.2 h⟩
      rcases List.mem_cons.1 hy with rfl | hy
      · exact hxv
      · exact htr y x v (hP y (List.mem_cons_of_mem _ hy)).1 hx.1 hv (h.1 y hy) hxv
theorem WinOk.around_pair (hW : WinOk N E) (k : Int) : (aroundL N E k).Pairwise (fun x y => ltD N E k x y = true) := by
  unfold aroundL
  rw [List.pairwise_reverse]
  have h : ∀ n, n ≤ 2 * E.length → (arR N E k n).Pairwise (fun x y => ltD N E k y x = true) := by
    intro n
    induction n with
    | zero => intro _; simp [arR]
    | succ n ih =>
      intro hn
      simp only [arR]
      split
      · rename_i hk
        refine insR_pair (P := fun d => d < 2 * E.length ∧ fromN E d = k) (fun x y hx hy hne => hW.lt_total hx.1 hy.1 hx.2 hy.2 hne) (fun x y z hx hy hz => hW.lt_trans hx.1 hy.1 hz.1 hx.2 hy.2 hz.2) ⟨by omega, hk⟩ _ (ih (by omega)) fun x hx => ?_
        have hm := (arR_perm N E k n).mem_iff.1 hx
        simp only [dartsAt, List.mem_filter, List.mem_range, beq_iff_eq] at hm
        exact ⟨⟨by omega, hm.2⟩, by omega⟩
      · exact ih (by omega)
  exact h _ (Nat.le_refl _)
end
/-- The first elements of an ordered list, up to one of them. -/
theorem take_sum {lt : Nat → Nat → Bool} (g : Nat → Int) : ∀ {l : List Nat} {e : Nat}, l.Pairwise (fun x y => lt x y = true) → (∀ x ∈ l, ∀ y ∈ l, lt x y = true → lt y x = false) → l.Nodup → e ∈ l →
    ((l.take (l.idxOf e + 1)).map g).sum = (l.map fun x => if x = e ∨ lt x e = true then g x else 0).sum
  | [], _, _, _, _, he => by cases he
  | x :: t, e, h, ha, hn, he => by
    rw [List.pairwise_cons] at h
    rw [List.nodup_cons] at hn
    by_cases q : x = e
    · subst q
      have hz : (t.map fun y => if y = x ∨ lt y x = true then g y else 0).sum = 0 := by
        have : (t.map fun y => if y = x ∨ lt y x = true then g y else 0) = t.map fun _ => (0 : Int) := by
          refine List.map_congr_left fun y hy => ?_
          have h1 := ha x (by simp) y (List.mem_cons_of_mem _ hy) (h.1 y hy)
          rw [if_neg]
          rintro (r | r)
          · subst r; exact hn.1 hy
          · rw [h1] at r; cases r
        rw [this]
        clear this h ha hn he
        induction t with
        | nil => rfl
        | cons a t ih => simp [ih]
      rw [List.idxOf_cons_self, List.map_cons, List.sum_cons, hz]
      simp
    · have het : e ∈ t := by
        rcases List.mem_cons.1 he with r | r
        · exact absurd r.symm q
        · exact r
      rw [show (x :: t).idxOf e = t.idxOf e + 1 by rw [List.idxOf_cons, show (x == e) = false by simpa using q]; rfl, List.take_succ_cons, List.map_cons, List.sum_cons, List.map_cons, List.sum_cons, take_sum g h.2 (fun a hx b hy => ha a (List.mem_cons_of_mem _ hx) b (List.mem_cons_of_mem _ hy)) hn.2 het, if_pos (.inr (h.1 e het))]
end Go.Proofs.YtabgcpoaepafjaaGreat
namespace Go.Proofs.YtabgcpoaepafjaaGreat
theorem around_sum (N E : List P2) (k : Int) (F : Nat → Int) : ((aroundL N E k).map F).sum = sumI (fun d => if fromN E d = k then F d else 0) (2 * E.length) := by
  rw [sum_perm ((around_perm N E k).map F)]
  unfold dartsAt
  rw [sum_filter, sumI_range]
  refine sumI_congr _ fun d _ => ?_
  simp
/-- What flows up to the right of a point. -/
def topU (N E : List P2) (g : Nat → Int) (p : P2) : Int := U N E fun f => ind (decide (key (ptN N E f) < key p) && (decide (key p < key (ptN N E (twin f))) && decide (0 < turnN (ptN N E f) (ptN N E (twin f)) p))) * g f
/-- The height in the corner left of dart e, where it begins. -/
def corner (N E : List P2) (g : Nat → Int) (e : Nat) : Int := topU N E g (ptN N E e) + (((aroundL N E (fromN E e)).take ((aroundL N E (fromN E e)).idxOf e + 1)).map g).sum
section
variable {N E : List P2} {g : Nat → Int}
theorem WinOk.corner_sum (hW : WinOk N E) {e : Nat} (he : e < 2 * E.length) : corner N E g e = topU N E g (ptN N E e) + sumI (fun d => if fromN E d = fromN E e ∧ (d = e ∨ ltD N E (fromN E e) d e = true) then g d else 0) (2 * E.length) := by
  unfold corner
  rw [take_sum g (hW.around_pair _) (fun x hx y hy h => hW.lt_asymm (around_mem.1 hx).1 (around_mem.1 hy).1 (around_mem.1 hx).2 (around_mem.1 hy).2 h) (around_nodup N E _) (around_mem.2 ⟨he, rfl⟩), around_sum]
  congr 1
  refine sumI_congr _ fun d _ => ?_
  by_cases h1 : fromN E d = fromN E e <;> by_cases h2 : d = e ∨ ltD N E (fromN E e) d e = true <;> simp [h1, h2]
theorem WinOk.U_at (hW : WinOk N E) {d : Nat} (hd : d < 2 * E.length) (ud : upB N E d = true) (x : Int) : U N E (fun f => if f = d then x else 0) = x := by
  unfold U
  rw [sumI_one (k := d / 2) E.length (fun k _ hne => if_neg fun q => hne (by rw [← q, upD_half])), if_pos (by omega), if_pos (hW.upD_of hd ud)]
theorem not_lt_up (hW : WinOk N E) {k : Int} {d e : Nat} (hd : d < 2 * E.length) (he : e < 2 * E.length) (hk : fromN E d = k) (hk' : fromN E e = k) (h1 : upB N E d = false) (h2 : upB N E e = true) : ltD N E k d e = false ∧ ltD N E k e d = true := by
  have hp : ptN N E e = ptN N E d := by unfold ptN; rw [hk, hk']
  unfold upB at h1 h2
  rw [hp] at h2
  simp at h1 h2
  have q : ltD N E k e d = true := by
    rw [ltD_iff hW he hd hk', hp, bef_iff (hW.pt_ok hd) (hW.pt_ok (twin_lt he)) (hW.pt_ok (twin_lt hd))]
    left; omega
  exact ⟨hW.lt_asymm he hd hk' hk q, q⟩
theorem lt_same (hW : WinOk N E) {k : Int} {d e : Nat} (hd : d < 2 * E.length) (he : e < 2 * E.length) (hk : fromN E d = k) (hk' : fromN E e = k) (h : upB N E d = upB N E e) : ltD N E k d e = true ↔ 0 < turnN (ptN N E e) (ptN N E (twin d)) (ptN N E (twin e)) := by
  have hp : ptN N E e = ptN N E d := by unfold ptN; rw [hk, hk']
  unfold upB at h
  rw [hp] at h
  rw [ltD_iff hW hd he hk, hp, bef_iff (hW.pt_ok hd) (hW.pt_ok (twin_lt hd)) (hW.pt_ok (twin_lt he))]
  have := decide_eq_decide.1 h
  constructor
  · rintro (⟨h1, h2⟩ | h1)
    · exact absurd (this.1 h1) h2
    · exact h1.2
  · intro h1
    exact .inr ⟨this, h1⟩
theorem pt_from (hW : WinOk N E) {d e : Nat} (hd : d < 2 * E.length) (he : e < 2 * E.length) : fromN E d = fromN E e ↔ ptN N E d = ptN N E e := ⟨fun h => by unfold ptN; rw [h], hW.pt_inj hd he⟩
theorem WinOk.corner_lo (hW : WinOk N E) {d : Nat} (hd : d < 2 * E.length) (ud : upB N E d = true) : corner N E g d = loU N E g d + g d := by
  rw [hW.corner_sum hd, U_all N E, topU, ← U_add, loU, ← hW.U_at hd ud (g d), ← U_add]
  refine U_congr fun k hk => ?_
  have hf := upD_lt (N := N) hk
  have uf := hW.upD_up hk
  obtain ⟨f, hfe⟩ : ∃ f, upD N E k = f := ⟨_, rfl⟩
  rw [hfe] at hf uf ⊢
  have ht := twin_lt hf
  have utf : upB N E (twin f) = false := by rw [hW.up_twin hf, uf]; rfl
  have ntw : twin f ≠ d := fun q => by rw [q, ud] at utf; cases utf
  have e2 : (if fromN E (twin f) = fromN E d ∧ (twin f = d ∨ ltD N E (fromN E d) (twin f) d = true) then g (twin f) else 0) = 0 := by
    rw [if_neg]
    rintro ⟨h1, h2⟩
    rw [(not_lt_up hW ht hd h1 rfl utf ud).1] at h2
    rcases h2 with h2 | h2
    · exact ntw h2
    · cases h2
  rw [e2]
  by_cases ha : fromN E f = fromN E d
  · have hp : ptN N E f = ptN N E d := (pt_from hW hf hd).1 ha
    have hls := lt_same hW hf hd ha rfl (by rw [uf, ud])
    have k1 := up_iff.1 uf
    rw [hp] at k1
    have e3 : loB (ptN N E f) (ptN N E (twin f)) (ptN N E d) (ptN N E (twin d)) = decide (0 < turnN (ptN N E d) (ptN N E (twin f)) (ptN N E (twin d))) := by
      unfold loB
      rw [if_pos hp, hp, decide_eq_true (Int.le_refl _), decide_eq_true k1]
      rfl
    rw [e3, hp, decide_eq_false (Int.lt_irrefl _)]
    simp only [Bool.false_and, ind_false, Int.zero_mul, Int.zero_add, Int.add_zero]
    by_cases hfd : f = d
    · subst hfd
      rw [turn_same]
      simp [ind]
    · rw [if_neg hfd, Int.add_zero, ind_mul]
      by_cases q : 0 < turnN (ptN N E d) (ptN N E (twin f)) (ptN N E (twin d))
      · rw [if_pos ⟨ha, .inr (hls.2 q)⟩, decide_eq_true q, if_pos rfl]
      · rw [if_neg (fun h => h.2.elim hfd (fun z => q (hls.1 z))), decide_eq_false q, if_neg (by simp)]
  · have hp : ptN N E f ≠ ptN N E d := fun q => ha ((pt_from hW hf hd).2 q)
    have hfd : f ≠ d := fun q => ha (by rw [q])
    have e3 : loB (ptN N E f) (ptN N E (twin f)) (ptN N E d) (ptN N E (twin d)) = (decide (key (ptN N E f) < key (ptN N E d)) && (decide (key (ptN N E d) < key (ptN N E (twin f))) && decide (0 < turnN (ptN N E f) (ptN N E (twin f)) (ptN N E d)))) := by
      unfold loB
      have hk : key (ptN N E f) ≠ key (ptN N E d) := fun q => hp (key_inj (hW.pt_ok hf) (hW.pt_ok hd) q)
      have e : decide (key (ptN N E f) ≤ key (ptN N E d)) = decide (key (ptN N E f) < key (ptN N E d)) := by rw [decide_eq_decide]; omega
      rw [if_neg hp, e, Bool.and_assoc]
    rw [e3, if_neg (fun h => ha h.1), if_neg hfd]
    omega
theorem Flow.corner_hi (hg : Flow E g) (hW : WinOk N E) {d : Nat} (hd : d < 2 * E.length) (ud : upB N E d = true) : corner N E g (twin d) = hiU N E g d := by
  have hK := hg.node (fromN E (twin d))
  have htd := twin_lt hd
  have utd : upB N E (twin d) = false := by rw [hW.up_twin hd, ud]; rfl
  have e0 : corner N E g (twin d) = topU N E g (ptN N E (twin d)) + (sumI (fun x => if fromN E x = fromN E (twin d) ∧ (x = twin d ∨ ltD N E (fromN E (twin d)) x (twin d) = true) then g x else 0) (2 * E.length) - sumI (fun x => if fromN E x = fromN E (twin d) then g x else 0) (2 * E.length)) := by
    rw [hW.corner_sum htd, hK]
    omega
  rw [e0, U_all N E, U_all N E, ← U_sub, topU, ← U_add, hiU]
  clear e0 hK
  refine U_congr fun k hk => ?_
  have hf := upD_lt (N := N) hk
  have uf := hW.upD_up hk
  obtain ⟨f, hfe⟩ : ∃ f, upD N E k = f := ⟨_, rfl⟩
  rw [hfe] at hf uf ⊢
  have ht := twin_lt hf
  have utf : upB N E (twin f) = false := by rw [hW.up_twin hf, uf]; rfl
  have ntw : f ≠ twin d := fun q => by rw [q, utd] at uf; cases uf
  have e1 : (if fromN E f = fromN E (twin d) ∧ (f = twin d ∨ ltD N E (fromN E (twin d)) f (twin d) = true) then g f else 0) = if fromN E f = fromN E (twin d) then g f else 0 := by
    by_cases h : fromN E f = fromN E (twin d)
    · rw [if_pos ⟨h, .inr (not_lt_up hW htd hf rfl h utd uf).2⟩, if_pos h]
    · rw [if_neg (fun q => h q.1), if_neg h]
  rw [e1]
  have ega := hg.anti f hf
  have k1 := up_iff.1 uf
  by_cases ha : fromN E (twin f) = fromN E (twin d)
  · have hp : ptN N E (twin f) = ptN N E (twin d) := (pt_from hW ht htd).1 ha
    have hls := lt_same hW ht htd ha rfl (by rw [utf, utd])
    rw [twin_twin, twin_twin, ← hp] at hls
    rw [hp] at k1
    have e3 : hiB (ptN N E f) (ptN N E (twin f)) (ptN N E d) (ptN N E (twin d)) = decide (turnN (ptN N E d) (ptN N E (twin d)) (ptN N E f) < 0) := by
      unfold hiB
      rw [if_pos hp, hp, decide_eq_true k1, decide_eq_true (Int.le_refl _)]
      rfl
    have hrot : turnN (ptN N E (twin f)) (ptN N E f) (ptN N E d) = turnN (ptN N E d) (ptN N E (twin d)) (ptN N E f) := by rw [hp, turn_rot]
    rw [hrot] at hls
    rw [e3, hp, decide_eq_false (Int.lt_irrefl (key (ptN N E (twin d)))), if_pos ha]
    simp only [Bool.false_and, Bool.and_false, ind_false, Int.zero_mul, Int.zero_add]
    rw [ind_mul]
    by_cases hfd : twin f = twin d
    · have : f = d := by rw [← twin_twin f, hfd, twin_twin]
      subst this
      have e5 : (if fromN E (twin f) = fromN E (twin f) ∧ (twin f = twin f ∨ ltD N E (fromN E (twin f)) (twin f) (twin f) = true) then g (twin f) else 0) = g (twin f) := if_pos ⟨rfl, .inl rfl⟩
      rw [e5, turn_start]
      simp
    · have hne := hW.turn_ne ht htd hfd ha (by rw [utf, utd])
      rw [twin_twin, twin_twin, hrot] at hne
      by_cases q : 0 < turnN (ptN N E d) (ptN N E (twin d)) (ptN N E f)
      · have e5 : (if fromN E (twin f) = fromN E (twin d) ∧ (twin f = twin d ∨ ltD N E (fromN E (twin d)) (twin f) (twin d) = true) then g (twin f) else 0) = g (twin f) := if_pos ⟨ha, .inr (hls.2 q)⟩
        rw [e5, decide_eq_false (show ¬ turnN (ptN N E d) (ptN N E (twin d)) (ptN N E f) < 0 by omega)]
        simp
      · have e5 : (if fromN E (twin f) = fromN E (twin d) ∧ (twin f = twin d ∨ ltD N E (fromN E (twin d)) (twin f) (twin d) = true) then g (twin f) else 0) = 0 := if_neg (fun h => h.2.elim hfd (fun z => q (hls.1 z)))
        rw [e5, decide_eq_true (show turnN (ptN N E d) (ptN N E (twin d)) (ptN N E f) < 0 by omega)]
        simp
        omega
  · have hp : ptN N E (twin f) ≠ ptN N E (twin d) := fun q => ha ((pt_from hW ht htd).2 q)
    have e3 : hiB (ptN N E f) (ptN N E (twin f)) (ptN N E d) (ptN N E (twin d)) = (decide (key (ptN N E f) < key (ptN N E (twin d))) && (decide (key (ptN N E (twin d)) < key (ptN N E (twin f))) && decide (0 < turnN (ptN N E f) (ptN N E (twin f)) (ptN N E (twin d))))) := by
      unfold hiB
      have hk : key (ptN N E (twin f)) ≠ key (ptN N E (twin d)) := fun q => hp (key_inj (hW.pt_ok ht) (hW.pt_ok htd) q)
      have e : decide (key (ptN N E (twin d)) ≤ key (ptN N E (twin f))) = decide (key (ptN N E (twin d)) < key (ptN N E (twin f))) := by rw [decide_eq_decide]; omega
      rw [if_neg hp, e, Bool.and_assoc]
    have e5 : (if fromN E (twin f) = fromN E (twin d) ∧ (twin f = twin d ∨ ltD N E (fromN E (twin d)) (twin f) (twin d) = true) then g (twin f) else 0) = 0 := if_neg (fun h => ha h.1)
    rw [e3, e5, if_neg ha]
    omega
/-- Right of a dart lies what lies left of its twin. -/
theorem Flow.corner_twin (hg : Flow E g) (hW : WinOk N E) {d : Nat} (hd : d < 2 * E.length) : corner N E g (twin d) = corner N E g d - g d := by
  have key1 : ∀ e, e < 2 * E.length → upB N E e = true → corner N E g (twin e) = corner N E g e - g e := by
    intro e he ue
    have hk := up_iff.1 ue
    rw [hg.corner_hi hW he ue, hW.corner_lo he ue, hg.lo_mid hW he ue (t := 2 * key (ptN N E e) + 1) (by omega) (by omega) (by omega), hg.mid_hi hW he ue (t := 2 * key (ptN N E e) + 1) (by omega) (by omega) (by omega)]
    omega
  cases h : upB N E d with
  | true => exact key1 d hd h
  | false =>
    have h2 := key1 (twin d) (twin_lt hd) (by rw [hW.up_twin hd, h]; rfl)
    rw [twin_twin, hg.anti d hd] at h2
    omega
theorem idxOf_getD {l : List Nat} (hn : l.Nodup) {j : Nat} (hj : j < l.length) : l.idxOf (l.getD j 0) = j := by
  have hm := getD_mem hj
  have h1 := List.idxOf_lt_length_of_mem hm
  refine getD_inj hn h1 hj ?_
  have e : ∀ i (h : i < l.length), l.getD i 0 = l[i] := fun i h => by simp [h]
  rw [e _ h1, List.getElem_idxOf h1]
theorem take_one (g : Nat → Int) {l : List Nat} {i : Nat} (hi : i < l.length) : ((l.take (i + 1)).map g).sum = ((l.take i).map g).sum + g l[i] := by
  rw [List.take_succ_eq_append_getElem hi, List.map_append, List.sum_append_int]
  simp
/-- One face has one height. -/
theorem Flow.corner_next (hg : Flow E g) (hW : WinOk N E) {d : Nat} (hd : d < 2 * E.length) : corner N E g (nextN N E d) = corner N E g d := by
  have htd := twin_lt hd
  have hm := beside_mem (N := N) htd (-1)
  have hnd := around_mem.1 hm
  have hin : twin d ∈ aroundL N E (fromN E (twin d)) := around_mem.2 ⟨htd, rfl⟩
  have hK := hg.node (fromN E (twin d))
  rw [← around_sum N] at hK
  have hT := hg.corner_twin hW hd
  have hA := hg.anti d hd
  have hst := step_at hin (-1)
  have hnod := around_nodup N E (fromN E (twin d))
  have hpt : ptN N E (nextN N E d) = ptN N E (twin d) := by unfold ptN; unfold nextN; rw [hnd.2]
  unfold corner at hT ⊢
  rw [hpt]
  have hfr : fromN E (nextN N E d) = fromN E (twin d) := hnd.2
  rw [hfr]
  have hne : nextN N E d = (aroundL N E (fromN E (twin d))).getD ((((((aroundL N E (fromN E (twin d))).idxOf (twin d) : Nat) : Int) + -1 + (aroundL N E (fromN E (twin d))).length) % (aroundL N E (fromN E (twin d))).length).toNat) 0 := rfl
  rw [hne]
  have hg1 : (aroundL N E (fromN E (twin d)))[(aroundL N E (fromN E (twin d))).idxOf (twin d)]'(hst.1) = twin d := List.getElem_idxOf hst.1
  have ht1 := take_one g hst.1
  rw [hg1] at ht1
  obtain ⟨l, hl⟩ : ∃ l, aroundL N E (fromN E (twin d)) = l := ⟨_, rfl⟩
  rw [hl] at hK hT hst hnod ht1 ⊢
  clear hl hne hg1 hin hm hnd
  obtain ⟨i, hi⟩ : ∃ i, l.idxOf (twin d) = i := ⟨_, rfl⟩
  rw [hi] at hT hst ht1 ⊢
  rw [idxOf_getD hnod (by omega)]
  rw [ht1] at hT
  by_cases h0 : i = 0
  · subst h0
    have e : (((0 : Nat) : Int) + -1 + (l.length : Int)) % (l.length : Int) = l.length - 1 := by
      have e1 : ((0 : Nat) : Int) + -1 + (l.length : Int) = l.length - 1 := by omega
      rw [e1]
      exact Int.emod_eq_of_lt (by omega) (by omega)
    rw [e]
    have e2 : ((l.length : Int) - 1).toNat + 1 = l.length := by omega
    rw [e2, List.take_length, hK]
    simp only [List.take_zero, List.map_nil, List.sum_nil] at hT
    omega
  · have e : ((i : Int) + -1 + (l.length : Int)) % (l.length : Int) = i - 1 := by
      rw [Int.add_emod_right]
      exact (Int.emod_eq_of_lt (by omega) (by omega)).trans (by omega)
    rw [e]
    have e2 : ((i : Int) - 1).toNat + 1 = i := by omega
    rw [e2]
    omega
end
end Go.Proofs.YtabgcpoaepafjaaGreat
namespace Go.Proofs.YtabgcpoaepafjaaGreat
theorem exists_min {p : Nat → Prop} (x : Nat → Int) : ∀ n, (∃ k, k < n ∧ p k) → ∃ k, k < n ∧ p k ∧ ∀ j, j < n → p j → x k ≤ x j
  | 0, h => by obtain ⟨k, hk, _⟩ := h; omega
  | n + 1, h => by
    by_cases e : ∃ k, k < n ∧ p k
    · obtain ⟨k, h1, h2, h3⟩ := exists_min x n e
      by_cases q : p n ∧ x n < x k
      · refine ⟨n, by omega, q.1, fun j hj pj => ?_⟩
        rcases Nat.lt_or_ge j n with a | a
        · have := h3 j a pj; omega
        · have : j = n := by omega
          subst this; exact Int.le_refl _
      · refine ⟨k, by omega, h2, fun j hj pj => ?_⟩
        rcases Nat.lt_or_ge j n with a | a
        · exact h3 j a pj
        · have : j = n := by omega
          subst this
          rcases Int.lt_or_le (x j) (x k) with z | z
          · exact absurd ⟨pj, z⟩ q
          · exact z
    · obtain ⟨k, hk, pk⟩ := h
      have : k = n := by
        rcases Nat.lt_or_ge k n with a | a
        · exact absurd ⟨k, a, pk⟩ e
        · omega
      subst this
      refine ⟨k, by omega, pk, fun j hj pj => ?_⟩
      rcases Nat.lt_or_ge j k with a | a
      · exact absurd ⟨j, a, pj⟩ e
      · have : j = k := by omega
        subst this; exact Int.le_refl _
def prodI (f : Nat → Int) : Nat → Int
  | 0 => 1
  | n + 1 => prodI f n * f n
theorem prodI_pos {f : Nat → Int} : ∀ n, (∀ i, i < n → 0 < f i) → 0 < prodI f n
  | 0, _ => by show (0 : Int) < 1; decide
  | n + 1, h => Int.mul_pos (prodI_pos n fun i hi => h i (by omega)) (h n (by omega))
theorem prodI_dvd {f : Nat → Int} {k : Nat} : ∀ n, k < n → ∃ q, prodI f n = f k * q
  | 0, h => absurd h (by omega)
  | n + 1, h => by
    by_cases e : k = n
    · subst e
      exact ⟨prodI f k, Int.mul_comm _ _⟩
    · obtain ⟨q, hq⟩ := prodI_dvd (f := f) n (show k < n by omega)
      refine ⟨q * f n, ?_⟩
      show prodI f n * f n = _
      rw [hq, Int.mul_assoc]
/-- A number is the sum of the steps below it. -/
theorem steps_sum (x : Int) : ∀ H : Nat, 0 ≤ x → sumI (fun j => ind (decide ((j : Int) < x))) H = min x H
  | 0, h => by simp [sumI]; omega
  | H + 1, h => by
    simp only [sumI]
    rw [steps_sum x H h]
    unfold ind
    by_cases q : (H : Int) < x
    · simp [q]; omega
    · simp [q]; omega
/-- A sum over steps of two between two heights. -/
theorem level_sum (A B : Int) (ka kb : Nat) (h : ka < kb) : ∀ T : Nat, sumI (fun j => ind (decide (ka ≤ j) && decide (j < kb)) * (A + B * (2 * ((j : Int) - ka) + 1))) T = if T ≤ ka then 0 else A * ((min T kb : Nat) - ka) + B * (((min T kb : Nat) - ka) * ((min T kb : Nat) - ka))
  | 0 => by simp [sumI]
  | T + 1 => by
    simp only [sumI]
    rw [level_sum A B ka kb h T]
    by_cases h1 : T < ka
    · rw [if_pos (by omega), if_pos (by omega), decide_eq_false (by omega)]
      simp [ind]
    · by_cases h2 : T < kb
      · rw [decide_eq_true (by omega), decide_eq_true h2, if_neg (show ¬ T + 1 ≤ ka by omega)]
        have e1 : min (T + 1) kb = T + 1 := by omega
        rw [e1]
        by_cases h3 : T ≤ ka
        · have : T = ka := by omega
          subst this
          rw [if_pos (Nat.le_refl _)]
          simp [ind]
          grind
        · rw [if_neg h3]
          have e2 : min T kb = T := by omega
          rw [e2]
          simp only [ind, Bool.and_self, if_true]
          push_cast
          grind
      · rw [decide_eq_false h2, Bool.and_false, if_neg (show ¬ T ≤ ka by omega), if_neg (show ¬ T + 1 ≤ ka by omega)]
        have e1 : min (T + 1) kb = kb := by omega
        have e2 : min T kb = kb := by omega
        rw [e1, e2]
        simp [ind]
section
variable {N E : List P2} {g : Nat → Int}
/-- The height of a dart, doubled; all heights together. -/
def dk (N E : List P2) (f : Nat) : Int := 2 * key (ptN N E (twin f)) - 2 * key (ptN N E f)
def allK (N E : List P2) : Int := prodI (fun k => dk N E (upD N E k)) E.length
/-- Where dart f stands at height t / 2, in parts. -/
def xs (N E : List P2) (f : Nat) (t : Int) : Int := (ptN N E f).1 * allK N E + ((ptN N E (twin f)).1 - (ptN N E f).1) * (t - 2 * key (ptN N E f)) * (allK N E / dk N E f)
def cr (N E : List P2) (f : Nat) (t : Int) : Bool := decide (2 * key (ptN N E f) < t) && decide (t < 2 * key (ptN N E (twin f)))
theorem WinOk.dk_pos (hW : WinOk N E) {k : Nat} (hk : k < E.length) : 0 < dk N E (upD N E k) := by
  have := up_iff.1 (hW.upD_up hk)
  unfold dk
  omega
theorem WinOk.allK_pos (hW : WinOk N E) : 0 < allK N E := prodI_pos _ fun _ hi => hW.dk_pos hi
theorem WinOk.allK_div (hW : WinOk N E) {k : Nat} (hk : k < E.length) : allK N E / dk N E (upD N E k) * dk N E (upD N E k) = allK N E := by
  obtain ⟨q, hq⟩ := prodI_dvd (f := fun k => dk N E (upD N E k)) E.length hk
  have hp := hW.dk_pos hk
  unfold allK
  rw [hq]
  rw [Int.mul_ediv_cancel_left _ (by omega), Int.mul_comm]
theorem WinOk.xs_gap (hW : WinOk N E) {i j : Nat} (hi : i < E.length) (hj : j < E.length) (t : Int) :
    (xs N E (upD N E i) t - xs N E (upD N E j) t) * (dk N E (upD N E i) * dk N E (upD N E j)) = allK N E * gap (ptN N E (upD N E i)) (ptN N E (twin (upD N E i))) (ptN N E (upD N E j)) (ptN N E (twin (upD N E j))) t := by
  have h1 := hW.allK_div hi
  have h2 := hW.allK_div hj
  unfold xs gap
  show _ = allK N E * (((ptN N E (upD N E i)).1 * dk N E (upD N E i) + _) * dk N E (upD N E j) - (_ * dk N E (upD N E j) + _) * dk N E (upD N E i))
  generalize allK N E / dk N E (upD N E i) = p at *
  generalize allK N E / dk N E (upD N E j) = q at *
  generalize dk N E (upD N E i) = a at *
  generalize dk N E (upD N E j) = b at *
  generalize allK N E = M at *
  grind
/-- At a height one dart stands to the right of another. -/
theorem WinOk.xs_lt (hW : WinOk N E) {i j : Nat} (hi : i < E.length) (hj : j < E.length) (t : Int) : xs N E (upD N E j) t < xs N E (upD N E i) t ↔ 0 < gap (ptN N E (upD N E i)) (ptN N E (twin (upD N E i))) (ptN N E (upD N E j)) (ptN N E (twin (upD N E j))) t := by
  have h := hW.xs_gap hi hj t
  have hD := Int.mul_pos (hW.dk_pos hi) (hW.dk_pos hj)
  have hM := hW.allK_pos
  rw [Int.mul_comm (allK N E)] at h
  have s1 := sgnMul (x := xs N E (upD N E i) t - xs N E (upD N E j) t) hD
  have s2 := sgnMul (x := gap (ptN N E (upD N E i)) (ptN N E (twin (upD N E i))) (ptN N E (upD N E j)) (ptN N E (twin (upD N E j))) t) hM
  rw [h] at s1
  have := s1.1.symm.trans s2.1
  rw [← this]
  omega
theorem WinOk.xs_ne (hW : WinOk N E) {i j : Nat} (hi : i < E.length) (hj : j < E.length) (hne : i ≠ j) {t : Int} (h1 : cr N E (upD N E i) t = true) (h2 : cr N E (upD N E j) t = true) : xs N E (upD N E i) t ≠ xs N E (upD N E j) t := by
  simp only [cr, Bool.and_eq_true, decide_eq_true_eq] at h1 h2
  have hX := hW.apart (upD_lt (N := N) hi) (upD_lt (N := N) hj) (by rw [upD_half, upD_half]; exact hne)
  have hl : ¬ (ptN N E (upD N E i) = ptN N E (upD N E j) ∧ ptN N E (twin (upD N E i)) = ptN N E (twin (upD N E j))) := fun q => by
    have := hW.dart_inj (upD_lt (N := N) hi) (upD_lt (N := N) hj) (hW.pt_inj (upD_lt hi) (upD_lt hj) q.1) (hW.pt_inj (twin_lt (upD_lt hi)) (twin_lt (upD_lt hj)) q.2)
    exact hne (by rw [← upD_half N E i, this, upD_half])
  have s := side (hW.pt_ok (upD_lt hi)) (hW.pt_ok (twin_lt (upD_lt hi))) (hW.pt_ok (upD_lt hj)) (hW.pt_ok (twin_lt (upD_lt hj))) (up_iff.1 (hW.upD_up hi)) (up_iff.1 (hW.upD_up hj)) hl hX h1.1 h1.2 h2.1 h2.2
  intro e
  have h := hW.xs_gap hi hj t
  rw [e, Int.sub_self, Int.zero_mul] at h
  have hM := hW.allK_pos
  rcases Int.mul_eq_zero.1 h.symm with q | q
  · omega
  · exact s.ne q
/-- What flows up at height t / 2, from place y on. -/
def fromY (N E : List P2) (g : Nat → Int) (t y : Int) : Int := U N E fun f => ind (cr N E f t && decide (y ≤ xs N E f t)) * g f
theorem cr_mid {f d : Nat} {t : Int} : midB (ptN N E f) (ptN N E (twin f)) (ptN N E d) (ptN N E (twin d)) t = (cr N E f t && decide (0 < gap (ptN N E f) (ptN N E (twin f)) (ptN N E d) (ptN N E (twin d)) t)) := by
  unfold midB cr
  rfl
theorem Flow.fromY_right (hg : Flow E g) (hW : WinOk N E) {k : Nat} (hk : k < E.length) {t : Int} (hodd : t % 2 = 1) (hc : cr N E (upD N E k) t = true) : fromY N E g t (xs N E (upD N E k) t + 1) = corner N E g (twin (upD N E k)) ∧ fromY N E g t (xs N E (upD N E k) t) = corner N E g (upD N E k) := by
  have hd := upD_lt (N := N) hk
  have ud := hW.upD_up hk
  have hc' := hc
  simp only [cr, Bool.and_eq_true, decide_eq_true_eq] at hc'
  have e1 : fromY N E g t (xs N E (upD N E k) t + 1) = crossU N E g (upD N E k) t := by
    refine U_congr fun i hi => ?_
    rw [cr_mid, decide_eq_decide.2 (hW.xs_lt hi hk t).symm]
    rfl
  refine ⟨?_, ?_⟩
  · rw [e1, hg.corner_hi hW hd ud, hg.mid_hi hW hd ud hc'.1 hc'.2 hodd]
  · rw [hW.corner_lo hd ud, hg.lo_mid hW hd ud hc'.1 hc'.2 hodd, ← e1]
    unfold fromY
    rw [← hW.U_at hd ud (g (upD N E k)), ← U_add]
    refine U_congr fun i hi => ?_
    by_cases e : upD N E i = upD N E k
    · rw [if_pos e, e, hc, decide_eq_true (Int.le_refl _), decide_eq_false (by omega)]
      simp [ind]
    · have hne : i ≠ k := fun q => e (by rw [q])
      rw [if_neg e, Int.add_zero]
      cases hci : cr N E (upD N E i) t with
      | false => rfl
      | true =>
        have := hW.xs_ne hi hk hne hci hc
        have e2 : decide (xs N E (upD N E k) t ≤ xs N E (upD N E i) t) = decide (xs N E (upD N E k) t + 1 ≤ xs N E (upD N E i) t) := by rw [decide_eq_decide]; omega
        rw [e2]
/-- What flows up to the right of a place is the height of some corner, or nothing. -/
theorem Flow.fromY_nonneg (hg : Flow E g) (hW : WinOk N E) (hc : ∀ d, d < 2 * E.length → 0 ≤ corner N E g d) {t : Int} (hodd : t % 2 = 1) (y : Int) : 0 ≤ fromY N E g t y := by
  by_cases e : ∃ k, k < E.length ∧ (cr N E (upD N E k) t = true ∧ y ≤ xs N E (upD N E k) t)
  · obtain ⟨k, hk, ⟨h1, h2⟩, h3⟩ := exists_min (fun k => xs N E (upD N E k) t) _ e
    have h := (hg.fromY_right hW hk hodd h1).2
    have e2 : fromY N E g t y = fromY N E g t (xs N E (upD N E k) t) := by
      refine U_congr fun i hi => ?_
      cases hci : cr N E (upD N E i) t with
      | false => rfl
      | true =>
        have : decide (y ≤ xs N E (upD N E i) t) = decide (xs N E (upD N E k) t ≤ xs N E (upD N E i) t) := by
          rw [decide_eq_decide]
          exact ⟨fun q => h3 i hi ⟨hci, q⟩, fun q => by omega⟩
        rw [this]
    rw [e2, h]
    exact hc _ (upD_lt hk)
  · have e2 : fromY N E g t y = 0 := by
      have : fromY N E g t y = U N E fun _ => 0 := by
        refine U_congr fun i hi => ?_
        have : (cr N E (upD N E i) t && decide (y ≤ xs N E (upD N E i) t)) = false := by
          cases hci : cr N E (upD N E i) t with
          | false => rfl
          | true =>
            rw [Bool.true_and, decide_eq_false]
            intro q
            exact e ⟨i, hi, hci, q⟩
        rw [this]
        simp [ind]
      rw [this]
      exact sumI_zero _
    omega
/-- All that flows up at a height is nothing. -/
theorem Flow.level_zero (hg : Flow E g) (hW : WinOk N E) {t : Int} (hodd : t % 2 = 1) : U N E (fun f => ind (cr N E f t) * g f) = 0 := by
  have h := hg.phi hW fun i => ind (decide (2 * key (at2 N i) < t))
  rw [← h]
  refine U_congr fun k hk => ?_
  have uk := up_iff.1 (hW.upD_up hk)
  show _ = g _ * (ind (decide (2 * key (ptN N E (upD N E k)) < t)) - ind (decide (2 * key (ptN N E (twin (upD N E k))) < t)))
  rw [Int.mul_comm]
  congr 1
  unfold cr
  by_cases h1 : 2 * key (ptN N E (upD N E k)) < t <;> by_cases h2 : t < 2 * key (ptN N E (twin (upD N E k)))
  · rw [decide_eq_true h1, decide_eq_true h2, decide_eq_false (show ¬ 2 * key (ptN N E (twin (upD N E k))) < t by omega)]; rfl
  · rw [decide_eq_true h1, decide_eq_false h2, decide_eq_true (show 2 * key (ptN N E (twin (upD N E k))) < t by omega)]; rfl
  · rw [decide_eq_false h1, decide_eq_true h2, decide_eq_false (show ¬ 2 * key (ptN N E (twin (upD N E k))) < t by omega)]; rfl
  · omega
def rowU (N E : List P2) (g : Nat → Int) (t : Int) : Int := U N E fun f => ind (cr N E f t) * g f * xs N E f t
def bndX (N E : List P2) (t : Int) : Int := sumI (fun k => ((xs N E (upD N E k) t).natAbs : Int)) E.length
theorem bndX_le {t : Int} {k : Nat} (hk : k < E.length) : - bndX N E t ≤ xs N E (upD N E k) t ∧ xs N E (upD N E k) t ≤ bndX N E t := by
  have key1 : ∀ n, k < n → ((xs N E (upD N E k) t).natAbs : Int) ≤ sumI (fun k => ((xs N E (upD N E k) t).natAbs : Int)) n := by
    intro n
    induction n with
    | zero => intro h; omega
    | succ n ih =>
      intro h
      simp only [sumI]
      by_cases e : k = n
      · subst e
        have := sumI_nonneg (f := fun k => ((xs N E (upD N E k) t).natAbs : Int)) k fun i _ => by omega
        omega
      · have := ih (by omega)
        omega
  have := key1 _ hk
  unfold bndX
  omega
theorem U_mulc (c : Int) (F : Nat → Int) : U N E (fun d => c * F d) = c * U N E F := sumI_mul _ _ _
/-- The sum at a height, place by place. -/
theorem Flow.row_sum (hg : Flow E g) (hW : WinOk N E) {t : Int} (hodd : t % 2 = 1) : rowU N E g t = sumI (fun j : Nat => fromY N E g t (- bndX N E t - 1 + (j : Int) + 1)) (2 * bndX N E t + 3).toNat := by
  have hB : 0 ≤ bndX N E t := sumI_nonneg _ fun i _ => by omega
  have e1 : rowU N E g t = U N E fun f => ind (cr N E f t) * g f * (xs N E f t - (- bndX N E t - 1)) := by
    have hz := hg.level_zero hW hodd
    have h2 := U_mulc (N := N) (E := E) (- bndX N E t - 1) (fun f => ind (cr N E f t) * g f)
    rw [hz, Int.mul_zero] at h2
    have h3 := U_sub N E (fun f => ind (cr N E f t) * g f * xs N E f t) (fun f => (- bndX N E t - 1) * (ind (cr N E f t) * g f))
    rw [h2, Int.sub_zero] at h3
    unfold rowU
    rw [← h3]
    refine U_congr fun k _ => ?_
    rw [Int.mul_sub, Int.mul_comm (- bndX N E t - 1)]
  rw [e1]
  unfold fromY U
  rw [sumI_swap]
  refine sumI_congr _ fun k hk => ?_
  have hb := bndX_le (N := N) (t := t) hk
  have hs := steps_sum (xs N E (upD N E k) t - (- bndX N E t - 1)) (2 * bndX N E t + 3).toNat (by omega)
  have e2 : min (xs N E (upD N E k) t - (- bndX N E t - 1)) (((2 * bndX N E t + 3).toNat : Nat) : Int) = xs N E (upD N E k) t - (- bndX N E t - 1) := by omega
  rw [e2] at hs
  show ind (cr N E (upD N E k) t) * g (upD N E k) * (xs N E (upD N E k) t - (- bndX N E t - 1)) = sumI (fun i : Nat => ind (cr N E (upD N E k) t && decide (- bndX N E t - 1 + (i : Int) + 1 ≤ xs N E (upD N E k) t)) * g (upD N E k)) _
  rw [← hs, ← sumI_mul]
  refine sumI_congr _ fun j _ => ?_
  have e3 : decide ((j : Int) < xs N E (upD N E k) t - (- bndX N E t - 1)) = decide (- bndX N E t - 1 + (j : Int) + 1 ≤ xs N E (upD N E k) t) := by rw [decide_eq_decide]; omega
  rw [e3]
  cases cr N E (upD N E k) t <;> cases decide (- bndX N E t - 1 + (j : Int) + 1 ≤ xs N E (upD N E k) t) <;> simp [ind]
/-- The area within a flow, doubled. -/
def areaU (N E : List P2) (g : Nat → Int) : Int := U N E fun f => g f * cross2 N E f
theorem key_in {p : P2} (h : nodeOk p = true) : 0 ≤ key p ∧ key p ≤ 440 := by
  rw [nodeOk_iff] at h
  unfold key
  omega
theorem WinOk.xs_level (hW : WinOk N E) {k : Nat} (hk : k < E.length) : 2 * sumI (fun j : Nat => ind (cr N E (upD N E k) (2 * (j : Int) + 1)) * xs N E (upD N E k) (2 * (j : Int) + 1)) 441 = allK N E * (((ptN N E (upD N E k)).1 + (ptN N E (twin (upD N E k))).1) * (key (ptN N E (twin (upD N E k))) - key (ptN N E (upD N E k)))) := by
  have hd := upD_lt (N := N) hk
  have uk := up_iff.1 (hW.upD_up hk)
  have ha := key_in (hW.pt_ok hd)
  have hb := key_in (hW.pt_ok (twin_lt hd))
  have hdv := hW.allK_div hk
  obtain ⟨f, hf⟩ : ∃ f, upD N E k = f := ⟨_, rfl⟩
  rw [hf] at hd uk ha hb hdv ⊢
  obtain ⟨ka, hka⟩ := Int.eq_ofNat_of_zero_le ha.1
  obtain ⟨kb, hkb⟩ := Int.eq_ofNat_of_zero_le hb.1
  have h := level_sum ((ptN N E f).1 * allK N E) (((ptN N E (twin f)).1 - (ptN N E f).1) * (allK N E / dk N E f)) ka kb (by omega) 441
  have e1 : sumI (fun j : Nat => ind (cr N E f (2 * (j : Int) + 1)) * xs N E f (2 * (j : Int) + 1)) 441 = sumI (fun j => ind (decide (ka ≤ j) && decide (j < kb)) * ((ptN N E f).1 * allK N E + ((ptN N E (twin f)).1 - (ptN N E f).1) * (allK N E / dk N E f) * (2 * ((j : Int) - ka) + 1))) 441 := by
    refine sumI_congr _ fun j _ => ?_
    have q1 : cr N E f (2 * (j : Int) + 1) = (decide (ka ≤ j) && decide (j < kb)) := by
      unfold cr
      have r1 : decide (2 * key (ptN N E f) < 2 * (j : Int) + 1) = decide (ka ≤ j) := by rw [decide_eq_decide]; omega
      have r2 : decide (2 * (j : Int) + 1 < 2 * key (ptN N E (twin f))) = decide (j < kb) := by rw [decide_eq_decide]; omega
      rw [r1, r2]
    have q2 : xs N E f (2 * (j : Int) + 1) = (ptN N E f).1 * allK N E + ((ptN N E (twin f)).1 - (ptN N E f).1) * (allK N E / dk N E f) * (2 * ((j : Int) - ka) + 1) := by
      unfold xs
      rw [hka]
      have r : 2 * (j : Int) + 1 - 2 * (ka : Int) = 2 * ((j : Int) - ka) + 1 := by omega
      rw [r]
      generalize 2 * ((j : Int) - ka) + 1 = z
      generalize allK N E / dk N E f = q
      grind
    rw [q1, q2]
  rw [e1, h, if_neg (by omega)]
  have e2 : min 441 kb = kb := by omega
  rw [e2, hka, hkb]
  have hD : dk N E f = 2 * ((kb : Int) - ka) := by unfold dk; rw [hka, hkb]; omega
  rw [hD] at hdv ⊢
  generalize allK N E / (2 * ((kb : Int) - ka)) = q at *
  generalize allK N E = M at *
  generalize (kb : Int) - ka = n at *
  grind
theorem Flow.area_rows (hg : Flow E g) (hW : WinOk N E) : allK N E * (21 * areaU N E g) = 2 * sumI (fun j : Nat => rowU N E g (2 * (j : Int) + 1)) 441 := by
  have h := hg.phi hW fun i => (at2 N i).1 * key (at2 N i)
  have e1 : 21 * areaU N E g = U N E fun f => g f * (((ptN N E f).1 + (ptN N E (twin f)).1) * (key (ptN N E (twin f)) - key (ptN N E f))) := by
    have h2 := U_add N E (fun f => 21 * (g f * cross2 N E f)) (fun d => - (g d * ((at2 N (fromN E d)).1 * key (at2 N (fromN E d)) - (at2 N (fromN E (twin d))).1 * key (at2 N (fromN E (twin d))))))
    rw [U_neg, h, U_mulc] at h2
    unfold areaU
    rw [← Int.add_zero (21 * _)]
    rw [show (0 : Int) = -0 from rfl, ← h2]
    refine U_congr fun k _ => ?_
    unfold cross2 ptN key
    grind
  rw [e1, ← U_mulc]
  unfold rowU U
  rw [sumI_swap, ← sumI_mul]
  refine sumI_congr _ fun k hk => ?_
  have hx := hW.xs_level hk
  have e2 : (fun j : Nat => ind (cr N E (upD N E k) (2 * (j : Int) + 1)) * g (upD N E k) * xs N E (upD N E k) (2 * (j : Int) + 1)) = fun j : Nat => g (upD N E k) * (ind (cr N E (upD N E k) (2 * (j : Int) + 1)) * xs N E (upD N E k) (2 * (j : Int) + 1)) := by
    funext j
    grind
  rw [e2, sumI_mul]
  grind
/-- A flow with no height below 0 goes round an area; if some height is above 0, the area is. -/
theorem Flow.area_nonneg (hg : Flow E g) (hW : WinOk N E) (hc : ∀ d, d < 2 * E.length → 0 ≤ corner N E g d) : 0 ≤ areaU N E g := by
  have h := hg.area_rows hW
  have hM := hW.allK_pos
  have hr : ∀ j : Nat, 0 ≤ rowU N E g (2 * (j : Int) + 1) := fun j => by
    rw [hg.row_sum hW (by omega)]
    exact sumI_nonneg _ fun i _ => hg.fromY_nonneg hW hc (by omega) _
  have hs := sumI_nonneg (f := fun j : Nat => rowU N E g (2 * (j : Int) + 1)) 441 fun j _ => hr j
  rcases Int.lt_or_le (areaU N E g) 0 with q | q
  · have := pn hM (show 21 * areaU N E g < 0 by omega)
    omega
  · exact q
theorem Flow.area_pos (hg : Flow E g) (hW : WinOk N E) (hc : ∀ d, d < 2 * E.length → 0 ≤ corner N E g d) {d : Nat} (hd : d < 2 * E.length) (hp : 0 < corner N E g d) : 0 < areaU N E g := by
  have h := hg.area_rows hW
  have hM := hW.allK_pos
  have hr : ∀ j : Nat, 0 ≤ rowU N E g (2 * (j : Int) + 1) := fun j => by
    rw [hg.row_sum hW (by omega)]
    exact sumI_nonneg _ fun i _ => hg.fromY_nonneg hW hc (by omega) _
  have hk : d / 2 < E.length := by omega
  have hdl := upD_lt (N := N) hk
  have uk := up_iff.1 (hW.upD_up hk)
  have ha := key_in (hW.pt_ok hdl)
  have hb := key_in (hW.pt_ok (twin_lt hdl))
  have hj : ((key (ptN N E (upD N E (d / 2)))).toNat : Int) = key (ptN N E (upD N E (d / 2))) := Int.toNat_of_nonneg ha.1
  have hx := bndX_le (N := N) (t := 2 * ((key (ptN N E (upD N E (d / 2)))).toNat : Int) + 1) hk
  have hf := hg.fromY_right hW hk (t := 2 * ((key (ptN N E (upD N E (d / 2)))).toNat : Int) + 1) (by omega) (by unfold cr; simp; omega)
  have hrow := hg.row_sum hW (t := 2 * ((key (ptN N E (upD N E (d / 2)))).toNat : Int) + 1) (by omega)
  have hpos : 0 < rowU N E g (2 * ((key (ptN N E (upD N E (d / 2)))).toNat : Int) + 1) := by
    rw [hrow]
    have hor : corner N E g (upD N E (d / 2)) = corner N E g d ∨ corner N E g (twin (upD N E (d / 2))) = corner N E g d := by
      unfold upD
      split
      · rcases Nat.mod_two_eq_zero_or_one d with q | q
        · left; congr 1; omega
        · right; congr 1; rw [twin_even]; omega
      · rcases Nat.mod_two_eq_zero_or_one d with q | q
        · right; congr 1; rw [twin_odd]; omega
        · left; congr 1; omega
    obtain ⟨t, ht⟩ : ∃ t, 2 * ((key (ptN N E (upD N E (d / 2)))).toNat : Int) + 1 = t := ⟨_, rfl⟩
    have hto : t % 2 = 1 := by omega
    rw [ht] at hx hf ⊢
    obtain ⟨x, hxx⟩ : ∃ x, xs N E (upD N E (d / 2)) t = x := ⟨_, rfl⟩
    rw [hxx] at hx hf
    rcases hor with q | q
    · refine sumI_pos (k := (x + bndX N E t).toNat) _ (fun i _ => hg.fromY_nonneg hW hc hto _) (by omega) ?_
      have e : - bndX N E t - 1 + (((x + bndX N E t).toNat : Nat) : Int) + 1 = x := by omega
      rw [e, hf.2, q]
      exact hp
    · refine sumI_pos (k := (x + bndX N E t + 1).toNat) _ (fun i _ => hg.fromY_nonneg hW hc hto _) (by omega) ?_
      have e : - bndX N E t - 1 + (((x + bndX N E t + 1).toNat : Nat) : Int) + 1 = x + 1 := by omega
      rw [e, hf.1, q]
      exact hp
  have hs := sumI_pos (f := fun j : Nat => rowU N E g (2 * (j : Int) + 1)) (k := (key (ptN N E (upD N E (d / 2)))).toNat) 441 (fun j _ => hr j) (by omega) hpos
  refine pos_of (x := areaU N E g) (A := 21 * allK N E) (by omega) rfl ?_
  have : areaU N E g * (21 * allK N E) = allK N E * (21 * areaU N E g) := by grind
  omega
end
end Go.Proofs.YtabgcpoaepafjaaGreat
namespace Go.Proofs.YtabgcpoaepafjaaGreat
theorem facesTo_closed {f : Nat → Nat} {m : Nat} (h : Inj f m) : ∀ n, n ≤ m → ∀ l ∈ facesTo f m n, ∀ e ∈ l, f e ∈ l
  | 0, _, l, hl, _, _ => by simp [facesTo] at hl
  | n + 1, hn, l, hl, e, he => by
    simp only [facesTo] at hl
    split at hl
    · exact facesTo_closed h n (by omega) l hl e he
    · rcases List.mem_append.1 hl with hl | hl
      · exact facesTo_closed h n (by omega) l hl e he
      · have q : l = walkL f m n := by simpa using hl
        subst q
        exact (h.walk_facts (show n < m by omega)).2.2.2.1 e he
theorem sideTo_mem {F : List (List Nat)} {d : Nat} : ∀ n, (∃ j, j < n ∧ d ∈ F.getD j []) → d ∈ F.getD (sideTo F d n) [] ∧ sideTo F d n < n
  | 0, h => by obtain ⟨j, hj, _⟩ := h; omega
  | n + 1, h => by
    simp only [sideTo]
    split
    · rename_i q; exact ⟨q, by omega⟩
    · rename_i q
      obtain ⟨j, hj, hd⟩ := h
      have := sideTo_mem n ⟨j, by
        rcases Nat.lt_or_ge j n with a | a
        · exact a
        · have : j = n := by omega
          subst this
          exact absurd hd q, hd⟩
      exact ⟨this.1, by omega⟩
theorem flat_apart : ∀ {F : List (List Nat)}, F.flatten.Nodup → ∀ {i j d : Nat}, d ∈ F.getD i [] → d ∈ F.getD j [] → i = j
  | [], _, i, j, d, h, _ => by simp at h
  | l :: F, hn, i, j, d, h1, h2 => by
    rw [List.flatten_cons, List.nodup_append] at hn
    have inF : ∀ k, d ∈ F.getD k [] → d ∈ F.flatten := fun k hk => by
      by_cases hl : k < F.length
      · have e : F.getD k [] = F[k] := by simp [hl]
        rw [e] at hk
        exact List.mem_flatten.2 ⟨_, List.getElem_mem hl, hk⟩
      · have e : F.getD k [] = [] := by simp [List.getD, List.getElem?_eq_none (by omega : F.length ≤ k)]
        rw [e] at hk
        cases hk
    cases i with
    | zero =>
      cases j with
      | zero => rfl
      | succ j => exact absurd rfl (hn.2.2 d h1 d (inF j h2))
    | succ i =>
      cases j with
      | zero => exact absurd rfl (hn.2.2 d h2 d (inF i h1))
      | succ j => rw [flat_apart hn.2.1 h1 h2]
/-- The face left of dart d. -/
def sf (N E : List P2) (d : Nat) : Nat := sideTo (facesL N E) d (facesL N E).length
section
variable {N E : List P2}
theorem sf_mem {d : Nat} (hd : d < 2 * E.length) : d ∈ (facesL N E).getD (sf N E d) [] ∧ sf N E d < (facesL N E).length := by
  have h := ((next_inj N E).faces _ (Nat.le_refl _)).2.2.2.1 d hd
  obtain ⟨l, hl, hdl⟩ := List.mem_flatten.1 h
  obtain ⟨j, hj, rfl⟩ := List.getElem_of_mem hl
  exact sideTo_mem _ ⟨j, hj, by simp [facesL, hj]; exact hdl⟩
theorem sf_uniq {d k : Nat} (hd : d < 2 * E.length) (h : d ∈ (facesL N E).getD k []) : sf N E d = k :=
  flat_apart ((next_inj N E).faces _ (Nat.le_refl _)).1 (sf_mem hd).1 h
theorem sf_next {d : Nat} (hd : d < 2 * E.length) : sf N E (nextN N E d) = sf N E d := by
  have h := sf_mem (N := N) hd
  refine sf_uniq ((next_inj N E).lt d hd) ?_
  have e : (facesL N E).getD (sf N E d) [] = (facesL N E)[sf N E d]'h.2 := by simp [h.2]
  rw [e] at h ⊢
  exact facesTo_closed (next_inj N E) _ (Nat.le_refl _) _ (List.getElem_mem _) d h.1
theorem sf_some {k : Nat} (hk : k < (facesL N E).length) : ∃ d, d < 2 * E.length ∧ sf N E d = k := by
  have h := (next_inj N E).faces _ (Nat.le_refl _)
  have hm := List.getElem_mem hk
  have hne := (h.2.2.2.2.2 _ hm).1
  cases hl : (facesL N E)[k] with
  | nil => exact absurd hl hne
  | cons d t =>
    have hd : d ∈ (facesL N E)[k] := by rw [hl]; simp
    have hlt := h.2.1 d (List.mem_flatten.2 ⟨_, hm, hd⟩)
    exact ⟨d, hlt, sf_uniq hlt (by simpa [hk] using hd)⟩
theorem nodup_of_flat : ∀ {F : List (List Nat)}, F.flatten.Nodup → ∀ l ∈ F, l.Nodup
  | [], _, l, h => by cases h
  | a :: F, hn, l, h => by
    rw [List.flatten_cons, List.nodup_append] at hn
    rcases List.mem_cons.1 h with rfl | h
    · exact hn.1
    · exact nodup_of_flat hn.2.1 l h
/-- The area of a face is a sum over its darts. -/
theorem area_face {k : Nat} (hk : k < (facesL N E).length) : areaL N E ((facesL N E).getD k []) = sumI (fun d => if sf N E d = k then cross2 N E d else 0) (2 * E.length) := by
  have h := (next_inj N E).faces _ (Nat.le_refl _)
  have hm := List.getElem_mem hk
  have e : (facesL N E).getD k [] = (facesL N E)[k] := by simp [hk]
  have hp : ((facesL N E).getD k []).Perm ((List.range (2 * E.length)).filter fun d => sf N E d == k) := by
    refine (List.perm_ext_iff_of_nodup ?_ ((List.nodup_range).filter _)).2 fun d => ?_
    · rw [e]; exact nodup_of_flat h.1 _ hm
    · simp only [List.mem_filter, List.mem_range, beq_iff_eq]
      constructor
      · intro hd
        have hlt := h.2.1 d (List.mem_flatten.2 ⟨_, hm, by rw [e] at hd; exact hd⟩)
        exact ⟨hlt, sf_uniq hlt hd⟩
      · rintro ⟨hd, rfl⟩
        exact (sf_mem hd).1
  unfold areaL
  rw [sum_perm (hp.map _), sum_filter, sumI_range]
  refine sumI_congr _ fun d _ => ?_
  simp
/-- The flow round face k. -/
def fFlow (N E : List P2) (k d : Nat) : Int := ind (decide (sf N E d = k)) - ind (decide (sf N E (twin d) = k))
theorem cross2_anti (d : Nat) : cross2 N E (twin d) = - cross2 N E d := by
  unfold cross2
  rw [twin_twin]
  grind
theorem area_flow {k : Nat} (hk : k < (facesL N E).length) : areaL N E ((facesL N E).getD k []) = areaU N E (fFlow N E k) := by
  rw [area_face hk, U_all N E]
  refine U_congr fun i _ => ?_
  obtain ⟨f, hf⟩ : ∃ f, upD N E i = f := ⟨_, rfl⟩
  rw [hf]
  show (if sf N E f = k then cross2 N E f else 0) + (if sf N E (twin f) = k then cross2 N E (twin f) else 0) = fFlow N E k f * cross2 N E f
  rw [cross2_anti]
  unfold fFlow ind
  by_cases h1 : sf N E f = k <;> by_cases h2 : sf N E (twin f) = k <;> simp [h1, h2] <;> omega
theorem step_back {l : List Nat} (hn : l.Nodup) {d : Nat} (hd : d ∈ l) : stepIn l (stepIn l d 1) (-1) = d := by
  have h := step_at hd 1
  have hi := List.getElem_idxOf h.1
  obtain ⟨i, hie⟩ : ∃ i, l.idxOf d = i := ⟨_, rfl⟩
  unfold stepIn
  rw [idxOf_getD hn (by omega)]
  rw [hie] at h ⊢
  have e0 : ((((i : Int) + 1 + l.length) % l.length).toNat : Int) = ((i : Int) + 1 + l.length) % l.length := Int.toNat_of_nonneg h.2.1
  rw [e0]
  have e1 : ((((i : Int) + 1 + l.length) % l.length + -1 + l.length) % l.length).toNat = i := by
    rw [Int.add_emod_right (i + 1 : Int)]
    by_cases q : i + 1 = l.length
    · have : (i : Int) + 1 = l.length := by omega
      rw [this, Int.emod_self]
      have e2 : ((0 : Int) + -1 + l.length) = l.length - 1 := by omega
      rw [e2, Int.emod_eq_of_lt (by omega) (by omega)]
      omega
    · rw [Int.emod_eq_of_lt (a := (i : Int) + 1) (by omega) (by omega), Int.add_emod_right, Int.emod_eq_of_lt (by omega) (by omega)]
      omega
  rw [e1]
  have : l.getD i 0 = l[i] := by simp [h.1]
  rw [this]
  simp only [hie] at hi
  exact hi
theorem rot_perm {l : List Nat} (hn : l.Nodup) : (l.map fun d => stepIn l d (-1)).Perm l := by
  refine (List.perm_ext_iff_of_nodup ?_ hn).2 fun d => ?_
  · rw [List.nodup_iff_pairwise_ne, List.pairwise_map]
    refine List.Pairwise.imp_of_mem ?_ (List.nodup_iff_pairwise_ne.1 hn)
    intro a b ha hb hne q
    exact hne (step_inj hn ha hb q)
  · constructor
    · intro h
      obtain ⟨e, he, rfl⟩ := List.mem_map.1 h
      exact step_mem he _
    · intro h
      exact List.mem_map.2 ⟨stepIn l d 1, step_mem h _, step_back hn h⟩
theorem next_twin (N E : List P2) (d : Nat) : nextN N E (twin d) = stepIn (aroundL N E (fromN E d)) d (-1) := by
  unfold nextN besideN
  rw [twin_twin]
theorem face_flow (k : Nat) : Flow E (fFlow N E k) where
  anti d _ := by unfold fFlow; rw [twin_twin]; omega
  node i := by
    rw [← around_sum N]
    have hm : ∀ d ∈ aroundL N E i, fFlow N E k d = ind (decide (sf N E d = k)) + - ind (decide (sf N E (stepIn (aroundL N E i) d (-1)) = k)) := fun d hd => by
      have h := around_mem.1 hd
      unfold fFlow
      rw [← h.2, ← next_twin, sf_next (twin_lt h.1)]
      omega
    rw [List.map_congr_left hm]
    have e : ∀ (l : List Nat) (a b : Nat → Int), (l.map fun d => a d + - b d).sum = (l.map a).sum - (l.map b).sum := by
      intro l a b
      induction l with
      | nil => rfl
      | cons x l ih => simp only [List.map_cons, List.sum_cons, ih]; omega
    rw [e (aroundL N E i) (fun d => ind (decide (sf N E d = k))) (fun d => ind (decide (sf N E (stepIn (aroundL N E i) d (-1)) = k)))]
    have hp := sum_perm ((rot_perm (around_nodup N E i)).map fun d => ind (decide (sf N E d = k)))
    rw [List.map_map] at hp
    have e2 : (fun d => ind (decide (sf N E (stepIn (aroundL N E i) d (-1)) = k))) = (fun d => ind (decide (sf N E d = k))) ∘ fun d => stepIn (aroundL N E i) d (-1) := rfl
    rw [e2, hp]
    omega
/-- What turns neither along a walk nor at a lead is one for all darts of a whole window. -/
theorem same_node {φ : Nat → Int} (hn : ∀ d, d < 2 * E.length → φ (nextN N E d) = φ d) (ht : ∀ d, d < 2 * E.length → φ (twin d) = φ d) {d e : Nat} (hd : d < 2 * E.length) (he : e < 2 * E.length) (hf : fromN E d = fromN E e) : φ d = φ e := by
  obtain ⟨l, hl⟩ : ∃ l, aroundL N E (fromN E d) = l := ⟨_, rfl⟩
  have hnod : l.Nodup := hl ▸ around_nodup N E _
  have hmem : ∀ x ∈ l, x < 2 * E.length ∧ fromN E x = fromN E d := fun x hx => by rw [← hl] at hx; exact around_mem.1 hx
  have hst : ∀ x ∈ l, φ (stepIn l x (-1)) = φ x := fun x hx => by
    have h := hmem x hx
    rw [← hl, ← h.2, ← next_twin, hn _ (twin_lt h.1), ht _ h.1]
  have hall : ∀ i, i < l.length → φ (l.getD i 0) = φ (l.getD 0 0) := by
    intro i
    induction i with
    | zero => intro _; rfl
    | succ i ih =>
      intro hi
      have hm := getD_mem hi
      have h := hst _ hm
      unfold stepIn at h
      rw [idxOf_getD hnod hi] at h
      have e : ((((i + 1 : Nat) : Int) + -1 + l.length) % l.length).toNat = i := by
        rw [Int.add_emod_right, Int.emod_eq_of_lt (by omega) (by omega)]
        omega
      rw [e] at h
      rw [← h]
      exact ih (by omega)
  have hin : ∀ x ∈ l, φ x = φ (l.getD 0 0) := fun x hx => by
    obtain ⟨i, hi, rfl⟩ := List.getElem_of_mem hx
    have := hall i hi
    simpa [hi] using this
  rw [hin d (by rw [← hl]; exact around_mem.2 ⟨hd, rfl⟩), hin e (by rw [← hl]; exact around_mem.2 ⟨he, hf.symm⟩)]
theorem dart_of_joined (hW : WinOk N E) {i j : Nat} (h : joinedE E i j) : ∃ d, d < 2 * E.length ∧ fromN E d = i ∧ fromN E (twin d) = j := by
  obtain ⟨k, hk, h⟩ := h
  have h1 := (leadOk_iff.1 (hW.leads k hk).1).1
  have e1 : fromN E (2 * k) = (at2 E k).1 := by unfold fromN; rw [if_pos (by omega), show 2 * k / 2 = k by omega]
  have e2 : fromN E (2 * k + 1) = (at2 E k).2 := by unfold fromN; rw [if_neg (by omega), show (2 * k + 1) / 2 = k by omega]
  rcases h with ⟨a, b⟩ | ⟨a, b⟩
  · exact ⟨2 * k, by omega, by rw [e1]; omega, by rw [twin_even, e2]; omega⟩
  · exact ⟨2 * k + 1, by omega, by rw [e2]; omega, by rw [twin_odd, e1]; omega⟩
theorem whole_dart (hW : WinOk N E) (hm : 0 < E.length) (hwh : Whole E N.length) : ∃ d, d < 2 * E.length ∧ fromN E d = 0 := by
  by_cases e : ∃ d, d < 2 * E.length ∧ fromN E d = 0
  · exact e
  · exfalso
    have h := hwh (fun i => i = 0) (fun i j hi hij => by
      obtain ⟨d, hd, h1, _⟩ := dart_of_joined hW hij
      exact absurd ⟨d, hd, by rw [h1, hi]; rfl⟩ e) rfl
    have h1 := (leadOk_iff.1 (hW.leads 0 hm).1).1
    have h2 := h (at2 E ((0 : Nat) : Int)).1.toNat (by omega)
    have h3 := h (at2 E ((0 : Nat) : Int)).2.toNat (by omega)
    omega
theorem whole_const (hW : WinOk N E) (hm : 0 < E.length) (hwh : Whole E N.length) {φ : Nat → Int} (hn : ∀ d, d < 2 * E.length → φ (nextN N E d) = φ d) (ht : ∀ d, d < 2 * E.length → φ (twin d) = φ d) {d e : Nat} (hd : d < 2 * E.length) (he : e < 2 * E.length) : φ d = φ e := by
  obtain ⟨d0, h0, h00⟩ := whole_dart hW hm hwh
  have h := hwh (fun i => ∀ d, d < 2 * E.length → fromN E d = i → φ d = φ d0) (fun i j hi hij d hd hdj => by
    obtain ⟨x, hx, h1, h2⟩ := dart_of_joined hW hij
    rw [← hi x hx h1, ← ht x hx]
    exact same_node hn ht hd (twin_lt hx) (hdj.trans h2.symm)) (fun d hd hdj => same_node hn ht hd h0 (hdj.trans h00.symm))
  have key1 : ∀ x, x < 2 * E.length → φ x = φ d0 := fun x hx => by
    have hb := hW.ends hx
    exact h (fromN E x).toNat (by omega) x hx (by omega)
  rw [key1 d hd, key1 e he]
/-- A corner at which every flow has no height. -/
theorem top_corner (hW : WinOk N E) (hm : 0 < E.length) : ∃ d, d < 2 * E.length ∧ ∀ g, Flow E g → corner N E g d = 0 := by
  obtain ⟨x, hx, _, hmax⟩ := exists_min (p := fun _ => True) (fun d => - key (ptN N E d)) (2 * E.length) ⟨0, by omega, trivial⟩
  have hin : x ∈ aroundL N E (fromN E x) := around_mem.2 ⟨hx, rfl⟩
  have hlen : 0 < (aroundL N E (fromN E x)).length := List.length_pos_of_mem hin
  have hnod := around_nodup N E (fromN E x)
  have hlm := getD_mem (l := aroundL N E (fromN E x)) (k := (aroundL N E (fromN E x)).length - 1) (by omega)
  have hl := around_mem.1 hlm
  refine ⟨_, hl.1, fun g hg => ?_⟩
  have hK := hg.node (fromN E x)
  rw [← around_sum N] at hK
  unfold corner
  have hpt : ptN N E ((aroundL N E (fromN E x)).getD ((aroundL N E (fromN E x)).length - 1) 0) = ptN N E x := by unfold ptN; rw [hl.2]
  rw [hpt, hl.2, idxOf_getD hnod (by omega), Nat.sub_add_cancel hlen, List.take_length, hK]
  have ht : topU N E g (ptN N E x) = U N E fun _ => 0 := by
    refine U_congr fun k hk => ?_
    have := hmax (twin (upD N E k)) (twin_lt (upD_lt hk)) trivial
    rw [decide_eq_false (show ¬ key (ptN N E x) < key (ptN N E (twin (upD N E k))) by omega)]
    simp [ind]
  rw [ht, Int.add_zero]
  exact sumI_zero _
theorem corner_neg (g : Nat → Int) (d : Nat) : corner N E (fun d => - g d) d = - corner N E g d := by
  have e : ∀ l : List Nat, (l.map fun d => - g d).sum = - (l.map g).sum := by
    intro l
    induction l with
    | nil => rfl
    | cons x l ih => simp only [List.map_cons, List.sum_cons, ih]; omega
  unfold corner
  rw [e]
  have : topU N E (fun d => - g d) (ptN N E d) = - topU N E g (ptN N E d) := by
    unfold topU
    rw [← U_neg]
    refine U_congr fun k _ => ?_
    rw [Int.mul_neg]
  rw [this]
  omega
theorem Flow.neg {g : Nat → Int} (hg : Flow E g) : Flow E fun d => - g d where
  anti d hd := by show - g (twin d) = - - g d; rw [hg.anti d hd]
  node i := by
    have h := hg.node i
    have e : (fun d => if fromN E d = i then - g d else 0) = fun d => - (if fromN E d = i then g d else 0) := by
      funext d
      split
      · rfl
      · rfl
    rw [e, sumI_neg, h]
    rfl
theorem areaU_neg (g : Nat → Int) : areaU N E (fun d => - g d) = - areaU N E g := by
  unfold areaU
  rw [← U_neg]
  refine U_congr fun k _ => ?_
  rw [Int.neg_mul]
/-- The height of the flow round a face in the corners of all faces. -/
theorem face_corner (hW : WinOk N E) (hm : 0 < E.length) (hwh : Whole E N.length) : ∃ k0, k0 < (facesL N E).length ∧ ∀ k d, d < 2 * E.length → corner N E (fFlow N E k) d = ind (decide (sf N E d = k)) - ind (decide (k0 = k)) := by
  obtain ⟨x, hx, hz⟩ := top_corner hW hm
  refine ⟨sf N E x, (sf_mem hx).2, fun k d hd => ?_⟩
  have hF := face_flow (N := N) (E := E) k
  have h := whole_const hW hm hwh (φ := fun d => corner N E (fFlow N E k) d - ind (decide (sf N E d = k))) (fun d hd => by
    show corner N E (fFlow N E k) (nextN N E d) - ind (decide (sf N E (nextN N E d) = k)) = _
    rw [hF.corner_next hW hd, sf_next hd]) (fun d hd => by
    show corner N E (fFlow N E k) (twin d) - ind (decide (sf N E (twin d) = k)) = corner N E (fFlow N E k) d - ind (decide (sf N E d = k))
    rw [hF.corner_twin hW hd]
    unfold fFlow
    omega) hd hx
  have h0 := hz _ hF
  simp only [h0] at h
  omega
/-- One face is the outer one: all others have an area above 0, it has none above 0, and below 0 if there is another. -/
theorem outer_one (hW : WinOk N E) (hm : 0 < E.length) (hwh : Whole E N.length) : ∃ k0, k0 < (facesL N E).length ∧ (∀ k, k < (facesL N E).length → k ≠ k0 → 0 < areaL N E ((facesL N E).getD k [])) ∧ areaL N E ((facesL N E).getD k0 []) ≤ 0 ∧ (1 < (facesL N E).length → areaL N E ((facesL N E).getD k0 []) < 0) := by
  obtain ⟨k0, hk0, hc⟩ := face_corner hW hm hwh
  refine ⟨k0, hk0, fun k hk hne => ?_, ?_, fun hl => ?_⟩
  · rw [area_flow hk]
    obtain ⟨d, hd, hdk⟩ := sf_some hk
    have e : ∀ d, d < 2 * E.length → corner N E (fFlow N E k) d = ind (decide (sf N E d = k)) := fun d hd => by
      rw [hc k d hd, decide_eq_false (show ¬ k0 = k from fun q => hne q.symm), ind_false (b := false) rfl]
      omega
    refine (face_flow k).area_pos hW (fun d hd => ?_) hd ?_
    · rw [e d hd]; unfold ind; split <;> omega
    · rw [e d hd, decide_eq_true hdk]; decide
  · have hn := (face_flow (N := N) (E := E) k0).neg.area_nonneg hW (fun d hd => by
      rw [corner_neg, hc k0 d hd, ind_true (decide_eq_true rfl)]
      unfold ind
      split <;> omega)
    rw [areaU_neg] at hn
    rw [area_flow hk0]
    omega
  · obtain ⟨k, hk, hne⟩ : ∃ k, k < (facesL N E).length ∧ k ≠ k0 := by
      by_cases q : k0 = 0
      · exact ⟨1, hl, by omega⟩
      · exact ⟨0, by omega, by omega⟩
    obtain ⟨d, hd, hdk⟩ := sf_some hk
    have hn := (face_flow (N := N) (E := E) k0).neg.area_pos hW (fun d hd => by
      rw [corner_neg, hc k0 d hd, ind_true (decide_eq_true rfl)]
      unfold ind
      split <;> omega) hd (by
      rw [corner_neg, hc k0 d hd, ind_true (decide_eq_true rfl), ind_false (decide_eq_false (by omega))]
      decide)
    rw [areaU_neg] at hn
    rw [area_flow hk0]
    omega
end
end Go.Proofs.YtabgcpoaepafjaaGreat
