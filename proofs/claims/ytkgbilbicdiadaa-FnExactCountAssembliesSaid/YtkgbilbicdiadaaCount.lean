/- Plain law on the number of orders in which panes can be set (no program in sight). No condition. -/
import Derived.Test.YtkgbilbicdiadaaPanes
set_option linter.unusedSimpArgs false
set_option linter.unusedVariables false
namespace Go.Proofs.Ytkgbilbicdiadaa

/-- Pane k may be set where the set r stands: the first one, or beside one of the set. -/
def nearB (b : Nat → Nat → Bool) (n r k : Nat) : Bool := decide (r = 0) || (List.range n).any fun i => r.testBit i && b i k
/-- In how many orders the set s is reached. -/
def ways (b : Nat → Nat → Bool) (P n s : Nat) : Nat :=
  if h : s = 0 then 1 else if s &&& P = s then ((List.range n).map fun k => if s.testBit k = true ∧ nearB b n (s - 2 ^ k) k = true then ways b P n (s - 2 ^ k) else 0).sum else 0
termination_by s
decreasing_by have := Nat.two_pow_pos k; omega
def term (b : Nat → Nat → Bool) (P n s k : Nat) : Nat := if s.testBit k = true ∧ nearB b n (s - 2 ^ k) k = true then ways b P n (s - 2 ^ k) else 0
/-- The first j of the terms of s for which p holds. -/
def sumTo (g : Nat → Nat) : Nat → Nat
  | 0 => 0
  | j + 1 => sumTo g j + g j
theorem sumTo_range (g : Nat → Nat) : ∀ j, ((List.range j).map g).sum = sumTo g j
  | 0 => rfl
  | j + 1 => by
    rw [List.range_succ, List.map_append, List.sum_append, sumTo_range g j]
    simp [sumTo]
theorem sumTo_congr {g g' : Nat → Nat} : ∀ j, (∀ k, k < j → g k = g' k) → sumTo g j = sumTo g' j
  | 0, _ => rfl
  | j + 1, h => by
    simp only [sumTo]
    rw [sumTo_congr j fun k hk => h k (by omega), h j (by omega)]
theorem sumTo_zero {g : Nat → Nat} : ∀ j, (∀ k, k < j → g k = 0) → sumTo g j = 0
  | 0, _ => rfl
  | j + 1, h => by
    simp only [sumTo]
    rw [sumTo_zero j fun k hk => h k (by omega), h j (by omega)]
theorem sumTo_le {g : Nat → Nat} {B : Nat} : ∀ j, (∀ k, k < j → g k ≤ B) → sumTo g j ≤ j * B
  | 0, _ => by simp [sumTo]
  | j + 1, h => by
    simp only [sumTo]
    have h1 := sumTo_le j fun k hk => h k (by omega)
    have h2 := h j (by omega)
    rw [Nat.succ_mul]
    omega
/-- One term more. -/
theorem sumTo_one {g g' : Nat → Nat} {i v : Nat} : ∀ j, (∀ k, k < j → k ≠ i → g' k = g k) → (i < j → g' i = g i + v) → sumTo g' j = sumTo g j + if i < j then v else 0
  | 0, _, _ => by simp [sumTo]
  | j + 1, h1, h2 => by
    simp only [sumTo]
    by_cases e : j = i
    · subst e
      rw [sumTo_congr j fun k hk => h1 k (by omega) (by omega), h2 (by omega), if_pos (by omega)]
      omega
    · rw [sumTo_one j (fun k hk hne => h1 k (by omega) hne) (fun hi => h2 (by omega)), h1 j (by omega) e]
      by_cases hi : i < j
      · rw [if_pos hi, if_pos (by omega)]; omega
      · rw [if_neg hi, if_neg (by omega)]; omega
theorem ways_zero (b : Nat → Nat → Bool) (P n : Nat) : ways b P n 0 = 1 := by rw [ways]; rfl
theorem ways_sum {b : Nat → Nat → Bool} {P n s : Nat} (h0 : s ≠ 0) (h : s &&& P = s) : ways b P n s = sumTo (term b P n s) n := by
  rw [ways, dif_neg h0, if_pos h, sumTo_range]
  rfl
theorem ways_no {b : Nat → Nat → Bool} {P n s : Nat} (h0 : s ≠ 0) (h : ¬ s &&& P = s) : ways b P n s = 0 := by
  rw [ways, dif_neg h0, if_neg h]
theorem sub_iff {s P : Nat} : s &&& P = s ↔ Sub s P := by
  constructor
  · intro h i hi
    have := congrArg (fun x => Nat.testBit x i) h
    simp only [Nat.testBit_and, hi, Bool.true_and] at this
    exact this
  · intro h
    refine Nat.eq_of_testBit_eq fun i => ?_
    rw [Nat.testBit_and]
    cases hs : s.testBit i with
    | false => rfl
    | true => rw [h i hs]; rfl
theorem less_bit {s k : Nat} (hb : s.testBit k = true) (i : Nat) : (s - 2 ^ k).testBit i = (s.testBit i && !decide (i = k)) := by
  rw [← xor_sub (bit_sub hb), Nat.testBit_xor, Nat.testBit_two_pow]
  by_cases e : k = i
  · subst e
    simp [hb]
  · have : ¬ i = k := fun q => e q.symm
    simp [e, this]
theorem less_sub {s k : Nat} (hb : s.testBit k = true) : Sub (s - 2 ^ k) s := fun i hi => by
  rw [less_bit hb] at hi
  simp at hi
  exact hi.1
theorem or_less {s k : Nat} (hb : s.testBit k = true) : (s - 2 ^ k) ||| 2 ^ k = s := by
  refine Nat.eq_of_testBit_eq fun i => ?_
  rw [Nat.testBit_or, less_bit hb, Nat.testBit_two_pow]
  by_cases e : k = i
  · subst e; simp [hb]
  · have : ¬ i = k := fun q => e q.symm
    simp [e, this]
theorem less_or {s k : Nat} (hb : s.testBit k = false) : (s ||| 2 ^ k) - 2 ^ k = s ∧ (s ||| 2 ^ k).testBit k = true := by
  have h1 : (s ||| 2 ^ k).testBit k = true := or_bit.2 (.inr rfl)
  refine ⟨Nat.eq_of_testBit_eq fun i => ?_, h1⟩
  rw [less_bit h1, Nat.testBit_or, Nat.testBit_two_pow]
  by_cases e : k = i
  · subst e; simp [hb]
  · have : ¬ i = k := fun q => e q.symm
    simp [e, this]
theorem less_count {s n k : Nat} (hs : s < 2 ^ n) (hb : s.testBit k = true) : (memN (s - 2 ^ k) n).length < (memN s n).length := by
  refine bits_count (Nat.lt_of_le_of_lt (Nat.sub_le _ _) hs) hs (less_sub hb) fun e => ?_
  have := less_bit hb k
  rw [← e, hb] at this
  simp at this
/-- Numbers of orders are small. -/
theorem ways_le (b : Nat → Nat → Bool) (P : Nat) {n : Nat} (hn : n ≤ 10) : ∀ (m s : Nat), s < 2 ^ n → (memN s n).length ≤ m → ways b P n s ≤ 10 ^ m ∧ ∀ p : Nat → Bool, ∀ j, j ≤ n → sumTo (fun k => if p k = true then term b P n s k else 0) j ≤ 10 ^ m
  | 0, s, hs, hm => by
    have hz : ∀ k, s.testBit k = false := fun k => by
      cases hb : s.testBit k with
      | false => rfl
      | true => have := less_count hs hb; omega
    have h0 : s = 0 := Nat.eq_of_testBit_eq fun i => by rw [hz, Nat.zero_testBit]
    subst h0
    refine ⟨by rw [ways_zero]; exact Nat.le_refl _, fun p j _ => ?_⟩
    rw [sumTo_zero j fun k _ => by simp [term]]
    exact Nat.zero_le _
  | m + 1, s, hs, hm => by
    have key : ∀ k, term b P n s k ≤ 10 ^ m := fun k => by
      unfold term
      split
      · rename_i h
        have := less_count hs h.1
        exact (ways_le b P hn m (s - 2 ^ k) (Nat.lt_of_le_of_lt (Nat.sub_le _ _) hs) (by omega)).1
      · exact Nat.zero_le _
    have hp : 10 ^ (m + 1) = 10 * 10 ^ m := by rw [Nat.pow_succ]; omega
    have hpos : 0 < 10 ^ m := Nat.pow_pos (by decide)
    refine ⟨?_, fun p j hj => ?_⟩
    · by_cases h0 : s = 0
      · rw [h0, ways_zero]; omega
      · by_cases h : s &&& P = s
        · rw [ways_sum h0 h, hp]
          have := sumTo_le n fun k _ => key k
          have h2 : n * 10 ^ m ≤ 10 * 10 ^ m := Nat.mul_le_mul_right _ hn
          omega
        · rw [ways_no h0 h]; exact Nat.zero_le _
    · rw [hp]
      have := sumTo_le (g := fun k => if p k = true then term b P n s k else 0) (B := 10 ^ m) j fun k _ => by
        show (if p k = true then term b P n s k else 0) ≤ 10 ^ m
        split
        · exact key k
        · exact Nat.zero_le _
      have h2 : j * 10 ^ m ≤ 10 * 10 ^ m := Nat.mul_le_mul_right _ (by omega)
      omega
/-- The program's table when the sets below S are done, and the first j faces at S. -/
def midT (b : Nat → Nat → Bool) (P n S j t : Nat) : Nat :=
  if t = 0 then 1 else if t &&& P = t then sumTo (fun k => if (decide (t - 2 ^ k < S) || (decide (t - 2 ^ k = S) && decide (k < j))) = true then term b P n t k else 0) n else 0
theorem mid_small {b : Nat → Nat → Bool} {P n S j t : Nat} (hn : n ≤ 10) (ht : t < 2 ^ n) : midT b P n S j t ≤ 10 ^ 10 := by
  have hm : (memN t n).length ≤ 10 := Nat.le_trans (memN_length t n) hn
  unfold midT
  split
  · decide
  · split
    · exact (ways_le b P hn 10 t ht hm).2 (fun k => decide (t - 2 ^ k < S) || (decide (t - 2 ^ k = S) && decide (k < j))) n (Nat.le_refl _)
    · exact Nat.zero_le _
theorem ways_small {b : Nat → Nat → Bool} {P n t : Nat} (hn : n ≤ 10) (ht : t < 2 ^ n) : ways b P n t ≤ 10 ^ 10 := (ways_le b P hn 10 t ht (Nat.le_trans (memN_length t n) hn)).1
theorem mid_start (b : Nat → Nat → Bool) (P n t : Nat) : midT b P n 0 0 t = if t = 0 then 1 else 0 := by
  unfold midT
  split
  · rfl
  · split
    · exact sumTo_zero n fun k _ => by simp
    · rfl
theorem mid_row (b : Nat → Nat → Bool) (P n S t : Nat) : midT b P n S n t = midT b P n (S + 1) 0 t := by
  unfold midT
  split
  · rfl
  · split
    · refine sumTo_congr n fun k hk => ?_
      have : (decide (t - 2 ^ k < S) || (decide (t - 2 ^ k = S) && decide (k < n))) = (decide (t - 2 ^ k < S + 1) || (decide (t - 2 ^ k = S + 1) && decide (k < 0))) := by
        rw [Bool.eq_iff_iff]
        simp
        omega
      rw [this]
    · rfl
theorem mid_all {b : Nat → Nat → Bool} {P n S t : Nat} (h : t ≤ S) : midT b P n S 0 t = ways b P n t := by
  unfold midT
  split
  · rename_i h0
    rw [h0, ways_zero]
  · rename_i h0
    split
    · rename_i hP
      rw [ways_sum h0 hP]
      refine sumTo_congr n fun k hk => ?_
      have := Nat.two_pow_pos k
      rw [if_pos (by simp; omega)]
    · rename_i hP
      rw [ways_no h0 hP]
theorem nearB_iff {b : Nat → Nat → Bool} {nf : Nat → Nat} {n S j : Nat} (hb : ∀ a c, b a c = b c a) (hn : ∀ f g, (nf f).testBit g = b f g) (hS : S < 2 ^ n) : nearB b n S j = true ↔ S = 0 ∨ nf j &&& S ≠ 0 := by
  unfold nearB
  rw [Bool.or_eq_true, decide_eq_true_eq, List.any_eq_true, and_ne]
  constructor
  · rintro (h | ⟨i, _, h⟩)
    · exact .inl h
    · rw [Bool.and_eq_true] at h
      exact .inr ⟨i, by rw [hn, hb]; exact h.2, h.1⟩
  · rintro (h | ⟨i, h1, h2⟩)
    · exact .inl h
    · rw [hn, hb] at h1
      exact .inr ⟨i, List.mem_range.2 (bit_lt hS h2), by rw [h2, h1]; rfl⟩
/-- One round of the program. -/
theorem mid_next {b : Nat → Nat → Bool} {P n S j : Nat} (hj : j < n) (t : Nat) :
    midT b P n S (j + 1) t = if 0 < ways b P n S ∧ P.testBit j = true ∧ S.testBit j = false ∧ nearB b n S j = true ∧ t = S ||| 2 ^ j then midT b P n S j t + ways b P n S else midT b P n S j t := by
  by_cases h0 : t = 0
  · subst h0
    have hne : ¬ (0 : Nat) = S ||| 2 ^ j := fun e => by
      have := congrArg (fun x => Nat.testBit x j) e
      simp [Nat.testBit_or, Nat.testBit_two_pow] at this
    rw [if_neg (fun h => hne h.2.2.2.2)]
    simp [midT]
  · by_cases hP : t &&& P = t
    · unfold midT
      rw [if_neg h0, if_pos hP, if_neg h0, if_pos hP]
      by_cases hin : t.testBit j = true ∧ t - 2 ^ j = S
      · obtain ⟨h1, h2⟩ := hin
        have hSj : S.testBit j = false := by rw [← h2, less_bit h1]; simp
        have hPj : P.testBit j = true := sub_iff.1 hP j h1
        have htS : t = S ||| 2 ^ j := by rw [← h2]; exact (or_less h1).symm
        have e : term b P n t j = if nearB b n S j = true then ways b P n S else 0 := by
          unfold term
          rw [h2]
          simp [h1]
        rw [sumTo_one (g := fun k => if (decide (t - 2 ^ k < S) || (decide (t - 2 ^ k = S) && decide (k < j))) = true then term b P n t k else 0) (i := j) (v := term b P n t j) n (fun k hk hne => ?_) (fun _ => ?_), if_pos hj, e]
        · by_cases hnb : nearB b n S j = true
          · rw [if_pos hnb]
            by_cases hw : 0 < ways b P n S
            · rw [if_pos ⟨hw, hPj, hSj, hnb, htS⟩]
            · rw [if_neg (fun h => hw h.1)]
              omega
          · rw [if_neg hnb, if_neg (fun h => hnb h.2.2.2.1)]
            omega
        · have : (decide (k < j + 1)) = decide (k < j) := by rw [decide_eq_decide]; omega
          rw [this]
        · simp [h2]
      · rw [if_neg (fun h => hin (by rw [h.2.2.2.2]; exact ⟨(less_or h.2.2.1).2, (less_or h.2.2.1).1⟩))]
        refine sumTo_congr n fun k hk => ?_
        by_cases hkj : k = j
        · subst hkj
          by_cases hb : t.testBit k = true
          · have : ¬ t - 2 ^ k = S := fun e => hin ⟨hb, e⟩
            simp [this]
          · have e : term b P n t k = 0 := by
              unfold term
              rw [if_neg (fun h => hb h.1)]
            rw [e]
            simp
        · have : (decide (k < j + 1)) = decide (k < j) := by rw [decide_eq_decide]; omega
          rw [this]
    · have hno : ¬ (0 < ways b P n S ∧ P.testBit j = true ∧ S.testBit j = false ∧ nearB b n S j = true ∧ t = S ||| 2 ^ j) := by
        rintro ⟨hw, hPj, _, _, ht⟩
        refine hP (sub_iff.2 fun i hi => ?_)
        rw [ht] at hi
        rcases or_bit.1 hi with hi | rfl
        · by_cases hS0 : S = 0
          · rw [hS0, Nat.zero_testBit] at hi; cases hi
          · by_cases hSP : S &&& P = S
            · exact sub_iff.1 hSP i hi
            · rw [ways_no hS0 hSP] at hw; omega
        · exact hPj
      rw [if_neg hno]
      unfold midT
      rw [if_neg h0, if_neg hP, if_neg h0, if_neg hP]
/-- The reference's search for a neighbor, over the first i faces. -/
def nearI (b : Nat → Nat → Bool) (s k : Nat) : Nat → Bool
  | 0 => decide (s = 2 ^ k)
  | i + 1 => nearI b s k i || (decide (i ≠ k) && (s.testBit i && b i k))
theorem nearI_iff (b : Nat → Nat → Bool) (s k : Nat) : ∀ n, nearI b s k n = true ↔ s = 2 ^ k ∨ ∃ i, i < n ∧ i ≠ k ∧ s.testBit i = true ∧ b i k = true
  | 0 => by simp [nearI]
  | n + 1 => by
    simp only [nearI, Bool.or_eq_true, Bool.and_eq_true, decide_eq_true_eq]
    rw [nearI_iff b s k n]
    constructor
    · rintro ((h | ⟨i, h1, h2⟩) | h)
      · exact .inl h
      · exact .inr ⟨i, by omega, h2⟩
      · exact .inr ⟨n, by omega, h⟩
    · rintro (h | ⟨i, h1, h2⟩)
      · exact .inl (.inl h)
      · rcases Nat.lt_or_ge i n with q | q
        · exact .inl (.inr ⟨i, q, h2⟩)
        · have : i = n := by omega
          subst this
          exact .inr h2
theorem nearI_near {b : Nat → Nat → Bool} {s k n : Nat} (hb : s.testBit k = true) : nearI b s k n = nearB b n (s - 2 ^ k) k := by
  rw [Bool.eq_iff_iff, nearI_iff]
  unfold nearB
  rw [Bool.or_eq_true, decide_eq_true_eq, List.any_eq_true]
  have hle := sub_le (bit_sub hb)
  constructor
  · rintro (h | ⟨i, h1, h2, h3, h4⟩)
    · exact .inl (by omega)
    · exact .inr ⟨i, List.mem_range.2 h1, by rw [less_bit hb, h3, h4]; simp [h2]⟩
  · rintro (h | ⟨i, h1, h2⟩)
    · exact .inl (by omega)
    · rw [less_bit hb] at h2
      simp at h2
      exact .inr ⟨i, List.mem_range.1 h1, h2.1.2, h2.1.1, h2.2⟩
/-- The reference's table when the sets below s are done, and the first k faces at s. -/
def refT (b : Nat → Nat → Bool) (P n s k t : Nat) : Nat := if t < s then ways b P n t else if t = s then sumTo (term b P n s) k else 0
theorem ref_start (b : Nat → Nat → Bool) (P n t : Nat) : refT b P n 1 0 t = if t = 0 then 1 else 0 := by
  unfold refT
  by_cases h : t = 0
  · subst h
    simp [ways_zero]
  · rw [if_neg (by omega), if_neg h]
    split
    · rfl
    · rfl
theorem ref_next {b : Nat → Nat → Bool} {P n s k : Nat} (t : Nat) : refT b P n s (k + 1) t = if t = s then refT b P n s k s + term b P n s k else refT b P n s k t := by
  unfold refT
  by_cases h : t = s
  · subst h
    simp [sumTo]
  · rw [if_neg h, if_neg h, if_neg h]
theorem ref_row {b : Nat → Nat → Bool} {P n s t : Nat} (h0 : s ≠ 0) (h : s &&& P = s) : refT b P n s n t = refT b P n (s + 1) 0 t := by
  unfold refT
  rcases Nat.lt_trichotomy t s with hlt | he | hlt
  · rw [if_pos hlt, if_pos (by omega)]
  · subst he
    rw [if_neg (by omega), if_pos rfl, if_pos (by omega), ways_sum h0 h]
  · rw [if_neg (by omega), if_neg (by omega), if_neg (by omega)]
    split
    · rfl
    · rfl
theorem ref_skip {b : Nat → Nat → Bool} {P n s t : Nat} (h0 : s ≠ 0) (h : ¬ s &&& P = s) : refT b P n s 0 t = refT b P n (s + 1) 0 t := by
  unfold refT
  rcases Nat.lt_trichotomy t s with hlt | he | hlt
  · rw [if_pos hlt, if_pos (by omega)]
  · subst he
    rw [if_neg (by omega), if_pos rfl, if_pos (by omega), ways_no h0 h]
    rfl
  · rw [if_neg (by omega), if_neg (by omega), if_neg (by omega)]
    split
    · rfl
    · rfl
theorem ref_small {b : Nat → Nat → Bool} {P n s k t : Nat} (hn : n ≤ 10) (hk : k ≤ n) (hs : s < 2 ^ n) (ht : t < 2 ^ n) : refT b P n s k t ≤ 10 ^ 10 := by
  unfold refT
  split
  · exact ways_small hn ht
  · split
    · have := (ways_le b P hn 10 s hs (Nat.le_trans (memN_length s n) hn)).2 (fun _ => true) k hk
      simpa using this
    · exact Nat.zero_le _
end Go.Proofs.Ytkgbilbicdiadaa
