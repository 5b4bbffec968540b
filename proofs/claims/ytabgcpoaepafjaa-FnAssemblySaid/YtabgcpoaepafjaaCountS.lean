/- Plain law on the number of orders in which panes can be set (no program in sight). No condition. -/
import Derived.Test.YtabgcpoaepafjaaJoined
set_option linter.unusedSimpArgs false
set_option linter.unusedVariables false
namespace Go.Proofs.Ytabgcpoaepafjaa

/-- Pane k may be set where the set r stands: the first one, or beside one of the set. -/
def nearB (b : Nat → Nat → Bool) (n r k : Nat) : Bool := decide (r = 0) || (List.range n).any fun i => r.testBit i && b i k
/-- In how many orders the set s is reached. -/
def ways (b : Nat → Nat → Bool) (P n s : Nat) : Nat :=
  if h : s = 0 then 1 else if s &&& P = s then ((List.range n).map fun k => if s.testBit k = true ∧ nearB b n (s - 2 ^ k) k = true then ways b P n (s - 2 ^ k) else 0).sum else 0
termination_by s
decreasing_by have := Nat.two_pow_pos k; omega
def term (b : Nat → Nat → Bool) (P n s k : Nat) : Nat := if s.testBit k = true ∧ nearB b n (s - 2 ^ k) k = true then ways b P n (s - 2 ^ k) else 0
/-- The first j of the terms of s for which p holds. -/
def sumTo (g : Nat → Nat) : Nat → Nat
  | 0 => 0
  | j + 1 => sumTo g j + g j
theorem sumTo_range (g : Nat → Nat) : ∀ j, ((List.range j).map g).sum = sumTo g j
  | 0 => rfl
  | j + 1 => by
    rw [List.range_succ, List.map_append, List.sum_append, sumTo_range g j]
    simp [sumTo]
theorem sumTo_congr {g g' : Nat → Nat} : ∀ j, (∀ k, k < j → g k = g' k) → sumTo g j = sumTo g' j
  | 0, _ => rfl
  | j + 1, h => by
    simp only [sumTo]
    rw [sumTo_congr j fun k hk => h k (by omega), h j (by omega)]
theorem sumTo_zero {g : Nat → Nat} : ∀ j, (∀ k, k < j → g k = 0) → sumTo g j = 0
  | 0, _ => rfl
  | j + 1, h => by
    simp only [sumTo]
    rw [sumTo_zero j fun k hk => h k (by omega), h j (by omega)]
theorem sumTo_le {g : Nat → Nat} {B : Nat} : ∀ j, (∀ k, k < j → g k ≤ B) → sumTo g j ≤ j * B
  | 0, _ => by simp [sumTo]
  | j + 1, h => by
    simp only [sumTo]
    have h1 := sumTo_le j fun k hk => h k (by omega)
    have h2 := h j (by omega)
    rw [Nat.succ_mul]
    omega
/-- One term more. -/
theorem sumTo_one {g g' : Nat → Nat} {i v : Nat} : ∀ j, (∀ k, k < j → k ≠ i → g' k = g k) → (i < j → g' i = g i + v) → sumTo g' j = sumTo g j + if i < j then v else 0
  | 0, _, _ => by simp [sumTo]
  | j + 1, h1, h2 => by
    simp only [sumTo]
    by_cases e : j = i
    · subst e
      rw [sumTo_congr j fun k hk => h1 k (by omega) (by omega), h2 (by omega), if_pos (by omega)]
      omega
    · rw [sumTo_one j (fun k hk hne => h1 k (by omega) hne) (fun hi => h2 (by omega)), h1 j (by omega) e]
      by_cases hi : i < j
      · rw [if_pos hi, if_pos (by omega)]; omega
      · rw [if_neg hi, if_neg (by omega)]; omega
theorem ways_zero (b : Nat → Nat → Bool) (P n : Nat) : ways b P n 0 = 1 := by rw [ways]; rfl
theorem ways_sum {b : Nat → Nat → Bool} {P n s : Nat} (h0 : s ≠ 0) (h : s &&& P = s) : ways b P n s = sumTo (term b P n s) n := by
  rw [ways, dif_neg h0, if_pos h, sumTo_range]
  rfl
theorem ways_no {b : Nat → Nat → Bool} {P n s : Nat} (h0 : s ≠ 0) (h : ¬ s &&& P = s) : ways b P n s = 0 := by
  rw [ways, dif_neg h0, if_neg h]
theorem sub_iff {s P : Nat} : s &&& P = s ↔ Sub s P := by
  constructor
  · intro h i hi
    have := congrArg (fun x => Nat.testBit x i) h
    simp only [Nat.testBit_and, hi, Bool.true_and] at this
    exact this
  · intro h
    refine Nat.eq_of_testBit_eq fun i => ?_
    rw [Nat.testBit_and]
    cases hs : s.testBit i with
    | false => rfl
    | true => rw [h i hs]; rfl
theorem less_bit {s k : Nat} (hb : s.testBit k = true) (i : Nat) : (s - 2 ^ k).testBit i = (s.testBit i && !decide (i = k)) := by
  rw [← xor_sub (bit_sub hb), Nat.testBit_xor, Nat.testBit_two_pow]
  by_cases e : k = i
  · subst e
    simp [hb]
  · have : ¬ i = k := fun q => e q.symm
    simp [e, this]
theorem less_sub {s k : Nat} (hb : s.testBit k = true) : Sub (s - 2 ^ k) s := fun i hi => by
  rw [less_bit hb] at hi
  simp at hi
  exact hi.1
theorem or_less {s k : Nat} (hb : s.testBit k = true) : (s - 2 ^ k) ||| 2 ^ k = s := by
  refine Nat.eq_of_testBit_eq fun i => ?_
  rw [Nat.testBit_or, less_bit hb, Nat.testBit_two_pow]
  by_cases e : k = i
  · subst e; simp [hb]
  · have : ¬ i = k := fun q => e q.symm
    simp [e, this]
theorem less_or {s k : Nat} (hb : s.testBit k = false) : (s ||| 2 ^ k) - 2 ^ k = s ∧ (s ||| 2 ^ k).testBit k = true := by
  have h1 : (s ||| 2 ^ k).testBit k = true := or_bit.2 (.inr rfl)
  refine ⟨Nat.eq_of_testBit_eq fun i => ?_, h1⟩
  rw [less_bit h1, Nat.testBit_or, Nat.testBit_two_pow]
  by_cases e : k = i
  · subst e; simp [hb]
  · have : ¬ i = k := fun q => e q.symm
    simp [e, this]
theorem less_count {s n k : Nat} (hs : s < 2 ^ n) (hb : s.testBit k = true) : (memN (s - 2 ^ k) n).length < (memN s n).length := by
  refine bits_count (Nat.lt_of_le_of_lt (Nat.sub_le _ _) hs) hs (less_sub hb) fun e => ?_
  have := less_bit hb k
  rw [← e, hb] at this
  simp at this
/-- Numbers of orders are small. -/
theorem ways_le (b : Nat → Nat → Bool) (P : Nat) {n : Nat} (hn : n ≤ 10) : ∀ (m s : Nat), s < 2 ^ n → (memN s n).length ≤ m → ways b P n s ≤ 10 ^ m ∧ ∀ p : Nat → Bool, ∀ j, j ≤ n → sumTo (fun k => if p k = true then term b P n s k else 0) j ≤ 10 ^ m
  | 0, s, hs, hm => by
    have hz : ∀ k, s.testBit k = false := fun k => by
      cases hb : s.testBit k with
      | false => rfl
      | true => have := less_count hs hb; omega
    have h0 : s = 0 := Nat.eq_of_testBit_eq fun i => by rw [hz, Nat.zero_testBit]
    subst h0
    refine ⟨by rw [ways_zero]; exact Nat.le_refl _, fun p j _ => ?_⟩
    rw [sumTo_zero j fun k _ => by simp [term]]
    exact Nat.zero_le _
  | m + 1, s, hs, hm => by
    have key : ∀ k, term b P n s k ≤ 10 ^ m := fun k => by
      unfold term
      split
      · rename_i h
        have := less_count hs h.1
        exact (ways_le b P hn m (s - 2 ^ k) (Nat.lt_of_le_of_lt (Nat.sub_le _ _) hs) (by omega)).1
      · exact Nat.zero_le _
    have hp : 10 ^ (m + 1) = 10 * 10 ^ m := by rw [Nat.pow_succ]; omega
    have hpos : 0 < 10 ^ m := Nat.pow_pos (by decide)
    refine ⟨?_, fun p j hj => ?_⟩
    · by_cases h0 : s = 0
      · rw [h0, ways_zero]; omega
      · by_cases h : s &&& P = s
        · rw [ways_sum h0 h, hp]
          have := sumTo_le n fun k _ => key k
          have h2 : n * 10 ^ m ≤ 10 * 10 ^ m := Nat.mul_le_mul_right _ hn
          omega
        · rw [ways_no h0 h]; exact Nat.zero_le _
    · rw [hp]
      have := sumTo_le (g := fun k => if p k = true then term b P n s k else 0) (B := 10 ^ m) j fun k _ => by
        show (if p k = true then term b P n s k else 0) ≤ 10 ^ m
        split
        · exact key k
        · exact Nat.zero_le _
      have h2 : j * 10 ^ m ≤ 10 * 10 ^ m := Nat.mul_le_mul_right _ (by omega)
      omega
/-- The program's table when the sets below S are done, and the first j faces at S. -/
def midT (b : Nat → Nat → Bool) (P n S j t : Nat) : Nat :=
  if t = 0 then 1 else if t &&& P = t then sumTo (fun k => if (decide (t - 2 ^ k < S) || (decide (t - 2 ^ k = S) && decide (k < j))) = true then term b P n t k else 0) n else 0
theorem mid_small {b : Nat → Nat → Bool} {P n S j t : Nat} (hn : n ≤ 10) (ht : t < 2 ^ n) : midT b P n S j t ≤ 10 ^ 10 := by
  have hm : (memN t n).length ≤ 10 := Nat.le_trans (memN_length t n) hn
  unfold midT
  split
  · decide
  · split
    · exact (ways_le b P hn 10 t ht hm).2 (fun k => decide (t - 2 ^ k < S) || (decide (t - 2 ^ k = S) && decide (k < j))) n (Nat.le_refl _)
    · exact Nat.zero_le _
theorem ways_small {b : Nat → Nat → Bool} {P n t : Nat} (hn : n ≤ 10) (ht : t < 2 ^ n) : ways b P n t ≤ 10 ^ 10 := (ways_le b P hn 10 t ht (Nat.le_trans (memN_length t n) hn)).1
theorem mid_start (b : Nat → Nat → Bool) (P n t : Nat) : midT b P n 0 0 t = if t = 0 then 1 else 0 := by
  unfold midT
  split
  · rfl
  · split
    · exact sumTo_zero n fun k _ => by simp
    · rfl
theorem mid_row (b : Nat → Nat → Bool) (P n S t : Nat) : midT b P n S n t = midT b P n (S + 1) 0 t := by
  unfold midT
  split
  · rfl
  · split
    · refine sumTo_congr n fun k hk => ?_
      have : (decide (t - 2 ^ k < S) || (decide (t - 2 ^ k = S) && decide (k < n))) = (decide (t - 2 ^ k < S + 1) || (decide (t - 2 ^ k = S + 1) && decide (k < 0))) := by
        rw [Bool.eq_iff_iff]
        simp
        omega
      rw [this]
    · rfl
theorem mid_all {b : Nat → Nat → Bool} {P n S t : Nat} (h : t ≤ S) : midT b P n S 0 t = ways b P n t := by
  unfold midT
  split
  · rename_i h0
    rw [h0, ways_zero]
  · rename_i h0
    split
    · rename_i hP
      rw [ways_sum h0 hP]
      refine sumTo_congr n fun k hk => ?_
      have := Nat.two_pow_pos k
      rw [if_pos (by simp; omega)]
    · rename_i hP
      rw [ways_no h0 hP]
theorem nearB_iff {b : Nat → Nat → Bool} {nf : Nat → Nat} {n S j : Nat} (hb : ∀ a c, b a c = b c a) (hn : ∀ f g, (nf f).testBit g = b f g) (hS : S < 2 ^ n) : nearB b n S j = true ↔ S = 0 ∨ nf j &&& S ≠ 0 := by
  unfold nearB
  rw [Bool.or_eq_true, decide_eq_true_eq, List.any_eq_true, and_ne]
  constructor
  · rintro (h | ⟨i, _, h⟩)
    · exact .inl h
    · rw [Bool.and_eq_true] at h
      exact .inr ⟨i, by rw [hn, hb]; exact h.2, h.1⟩
  · rintro (h | ⟨i, h1, h2⟩)
    · exact .inl h
    · rw [hn, hb] at h1
      exact .inr ⟨i, List.mem_range.2 (bit_lt hS h2), by rw [h2, h1]; rfl⟩
/-- One round of the program. -/
theorem mid_next {b : Nat → Nat → Bool} {P n S j : Nat} (hj : j < n) (t : Nat) :
    midT b P n S (j + 1) t = if 0 < ways b P n S ∧ P.testBit j = true ∧ S.testBit j = false ∧ nearB b n S j = true ∧ t = S ||| 2 ^ j then midT b P n S j t + ways b P n S else midT b P n S j t := by
  by_cases h0 : t = 0
  · subst h0
    have hne : ¬ (0 : Nat) = S ||| 2 ^ j := fun e => by
      have := congrArg (fun x => Nat.testBit x j) e
      simp [Nat.testBit_or, Nat.testBit_two_pow] at this
    rw [if_neg (fun h => hne h.2.2.2.2)]
    simp [midT]
  · by_cases hP : t &&& P = t
    · unfold midT
      rw [if_neg h0, if_pos hP, if_neg h0, if_pos hP]
      by_cases hin : t.testBit j = true ∧ t - 2 ^ j = S
      · obtain ⟨h1, h2⟩ := hin
        have hSj : S.testBit j = false := by rw [← h2, less_bit h1]; simp
        have hPj : P.testBit j = true := sub_iff.1 hP j h1
        have htS : t = S ||| 2 ^ j := by rw [← h2]; exact (or_less h1).symm
        have e : term b P n t j = if nearB b n S j = true then ways b P n S else 0 := by
          unfold term
          rw [h2]
          simp [h1]
        rw [sumTo_one (g := fun k => if (decide (t - 2 ^ k < S) || (decide (t - 2 ^ k = S) && decide (k < j))) = true then term b P n t k else 0) (i := j) (v := term b P n t j) n (fun k hk hne => ?_) (fun _ => ?_), if_pos hj, e]
        · by_cases hnb : nearB b n S j = true
          · rw [if_pos hnb]
            by_cases hw : 0 < ways b P n S
            · rw [if_pos ⟨hw, hPj, hSj, hnb, htS⟩]
            · rw [if_neg (fun h => hw h.1)]
              omega
          · rw [if_neg hnb, if_neg (fun h => hnb h.2.2.2.1)]
            omega
        · have : (decide (k < j + 1)) = decide (k < j) := by rw [decide_eq_decide]; omega
          rw [this]
        · simp [h2]
      · rw [if_neg (fun h => hin (by rw [h.2.2.2.2]; exact ⟨(less_or h.2.2.1).2, (less_or h.2.2.1).1⟩))]
        refine sumTo_congr n fun k hk => ?_
        by_cases hkj : k = j
        · subst hkj
          by_cases hb : t.testBit k = true
          · have : ¬ t - 2 ^ k = S := fun e => hin ⟨hb, e⟩
            simp [this]
          · have e : term b P n t k = 0 := by
              unfold term
              rw [if_neg (fun h => hb h.1)]
            rw [e]
            simp
        · have : (decide (k < j + 1)) = decide (k < j) := by rw [decide_eq_decide]; omega
          rw [this]
    · have hno : ¬ (0 < ways b P n S ∧ P.testBit j = true ∧ S.testBit j = false ∧ nearB b n S j = true ∧ t = S ||| 2 ^ j) := by
        rintro ⟨hw, hPj, _, _, ht⟩
        refine hP (sub_iff.2 fun i hi => ?_)
        rw [ht] at hi
        rcases or_bit.1 hi with hi | rfl
        · by_cases hS0 : S = 0
          · rw [hS0, Nat.zero_testBit] at hi; cases hi
          · by_cases hSP : S &&& P = S
            · exact sub_iff.1 hSP i hi
            · rw [ways_no hS0 hSP] at hw; omega
        · exact hPj
      rw [if_neg hno]
      unfold midT
      rw [if_neg h0, if_neg hP, if_neg h0, if_neg hP]
/-- The reference's search for a neighbor, over the first i faces. -/
def nearI (b : Nat → Nat → Bool) (s k : Nat) : Nat → Bool
  | 0 => decide (s = 2 ^ k)
  | i + 1 => nearI b s k i || (decide (i ≠ k) && (s.testBit i && b i k))
theorem nearI_iff (b : Nat → Nat → Bool) (s k : Nat) : ∀ n, nearI b s k n = true ↔ s = 2 ^ k ∨ ∃ i, i < n ∧ i ≠ k ∧ s.testBit i = true ∧ b i k = true
  | 0 => by simp [nearI]
  | n + 1 => by
    simp only [nearI, Bool.or_eq_true, Bool.and_eq_true, decide_eq_true_eq]
    rw [nearI_iff b s k n]
    constructor
    · rintro ((h | ⟨i, h1, h2⟩) | h)
      · exact .inl h
      · exact .inr ⟨i, by omega, h2⟩
      · exact .inr ⟨n, by omega, h⟩
    · rintro (h | ⟨i, h1, h2⟩)
      · exact .inl (.inl h)
      · rcases Nat.lt_or_ge i n with q | q
        · exact .inl (.inr ⟨i, q, h2⟩)
        · have : i = n := by omega
          subst this
          exact .inr h2
theorem nearI_near {b : Nat → Nat → Bool} {s k n : Nat} (hb : s.testBit k = true) : nearI b s k n = nearB b n (s - 2 ^ k) k := by
  rw [Bool.eq_iff_iff, nearI_iff]
  unfold nearB
  rw [Bool.or_eq_true, decide_eq_true_eq, List.any_eq_true]
  have hle := sub_le (bit_sub hb)
  constructor
  · rintro (h | ⟨i, h1, h2, h3, h4⟩)
    · exact .inl (by omega)
    · exact .inr ⟨i, List.mem_range.2 h1, by rw [less_bit hb, h3, h4]; simp [h2]⟩
  · rintro (h | ⟨i, h1, h2⟩)
    · exact .inl (by omega)
    · rw [less_bit hb] at h2
      simp at h2
      exact .inr ⟨i, List.mem_range.1 h1, h2.1.2, h2.1.1, h2.2⟩
/-- The reference's table when the sets below s are done, and the first k faces at s. -/
def refT (b : Nat → Nat → Bool) (P n s k t : Nat) : Nat := if t < s then ways b P n t else if t = s then sumTo (term b P n s) k else 0
theorem ref_start (b : Nat → Nat → Bool) (P n t : Nat) : refT b P n 1 0 t = if t = 0 then 1 else 0 := by
  unfold refT
  by_cases h : t = 0
  · subst h
    simp [ways_zero]
  · rw [if_neg (by omega), if_neg h]
    split
    · rfl
    · rfl
theorem ref_next {b : Nat → Nat → Bool} {P n s k : Nat} (t : Nat) : refT b P n s (k + 1) t = if t = s then refT b P n s k s + term b P n s k else refT b P n s k t := by
  unfold refT
  by_cases h : t = s
  · subst h
    simp [sumTo]
  · rw [if_neg h, if_neg h, if_neg h]
theorem ref_row {b : Nat → Nat → Bool} {P n s t : Nat} (h0 : s ≠ 0) (h : s &&& P = s) : refT b P n s n t = refT b P n (s + 1) 0 t := by
  unfold refT
  rcases Nat.lt_trichotomy t s with hlt | he | hlt
  · rw [if_pos hlt, if_pos (by omega)]
  · subst he
    rw [if_neg (by omega), if_pos rfl, if_pos (by omega), ways_sum h0 h]
  · rw [if_neg (by omega), if_neg (by omega), if_neg (by omega)]
    split
    · rfl
    · rfl
theorem ref_skip {b : Nat → Nat → Bool} {P n s t : Nat} (h0 : s ≠ 0) (h : ¬ s &&& P = s) : refT b P n s 0 t = refT b P n (s + 1) 0 t := by
  unfold refT
  rcases Nat.lt_trichotomy t s with hlt | he | hlt
  · rw [if_pos hlt, if_pos (by omega)]
  · subst he
    rw [if_neg (by omega), if_pos rfl, if_pos (by omega), ways_no h0 h]
    rfl
  · rw [if_neg (by omega), if_neg (by omega), if_neg (by omega)]
    split
    · rfl
    · rfl
theorem ref_small {b : Nat → Nat → Bool} {P n s k t : Nat} (hn : n ≤ 10) (hk : k ≤ n) (hs : s < 2 ^ n) (ht : t < 2 ^ n) : refT b P n s k t ≤ 10 ^ 10 := by
  unfold refT
  split
  · exact ways_small hn ht
  · split
    · have := (ways_le b P hn 10 s hs (Nat.le_trans (memN_length s n) hn)).2 (fun _ => true) k hk
      simpa using this
    · exact Nat.zero_le _
end Go.Proofs.Ytabgcpoaepafjaa
namespace Go.Proofs.Ytabgcpoaepafjaa
open Go.RowKit

noncomputable def countA (N E : List P2) : Int := if 1 ≤ (fcs N E).length ∧ (fcs N E).length ≤ 10 then (ways (besTo (sd N E) E.length) (panesN (fcs N E).length (oN N E)) (fcs N E).length (panesN (fcs N E).length (oN N E)) : Nat) else -1
theorem countA_no {N E : List P2} (h : ¬ (1 ≤ (fcs N E).length ∧ (fcs N E).length ≤ 10)) : countA N E = -1 := by unfold countA; rw [if_neg h]
theorem countA_yes {N E : List P2} (h : 1 ≤ (fcs N E).length ∧ (fcs N E).length ≤ 10) : countA N E = (ways (besTo (sd N E) E.length) (panesN (fcs N E).length (oN N E)) (fcs N E).length (panesN (fcs N E).length (oN N E)) : Nat) := by unfold countA; rw [if_pos h]
theorem row_same {n : Nat} {f g : Nat → Nat} (h : ∀ t, f t = g t) : rowOf n (fun t => ((f t : Nat) : Int)) = rowOf n (fun t => ((g t : Nat) : Int)) := by
  congr 1
  funext t
  rw [h t]
set_option maxRecDepth 20000 in
set_option maxHeartbeats 4000000 in
theorem CountAssemblies_any (N E : List P2) (A B : Option Addr) (c c' : Nat) (w : World) (hw : WR w N E A B c c') :
    Calls Try.prog 23 #[.agg #[.slice A N.length c, .slice B E.length c']] w fun e w' => e = .returned (.int .i64 (countA N E)) ∧ Ext w w' := by
  obtain ⟨i0, hi, hz0, hz1, hz2⟩ := info_parts int_info
  have HW := hide hw
  obtain ⟨v, hv⟩ : ∃ v, countA N E = v := ⟨_, rfl⟩
  have HVV := hide hv
  rw [hv]
  clear hw hv
  
  go_enter Try.func23, Try.ntmps23
  go_wp2_with fail
  obtain ⟨w0, hw⟩ : ∃ w1, w1 = w.alloc (Obj.cells #[Value.slice A N.length c, Value.slice B E.length c'] 27) := ⟨_, rfl⟩; rw [← hw]; have kT : Tr [(w.heap.size, [.slice A N.length c, .slice B E.length c'])] w w0 := (by rw [hw]; exact ⟨by (first | (simp [Bx, CellsAt, go_sem, *]; done) | (simp [Bx, CellsAt, go_sem, *]; omega)), by (repeat (first | exact kE | exact Ext.refl _ | apply Ext.alloc | apply Ext.drewN | apply Ext.drew | apply Ext.set0 | apply Ext.set1 | apply Ext.set2 | apply Ext.set3 | (refine Ext.setk ?_ (by omega) _) | (apply Ext.snoc; assumption)))⟩); have HT := hide kT; clear hw kT; have kT := HT.out; simp only [Tr, Bx, CellsAt, Nat.reduceAdd, Nat.zero_add, and_true] at kT; obtain ⟨⟨kz0, kf0, kc0_0, kc0_1⟩, kE⟩ := kT
  refine (IsWhole_any N E A B c c' w0 (HW.out.ext kE)).mono ?_
  rintro e w2 ⟨rfl, hb2⟩
  have HT' := hide (HT.out.ext hb2)
  clear hb2 HT
  have HT := HT'
  clear HT'
  clear kz0 kf0 kc0_0 kc0_1 kE
  have kT := HT.out; simp only [Tr, Bx, CellsAt, Nat.reduceAdd, Nat.zero_add, and_true] at kT; obtain ⟨⟨kz0, kf0, kc0_0, kc0_1⟩, kE⟩ := kT
  have HW2 := hide kE
  cases hwh : wholeB N E with
  | false =>
    have HV := hide (show v = -1 by rw [← HVV.out]; exact countA_no (by rw [fcs_no hwh]; simp))
    clear hwh
    go_wp2_with fail
    go_ret
    exact ⟨ret_int HV.out.symm, HW2.out⟩
  | true =>
    have hon := (outer_nat hwh).2
    have hl40 := fcs_len (N := N) (E := E)
    have HFO := hide ((FacesOf_any N E A B c c' w2 (HW.out.ext kE)).mono (R' := fun e w' => ∃ A2 c2, e = .returned (.slice A2 (fcs N E).length c2) ∧ Ext w2 w') (by rintro e w' ⟨A2, c2, h1, _, _, _, _, h2⟩; exact ⟨A2, c2, h1, h2⟩))
    have HN := hide (fun (W : World) (hE : Ext w W) => neighbors_any N E A B c c' W (HW.out.ext hE) hwh)
    have HP := hide (fun (W : World) (hE : Ext w W) => paneSet_any N E A B c c' W (HW.out.ext hE) hwh)
    have hnb : ∀ f g, (nearV N E f).testBit g = besTo (sd N E) E.length f g := near_bit (sd N E) E.length
    have hnl : ∀ f, nearV N E f < 2 ^ (fcs N E).length := near_lt (sd_lt hwh) E.length
    have HBC := hide (bes_comm (sd N E) E.length)
    have hy := countA_yes (N := N) (E := E)
    have hno := countA_no (N := N) (E := E)
    rw [HVV.out] at hy hno
    obtain ⟨n, hn⟩ : ∃ n, (fcs N E).length = n := ⟨_, rfl⟩
    obtain ⟨o, ho⟩ : ∃ o, oN N E = o := ⟨_, rfl⟩
    obtain ⟨nf, hnf⟩ : ∃ nf, nearV N E = nf := ⟨_, rfl⟩
    obtain ⟨b, hbb⟩ : ∃ b, besTo (sd N E) E.length = b := ⟨_, rfl⟩
    rw [hn] at hon hl40 HN HP HFO hnl hy hno
    rw [ho] at hon HP hy
    rw [hnf] at hnl hnb
    rw [hbb] at hnb HBC hy
    rw [show (fun f => ((nearV N E f : Nat) : Int)) = fun f => ((nf f : Nat) : Int) from by rw [hnf]] at HN
    clear hwh hn ho hnf hbb
    by_cases h10 : 10 < n
    · have HV := hide (show v = -1 from hno (by omega))
      have t2 : decide ((n : Int) > 10) = true := decide_eq_true (by omega)
      have t3 : decide (n > 10) = true := decide_eq_true (by omega)
      clear hno hy hnb hnl
      go_wp2_with fail
      refine HFO.out.mono ?_
      rintro e w3 ⟨A2, c2, rfl, hb3⟩
      have HE3 := hide (HW2.out.trans hb3)
      clear hb3
      go_wp2_with fail
      go_ret
      exact ⟨ret_int HV.out.symm, HE3.out⟩
    have t2 : decide ((n : Int) > 10) = false := decide_eq_false (by omega)
    have t3 : decide (n > 10) = false := decide_eq_false (by omega)
    have h10' : n ≤ 10 := by omega
    have hpl := panes_lt n o
    obtain ⟨p, hp⟩ : ∃ p, panesN n o = p := ⟨_, rfl⟩
    rw [hp] at HP hy hpl
    have HV := hide (show v = (ways b p n p : Nat) from hy (by omega))
    have h1024 : 2 ^ n ≤ 2 ^ 10 := Nat.pow_le_pow_right (by decide) h10'
    have HMS := hide (fun S j t (ht : t < 2 ^ n) => mid_small (b := b) (P := p) (S := S) (j := j) h10' ht)
    have HWS := hide (fun t (ht : t < 2 ^ n) => ways_small (b := b) (P := p) h10' ht)
    have HNI := hide (fun S j (hS : S < 2 ^ n) => nearB_iff (n := n) (S := S) (j := j) HBC.out hnb hS)
    have HLT := hide (fun S j (hS : S < 2 ^ n) (hj : j < n) => sub_set_lt hS hj)
    have sh := shl_one (show n < 62 by omega)
    rw [← wrap64_eq] at sh
    have HMR := hide (fun S t => mid_row b p n S t)
    obtain ⟨M, hM⟩ : ∃ M, 2 ^ n = M := ⟨_, rfl⟩
    have hMz : 0 < M := by rw [← hM]; exact Nat.two_pow_pos n
    rw [hM] at hnl hpl h1024 HMS HWS HNI HLT sh
    have hM10 : M ≤ 1024 := by omega
    have HNL := hide hnl
    clear hno hy hnb hnl hM h1024 hp h10 HVV HBC
    go_wp2_with fail
    refine HFO.out.mono ?_
    rintro e w3 ⟨A2, c2, rfl, hb3⟩
    have HT' := hide (HT.out.ext hb3)
    clear hb3 HT HFO
    have HT := HT'
    clear HT'
    clear kz0 kf0 kc0_0 kc0_1 kE
    have kT := HT.out; simp only [Tr, Bx, CellsAt, Nat.reduceAdd, Nat.zero_add, and_true] at kT; obtain ⟨⟨kz0, kf0, kc0_0, kc0_1⟩, kE⟩ := kT
    go_wp2_with fail
    refine (HN.out _ kE).mono ?_
    rintro e w4 ⟨g, c4, rfl, hown, hb4⟩
    have HT' := hide (HT.out.ext hb4)
    clear HT HN
    have HO4 := hide hown
    have HT := HT'
    clear HT' hown hb4
    clear kz0 kf0 kc0_0 kc0_1 kE
    have kT := HT.out; simp only [Tr, Bx, CellsAt, Nat.reduceAdd, Nat.zero_add, and_true] at kT; obtain ⟨⟨kz0, kf0, kc0_0, kc0_1⟩, kE⟩ := kT
    go_wp2_with fail
    refine (HP.out _ kE).mono ?_
    rintro e w5 ⟨rfl, hb5⟩
    have HO5 := hide (own_ext HO4.out hb5)
    have HE5 := hide (kE.trans hb5)
    clear HO4 HP hb5
    clear kz0 kf0 kc0_0 kc0_1 kE
    clear HT
    go_wp2_with (at_make; refine wpList_make_full _ rfl _ _ 29 rfl w5.heap.size 3 i0 (.int .i64 0) 1 Try.underlying29 hi hz0 hz1 .i64 .i64 (wrap64 ((2 : Int) ^ n)) (wrap64 ((2 : Int) ^ n)) M rfl rfl sh sh (by rw [hz2]; omega) (by unfold maxLen; omega) (Nat.le_refl _) ?_; intro w6 hown hgrow; rw [made_zeros'] at hown; have HG6 := hide (grown_ext hgrow); have HO6 := hide hown; have c0 := own_cellR hown hMz; have f0 := hown.frozenAt 0; clear hown hgrow)
    have hst := (HO6.out.stored 0 (.int .i64 1)).1
    rw [rowOf_set _ _ hMz] at hst
    have HO := hide (show (w6.setCell ⟨w5.heap.size, 0, none⟩ (.int .i64 1)).ownsRow w5.heap.size 3 1 (.slice (some ⟨w5.heap.size, 0, none⟩) M M) M (rowOf M (fun t => ((midT b p n 0 0 t : Nat) : Int))) from by
      refine (congrArg (fun l => World.ownsRow _ _ _ 1 _ M (rowOf M l)) ?_).mp hst
      funext t
      rw [mid_start]
      by_cases h : t = 0 <;> simp [h])
    have HG := hide (HG6.out.setk (k := w5.heap.size) (o := 0) (s := none) (Nat.le_refl _) (.int .i64 1))
    clear hst HO6 HG6 c0 f0
    obtain ⟨w7, hw7⟩ : ∃ w7, w7 = w6.setCell ⟨w5.heap.size, 0, none⟩ (.int .i64 1) := ⟨_, rfl⟩
    rw [← hw7] at HO HG ⊢
    clear hw7
    go_loopw [30] (fun i wr => ∃ S : Nat, S ≤ M ∧ i = .int .i64 S ∧ Hid (wr.ownsRow w5.heap.size 3 1 (.slice (some ⟨w5.heap.size, 0, none⟩) M M) M (rowOf M (fun t => ((midT b p n S 0 t : Nat) : Int)))) ∧ Hid (Ext w5 wr)) (fun i _ => M - (intOf i).toNat)
    case atStart => exact ⟨0, Nat.zero_le _, rfl, HO, HG⟩
    case round =>
      clear HO HG
      obtain ⟨S, hS, rfl, HO, HG⟩ := hrel
      by_cases hlt : S < M
      · have hlz : (S : Int) < (M : Int) := by omega
        have cS := own_cellR HO.out hlt
        rw [mid_all (Nat.le_refl S)] at cS
        have HWV := hide (HWS.out S hlt)
        have HNX := hide (fun j (hj : j < n) t => mid_next (b := b) (P := p) (S := S) hj t)
        have HNIS := hide (fun j => HNI.out S j hlt)
        have HROW := hide (HMR.out S)
        obtain ⟨x, hx⟩ : ∃ x, ways b p n S = x := ⟨_, rfl⟩
        rw [hx] at cS HWV HNX
        clear hx
        obtain ⟨wo, rfl⟩ : ∃ wo : World, wo = wr := ⟨_, rfl⟩
        go_wp2_with fail
        clear cS
        go_loopw [37] (fun i wi => ∃ j : Nat, j ≤ n ∧ i = .int .i64 j ∧ Hid (wi.ownsRow w5.heap.size 3 1 (.slice (some ⟨w5.heap.size, 0, none⟩) M M) M (rowOf M (fun t => ((midT b p n S j t : Nat) : Int)))) ∧ Hid (Ext w5 wi)) (fun i _ => n - (intOf i).toNat)
        case atStart => exact ⟨0, Nat.zero_le _, rfl, HO, HG⟩
        case round =>
          clear HO HG
          obtain ⟨j, hj, rfl, HO, HG⟩ := hrel
          by_cases hltj : j < n
          · have hlj : (j : Int) < (n : Int) := by omega
            have HNJ := hide (HNX.out j hltj)
            have HNB := hide (HNIS.out j)
            have hn5 := own_ext HO5.out HG.out
            have cn := own_cellR hn5 hltj
            have hnl := HNL.out j
            have bp := bit_at p j (by omega)
            have bS := bit_at S j (by omega)
            have b2 := i64_and (nf j) S (by omega) (by omega)
            have b3 := or_shl (u := S) (f := j) (by omega) (by omega)
            rw [← wrap64_eq] at b3
            have hzl := HLT.out S j hlt hltj
            obtain ⟨y, hy⟩ : ∃ y, nf j &&& S = y := ⟨_, rfl⟩
            obtain ⟨q, hq⟩ : ∃ q, nf j = q := ⟨_, rfl⟩
            obtain ⟨z, hz⟩ : ∃ z, S ||| 2 ^ j = z := ⟨_, rfl⟩
            rw [hy] at b2 HNB
            rw [hq] at b2 cn
            rw [hz] at b3 hzl HNJ
            clear hn5 hy hq hz hnl

            by_cases hx0 : 0 < x
            · have HX0 := hide hx0
              have q1 : decide ((x : Int) > 0) = true := decide_eq_true (by omega)
              have q2 : decide (x > 0) = true := decide_eq_true (by omega)
              have q3 : decide ((0 : Int) < (x : Int)) = true := decide_eq_true (by omega)
              have q4 : decide (0 < x) = true := decide_eq_true (by omega)
              cases hbp : p.testBit j with
              | false =>
                have bp' : bits .and .i64 ((p : Int) / 2 ^ j) 1 = 0 := by rw [bp, hbp]; rfl
                clear bp
                have HROWJ := hide (row_same (n := M) (f := midT b p n S (j + 1)) (g := midT b p n S j) (fun t => by rw [HNJ.out t, if_neg (fun h => by rw [hbp] at h; exact absurd h.2.1 (by simp))]))
                clear hbp
                go_wp2_with fail
                go_roundw
                case rel => exact ⟨j + 1, by omega, by go_num, hide (by rw [HROWJ.out]; exact HO.out), HG⟩
                case measure => simp [intOf]; omega
              | true =>
                rw [hbp, if_pos rfl] at bp
                have HBP := hide hbp
                clear hbp
                cases hbS : S.testBit j with
                | true =>
                  rw [hbS, if_pos rfl] at bS
                  have HROWJ := hide (row_same (n := M) (f := midT b p n S (j + 1)) (g := midT b p n S j) (fun t => by rw [HNJ.out t, if_neg (fun h => by rw [hbS] at h; exact absurd h.2.2.1 (by simp))]))
                  clear hbS
                  go_wp2_with fail
                  go_roundw
                  case rel => exact ⟨j + 1, by omega, by go_num, hide (by rw [HROWJ.out]; exact HO.out), HG⟩
                  case measure => simp [intOf]; omega
                | false =>
                  have bS' : bits .and .i64 ((S : Int) / 2 ^ j) 1 = 0 := by rw [bS, hbS]; rfl
                  have HBS := hide hbS
                  clear bS hbS
                  by_cases hok : nearB b n S j = true
                  · have HOK := hide hok
                    have hcz : midT b p n S j z ≤ 10 ^ 10 := HMS.out S j z hzl
                    have cz := own_cellR HO.out hzl
                    have fz := HO.out.frozenAt z
                    have hxs := HWV.out
                    have HST := hide (fun u : Int => (HO.out.stored z (.int .i64 u)).1)
                    have HNW := hide (show (fun t => if t = z then ((midT b p n S j z : Nat) : Int) + (x : Int) else ((midT b p n S j t : Nat) : Int)) = fun t => ((midT b p n S (j + 1) t : Nat) : Int) from by
                      funext t
                      rw [HNJ.out t]
                      by_cases ht : t = z
                      · rw [if_pos ht, if_pos ⟨HX0.out, HBP.out, HBS.out, HOK.out, ht⟩, ht]
                        omega
                      · rw [if_neg ht, if_neg (fun h => ht h.2.2.2.2)])
                    have hzM : (z : Int) < (M : Int) := by omega
                    obtain ⟨d, hd⟩ : ∃ d, midT b p n S j z = d := ⟨_, rfl⟩
                    rw [hd] at hcz cz HNW
                    clear hd hok
                    have hd10 : d ≤ 10000000000 := hcz
                    have hx10 : x ≤ 10000000000 := hxs
                    have aw : wrap64 ((d : Int) + (x : Int)) = (d : Int) + (x : Int) := by rw [wrap64_eq, IntKind.wrap_i64]; omega
                    clear hcz hxs
                    by_cases hS0 : S = 0
                    · have s1 : ((S : Int) == 0) = true := by simp [hS0]
                      have s2 : (S == 0) = true := by simp [hS0]
                      have HS0 := hide hS0
                      clear hS0
                      go_wp2_with fail
                      have hst := HST.out ((d : Int) + (x : Int))
                      rw [rowOf_set _ _ hzl, HNW.out] at hst
                      have HOJ := hide hst
                      have HGJ := hide (HG.out.setk (k := w5.heap.size) (o := z) (s := none) (Nat.le_refl _) (.int .i64 ((d : Int) + (x : Int))))
                      clear hst cz fz cn HO HG HST
                      obtain ⟨w8, hw8⟩ : ∃ w8, w8 = wr.setCell ⟨w5.heap.size, z, none⟩ (.int .i64 ((d : Int) + (x : Int))) := ⟨_, rfl⟩
                      rw [← hw8] at HOJ HGJ ⊢
                      clear hw8
                      go_roundw
                      case rel => exact ⟨j + 1, by omega, by go_num, HOJ, HGJ⟩
                      case measure => simp [intOf]; omega
                    · have s1 : ((S : Int) == 0) = false := by simp; omega
                      have s2 : (S == 0) = false := by simp [hS0]
                      have hy0 : y ≠ 0 := (HNB.out.1 HOK.out).resolve_left hS0
                      have s3 : ((y : Int) != 0) = true := by simp; omega
                      have s4 : (y != 0) = true := by simp; omega
                      have s5 : ((y : Int) == 0) = false := by simp; omega
                      have HS0 := hide hS0
                      clear hS0 hy0
                      go_wp2_with fail
                      have hst := HST.out ((d : Int) + (x : Int))
                      rw [rowOf_set _ _ hzl, HNW.out] at hst
                      have HOJ := hide hst
                      have HGJ := hide (HG.out.setk (k := w5.heap.size) (o := z) (s := none) (Nat.le_refl _) (.int .i64 ((d : Int) + (x : Int))))
                      clear hst cz fz cn HO HG HST
                      obtain ⟨w8, hw8⟩ : ∃ w8, w8 = wr.setCell ⟨w5.heap.size, z, none⟩ (.int .i64 ((d : Int) + (x : Int))) := ⟨_, rfl⟩
                      rw [← hw8] at HOJ HGJ ⊢
                      clear hw8
                      go_roundw
                      case rel => exact ⟨j + 1, by omega, by go_num, HOJ, HGJ⟩
                      case measure => simp [intOf]; omega
                  · have hS0 : S ≠ 0 := fun e => hok (HNB.out.2 (.inl e))
                    have hy0 : y = 0 := by
                      rcases Nat.eq_zero_or_pos y with e | e
                      · exact e
                      · exact absurd (HNB.out.2 (.inr (by omega))) hok
                    have s1 : ((S : Int) == 0) = false := by simp; omega
                    have s2 : (S == 0) = false := by simp [hS0]
                    subst hy0
                    have b2' : bits .and .i64 (q : Int) (S : Int) = 0 := b2
                    have HROWJ := hide (row_same (n := M) (f := midT b p n S (j + 1)) (g := midT b p n S j) (fun t => by rw [HNJ.out t, if_neg (fun h => hok h.2.2.2.1)]))
                    clear hok hS0 b2
                    go_wp2_with fail
                    go_roundw
                    case rel => exact ⟨j + 1, by omega, by go_num, hide (by rw [HROWJ.out]; exact HO.out), HG⟩
                    case measure => simp [intOf]; omega
            · have HX0 := hide hx0
              have hxe : x = 0 := by omega
              subst hxe
              have HROWJ := hide (row_same (n := M) (f := midT b p n S (j + 1)) (g := midT b p n S j) (fun t => by rw [HNJ.out t, if_neg (fun h => absurd h.1 (by omega))]))
              clear hx0
              go_wp2_with fail
              go_roundw
              case rel => exact ⟨j + 1, by omega, by go_num, hide (by rw [HROWJ.out]; exact HO.out), HG⟩
              case measure => simp [intOf]; omega
          · obtain rfl : j = n := by omega
            go_wp2_with fail
            go_roundw
            case rel => exact ⟨S + 1, by omega, by go_num, hide (by rw [← row_same HROW.out]; exact HO.out), HG⟩
            case measure => simp [intOf]; omega
      · obtain rfl : S = M := by omega
        have cp := own_cellR HO.out hpl
        rw [mid_all (Nat.le_of_lt hpl)] at cp
        have hpz : (p : Int) < (S : Int) := by omega
        go_wp2_with fail
        go_ret
        exact ⟨ret_int (by rw [HV.out]), HE5.out.trans HG.out⟩
end Go.Proofs.Ytabgcpoaepafjaa
namespace Go.Proofs.Ytabgcpoaepafjaa
open Go.RowKit

theorem panes_num {n o : Nat} (ho : o < n) : panesN n o + 2 ^ o + 1 = 2 ^ n := by
  have hb : (2 ^ n - 1).testBit o = true := by rw [Nat.testBit_two_pow_sub_one]; simp [ho]
  have h1 := bit_sub hb
  have h2 := sub_le h1
  have h3 : panesN n o = 2 ^ n - 1 - 2 ^ o := by
    unfold panesN
    rw [Nat.and_comm, h1, xor_sub h1]
  have := Nat.two_pow_pos n
  omega
theorem term_near {b : Nat → Nat → Bool} {P n s k : Nat} (hb : s.testBit k = true) : term b P n s k = if nearI b s k n = true then ways b P n (s - 2 ^ k) else 0 := by
  unfold term
  rw [nearI_near hb]
  simp [hb]
theorem near_start (b : Nat → Nat → Bool) (s k : Nat) : nearI b s k 0 = ((s : Int) == ((2 ^ k : Nat) : Int)) := by
  rw [int_beq]
  rfl
theorem wrap_small {q : Nat} (h : q < 1024) : IntKind.i64.wrap (q : Int) = (q : Int) := by rw [IntKind.wrap_i64]; omega
theorem wrap_sum {a b : Nat} (ha : a ≤ 10 ^ 10) (hb : b ≤ 10 ^ 10) : IntKind.i64.wrap ((a : Int) + (b : Int)) = (a : Int) + (b : Int) := by rw [IntKind.wrap_i64]; omega
end Go.Proofs.Ytabgcpoaepafjaa
