/- Plain law on faces beside each other, and on sets of faces that hang together (no program in sight). No condition. -/
import Derived.Test.YtkgbilbicdiadaaSpread
set_option linter.unusedSimpArgs false
set_option linter.unusedVariables false
namespace Go.Proofs.Ytkgbilbicdiadaa

/-- The faces a and b lie beside each other at one of the first k leads; sd is the face of a dart. -/
def besTo (sd : Nat → Nat) : Nat → Nat → Nat → Bool
  | 0, _, _ => false
  | k + 1, a, b => besTo sd k a b || (decide (sd (2 * k) ≠ sd (2 * k + 1)) && ((decide (a = sd (2 * k)) && decide (b = sd (2 * k + 1))) || (decide (a = sd (2 * k + 1)) && decide (b = sd (2 * k)))))
def nearTo (sd : Nat → Nat) : Nat → Nat → Nat
  | 0, _ => 0
  | k + 1, f => if sd (2 * k) = sd (2 * k + 1) then nearTo sd k f else if f = sd (2 * k) then nearTo sd k f ||| 2 ^ sd (2 * k + 1) else if f = sd (2 * k + 1) then nearTo sd k f ||| 2 ^ sd (2 * k) else nearTo sd k f
theorem bes_comm (sd : Nat → Nat) : ∀ k a b, besTo sd k a b = besTo sd k b a
  | 0, _, _ => rfl
  | k + 1, a, b => by
    simp only [besTo]
    rw [bes_comm sd k a b]
    cases decide (a = sd (2 * k)) <;> cases decide (b = sd (2 * k + 1)) <;> cases decide (a = sd (2 * k + 1)) <;> cases decide (b = sd (2 * k)) <;> simp
theorem bes_irrefl (sd : Nat → Nat) : ∀ k a, besTo sd k a a = false
  | 0, _ => rfl
  | k + 1, a => by
    simp only [besTo]
    rw [bes_irrefl sd k a]
    simp
    omega
theorem bes_lt {sd : Nat → Nat} {n : Nat} (h : ∀ d, sd d < n) : ∀ k a b, besTo sd k a b = true → a < n ∧ b < n
  | 0, _, _, e => by cases e
  | k + 1, a, b, e => by
    simp only [besTo, Bool.or_eq_true, Bool.and_eq_true, decide_eq_true_eq] at e
    have h1 := h (2 * k)
    have h2 := h (2 * k + 1)
    rcases e with e | ⟨_, ⟨e1, e2⟩ | ⟨e1, e2⟩⟩
    · exact bes_lt h k a b e
    · omega
    · omega
theorem near_bit (sd : Nat → Nat) : ∀ k f g, (nearTo sd k f).testBit g = besTo sd k f g
  | 0, f, g => by simp [nearTo, besTo]
  | k + 1, f, g => by
    have ih := near_bit sd k f g
    simp only [nearTo, besTo]
    by_cases e : sd (2 * k) = sd (2 * k + 1)
    · rw [if_pos e, ih]
      simp [e]
    · rw [if_neg e]
      by_cases e1 : f = sd (2 * k)
      · rw [if_pos e1, Nat.testBit_or, ih, Nat.testBit_two_pow]
        have e2 : ¬ f = sd (2 * k + 1) := fun q => e (e1.symm.trans q)
        rw [decide_eq_true e1, decide_eq_false e2, decide_eq_true e]
        have : decide (sd (2 * k + 1) = g) = decide (g = sd (2 * k + 1)) := by rw [decide_eq_decide]; exact eq_comm
        rw [this]
        simp
      · rw [if_neg e1]
        by_cases e2 : f = sd (2 * k + 1)
        · rw [if_pos e2, Nat.testBit_or, ih, Nat.testBit_two_pow]
          rw [decide_eq_false e1, decide_eq_true e2, decide_eq_true e]
          have : decide (sd (2 * k) = g) = decide (g = sd (2 * k)) := by rw [decide_eq_decide]; exact eq_comm
          rw [this]
          simp
        · rw [if_neg e2, ih, decide_eq_false e1, decide_eq_false e2]
          simp
theorem near_lt {sd : Nat → Nat} {n : Nat} (h : ∀ d, sd d < n) : ∀ k f, nearTo sd k f < 2 ^ n
  | 0, _ => Nat.two_pow_pos n
  | k + 1, f => by
    have ih := near_lt h k f
    have p1 : 2 ^ sd (2 * k) < 2 ^ n := Nat.pow_lt_pow_right (by decide) (h _)
    have p2 : 2 ^ sd (2 * k + 1) < 2 ^ n := Nat.pow_lt_pow_right (by decide) (h _)
    simp only [nearTo]
    split
    · exact ih
    · split
      · exact Nat.or_lt_two_pow ih p2
      · split
        · exact Nat.or_lt_two_pow ih p1
        · exact ih
/-- One round of the program over the first k faces. -/
def joinTo (near : Nat → Nat) (set : Nat) : Nat → Nat → Nat
  | 0, s => s
  | f + 1, s => if set.testBit f = true ∧ near f &&& joinTo near set f s ≠ 0 then joinTo near set f s ||| 2 ^ f else joinTo near set f s
/-- One round of the reference: from face f to the first g faces; from the first f faces. -/
def reachG (b : Nat → Nat → Bool) (set f : Nat) : Nat → Nat → Nat
  | 0, s => s
  | g + 1, s => if (reachG b set f g s).testBit f = true ∧ set.testBit g = true ∧ b f g = true then reachG b set f g s ||| 2 ^ g else reachG b set f g s
def reachF (b : Nat → Nat → Bool) (set n : Nat) : Nat → Nat → Nat
  | 0, s => s
  | f + 1, s => reachG b set f n (reachF b set n f s)
/-- From face i one comes to face j of the set. -/
def toIn (b : Nat → Nat → Bool) (set n : Nat) (i j : Nat) : Prop := i < n ∧ j < n ∧ set.testBit j = true ∧ b i j = true
theorem and_ne {a b : Nat} : a &&& b ≠ 0 ↔ ∃ i, a.testBit i = true ∧ b.testBit i = true := by
  constructor
  · intro h
    obtain ⟨i, hi⟩ := Nat.exists_testBit_of_ne_zero h
    rw [Nat.testBit_and, Bool.and_eq_true] at hi
    exact ⟨i, hi⟩
  · rintro ⟨i, h1, h2⟩ e
    have : (a &&& b).testBit i = true := by rw [Nat.testBit_and, h1, h2]; rfl
    rw [e, Nat.zero_testBit] at this
    cases this
theorem sub_set_lt {s n f : Nat} (hs : s < 2 ^ n) (hf : f < n) : s ||| 2 ^ f < 2 ^ n := Nat.or_lt_two_pow hs (Nat.pow_lt_pow_right (by decide) hf)
theorem or_bit {s f i : Nat} : (s ||| 2 ^ f).testBit i = true ↔ s.testBit i = true ∨ f = i := by
  rw [Nat.testBit_or, Nat.testBit_two_pow]
  simp
theorem join_sub (near : Nat → Nat) (set s : Nat) : ∀ k, Sub s (joinTo near set k s)
  | 0 => Sub.refl s
  | k + 1 => by
    simp only [joinTo]
    split
    · exact (join_sub near set s k).trans (sub_or _ _)
    · exact join_sub near set s k
theorem join_lt {near : Nat → Nat} {set n s : Nat} (hs : s < 2 ^ n) : ∀ k, k ≤ n → joinTo near set k s < 2 ^ n
  | 0, _ => hs
  | k + 1, hk => by
    have ih := join_lt (near := near) (set := set) hs k (by omega)
    simp only [joinTo]
    split
    · exact sub_set_lt ih (by omega)
    · exact ih
theorem join_end {near : Nat → Nat} {set s : Nat} : ∀ k, joinTo near set k s = s → ∀ f, f < k → set.testBit f = true → near f &&& s ≠ 0 → s.testBit f = true
  | 0, _, _, hf, _, _ => absurd hf (by omega)
  | k + 1, h, f, hf, h1, h2 => by
    have e : joinTo near set k s = s := by
      refine Nat.eq_of_testBit_eq fun i => ?_
      rw [Bool.eq_iff_iff]
      refine ⟨fun hi => ?_, join_sub near set s k i⟩
      have h1 : Sub (joinTo near set k s) (joinTo near set (k + 1) s) := by
        simp only [joinTo]
        split
        · exact sub_or _ _
        · exact Sub.refl _
      rw [← h]
      exact h1 i hi
    rcases Nat.lt_or_ge f k with hlt | hge
    · exact join_end k e f hlt h1 h2
    · have : f = k := by omega
      subst this
      simp only [joinTo, e] at h
      rw [if_pos ⟨h1, h2⟩] at h
      rw [← h]
      exact or_bit.2 (.inr rfl)
theorem join_closing {b : Nat → Nat → Bool} {near : Nat → Nat} {set n : Nat} (hb : ∀ a c, b a c = b c a) (hn : ∀ f g, (near f).testBit g = b f g) : Closing n (toIn b set n) (joinTo near set n) where
  infl s _ := join_sub near set s n
  bound s hs := join_lt hs n (Nat.le_refl _)
  sound C hC s hs h0 := by
    have key : ∀ k, k ≤ n → ∀ i, (joinTo near set k s).testBit i = true → C i := by
      intro k
      induction k with
      | zero => intro _; exact h0
      | succ k ih =>
        intro hk i hi
        have hlt : joinTo near set k s < 2 ^ n := join_lt hs k (by omega)
        simp only [joinTo] at hi
        split at hi
        · rename_i hc
          rcases or_bit.1 hi with hi | rfl
          · exact ih (by omega) i hi
          · obtain ⟨g, hg1, hg2⟩ := and_ne.1 hc.2
            rw [hn] at hg1
            exact hC g k (ih (by omega) g hg2) ⟨bit_lt hlt hg2, by omega, hc.1, by rw [hb]; exact hg1⟩
        · exact ih (by omega) i hi
    exact key n (Nat.le_refl _)
  fix s hs e i j hi hij := by
    obtain ⟨h1, h2, h3, h4⟩ := hij
    exact join_end n e j h2 h3 (and_ne.2 ⟨i, by rw [hn, hb]; exact h4, hi⟩)
theorem reachG_sub (b : Nat → Nat → Bool) (set f s : Nat) : ∀ g, Sub s (reachG b set f g s)
  | 0 => Sub.refl s
  | g + 1 => by
    simp only [reachG]
    split
    · exact (reachG_sub b set f s g).trans (sub_or _ _)
    · exact reachG_sub b set f s g
theorem reachG_lt {b : Nat → Nat → Bool} {set f n s : Nat} (hs : s < 2 ^ n) : ∀ g, g ≤ n → reachG b set f g s < 2 ^ n
  | 0, _ => hs
  | g + 1, hg => by
    have ih := reachG_lt (b := b) (set := set) (f := f) hs g (by omega)
    simp only [reachG]
    split
    · exact sub_set_lt ih (by omega)
    · exact ih
theorem reachF_sub (b : Nat → Nat → Bool) (set n s : Nat) : ∀ f, Sub s (reachF b set n f s)
  | 0 => Sub.refl s
  | f + 1 => (reachF_sub b set n s f).trans (reachG_sub b set f _ n)
theorem reachF_lt {b : Nat → Nat → Bool} {set n s : Nat} (hs : s < 2 ^ n) : ∀ f, reachF b set n f s < 2 ^ n
  | 0 => hs
  | f + 1 => reachG_lt (reachF_lt hs f) n (Nat.le_refl _)
theorem sub_both {s t : Nat} (h1 : Sub s t) (h2 : Sub t s) : s = t := Nat.eq_of_testBit_eq fun i => by
  rw [Bool.eq_iff_iff]
  exact ⟨h1 i, h2 i⟩
theorem reachG_mono {b : Nat → Nat → Bool} {set f s : Nat} : ∀ n g, g ≤ n → Sub (reachG b set f g s) (reachG b set f n s)
  | 0, g, h => by
    have : g = 0 := by omega
    subst this
    exact Sub.refl _
  | n + 1, g, h => by
    rcases Nat.lt_or_ge g (n + 1) with hlt | hge
    · refine (reachG_mono n g (by omega)).trans ?_
      simp only [reachG]
      split
      · exact sub_or _ _
      · exact Sub.refl _
    · have : g = n + 1 := by omega
      subst this
      exact Sub.refl _
theorem reachG_end {b : Nat → Nat → Bool} {set f n s : Nat} (h : reachG b set f n s = s) {g : Nat} (hg : g < n) (h1 : s.testBit f = true) (h2 : set.testBit g = true) (h3 : b f g = true) : s.testBit g = true := by
  have e : reachG b set f g s = s := sub_both (by have := reachG_mono (b := b) (set := set) (f := f) (s := s) n g (by omega); rwa [h] at this) (reachG_sub b set f s g)
  have e2 : reachG b set f (g + 1) s = s := sub_both (by have := reachG_mono (b := b) (set := set) (f := f) (s := s) n (g + 1) (by omega); rwa [h] at this) (reachG_sub b set f s _)
  simp only [reachG, e] at e2
  rw [if_pos ⟨h1, h2, h3⟩] at e2
  rw [← e2]
  exact or_bit.2 (.inr rfl)
theorem reachF_mono {b : Nat → Nat → Bool} {set m s : Nat} : ∀ n f, f ≤ n → Sub (reachF b set m f s) (reachF b set m n s)
  | 0, f, h => by
    have : f = 0 := by omega
    subst this
    exact Sub.refl _
  | n + 1, f, h => by
    rcases Nat.lt_or_ge f (n + 1) with hlt | hge
    · exact (reachF_mono n f (by omega)).trans (reachG_sub b set n _ m)
    · have : f = n + 1 := by omega
      subst this
      exact Sub.refl _
theorem reach_closing (b : Nat → Nat → Bool) (set n : Nat) : Closing n (toIn b set n) (reachF b set n n) where
  infl s _ := reachF_sub b set n s n
  bound s hs := reachF_lt hs n
  sound C hC s hs h0 := by
    have inner : ∀ f, f < n → ∀ t, t < 2 ^ n → (∀ i, t.testBit i = true → C i) → ∀ g, g ≤ n → ∀ i, (reachG b set f g t).testBit i = true → C i := by
      intro f hf t ht h g
      induction g with
      | zero => intro _; exact h
      | succ g ih =>
        intro hg i hi
        simp only [reachG] at hi
        split at hi
        · rename_i hc
          rcases or_bit.1 hi with hi | rfl
          · exact ih (by omega) i hi
          · exact hC f g (ih (by omega) f hc.1) ⟨hf, by omega, hc.2.1, hc.2.2⟩
        · exact ih (by omega) i hi
    have outer : ∀ f, f ≤ n → ∀ i, (reachF b set n f s).testBit i = true → C i := by
      intro f
      induction f with
      | zero => intro _; exact h0
      | succ f ih => intro hf; exact inner f (by omega) _ (reachF_lt hs f) (ih (by omega)) n (Nat.le_refl _)
    exact outer n (Nat.le_refl _)
  fix s hs e i j hi hij := by
    obtain ⟨h1, h2, h3, h4⟩ := hij
    have e1 : reachF b set n i s = s := sub_both (by have := reachF_mono (b := b) (set := set) (m := n) (s := s) n i (by omega); rwa [e] at this) (reachF_sub b set n s i)
    have e2 : reachG b set i n s = s := by
      have h5 : reachF b set n (i + 1) s = s := sub_both (by have := reachF_mono (b := b) (set := set) (m := n) (s := s) n (i + 1) (by omega); rwa [e] at this) (reachF_sub b set n s _)
      simp only [reachF, e1] at h5
      exact h5
    exact reachG_end e2 h2 hi h3 h4
/-- A set of faces hangs together: from its least face all are reached. -/
def lowOf (set : Nat) : Nat → Nat
  | 0 => 0
  | n + 1 => if set.testBit 0 = true then 0 else lowOf (set / 2) n + 1
theorem low_facts : ∀ (n set : Nat), set ≠ 0 → set < 2 ^ n → set.testBit (lowOf set n) = true ∧ lowOf set n < n ∧ ∀ i, i < lowOf set n → set.testBit i = false
  | 0, set, h0, h => absurd h (by have : (2 : Nat) ^ 0 = 1 := rfl; omega)
  | n + 1, set, h0, h => by
    simp only [lowOf]
    split
    · rename_i hb
      exact ⟨hb, by omega, fun i hi => absurd hi (by omega)⟩
    · rename_i hb
      have h1 : set % 2 = 0 := by
        rw [Nat.testBit_zero] at hb
        simpa using hb
      have hp : (2 : Nat) ^ (n + 1) = 2 * 2 ^ n := by rw [Nat.pow_succ]; omega
      obtain ⟨a1, a2, a3⟩ := low_facts n (set / 2) (by omega) (by omega)
      refine ⟨by rw [Nat.testBit_succ]; exact a1, by omega, fun i hi => ?_⟩
      cases i with
      | zero => rw [Nat.testBit_zero]; simp [h1]
      | succ i => rw [Nat.testBit_succ]; exact a3 i (by omega)
theorem low_eq {set n p : Nat} (h0 : set ≠ 0) (h : set < 2 ^ n) (h1 : set.testBit p = true) (h2 : ∀ i, i < p → set.testBit i = false) : lowOf set n = p := by
  obtain ⟨a1, _, a3⟩ := low_facts n set h0 h
  rcases Nat.lt_trichotomy (lowOf set n) p with hlt | he | hlt
  · rw [h2 _ hlt] at a1; cases a1
  · exact he
  · rw [a3 _ hlt] at h1; cases h1
def joinedB (b : Nat → Nat → Bool) (set n : Nat) : Bool := it (reachF b set n n) n (2 ^ lowOf set n) == set
theorem joined_same {b : Nat → Nat → Bool} {near : Nat → Nat} {set n : Nat} (hb : ∀ a c, b a c = b c a) (hn : ∀ f g, (near f).testBit g = b f g) (h0 : set ≠ 0) (h : set < 2 ^ n) : (it (joinTo near set n) n (2 ^ lowOf set n) == set) = joinedB b set n := by
  unfold joinedB
  have hl := (low_facts n set h0 h).2.1
  rw [(join_closing (set := set) (n := n) hb hn).same (reach_closing b set n) (Nat.pow_lt_pow_right (by decide) hl) (Nat.ne_of_gt (Nat.two_pow_pos _))]
/-- The lowest bit, by two's complement. -/
theorem pred_div {s P q : Nat} (hs : s = P * q) (hq : q % 2 = 1) (hP : 0 < P) : (s - 1) / P = q - 1 := by
  obtain ⟨r, rfl⟩ : ∃ r, q = r + 1 := ⟨q - 1, by omega⟩
  rw [Nat.mul_add, Nat.mul_one] at hs
  have e : s - 1 = P * r + (P - 1) := by omega
  rw [e, Nat.mul_add_div hP, Nat.div_eq_of_lt (by omega)]
  omega
theorem low_bit {s n : Nat} (h0 : s ≠ 0) (h : s < 2 ^ n) (hn : n ≤ 62) : s &&& (2 ^ 64 - s) = 2 ^ lowOf s n := by
  have e : 2 ^ 64 - s = 2 ^ 64 - (s - 1 + 1) := by omega
  have hle : (2 : Nat) ^ n ≤ 2 ^ 62 := Nat.pow_le_pow_right (by decide) hn
  have h64 : s - 1 < 2 ^ 64 := by
    have : (2 : Nat) ^ 62 < 2 ^ 64 := by decide
    omega
  obtain ⟨a1, a2, a3⟩ := low_facts n s h0 h
  obtain ⟨p, hp⟩ : ∃ p, lowOf s n = p := ⟨_, rfl⟩
  rw [hp] at a1 a2 a3 ⊢
  have hmod : s % 2 ^ p = 0 := by
    refine Nat.eq_of_testBit_eq fun i => ?_
    rw [Nat.testBit_mod_two_pow, Nat.zero_testBit]
    by_cases hi : i < p
    · rw [a3 i hi]; simp
    · simp [hi]
  have hdiv : s / 2 ^ p % 2 = 1 := by
    have := a1
    rw [Nat.testBit_eq_decide_div_mod_eq] at this
    simpa using this
  have hpos : 0 < 2 ^ p := Nat.two_pow_pos p
  have hs : s = 2 ^ p * (s / 2 ^ p) := by
    have h5 := Nat.div_add_mod s (2 ^ p)
    rw [hmod, Nat.add_zero] at h5
    exact h5.symm
  obtain ⟨q, hq⟩ : ∃ q, s / 2 ^ p = q := ⟨_, rfl⟩
  rw [hq] at hs hdiv
  have e4 : (s - 1) / 2 ^ p = q - 1 := pred_div hs hdiv hpos
  refine Nat.eq_of_testBit_eq fun i => ?_
  rw [Nat.testBit_and, e, Nat.testBit_two_pow_sub_succ h64, Nat.testBit_two_pow]
  rcases Nat.lt_trichotomy i p with hlt | he | hlt
  · rw [a3 i hlt]
    have : ¬ p = i := by omega
    simp [this]
  · subst he
    have h2 : (s - 1).testBit i = false := by
      rw [Nat.testBit_eq_decide_div_mod_eq, e4]
      exact decide_eq_false (by omega)
    rw [a1, h2]
    have : i < 64 := by omega
    simp [this]
  · have h2 : (s - 1).testBit i = s.testBit i := by
      obtain ⟨j, rfl⟩ : ∃ j, i = p + 1 + j := ⟨i - (p + 1), by omega⟩
      have e3 : ∀ x : Nat, x.testBit (p + 1 + j) = (x / 2 ^ p / 2).testBit j := fun x => by
        have e5 : p + 1 + j = j + 1 + p := by omega
        rw [e5, ← Nat.testBit_div_two_pow, ← Nat.testBit_div_two_pow, Nat.pow_one]
      rw [e3, e3, e4, hq]
      congr 1
      omega
    rw [h2]
    have : ¬ p = i := by omega
    cases s.testBit i <;> simp [this]
end Go.Proofs.Ytkgbilbicdiadaa
