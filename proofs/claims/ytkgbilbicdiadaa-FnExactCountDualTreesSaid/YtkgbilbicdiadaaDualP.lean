/- Plain law on the dual's table: how many leads two panes share, and that the table is a graph's (no program in sight). No condition. -/
import Derived.Test.YtkgbilbicdiadaaDetP
import Derived.Test.YtkgbilbicdiadaaFaces
set_option linter.unusedSimpArgs false
set_option linter.unusedVariables false
namespace Go.Proofs.Ytkgbilbicdiadaa

/-- Lead t lies between a and b. -/
def ssB (s : Nat → Nat) (a b t : Nat) : Bool := (decide (s (2 * t) = a) && decide (s (2 * t + 1) = b)) || (decide (s (2 * t) = b) && decide (s (2 * t + 1) = a))
def shL (s : Nat → Nat) (a b k : Nat) : List Nat := (List.range k).filter (ssB s a b)
def dgB (s : Nat → Nat) (a d : Nat) : Bool := decide (s d = a) && !decide (s (d ^^^ 1) = a)
def dgD (s : Nat → Nat) (a : Nat) : Nat → Nat
  | 0 => 0
  | d + 1 => dgD s a d + if dgB s a d = true then 1 else 0
/-- Ends of lead t at a, if its sides are two. -/
def dg1 (s : Nat → Nat) (a t : Nat) : Nat := if s (2 * t) = s (2 * t + 1) then 0 else if s (2 * t) = a ∨ s (2 * t + 1) = a then 1 else 0
def sh1 (s : Nat → Nat) (a b t : Nat) : Nat := if ssB s a b t = true then 1 else 0
def tabD (s : Nat → Nat) : Nat → Nat → Nat → Int
  | 0 => fun _ _ => 0
  | k + 1 => fun i j => tabD s k i j + if i = j then (dg1 s (i + 1) k : Int) else -(sh1 s (i + 1) (j + 1) k : Int)
theorem tab_diag (s : Nat → Nat) (i : Nat) : ∀ k, tabD s k i i = (dgD s (i + 1) (2 * k) : Int)
  | 0 => rfl
  | k + 1 => by
    have h1 : (2 * k) ^^^ 1 = 2 * k + 1 := by rw [twin_xor]; unfold twin; (try split) <;> omega
    have h2 : (2 * k + 1) ^^^ 1 = 2 * k := by rw [twin_xor]; unfold twin; (try split) <;> omega
    show tabD s k i i + _ = _
    rw [if_pos rfl, tab_diag s i k, show 2 * (k + 1) = 2 * k + 1 + 1 by omega]
    simp only [dgD, dgB, dg1, h1, h2]
    by_cases e1 : s (2 * k) = i + 1
    · by_cases e2 : s (2 * k + 1) = i + 1 <;> simp [e1, e2]
      have e3 : ¬ i + 1 = s (2 * k + 1) := by omega
      simp [e3]
    · by_cases e2 : s (2 * k + 1) = i + 1
      · simp [e1, e2]
      · simp [e1, e2]
theorem shL_next (s : Nat → Nat) (a b k : Nat) : (shL s a b (k + 1)).length = (shL s a b k).length + sh1 s a b k := by
  unfold shL sh1
  rw [List.range_succ, List.filter_append, List.length_append]
  cases h : ssB s a b k <;> simp [h]
theorem tab_off (s : Nat → Nat) {i j : Nat} (hij : i ≠ j) : ∀ k, tabD s k i j = -((shL s (i + 1) (j + 1) k).length : Int)
  | 0 => rfl
  | k + 1 => by
    show tabD s k i j + _ = _
    rw [if_neg hij, tab_off s hij k, shL_next]
    omega
theorem shL_le (s : Nat → Nat) (a b k : Nat) : (shL s a b k).length ≤ k := Nat.le_trans (List.length_filter_le _ _) (by simp)
theorem dgD_le (s : Nat → Nat) (a : Nat) : ∀ d, dgD s a d ≤ d
  | 0 => Nat.le_refl _
  | d + 1 => by
    have := dgD_le s a d
    simp only [dgD]
    split <;> omega
theorem tab_small (s : Nat → Nat) (k i j : Nat) : -(2 * (k : Int)) ≤ tabD s k i j ∧ tabD s k i j ≤ 2 * (k : Int) := by
  by_cases e : i = j
  · subst e
    rw [tab_diag]
    have := dgD_le s (i + 1) (2 * k)
    omega
  · rw [tab_off s e]
    have := shL_le s (i + 1) (j + 1) k
    omega
theorem rs_addf (f g : Nat → Int) : ∀ (c k : Nat), rs (fun j => f j + g j) k c = rs f k c + rs g k c
  | 0, _ => rfl
  | c + 1, k => by
    simp only [rs]
    rw [rs_addf f g c (k + 1)]
    omega
theorem rs_none {h : Nat → Int} : ∀ (c k : Nat), (∀ j, k ≤ j → j < k + c → h j = 0) → rs h k c = 0
  | 0, _, _ => rfl
  | c + 1, k, e => by
    simp only [rs]
    rw [e k (Nat.le_refl _) (by omega), rs_none c (k + 1) fun j h1 h2 => e j (by omega) (by omega)]
    rfl
/-- All but one number are 0. -/
theorem rs_single {h : Nat → Int} {c k q : Nat} (e : ∀ j, k ≤ j → j < k + c → j ≠ q → h j = 0) : rs h k c = if k ≤ q ∧ q < k + c then h q else 0 := by
  by_cases hq : k ≤ q ∧ q < k + c
  · rw [if_pos hq, rs_split c k q hq.1 hq.2, rs_none]
    · omega
    · intro j h1 h2
      show (if j = q then 0 else h j) = 0
      split
      · rfl
      · exact e j h1 h2 ‹_›
  · rw [if_neg hq]
    exact rs_none c k fun j h1 h2 => e j h1 h2 (by omega)
theorem row_step (s : Nat → Nat) (n t i : Nat) (hi : i < n) : 0 ≤ rs (fun j => if i = j then (dg1 s (i + 1) t : Int) else -(sh1 s (i + 1) (j + 1) t : Int)) 0 n := by
  rw [rs_split n 0 i (Nat.zero_le _) (by omega), if_pos rfl]
  have H : ∀ q : Nat, (∀ j, j ≠ i → j ≠ q → sh1 s (i + 1) (j + 1) t = 0) → (q ≠ i → sh1 s (i + 1) (q + 1) t ≤ dg1 s (i + 1) t) → 0 ≤ (dg1 s (i + 1) t : Int) + rs (fun j => if j = i then 0 else if i = j then (dg1 s (i + 1) t : Int) else -(sh1 s (i + 1) (j + 1) t : Int)) 0 n := fun q h1 h2 => by
    rw [rs_single (q := q) (fun j _ _ hj => ?_)]
    · by_cases hq : q = i
      · subst hq
        split <;> simp
      · have := h2 hq
        have hq' : ¬ i = q := fun e => hq e.symm
        split
        · (first | rw [if_neg hq, if_neg hq'] | rw [if_neg hq'] | skip); omega
        · omega
    · by_cases hji : j = i
      · rw [if_pos hji]
      · rw [if_neg hji, if_neg (fun e => hji e.symm), h1 j hji hj]; rfl
  by_cases e1 : s (2 * t) = i + 1
  · refine H (s (2 * t + 1) - 1) (fun j hj hq => ?_) (fun hq => ?_)
    · unfold sh1 ssB
      rw [if_neg]
      simp
      omega
    · unfold dg1
      rw [if_neg (by omega), if_pos (.inl e1)]
      unfold sh1
      split <;> omega
  · by_cases e2 : s (2 * t + 1) = i + 1
    · refine H (s (2 * t) - 1) (fun j hj hq => ?_) (fun hq => ?_)
      · unfold sh1 ssB
        rw [if_neg]
        simp
        omega
      · unfold dg1
        rw [if_neg (by omega), if_pos (.inr e2)]
        unfold sh1
        split <;> omega
    · refine H i (fun j hj hq => ?_) (fun hq => absurd rfl hq)
      unfold sh1 ssB
      rw [if_neg]
      simp
      omega
theorem tab_row (s : Nat → Nat) (n i : Nat) (hi : i < n) : ∀ k, 0 ≤ rs (tabD s k i) 0 n
  | 0 => by rw [rs_none]; exact Int.le_refl _; intro j _ _; rfl
  | k + 1 => by
    have h1 := tab_row s n i hi k
    have h2 := row_step s n k i hi
    have e : tabD s (k + 1) i = fun j => tabD s k i j + if i = j then (dg1 s (i + 1) k : Int) else -(sh1 s (i + 1) (j + 1) k : Int) := rfl
    rw [e, rs_addf]
    omega
theorem diag_step (s : Nat → Nat) (n t : Nat) : rs (fun i => (dg1 s (i + 1) t : Int)) 0 n ≤ 2 := by
  have h : (fun i => (dg1 s (i + 1) t : Int)) = fun i => (if s (2 * t) = s (2 * t + 1) then 0 else if s (2 * t) = i + 1 then 1 else 0 : Int) + (if s (2 * t) = s (2 * t + 1) then 0 else if s (2 * t + 1) = i + 1 then 1 else 0 : Int) := by
    funext i
    unfold dg1
    by_cases e : s (2 * t) = s (2 * t + 1)
    · simp [e]
    · rw [if_neg e, if_neg e, if_neg e]
      by_cases e1 : s (2 * t) = i + 1
      · have e2 : ¬ s (2 * t + 1) = i + 1 := by omega
        simp [e1, e2]
      · by_cases e2 : s (2 * t + 1) = i + 1 <;> simp [e1, e2]
  rw [h, rs_addf, rs_single (q := s (2 * t) - 1), rs_single (q := s (2 * t + 1) - 1)]
  · have key : ∀ (P : Prop) [Decidable P] (x : Int), x ≤ 1 → (if P then x else 0) ≤ 1 := fun P _ x hx => by split <;> omega
    have hx : ∀ v i : Nat, (if s (2 * t) = s (2 * t + 1) then 0 else if v = i + 1 then 1 else 0 : Int) ≤ 1 := by
      intro v i
      by_cases q1 : s (2 * t) = s (2 * t + 1)
      · rw [if_pos q1]; decide
      · rw [if_neg q1]
        by_cases q2 : v = i + 1
        · rw [if_pos q2]; decide
        · rw [if_neg q2]; decide
    have a := key (0 ≤ s (2 * t) - 1 ∧ s (2 * t) - 1 < 0 + n) _ (hx (s (2 * t)) (s (2 * t) - 1))
    have b := key (0 ≤ s (2 * t + 1) - 1 ∧ s (2 * t + 1) - 1 < 0 + n) _ (hx (s (2 * t + 1)) (s (2 * t + 1) - 1))
    omega
  · intro j _ _ hj
    split
    · rfl
    · rw [if_neg (by omega)]
  · intro j _ _ hj
    split
    · rfl
    · rw [if_neg (by omega)]
theorem tab_sum (s : Nat → Nat) (n : Nat) : ∀ k, rs (fun i => tabD s k i i) 0 n ≤ 2 * (k : Int)
  | 0 => by rw [rs_none]; exact Int.le_refl _; intro j _ _; rfl
  | k + 1 => by
    have h1 := tab_sum s n k
    have h2 := diag_step s n k
    have e : (fun i => tabD s (k + 1) i i) = fun i => tabD s k i i + (dg1 s (i + 1) k : Int) := by
      funext i
      show tabD s k i i + _ = _
      rw [if_pos rfl]
    rw [e, rs_addf]
    omega
theorem ssB_sym (s : Nat → Nat) (a b t : Nat) : ssB s a b t = ssB s b a t := by
  unfold ssB
  rw [Bool.or_comm]
theorem tab_sml (s : Nat → Nat) (n : Nat) {m : Nat} (hm : m ≤ 20) : Sml n (tabD s m) := by
  refine ⟨⟨fun i j _ _ _ _ => ?_, fun i j _ _ _ _ hij => ?_, fun i _ hi => ?_⟩, ?_⟩
  · by_cases e : i = j
    · subst e; rfl
    · rw [tab_off s e, tab_off s (fun q => e q.symm)]
      have : shL s (i + 1) (j + 1) m = shL s (j + 1) (i + 1) m := by
        unfold shL
        congr 1
        funext t
        exact ssB_sym _ _ _ _
      rw [this]
  · rw [tab_off s hij]; omega
  · exact tab_row s n i hi m
  · have := tab_sum s n m
    omega
/-- The stores of one lead, as the reference carries them out. -/
def put1 (g : Nat → Nat → Int) (a b : Nat) (v : Int) : Nat → Nat → Int := if 0 < a ∧ 0 < b then upd g (a - 1) (b - 1) (g (a - 1) (b - 1) + v) else g
theorem tab_same {s : Nat → Nat} {k : Nat} (h : s (2 * k) = s (2 * k + 1)) (i j : Nat) : tabD s (k + 1) i j = tabD s k i j := by
  show tabD s k i j + _ = _
  by_cases e : i = j
  · rw [if_pos e]
    unfold dg1
    rw [if_pos h]
    simp
  · rw [if_neg e]
    unfold sh1 ssB
    rw [if_neg (by simp; omega)]
    simp
theorem tab_put {s : Nat → Nat} {k : Nat} (h : s (2 * k) ≠ s (2 * k + 1)) : put1 (put1 (put1 (put1 (tabD s k) (s (2 * k)) (s (2 * k)) 1) (s (2 * k + 1)) (s (2 * k + 1)) 1) (s (2 * k)) (s (2 * k + 1)) (-1)) (s (2 * k + 1)) (s (2 * k)) (-1) = tabD s (k + 1) := by
  funext i j
  show _ = tabD s k i j + _
  obtain ⟨g, hg⟩ : ∃ g, tabD s k = g := ⟨_, rfl⟩
  rw [hg]
  clear hg
  unfold sh1 ssB dg1
  obtain ⟨a, ha⟩ : ∃ a, s (2 * k) = a := ⟨_, rfl⟩
  obtain ⟨b, hb⟩ : ∃ b, s (2 * k + 1) = b := ⟨_, rfl⟩
  rw [ha, hb] at h ⊢
  clear ha hb
  rw [if_neg h]
  have P : ∀ (g : Nat → Nat → Int) (x y : Nat) (v : Int) (i j : Nat), put1 g x y v i j = g i j + if x = i + 1 ∧ y = j + 1 then v else 0 := fun g x y v i j => by
    unfold put1 upd
    by_cases e : 0 < x ∧ 0 < y
    · rw [if_pos e]
      by_cases q : i = x - 1 ∧ j = y - 1
      · rw [if_pos q, if_pos (by omega), q.1, q.2]
      · rw [if_neg q, if_neg (by omega)]; omega
    · rw [if_neg e, if_neg (by omega)]; omega
  rw [P, P, P, P]
  by_cases e : i = j
  · subst e
    rw [if_pos rfl]
    by_cases e1 : a = i + 1
    · have e2 : ¬ b = i + 1 := by omega
      simp [e1, e2]
    · by_cases e2 : b = i + 1 <;> simp [e1, e2]
  · rw [if_neg e]
    by_cases e1 : a = i + 1
    · have e2 : ¬ b = i + 1 := by omega
      have e3 : ¬ a = j + 1 := by omega
      have e4 : ¬ i + 1 = j + 1 := by omega
      by_cases e5 : b = j + 1
      · have e6 : ¬ j + 1 = i + 1 := by omega
        have e7 : ¬ j = i := by omega
        simp [e1, e4, e5, e6, e, e7]
      · simp [e1, e2, e4, e5, e]
    · by_cases e2 : b = i + 1
      · have e4 : ¬ i + 1 = j + 1 := by omega
        by_cases e5 : a = j + 1
        · have e6 : ¬ j + 1 = i + 1 := by omega
          have e7 : ¬ j = i := by omega
          simp [e2, e4, e5, e6, e, e7]
        · simp [e1, e2, e4, e5, e]
      · simp [e1, e2]
end Go.Proofs.Ytkgbilbicdiadaa
