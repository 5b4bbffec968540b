/- Plain law on matchings of shapes and panes: the picks in their order, and the first set of shapes with too few places (no program in sight). No condition. -/
import Derived.Test.YtabgcpoaepafjaaGreatMatch
import Derived.Test.YtabgcpoaepafjaaGreatGeo
set_option linter.unusedSimpArgs false
set_option linter.unusedVariables false
namespace Go.Proofs.YtabgcpoaepafjaaGreat

/-! the picks -/
def takes (P : List (List Nat)) (used : List Nat) (best : Nat) (p : Nat) : Bool := !used.contains p && decide (1 + bestM P (used ++ [p]) = best)
def pickOf (r : List Nat) (P : List (List Nat)) (used : List Nat) : Option Nat := r.find? (takes P used (bestM (r :: P) used))
def pickR : List (List Nat) → List Nat → List Int
  | [], _ => []
  | r :: P, used => (match pickOf r P used with
    | some p => (p : Int) :: pickR P (used ++ [p])
    | none => (-1) :: pickR P used)
theorem pickR_length : ∀ (P : List (List Nat)) (used : List Nat), (pickR P used).length = P.length
  | [], _ => rfl
  | r :: P, used => by
    unfold pickR
    cases pickOf r P used <;> simp [pickR_length P]
theorem pick_none {r : List Nat} {P : List (List Nat)} {used : List Nat} (h : pickOf r P used = none) : bestM (r :: P) used = bestM P used := by
  have h1 : ∀ p ∈ r, takes P used (bestM (r :: P) used) p = false := by
    intro p hp
    have := List.find?_eq_none.1 h p hp
    simpa using this
  have h2 := fold_had (g := fun p => 1 + bestM P (used ++ [p])) (q := fun p => used.contains p) r (bestM P used)
  have h3 : bestM (r :: P) used = r.foldl (fun b p => if used.contains p then b else max b (1 + bestM P (used ++ [p]))) (bestM P used) := rfl
  rcases h2 with h2 | ⟨p, hp, hq, e⟩
  · rw [h3]; exact h2
  · have h4 := h1 p hp
    unfold takes at h4
    rw [hq, Bool.not_false, Bool.true_and, decide_eq_false_iff_not] at h4
    exact absurd (by rw [h3]; exact e.symm) h4
theorem pick_some {r : List Nat} {P : List (List Nat)} {used : List Nat} {p : Nat} (h : pickOf r P used = some p) : p ∈ r ∧ p ∉ used ∧ 1 + bestM P (used ++ [p]) = bestM (r :: P) used := by
  have h1 := List.mem_of_find?_eq_some h
  have h2 := List.find?_some h
  unfold takes at h2
  rw [Bool.and_eq_true, decide_eq_true_eq] at h2
  exact ⟨h1, by simpa using h2.1, h2.2⟩
/-- The first k rows alone. -/
theorem pickR_step {P : List (List Nat)} : ∀ {k : Nat} (_ : k < P.length) (used : List Nat), ∃ u2, u2.length ≤ used.length + k ∧ (∀ x ∈ u2, x ∈ used ∨ ∃ r ∈ P, x ∈ r) ∧ pickR P used = (pickR P used).take k ++ pickR (P.drop k) u2 := by
  intro k
  induction k generalizing P with
  | zero => intro _ used; exact ⟨used, by omega, fun x hx => .inl hx, by simp⟩
  | succ k ih =>
    intro hk used
    match P, hk with
    | r :: P, hk =>
      cases hp : pickOf r P used with
      | none =>
        obtain ⟨u2, h1, h2, h3⟩ := ih (P := P) (by simpa using hk) used
        refine ⟨u2, by omega, fun x hx => (h2 x hx).imp id fun ⟨r', a, b⟩ => ⟨r', by simp [a], b⟩, ?_⟩
        have e : pickR (r :: P) used = (-1) :: pickR P used := by rw [pickR, hp]
        rw [e, List.take_succ_cons, List.drop_succ_cons, List.cons_append, ← h3]
      | some p =>
        obtain ⟨u2, h1, h2, h3⟩ := ih (P := P) (by simpa using hk) (used ++ [p])
        refine ⟨u2, by simp at h1; omega, fun x hx => ?_, ?_⟩
        · rcases h2 x hx with h | ⟨r', a, b⟩
          · rcases List.mem_append.1 h with h | h
            · exact .inl h
            · simp at h
              subst h
              exact .inr ⟨r, by simp, (pick_some hp).1⟩
          · exact .inr ⟨r', by simp [a], b⟩
        · have e : pickR (r :: P) used = (p : Int) :: pickR P (used ++ [p]) := by rw [pickR, hp]
          rw [e, List.take_succ_cons, List.drop_succ_cons, List.cons_append, ← h3]

/-! the first set with too few places -/
/-- The places of a row as bits. -/
def bitsOf (r : List Nat) : Nat := r.foldl (fun a p => a ||| 2 ^ p) 0
/-- The places of the rows of a set, of the first m rows. -/
def orB (P : List (List Nat)) (s : Nat) : Nat → Nat
  | 0 => 0
  | m + 1 => if s.testBit m then orB P s m ||| bitsOf (P.getD m []) else orB P s m
theorem fold_or : ∀ (r : List Nat) (a : Nat), r.foldl (fun a p => a ||| 2 ^ p) a = a ||| bitsOf r
  | [], a => by simp [bitsOf]
  | p :: r, a => by
    have e : bitsOf (p :: r) = (0 ||| 2 ^ p) ||| bitsOf r := by rw [bitsOf, List.foldl_cons, fold_or r]
    rw [List.foldl_cons, fold_or r, e, Nat.zero_or, Nat.or_assoc]
theorem bitsOf_take {r : List Nat} {k : Nat} (hk : k < r.length) : bitsOf (r.take (k + 1)) = bitsOf (r.take k) ||| 2 ^ r[k] := by
  rw [List.take_succ_eq_append_getElem hk, bitsOf, List.foldl_append]
  rfl
theorem bitsOf_bit {r : List Nat} {p : Nat} : (bitsOf r).testBit p = true ↔ p ∈ r := by
  induction r with
  | nil => simp [bitsOf]
  | cons q r ih =>
    have e : bitsOf (q :: r) = 2 ^ q ||| bitsOf r := by rw [bitsOf, List.foldl_cons, fold_or, Nat.zero_or]
    rw [e, Nat.testBit_or, Nat.testBit_two_pow, Bool.or_eq_true, ih]
    simp [eq_comm]
theorem bitsOf_lt {r : List Nat} {n : Nat} (h : ∀ p ∈ r, p < n) : bitsOf r < 2 ^ n := by
  apply Nat.lt_pow_two_of_testBit
  intro i hi
  cases hb : (bitsOf r).testBit i with
  | false => rfl
  | true => have := h i (bitsOf_bit.1 hb); omega
theorem orB_lt {P : List (List Nat)} {n : Nat} (h : ∀ r ∈ P, ∀ p ∈ r, p < n) (s : Nat) : ∀ m, orB P s m < 2 ^ n
  | 0 => Nat.two_pow_pos n
  | m + 1 => by
    unfold orB
    have hb : bitsOf (P.getD m []) < 2 ^ n := bitsOf_lt fun p hp => by
      rw [List.getD_eq_getElem?_getD] at hp
      cases hx : P[m]? with
      | none => rw [hx] at hp; simp at hp
      | some r => rw [hx] at hp; exact h r (List.mem_of_getElem? hx) p hp
    split
    · exact Nat.or_lt_two_pow (orB_lt h s m) hb
    · exact orB_lt h s m
theorem orB_bit {P : List (List Nat)} {s p : Nat} : ∀ m, (orB P s m).testBit p = true ↔ ∃ k, k < m ∧ s.testBit k = true ∧ p ∈ P.getD k []
  | 0 => by simp [orB]
  | m + 1 => by
    unfold orB
    split
    · rename_i hs
      rw [Nat.testBit_or, Bool.or_eq_true, orB_bit m, bitsOf_bit]
      constructor
      · rintro (⟨k, h1, h2, h3⟩ | h)
        · exact ⟨k, by omega, h2, h3⟩
        · exact ⟨m, by omega, hs, h⟩
      · rintro ⟨k, h1, h2, h3⟩
        rcases Nat.lt_or_eq_of_le (Nat.le_of_lt_succ h1) with q | q
        · exact .inl ⟨k, q, h2, h3⟩
        · exact .inr (q ▸ h3)
    · rename_i hs
      rw [orB_bit m]
      constructor
      · rintro ⟨k, h1, h2, h3⟩; exact ⟨k, by omega, h2, h3⟩
      · rintro ⟨k, h1, h2, h3⟩
        rcases Nat.lt_or_eq_of_le (Nat.le_of_lt_succ h1) with q | q
        · exact ⟨k, q, h2, h3⟩
        · exact absurd (q ▸ h2) hs
/-- Too few places for the set s (n: above all places). -/
def fewB (P : List (List Nat)) (n s : Nat) : Bool := decide ((memN (orB P s P.length) n).length < (memN s P.length).length)
/-- The members of the first set from s on with too few places; f sets are looked at. -/
def lackF (P : List (List Nat)) (n : Nat) : Nat → Nat → List Int
  | 0, _ => []
  | f + 1, s => if fewB P n s then memI s P.length else lackF P n f (s + 1)
def lackM (P : List (List Nat)) (n : Nat) : List Int := lackF P n (2 ^ P.length - 1) 1
theorem lackF_length (P : List (List Nat)) (n : Nat) : ∀ f s, (lackF P n f s).length ≤ P.length
  | 0, _ => by simp [lackF]
  | f + 1, s => by
    unfold lackF
    split
    · rw [memI_length]; exact memN_length _ _
    · exact lackF_length P n f (s + 1)
theorem lackM_length (P : List (List Nat)) (n : Nat) : (lackM P n).length ≤ P.length := lackF_length _ _ _ _
theorem lackF_yes {P : List (List Nat)} {n f s : Nat} (h : fewB P n s = true) : lackF P n (f + 1) s = memI s P.length := by rw [lackF, if_pos h]
theorem lackF_no {P : List (List Nat)} {n f s : Nat} (h : fewB P n s = false) : lackF P n (f + 1) s = lackF P n f (s + 1) := by rw [lackF, if_neg (by simp [h])]
/-- The places of the rows that a list names. -/
def orL (P : List (List Nat)) (l : List Nat) : Nat := l.foldl (fun a k => a ||| bitsOf (P.getD k [])) 0
theorem orL_snoc (P : List (List Nat)) (l : List Nat) (k : Nat) : orL P (l ++ [k]) = orL P l ||| bitsOf (P.getD k []) := by simp [orL]
theorem orL_mem (P : List (List Nat)) (s : Nat) : ∀ m, orL P (memN s m) = orB P s m
  | 0 => rfl
  | m + 1 => by
    rw [memN_succ, orB]
    cases h : s.testBit m with
    | true => simp only [if_true]; rw [orL_snoc, orL_mem P s m]
    | false => simp only [Bool.false_eq_true, if_false, List.append_nil]; exact orL_mem P s m
theorem row_lt {P : List (List Nat)} {n : Nat} (h : ∀ r ∈ P, ∀ p ∈ r, p < n) (k : Nat) : ∀ p ∈ P.getD k [], p < n := by
  intro p hp
  rw [List.getD_eq_getElem?_getD] at hp
  cases hx : P[k]? with
  | none => rw [hx] at hp; simp at hp
  | some r => rw [hx] at hp; exact h r (List.mem_of_getElem? hx) p hp
theorem orL_lt {P : List (List Nat)} {n : Nat} (h : ∀ r ∈ P, ∀ p ∈ r, p < n) (l : List Nat) : orL P l < 2 ^ n := by
  have key : ∀ (l : List Nat) (a : Nat), a < 2 ^ n → l.foldl (fun a k => a ||| bitsOf (P.getD k [])) a < 2 ^ n := by
    intro l
    induction l with
    | nil => intro a ha; exact ha
    | cons k l ih => intro a ha; exact ih _ (Nat.or_lt_two_pow ha (bitsOf_lt (row_lt h k)))
  exact key l 0 (Nat.two_pow_pos n)
theorem bitsOf_take_lt {r : List Nat} {n : Nat} (h : ∀ p ∈ r, p < n) (k : Nat) : bitsOf (r.take k) < 2 ^ n := bitsOf_lt fun p hp => h p (List.mem_of_mem_take hp)
/-! counting bits by taking the lowest away -/
theorem memN_half (x n : Nat) : (memN x (n + 1)).length = (if x.testBit 0 = true then 1 else 0) + (memN (x / 2) n).length := by
  have h : ∀ l : List Nat, ((l.map (· + 1)).filter (x.testBit ·)).length = (l.filter ((x / 2).testBit ·)).length := by
    intro l
    induction l with
    | nil => rfl
    | cons a l ih =>
      have e : x.testBit (a + 1) = (x / 2).testBit a := Nat.testBit_succ x a
      simp only [List.map_cons, List.filter_cons, e]
      split <;> simp [ih]
  unfold memN
  rw [List.range_succ_eq_map, List.filter_cons]
  have h2 := h (List.range n)
  split
  · rename_i h0
    rw [List.length_cons]
    have e : List.map Nat.succ (List.range n) = List.map (· + 1) (List.range n) := rfl
    rw [e, h2]
    omega
  · rename_i h0
    have e : List.map Nat.succ (List.range n) = List.map (· + 1) (List.range n) := rfl
    rw [e, h2]
    omega
theorem pop_step : ∀ (n x : Nat), 0 < x → x < 2 ^ n → (memN (x &&& (x - 1)) n).length + 1 = (memN x n).length
  | 0, x, h0, h => by simp at h; omega
  | n + 1, x, h0, h => by
    rw [memN_half, memN_half, Nat.and_div_two]
    have hx2 : x / 2 < 2 ^ n := by rw [Nat.pow_succ] at h; omega
    by_cases ho : x % 2 = 1
    · have t0 : x.testBit 0 = true := by rw [Nat.testBit_zero]; exact decide_eq_true ho
      have t1 : (x - 1).testBit 0 = false := by rw [Nat.testBit_zero]; exact decide_eq_false (by omega)
      have e : (x - 1) / 2 = x / 2 := by omega
      rw [e, Nat.and_self, Nat.testBit_and, t0, t1]
      simp
      omega
    · have t0 : x.testBit 0 = false := by rw [Nat.testBit_zero]; exact decide_eq_false ho
      have e : (x - 1) / 2 = x / 2 - 1 := by omega
      have ih := pop_step n (x / 2) (by omega) hx2
      rw [e, Nat.testBit_and, t0]
      simp
      exact ih
theorem memN_zero (n : Nat) : (memN 0 n).length = 0 := by
  induction n with
  | zero => rfl
  | succ n ih => rw [memN_succ]; simp [ih]
end Go.Proofs.YtabgcpoaepafjaaGreat
