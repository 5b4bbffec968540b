/- Words and walks for the law FnMatches, a part of them. No condition but that the arguments lie in memory. -/
import Derived.Test.YtabgcpoaepafjaaGreatU3
import Derived.Test.YtabgcpoaepafjaaGreatU12
import Derived.Test.YtabgcpoaepafjaaGreatU26
import Derived.Test.YtabgcpoaepafjaaGreatU28
set_option linter.unusedVariables false
set_option linter.unusedSimpArgs false
namespace Go.Proofs.YtabgcpoaepafjaaGreat
/-! the picks -/
def takes (P : List (List Nat)) (used : List Nat) (best : Nat) (p : Nat) : Bool := !used.contains p && decide (1 + bestM P (used ++ [p]) = best)
def pickOf (r : List Nat) (P : List (List Nat)) (used : List Nat) : Option Nat := r.find? (takes P used (bestM (r :: P) used))
def pickR : List (List Nat) → List Nat → List Int
  | [], _ => []
  | r :: P, used => (match pickOf r P used with
    | some p => (p : Int) :: pickR P (used ++ [p])
    | none => (-1) :: pickR P used)
theorem pickR_length : ∀ (P : List (List Nat)) (used : List Nat), (pickR P used).length = P.length
  | [], _ => rfl
  | r :: P, used => by
    unfold pickR
    cases pickOf r P used <;> simp [pickR_length P]
theorem pick_none {r : List Nat} {P : List (List Nat)} {used : List Nat} (h : pickOf r P used = none) : bestM (r :: P) used = bestM P used := by
  have h1 : ∀ p ∈ r, takes P used (bestM (r :: P) used) p = false := by
    intro p hp
    have := List.find?_eq_none.1 h p hp
    simpa using this
  have h2 := fold_had (g := fun p => 1 + bestM P (used ++ [p])) (q := fun p => used.contains p) r (bestM P used)
  have h3 : bestM (r :: P) used = r.foldl (fun b p => if used.contains p then b else max b (1 + bestM P (used ++ [p]))) (bestM P used) := rfl
  rcases h2 with h2 | ⟨p, hp, hq, e⟩
  · rw [h3]; exact h2
  · have h4 := h1 p hp
    unfold takes at h4
    rw [hq, Bool.not_false, Bool.true_and, decide_eq_false_iff_not] at h4
    exact absurd (by rw [h3]; exact e.symm) h4
theorem pick_some {r : List Nat} {P : List (List Nat)} {used : List Nat} {p : Nat} (h : pickOf r P used = some p) : p ∈ r ∧ p ∉ used ∧ 1 + bestM P (used ++ [p]) = bestM (r :: P) used := by
  have h1 := List.mem_of_find?_eq_some h
  have h2 := List.find?_some h
  unfold takes at h2
  rw [Bool.and_eq_true, decide_eq_true_eq] at h2
  exact ⟨h1, by simpa using h2.1, h2.2⟩
/-! the first set with too few places -/
/-- The places of a row as bits. -/
def bitsOf (r : List Nat) : Nat := r.foldl (fun a p => a ||| 2 ^ p) 0
/-- The places of the rows of a set, of the first m rows. -/
def orB (P : List (List Nat)) (s : Nat) : Nat → Nat
  | 0 => 0
  | m + 1 => if s.testBit m then orB P s m ||| bitsOf (P.getD m []) else orB P s m
theorem fold_or : ∀ (r : List Nat) (a : Nat), r.foldl (fun a p => a ||| 2 ^ p) a = a ||| bitsOf r
  | [], a => by simp [bitsOf]
  | p :: r, a => by
    have e : bitsOf (p :: r) = (0 ||| 2 ^ p) ||| bitsOf r := by rw [bitsOf, List.foldl_cons, fold_or r]
    rw [List.foldl_cons, fold_or r, e, Nat.zero_or, Nat.or_assoc]
theorem bitsOf_take {r : List Nat} {k : Nat} (hk : k < r.length) : bitsOf (r.take (k + 1)) = bitsOf (r.take k) ||| 2 ^ r[k] := by
  rw [List.take_succ_eq_append_getElem hk, bitsOf, List.foldl_append]
  rfl
theorem bitsOf_bit {r : List Nat} {p : Nat} : (bitsOf r).testBit p = true ↔ p ∈ r := by
  induction r with
  | nil => simp [bitsOf]
  | cons q r ih =>
    have e : bitsOf (q :: r) = 2 ^ q ||| bitsOf r := by rw [bitsOf, List.foldl_cons, fold_or, Nat.zero_or]
    rw [e, Nat.testBit_or, Nat.testBit_two_pow, Bool.or_eq_true, ih]
    simp [eq_comm]
theorem bitsOf_lt {r : List Nat} {n : Nat} (h : ∀ p ∈ r, p < n) : bitsOf r < 2 ^ n := by
  apply Nat.lt_pow_two_of_testBit
  intro i hi
  cases hb : (bitsOf r).testBit i with
  | false => rfl
  | true => have := h i (bitsOf_bit.1 hb); omega
theorem orB_lt {P : List (List Nat)} {n : Nat} (h : ∀ r ∈ P, ∀ p ∈ r, p < n) (s : Nat) : ∀ m, orB P s m < 2 ^ n
  | 0 => Nat.two_pow_pos n
  | m + 1 => by
    unfold orB
    have hb : bitsOf (P.getD m []) < 2 ^ n := bitsOf_lt fun p hp => by
      rw [List.getD_eq_getElem?_getD] at hp
      cases hx : P[m]? with
      | none => rw [hx] at hp; simp at hp
      | some r => rw [hx] at hp; exact h r (List.mem_of_getElem? hx) p hp
    split
    · exact Nat.or_lt_two_pow (orB_lt h s m) hb
    · exact orB_lt h s m
theorem orB_bit {P : List (List Nat)} {s p : Nat} : ∀ m, (orB P s m).testBit p = true ↔ ∃ k, k < m ∧ s.testBit k = true ∧ p ∈ P.getD k []
  | 0 => by simp [orB]
  | m + 1 => by
    unfold orB
    split
    · rename_i hs
      rw [Nat.testBit_or, Bool.or_eq_true, orB_bit m, bitsOf_bit]
      constructor
      · rintro (⟨k, h1, h2, h3⟩ | h)
        · exact ⟨k, by omega, h2, h3⟩
        · exact ⟨m, by omega, hs, h⟩
      · rintro ⟨k, h1, h2, h3⟩
        rcases Nat.lt_or_eq_of_le (Nat.le_of_lt_succ h1) with q | q
        · exact .inl ⟨k, q, h2, h3⟩
        · exact .inr (q ▸ h3)
    · rename_i hs
      rw [orB_bit m]
      constructor
      · rintro ⟨k, h1, h2, h3⟩; exact ⟨k, by omega, h2, h3⟩
      · rintro ⟨k, h1, h2, h3⟩
        rcases Nat.lt_or_eq_of_le (Nat.le_of_lt_succ h1) with q | q
        · exact ⟨k, q, h2, h3⟩
        · exact absurd (q ▸ h2) hs
/-- Too few places for the set s (n: above all places). -/
def fewB (P : List (List Nat)) (n s : Nat) : Bool := decide ((memN (orB P s P.length) n).length < (memN s P.length).length)
/-- The members of the first set from s on with too few places; f sets are looked at. -/
def lackF (P : List (List Nat)) (n : Nat) : Nat → Nat → List Int
  | 0, _ => []
  | f + 1, s => if fewB P n s then memI s P.length else lackF P n f (s + 1)
def lackM (P : List (List Nat)) (n : Nat) : List Int := lackF P n (2 ^ P.length - 1) 1
theorem lackF_length (P : List (List Nat)) (n : Nat) : ∀ f s, (lackF P n f s).length ≤ P.length
  | 0, _ => by simp [lackF]
  | f + 1, s => by
    unfold lackF
    split
    · rw [memI_length]; exact memN_length _ _
    · exact lackF_length P n f (s + 1)
theorem lackM_length (P : List (List Nat)) (n : Nat) : (lackM P n).length ≤ P.length := lackF_length _ _ _ _
theorem lackF_yes {P : List (List Nat)} {n f s : Nat} (h : fewB P n s = true) : lackF P n (f + 1) s = memI s P.length := by rw [lackF, if_pos h]
theorem lackF_no {P : List (List Nat)} {n f s : Nat} (h : fewB P n s = false) : lackF P n (f + 1) s = lackF P n f (s + 1) := by rw [lackF, if_neg (by simp [h])]
/-- The places of the rows that a list names. -/
def orL (P : List (List Nat)) (l : List Nat) : Nat := l.foldl (fun a k => a ||| bitsOf (P.getD k [])) 0
theorem orL_snoc (P : List (List Nat)) (l : List Nat) (k : Nat) : orL P (l ++ [k]) = orL P l ||| bitsOf (P.getD k []) := by simp [orL]
theorem orL_mem (P : List (List Nat)) (s : Nat) : ∀ m, orL P (memN s m) = orB P s m
  | 0 => rfl
  | m + 1 => by
    rw [memN_succ, orB]
    cases h : s.testBit m with
    | true => simp only [if_true]; rw [orL_snoc, orL_mem P s m]
    | false => simp only [Bool.false_eq_true, if_false, List.append_nil]; exact orL_mem P s m
theorem row_lt {P : List (List Nat)} {n : Nat} (h : ∀ r ∈ P, ∀ p ∈ r, p < n) (k : Nat) : ∀ p ∈ P.getD k [], p < n := by
  intro p hp
  rw [List.getD_eq_getElem?_getD] at hp
  cases hx : P[k]? with
  | none => rw [hx] at hp; simp at hp
  | some r => rw [hx] at hp; exact h r (List.mem_of_getElem? hx) p hp
theorem orL_lt {P : List (List Nat)} {n : Nat} (h : ∀ r ∈ P, ∀ p ∈ r, p < n) (l : List Nat) : orL P l < 2 ^ n := by
  have key : ∀ (l : List Nat) (a : Nat), a < 2 ^ n → l.foldl (fun a k => a ||| bitsOf (P.getD k [])) a < 2 ^ n := by
    intro l
    induction l with
    | nil => intro a ha; exact ha
    | cons k l ih => intro a ha; exact ih _ (Nat.or_lt_two_pow ha (bitsOf_lt (row_lt h k)))
  exact key l 0 (Nat.two_pow_pos n)
theorem bitsOf_take_lt {r : List Nat} {n : Nat} (h : ∀ p ∈ r, p < n) (k : Nat) : bitsOf (r.take k) < 2 ^ n := bitsOf_lt fun p hp => h p (List.mem_of_mem_take hp)
/-! counting bits by taking the lowest away -/
end Go.Proofs.YtabgcpoaepafjaaGreat
namespace Go.Proofs.YtabgcpoaepafjaaGreat
/-- The places below 40 that have not been asked for. -/
def una (a : Nat) : Nat := ((List.range 40).filter fun f => !a.testBit f).length
theorem filter_lt {α : Type} {p q : α → Bool} (hpq : ∀ x, q x = true → p x = true) : ∀ {l : List α} {f : α}, f ∈ l → p f = true → q f = false → (l.filter q).length + 1 ≤ (l.filter p).length
  | [], _, h, _, _ => by cases h
  | x :: l, f, h, hp, hq => by
    have mono : ∀ l : List α, (l.filter q).length ≤ (l.filter p).length := fun l => by
      induction l with
      | nil => simp
      | cons y l ih =>
        by_cases h1 : q y = true
        · simp [h1, hpq y h1, ih]
        · by_cases h2 : p y = true
          · simp [h1, h2]; omega
          · simp [h1, h2, ih]
    by_cases e : x = f
    · subst e
      have := mono l
      simp [hp, hq]
      omega
    · have h3 := filter_lt hpq (l := l) (f := f) ((List.mem_cons.1 h).resolve_left fun q => e q.symm) hp hq
      by_cases h1 : q x = true
      · simp [h1, hpq x h1]; omega
      · by_cases h2 : p x = true
        · simp [h1, h2]; omega
        · simp [h1, h2]; omega
theorem una_step {a f : Nat} (hf : f < 40) (ha : a.testBit f = false) : una (a ||| 2 ^ f) + 1 ≤ una a := by
  unfold una
  refine filter_lt (fun x hx => ?_) (List.mem_range.2 hf) (by simp [ha]) (by simp)
  simp at hx ⊢
  exact hx.1
theorem una_le (a : Nat) : una a ≤ 40 := by
  have h := List.length_filter_le (fun f => !a.testBit f) (List.range 40)
  rwa [List.length_range] at h
theorem asked_lt {a f : Nat} (ha : a < 2 ^ 40) (hf : f < 40) : a ||| 2 ^ f < 2 ^ 40 := Nat.or_lt_two_pow ha (Nat.pow_lt_pow_right (by decide) hf)
end Go.Proofs.YtabgcpoaepafjaaGreat
namespace Go.Proofs.YtabgcpoaepafjaaGreat
/-- The search always ends. -/
theorem give_ex {P : Nat → List Nat} {U : Nat} (hP : ∀ o, ∀ f ∈ P o, f < 40) (d : Nat) : ∀ (a : Nat), una a ≤ d → ∀ (i : Nat) (l : List Nat) (H : Nat → Option Nat), (∀ f ∈ l, f < 40) → ∃ ok H' a', Give P U i l H a ok H' a' ∧ una a' ≤ una a := by
  induction d using Nat.strongRecOn with
  | _ d ihd =>
    intro a ha i l
    induction l generalizing a with
    | nil => exact fun H _ => ⟨false, H, a, .nil, Nat.le_refl _⟩
    | cons f l ihl =>
      intro H hl
      by_cases ht : (a ||| U).testBit f = true
      · obtain ⟨ok, H', a', h1, h2⟩ := ihl a ha H (fun g hg => hl g (by simp [hg]))
        exact ⟨ok, H', a', .skip ht h1, h2⟩
      · have ht : (a ||| U).testBit f = false := by simpa using ht
        have hst := una_step (hl f (by simp)) (bit_or ht).1
        cases hH : H f with
        | none => exact ⟨true, _, _, .free ht hH, by omega⟩
        | some o =>
          obtain ⟨ok, H', a', h1, h2⟩ := ihd (una (a ||| 2 ^ f)) (by omega) (a ||| 2 ^ f) (Nat.le_refl _) o (P o) H (hP o)
          cases ok with
          | true => exact ⟨true, _, _, .take ht hH h1, by omega⟩
          | false =>
            obtain ⟨ok, H'', a'', g1, g2⟩ := ihl a' (by omega) H' (fun g hg => hl g (by simp [hg]))
            exact ⟨ok, H'', a'', .go ht hH h1 g1, by omega⟩
theorem tried_ex {P : Nat → List Nat} {U : Nat} (hP : ∀ o, ∀ f ∈ P o, f < 40) : ∀ j, ∃ H n, Tried P U j H n
  | 0 => ⟨_, _, Tried.start P U⟩
  | j + 1 => by
    obtain ⟨H, n, h⟩ := tried_ex hP (U := U) j
    obtain ⟨ok, H', a', g, _⟩ := give_ex (U := U) hP (una 0) 0 (Nat.le_refl _) j (P j) H (hP j)
    exact ⟨H', _, h.step g⟩
theorem bestM_rows (P : List (List Nat)) : bestM P [] ≤ P.length := by
  obtain ⟨M, V, hm, e⟩ := sel_part (sel_best P [])
  have := nodup_le M (List.range P.length) hm.nd fun l hl => List.mem_range.2 (hm.ok l hl).1
  rw [List.length_range] at this
  omega
theorem hall {P : List (List Nat)} (h40 : ∀ r ∈ P, ∀ p ∈ r, p < 40) (h : bestM P [] < P.length) : ∃ (S D : List Nat), S.Nodup ∧ (∀ l, l ∈ S → l < P.length) ∧ D.length < S.length ∧ ∀ l, l ∈ S → ∀ g, g ∈ P.getD l [] → g ∈ D := by
  obtain ⟨H, n, ht⟩ := tried_ex (P := fun k => P.getD k []) (U := 0) (fun o f hf => row_lt h40 o f hf) P.length
  have hn := ht.best (used := []) (fun f => by simp)
  exact ht.lack (by omega)
theorem memN_nd (s n : Nat) : (memN s n).Nodup := List.Pairwise.filter _ List.nodup_range
/-- A set of rows whose places lie in a short list has too few. -/
theorem few_of {P : List (List Nat)} {S D : List Nat} (h1 : S.Nodup) (h2 : ∀ l, l ∈ S → l < P.length) (h3 : D.length < S.length) (h4 : ∀ l, l ∈ S → ∀ g, g ∈ P.getD l [] → g ∈ D) : fewB P 40 (bitsOf S) = true := by
  unfold fewB
  rw [decide_eq_true_eq]
  have a1 := nodup_le (memN (orB P (bitsOf S) P.length) 40) D (memN_nd _ _) fun g hg => by
    obtain ⟨_, hb⟩ := memN_mem.1 hg
    obtain ⟨k, _, k2, k3⟩ := (orB_bit _).1 hb
    exact h4 k (bitsOf_bit.1 k2) g k3
  have a2 := nodup_le S (memN (bitsOf S) P.length) h1 fun l hl => memN_mem.2 ⟨h2 l hl, bitsOf_bit.2 hl⟩
  omega
/-- Where all rows have their own places no set has too few. -/
theorem few_not {P : List (List Nat)} (h40 : ∀ r ∈ P, ∀ p ∈ r, p < 40) (h : bestM P [] = P.length) (s : Nat) : fewB P 40 s = false := by
  obtain ⟨M, V, hm, e⟩ := sel_part (sel_best P [])
  have hall : ∀ l, l < P.length → l ∈ M := by
    intro l hl
    refine Classical.byContradiction fun hn => ?_
    have := nodup_le (l :: M) (List.range P.length) (List.nodup_cons.2 ⟨hn, hm.nd⟩) fun x hx => by
      rcases List.mem_cons.1 hx with rfl | hx
      · exact List.mem_range.2 hl
      · exact List.mem_range.2 (hm.ok x hx).1
    rw [List.length_range, List.length_cons] at this
    omega
  unfold fewB
  rw [decide_eq_false_iff_not]
  have hN : ((memN s P.length).map V).Nodup := nodup_map (memN_nd _ _) fun x y hx hy q => hm.inj x y (hall x (memN_mem.1 hx).1) (hall y (memN_mem.1 hy).1) q
  have := nodup_le _ (memN (orB P s P.length) 40) hN fun g hg => by
    obtain ⟨l, hl, rfl⟩ := List.mem_map.1 hg
    obtain ⟨l1, l2⟩ := memN_mem.1 hl
    obtain ⟨_, k2, _⟩ := hm.ok l (hall l l1)
    exact memN_mem.2 ⟨row_lt h40 l _ k2, (orB_bit _).2 ⟨l, l1, l2, k2⟩⟩
  rw [List.length_map] at this
  omega
theorem lackF_nil {P : List (List Nat)} {n : Nat} : ∀ (f s : Nat), lackF P n f s = [] ↔ ∀ t, s ≤ t → t < s + f → fewB P n t = false
  | 0, s => by
    constructor
    · intro _ t h1 h2; omega
    · intro _; rfl
  | f + 1, s => by
    cases h : fewB P n s with
    | true =>
      rw [lackF_yes h]
      constructor
      · intro e
        unfold fewB at h
        rw [decide_eq_true_eq] at h
        have := congrArg List.length e
        rw [memI_length, List.length_nil] at this
        omega
      · intro q
        have := q s (Nat.le_refl _) (by omega)
        rw [h] at this
        cases this
    | false =>
      rw [lackF_no h, lackF_nil f (s + 1)]
      constructor
      · intro q t h1 h2
        rcases Nat.lt_or_eq_of_le h1 with h3 | h3
        · exact q t h3 (by omega)
        · rw [← h3]; exact h
      · intro q t h1 h2
        exact q t (by omega) (by omega)
theorem lackF_some {P : List (List Nat)} {n : Nat} : ∀ (f s : Nat), lackF P n f s ≠ [] → ∃ t, fewB P n t = true ∧ lackF P n f s = memI t P.length
  | 0, s => fun h => absurd rfl h
  | f + 1, s => by
    intro h
    cases hs : fewB P n s with
    | true => exact ⟨s, hs, lackF_yes hs⟩
    | false =>
      rw [lackF_no hs] at h ⊢
      exact lackF_some f (s + 1) h
theorem lackM_nil {P : List (List Nat)} (h40 : ∀ r ∈ P, ∀ p ∈ r, p < 40) : lackM P 40 = [] ↔ bestM P [] = P.length := by
  constructor
  · intro h
    refine Classical.byContradiction fun hn => ?_
    obtain ⟨S, D, h1, h2, h3, h4⟩ := hall h40 (by have := bestM_rows P; omega)
    have hf := few_of h1 h2 h3 h4
    have hb : bitsOf S < 2 ^ P.length := bitsOf_lt h2
    have hpos : 0 < bitsOf S := by
      rcases Nat.eq_zero_or_pos (bitsOf S) with e | e
      · match S, h3 with
        | x :: S, _ =>
          have := (bitsOf_bit (r := x :: S) (p := x)).2 (by simp)
          rw [e] at this
          simp at this
      · exact e
    have := (lackF_nil _ _).1 h (bitsOf S) hpos (by omega)
    rw [hf] at this
    cases this
  · intro h
    exact (lackF_nil _ _).2 fun t _ _ => few_not h40 h t
/-- The members of the first set with too few places. -/
theorem lackM_mem {P : List (List Nat)} : ∀ x ∈ lackM P 40, 0 ≤ x ∧ x < P.length := by
  intro x hx
  obtain ⟨t, _, e⟩ := lackF_some _ _ (List.ne_nil_of_mem hx)
  rw [lackM, e] at hx
  obtain ⟨k, hk, rfl⟩ := List.mem_map.1 hx
  have := (memN_mem.1 hk).1
  omega
/-- The places of the named rows, each once, are fewer than the rows. -/
theorem few_places {P : List (List Nat)} (h40 : ∀ r ∈ P, ∀ p ∈ r, p < 40) (hne : lackM P 40 ≠ []) {Q : List Int} (h1 : Q.Nodup) (h2 : ∀ x ∈ Q, ∃ i ∈ lackM P 40, ∃ p ∈ P.getD i.toNat [], x = (p : Nat)) : Q.length < (lackM P 40).length := by
  obtain ⟨t, hf, e⟩ := lackF_some _ _ hne
  have e : lackM P 40 = memI t P.length := e
  rw [e] at h2 ⊢
  unfold fewB at hf
  rw [decide_eq_true_eq] at hf
  have := nodup_le Q ((memN (orB P t P.length) 40).map fun x : Nat => (x : Int)) h1 fun x hx => by
    obtain ⟨i, hi, p, hp, rfl⟩ := h2 x hx
    obtain ⟨k, hk, rfl⟩ := List.mem_map.1 hi
    obtain ⟨k1, k2⟩ := memN_mem.1 hk
    have hp : p ∈ P.getD k [] := by simpa using hp
    exact List.mem_map.2 ⟨p, memN_mem.2 ⟨row_lt h40 k p hp, (orB_bit _).2 ⟨k, k1, k2, hp⟩⟩, rfl⟩
  rw [List.length_map] at this
  rw [memI_length]
  omega
/-! the picks -/
theorem pickR_count : ∀ (P : List (List Nat)) (used : List Nat), ((pickR P used).filter fun x => decide (0 ≤ x)).length = bestM P used
  | [], _ => rfl
  | r :: P, used => by
    cases hp : pickOf r P used with
    | none =>
      have e : pickR (r :: P) used = (-1) :: pickR P used := by rw [pickR, hp]
      rw [e, pick_none hp, ← pickR_count P used]
      rfl
    | some p =>
      have e : pickR (r :: P) used = (p : Int) :: pickR P (used ++ [p]) := by rw [pickR, hp]
      rw [e, ← (pick_some hp).2.2, ← pickR_count P (used ++ [p]), List.filter_cons, if_pos (by simp), List.length_cons]
      omega
theorem pickR_at : ∀ (P : List (List Nat)) (used : List Nat) (k : Nat) (x : Int), (pickR P used)[k]? = some x → x = -1 ∨ ∃ p ∈ P.getD k [], x = (p : Nat) ∧ p ∉ used
  | [], _, k, x, h => by simp [pickR] at h
  | r :: P, used, k, x, h => by
    cases hp : pickOf r P used with
    | none =>
      have e : pickR (r :: P) used = (-1) :: pickR P used := by rw [pickR, hp]
      rw [e] at h
      cases k with
      | zero => simp at h; exact .inl h.symm
      | succ k => exact pickR_at P used k x (by simpa using h)
    | some p =>
      have e : pickR (r :: P) used = (p : Int) :: pickR P (used ++ [p]) := by rw [pickR, hp]
      rw [e] at h
      cases k with
      | zero =>
        simp at h
        exact .inr ⟨p, by simpa using (pick_some hp).1, h.symm, (pick_some hp).2.1⟩
      | succ k =>
        rcases pickR_at P (used ++ [p]) k x (by simpa using h) with q | ⟨p', q1, q2, q3⟩
        · exact .inl q
        · exact .inr ⟨p', by simpa using q1, q2, fun hh => q3 (by simp [hh])⟩
theorem pickR_apart : ∀ (P : List (List Nat)) (used : List Nat) (i k : Nat) (x y : Int), i < k → (pickR P used)[i]? = some x → (pickR P used)[k]? = some y → 0 ≤ y → x ≠ y
  | [], _, i, k, x, y, _, h, _, _ => by simp [pickR] at h
  | r :: P, used, i, k, x, y, hik, hx, hy, h0 => by
    obtain ⟨k, rfl⟩ : ∃ k', k = k' + 1 := ⟨k - 1, by omega⟩
    cases hp : pickOf r P used with
    | none =>
      have e : pickR (r :: P) used = (-1) :: pickR P used := by rw [pickR, hp]
      rw [e] at hx hy
      cases i with
      | zero => simp at hx; omega
      | succ i => exact pickR_apart P used i k x y (by omega) (by simpa using hx) (by simpa using hy) h0
    | some p =>
      have e : pickR (r :: P) used = (p : Int) :: pickR P (used ++ [p]) := by rw [pickR, hp]
      rw [e] at hx hy
      have hy : (pickR P (used ++ [p]))[k]? = some y := by simpa using hy
      cases i with
      | zero =>
        simp at hx
        rcases pickR_at P (used ++ [p]) k y hy with q | ⟨p', _, q2, q3⟩
        · omega
        · intro e2
          have : p' = p := by omega
          exact q3 (by simp [this])
      | succ i => exact pickR_apart P (used ++ [p]) i k x y (by omega) (by simpa using hx) hy h0
/-- No more picks than places. -/
theorem pick_few {P : List (List Nat)} {F : List Nat} (h : ∀ k, ∀ p ∈ P.getD k [], p ∈ F) : bestM P [] ≤ F.length := by
  obtain ⟨M, V, hm, e⟩ := sel_part (sel_best P [])
  have hN : (M.map V).Nodup := nodup_map hm.nd fun x y hx hy q => hm.inj x y hx hy q
  have := nodup_le _ F hN fun g hg => by
    obtain ⟨l, hl, rfl⟩ := List.mem_map.1 hg
    exact h l _ (hm.ok l hl).2.1
  rw [List.length_map] at this
  omega
end Go.Proofs.YtabgcpoaepafjaaGreat
namespace Go.Proofs.YtabgcpoaepafjaaGreat
open Go.RowKit
/-- The slice of address A reads as headers of the rows P. -/
def RNN (w : World) (A : Option Addr) (P : List (List Nat)) : Prop :=
  ∃ hs : List Value, Rds w 1 A P.length hs ∧ ∀ (i : Nat) (hi : i < P.length), ∃ (B : Option Addr) (c : Nat), hs[i]? = some (.slice B P[i].length c) ∧ P[i].length ≤ c ∧ c ≤ maxLen ∧ Rds w 1 B P[i].length (encI (castZ P[i]))
theorem RNN.ext {w w' : World} {A : Option Addr} {P : List (List Nat)} (h : RNN w A P) (hE : Ext w w') : RNN w' A P := by
  obtain ⟨hs, h1, h2⟩ := h
  refine ⟨hs, h1.ext hE, fun i hi => ?_⟩
  obtain ⟨B, c, e1, e2, e3, e4⟩ := h2 i hi
  exact ⟨B, c, e1, e2, e3, Rds.ext e4 hE⟩
theorem RNN.at_ {w : World} {A : Option Addr} {P : List (List Nat)} (h : RNN w A P) {k : Nat} (hk : k < P.length) : ∃ b off, A = some ⟨b, off, none⟩ ∧ b < w.heap.size ∧ ∃ (B : Option Addr) (c : Nat), w.cell? ⟨b, off + k, none⟩ = some (.slice B P[k].length c) ∧ P[k].length ≤ c ∧ c ≤ maxLen ∧ Rds w 1 B P[k].length (encI (castZ P[k])) := by
  obtain ⟨hs, h1, h2⟩ := h
  obtain ⟨b, off, e, hb, hc⟩ := h1.2 (by omega)
  obtain ⟨B, c, e1, e2, e3, e4⟩ := h2 k hk
  exact ⟨b, off, e, hb, B, c, hc _ _ e1, e2, e3, e4⟩
/-- Rows of numbers in blocks of their own under a row of headers that grows. -/
def SOO (w : World) (base : Nat) (v : Value) (k : Nat) (P : List (List Nat)) (hs : List Value) : Prop :=
  w.ownsRow base 31 1 v k hs ∧ ∀ i, i < k → ∃ (B : Option Addr) (c : Nat), hs[i]? = some (.slice B (P.getD i []).length c) ∧ w.ownsRow base 3 1 (.slice B (P.getD i []).length c) (P.getD i []).length (encI (castZ (P.getD i [])))
theorem SOO.ext {w w' : World} {base k : Nat} {v : Value} {P : List (List Nat)} {hs : List Value} (h : SOO w base v k P hs) (hE : Ext w w') : SOO w' base v k P hs :=
  ⟨own_ext h.1 hE, fun i hi => by obtain ⟨B, c, e1, e2⟩ := h.2 i hi; exact ⟨B, c, e1, own_ext e2 hE⟩⟩
theorem SOO.nil (w : World) (base : Nat) (P : List (List Nat)) : SOO w base (.slice none 0 0) 0 P [] := ⟨World.ownsRow_nil _ _ _ _, fun i hi => absurd hi (by omega)⟩
theorem SOO.app {w w' : World} {base k : Nat} {v v' : Value} {P : List (List Nat)} {hs : List Value} {B : Option Addr} {c : Nat} {o : Obj} (h : SOO w base v k P hs)
    (hr : w.ownsRow base 3 1 (.slice B (P.getD k []).length c) (P.getD k []).length (encI (castZ (P.getD k []))))
    (hown : w'.ownsRow base 31 1 v' (k + 1) (hs ++ [.slice B (P.getD k []).length c])) (hg : (w.alloc o).grownBy w' v.ownBlock) : SOO w' base v' (k + 1) P (hs ++ [.slice B (P.getD k []).length c]) := by
  have hl := h.1.1
  have keep : ∀ {n : Nat} {u : Value} {xs : List Value}, w.ownsRow base 3 1 u n xs → w'.ownsRow base 3 1 u n xs := fun {n u xs} q => by
    have q2 := own_ext q ((Ext.refl w).alloc o)
    refine q2.kept hg ?_
    cases hu : u.ownBlock with
    | none => exact .inl rfl
    | some x => exact .inr fun e => own_apart2 q h.1 (by decide) x hu e.symm
  refine ⟨hown, fun i hi => ?_⟩
  by_cases e : i = k
  · subst e
    exact ⟨B, c, by rw [List.getElem?_append_right (by omega)]; simp [hl], keep hr⟩
  · obtain ⟨B2, c2, e1, e2⟩ := h.2 i (by omega)
    exact ⟨B2, c2, by rw [List.getElem?_append_left (by omega)]; exact e1, keep e2⟩
theorem own_len {w : World} {base n c sz : Nat} {A : Option Addr} {T : TypeId} {xs : List Value} (h : w.ownsRow base T sz (.slice A n c) n xs) : n ≤ c ∧ c ≤ maxLen := by
  rcases h.2 with ⟨q, h0⟩ | ⟨_, cap, _, q, _, _, hn, hc, _⟩
  · injection q with _ _ q
    omega
  · injection q with _ _ q
    omega
theorem SOO.rnn {w : World} {base c : Nat} {A : Option Addr} {P : List (List Nat)} {hs : List Value} (h : SOO w base (.slice A P.length c) P.length P hs) : RNN w A P := by
  refine ⟨hs, Rds.of_own h.1, fun i hi => ?_⟩
  obtain ⟨B, c2, e1, e2⟩ := h.2 i hi
  have e : P.getD i [] = P[i] := by simp [hi]
  rw [e] at e1 e2
  have := own_len e2
  exact ⟨B, c2, e1, this.1, this.2, Rds.of_own e2⟩
theorem ints_info : (Tryz.prog.info? 31).map (fun i => (i.zero, i.size, i.bytes)) = some (some (.slice none 0 0), 1, 24) := by kernel_rfl
/-- Whether the places are asked for. -/
noncomputable def askB (N E : List P2) (L : List (List P2)) : Bool := wholeB N E && decide (L.length ≤ 8)
/-- The places of the shapes. -/
noncomputable def plN (N E : List P2) (L : List (List P2)) : List (List Nat) := L.map (placesN N E)
theorem plN_length (N E : List P2) (L : List (List P2)) : (plN N E L).length = L.length := by simp [plN]
theorem plN_len (N E : List P2) (L : List (List P2)) : ∀ r ∈ plN N E L, r.length ≤ 40 := by
  intro r hr
  obtain ⟨S, _, rfl⟩ := List.mem_map.1 hr
  exact placesN_len N E S
theorem plN_lt (N E : List P2) (L : List (List P2)) : ∀ r ∈ plN N E L, ∀ p ∈ r, p < 40 := by
  intro r hr p hp
  obtain ⟨S, _, rfl⟩ := List.mem_map.1 hr
  have h := (List.mem_filter.1 hp).1
  have h2 := List.mem_range.1 (List.mem_filter.1 h).1
  have := fcs_len (N := N) (E := E)
  omega
theorem plN_at {N E : List P2} {L : List (List P2)} {k : Nat} (hk : k < L.length) : (plN N E L).getD k [] = placesN N E L[k] := by simp [plN, hk]
set_option maxRecDepth 20000 in
set_option maxHeartbeats 8000000 in
theorem placesOf_no (N E : List P2) (L : List (List P2)) (A B C : Option Addr) (c c' c3 : Nat) (w : World) (hw : WR w N E A B c c') (hl : L.length ≤ 1048576) (ha : askB N E L = false) :
    Calls Tryz.prog 45 #[.agg #[.slice A N.length c, .slice B E.length c'], .slice C L.length c3] w fun e w' => e = .returned (.tuple #[.slice none 0 0, .bool false]) ∧ Ext w w' := by
  have HIW := hide (fun (W : World) (hE : Ext w W) => IsWhole_any N E A B c c' W (hw.ext hE))
  clear hw
  
  go_enter Tryz.func45, Tryz.ntmps45
  go_wp2_with fail
  obtain ⟨w0, hw⟩ : ∃ w1, w1 = w.alloc (Obj.cells #[Value.slice A N.length c, Value.slice B E.length c'] 27) := ⟨_, rfl⟩; rw [← hw]; have kT : Tr [(w.heap.size, [.slice A N.length c, .slice B E.length c'])] w w0 := (by rw [hw]; exact ⟨by (first | (simp [Bx, CellsAt, go_sem, *]; done) | (simp [Bx, CellsAt, go_sem, *]; omega)), by (repeat (first | exact kE | exact Ext.refl _ | apply Ext.alloc | apply Ext.drewN | apply Ext.drew | apply Ext.set0 | apply Ext.set1 | apply Ext.set2 | apply Ext.set3 | (refine Ext.setk ?_ (by omega) _) | (apply Ext.snoc; assumption)))⟩); have HT := hide kT; clear hw kT; have kT := HT.out; simp only [Tr, Bx, CellsAt, Nat.reduceAdd, Nat.zero_add, and_true] at kT; obtain ⟨⟨kz0, kf0, kc0_0, kc0_1⟩, kE⟩ := kT
  refine (HIW.out _ kE).mono ?_
  rintro e w3 ⟨rfl, hb⟩
  have HE := hide (kE.trans hb)
  clear hb
  unfold askB at ha
  cases hwh : wholeB N E with
  | false =>
    clear ha
    go_wp2_with fail
    refine bodyPost_ret (v := .tuple #[.slice none 0 0, .bool false]) (by simp only [results, Tryz.results45]; go_simp) rfl ⟨rfl, HE.out⟩
  | true =>
    rw [hwh, Bool.true_and, decide_eq_false_iff_not] at ha
    have h8 : (8 : Int) < (L.length : Int) := by omega
    go_wp2_with fail
    refine bodyPost_ret (v := .tuple #[.slice none 0 0, .bool false]) (by simp only [results, Tryz.results45]; go_simp) rfl ⟨rfl, HE.out⟩
set_option maxRecDepth 20000 in
set_option maxHeartbeats 8000000 in
theorem placesOf_yes (N E : List P2) (L : List (List P2)) (A B C : Option Addr) (c c' c3 : Nat) (w : World) (hw : WR w N E A B c c') (hls : ∀ S ∈ L, S.length ≤ 1048576) (hr : RSS w C L) (ha : askB N E L = true) :
    Calls Tryz.prog 45 #[.agg #[.slice A N.length c, .slice B E.length c'], .slice C L.length c3] w fun e w' => ∃ A2 c2, e = .returned (.tuple #[.slice A2 L.length c2, .bool true]) ∧ L.length ≤ c2 ∧ c2 ≤ maxLen ∧ RNN w' A2 (plN N E L) ∧ Ext w w' := by
  obtain ⟨i0, hi, hz0, hz1, hz2⟩ := info_parts ints_info
  unfold askB at ha
  rw [Bool.and_eq_true, decide_eq_true_eq] at ha
  obtain ⟨hwh, h8⟩ := ha
  have HIW := hide (show ∀ (W : World), Ext w W → Calls Tryz.prog 85 #[.agg #[.slice A N.length c, .slice B E.length c']] W fun e w' => e = .returned (.bool true) ∧ Ext W w' from fun W hE => by have h := IsWhole_any N E A B c c' W (hw.ext hE); rw [hwh] at h; exact h)
  have HPF := hide (show ∀ (k : Nat) (hk : k < L.length) (W : World) (D : Option Addr) (d : Nat), Ext w W → R2 W D L[k] → Calls Tryz.prog 14 #[.agg #[.slice A N.length c, .slice B E.length c'], .slice D L[k].length d] W fun e w' => ∃ A2 c2, e = .returned (.slice A2 ((plN N E L).getD k []).length c2) ∧ w'.ownsRow W.heap.size 3 1 (.slice A2 ((plN N E L).getD k []).length c2) ((plN N E L).getD k []).length (encI (castZ ((plN N E L).getD k []))) ∧ Ext W w' from fun k hk W D d hE hD => by
    rw [plN_at hk]
    exact PlacesFor_any N E L[k] A B D c c' d W (hw.ext hE) (hls _ (List.getElem_mem hk)) hD)
  have HPL := hide (plN_length N E L)
  have HP40 := hide (plN_len N E L)
  obtain ⟨P, hP⟩ : ∃ P, plN N E L = P := ⟨_, rfl⟩
  rw [hP] at HPF HPL HP40 ⊢
  have HR := hide hr
  clear hw hr hls hwh hP
  
  go_enter Tryz.func45, Tryz.ntmps45
  go_wp2_with fail
  obtain ⟨w0, hw⟩ : ∃ w1, w1 = w.alloc (Obj.cells #[Value.slice A N.length c, Value.slice B E.length c'] 27) := ⟨_, rfl⟩; rw [← hw]; have kT : Tr [(w.heap.size, [.slice A N.length c, .slice B E.length c'])] w w0 := (by rw [hw]; exact ⟨by (first | (simp [Bx, CellsAt, go_sem, *]; done) | (simp [Bx, CellsAt, go_sem, *]; omega)), by (repeat (first | exact kE | exact Ext.refl _ | apply Ext.alloc | apply Ext.drewN | apply Ext.drew | apply Ext.set0 | apply Ext.set1 | apply Ext.set2 | apply Ext.set3 | (refine Ext.setk ?_ (by omega) _) | (apply Ext.snoc; assumption)))⟩); have HT := hide kT; clear hw kT; have kT := HT.out; simp only [Tr, Bx, CellsAt, Nat.reduceAdd, Nat.zero_add, and_true] at kT; obtain ⟨⟨kz0, kf0, kc0_0, kc0_1⟩, kE⟩ := kT
  have hL8 : ¬ (8 : Int) < (L.length : Int) := by omega
  refine (HIW.out _ kE).mono ?_
  rintro e w3 ⟨rfl, hb3⟩
  have HT' := hide (HT.out.ext hb3)
  have HE3 := hide (kE.trans hb3)
  clear hb3 HT
  have HT := HT'
  clear HT'
  clear kz0 kf0 kc0_0 kc0_1 kE
  have kT := HT.out; simp only [Tr, Bx, CellsAt, Nat.reduceAdd, Nat.zero_add, and_true] at kT; obtain ⟨⟨kz0, kf0, kc0_0, kc0_1⟩, kE⟩ := kT
  have HTZ := HT
  go_wp2_with fail
  clear kz0 kf0 kc0_0 kc0_1 kE
  clear HT
  go_loopw [6, 19] (fun v i wr => ∃ (k : Nat), k ≤ L.length ∧ i = .int .i64 k ∧ Hid (∃ hs, SOO wr w3.heap.size v k P hs) ∧ Hid (Ext w3 wr)) (fun _ i _ => L.length - (intOf i).toNat)
  case atStart => exact ⟨0, Nat.zero_le _, rfl, hide ⟨[], SOO.nil _ _ _⟩, hide (Ext.refl _)⟩
  case round =>
    obtain ⟨k, hk, rfl, HO, HE⟩ := hrel
    by_cases hlt : k < L.length
    · have hlz : (k : Int) < (L.length : Int) := by omega
      have hT2 := HTZ.out.ext HE.out
      have HT := hide hT2
      have kT := HT.out; simp only [Tr, Bx, CellsAt, Nat.reduceAdd, Nat.zero_add, and_true] at kT; obtain ⟨⟨kz0, kf0, kc0_0, kc0_1⟩, kE⟩ := kT
      clear hT2
      have HX := hide kE
      have hsz := HE.out.size
      obtain ⟨b3, off3, rfl, hb3, D, d, cj, hd1, hd2, hrD⟩ := (HR.out.ext (HE3.out.trans HE.out)).at_ hlt
      have HRD := hide hrD
      have HC := hide (HPF.out k hlt wr D d HX.out HRD.out)
      have hrow := HP40.out (P.getD k []) (by simp [HPL.out, hlt])
      obtain ⟨S, hS⟩ : ∃ S, L[k] = S := ⟨_, rfl⟩
      rw [hS] at cj HC
      obtain ⟨r, hrr⟩ : ∃ r, P.getD k [] = r := ⟨_, rfl⟩
      have HPK := hide hrr
      rw [hrr] at HC hrow
      clear hS hrD HRD hrr hd1
      go_wp2_with fail
      refine HC.out.mono ?_
      rintro e w4 ⟨A4, c4, rfl, ho4, hb4⟩
      obtain ⟨hs, hsoo⟩ := HO.out
      have HS4 := hide (hsoo.ext hb4)
      have HO4 := hide ho4
      have HE4 := hide (HE.out.trans hb4)
      have hs4 := HE4.out.size
      have hs5 := hb4.size
      clear hb4 HO HE HX HT cj hsoo ho4 HC
      clear kz0 kf0 kc0_0 kc0_1 kE
      go_wp2_with (at_builtin; refine wpList_append_own _ rfl _ _ 46 rfl w3.heap.size 31 i0 (.slice none 0 0) 1 24 Tryz.underlying46 hi hz0 hz1 hz2 rfl (by decide) u6 k hs rfl (own_ext HS4.out.1 ((Ext.refl _).alloc _)) ⟨w4.heap.size, 0, none⟩ 1 1 [.slice A4 r.length c4] rfl rfl (news_new w4 #[.slice A4 r.length c4] 31) (by intro u hu; simp at hu; subst hu; rfl) (by unfold maxLen; omega) (by omega) (by first | (simp; done) | (simp; omega)) ?_; intro v' w5 hown5 hgrow5 hnil)
      have E5 := hide (Ext.grown (HE4.out.alloc _) hgrow5 (own_base HS4.out.1 (Nat.le_refl _)))
      have HS5 := hide (show SOO w5 w3.heap.size v' (k + 1) P (hs ++ [.slice A4 (P.getD k []).length c4]) from HS4.out.app (own_mono (by rw [HPK.out]; exact HO4.out) (by omega)) (by rw [HPK.out]; exact hown5) hgrow5)
      clear hown5 hgrow5 hnil
      go_roundw
      case rel => exact ⟨k + 1, by omega, by go_num, hide ⟨_, HS5.out⟩, by first | exact E5 | exact hide E5.out⟩
      case measure => simp [intOf]; omega
    · obtain rfl : k = L.length := by omega
      have HXE := hide (HE3.out.trans HE.out)
      obtain ⟨hs, hsoo⟩ := HO.out
      obtain ⟨Ar, cr, rfl, _⟩ := own_slice hsoo.1
      have HS9 := hide hsoo
      have HLC := hide (own_len hsoo.1)
      clear hsoo HO
      go_wp2_with fail
      refine bodyPost_ret (v := .tuple #[.slice Ar L.length cr, .bool true]) (by simp only [results, Tryz.results45]; go_simp) rfl ⟨Ar, cr, rfl, HLC.out.1, HLC.out.2, by have h := HS9.out; rw [← HPL.out] at h; exact h.rnn, HXE.out⟩
end Go.Proofs.YtabgcpoaepafjaaGreat
