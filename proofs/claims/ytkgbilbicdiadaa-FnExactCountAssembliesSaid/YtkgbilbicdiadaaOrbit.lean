/- Plain law on a map of numbers below m that is one to one: its walks, and the walks one after the other (no program in sight). No condition. -/
namespace Go.Proofs.Ytkgbilbicdiadaa

/-- n times f. -/
def it (f : Nat → Nat) : Nat → Nat → Nat
  | 0, d => d
  | n + 1, d => f (it f n d)
theorem it_add (f : Nat → Nat) (a b d : Nat) : it f (a + b) d = it f a (it f b d) := by
  induction a with
  | zero => simp [it]
  | succ a ih => rw [Nat.succ_add]; simp only [it]; rw [ih]
/-- f is a map of the numbers below m, one to one. -/
structure Inj (f : Nat → Nat) (m : Nat) : Prop where
  lt : ∀ d, d < m → f d < m
  inj : ∀ d e, d < m → e < m → f d = f e → d = e
theorem Inj.it_lt {f : Nat → Nat} {m : Nat} (h : Inj f m) {d : Nat} (hd : d < m) : ∀ n, it f n d < m
  | 0 => hd
  | n + 1 => h.lt _ (h.it_lt hd n)
theorem Inj.it_inj {f : Nat → Nat} {m : Nat} (h : Inj f m) {d e : Nat} (hd : d < m) (he : e < m) : ∀ n, it f n d = it f n e → d = e
  | 0, q => q
  | n + 1, q => h.it_inj hd he n (h.inj _ _ (h.it_lt hd n) (h.it_lt he n) q)
/-- A list without repeats of numbers below m is no longer than m. -/
theorem nodup_len : ∀ (m : Nat) (l : List Nat), l.Nodup → (∀ x ∈ l, x < m) → l.length ≤ m
  | 0, l, _, h => by
    cases l with
    | nil => simp
    | cons a t => exact absurd (h a (by simp)) (by omega)
  | m + 1, l, hn, h => by
    have h1 : (l.erase m).length ≤ m := nodup_len m (l.erase m) (hn.erase m) fun x hx => by
      have h2 := (hn.mem_erase_iff).1 hx
      have := h x h2.2
      omega
    have h2 : l.length ≤ (l.erase m).length + 1 := by
      rw [List.length_erase]
      split <;> omega
    omega
theorem Inj.back {f : Nat → Nat} {m : Nat} (h : Inj f m) {d : Nat} (hd : d < m) : ∃ p, 1 ≤ p ∧ p ≤ m ∧ it f p d = d := by
  by_cases e : ∃ p, 1 ≤ p ∧ p ≤ m ∧ it f p d = d
  · exact e
  · exfalso
    have hn : ((List.range (m + 1)).map fun i => it f i d).Nodup := by
      rw [List.nodup_iff_pairwise_ne, List.pairwise_map]
      refine List.Pairwise.imp_of_mem ?_ List.pairwise_lt_range
      intro a b ha hb hlt q
      have hb' : b < m + 1 := List.mem_range.1 hb
      refine e ⟨b - a, by omega, by omega, ?_⟩
      have : b = a + (b - a) := by omega
      rw [this, it_add] at q
      exact (h.it_inj hd (h.it_lt hd _) a q).symm
    have := nodup_len m _ hn fun x hx => by
      obtain ⟨i, _, rfl⟩ := List.mem_map.1 hx
      exact h.it_lt hd i
    simp at this
    omega
/-- How many steps lead from d back to d. -/
def perFrom (f : Nat → Nat) (d : Nat) : Nat → Nat → Nat
  | 0, _ => 1
  | n + 1, e => if e = d then 1 else perFrom f d n (f e) + 1
/-- The walk from d: all numbers until d comes again. -/
def walkFrom (f : Nat → Nat) (d : Nat) : Nat → Nat → List Nat
  | 0, _ => []
  | n + 1, e => if e = d then [] else e :: walkFrom f d n (f e)
def walkL (f : Nat → Nat) (m d : Nat) : List Nat := d :: walkFrom f d m (f d)
theorem walkFrom_stop (f : Nat → Nat) (d : Nat) : ∀ n j, it f j d = d → ∀ i, i ≤ j → j - i ≤ n → ∃ p, i ≤ p ∧ p ≤ j ∧ it f p d = d ∧ (∀ q, i ≤ q → q < p → it f q d ≠ d) ∧ walkFrom f d n (it f i d) = (List.range (p - i)).map fun k => it f (i + k) d := by
  intro n
  induction n with
  | zero =>
    intro j hj i hi hn
    have : i = j := by omega
    subst this
    exact ⟨i, Nat.le_refl _, Nat.le_refl _, hj, fun q h1 h2 => absurd h2 (by omega), by simp [walkFrom]⟩
  | succ n ih =>
    intro j hj i hi hn
    by_cases e : it f i d = d
    · exact ⟨i, Nat.le_refl _, hi, e, fun q h1 h2 => absurd h2 (by omega), by simp [walkFrom, e]⟩
    · have hlt : i < j := by
        rcases Nat.lt_or_ge i j with h | h
        · exact h
        · have : i = j := by omega
          subst this
          exact absurd hj e
      obtain ⟨p, h1, h2, h3, h4, h5⟩ := ih j hj (i + 1) (by omega) (by omega)
      refine ⟨p, by omega, h2, h3, fun q hq1 hq2 => ?_, ?_⟩
      · by_cases hq : q = i
        · subst hq; exact e
        · exact h4 q (by omega) hq2
      · have e2 : p - i = (p - (i + 1)) + 1 := by omega
        rw [e2, List.range_succ_eq_map, List.map_cons, List.map_map]
        simp only [walkFrom, if_neg e]
        have e3 : f (it f i d) = it f (i + 1) d := rfl
        rw [e3, h5]
        refine List.cons_eq_cons.2 ⟨rfl, List.map_congr_left fun k _ => ?_⟩
        show it f (i + 1 + k) d = it f (i + (k + 1)) d
        congr 1
        omega
/-- The walk from d is d, f d, .. up to the first return. -/
theorem Inj.walk {f : Nat → Nat} {m : Nat} (h : Inj f m) {d : Nat} (hd : d < m) : ∃ p, 1 ≤ p ∧ p ≤ m ∧ it f p d = d ∧ (∀ q, 1 ≤ q → q < p → it f q d ≠ d) ∧ walkL f m d = (List.range p).map fun k => it f k d := by
  obtain ⟨j, hj1, hj2, hj3⟩ := h.back hd
  obtain ⟨p, h1, h2, h3, h4, h5⟩ := walkFrom_stop f d m j hj3 1 hj1 (by omega)
  refine ⟨p, h1, by omega, h3, h4, ?_⟩
  have e2 : p = (p - 1) + 1 := by omega
  unfold walkL
  have e3 : f d = it f 1 d := rfl
  rw [e3, h5]
  conv => rhs; rw [e2, List.range_succ_eq_map, List.map_cons, List.map_map]
  refine List.cons_eq_cons.2 ⟨rfl, List.map_congr_left fun k _ => ?_⟩
  show it f (1 + k) d = it f (k + 1) d
  congr 1
  omega
/-- What the walk holds: closed under f, without repeats, below m. -/
theorem Inj.walk_facts {f : Nat → Nat} {m : Nat} (h : Inj f m) {d : Nat} (hd : d < m) : d ∈ walkL f m d ∧ (walkL f m d).Nodup ∧ (∀ e ∈ walkL f m d, e < m) ∧ (∀ e ∈ walkL f m d, f e ∈ walkL f m d) ∧ (walkL f m d).length ≤ m ∧ ∀ e ∈ walkL f m d, ∃ q, it f q e = d := by
  obtain ⟨p, h1, h2, h3, h4, h5⟩ := h.walk hd
  refine ⟨by simp [walkL], ?_, ?_, ?_, by rw [h5]; simpa using h2, ?_⟩
  · rw [h5, List.nodup_iff_pairwise_ne, List.pairwise_map]
    refine List.Pairwise.imp_of_mem ?_ List.pairwise_lt_range
    intro a b ha hb hlt q
    have hb' : b < p := List.mem_range.1 hb
    have e : b = a + (b - a) := by omega
    rw [e, it_add] at q
    exact h4 (b - a) (by omega) (by omega) (h.it_inj hd (h.it_lt hd _) a q).symm
  · intro e he
    rw [h5] at he
    obtain ⟨i, _, rfl⟩ := List.mem_map.1 he
    exact h.it_lt hd i
  · intro e he
    rw [h5] at he ⊢
    obtain ⟨i, hi, rfl⟩ := List.mem_map.1 he
    have hi : i < p := List.mem_range.1 hi
    by_cases e : i + 1 = p
    · refine List.mem_map.2 ⟨0, List.mem_range.2 (by omega), ?_⟩
      show d = it f (i + 1) d
      rw [e, h3]
    · exact List.mem_map.2 ⟨i + 1, List.mem_range.2 (by omega), rfl⟩
  · intro e he
    rw [h5] at he
    obtain ⟨i, hi, rfl⟩ := List.mem_map.1 he
    have hi : i < p := List.mem_range.1 hi
    refine ⟨p - i, ?_⟩
    rw [← it_add]
    have : p - i + i = p := by omega
    rw [this, h3]
/-- The walks of the numbers below n, each number once. -/
def facesTo (f : Nat → Nat) (m : Nat) : Nat → List (List Nat)
  | 0 => []
  | d + 1 => if d ∈ (facesTo f m d).flatten then facesTo f m d else facesTo f m d ++ [walkL f m d]
theorem Inj.faces {f : Nat → Nat} {m : Nat} (h : Inj f m) : ∀ n, n ≤ m → (facesTo f m n).flatten.Nodup ∧ (∀ e ∈ (facesTo f m n).flatten, e < m) ∧ (∀ e ∈ (facesTo f m n).flatten, f e ∈ (facesTo f m n).flatten) ∧ (∀ d, d < n → d ∈ (facesTo f m n).flatten) ∧ (facesTo f m n).length ≤ n ∧ ∀ l ∈ facesTo f m n, l ≠ [] ∧ l.length ≤ m
  | 0, _ => by simp [facesTo]
  | n + 1, hn => by
    obtain ⟨h1, h2, h3, h4, h5, h6⟩ := h.faces n (by omega)
    have hd : n < m := by omega
    simp only [facesTo]
    split
    · rename_i hin
      refine ⟨h1, h2, h3, fun d hd => ?_, by omega, h6⟩
      rcases Nat.lt_or_ge d n with hlt | hge
      · exact h4 d hlt
      · have : d = n := by omega
        subst this
        exact hin
    · rename_i hout
      obtain ⟨w1, w2, w3, w4, w5, w6⟩ := h.walk_facts hd
      have hcl : ∀ q e, e ∈ (facesTo f m n).flatten → it f q e ∈ (facesTo f m n).flatten := by
        intro q
        induction q with
        | zero => intro e he; exact he
        | succ q ih => intro e he; exact h3 _ (ih e he)
      have e0 : (facesTo f m n ++ [walkL f m n]).flatten = (facesTo f m n).flatten ++ walkL f m n := by simp
      rw [e0]
      refine ⟨?_, ?_, ?_, ?_, by simp; omega, ?_⟩
      · rw [List.nodup_append]
        refine ⟨h1, w2, fun a ha b hb e => ?_⟩
        subst e
        obtain ⟨q, hq⟩ := w6 a hb
        exact hout (hq ▸ hcl q a ha)
      · intro e he
        rcases List.mem_append.1 he with he | he
        · exact h2 e he
        · exact w3 e he
      · intro e he
        rcases List.mem_append.1 he with he | he
        · exact List.mem_append_left _ (h3 e he)
        · exact List.mem_append_right _ (w4 e he)
      · intro d hd
        rcases Nat.lt_or_ge d n with hlt | hge
        · exact List.mem_append_left _ (h4 d hlt)
        · have : d = n := by omega
          subst this
          exact List.mem_append_right _ w1
      · intro l hl
        rcases List.mem_append.1 hl with hl | hl
        · exact h6 l hl
        · have e : l = walkL f m n := by simpa using hl
          subst e
          exact ⟨by simp [walkL], w5⟩
/-- The place of the walk in which a number lies (the last one; 0 where there is none). -/
def sideTo (F : List (List Nat)) (d : Nat) : Nat → Nat
  | 0 => 0
  | n + 1 => if d ∈ F.getD n [] then n else sideTo F d n
theorem sideTo_lt (F : List (List Nat)) (d : Nat) : ∀ n, 0 < n → sideTo F d n < n
  | 0, h => absurd h (by omega)
  | n + 1, _ => by
    simp only [sideTo]
    split
    · omega
    · rcases Nat.eq_zero_or_pos n with e | e
      · subst e; simp [sideTo]
      · have := sideTo_lt F d n e; omega
/-- A sum over all walks is the sum over all numbers. -/
theorem sum_perm {l m : List Int} (h : l.Perm m) : l.sum = m.sum := by
  induction h with
  | nil => rfl
  | cons _ _ ih => simp only [List.sum_cons, ih]
  | swap a b l => simp only [List.sum_cons]; omega
  | trans _ _ a b => exact a.trans b
theorem sum_flatten (g : Nat → Int) : ∀ F : List (List Nat), (F.flatten.map g).sum = (F.map fun l => (l.map g).sum).sum
  | [] => rfl
  | l :: F => by
    rw [List.flatten_cons, List.map_append, List.sum_append_int, sum_flatten g F, List.map_cons, List.sum_cons]
theorem nodup_perm_range {l : List Nat} {m : Nat} (h : l.Nodup) (h1 : ∀ x ∈ l, x < m) (h2 : ∀ d, d < m → d ∈ l) : l.Perm (List.range m) :=
  (List.perm_ext_iff_of_nodup h List.nodup_range).2 fun a => ⟨fun ha => List.mem_range.2 (h1 a ha), fun ha => h2 a (List.mem_range.1 ha)⟩
theorem Inj.sum_faces {f : Nat → Nat} {m : Nat} (h : Inj f m) (g : Nat → Int) : ((facesTo f m m).map fun l => (l.map g).sum).sum = ((List.range m).map g).sum := by
  obtain ⟨h1, h2, _, h4, _, _⟩ := h.faces m (Nat.le_refl _)
  rw [← sum_flatten]
  exact sum_perm ((nodup_perm_range h1 h2 h4).map g)
theorem sum_pairs (g : Nat → Int) : ∀ n, (∀ k, k < n → g (2 * k) + g (2 * k + 1) = 0) → ((List.range (2 * n)).map g).sum = 0
  | 0, _ => rfl
  | n + 1, h => by
    have ih := sum_pairs g n fun k hk => h k (by omega)
    have e : 2 * (n + 1) = 2 * n + 1 + 1 := by omega
    rw [e, List.range_succ, List.range_succ, List.map_append, List.map_append, List.sum_append_int, List.sum_append_int, ih]
    have := h n (by omega)
    simp
    omega
theorem sum_all_pos : ∀ l : List Int, (∀ x ∈ l, 0 < x) → l ≠ [] → 0 < l.sum
  | [], _, h => absurd rfl h
  | [a], h, _ => by have := h a (by simp); simpa using this
  | a :: b :: t, h, _ => by
    have h1 := h a (by simp)
    have h2 := sum_all_pos (b :: t) (fun x hx => h x (List.mem_cons_of_mem _ hx)) (by simp)
    rw [List.sum_cons]
    omega
end Go.Proofs.Ytkgbilbicdiadaa
