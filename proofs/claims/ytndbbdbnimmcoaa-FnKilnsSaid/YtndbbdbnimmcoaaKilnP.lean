/- Plain law on batches of the kiln (no program in sight): the least cost of batches, by parts and by kinds. No condition. -/
namespace Go.Proofs.Ytndbbdbnimmcoaa

abbrev Q3' := Int × Int × Int
/-- The elements of a list whose places are in a set. -/
def elems {α : Type} : List α → Nat → List α
  | [], _ => []
  | x :: t, s => if s % 2 = 1 then x :: elems t (s / 2) else elems t (s / 2)
theorem elems_zero {α : Type} : ∀ l : List α, elems l 0 = []
  | [] => rfl
  | x :: t => by simp [elems, elems_zero t]
theorem elems_length {α : Type} : ∀ (l : List α) (s : Nat), (elems l s).length ≤ l.length
  | [], _ => by simp [elems]
  | x :: t, s => by
    have := elems_length t (s / 2)
    simp only [elems]
    split <;> simp <;> omega
theorem elems_full {α : Type} : ∀ l : List α, elems l (2 ^ l.length - 1) = l
  | [] => rfl
  | x :: t => by
    have h : 0 < 2 ^ t.length := Nat.two_pow_pos _
    have e1 : (2 ^ (x :: t).length - 1) % 2 = 1 := by rw [List.length_cons, Nat.pow_succ]; omega
    have e2 : (2 ^ (x :: t).length - 1) / 2 = 2 ^ t.length - 1 := by rw [List.length_cons, Nat.pow_succ]; omega
    rw [elems, if_pos e1, e2, elems_full t]
theorem elems_mem {α : Type} : ∀ {l : List α} {s : Nat} {x : α}, x ∈ elems l s → ∃ k, k < l.length ∧ s.testBit k = true ∧ l[k]? = some x
  | [], s, x, h => by simp [elems] at h
  | y :: t, s, x, h => by
    simp only [elems] at h
    split at h
    · rename_i h1
      rcases List.mem_cons.1 h with rfl | h
      · exact ⟨0, by simp, by simp [Nat.testBit_zero, h1], rfl⟩
      · obtain ⟨k, a, b, c⟩ := elems_mem h
        exact ⟨k + 1, by simpa using a, by rw [Nat.testBit_succ]; exact b, by simpa using c⟩
    · obtain ⟨k, a, b, c⟩ := elems_mem h
      exact ⟨k + 1, by simpa using a, by rw [Nat.testBit_succ]; exact b, by simpa using c⟩
theorem elems_in {α : Type} : ∀ {l : List α} {s k : Nat} {x : α}, s.testBit k = true → l[k]? = some x → x ∈ elems l s
  | [], s, k, x, _, h => by simp at h
  | y :: t, s, 0, x, hb, h => by
    have : s % 2 = 1 := by simpa [Nat.testBit_zero] using hb
    simp at h
    simp [elems, this, h]
  | y :: t, s, k + 1, x, hb, h => by
    have := elems_in (l := t) (s := s / 2) (k := k) (x := x) (by rw [Nat.testBit_succ] at hb; exact hb) (by simpa using h)
    simp only [elems]
    split
    · exact List.mem_cons_of_mem _ this
    · exact this
theorem xor_half (s p : Nat) : (s ^^^ p) / 2 = s / 2 ^^^ p / 2 := by
  refine Nat.eq_of_testBit_eq fun i => ?_
  rw [← Nat.testBit_succ, Nat.testBit_xor, Nat.testBit_xor, Nat.testBit_succ, Nat.testBit_succ]
theorem xor_odd (s p : Nat) : (s ^^^ p) % 2 = (s + p) % 2 := by
  have h := @Nat.xor_mod_two_eq_one s p
  omega
/-- One element less. -/
theorem elems_del {α : Type} : ∀ {l : List α} {s k : Nat} {x : α}, s.testBit k = true → l[k]? = some x → (elems l s).Perm (x :: elems l (s ^^^ 2 ^ k))
  | [], s, k, x, _, h => by simp at h
  | y :: t, s, 0, x, hb, h => by
    have h1 : s % 2 = 1 := by simpa [Nat.testBit_zero] using hb
    simp at h
    subst h
    have e1 : (s ^^^ 2 ^ 0) % 2 ≠ 1 := by rw [xor_odd]; simp; omega
    have e2 : (s ^^^ 2 ^ 0) / 2 = s / 2 := by rw [xor_half]; simp
    rw [elems, if_pos h1, elems, if_neg e1, e2]
  | y :: t, s, k + 1, x, hb, h => by
    have ih := elems_del (l := t) (s := s / 2) (k := k) (x := x) (by rw [Nat.testBit_succ] at hb; exact hb) (by simpa using h)
    have e1 : (s ^^^ 2 ^ (k + 1)) % 2 = s % 2 := by rw [xor_odd, Nat.pow_succ]; omega
    have e2 : (s ^^^ 2 ^ (k + 1)) / 2 = s / 2 ^^^ 2 ^ k := by rw [xor_half, Nat.pow_succ]; simp
    rw [elems, elems, e1, e2]
    split
    · exact (ih.cons y).trans (.swap _ _ _)
    · exact ih
theorem sub_testBit {s p k : Nat} (h : p &&& s = p) (hb : p.testBit k = true) : s.testBit k = true := by
  rw [← h, Nat.testBit_and] at hb
  exact (Bool.and_eq_true _ _ ▸ hb).2
/-- A group of the elements has a set of places. -/
theorem elems_split {α : Type} {l : List α} : ∀ {A : List α} {s : Nat} {B : List α}, (elems l s).Perm (A ++ B) → ∃ p, p &&& s = p ∧ (elems l p).Perm A ∧ (elems l (s ^^^ p)).Perm B
  | [], s, B, h => ⟨0, by simp, by rw [elems_zero], by simpa using h⟩
  | x :: A, s, B, h => by
    obtain ⟨k, hk, hb, hx⟩ := elems_mem (h.mem_iff.2 (List.mem_append_left _ (List.mem_cons_self ..)))
    have hd := elems_del hb hx
    have h1 : (elems l (s ^^^ 2 ^ k)).Perm (A ++ B) := List.Perm.cons_inv (hd.symm.trans h)
    obtain ⟨p, hp, hA, hB⟩ := elems_split h1
    have hpk : p.testBit k = false := by
      cases e : p.testBit k
      · rfl
      · have := sub_testBit hp e
        rw [Nat.testBit_xor, hb, Nat.testBit_two_pow_self] at this
        simp at this
    have hq : (p ^^^ 2 ^ k).testBit k = true := by rw [Nat.testBit_xor, hpk, Nat.testBit_two_pow_self]; rfl
    refine ⟨p ^^^ 2 ^ k, ?_, ?_, ?_⟩
    · refine Nat.eq_of_testBit_eq fun i => ?_
      rw [Nat.testBit_and]
      cases e : (p ^^^ 2 ^ k).testBit i
      · rfl
      · simp only [Bool.true_and]
        by_cases hi : k = i
        · rw [← hi]; exact hb
        · rw [Nat.testBit_xor, Nat.testBit_two_pow_of_ne hi, Bool.xor_false] at e
          have := sub_testBit hp e
          rwa [Nat.testBit_xor, Nat.testBit_two_pow_of_ne hi, Bool.xor_false] at this
    · refine (elems_del hq hx).trans ?_
      rw [Nat.xor_assoc, Nat.xor_self, Nat.xor_zero]
      exact hA.cons x
    · have : s ^^^ (p ^^^ 2 ^ k) = s ^^^ 2 ^ k ^^^ p := by rw [Nat.xor_assoc, Nat.xor_comm p]
      rw [this]
      exact hB
theorem elems_parts {α : Type} : ∀ {l : List α} {s p : Nat}, p &&& s = p → (elems l s).Perm (elems l p ++ elems l (s ^^^ p))
  | [], s, p, _ => by simp [elems]
  | x :: t, s, p, h => by
    have h2 : p / 2 &&& s / 2 = p / 2 := by
      refine Nat.eq_of_testBit_eq fun i => ?_
      have : (p &&& s).testBit (i + 1) = p.testBit (i + 1) := by rw [h]
      rw [Nat.testBit_and, Nat.testBit_succ, Nat.testBit_succ] at this
      rw [Nat.testBit_and]
      exact this
    have ih := elems_parts (l := t) h2
    have e2 : (s ^^^ p) / 2 = s / 2 ^^^ p / 2 := xor_half s p
    have e1 := xor_odd s p
    have h0 : p % 2 = 1 → s % 2 = 1 := fun e => by
      have := sub_testBit h (k := 0) (by simpa [Nat.testBit_zero] using e)
      simpa [Nat.testBit_zero] using this
    simp only [elems, e2]
    by_cases a : p % 2 = 1
    · have b := h0 a
      rw [if_pos b, if_pos a, if_neg (by omega)]
      exact ih.cons x
    · rw [if_neg a]
      by_cases b : s % 2 = 1
      · rw [if_pos b, if_pos (by omega)]
        exact (ih.cons x).trans List.perm_middle.symm
      · rw [if_neg b, if_neg (by omega)]
        exact ih

theorem perm_sum {l m : List Int} (h : l.Perm m) : l.sum = m.sum := by
  induction h with
  | nil => rfl
  | cons _ _ ih => simp only [List.sum_cons, ih]
  | swap a b l => simp only [List.sum_cons]; omega
  | trans _ _ a b => exact a.trans b
/-- The numbers can be laid into k groups, none above 100. -/
inductive Pk : List Int → Nat → Prop
  | nil : Pk [] 0
  | add {l a b : List Int} {k : Nat} : l.Perm (a ++ b) → a ≠ [] → a.sum ≤ 100 → Pk b k → Pk l (k + 1)
theorem Pk.perm {l m : List Int} {k : Nat} (h : Pk l k) (hm : m.Perm l) : Pk m k := by
  cases h with
  | nil => rw [List.Perm.eq_nil hm]; exact .nil
  | add h1 h2 h3 h4 => exact .add (hm.trans h1) h2 h3 h4
theorem Pk.length {l : List Int} {k : Nat} (h : Pk l k) : k ≤ l.length := by
  induction h with
  | nil => simp
  | add h1 h2 _ _ ih =>
    have e := h1.length_eq
    rw [List.length_append] at e
    have := List.length_pos_iff.2 h2
    omega
theorem Pk.zero {l : List Int} (h : Pk l 0) : l = [] := by cases h; rfl
theorem Pk.ne {k : Nat} (h : Pk [] k) : k = 0 := by have := h.length; simpa using this
theorem Pk.one : ∀ l : List Int, (∀ x ∈ l, x ≤ 100) → Pk l l.length
  | [], _ => .nil
  | x :: t, h => .add (a := [x]) (b := t) (by simp) (by simp) (by simpa using h x (by simp)) (Pk.one t fun y hy => h y (by simp [hy]))
/-- A group that holds a number of the list comes first. -/
theorem Pk.pick {l : List Int} {k : Nat} (h : Pk l k) {x : Int} (hx : x ∈ l) : ∃ a b j, k = j + 1 ∧ l.Perm ((x :: a) ++ b) ∧ (x :: a).sum ≤ 100 ∧ Pk b j := by
  induction h with
  | nil => simp at hx
  | @add l a b k h1 h2 h3 h4 ih =>
    rcases List.mem_append.1 (h1.mem_iff.1 hx) with m | m
    · have pe := List.perm_cons_erase m
      exact ⟨a.erase x, b, k, rfl, h1.trans (pe.append_right b), by rw [← perm_sum pe]; exact h3, h4⟩
    · obtain ⟨a', b', j, rfl, h5, h6, h7⟩ := ih m
      refine ⟨a', a ++ b', j + 1, rfl, ?_, h6, .add (.refl _) h2 h3 h7⟩
      refine h1.trans ((h5.append_left a).trans ?_)
      rw [← List.append_assoc, ← List.append_assoc]
      exact List.perm_append_comm.append_right b'

/-- b groups are enough and necessary. -/
def MinPk (l : List Int) (b : Nat) : Prop := Pk l b ∧ ∀ j, Pk l j → b ≤ j
theorem MinPk.unique {l : List Int} {a b : Nat} (h : MinPk l a) (h' : MinPk l b) : a = b := by
  have := h.2 _ h'.1
  have := h'.2 _ h.1
  omega
/-- b groups, of which one weighs u. -/
def Ach (l : List Int) (b : Nat) (u : Int) : Prop := ∃ D r j, l.Perm (D ++ r) ∧ D ≠ [] ∧ D.sum = u ∧ u ≤ 100 ∧ Pk r j ∧ b = j + 1
def Low (l : List Int) (b : Nat) (u : Int) : Prop := ∀ D r j, l.Perm (D ++ r) → D ≠ [] → D.sum ≤ 100 → Pk r j → b < j + 1 ∨ (b = j + 1 ∧ u ≤ D.sum)
def BestPk (l : List Int) (b : Nat) (u : Int) : Prop := (l = [] ∧ b = 0 ∧ u = 100) ∨ (l ≠ [] ∧ Ach l b u ∧ Low l b u)
theorem Ach.pk {l : List Int} {b : Nat} {u : Int} (h : Ach l b u) : Pk l b := by
  obtain ⟨D, r, j, h1, h2, h3, h4, h5, rfl⟩ := h
  exact .add h1 h2 (by omega) h5
theorem BestPk.min {l : List Int} {b : Nat} {u : Int} (h : BestPk l b u) : MinPk l b := by
  rcases h with ⟨rfl, rfl, rfl⟩ | ⟨hl, ha, hb⟩
  · exact ⟨.nil, fun j _ => Nat.zero_le _⟩
  · refine ⟨ha.pk, fun j hj => ?_⟩
    cases hj with
    | nil => exact absurd rfl hl
    | add h1 h2 h3 h4 => rcases hb _ _ _ h1 h2 h3 h4 with h | h <;> omega
/-- One number more, in the open group if it has room. -/
def candB (x : Int) (b : Nat) (u : Int) : Nat := if u + x > 100 then b + 1 else b
def candU (x : Int) (u : Int) : Int := if u + x > 100 then x else u + x
theorem cand_ach {l t : List Int} {x : Int} {b : Nat} {u : Int} (hl : l.Perm (x :: t)) (hx : x ≤ 100) (h : BestPk t b u) (h0 : 1 ≤ x) : Ach l (candB x b u) (candU x u) := by
  unfold candB candU
  rcases h with ⟨rfl, rfl, rfl⟩ | ⟨ht, ⟨D, r, j, h1, h2, h3, h4, h5, rfl⟩, _⟩
  · rw [if_pos (by omega), if_pos (by omega)]
    exact ⟨[x], [], 0, by simpa using hl, by simp, by simp, hx, .nil, rfl⟩
  · split
    · exact ⟨[x], t, j + 1, by simpa using hl, by simp, by simp, hx, .add h1 h2 (by omega) h5, rfl⟩
    · exact ⟨x :: D, r, j, hl.trans (h1.cons x), by simp, by simp; omega, by omega, h5, rfl⟩
theorem sum_nonneg {l : List Int} (h : ∀ x ∈ l, 1 ≤ x) : 0 ≤ l.sum := by
  induction l with
  | nil => simp
  | cons a t ih =>
    have := ih fun x hx => h x (List.mem_cons_of_mem _ hx)
    have := h a (List.mem_cons_self ..)
    simp only [List.sum_cons]
    omega
theorem cand_low {l t D r : List Int} {x : Int} {b j : Nat} {u : Int} (hl : l.Perm (x :: t)) (hp : ∀ y ∈ l, 1 ≤ y ∧ y ≤ 100) (h : BestPk t b u) (hD : l.Perm (D ++ r)) (hxD : x ∈ D) (hs : D.sum ≤ 100) (hr : Pk r j) :
    candB x b u < j + 1 ∨ (candB x b u = j + 1 ∧ candU x u ≤ D.sum) := by
  have hDe := List.perm_cons_erase hxD
  have hsum := perm_sum hDe
  rw [List.sum_cons] at hsum
  have ht : t.Perm (D.erase x ++ r) := List.Perm.cons_inv (hl.symm.trans (hD.trans (hDe.append_right r)))
  have hn : 0 ≤ (D.erase x).sum := sum_nonneg fun y hy => (hp y (hD.mem_iff.2 (List.mem_append_left _ (List.mem_of_mem_erase hy)))).1
  have hx := hp x (hl.mem_iff.2 (List.mem_cons_self ..))
  unfold candB candU
  by_cases he : D.erase x = []
  · rw [he] at ht hsum
    simp at ht hsum
    rcases h with ⟨rfl, rfl, rfl⟩ | ⟨htn, _, hlow⟩
    · have : r = [] := List.Perm.eq_nil ht.symm
      subst this
      obtain rfl := hr.ne
      rw [if_pos (by omega), if_pos (by omega)]
      exact .inr ⟨rfl, by omega⟩
    · cases hr with
      | nil => exact absurd (List.Perm.eq_nil ht) htn
      | @add _ a b' k h1 h2 h3 h4 =>
        have := hlow _ _ _ (ht.trans h1) h2 h3 h4
        split
        · rcases this with h | ⟨h, _⟩
          · exact .inl (by omega)
          · exact .inr ⟨by omega, by omega⟩
        · rcases this with h | ⟨h, _⟩ <;> exact .inl (by omega)
  · rcases h with ⟨rfl, rfl, rfl⟩ | ⟨htn, _, hlow⟩
    · have := ht.symm.eq_nil
      exact absurd (List.append_eq_nil_iff.1 this).1 he
    · have := hlow _ _ _ ht he (by omega) hr
      split
      · rcases this with h | ⟨h, h'⟩
        · by_cases e : b + 1 = j + 1
          · exact .inr ⟨e, by omega⟩
          · exact .inl (by omega)
        · omega
      · rcases this with h | ⟨h, h'⟩
        · exact .inl h
        · exact .inr ⟨h, by omega⟩
theorem BestPk.bound {l : List Int} {b : Nat} {u : Int} (h : BestPk l b u) (hp : ∀ y ∈ l, 1 ≤ y ∧ y ≤ 100) : b ≤ l.length ∧ 0 ≤ u ∧ u ≤ 100 := by
  rcases h with ⟨rfl, rfl, rfl⟩ | ⟨hl, ha, _⟩
  · simp
  · obtain ⟨D, r, j, h1, h2, h3, h4, h5, h6⟩ := ha
    have := (Ach.pk ⟨D, r, j, h1, h2, h3, h4, h5, h6⟩).length
    have h7 := sum_nonneg (l := D) fun y hy => (hp y (h1.mem_iff.2 (List.mem_append_left _ hy))).1
    exact ⟨this, by omega, h4⟩
theorem elems_all {α : Type} {p : α → Prop} {l : List α} (h : ∀ x ∈ l, p x) (s : Nat) : ∀ x ∈ elems l s, p x := fun x hx => by
  obtain ⟨k, _, _, e⟩ := elems_mem hx
  exact h x (List.mem_of_getElem? e)
theorem elems_ne {α : Type} : ∀ {l : List α} {s : Nat}, 0 < s → s < 2 ^ l.length → elems l s ≠ []
  | [], s, h, h' => by simp at h'; omega
  | x :: t, s, h, h' => by
    rw [List.length_cons, Nat.pow_succ] at h'
    simp only [elems]
    split
    · simp
    · exact elems_ne (by omega) (by omega)
theorem bit_in {s n k : Nat} (hs : s < 2 ^ n) (hb : s.testBit k = true) : k < n := by
  rcases Nat.lt_or_ge k n with h | h
  · exact h
  · rw [Nat.testBit_lt_two_pow (Nat.lt_of_lt_of_le hs (Nat.pow_le_pow_right (by decide) h))] at hb
    exact absurd hb (by simp)
theorem pow_and {s k : Nat} (hb : s.testBit k = true) : 2 ^ k &&& s = 2 ^ k := by
  refine Nat.eq_of_testBit_eq fun i => ?_
  rw [Nat.testBit_and]
  by_cases e : k = i
  · subst e; rw [hb, Bool.and_true]
  · rw [Nat.testBit_two_pow_of_ne e]; rfl
/-- The state of the table's entry of a set after the places below k. -/
def RunPk (R : List Int) (s k : Nat) (b : Nat) (u : Int) : Prop :=
  (∀ i x b' u', i < k → s.testBit i = true → R[i]? = some x → BestPk (elems R (s ^^^ 2 ^ i)) b' u' → b < candB x b' u' ∨ (b = candB x b' u' ∧ u ≤ candU x u')) ∧
  ((b = R.length + 1 ∧ u = 0 ∧ ∀ i, i < k → s.testBit i = false) ∨ Ach (elems R s) b u)
theorem RunPk.start (R : List Int) (s : Nat) : RunPk R s 0 (R.length + 1) 0 := ⟨fun i _ _ _ h => absurd h (by omega), .inl ⟨rfl, rfl, fun i h => absurd h (by omega)⟩⟩
theorem RunPk.skip {R : List Int} {s k b : Nat} {u : Int} (h : RunPk R s k b u) (hk : s.testBit k = false) : RunPk R s (k + 1) b u := by
  refine ⟨fun i x b' u' hi hb hx hB => ?_, ?_⟩
  · by_cases e : i = k
    · subst e; rw [hk] at hb; exact absurd hb (by simp)
    · exact h.1 i x b' u' (by omega) hb hx hB
  · rcases h.2 with ⟨h1, h2, h3⟩ | h1
    · refine .inl ⟨h1, h2, fun i hi => ?_⟩
      by_cases e : i = k
      · rw [e, hk]
      · exact h3 i (by omega)
    · exact .inr h1
theorem BestPk.unique {l : List Int} {a b : Nat} {u v : Int} (h : BestPk l a u) (h' : BestPk l b v) : a = b ∧ u = v := by
  rcases h with ⟨rfl, rfl, rfl⟩ | ⟨hl, ha, hlow⟩
  · rcases h' with ⟨_, rfl, rfl⟩ | ⟨hl, _⟩
    · exact ⟨rfl, rfl⟩
    · exact absurd rfl hl
  · rcases h' with ⟨e, _⟩ | ⟨_, ha', hlow'⟩
    · exact absurd e hl
    · obtain ⟨D, r, j, h1, h2, h3, h4, h5, h6⟩ := ha
      obtain ⟨D', r', j', k1, k2, k3, k4, k5, k6⟩ := ha'
      have x1 := hlow _ _ _ k1 k2 (by omega) k5
      have x2 := hlow' _ _ _ h1 h2 (by omega) h5
      omega
theorem RunPk.step {R : List Int} {s k b b' : Nat} {u u' x : Int} (h : RunPk R s k b u) (hR : ∀ y ∈ R, 1 ≤ y ∧ y ≤ 100) (hk : s.testBit k = true) (hx : R[k]? = some x) (hB : BestPk (elems R (s ^^^ 2 ^ k)) b' u') :
    RunPk R s (k + 1) (if candB x b' u' < b ∨ (candB x b' u' = b ∧ candU x u' < u) then candB x b' u' else b) (if candB x b' u' < b ∨ (candB x b' u' = b ∧ candU x u' < u) then candU x u' else u) := by
  have hxr := hR x (List.mem_of_getElem? hx)
  have hA : Ach (elems R s) (candB x b' u') (candU x u') := cand_ach (elems_del hk hx) hxr.2 hB hxr.1
  have hlen : candB x b' u' ≤ R.length := Nat.le_trans hA.pk.length (elems_length _ _)
  split
  · rename_i hlt
    refine ⟨fun i y b2 u2 hi hb hy hB2 => ?_, .inr hA⟩
    by_cases e : i = k
    · subst e
      rw [hx] at hy
      injection hy with hy
      subst hy
      obtain ⟨rfl, rfl⟩ := hB.unique hB2
      exact .inr ⟨rfl, Int.le_refl _⟩
    · have := h.1 i y b2 u2 (by omega) hb hy hB2
      omega
  · rename_i hnl
    refine ⟨fun i y b2 u2 hi hb hy hB2 => ?_, ?_⟩
    · by_cases e : i = k
      · subst e
        rw [hx] at hy
        injection hy with hy
        subst hy
        obtain ⟨rfl, rfl⟩ := hB.unique hB2
        omega
      · exact h.1 i y b2 u2 (by omega) hb hy hB2
    · rcases h.2 with ⟨h1, h2, h3⟩ | h1
      · exact absurd (Or.inl (by omega)) hnl
      · exact .inr h1
theorem RunPk.done {R : List Int} {s b : Nat} {u : Int} (h : RunPk R s R.length b u) (hR : ∀ y ∈ R, 1 ≤ y ∧ y ≤ 100) (hs : elems R s ≠ [])
    (hT : ∀ i, i < R.length → s.testBit i = true → ∃ b' u', BestPk (elems R (s ^^^ 2 ^ i)) b' u') : BestPk (elems R s) b u := by
  rcases h.2 with ⟨_, _, h3⟩ | h1
  · obtain ⟨x, hx⟩ := List.exists_mem_of_ne_nil _ hs
    obtain ⟨i, hi, hb, _⟩ := elems_mem hx
    rw [h3 i hi] at hb
    exact absurd hb (by simp)
  · refine .inr ⟨hs, h1, fun D r j hD hne hsum hr => ?_⟩
    obtain ⟨x, hx⟩ := List.exists_mem_of_ne_nil _ hne
    obtain ⟨i, hi, hb, hxi⟩ := elems_mem (hD.mem_iff.2 (List.mem_append_left _ hx))
    obtain ⟨b', u', hB⟩ := hT i hi hb
    have c1 := cand_low (elems_del hb hxi) (fun y hy => by obtain ⟨q, _, _, hq⟩ := elems_mem hy; exact hR y (List.mem_of_getElem? hq)) hB hD hx hsum hr
    have c2 := h.1 i x b' u' hi hb hxi hB
    omega

/-- Batches of panes with their cost. -/
inductive Fir (c : Int × Int → Int) : List Q3' → Int → Prop
  | nil : Fir c [] 0
  | add {l : List Q3'} {a : Q3'} {A B : List Q3'} {v : Int} : l.Perm ((a :: A) ++ B) → (∀ x ∈ A, x.1 = a.1 ∧ x.2.1 = a.2.1) → ((a :: A).map (·.2.2)).sum ≤ 100 → Fir c B v → Fir c l (v + c (a.1, a.2.1))
variable {c : Int × Int → Int}
theorem Fir.perm {l m : List Q3'} {v : Int} (h : Fir c l v) (hm : m.Perm l) : Fir c m v := by
  cases h with
  | nil => rw [List.Perm.eq_nil hm]; exact .nil
  | add h1 h2 h3 h4 => exact .add (hm.trans h1) h2 h3 h4
theorem Fir.pick {l : List Q3'} {v : Int} (h : Fir c l v) {x : Q3'} (hx : x ∈ l) : ∃ A B v', l.Perm ((x :: A) ++ B) ∧ (∀ y ∈ A, y.1 = x.1 ∧ y.2.1 = x.2.1) ∧ ((x :: A).map (·.2.2)).sum ≤ 100 ∧ Fir c B v' ∧ v = v' + c (x.1, x.2.1) := by
  induction h with
  | nil => simp at hx
  | @add l a A B v h1 h2 h3 h4 ih =>
    rcases List.mem_append.1 (h1.mem_iff.1 hx) with m | m
    · have hk : ∀ y ∈ a :: A, y.1 = a.1 ∧ y.2.1 = a.2.1 := fun y hy => by
        rcases List.mem_cons.1 hy with rfl | hy
        · exact ⟨rfl, rfl⟩
        · exact h2 y hy
      have pe := List.perm_cons_erase m
      have hx' := hk x m
      refine ⟨(a :: A).erase x, B, v, h1.trans (pe.append_right B), fun y hy => ?_, ?_, h4, by rw [hx'.1, hx'.2]⟩
      · have := hk y (List.mem_of_mem_erase hy)
        exact ⟨this.1.trans hx'.1.symm, this.2.trans hx'.2.symm⟩
      · rw [← perm_sum (pe.map _)]
        exact h3
    · obtain ⟨A', B', v', h5, h6, h7, h8, rfl⟩ := ih m
      refine ⟨A', (a :: A) ++ B', v' + c (a.1, a.2.1), ?_, h6, h7, .add (.refl _) h2 h3 h8, by omega⟩
      refine h1.trans ((h5.append_left _).trans ?_)
      rw [← List.append_assoc, ← List.append_assoc]
      exact List.perm_append_comm.append_right B'
theorem Fir.append {l m : List Q3'} {u v : Int} (h : Fir c l u) (h' : Fir c m v) : Fir c (l ++ m) (u + v) := by
  induction h with
  | nil => simpa using h'
  | @add l a A B u h1 h2 h3 h4 ih =>
    have : u + c (a.1, a.2.1) + v = (u + v) + c (a.1, a.2.1) := by omega
    rw [this]
    exact .add ((h1.append_right m).trans (by rw [List.append_assoc])) h2 h3 ih
def MinFir (c : Int × Int → Int) (l : List Q3') (v : Int) : Prop := Fir c l v ∧ ∀ u, Fir c l u → v ≤ u
theorem MinFir.unique {l : List Q3'} {u v : Int} (h : MinFir c l u) (h' : MinFir c l v) : u = v := by
  have := h.2 _ h'.1
  have := h'.2 _ h.1
  omega
theorem MinFir.nil : MinFir c [] 0 := ⟨.nil, fun u h => by
  cases h with
  | nil => exact Int.le_refl _
  | add h1 _ _ _ => exact absurd h1.length_eq (by simp)⟩
/-- A set of places whose panes can be one batch, with the first place of a set. -/
def Good (L : List Q3') (f p : Nat) (x : Q3') : Prop := p.testBit f = true ∧ (∀ y ∈ elems L p, y.1 = x.1 ∧ y.2.1 = x.2.1) ∧ ((elems L p).map (·.2.2)).sum ≤ 100
theorem Good.fir {L : List Q3'} {s f p : Nat} {x : Q3'} {v : Int} (hx : L[f]? = some x) (hp : p &&& s = p) (hg : Good L f p x) (hv : Fir c (elems L (s ^^^ p)) v) : Fir c (elems L s) (v + c (x.1, x.2.1)) := by
  have h1 := elems_parts (l := L) hp
  have h2 := elems_del hg.1 hx
  refine .add (a := x) (A := elems L (p ^^^ 2 ^ f)) (h1.trans (h2.append_right _)) (fun y hy => hg.2.1 y (h2.mem_iff.2 (List.mem_cons_of_mem _ hy))) ?_ hv
  rw [← perm_sum (h2.map _)]
  exact hg.2.2
theorem Good.of {L : List Q3'} {s f : Nat} {x : Q3'} {u : Int} (hb : s.testBit f = true) (hx : L[f]? = some x) (h : Fir c (elems L s) u) : ∃ p v, p &&& s = p ∧ Good L f p x ∧ Fir c (elems L (s ^^^ p)) v ∧ u = v + c (x.1, x.2.1) := by
  obtain ⟨A, B, v, h1, h2, h3, h4, h5⟩ := h.pick (elems_in hb hx)
  have hd := elems_del hb hx
  obtain ⟨p, hp, hA, hB⟩ := elems_split (List.Perm.cons_inv (hd.symm.trans h1))
  have hpf : p.testBit f = false := by
    cases e : p.testBit f
    · rfl
    · have := sub_testBit hp e
      rw [Nat.testBit_xor, hb, Nat.testBit_two_pow_self] at this
      simp at this
  have hq : (p ^^^ 2 ^ f).testBit f = true := by rw [Nat.testBit_xor, hpf, Nat.testBit_two_pow_self]; rfl
  have hE : (elems L (p ^^^ 2 ^ f)).Perm (x :: A) := by
    refine (elems_del hq hx).trans ?_
    rw [Nat.xor_assoc, Nat.xor_self, Nat.xor_zero]
    exact hA.cons x
  refine ⟨p ^^^ 2 ^ f, v, ?_, ⟨hq, fun y hy => ?_, ?_⟩, h4.perm ?_, h5⟩
  · refine Nat.eq_of_testBit_eq fun i => ?_
    rw [Nat.testBit_and]
    cases e : (p ^^^ 2 ^ f).testBit i
    · rfl
    · simp only [Bool.true_and]
      by_cases hi : f = i
      · rw [← hi]; exact hb
      · rw [Nat.testBit_xor, Nat.testBit_two_pow_of_ne hi, Bool.xor_false] at e
        have := sub_testBit hp e
        rwa [Nat.testBit_xor, Nat.testBit_two_pow_of_ne hi, Bool.xor_false] at this
  · rcases List.mem_cons.1 (hE.mem_iff.1 hy) with rfl | hy
    · exact ⟨rfl, rfl⟩
    · exact h2 y hy
  · rw [perm_sum (hE.map _)]
    exact h3
  · have : s ^^^ (p ^^^ 2 ^ f) = s ^^^ 2 ^ f ^^^ p := by rw [Nat.xor_assoc, Nat.xor_comm p]
    rw [this]
    exact hB
/-- Every pane alone. -/
theorem Fir.ones {M : Int} : ∀ (l : List Q3'), (∀ x ∈ l, x.2.2 ≤ 100) → (∀ x ∈ l, 0 ≤ c (x.1, x.2.1) ∧ c (x.1, x.2.1) ≤ M) → ∃ v, Fir c l v ∧ v ≤ M * l.length
  | [], _, _ => ⟨0, .nil, by simp⟩
  | x :: t, h1, h2 => by
    obtain ⟨v, hv, hle⟩ := Fir.ones (M := M) t (fun y hy => h1 y (List.mem_cons_of_mem _ hy)) (fun y hy => h2 y (List.mem_cons_of_mem _ hy))
    refine ⟨v + c (x.1, x.2.1), .add (a := x) (A := []) (B := t) (by simp) (by simp) (by simpa using h1 x (by simp)) hv, ?_⟩
    have := (h2 x (by simp)).2
    rw [List.length_cons]
    push_cast
    rw [Int.mul_add, Int.mul_one]
    omega
theorem Fir.nonneg {l : List Q3'} {v : Int} (h : Fir c l v) (hc : ∀ x ∈ l, 0 ≤ c (x.1, x.2.1)) : 0 ≤ v := by
  induction h with
  | nil => omega
  | @add l a A B v h1 h2 h3 h4 ih =>
    have := ih fun x hx => hc x (h1.mem_iff.2 (List.mem_append_right _ hx))
    have := hc a (h1.mem_iff.2 (by simp))
    omega

/-- The rooms of the panes of one kind. -/
def rooms (k : Int × Int) (l : List Q3') : List Int := (l.filter fun x => (x.1, x.2.1) == k).map (·.2.2)
theorem rooms_perm {l m : List Q3'} (h : l.Perm m) (k : Int × Int) : (rooms k l).Perm (rooms k m) := (h.filter _).map _
theorem rooms_append (k : Int × Int) (l m : List Q3') : rooms k (l ++ m) = rooms k l ++ rooms k m := by simp [rooms]
theorem rooms_all {k : Int × Int} {l : List Q3'} (h : ∀ x ∈ l, (x.1, x.2.1) = k) : rooms k l = l.map (·.2.2) := by
  unfold rooms
  rw [List.filter_eq_self.2 (fun x hx => by simp [h x hx])]
theorem rooms_none {k : Int × Int} {l : List Q3'} (h : ∀ x ∈ l, (x.1, x.2.1) ≠ k) : rooms k l = [] := by
  unfold rooms
  rw [List.filter_eq_nil_iff.2 (fun x hx => by simpa using h x hx)]
  rfl
theorem sum_bump (ks : List (Int × Int)) (n : Int × Int → Nat) (c : Int × Int → Int) (k0 : Int × Int) (hn : ks.Nodup) : (k0 ∉ ks → (ks.map fun k => ((if k = k0 then n k + 1 else n k : Nat) : Int) * c k).sum = (ks.map fun k => (n k : Int) * c k).sum) ∧
    (k0 ∈ ks → (ks.map fun k => ((if k = k0 then n k + 1 else n k : Nat) : Int) * c k).sum = (ks.map fun k => (n k : Int) * c k).sum + c k0) := by
  induction ks with
  | nil => simp
  | cons a t ih =>
    obtain ⟨h1, h2⟩ := List.nodup_cons.1 hn
    obtain ⟨i1, i2⟩ := ih h2
    simp only [List.map_cons, List.sum_cons]
    refine ⟨fun h => ?_, fun h => ?_⟩
    · have hne : a ≠ k0 := fun e => h (by simp [e])
      rw [i1 (fun h' => h (List.mem_cons_of_mem _ h')), if_neg hne]
    · by_cases e : a = k0
      · subst e
        rw [i1 h1, if_pos rfl]
        push_cast
        rw [Int.add_mul, Int.one_mul]
        omega
      · rw [i2 ((List.mem_cons.1 h).resolve_left (fun e' => e e'.symm)), if_neg e]
        omega
theorem Fir.kinds {l : List Q3'} {v : Int} (h : Fir c l v) : ∃ n : Int × Int → Nat, (∀ k, Pk (rooms k l) (n k)) ∧ ∀ ks : List (Int × Int), ks.Nodup → (∀ x ∈ l, (x.1, x.2.1) ∈ ks) → v = (ks.map fun k => (n k : Int) * c k).sum := by
  induction h with
  | nil =>
    refine ⟨fun _ => 0, fun k => .nil, fun ks _ _ => ?_⟩
    have h0 : ∀ ks : List (Int × Int), (ks.map fun k => ((0 : Nat) : Int) * c k).sum = 0 := by
      intro ks
      induction ks with
      | nil => rfl
      | cons a t ih => rw [List.map_cons, List.sum_cons, ih]; simp
    exact (h0 ks).symm
  | @add l a A B v h1 h2 h3 h4 ih =>
    obtain ⟨n, hn, hv⟩ := ih
    have hall : ∀ x ∈ a :: A, (x.1, x.2.1) = (a.1, a.2.1) := fun x hx => by
      rcases List.mem_cons.1 hx with rfl | hx
      · rfl
      · rw [(h2 x hx).1, (h2 x hx).2]
    refine ⟨fun k => if k = (a.1, a.2.1) then n k + 1 else n k, fun k => ?_, fun ks hk hc => ?_⟩
    · have hp := rooms_perm h1 k
      rw [rooms_append] at hp
      dsimp only
      split
      · rename_i e
        rw [rooms_all (fun x hx => (hall x hx).trans e.symm)] at hp
        exact .add hp (by simp) h3 (hn k)
      · rename_i e
        rw [rooms_none (fun x hx e' => e (e'.symm.trans (hall x hx)))] at hp
        exact (hn k).perm hp
    · have := (sum_bump ks n c (a.1, a.2.1) hk).2 (hc a (h1.mem_iff.2 (by simp)))
      rw [this, ← hv ks hk fun x hx => hc x (h1.mem_iff.2 (List.mem_append_right _ hx))]
theorem Pk.fir {R : List Int} {j : Nat} (h : Pk R j) (k : Int × Int) : Fir c (R.map fun r => (k.1, k.2, r)) (j * c k) := by
  induction h with
  | nil => simpa using Fir.nil
  | @add l a b j h1 h2 h3 h4 ih =>
    obtain ⟨x, t, rfl⟩ := List.exists_cons_of_ne_nil h2
    have e : ((j + 1 : Nat) : Int) * c k = (j : Int) * c k + c k := by push_cast; rw [Int.add_mul, Int.one_mul]
    rw [e]
    refine .add (a := (k.1, k.2, x)) (A := t.map fun r => (k.1, k.2, r)) (B := b.map fun r => (k.1, k.2, r)) ?_ ?_ ?_ ih
    · have := h1.map fun r => (k.1, k.2, r)
      rw [List.map_append] at this
      exact this
    · intro y hy
      obtain ⟨r, _, rfl⟩ := List.mem_map.1 hy
      exact ⟨rfl, rfl⟩
    · rw [List.map_cons, List.map_map]
      have : (fun x : Q3' => x.2.2) ∘ (fun r => (k.1, k.2, r)) = id := rfl
      rw [this, List.map_id]
      exact h3
theorem Fir.ofKinds (n : Int × Int → Nat) : ∀ (ks : List (Int × Int)) (l : List Q3'), ks.Nodup → (∀ x ∈ l, (x.1, x.2.1) ∈ ks) → (∀ k ∈ ks, Pk (rooms k l) (n k)) → Fir c l (ks.map fun k => (n k : Int) * c k).sum
  | [], l, _, hl, _ => by
    cases l with
    | nil => exact .nil
    | cons a t => exact absurd (hl a (by simp)) (by simp)
  | k :: ks, l, hk, hl, hp => by
    obtain ⟨k1, k2⟩ := List.nodup_cons.1 hk
    have h1 := (hp k (by simp)).fir (c := c) k
    have e1 : (rooms k l).map (fun r => (k.1, k.2, r)) = l.filter fun x => (x.1, x.2.1) == k := by
      unfold rooms
      rw [List.map_map]
      conv => rhs; rw [← List.map_id (l.filter _)]
      refine List.map_congr_left fun x hx => ?_
      have := (List.mem_filter.1 hx).2
      rw [beq_iff_eq] at this
      simp [← this]
    rw [e1] at h1
    have h2 := Fir.ofKinds n ks (l.filter fun x => !((x.1, x.2.1) == k)) k2 (fun x hx => by
      obtain ⟨m1, m2⟩ := List.mem_filter.1 hx
      have m3 : (x.1, x.2.1) ≠ k := by simpa using m2
      exact (List.mem_cons.1 (hl x m1)).resolve_left m3) (fun k' hk' => by
      have hne : k' ≠ k := fun e => k1 (e ▸ hk')
      have : rooms k' (l.filter fun x => !((x.1, x.2.1) == k)) = rooms k' l := by
        unfold rooms
        rw [List.filter_filter]
        congr 1
        refine List.filter_congr fun x _ => ?_
        by_cases e : (x.1, x.2.1) = k'
        · simp [e, hne]
        · simp [e]
      rw [this]
      exact hp k' (List.mem_cons_of_mem _ hk'))
    rw [List.map_cons, List.sum_cons]
    exact (h1.append h2).perm (List.filter_append_perm _ l).symm
/-- The least cost is the sum of the least numbers of batches of the kinds, each with its cost. -/
theorem MinFir.kinds {l : List Q3'} {v : Int} (h : MinFir c l v) {ks : List (Int × Int)} {m : Int × Int → Nat} (hk : ks.Nodup) (hl : ∀ x ∈ l, (x.1, x.2.1) ∈ ks) (hm : ∀ k ∈ ks, MinPk (rooms k l) (m k)) (hc : ∀ k ∈ ks, 0 ≤ c k) : v = (ks.map fun k => (m k : Int) * c k).sum := by
  have h1 := h.2 _ (Fir.ofKinds m ks l hk hl fun k hk => (hm k hk).1)
  obtain ⟨n, hn, hv⟩ := h.1.kinds
  have h2 := hv ks hk hl
  have h3 : ∀ ks' : List (Int × Int), (∀ k ∈ ks', k ∈ ks) → (ks'.map fun k => (m k : Int) * c k).sum ≤ (ks'.map fun k => (n k : Int) * c k).sum := by
    intro ks'
    induction ks' with
    | nil => intro _; simp
    | cons a t ih =>
      intro hs
      have i1 := ih fun k hk => hs k (List.mem_cons_of_mem _ hk)
      have i2 := (hm a (hs a (by simp))).2 _ (hn a)
      have i3 := Int.mul_le_mul_of_nonneg_right (show (m a : Int) ≤ n a by omega) (hc a (hs a (by simp)))
      simp only [List.map_cons, List.sum_cons]
      omega
  have := h3 ks fun _ h => h
  omega
end Go.Proofs.Ytndbbdbnimmcoaa
