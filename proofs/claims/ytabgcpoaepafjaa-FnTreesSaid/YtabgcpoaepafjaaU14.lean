/- Words and walks for the law FnTrees, a part of them. No condition but that the arguments lie in memory. -/
import Derived.Test.YtabgcpoaepafjaaU13
set_option linter.unusedVariables false
set_option linter.unusedSimpArgs false
namespace Go.Proofs.Ytabgcpoaepafjaa
/-! graphs: ends X k, Y k of edge k; the vertices 0 .. n; labels of joined vertices -/
/-- Two labels become one: the greater one goes. -/
def mg (p : Nat → Nat) (a b : Nat) : Nat → Nat := fun v => if p v = max a b then min a b else p v
/-- Labels: each vertex bears the number of one that is joined with it, 0 the number 0. -/
structure Lb (n : Nat) (p : Nat → Nat) : Prop where
  idem : ∀ v, p (p v) = p v
  zero : p 0 = 0
  le : ∀ v, v ≤ n → p v ≤ n
theorem Lb.start (n : Nat) : Lb n id := ⟨fun _ => rfl, rfl, fun _ h => h⟩
theorem Lb.mg {n : Nat} {p : Nat → Nat} (h : Lb n p) {x y : Nat} (hx : x ≤ n) : Lb n (mg p (p x) (p y)) where
  idem v := by
    have hm : p (min (p x) (p y)) = min (p x) (p y) := by
      rcases Nat.le_total (p x) (p y) with q | q
      · rw [Nat.min_eq_left q]; exact h.idem x
      · rw [Nat.min_eq_right q]; exact h.idem y
    unfold Go.Proofs.Ytabgcpoaepafjaa.mg
    by_cases e : p v = max (p x) (p y)
    · simp only [e, if_pos, hm]
      split <;> rfl
    · simp only [if_neg e, h.idem]
  zero := by
    unfold Go.Proofs.Ytabgcpoaepafjaa.mg
    rw [h.zero]
    split <;> omega
  le v hv := by
    have h1 := h.le v hv
    have h2 := h.le x hx
    unfold Go.Proofs.Ytabgcpoaepafjaa.mg
    split <;> omega
/-- How much edge (x, y) is at label u. -/
def inc (p : Nat → Nat) (e : Nat × Nat) (u : Nat) : Int := (if p e.1 = u then 1 else 0) - (if p e.2 = u then 1 else 0)
def lsum (g : Nat × Nat → Int) : List (Nat × Nat) → Int
  | [] => 0
  | e :: L => g e + lsum g L
theorem lsum_add (f g : Nat × Nat → Int) : ∀ L, lsum (fun e => f e + g e) L = lsum f L + lsum g L
  | [] => rfl
  | e :: L => by simp only [lsum]; rw [lsum_add f g L]; omega
theorem lsum_congr {f g : Nat × Nat → Int} : ∀ L, (∀ e, f e = g e) → lsum f L = lsum g L
  | [], _ => rfl
  | e :: L, h => by simp only [lsum]; rw [lsum_congr L h, h]
/-- The table of the graph: rows and columns of the labels but 0; labels that are gone have a 1. -/
def lap (p : Nat → Nat) (L : List (Nat × Nat)) : Mx := fun i j =>
  if p (i + 1) ≠ i + 1 then (if i = j then 1 else 0) else if p (j + 1) ≠ j + 1 then 0 else lsum (fun e => inc p e (i + 1) * inc p e (j + 1)) L
/-- How many parts of the edges join everything without a circle. -/
def trees (n : Nat) (p : Nat → Nat) : List (Nat × Nat) → Int
  | [] => if ∀ v, v ≤ n → p v = 0 then 1 else 0
  | e :: L => trees n p L + if p e.1 = p e.2 then 0 else trees n (mg p (p e.1) (p e.2)) L
theorem det_id : ∀ n, det n (fun i j => if i = j then 1 else 0) = 1
  | 0 => rfl
  | n + 1 => by
    rw [last_row fun j hj => if_neg (by omega), det_id n]
    simp
theorem lap_nil {n : Nat} {p : Nat → Nat} (h : Lb n p) : det n (lap p []) = trees n p [] := by
  unfold trees
  by_cases hz : ∀ v, v ≤ n → p v = 0
  · rw [if_pos hz, ← det_id n]
    refine det_congr fun i j hi hj => ?_
    unfold lap
    rw [if_pos (by rw [hz _ (by omega)]; omega)]
  · rw [if_neg hz]
    have : ∃ v, v ≤ n ∧ p v ≠ 0 := Classical.byContradiction fun q => hz fun v hv => Classical.byContradiction fun q' => q ⟨v, hv, q'⟩
    obtain ⟨v, hv, hne⟩ := this
    have hle := h.le v hv
    refine row_zero (a := p v - 1) (by omega) fun j hj => ?_
    have e : p v - 1 + 1 = p v := by omega
    unfold lap
    rw [e, h.idem, if_neg (by simp)]
    simp [lsum]
/-- One edge more: the product of its two ends with themselves. -/
theorem lap_cons {p : Nat → Nat} (hp : ∀ v, p (p v) = p v) (e : Nat × Nat) (L : List (Nat × Nat)) (i j : Nat) : lap p (e :: L) i j = lap p L i j + inc p e (i + 1) * inc p e (j + 1) := by
  have dead : ∀ u, p u ≠ u → inc p e u = 0 := fun u hu => by
    unfold inc
    rw [if_neg (fun q => hu (by rw [← q]; exact hp _)), if_neg (fun q => hu (by rw [← q]; exact hp _))]
    rfl
  unfold lap
  by_cases h1 : p (i + 1) = i + 1
  · by_cases h2 : p (j + 1) = j + 1
    · simp only [h1, h2, ne_eq, not_true, if_false, lsum]
      omega
    · rw [if_neg (by simp [h1]), if_pos h2, dead _ h2, if_neg (by simp [h1]), if_pos h2]
      simp
  · rw [if_pos h1, if_pos h1, dead _ h1]
    simp
theorem one_end {u A m : Nat} (hu : u ≠ A) (z : Nat) : (if (if z = A then m else z) = u then (1 : Int) else 0) = (if z = u then 1 else 0) + if u = m then (if z = A then 1 else 0) else 0 := by
  by_cases q : z = A
  · rw [if_pos q, if_pos q, if_neg (show ¬ z = u from fun e => hu (by rw [← e]; exact q))]
    by_cases q2 : u = m
    · rw [if_pos q2, if_pos q2.symm]; rfl
    · rw [if_neg q2, if_neg (fun e => q2 e.symm)]; rfl
  · rw [if_neg q, if_neg q]
    split <;> split <;> rfl
/-- The table when label M is joined to label m. -/
theorem lap_merge {p : Nat → Nat} {a m : Nat} (hM : p (a + 1) = a + 1) (hm : p m = m) (hlt : m < a + 1) (L : List (Nat × Nat)) (i j : Nat) :
    lap (mg p (a + 1) m) L i j = if i = a then unit a j else if j = a then 0 else
      (lap p L i j + (if i + 1 = m then lap p L a j else 0)) + (if j + 1 = m then lap p L i a + (if i + 1 = m then lap p L a a else 0) else 0) := by
  have hmx : max (a + 1) m = a + 1 := Nat.max_eq_left (by omega)
  have hmn : min (a + 1) m = m := Nat.min_eq_right (by omega)
  have ev : ∀ v, mg p (a + 1) m v = if p v = a + 1 then m else p v := fun v => by unfold mg; rw [hmx, hmn]
  have live : ∀ u, u ≠ a + 1 → (mg p (a + 1) m u = u ↔ p u = u) := fun u hu => by
    rw [ev]
    by_cases q : p u = a + 1
    · rw [if_pos q]
      constructor
      · intro e
        rw [← e, hm] at q
        omega
      · intro e
        omega
    · rw [if_neg q]
  have hinc : ∀ (e : Nat × Nat) (u : Nat), u ≠ a + 1 → inc (mg p (a + 1) m) e u = inc p e u + if u = m then inc p e (a + 1) else 0 := fun e u hu => by
    unfold inc
    rw [ev, ev, one_end hu (p e.1), one_end hu (p e.2)]
    by_cases q3 : u = m
    · simp only [if_pos q3]
      omega
    · simp only [if_neg q3]
      omega
  by_cases hia : i = a
  · rw [if_pos hia]
    subst hia
    unfold lap
    rw [ev, if_pos hM, if_pos (by omega)]
    unfold unit
    by_cases q : i = j
    · rw [if_pos q, if_pos q.symm]
    · rw [if_neg q, if_neg (fun e => q e.symm)]
  · rw [if_neg hia]
    by_cases hja : j = a
    · rw [if_pos hja]
      subst hja
      unfold lap
      by_cases q : mg p (j + 1) m (i + 1) = i + 1
      · rw [if_neg (by simp [q]), if_pos (by rw [ev, if_pos hM]; omega)]
      · rw [if_pos q, if_neg hia]
    · rw [if_neg hja]
      have li := live (i + 1) (by omega)
      have lj := live (j + 1) (by omega)
      have hlapD : ∀ i' j', p (i' + 1) = i' + 1 → p (j' + 1) = j' + 1 → lap p L i' j' = lsum (fun e => inc p e (i' + 1) * inc p e (j' + 1)) L := fun i' j' h1 h2 => by
        unfold lap
        rw [if_neg (by simp [h1]), if_neg (by simp [h2])]
      by_cases h1 : p (i + 1) = i + 1
      · by_cases h2 : p (j + 1) = j + 1
        · have e0 : lap (mg p (a + 1) m) L i j = lsum (fun e => inc (mg p (a + 1) m) e (i + 1) * inc (mg p (a + 1) m) e (j + 1)) L := by
            unfold lap
            rw [if_neg (by simp [li.2 h1]), if_neg (by simp [lj.2 h2])]
          rw [e0, hlapD i j h1 h2, hlapD a j hM h2, hlapD i a h1 hM, hlapD a a hM hM]
          rw [lsum_congr (g := fun e => (inc p e (i + 1) + if i + 1 = m then inc p e (a + 1) else 0) * (inc p e (j + 1) + if j + 1 = m then inc p e (a + 1) else 0)) L fun e => by rw [hinc e _ (by omega), hinc e _ (by omega)]]
          by_cases q1 : i + 1 = m <;> by_cases q2 : j + 1 = m
          · simp only [q1, q2, if_true]
            rw [← lsum_add, ← lsum_add, ← lsum_add]
            exact lsum_congr L fun e => by grind
          · simp only [q1, q2, if_true, if_false]
            rw [← lsum_add, Int.add_zero]
            exact lsum_congr L fun e => by grind
          · simp only [q1, q2, if_true, if_false]
            rw [Int.add_zero, Int.add_zero, ← lsum_add]
            exact lsum_congr L fun e => by grind
          · simp only [q1, q2, if_false]
            rw [Int.add_zero, Int.add_zero]
            exact lsum_congr L fun e => by grind
        · have hjm : j + 1 ≠ m := fun q => h2 (by rw [q]; exact hm)
          have hz : ∀ i', p (i' + 1) = i' + 1 → lap p L i' j = 0 := fun i' h => by
            unfold lap
            rw [if_neg (by simp [h]), if_pos h2]
          have e0 : lap (mg p (a + 1) m) L i j = 0 := by
            unfold lap
            rw [if_neg (by simp [li.2 h1]), if_pos (fun q => h2 (lj.1 q))]
          rw [e0, hz i h1, hz a hM, if_neg hjm]
          split <;> rfl
      · have him : i + 1 ≠ m := fun q => h1 (by rw [q]; exact hm)
        have hz : ∀ j', lap p L i j' = if i = j' then 1 else 0 := fun j' => by
          unfold lap
          rw [if_pos h1]
        have e0 : lap (mg p (a + 1) m) L i j = if i = j then 1 else 0 := by
          unfold lap
          rw [if_pos (fun q => h1 (li.1 q))]
        rw [e0, hz, hz, if_neg him, if_neg him, if_neg (by omega : ¬ i = a)]
        split <;> simp
theorem rank_root {n a : Nat} (A : Mx) (ha : a < n) : det n (fun i j => A i j + unit a i * unit a j) = det n A + det n (fun i j => if i = a then unit a j else if j = a then 0 else A i j) := by
  have h1 := row_add (M := A) (A a) (unit a) ha
  rw [rowS_self, row_unit ha n (Nat.le_refl n)] at h1
  have e1 : det n (fun i j => A i j + unit a i * unit a j) = det n (rowS A a fun j => A a j + unit a j) := det_congr fun i j _ _ => by
    unfold rowS
    by_cases q : i = a
    · rw [if_pos q, q, show unit a a = 1 from if_pos rfl, Int.one_mul]
    · rw [if_neg q, show unit a i = 0 from if_neg q, Int.zero_mul, Int.add_zero]
  have e2 : det n (fun i j => if i = a then unit a j else if j = a then 0 else A i j) = det n (fun i j => if i = a then unit a j else if i < n ∧ j = a then 0 else A i j) := det_congr fun i j hi _ => by
    by_cases q : i = a
    · rw [if_pos q, if_pos q]
    · rw [if_neg q, if_neg q]
      by_cases q2 : j = a
      · rw [if_pos q2, if_pos ⟨hi, q2⟩]
      · rw [if_neg q2, if_neg (fun h => q2 h.2)]
  rw [e1, h1, e2]
theorem rank_two {n a b : Nat} (A : Mx) (ha : a < n) (hb : b < n) (hne : a ≠ b) : det n (fun i j => A i j + (unit a i - unit b i) * (unit a j - unit b j)) = det n A + det n (fun i j => if i = a then unit a j else if j = a then 0 else (A i j + (if i = b then A a j else 0)) + (if j = b then A i a + (if i = b then A a a else 0) else 0)) := by
  have hne' : b ≠ a := fun e => hne e.symm
  obtain ⟨w, hw⟩ : ∃ w : Nat → Int, (fun i => unit a i - unit b i) = w := ⟨_, rfl⟩
  have wv : ∀ i, unit a i - unit b i = w i := fun i => congrFun hw i
  have wa : w a = 1 := by rw [← wv]; simp [unit, hne]
  have wb : w b = -1 := by rw [← wv]; simp [unit, hne']
  have wo : ∀ i, i ≠ a → i ≠ b → w i = 0 := fun i h1 h2 => by rw [← wv]; simp [unit, h1, h2]
  simp only [wv]
  obtain ⟨B, hB⟩ : ∃ B : Mx, (fun i j => A i j + w i * w j) = B := ⟨_, rfl⟩
  have Bv : ∀ i j, B i j = A i j + w i * w j := fun i j => by rw [← hB]
  obtain ⟨A1, hA1⟩ : ∃ A1 : Mx, rowS A b (fun j => A b j + 1 * A a j) = A1 := ⟨_, rfl⟩
  have A1v : ∀ i j, A1 i j = if i = b then A b j + A a j else A i j := fun i j => by rw [← hA1]; simp only [rowS, Int.one_mul]
  have d1 : det n A1 = det n A := by
    rw [← hA1, row_op hb ha hne' 1 (A b), rowS_self]
  have d0 : det n B = det n (rowS A1 a fun j => A a j + w j) := by
    have h := row_op (M := B) hb ha hne' 1 (B b)
    rw [rowS_self] at h
    rw [← h]
    refine det_congr fun i j _ _ => ?_
    unfold rowS
    rw [A1v]
    by_cases q : i = b
    · rw [if_pos q, if_neg (by omega), if_pos q]
      show B b j + 1 * B a j = A b j + A a j
      rw [Bv, Bv, wa, wb]
      omega
    · rw [if_neg q, if_neg q, Bv]
      by_cases q2 : i = a
      · rw [if_pos q2, q2, wa]
        show A a j + 1 * w j = A a j + w j
        omega
      · rw [if_neg q2, wo i q2 q]
        omega
  have h2 := row_add (M := A1) (A a) w ha
  have e3 : rowS A1 a (A a) = A1 := by
    have : A a = A1 a := funext fun j => by rw [A1v, if_neg hne]
    rw [this, rowS_self]
  rw [e3, d1] at h2
  rw [hB, d0, h2]
  congr 1
  obtain ⟨N, hN⟩ : ∃ N : Mx, rowS A1 a w = N := ⟨_, rfl⟩
  have Nv : ∀ i j, N i j = if i = a then w j else A1 i j := fun i j => by rw [← hN]; rfl
  rw [hN]
  have h3 := col_op (M := N) hb ha hne' 1 (fun i => N i b)
  rw [colS_self] at h3
  rw [← h3]
  obtain ⟨N', hN'⟩ : ∃ N' : Mx, (colS N b fun i => N i b + 1 * N i a) = N' := ⟨_, rfl⟩
  have Nv' : ∀ i j, N' i j = if j = b then N i b + N i a else N i j := fun i j => by rw [← hN']; simp only [colS, Int.one_mul]
  rw [hN']
  have e4 : N' = rowS N' a (unit a) := by
    funext i j
    unfold rowS
    by_cases q : i = a
    · rw [if_pos q, q, Nv', Nv, Nv, Nv, if_pos rfl, if_pos rfl, if_pos rfl, wa, wb]
      by_cases q2 : j = b
      · rw [if_pos q2, q2]; simp [unit, hne']
      · rw [if_neg q2]
        by_cases q3 : j = a
        · rw [q3, wa]; simp [unit]
        · rw [wo j q3 q2]; simp [unit, q3]
    · rw [if_neg q]
  rw [e4, row_unit ha n (Nat.le_refl n)]
  refine det_congr fun i j hi _ => ?_
  by_cases q : i = a
  · rw [if_pos q, if_pos q]
  · rw [if_neg q, if_neg q]
    by_cases q2 : j = a
    · rw [if_pos ⟨hi, q2⟩, if_pos q2]
    · rw [if_neg (fun h => q2 h.2), if_neg q2, Nv', Nv, Nv, Nv, if_neg q, if_neg q, if_neg q, A1v, A1v, A1v]
      by_cases q3 : i = b <;> by_cases q4 : j = b <;> simp [q3, q4] <;> omega
/-- The determinant of a graph's table is the number of its trees. -/
theorem lap_trees {n : Nat} : ∀ (L : List (Nat × Nat)) (p : Nat → Nat), Lb n p → (∀ e, e ∈ L → e.1 ≤ n ∧ e.2 ≤ n) → det n (lap p L) = trees n p L
  | [], p, hp, _ => lap_nil hp
  | e :: L, p, hp, hL => by
    obtain ⟨hx, hy⟩ := hL e (by simp)
    have hL' : ∀ e, e ∈ L → e.1 ≤ n ∧ e.2 ≤ n := fun f hf => hL f (by simp [hf])
    have ih := lap_trees L p hp hL'
    have hc : lap p (e :: L) = fun i j => lap p L i j + inc p e (i + 1) * inc p e (j + 1) := by
      funext i j
      exact lap_cons hp.idem e L i j
    by_cases hxy : p e.1 = p e.2
    · have hz : ∀ u, inc p e u = 0 := fun u => by unfold inc; rw [hxy]; omega
      show det n (lap p (e :: L)) = trees n p L + if p e.1 = p e.2 then 0 else _
      rw [if_pos hxy, hc, Int.add_zero, ← ih]
      exact det_congr fun i j _ _ => by rw [hz]; simp
    · have ih2 := lap_trees L _ (hp.mg (y := e.2) hx) hL'
      show det n (lap p (e :: L)) = trees n p L + if p e.1 = p e.2 then 0 else trees n (mg p (p e.1) (p e.2)) L
      rw [if_neg hxy, hc, ← ih, ← ih2]
      obtain ⟨a, m, hae, hme, hinc⟩ : ∃ a m, max (p e.1) (p e.2) = a + 1 ∧ min (p e.1) (p e.2) = m ∧ ∀ i j, inc p e (i + 1) * inc p e (j + 1) = (unit a i - (if i + 1 = m then 1 else 0)) * (unit a j - (if j + 1 = m then 1 else 0)) := by
        rcases Nat.lt_or_gt_of_ne hxy with q | q
        · refine ⟨p e.2 - 1, p e.1, by rw [Nat.max_eq_right (by omega)]; omega, Nat.min_eq_left (by omega), fun i j => ?_⟩
          have f : ∀ i, inc p e (i + 1) = - (unit (p e.2 - 1) i - (if i + 1 = p e.1 then 1 else 0)) := fun i => by
            unfold inc unit
            split <;> split <;> split <;> split <;> omega
          rw [f, f]
          grind
        · refine ⟨p e.1 - 1, p e.2, by rw [Nat.max_eq_left (by omega)]; omega, Nat.min_eq_right (by omega), fun i j => ?_⟩
          have f : ∀ i, inc p e (i + 1) = unit (p e.1 - 1) i - (if i + 1 = p e.2 then 1 else 0) := fun i => by
            unfold inc unit
            split <;> split <;> split <;> split <;> omega
          rw [f, f]
      have hMm : p (a + 1) = a + 1 ∧ p m = m ∧ m < a + 1 ∧ a < n := by
        have l1 := hp.le _ hx
        have l2 := hp.le _ hy
        rcases Nat.lt_or_gt_of_ne hxy with q | q
        · rw [Nat.max_eq_right (by omega)] at hae
          rw [Nat.min_eq_left (by omega)] at hme
          rw [← hae, ← hme]
          exact ⟨hp.idem _, hp.idem _, q, by omega⟩
        · rw [Nat.max_eq_left (by omega)] at hae
          rw [Nat.min_eq_right (by omega)] at hme
          rw [← hae, ← hme]
          exact ⟨hp.idem _, hp.idem _, q, by omega⟩
      obtain ⟨hM, hm, hlt, han⟩ := hMm
      have emg : mg p (p e.1) (p e.2) = mg p (a + 1) m := by
        funext v
        unfold mg
        rw [hae, hme, Nat.max_eq_left (by omega : m ≤ a + 1), Nat.min_eq_right (by omega : m ≤ a + 1)]
      rw [emg]
      have hmerge := fun i j => lap_merge hM hm hlt L i j
      by_cases h0 : m = 0
      · subst h0
        rw [det_congr (M' := fun i j => lap p L i j + unit a i * unit a j) fun i j _ _ => by rw [hinc i j, if_neg (by omega), if_neg (by omega), Int.sub_zero, Int.sub_zero], rank_root _ han]
        congr 1
        refine det_congr fun i j _ _ => ?_
        rw [hmerge i j]
        simp
      · obtain ⟨b, rfl⟩ : ∃ b, m = b + 1 := ⟨m - 1, by omega⟩
        have eb : ∀ i, (if i + 1 = b + 1 then (1 : Int) else 0) = unit b i := fun i => by
          unfold unit
          by_cases q : i = b
          · rw [if_pos q, if_pos (by omega)]
          · rw [if_neg q, if_neg (by omega)]
        rw [det_congr (M' := fun i j => lap p L i j + (unit a i - unit b i) * (unit a j - unit b j)) fun i j _ _ => by rw [hinc i j, eb, eb], rank_two _ han (by omega) (by omega)]
        congr 1
        refine det_congr fun i j _ _ => ?_
        rw [hmerge i j]
        simp only [Nat.add_right_cancel_iff]
/-! parts of the edges: what they join, circles in them -/
def esum (X Y : Nat → Nat) (g φ : Nat → Int) : List Nat → Int
  | [] => 0
  | k :: K => g k * (φ (X k) - φ (Y k)) + esum X Y g φ K
/-- φ is one number along each label. -/
def Cmp (p : Nat → Nat) (φ : Nat → Int) : Prop := ∀ v, φ v = φ (p v)
/-- The edges of K join everything. -/
def Conn (n : Nat) (X Y : Nat → Nat) (p : Nat → Nat) (K : List Nat) : Prop := ∀ φ : Nat → Int, Cmp p φ → (∀ k, k ∈ K → φ (X k) = φ (Y k)) → ∀ v, v ≤ n → φ v = φ 0
/-- No edge of K closes a circle. -/
def acyc (X Y : Nat → Nat) : (Nat → Nat) → List Nat → Prop
  | _, [] => True
  | p, k :: K => p (X k) ≠ p (Y k) ∧ acyc X Y (mg p (p (X k)) (p (Y k))) K
/-- How many labels there are. -/
def cnt (n : Nat) (p : Nat → Nat) : Int := sumI (fun v => if p v = v then 1 else 0) (n + 1)
theorem cmp_mg {p : Nat → Nat} (hi : ∀ v, p (p v) = p v) {x y : Nat} {φ : Nat → Int} : Cmp (mg p (p x) (p y)) φ ↔ Cmp p φ ∧ φ x = φ y := by
  have hmm : ∀ v, mg p (p x) (p y) (p v) = mg p (p x) (p y) v := fun v => by unfold mg; rw [hi]
  have hxy : mg p (p x) (p y) x = mg p (p x) (p y) y := by
    unfold mg
    rcases Nat.lt_trichotomy (p x) (p y) with q | q | q
    · rw [if_neg (by omega), if_pos (by omega)]; omega
    · rw [if_pos (by omega), if_pos (by omega)]
    · rw [if_pos (by omega), if_neg (by omega)]; omega
  constructor
  · intro h
    refine ⟨fun v => ?_, ?_⟩
    · rw [h v, h (p v), hmm]
    · rw [h x, h y, hxy]
  · rintro ⟨h1, h2⟩ v
    unfold mg
    by_cases q : p v = max (p x) (p y)
    · rw [if_pos q]
      have e : φ (p x) = φ (p y) := by rw [← h1, ← h1]; exact h2
      rw [h1 v, q]
      rcases Nat.le_total (p x) (p y) with q | q
      · rw [Nat.max_eq_right q, Nat.min_eq_left q, e]
      · rw [Nat.max_eq_left q, Nat.min_eq_right q, e]
    · rw [if_neg q]
      exact h1 v
theorem cnt_mg {n : Nat} {p : Nat → Nat} (hp : Lb n p) {x y : Nat} (hx : x ≤ n) (hy : y ≤ n) (hne : p x ≠ p y) : cnt n (mg p (p x) (p y)) = cnt n p - 1 := by
  have l1 := hp.le x hx
  have l2 := hp.le y hy
  have hM : p (max (p x) (p y)) = max (p x) (p y) := by
    rcases Nat.le_total (p x) (p y) with q | q
    · rw [Nat.max_eq_right q]; exact hp.idem _
    · rw [Nat.max_eq_left q]; exact hp.idem _
  have e : cnt n p = sumI (fun v => (if mg p (p x) (p y) v = v then 1 else 0) + if v = max (p x) (p y) then 1 else 0) (n + 1) := by
    refine sumI_congr _ fun v _ => ?_
    by_cases q : v = max (p x) (p y)
    · rw [if_pos q, q, hM, if_pos rfl]
      unfold mg
      rw [hM, if_pos rfl, if_neg (by omega)]
      rfl
    · rw [if_neg q]
      unfold mg
      by_cases q2 : p v = max (p x) (p y)
      · rw [if_pos q2, if_neg (by omega), if_neg]
        · rfl
        · intro h
          have hm : p (min (p x) (p y)) = min (p x) (p y) := by
            rcases Nat.le_total (p x) (p y) with q | q
            · rw [Nat.min_eq_left q]; exact hp.idem _
            · rw [Nat.min_eq_right q]; exact hp.idem _
          rw [← h, hm] at q2
          omega
      · rw [if_neg q2, Int.add_zero]
  have e2 : sumI (fun v => if v = max (p x) (p y) then (1 : Int) else 0) (n + 1) = 1 := by
    rw [sumI_one (k := max (p x) (p y)) _ fun i _ h => if_neg h, if_pos (by omega), if_pos rfl]
  rw [e, sumI_add, e2]
  unfold cnt
  omega
theorem cnt_id (n : Nat) : cnt n id = n + 1 := by
  unfold cnt
  have : ∀ m : Nat, sumI (fun v => if id v = v then (1 : Int) else 0) m = m := fun m => by
    induction m with
    | zero => rfl
    | succ m ih => simp only [sumI, ih]; simp
  rw [this]
  rfl
theorem cnt_pos {n : Nat} {p : Nat → Nat} (hp : Lb n p) : 1 ≤ cnt n p := by
  have := sumI_pos (f := fun v => if p v = v then (1 : Int) else 0) (k := 0) (n + 1) (fun i _ => by show (0 : Int) ≤ if p i = i then 1 else 0; split <;> omega) (by omega) (by show (0 : Int) < if p 0 = 0 then 1 else 0; rw [if_pos hp.zero]; decide)
  exact this
theorem conn_nil {n : Nat} {X Y : Nat → Nat} {p : Nat → Nat} (hp : Lb n p) : Conn n X Y p [] ↔ ∀ v, v ≤ n → p v = 0 := by
  constructor
  · intro h v hv
    have := h (fun v => (p v : Int)) (fun v => by show (p v : Int) = (p (p v) : Int); rw [hp.idem]) (fun k hk => by cases hk) v hv
    have e : (p v : Int) = (p 0 : Int) := this
    rw [hp.zero] at e
    omega
  · intro h φ hc _ v hv
    rw [hc v, h v hv]
theorem cnt_one {n : Nat} {p : Nat → Nat} (hp : Lb n p) (h : ∀ v, v ≤ n → p v = 0) : cnt n p = 1 := by
  unfold cnt
  rw [sumI_one (k := 0) _ fun i hi hne => by rw [h i (by omega), if_neg (fun e => hne e.symm)], if_pos (by omega), if_pos hp.zero]
theorem conn_cons {n : Nat} {X Y : Nat → Nat} {p : Nat → Nat} (hi : ∀ v, p (p v) = p v) {k : Nat} {K : List Nat} : Conn n X Y p (k :: K) ↔ Conn n X Y (mg p (p (X k)) (p (Y k))) K := by
  constructor
  · intro h φ hc hk
    obtain ⟨h1, h2⟩ := (cmp_mg hi).1 hc
    exact h φ h1 fun j hj => by
      rcases List.mem_cons.1 hj with rfl | hj
      · exact h2
      · exact hk j hj
  · intro h φ hc hk
    exact h φ ((cmp_mg hi).2 ⟨hc, hk k (by simp)⟩) fun j hj => hk j (by simp [hj])
theorem mg_same {p : Nat → Nat} {a b : Nat} (h : a = b) : mg p a b = p := by
  funext v
  unfold mg
  subst h
  split
  · rename_i q; rw [q]; omega
  · rfl
theorem conn_cnt {n : Nat} {X Y : Nat → Nat} : ∀ {K : List Nat} {p : Nat → Nat}, Lb n p → (∀ k, k ∈ K → X k ≤ n ∧ Y k ≤ n) → Conn n X Y p K → cnt n p ≤ (K.length : Int) + 1 ∧ (cnt n p = (K.length : Int) + 1 → acyc X Y p K)
  | [], p, hp, _, h => ⟨by rw [cnt_one hp ((conn_nil hp).1 h)]; simp, fun _ => trivial⟩
  | k :: K, p, hp, hb, h => by
    obtain ⟨hx, hy⟩ := hb k (by simp)
    have hb' : ∀ j, j ∈ K → X j ≤ n ∧ Y j ≤ n := fun j hj => hb j (by simp [hj])
    have h' := (conn_cons hp.idem).1 h
    by_cases e : p (X k) = p (Y k)
    · rw [mg_same e] at h'
      have := (conn_cnt hp hb' h').1
      simp only [List.length_cons]
      exact ⟨by omega, fun q => by omega⟩
    · obtain ⟨h1, h2⟩ := conn_cnt (hp.mg hx) hb' h'
      rw [cnt_mg hp hx hy e] at h1 h2
      simp only [List.length_cons]
      exact ⟨by omega, fun q => ⟨e, h2 (by omega)⟩⟩
theorem acyc_cnt {n : Nat} {X Y : Nat → Nat} : ∀ {K : List Nat} {p : Nat → Nat}, Lb n p → (∀ k, k ∈ K → X k ≤ n ∧ Y k ≤ n) → acyc X Y p K → (K.length : Int) + 1 ≤ cnt n p ∧ ((K.length : Int) + 1 = cnt n p → Conn n X Y p K)
  | [], p, hp, _, _ => ⟨by have := cnt_pos hp; simpa using this, fun h => (conn_nil hp).2 fun v hv => by
      refine Classical.byContradiction fun hne => ?_
      have l := hp.le v hv
      have h2 : (2 : Int) ≤ cnt n p := by
        have e : cnt n p = sumI (fun u => if u = 0 then 1 else if p u = u then 1 else 0) (n + 1) := sumI_congr _ fun u _ => by
          by_cases q : u = 0
          · rw [q, hp.zero]; rfl
          · rw [if_neg q]
        have e2 : (1 : Int) ≤ sumI (fun u => if u = 0 then 0 else if p u = u then 1 else 0) (n + 1) := by
          have := sumI_pos (f := fun u => if u = 0 then (0 : Int) else if p u = u then 1 else 0) (k := p v) (n + 1) (fun i _ => by show (0 : Int) ≤ if i = 0 then 0 else if p i = i then 1 else 0; split <;> (try split) <;> omega) (by omega) (by show (0 : Int) < if p v = 0 then 0 else if p (p v) = p v then 1 else 0; rw [if_neg hne, hp.idem, if_pos rfl]; decide)
          exact this
        have e3 : sumI (fun u => if u = 0 then (1 : Int) else if p u = u then 1 else 0) (n + 1) = sumI (fun u => (if u = 0 then 0 else if p u = u then 1 else 0) + if u = 0 then 1 else 0) (n + 1) := sumI_congr _ fun u _ => by
          by_cases q : u = 0
          · rw [if_pos q, if_pos q, if_pos q]; rfl
          · rw [if_neg q, if_neg q, if_neg q]; omega
        rw [e, e3, sumI_add, sumI_one (f := fun u => if u = 0 then (1 : Int) else 0) (k := 0) _ fun i _ h => if_neg h, if_pos (by omega), if_pos rfl]
        omega
      simp at h
      omega⟩
  | k :: K, p, hp, hb, h => by
    obtain ⟨hx, hy⟩ := hb k (by simp)
    have hb' : ∀ j, j ∈ K → X j ≤ n ∧ Y j ≤ n := fun j hj => hb j (by simp [hj])
    obtain ⟨h1, h2⟩ := acyc_cnt (hp.mg hx) hb' h.2
    rw [cnt_mg hp hx hy h.1] at h1 h2
    simp only [List.length_cons]
    exact ⟨by omega, fun q => (conn_cons hp.idem).2 (h2 (by omega))⟩
theorem esum_congr {X Y : Nat → Nat} {g g' φ φ' : Nat → Int} : ∀ {K : List Nat}, (∀ k, k ∈ K → g k * (φ (X k) - φ (Y k)) = g' k * (φ' (X k) - φ' (Y k))) → esum X Y g φ K = esum X Y g' φ' K
  | [], _ => rfl
  | k :: K, h => by
    simp only [esum]
    rw [h k (by simp), esum_congr fun j hj => h j (by simp [hj])]
theorem esum_zero {X Y : Nat → Nat} {φ : Nat → Int} : ∀ K : List Nat, esum X Y (fun _ => 0) φ K = 0
  | [] => rfl
  | k :: K => by simp [esum, esum_zero K]
theorem esum_none {X Y : Nat → Nat} : ∀ K : List Nat, esum X Y (fun _ => 0) (fun _ => 0) K = 0 := esum_zero
/-- Where no circle is, nothing flows. -/
theorem acyc_flow {X Y : Nat → Nat} {g : Nat → Int} : ∀ {K : List Nat} {p : Nat → Nat}, (∀ v, p (p v) = p v) → acyc X Y p K → (∀ φ, Cmp p φ → esum X Y g φ K = 0) → ∀ k, k ∈ K → g k = 0
  | [], _, _, _, _, k, hk => by cases hk
  | k :: K, p, hi, ha, h, j, hj => by
    have hi' : ∀ v, mg p (p (X k)) (p (Y k)) (mg p (p (X k)) (p (Y k)) v) = mg p (p (X k)) (p (Y k)) v := fun v => by
      have hm : p (min (p (X k)) (p (Y k))) = min (p (X k)) (p (Y k)) := by
        rcases Nat.le_total (p (X k)) (p (Y k)) with q | q
        · rw [Nat.min_eq_left q]; exact hi _
        · rw [Nat.min_eq_right q]; exact hi _
      unfold mg
      by_cases e : p v = max (p (X k)) (p (Y k))
      · simp only [e, if_pos, hm]
        split <;> rfl
      · simp only [if_neg e, hi]
    have ht := acyc_flow (K := K) hi' ha.2 fun φ hc => by
      obtain ⟨h1, h2⟩ := (cmp_mg hi).1 hc
      have := h φ h1
      simp only [esum] at this
      rw [h2, Int.sub_self, Int.mul_zero, Int.zero_add] at this
      exact this
    rcases List.mem_cons.1 hj with rfl | hj
    · have := h (fun v => if p v = p (X j) then 1 else 0) fun v => by
        show (if p v = p (X j) then (1 : Int) else 0) = if p (p v) = p (X j) then 1 else 0
        rw [hi]
      simp only [esum] at this
      rw [if_pos trivial, if_neg (fun e => ha.1 e.symm)] at this
      have hz : esum X Y g (fun v => if p v = p (X j) then 1 else 0) K = 0 := by
        rw [esum_congr (g' := fun _ => 0) (φ' := fun _ => 0) fun i hi => by rw [ht i hi]; simp]
        exact esum_none K
      rw [hz] at this
      omega
    · exact ht j hj
theorem esum_sub {X Y : Nat → Nat} {g φ ψ : Nat → Int} (c : Int) : ∀ K : List Nat, esum X Y g (fun v => φ v - c * ψ v) K = esum X Y g φ K - c * esum X Y g ψ K
  | [] => by simp [esum]
  | k :: K => by
    simp only [esum]
    rw [esum_sub c K]
    grind
theorem esum_other {X Y : Nat → Nat} {g φ : Nat → Int} {k : Nat} {c : Int} {K : List Nat} (h : k ∉ K) : esum X Y (fun j => if j = k then c else g j) φ K = esum X Y g φ K := esum_congr fun j hj => by
  show (if j = k then c else g j) * _ = _
  rw [if_neg (fun e : j = k => h (by rw [← e]; exact hj))]
/-- A circle carries a flow. -/
theorem cyc_flow {X Y : Nat → Nat} : ∀ {K : List Nat} {p : Nat → Nat}, (∀ v, p (p v) = p v) → K.Nodup → ¬ acyc X Y p K → ∃ g : Nat → Int, (∃ k, k ∈ K ∧ g k ≠ 0) ∧ ∀ φ, Cmp p φ → esum X Y g φ K = 0
  | [], _, _, _, h => absurd trivial h
  | k :: K, p, hi, hn, h => by
    obtain ⟨hk, hn⟩ := List.nodup_cons.1 hn
    by_cases e : p (X k) = p (Y k)
    · refine ⟨fun j => if j = k then 1 else 0, ⟨k, by simp, by simp⟩, fun φ hc => ?_⟩
      simp only [esum]
      rw [esum_other (g := fun _ => 0) hk, hc (X k), hc (Y k), e, Int.sub_self, Int.mul_zero, Int.zero_add]
      exact esum_zero K
    · have hi' : ∀ v, mg p (p (X k)) (p (Y k)) (mg p (p (X k)) (p (Y k)) v) = mg p (p (X k)) (p (Y k)) v := fun v => by
        have hm : p (min (p (X k)) (p (Y k))) = min (p (X k)) (p (Y k)) := by
          rcases Nat.le_total (p (X k)) (p (Y k)) with q | q
          · rw [Nat.min_eq_left q]; exact hi _
          · rw [Nat.min_eq_right q]; exact hi _
        unfold mg
        by_cases e : p v = max (p (X k)) (p (Y k))
        · simp only [e, if_pos, hm]
          split <;> rfl
        · simp only [if_neg e, hi]
      obtain ⟨g, ⟨j, hj, hg⟩, hf⟩ := cyc_flow hi' hn (fun q => h ⟨e, q⟩)
      obtain ⟨ψ, hψ⟩ : ∃ ψ : Nat → Int, (fun v => if p v = p (X k) then 1 else 0) = ψ := ⟨_, rfl⟩
      have hψv : ∀ v, ψ v = if p v = p (X k) then 1 else 0 := fun v => by rw [← hψ]
      refine ⟨fun i => if i = k then - esum X Y g ψ K else g i, ⟨j, by simp [hj], by show (if j = k then _ else g j) ≠ 0; rw [if_neg (fun q : j = k => hk (by rw [← q]; exact hj))]; exact hg⟩, fun φ hc => ?_⟩
      simp only [esum, if_pos]
      rw [esum_other hk]
      have := hf (fun v => φ v - (φ (X k) - φ (Y k)) * ψ v) ((cmp_mg hi).2 ⟨fun v => by
        show φ v - _ * ψ v = φ (p v) - _ * ψ (p v)
        rw [hψv, hψv, hi, ← hc v], by
        show φ (X k) - _ * ψ (X k) = φ (Y k) - _ * ψ (Y k)
        rw [hψv, hψv, if_pos rfl, if_neg (fun q => e q.symm)]
        omega⟩)
      rw [esum_sub] at this
      have : esum X Y g φ K = (φ (X k) - φ (Y k)) * esum X Y g ψ K := by omega
      rw [this]
      grind
/-! choices of edges -/
def edgesF (X Y : Nat → Nat) : Nat → Nat → List (Nat × Nat)
  | _, 0 => []
  | s, m + 1 => (X s, Y s) :: edgesF X Y (s + 1) m
def selB : Nat → List Bool → List Nat
  | _, [] => []
  | s, true :: c => s :: selB (s + 1) c
  | s, false :: c => selB (s + 1) c
def okT (n : Nat) (X Y : Nat → Nat) : (Nat → Nat) → Nat → List Bool → Prop
  | p, _, [] => ∀ v, v ≤ n → p v = 0
  | p, s, true :: c => p (X s) ≠ p (Y s) ∧ okT n X Y (mg p (p (X s)) (p (Y s))) (s + 1) c
  | p, s, false :: c => okT n X Y p (s + 1) c
/-- How many lists of m marks have a property. -/
noncomputable def cntB : Nat → (List Bool → Prop) → Int
  | 0, f => open Classical in if f [] then 1 else 0
  | m + 1, f => cntB m (fun c => f (false :: c)) + cntB m (fun c => f (true :: c))
theorem cntB_congr : ∀ {m : Nat} {f g : List Bool → Prop}, (∀ c, c.length = m → (f c ↔ g c)) → cntB m f = cntB m g
  | 0, f, g, h => by
    have := h [] rfl
    simp only [cntB]
    by_cases q : f []
    · rw [if_pos q, if_pos (this.1 q)]
    · rw [if_neg q, if_neg (fun r => q (this.2 r))]
  | m + 1, f, g, h => by
    simp only [cntB]
    rw [cntB_congr (f := fun c => f (false :: c)) (g := fun c => g (false :: c)) fun c hc => h _ (by simp [hc]), cntB_congr (f := fun c => f (true :: c)) (g := fun c => g (true :: c)) fun c hc => h _ (by simp [hc])]
theorem cntB_none : ∀ {m : Nat}, cntB m (fun _ => False) = 0
  | 0 => by simp [cntB]
  | m + 1 => by simp only [cntB]; rw [cntB_none]; rfl
theorem cntB_not : ∀ {m : Nat} {f : List Bool → Prop}, cntB m (fun c => f (c.map (!·))) = cntB m f
  | 0, f => rfl
  | m + 1, f => by
    simp only [cntB, List.map_cons, Bool.not_false, Bool.not_true]
    rw [cntB_not (f := fun c => f (true :: c)), cntB_not (f := fun c => f (false :: c))]
    omega
theorem trees_cnt {n : Nat} {X Y : Nat → Nat} : ∀ (m s : Nat) (p : Nat → Nat), trees n p (edgesF X Y s m) = cntB m (okT n X Y p s)
  | 0, s, p => by
    simp only [trees, edgesF, cntB]
    by_cases q : ∀ v, v ≤ n → p v = 0
    · rw [if_pos q, if_pos (show okT n X Y p s [] from q)]
    · rw [if_neg q, if_neg (show ¬ okT n X Y p s [] from q)]
  | m + 1, s, p => by
    simp only [edgesF, trees, cntB]
    rw [trees_cnt m (s + 1) p]
    congr 1
    by_cases e : p (X s) = p (Y s)
    · rw [if_pos e, cntB_congr (g := fun _ => False) fun c _ => ⟨fun h => h.1 e, False.elim⟩, cntB_none]
    · rw [if_neg e, trees_cnt m (s + 1)]
      exact cntB_congr fun c _ => ⟨fun h => ⟨e, h⟩, fun h => h.2⟩
theorem selB_mem : ∀ {c : List Bool} {s k : Nat}, k ∈ selB s c → s ≤ k ∧ k < s + c.length
  | [], _, _, h => by cases h
  | true :: c, s, k, h => by
    rcases List.mem_cons.1 h with rfl | h
    · simp
    · have := selB_mem h
      simp only [List.length_cons]
      omega
  | false :: c, s, k, h => by
    have := selB_mem (s := s + 1) (c := c) h
    simp only [List.length_cons]
    omega
theorem selB_nodup : ∀ (c : List Bool) (s : Nat), (selB s c).Nodup
  | [], _ => List.nodup_nil
  | true :: c, s => List.nodup_cons.2 ⟨fun h => by have := (selB_mem h).1; omega, selB_nodup c (s + 1)⟩
  | false :: c, s => selB_nodup c (s + 1)
theorem selB_len : ∀ (c : List Bool) (s : Nat), (selB s c).length + (selB s (c.map (!·))).length = c.length
  | [], _ => rfl
  | true :: c, s => by
    have := selB_len c (s + 1)
    simp only [List.map_cons, Bool.not_true, selB, List.length_cons]
    omega
  | false :: c, s => by
    have := selB_len c (s + 1)
    simp only [List.map_cons, Bool.not_false, selB, List.length_cons]
    omega
theorem selB_or : ∀ (c : List Bool) (s k : Nat), s ≤ k → k < s + c.length → k ∈ selB s c ∨ k ∈ selB s (c.map (!·))
  | [], s, k, h1, h2 => by simp at h2; omega
  | true :: c, s, k, h1, h2 => by
    simp only [List.map_cons, Bool.not_true, selB, List.mem_cons]
    by_cases e : k = s
    · exact .inl (.inl e)
    · rcases selB_or c (s + 1) k (by omega) (by simp only [List.length_cons] at h2; omega) with q | q
      · exact .inl (.inr q)
      · exact .inr q
  | false :: c, s, k, h1, h2 => by
    simp only [List.map_cons, Bool.not_false, selB, List.mem_cons]
    by_cases e : k = s
    · exact .inr (.inl e)
    · rcases selB_or c (s + 1) k (by omega) (by simp only [List.length_cons] at h2; omega) with q | q
      · exact .inl q
      · exact .inr (.inr q)
theorem selB_apart : ∀ (c : List Bool) (s k : Nat), k ∈ selB s c → k ∈ selB s (c.map (!·)) → False
  | [], _, _, h, _ => by cases h
  | true :: c, s, k, h1, h2 => by
    simp only [List.map_cons, Bool.not_true, selB, List.mem_cons] at h1 h2
    rcases h1 with rfl | h1
    · have := (selB_mem h2).1
      omega
    · exact selB_apart c (s + 1) k h1 h2
  | false :: c, s, k, h1, h2 => by
    simp only [List.map_cons, Bool.not_false, selB, List.mem_cons] at h1 h2
    rcases h2 with rfl | h2
    · have := (selB_mem h1).1
      omega
    · exact selB_apart c (s + 1) k h1 h2
/-- The sum over all edges, from s on. -/
def esumF (X Y : Nat → Nat) (g φ : Nat → Int) : Nat → Nat → Int
  | _, 0 => 0
  | s, m + 1 => g s * (φ (X s) - φ (Y s)) + esumF X Y g φ (s + 1) m
theorem esum_sel {X Y : Nat → Nat} {g φ : Nat → Int} : ∀ (c : List Bool) (s : Nat), esum X Y g φ (selB s c) + esum X Y g φ (selB s (c.map (!·))) = esumF X Y g φ s c.length
  | [], _ => rfl
  | true :: c, s => by
    have := esum_sel (X := X) (Y := Y) (g := g) (φ := φ) c (s + 1)
    simp only [List.map_cons, Bool.not_true, selB, esum, esumF, List.length_cons]
    omega
  | false :: c, s => by
    have := esum_sel (X := X) (Y := Y) (g := g) (φ := φ) c (s + 1)
    simp only [List.map_cons, Bool.not_false, selB, esum, esumF, List.length_cons]
    omega
theorem okT_iff {n : Nat} {X Y : Nat → Nat} : ∀ {c : List Bool} {s : Nat} {p : Nat → Nat}, Lb n p → (∀ k, s ≤ k → k < s + c.length → X k ≤ n) → (okT n X Y p s c ↔ acyc X Y p (selB s c) ∧ Conn n X Y p (selB s c))
  | [], s, p, hp, _ => by
    simp only [okT, selB, acyc, true_and]
    exact (conn_nil hp).symm
  | true :: c, s, p, hp, hb => by
    have ih := okT_iff (X := X) (Y := Y) (c := c) (s := s + 1) (hp.mg (y := Y s) (hb s (by omega) (by simp))) fun k h1 h2 => hb k (by omega) (by simp only [List.length_cons]; omega)
    simp only [okT, selB, acyc]
    rw [ih, conn_cons hp.idem, and_assoc]
  | false :: c, s, p, hp, hb => by
    simp only [okT, selB]
    exact okT_iff hp fun k h1 h2 => hb k (by omega) (by simp only [List.length_cons]; omega)
/-- What makes two graphs with the same edges each other's duals: vertices 0 .. n and faces 0 .. nf. -/
structure Plan (n nf m : Nat) (X Y P Q : Nat → Nat) : Prop where
  lx : ∀ k, k < m → X k ≤ n ∧ Y k ≤ n
  lp : ∀ k, k < m → P k ≤ nf ∧ Q k ≤ nf
  cx : ∀ φ : Nat → Int, (∀ k, k < m → φ (X k) = φ (Y k)) → ∀ v, v ≤ n → φ v = φ 0
  cp : ∀ φ : Nat → Int, (∀ k, k < m → φ (P k) = φ (Q k)) → ∀ v, v ≤ nf → φ v = φ 0
  orth : ∀ h φ : Nat → Int, esumF X Y (fun k => h (P k) - h (Q k)) φ 0 m = 0
  high : ∀ g : Nat → Int, (∀ φ, esumF X Y g φ 0 m = 0) → ∃ h : Nat → Int, ∀ k, k < m → g k = h (P k) - h (Q k)
theorem esumF_comm {X Y P Q : Nat → Nat} {h φ : Nat → Int} : ∀ (m s : Nat), esumF X Y (fun k => h (P k) - h (Q k)) φ s m = esumF P Q (fun k => φ (X k) - φ (Y k)) h s m
  | 0, _ => rfl
  | m + 1, s => by simp only [esumF]; rw [esumF_comm m (s + 1), Int.mul_comm]
theorem acyc_dual {nf m : Nat} {X Y P Q : Nat → Nat} (cp : ∀ φ : Nat → Int, (∀ k, k < m → φ (P k) = φ (Q k)) → ∀ v, v ≤ nf → φ v = φ 0) (orth : ∀ h φ : Nat → Int, esumF X Y (fun k => h (P k) - h (Q k)) φ 0 m = 0) {c : List Bool} (hc : c.length = m) (h : acyc X Y id (selB 0 c)) : Conn nf P Q id (selB 0 (c.map (!·))) := by
  intro φ _ hk
  refine cp φ fun k hk' => ?_
  have hz : ∀ j, j ∈ selB 0 (c.map (!·)) → φ (P j) - φ (Q j) = 0 := fun j hj => by rw [hk j hj]; omega
  rcases selB_or c 0 k (by omega) (by omega) with q | q
  · have := acyc_flow (g := fun k => φ (P k) - φ (Q k)) (fun _ => rfl) h (fun ψ _ => by
      have h1 := esum_sel (X := X) (Y := Y) (g := fun k => φ (P k) - φ (Q k)) (φ := ψ) c 0
      rw [hc, orth φ ψ] at h1
      have h2 : esum X Y (fun k => φ (P k) - φ (Q k)) ψ (selB 0 (c.map (!·))) = 0 := by
        rw [esum_congr (g' := fun _ => 0) (φ' := fun _ => 0) fun i hi => by rw [hz i hi]; simp]
        exact esum_none _
      omega) k q
    have e : φ (P k) - φ (Q k) = 0 := this
    omega
  · exact hk k q
/-- A choice that joins everything without a circle. -/
theorem greedy_tree {n : Nat} {X Y : Nat → Nat} : ∀ (m s : Nat) (p : Nat → Nat), Lb n p → (∀ k, s ≤ k → k < s + m → X k ≤ n) → (∀ φ : Nat → Int, Cmp p φ → (∀ k, s ≤ k → k < s + m → φ (X k) = φ (Y k)) → ∀ v, v ≤ n → φ v = φ 0) → ∃ c : List Bool, c.length = m ∧ acyc X Y p (selB s c) ∧ Conn n X Y p (selB s c)
  | 0, s, p, hp, _, h => ⟨[], rfl, trivial, fun φ hc _ => h φ hc fun k h1 h2 => by omega⟩
  | m + 1, s, p, hp, hb, h => by
    have hb' : ∀ k, s + 1 ≤ k → k < s + 1 + m → X k ≤ n := fun k h1 h2 => hb k (by omega) (by omega)
    by_cases e : p (X s) = p (Y s)
    · obtain ⟨c, h1, h2, h3⟩ := greedy_tree m (s + 1) p hp hb' fun φ hc hk => h φ hc fun k q1 q2 => by
        by_cases q : k = s
        · rw [q, hc (X s), hc (Y s), e]
        · exact hk k (by omega) (by omega)
      exact ⟨false :: c, by simp [h1], h2, h3⟩
    · obtain ⟨c, h1, h2, h3⟩ := greedy_tree m (s + 1) _ (hp.mg (y := Y s) (hb s (by omega) (by omega))) hb' fun φ hc hk => by
        obtain ⟨c1, c2⟩ := (cmp_mg hp.idem).1 hc
        exact h φ c1 fun k q1 q2 => by
          by_cases q : k = s
          · rw [q]; exact c2
          · exact hk k (by omega) (by omega)
      exact ⟨true :: c, by simp [h1], ⟨e, h2⟩, (conn_cons hp.idem).2 h3⟩
theorem map_not (c : List Bool) : (c.map (!·)).map (!·) = c := by
  rw [List.map_map]
  conv => rhs; rw [← List.map_id c]
  congr 1
  funext b
  simp
theorem Plan.euler {n nf m : Nat} {X Y P Q : Nat → Nat} (h : Plan n nf m X Y P Q) : m = n + nf := by
  have hX : ∀ c : List Bool, c.length = m → ∀ k, k ∈ selB 0 c → X k ≤ n ∧ Y k ≤ n := fun c hc k hk => h.lx k (by have := (selB_mem hk).2; omega)
  have hP : ∀ c : List Bool, c.length = m → ∀ k, k ∈ selB 0 c → P k ≤ nf ∧ Q k ≤ nf := fun c hc k hk => h.lp k (by have := (selB_mem hk).2; omega)
  have hnot : ∀ c : List Bool, c.length = m → (c.map (!·)).length = m := fun c hc => by simp [hc]
  have h1 : n + nf ≤ m := by
    obtain ⟨c, hc, ha, hco⟩ := greedy_tree (X := X) (Y := Y) m 0 id (Lb.start n) (fun k _ hk => (h.lx k (by omega)).1) (fun φ _ hk => h.cx φ fun k q => hk k (by omega) (by omega))
    have l1 := (conn_cnt (Lb.start n) (hX c hc) hco).1
    have l2 := (conn_cnt (Lb.start nf) (hP _ (hnot c hc)) (acyc_dual h.cp h.orth hc ha)).1
    have l3 := selB_len c 0
    rw [cnt_id] at l1 l2
    omega
  have h2 : m ≤ n + nf := by
    obtain ⟨c, hc, ha, hco⟩ := greedy_tree (X := P) (Y := Q) m 0 id (Lb.start nf) (fun k _ hk => (h.lp k (by omega)).1) (fun φ _ hk => h.cp φ fun k q => hk k (by omega) (by omega))
    have l1 := (acyc_cnt (Lb.start nf) (hP c hc) ha).1
    have hac : acyc X Y id (selB 0 (c.map (!·))) := by
      refine Classical.byContradiction fun hn => ?_
      obtain ⟨g, ⟨k, hk, hg⟩, hf⟩ := cyc_flow (fun _ => rfl) (selB_nodup _ _) hn
      obtain ⟨ψ, hψ⟩ := h.high (fun k => open Classical in if k ∈ selB 0 (c.map (!·)) then g k else 0) fun φ => by
        rw [← hc, ← esum_sel, esum_congr (K := selB 0 c) (g' := fun _ => 0) (φ' := fun _ => 0) fun i hi => by
          rw [if_neg (fun q => selB_apart c 0 i hi q)]; simp, esum_none, esum_congr (K := selB 0 (c.map (!·))) (g' := g) (φ' := φ) fun i hi => by rw [if_pos hi], hf φ fun _ => rfl]
        rfl
      have hconst := hco ψ (fun _ => rfl) fun i hi => by
        have := hψ i (by have := (selB_mem hi).2; omega)
        rw [if_neg (fun q => selB_apart c 0 i hi q)] at this
        omega
      have hkm : k < m := by have := (selB_mem hk).2; have := hnot c hc; omega
      have := hψ k hkm
      rw [if_pos hk, hconst _ (h.lp k hkm).1, hconst _ (h.lp k hkm).2] at this
      omega
    have l2 := (acyc_cnt (Lb.start n) (hX _ (hnot c hc)) hac).1
    have l3 := selB_len c 0
    rw [cnt_id] at l1 l2
    omega
  omega
theorem Plan.symm_parts {n nf m : Nat} {X Y P Q : Nat → Nat} (h : Plan n nf m X Y P Q) : ∀ f φ : Nat → Int, esumF P Q (fun k => f (X k) - f (Y k)) φ 0 m = 0 := fun f φ => by rw [← esumF_comm]; exact h.orth φ f
/-- A choice is a tree just if what it leaves is a tree of the faces. -/
theorem Plan.tree {n nf m : Nat} {X Y P Q : Nat → Nat} (h : Plan n nf m X Y P Q) {c : List Bool} (hc : c.length = m) : (acyc X Y id (selB 0 c) ∧ Conn n X Y id (selB 0 c)) ↔ acyc P Q id (selB 0 (c.map (!·))) ∧ Conn nf P Q id (selB 0 (c.map (!·))) := by
  have hnot : (c.map (!·)).length = m := by simp [hc]
  have hX : ∀ k, k ∈ selB 0 c → X k ≤ n ∧ Y k ≤ n := fun k hk => h.lx k (by have := (selB_mem hk).2; omega)
  have hP : ∀ k, k ∈ selB 0 (c.map (!·)) → P k ≤ nf ∧ Q k ≤ nf := fun k hk => h.lp k (by have := (selB_mem hk).2; omega)
  have l3 := selB_len c 0
  have eu := h.euler
  constructor
  · rintro ⟨h1, h2⟩
    have h3 := acyc_dual h.cp h.orth hc h1
    have l1 := (conn_cnt (Lb.start n) hX h2).1
    have l2 := (acyc_cnt (Lb.start n) hX h1).1
    rw [cnt_id] at l1 l2
    refine ⟨(conn_cnt (Lb.start nf) hP h3).2 ?_, h3⟩
    rw [cnt_id]
    omega
  · rintro ⟨h1, h2⟩
    have h3 := acyc_dual h.cx h.symm_parts hnot h1
    rw [map_not] at h3
    have l1 := (conn_cnt (Lb.start nf) hP h2).1
    have l2 := (acyc_cnt (Lb.start nf) hP h1).1
    rw [cnt_id] at l1 l2
    refine ⟨(conn_cnt (Lb.start n) hX h3).2 ?_, h3⟩
    rw [cnt_id]
    omega
theorem Plan.trees {n nf m : Nat} {X Y P Q : Nat → Nat} (h : Plan n nf m X Y P Q) : trees n id (edgesF X Y 0 m) = trees nf id (edgesF P Q 0 m) := by
  rw [trees_cnt, trees_cnt, ← cntB_not (f := okT nf P Q id 0)]
  refine cntB_congr fun c hc => ?_
  rw [okT_iff (Lb.start n) fun k _ hk => (h.lx k (by omega)).1, okT_iff (Lb.start nf) fun k _ hk => (h.lp k (by simp at hk; omega)).1]
  exact h.tree hc
/-! how many trees -/
def ConnL (n : Nat) (p : Nat → Nat) (L : List (Nat × Nat)) : Prop := ∀ φ : Nat → Int, Cmp p φ → (∀ e, e ∈ L → φ e.1 = φ e.2) → ∀ v, v ≤ n → φ v = φ 0
theorem trees_nonneg {n : Nat} : ∀ (L : List (Nat × Nat)) (p : Nat → Nat), 0 ≤ trees n p L
  | [], p => by unfold trees; split <;> omega
  | e :: L, p => by
    have h1 := trees_nonneg (n := n) L p
    have h2 := trees_nonneg (n := n) L (mg p (p e.1) (p e.2))
    show 0 ≤ trees n p L + if p e.1 = p e.2 then 0 else trees n (mg p (p e.1) (p e.2)) L
    split <;> omega
theorem trees_pos {n : Nat} : ∀ (L : List (Nat × Nat)) (p : Nat → Nat), Lb n p → (∀ e, e ∈ L → e.1 ≤ n) → ConnL n p L → 1 ≤ trees n p L
  | [], p, hp, _, h => by
    unfold trees
    rw [if_pos]
    · exact Int.le_refl _
    · exact (conn_nil (X := fun _ => 0) (Y := fun _ => 0) hp).1 fun φ hc _ => h φ hc fun e he => by cases he
  | e :: L, p, hp, hb, h => by
    show 1 ≤ trees n p L + if p e.1 = p e.2 then 0 else trees n (mg p (p e.1) (p e.2)) L
    have hb' : ∀ e, e ∈ L → e.1 ≤ n := fun f hf => hb f (by simp [hf])
    by_cases q : p e.1 = p e.2
    · rw [if_pos q]
      have := trees_pos L p hp hb' fun φ hc hk => h φ hc fun f hf => by
        rcases List.mem_cons.1 hf with rfl | hf
        · rw [hc, q, ← hc]
        · exact hk f hf
      omega
    · rw [if_neg q]
      have := trees_pos L _ (hp.mg (y := e.2) (hb e (by simp))) hb' fun φ hc hk => by
        obtain ⟨c1, c2⟩ := (cmp_mg hp.idem).1 hc
        exact h φ c1 fun f hf => by
          rcases List.mem_cons.1 hf with rfl | hf
          · exact c2
          · exact hk f hf
      have := trees_nonneg (n := n) L p
      omega
theorem lsum_append (g : Nat × Nat → Int) : ∀ L M : List (Nat × Nat), lsum g (L ++ M) = lsum g L + lsum g M
  | [], M => by simp [lsum]
  | e :: L, M => by simp only [List.cons_append, lsum]; rw [lsum_append g L M]; omega
theorem lap_middle (p : Nat → Nat) (L M : List (Nat × Nat)) (e : Nat × Nat) : lap p (L ++ e :: M) = lap p (e :: (L ++ M)) := by
  funext i j
  unfold lap
  simp only [lsum_append, lsum]
  split
  · rfl
  · split
    · rfl
    · omega
/-- An edge less: fewer trees. -/
theorem trees_less {n : Nat} {L M : List (Nat × Nat)} {e : Nat × Nat} (hb : ∀ f, f ∈ L ++ e :: M → f.1 ≤ n ∧ f.2 ≤ n) (hne : e.1 ≠ e.2) (h : ConnL n id (L ++ e :: M)) : trees n id (L ++ M) < trees n id (L ++ e :: M) := by
  have hb2 : ∀ f, f ∈ e :: (L ++ M) → f.1 ≤ n ∧ f.2 ≤ n := fun f hf => hb f (by simp at hf ⊢; rcases hf with h | h | h <;> simp [h])
  rw [← lap_trees _ id (Lb.start n) hb, lap_middle, lap_trees _ id (Lb.start n) hb2]
  show _ < trees n id (L ++ M) + if id e.1 = id e.2 then 0 else trees n (mg id (id e.1) (id e.2)) (L ++ M)
  rw [if_neg (show ¬ id e.1 = id e.2 from hne)]
  have := trees_pos (n := n) (L ++ M) _ ((Lb.start n).mg (y := e.2) (hb e (by simp)).1) (fun f hf => (hb2 f (by simp at hf ⊢; simp [hf])).1) fun φ hc hk => by
    obtain ⟨c1, c2⟩ := (cmp_mg (fun _ => rfl)).1 hc
    exact h φ c1 fun f hf => by
      simp only [List.mem_append, List.mem_cons] at hf
      rcases hf with hf | rfl | hf
      · exact hk f (by simp [hf])
      · exact c2
      · exact hk f (by simp [hf])
  omega
end Go.Proofs.Ytabgcpoaepafjaa
