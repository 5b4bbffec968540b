/- Plain law on the least cost of batches: bounds, one pane more, and the order of firing. No condition. -/
import Derived.Test.YtndbbdbnimmcoaaKilnL
import Derived.Test.YtndbbdbnimmcoaaFireP
import Derived.Test.YtndbbdbnimmcoaaDrawK
set_option linter.unusedSimpArgs false
set_option linter.unusedVariables false
namespace Go.Proofs.Ytndbbdbnimmcoaa
variable {c d : Int × Int → Int}

theorem Fir.swap {K : Int} {l : List Q3'} {v : Int} (h : Fir c l v) (hk : ∀ x ∈ l, d (x.1, x.2.1) ≤ K * c (x.1, x.2.1)) : ∃ u, Fir d l u ∧ u ≤ K * v := by
  induction h with
  | nil => exact ⟨0, .nil, by simp⟩
  | @add l a A B v h1 h2 h3 h4 ih =>
    obtain ⟨u, hu, hle⟩ := ih fun x hx => hk x (h1.mem_iff.2 (List.mem_append_right _ hx))
    have h5 := hk a (h1.mem_iff.2 (by simp))
    refine ⟨_, .add h1 h2 h3 hu, ?_⟩
    rw [Int.mul_add]
    omega
theorem Fir.rooms {l : List Q3'} {v : Int} (h : Fir c l v) (hc : ∀ x ∈ l, 1 ≤ c (x.1, x.2.1)) : (l.map (·.2.2)).sum ≤ 100 * v := by
  induction h with
  | nil => simp
  | @add l a A B v h1 h2 h3 h4 ih =>
    have := ih fun x hx => hc x (h1.mem_iff.2 (List.mem_append_right _ hx))
    have h5 := hc a (h1.mem_iff.2 (by simp))
    rw [perm_sum (h1.map _), List.map_append, List.sum_append_int]
    omega
theorem Fir.pos {l : List Q3'} {v : Int} (h : Fir c l v) (hc : ∀ x ∈ l, 1 ≤ c (x.1, x.2.1)) (hl : l ≠ []) : 1 ≤ v := by
  cases h with
  | nil => exact absurd rfl hl
  | @add _ a A B v h1 h2 h3 h4 =>
    have := h4.nonneg fun x hx => by have := hc x (h1.mem_iff.2 (List.mem_append_right _ hx)); omega
    have h5 := hc a (h1.mem_iff.2 (by simp))
    omega
theorem Fir.more {l : List Q3'} {v : Int} (h : Fir c l v) {x : Q3'} (hx : x.2.2 ≤ 100) : Fir c (l ++ [x]) (v + c (x.1, x.2.1)) := by
  have h1 : Fir c [x] (0 + c (x.1, x.2.1)) := .add (a := x) (A := []) (B := []) (by simp) (by simp) (by simpa using hx) .nil
  rw [Int.zero_add] at h1
  exact h.append h1
theorem Fir.less {l : List Q3'} {v : Int} {x : Q3'} (h : Fir c (l ++ [x]) v) (hx : 0 ≤ x.2.2) (hc : 0 ≤ c (x.1, x.2.1)) : ∃ u, Fir c l u ∧ u ≤ v := by
  obtain ⟨A, B, v', h1, h2, h3, h4, rfl⟩ := h.pick (x := x) (by simp)
  have h5 : l.Perm (A ++ B) := List.Perm.cons_inv ((List.perm_append_singleton x l).symm.trans h1)
  cases A with
  | nil => exact ⟨v', h4.perm (by simpa using h5), by omega⟩
  | cons a A =>
    have ha := h2 a (by simp)
    have e : c (x.1, x.2.1) = c (a.1, a.2.1) := by rw [ha.1, ha.2]
    refine ⟨v' + c (a.1, a.2.1), .add h5 (fun y hy => ?_) ?_ h4, by rw [e]; omega⟩
    · have := h2 y (List.mem_cons_of_mem _ hy)
      rw [ha.1, ha.2]
      exact this
    · rw [List.map_cons, List.sum_cons] at h3
      omega
theorem MinFir.exists_ {l : List Q3'} (hr : ∀ x ∈ l, x.2.2 ≤ 100) (hc : ∀ x ∈ l, 0 ≤ c (x.1, x.2.1)) {M : Int} (hM : ∀ x ∈ l, c (x.1, x.2.1) ≤ M) : ∃ v, MinFir c l v := by
  have key : ∀ k : Nat, ∀ v, Fir c l v → v ≤ k → ∃ u, MinFir c l u := by
    intro k
    induction k with
    | zero =>
      intro v hv hk
      exact ⟨v, hv, fun u hu => by have := hu.nonneg hc; omega⟩
    | succ k ih =>
      intro v hv hk
      by_cases e : ∃ u, Fir c l u ∧ u < v
      · obtain ⟨u, hu, hlt⟩ := e
        exact ih u hu (by omega)
      · exact ⟨v, hv, fun u hu => by
          rcases Int.lt_or_le u v with h | h
          · exact absurd ⟨u, hu, h⟩ e
          · exact h⟩
  obtain ⟨v, hv, _⟩ := Fir.ones (c := c) (M := M) l hr fun x hx => ⟨hc x hx, hM x hx⟩
  exact key v.toNat v hv (by omega)
theorem few_min {l : List P3} (h : firingsB l = true) {M : Int} (hc : ∀ x ∈ l, 0 ≤ c (x.1, x.2.1) ∧ c (x.1, x.2.1) ≤ M) : MinFir c l (fewV c l) := by
  have hb := firingsB_true h
  obtain ⟨v, hv⟩ := MinFir.exists_ (c := c) (l := l) (fun x hx => (hb.2 x hx).2.2.2.2.2) (fun x hx => (hc x hx).1) (fun x hx => (hc x hx).2)
  rw [← fewV_yes h hv]
  exact hv
theorem costs_one {l : List P3} : ∀ x ∈ l, 0 ≤ costOne (x.1, x.2.1) ∧ costOne (x.1, x.2.1) ≤ 1 := fun x _ => by unfold costOne; omega
theorem costs_hours {l : List P3} (h : firingsB l = true) : ∀ x ∈ l, 0 ≤ costHours (x.1, x.2.1) ∧ costHours (x.1, x.2.1) ≤ 24 := fun x hx => by
  have := (firingsB_true h).2 x hx
  unfold costHours
  exact ⟨by simp; omega, by simp; omega⟩
/-- What the law asks of the two sums. -/
theorem kilns_law {l : List P3} (h : firingsB l = true) :
    0 ≤ fewV costOne l ∧ fewV costOne l ≤ l.length ∧ (fewV costOne l = 0 ↔ (l.length : Int) = 0) ∧ fewV costOne l ≤ fewV costHours l ∧ fewV costHours l ≤ 24 * fewV costOne l ∧ (l.map (·.2.2)).sum ≤ 100 * fewV costOne l := by
  have hb := firingsB_true h
  have h1 := few_min h (c := costOne) costs_one
  have h2 := few_min h (c := costHours) (costs_hours h)
  have h3 := costs_hours h
  have h4 := h1.1.nonneg fun x hx => (costs_one x hx).1
  obtain ⟨u, hu, hle⟩ := Fir.ones (c := costOne) (M := 1) l (fun x hx => (hb.2 x hx).2.2.2.2.2) costs_one
  have h5 := h1.2 u hu
  obtain ⟨a, ha, hae⟩ := h2.1.swap (d := costOne) (K := 1) fun x hx => by have := hb.2 x hx; simp only [costOne, costHours]; omega
  obtain ⟨b, hb', hbe⟩ := h1.1.swap (d := costHours) (K := 24) fun x hx => by have := hb.2 x hx; simp only [costOne, costHours]; omega
  have h6 := h1.2 a ha
  have h7 := h2.2 b hb'
  have h8 := h1.1.rooms fun x _ => by simp [costOne]
  refine ⟨h4, by omega, ⟨fun e => ?_, fun e => ?_⟩, by omega, by omega, h8⟩
  · by_cases e' : l = []
    · simp [e']
    · have := h1.1.pos (fun x _ => by simp [costOne]) e'
      omega
  · omega
theorem kilns_more {l : List P3} {x : P3} (h : firingsB l = true) (h' : firingsB (l ++ [x]) = true) (hx : x.2.1 = 4) :
    fewV costOne l ≤ fewV costOne (l ++ [x]) ∧ fewV costOne (l ++ [x]) ≤ fewV costOne l + 1 ∧ fewV costHours l ≤ fewV costHours (l ++ [x]) ∧ fewV costHours (l ++ [x]) ≤ fewV costHours l + 4 := by
  have hb := (firingsB_true h').2 x (by simp)
  have key : ∀ c : Int × Int → Int, MinFir c l (fewV c l) → MinFir c (l ++ [x]) (fewV c (l ++ [x])) → 0 ≤ c (x.1, x.2.1) → fewV c l ≤ fewV c (l ++ [x]) ∧ fewV c (l ++ [x]) ≤ fewV c l + c (x.1, x.2.1) := by
    intro c h1 h2 h3
    obtain ⟨u, hu, hle⟩ := h2.1.less (by omega) h3
    have h4 := h1.2 u hu
    have h5 := h2.2 _ (h1.1.more (x := x) (by omega))
    omega
  have k1 := key costOne (few_min h costs_one) (few_min h' costs_one) (by simp [costOne])
  have k2 := key costHours (few_min h (costs_hours h)) (few_min h' (costs_hours h')) (by simp [costHours]; omega)
  have e1 : costOne (x.1, x.2.1) = 1 := rfl
  have e2 : costHours (x.1, x.2.1) = 4 := hx
  omega

/-- The list that is turned round ascends in heat. -/
theorem insR_sorted {L : List Q3'} (k : Nat) : ∀ r : List Nat, r.Pairwise (fun a b => (paneAt L a).1 ≤ (paneAt L b).1) → (insR (ltF L) k r).Pairwise (fun a b => (paneAt L a).1 ≤ (paneAt L b).1)
  | [], _ => by simp [insR]
  | x :: t, h => by
    obtain ⟨h1, h2⟩ := List.pairwise_cons.1 h
    simp only [insR]
    split
    · rename_i hlt
      have h3 : (paneAt L x).1 ≤ (paneAt L k).1 := by
        have : cmpF L k x < 0 := by simpa [ltF] using hlt
        unfold cmpF at this
        split at this <;> omega
      refine List.pairwise_cons.2 ⟨fun b hb => ?_, insR_sorted k t h2⟩
      rcases List.mem_cons.1 ((insR_perm _ _ _).mem_iff.1 hb) with rfl | hb
      · exact h3
      · exact h1 b hb
    · rename_i hlt
      have h3 : (paneAt L k).1 ≤ (paneAt L x).1 := by
        have : ¬ cmpF L k x < 0 := by simpa [ltF] using hlt
        unfold cmpF at this
        split at this <;> omega
      refine List.pairwise_cons.2 ⟨fun b hb => ?_, h⟩
      rcases List.mem_cons.1 hb with rfl | hb
      · exact h3
      · exact Int.le_trans h3 (h1 b hb)
theorem orderR_sorted (L : List Q3') : ∀ n, (orderR L n).Pairwise (fun a b => (paneAt L a).1 ≤ (paneAt L b).1)
  | 0 => by simp [orderR, insAll]
  | n + 1 => by rw [orderR_succ]; exact insR_sorted _ _ (orderR_sorted L n)
theorem order_next {L : List Q3'} {n k : Nat} (hk : k + 1 < (order L n).length) : (order L n)[k]'(by omega) ≠ (order L n)[k + 1] ∧ (paneAt L (order L n)[k + 1]).1 ≤ (paneAt L ((order L n)[k]'(by omega))).1 := by
  have h1 : (order L n).Pairwise (fun a b => (paneAt L b).1 ≤ (paneAt L a).1) := List.pairwise_reverse.2 (orderR_sorted L n)
  have h2 : (order L n).Nodup := by
    exact ((List.reverse_perm _).trans (orderR_perm L n)).nodup_iff.2 List.nodup_range
  refine ⟨fun e => ?_, List.pairwise_iff_getElem.1 h1 k (k + 1) (by omega) hk (by omega)⟩
  exact List.pairwise_iff_getElem.1 h2 k (k + 1) (by omega) hk (by omega) e
theorem order_get {L : List P3} {n k : Nat} (h : k < n) : (orderI L n)[k]'(by rw [orderI_length]; exact h) = ((order L n)[k]'(by rw [order_length]; exact h) : Nat) := by simp [orderI]
theorem firingsB_in {l : List P3} (h : l.length ≤ 10) (hl : ∀ s ∈ l, firingIn s) : firingsB l = true := by
  simp only [firingsB, Bool.and_eq_true, decide_eq_true_eq, List.all_eq_true]
  refine ⟨h, fun s hs => ?_⟩
  obtain ⟨h1, h2, h3, h4⟩ := hl s hs
  simp only [okF, firingOk, inR, Bool.and_eq_true, decide_eq_true_eq]
  omega
theorem firing_ok {a b c : Int} (h1 : a = 600 ∨ a = 650) (h2 : b = 4 ∨ b = 6) (h3 : 10 ≤ c) (h4 : c ≤ 69) : firingOk a b c = true := by
  simp only [firingOk, inR, Bool.and_eq_true, decide_eq_true_eq]
  omega
theorem can_share {a b c x y z : Int} (h : firingOk a b c = true) (h' : firingOk x y z = true) : canShare a b c x y z = (decide (a = x) && decide (b = y) && decide (c + z ≤ 100)) := by
  simp [canShare, h, h']
theorem sum_rooms {l : List P3} (hl : ∀ s ∈ l, firingIn s) : ∀ k, k ≤ l.length → 0 ≤ ((l.take k).map (·.2.2)).sum ∧ ((l.take k).map (·.2.2)).sum ≤ 69 * k
  | 0, _ => by simp
  | k + 1, h => by
    have ih := sum_rooms hl k (by omega)
    have := hl _ (List.getElem_mem (show k < l.length by omega))
    obtain ⟨_, _, h3, h4⟩ := this
    have e : ([l[k]].map (fun x : P3 => x.2.2)).sum = l[k].2.2 := by simp
    rw [List.take_succ_eq_append_getElem (by omega), List.map_append, List.sum_append_int, e]
    omega
end Go.Proofs.Ytndbbdbnimmcoaa
