/- Words and walks for the law FnMatches, a part of them. No condition but that the arguments lie in memory. -/
import Derived.Test.YtabgcpoaepafjaaGreatU2
import Derived.Test.YtabgcpoaepafjaaGreatU3
import Derived.IntWalk
set_option linter.unusedVariables false
set_option linter.unusedSimpArgs false
namespace Go.Proofs.YtabgcpoaepafjaaGreat
open Go.RowKit
abbrev nv (a : P2) : Value := .agg #[.int .i64 a.1, .int .i64 a.2]
theorem NodeOk_any (a : P2) (w : World) : Calls Tryz.prog 135 #[.agg #[.int .i64 a.1, .int .i64 a.2]] w fun e w' => e = .returned (.bool (nodeOk a)) ∧ Ext w w' := by
  obtain ⟨x, y⟩ := a
  go_enter Tryz.func135, Tryz.ntmps135
  go_wp2_with (first | (go_at_call 67; refine (within_any _ _ _ _).mono ?_; rintro e w' ⟨rfl, rfl⟩))
  all_goals (go_ret; exact ⟨by simp [nodeOk, *], (Ext.refl _).alloc _⟩)
theorem sNodeOk_any (a : P2) (w : World) : Calls Tryz.prog 87 #[.agg #[.int .i64 a.1, .int .i64 a.2]] w fun e w' => e = .returned (.bool (nodeOk a)) ∧ Ext w w' := by
  obtain ⟨x, y⟩ := a
  go_enter Tryz.func87, Tryz.ntmps87
  go_wp2_with (first | (go_at_call 65; refine (l01In_any _ _ _ _).mono ?_; rintro e w' ⟨rfl, rfl⟩))
  all_goals (go_ret; exact ⟨by simp [nodeOk, *], (Ext.refl _).alloc _⟩)
theorem nodesOk_any (l : List P2) (A : Option Addr) (c : Nat) (w : World) (hl : l.length ≤ 1048576) (hr : R2 w A l) :
    Calls Tryz.prog 121 #[.slice A l.length c] w fun e w' => e = .returned (.bool (l.all nodeOk)) ∧ Ext w w' := by
  have HR := hide hr
  clear hr
  go_enter Tryz.func121, Tryz.ntmps121
  go_wp2_with fail
  go_loopw [7] (fun i wr => ∃ k : Nat, k ≤ l.length ∧ i = .int .i64 k ∧ Hid (∀ p ∈ l.take k, nodeOk p = true) ∧ Ext w wr) (fun i _ => l.length - (intOf i).toNat)
  case atStart => exact ⟨0, Nat.zero_le _, rfl, hide (by simp), Ext.refl _⟩
  case round =>
    obtain ⟨k, hk, rfl, hp, hE⟩ := hrel
    have HE := hide hE
    by_cases hlt : k < l.length
    · obtain ⟨b, off, hA, hb, e0, e1⟩ := R2.at_ (HR.out.ext hE) hlt
      subst hA
      clear hE
      go_wp2_with fail
      refine (NodeOk_any l[k] _).mono ?_; rintro e w2 ⟨rfl, hb2⟩
      have E2 := hide ((HE.out.alloc _).trans hb2)
      clear hb2
      by_cases h : nodeOk l[k] = true
      · have H := hide h
        go_wp2_with fail
        clear h
        go_roundw
        case rel => exact ⟨k + 1, by omega, by go_num, hide (fun p hm => by
          rw [List.take_succ_eq_append_getElem hlt] at hm
          rcases List.mem_append.1 hm with hm | hm
          · exact hp.out p hm
          · simp at hm; rw [hm]; exact H.out), E2.out⟩
        case measure => simp [intOf]; omega
      · have H := hide h
        go_wp2_with fail
        go_ret
        exact ⟨ret_bool (by rw [eq_comm, List.all_eq_false]; exact ⟨l[k], List.getElem_mem _, H.out⟩), E2.out⟩
    · obtain rfl : k = l.length := by omega
      clear hE
      go_wp2_with fail
      go_ret
      exact ⟨ret_bool (by rw [eq_comm, List.all_eq_true]; have := hp.out; rwa [List.take_length] at this), HE.out⟩
theorem nodes3_any (a b c : P2) (g : Nat) (w : World) (hr : R2 w (some ⟨g, 0, none⟩) [a, b, c]) :
    Calls Tryz.prog 121 #[.slice (some ⟨g, 0, none⟩) 3 3] w fun e w' => e = .returned (.bool (nodeOk a && nodeOk b && nodeOk c)) ∧ Ext w w' := by
  refine (nodesOk_any [a, b, c] (some ⟨g, 0, none⟩) 3 w (by simp) hr).mono ?_
  rintro e w' ⟨rfl, h⟩
  exact ⟨ret_bool (by simp [Bool.and_assoc]), h⟩
theorem nodes2_any (a b : P2) (g : Nat) (w : World) (hr : R2 w (some ⟨g, 0, none⟩) [a, b]) :
    Calls Tryz.prog 121 #[.slice (some ⟨g, 0, none⟩) 2 2] w fun e w' => e = .returned (.bool (nodeOk a && nodeOk b)) ∧ Ext w w' := by
  refine (nodesOk_any [a, b] (some ⟨g, 0, none⟩) 2 w (by simp) hr).mono ?_
  rintro e w' ⟨rfl, h⟩
  exact ⟨ret_bool (by simp), h⟩
theorem turn_parts {a b c : P2} (ha : nodeOk a = true) (hb : nodeOk b = true) (hc : nodeOk c = true) : (-20 ≤ b.1 - a.1 ∧ b.1 - a.1 ≤ 20) ∧ (-20 ≤ c.2 - a.2 ∧ c.2 - a.2 ≤ 20) ∧ (-20 ≤ b.2 - a.2 ∧ b.2 - a.2 ≤ 20) ∧ (-20 ≤ c.1 - a.1 ∧ c.1 - a.1 ≤ 20) ∧ (-400 ≤ (b.1 - a.1) * (c.2 - a.2) ∧ (b.1 - a.1) * (c.2 - a.2) ≤ 400) ∧ (-400 ≤ (b.2 - a.2) * (c.1 - a.1) ∧ (b.2 - a.2) * (c.1 - a.1) ≤ 400) := by
  rw [nodeOk_iff] at ha hb hc
  have h1 : -20 ≤ b.1 - a.1 ∧ b.1 - a.1 ≤ 20 := by omega
  have h2 : -20 ≤ c.2 - a.2 ∧ c.2 - a.2 ≤ 20 := by omega
  have h3 : -20 ≤ b.2 - a.2 ∧ b.2 - a.2 ≤ 20 := by omega
  have h4 : -20 ≤ c.1 - a.1 ∧ c.1 - a.1 ≤ 20 := by omega
  exact ⟨h1, h2, h3, h4, mul_in (m := 20) (n := 20) (by omega) (by omega) h1 h2, mul_in (m := 20) (n := 20) (by omega) (by omega) h3 h4⟩
theorem l02Turn_any (a b c : P2) (w : World) (ha : nodeOk a = true) (hb : nodeOk b = true) (hc : nodeOk c = true) :
    Calls Tryz.prog 119 #[.agg #[.int .i64 a.1, .int .i64 a.2], .agg #[.int .i64 b.1, .int .i64 b.2], .agg #[.int .i64 c.1, .int .i64 c.2]] w fun e w' => e = .returned (.int .i64 (turnN a b c)) ∧ Ext w w' := by
  obtain ⟨h1, h2, h3, h4, h5, h6⟩ := turn_parts ha hb hc
  obtain ⟨a1, a2⟩ := a
  obtain ⟨b1, b2⟩ := b
  obtain ⟨c1, c2⟩ := c
  dsimp only at *
  clear ha hb hc
  go_enter Tryz.func119, Tryz.ntmps119
  go_wp2_with fail
  go_ret
  exact ⟨rfl, by repeat (first | exact kE | exact Ext.refl _ | apply Ext.alloc | apply Ext.drewN | apply Ext.drew | apply Ext.set0 | apply Ext.set1 | apply Ext.set2 | apply Ext.set3 | (refine Ext.setk ?_ (by omega) _) | (apply Ext.snoc; assumption))⟩
def turnF (a b c : P2) : Int := if (nodeOk a && nodeOk b && nodeOk c) = true then turnN a b c else 0
theorem TurnOf_any (a b c : P2) (w : World) :
    Calls Tryz.prog 140 #[.agg #[.int .i64 a.1, .int .i64 a.2], .agg #[.int .i64 b.1, .int .i64 b.2], .agg #[.int .i64 c.1, .int .i64 c.2]] w fun e w' => e = .returned (.int .i64 (turnF a b c)) ∧ Ext w w' := by
  obtain ⟨a1, a2⟩ := a
  obtain ⟨b1, b2⟩ := b
  obtain ⟨c1, c2⟩ := c
  dsimp only
  
  go_enter Tryz.func140, Tryz.ntmps140
  go_wp2_with fail
  refine (nodes3_any (a1, a2) (b1, b2) (c1, c2) _ _ (Rds_new _ (enc2 [(a1, a2), (b1, b2), (c1, c2)]) 3 2 _ _ rfl (by simp))).mono ?_; rintro e w2 ⟨rfl, hb⟩; have Hw2 := hide hb; have HT := hide (show Tr [(w.heap.size, [.int .i64 a1, .int .i64 a2]), (w.heap.size + 1, [.int .i64 b1, .int .i64 b2]), (w.heap.size + 1 + 1, [.int .i64 c1, .int .i64 c2])] w w2 from Tr.ext ⟨by (first | (simp [Bx, CellsAt, go_sem, *]; done) | (simp [Bx, CellsAt, go_sem, *]; omega)), by (repeat (first | exact kE | exact Ext.refl _ | apply Ext.alloc | apply Ext.drewN | apply Ext.drew | apply Ext.set0 | apply Ext.set1 | apply Ext.set2 | apply Ext.set3 | (refine Ext.setk ?_ (by omega) _) | (apply Ext.snoc; assumption)))⟩ hb); clear hb; have kT := HT.out; simp only [Tr, Bx, CellsAt, Nat.reduceAdd, Nat.zero_add, and_true] at kT; obtain ⟨⟨⟨kz0, kf0, kc0_0, kc0_1⟩, ⟨kz1, kf1, kc1_0, kc1_1⟩, ⟨kz2, kf2, kc2_0, kc2_1⟩⟩, kE⟩ := kT
  by_cases h : (nodeOk (a1, a2) && nodeOk (b1, b2) && nodeOk (c1, c2)) = true
  · rw [h]
    have h' := h
    simp only [Bool.and_eq_true] at h'
    obtain ⟨h1, h2, h3, h4, h5, h6⟩ := turn_parts h'.1.1 h'.1.2 h'.2
    clear h'
    dsimp only at h1 h2 h3 h4 h5 h6
    have H := hide h
    clear h
    go_wp2_with fail
    go_ret
    exact ⟨ret_int (by rw [turnF, if_pos H.out]; rfl), HT.out.2⟩
  · rw [Bool.not_eq_true] at h
    rw [h]
    have H := hide h
    clear h
    go_wp2_with fail
    go_ret
    exact ⟨ret_int (by rw [turnF, if_neg (by rw [H.out]; simp)]), HT.out.2⟩
theorem TurnOf_named (a b c : P2) (w : World) :
    Calls Tryz.prog 140 #[.agg #[.int .i64 a.1, .int .i64 a.2], .agg #[.int .i64 b.1, .int .i64 b.2], .agg #[.int .i64 c.1, .int .i64 c.2]] w fun e w' => ∃ t, e = .returned (.int .i64 t) ∧ t = turnF a b c ∧ Ext w w' :=
  (TurnOf_any a b c w).mono fun _ _ ⟨h1, h2⟩ => ⟨_, h1, rfl, h2⟩
set_option maxHeartbeats 4000000 in
theorem IsBetween_any (a b c : P2) (w : World) :
    Calls Tryz.prog 139 #[.agg #[.int .i64 a.1, .int .i64 a.2], .agg #[.int .i64 b.1, .int .i64 b.2], .agg #[.int .i64 c.1, .int .i64 c.2]] w fun e w' => e = .returned (.bool (betw a b c)) ∧ Ext w w' := by
  obtain ⟨a1, a2⟩ := a
  obtain ⟨b1, b2⟩ := b
  obtain ⟨c1, c2⟩ := c
  dsimp only
  
  go_enter Tryz.func139, Tryz.ntmps139
  go_wp2_with fail
  refine (nodes3_any (a1, a2) (b1, b2) (c1, c2) _ _ (Rds_new _ (enc2 [(a1, a2), (b1, b2), (c1, c2)]) 3 2 _ _ rfl (by simp))).mono ?_; rintro e w2 ⟨rfl, hb⟩; have Hw2 := hide hb; have HT := hide (show Tr [(w.heap.size, [.int .i64 a1, .int .i64 a2]), (w.heap.size + 1, [.int .i64 b1, .int .i64 b2]), (w.heap.size + 1 + 1, [.int .i64 c1, .int .i64 c2])] w w2 from Tr.ext ⟨by (first | (simp [Bx, CellsAt, go_sem, *]; done) | (simp [Bx, CellsAt, go_sem, *]; omega)), by (repeat (first | exact kE | exact Ext.refl _ | apply Ext.alloc | apply Ext.drewN | apply Ext.drew | apply Ext.set0 | apply Ext.set1 | apply Ext.set2 | apply Ext.set3 | (refine Ext.setk ?_ (by omega) _) | (apply Ext.snoc; assumption)))⟩ hb); clear hb; have kT := HT.out; simp only [Tr, Bx, CellsAt, Nat.reduceAdd, Nat.zero_add, and_true] at kT; obtain ⟨⟨⟨kz0, kf0, kc0_0, kc0_1⟩, ⟨kz1, kf1, kc1_0, kc1_1⟩, ⟨kz2, kf2, kc2_0, kc2_1⟩⟩, kE⟩ := kT
  by_cases h : (nodeOk (a1, a2) && nodeOk (b1, b2) && nodeOk (c1, c2)) = true
  · rw [h]
    have H := hide h
    clear h
    go_wp2_with fail
    all_goals first
      | (go_ret; refine ⟨ret_bool ?_, HT.out.2⟩; have hn := H.out; clear H; subst_vars; simp only [Bool.and_eq_true] at hn; simp [betw, hn.1.1, hn.1.2, hn.2, *]; done)
      | skip
    all_goals
      refine (TurnOf_named (_, _) (_, _) (_, _) _).mono ?_; rintro e w3 ⟨t, rfl, htv, hb⟩; have HT := hide (HT.out.ext hb); have Hw3 := hide hb; clear hb; clear kz0 kf0 kc0_0 kc0_1 kz1 kf1 kc1_0 kc1_1 kz2 kf2 kc2_0 kc2_1 kE; have kT := HT.out; simp only [Tr, Bx, CellsAt, Nat.reduceAdd, Nat.zero_add, and_true] at kT; obtain ⟨⟨⟨kz0, kf0, kc0_0, kc0_1⟩, ⟨kz1, kf1, kc1_0, kc1_1⟩, ⟨kz2, kf2, kc2_0, kc2_1⟩⟩, kE⟩ := kT
      have HTV := hide htv
      clear htv
      by_cases h0 : t = 0
    all_goals go_wp2_with (first | (go_at_call 67; refine (within_any _ _ _ _).mono ?_; rintro e w' ⟨rfl, rfl⟩))
    all_goals
      go_ret
      refine ⟨ret_bool ?_, HT.out.2⟩
      rw [HTV.out] at h0
      have hn := H.out
      clear HTV H
      subst_vars
      rw [turnF, if_pos hn] at h0
      simp only [Bool.and_eq_true] at hn
      clear HT kE
      first
        | (simp [betw, hn.1.1, hn.1.2, hn.2, *]; done)
        | (rw [Bool.eq_iff_iff]; simp [betw, inR, hn.1.1, hn.1.2, hn.2, *]; done)
        | (rw [Bool.eq_iff_iff]; simp [betw, inR, hn.1.1, hn.1.2, hn.2, *] at * <;> omega)
  · rw [Bool.not_eq_true] at h
    rw [h]
    have H := hide h
    clear h
    go_wp2_with fail
    go_ret
    exact ⟨ret_bool (by rw [betw, H.out]; simp), HT.out.2⟩
theorem l02Turn_named (a b c : P2) (w : World) (ha : nodeOk a = true) (hb : nodeOk b = true) (hc : nodeOk c = true) :
    Calls Tryz.prog 119 #[.agg #[.int .i64 a.1, .int .i64 a.2], .agg #[.int .i64 b.1, .int .i64 b.2], .agg #[.int .i64 c.1, .int .i64 c.2]] w fun e w' => ∃ t, e = .returned (.int .i64 t) ∧ t = turnN a b c ∧ Ext w w' :=
  (l02Turn_any a b c w ha hb hc).mono fun _ _ ⟨h1, h2⟩ => ⟨_, h1, rfl, h2⟩
theorem HalfPlane_any (a b : P2) (w : World) :
    Calls Tryz.prog 150 #[.agg #[.int .i64 a.1, .int .i64 a.2], .agg #[.int .i64 b.1, .int .i64 b.2]] w fun e w' => e = .returned (.int .i64 (halfP a b)) ∧ Ext w w' := by
  obtain ⟨a1, a2⟩ := a
  obtain ⟨b1, b2⟩ := b
  dsimp only
  go_enter Tryz.func150, Tryz.ntmps150
  go_wp2
  all_goals
    go_ret
    exact ⟨ret_int (by unfold halfP; dsimp only; first | rw [if_pos (by omega)] | rw [if_neg (by omega)]), by repeat (first | exact kE | exact Ext.refl _ | apply Ext.alloc | apply Ext.drewN | apply Ext.drew | apply Ext.set0 | apply Ext.set1 | apply Ext.set2 | apply Ext.set3 | (refine Ext.setk ?_ (by omega) _) | (apply Ext.snoc; assumption))⟩
theorem sHalfPlane_any (a b : P2) (w : World) :
    Calls Tryz.prog 147 #[.agg #[.int .i64 a.1, .int .i64 a.2], .agg #[.int .i64 b.1, .int .i64 b.2]] w fun e w' => e = .returned (.int .i64 (halfP a b)) ∧ Ext w w' := by
  obtain ⟨a1, a2⟩ := a
  obtain ⟨b1, b2⟩ := b
  dsimp only
  go_enter Tryz.func147, Tryz.ntmps147
  go_wp2
  all_goals
    go_ret
    exact ⟨ret_int (by unfold halfP; dsimp only; first | rw [if_pos (by omega)] | rw [if_neg (by omega)]), by repeat (first | exact kE | exact Ext.refl _ | apply Ext.alloc | apply Ext.drewN | apply Ext.drew | apply Ext.set0 | apply Ext.set1 | apply Ext.set2 | apply Ext.set3 | (refine Ext.setk ?_ (by omega) _) | (apply Ext.snoc; assumption))⟩
set_option maxHeartbeats 4000000 in
theorem sIsBetween_any (a b c : P2) (w : World) :
    Calls Tryz.prog 117 #[.agg #[.int .i64 a.1, .int .i64 a.2], .agg #[.int .i64 b.1, .int .i64 b.2], .agg #[.int .i64 c.1, .int .i64 c.2]] w fun e w' => e = .returned (.bool (betw a b c)) ∧ Ext w w' := by
  obtain ⟨a1, a2⟩ := a
  obtain ⟨b1, b2⟩ := b
  obtain ⟨c1, c2⟩ := c
  dsimp only
  
  go_enter Tryz.func117, Tryz.ntmps117
  go_wp2_with fail
  refine (sNodeOk_any (a1, a2) _).mono ?_; rintro e w2 ⟨rfl, hb⟩; have Hw2 := hide hb; have HT := hide (show Tr [(w.heap.size, [.int .i64 a1, .int .i64 a2]), (w.heap.size + 1, [.int .i64 b1, .int .i64 b2]), (w.heap.size + 1 + 1, [.int .i64 c1, .int .i64 c2])] w w2 from Tr.ext ⟨by (first | (simp [Bx, CellsAt, go_sem, *]; done) | (simp [Bx, CellsAt, go_sem, *]; omega)), by (repeat (first | exact kE | exact Ext.refl _ | apply Ext.alloc | apply Ext.drewN | apply Ext.drew | apply Ext.set0 | apply Ext.set1 | apply Ext.set2 | apply Ext.set3 | (refine Ext.setk ?_ (by omega) _) | (apply Ext.snoc; assumption)))⟩ hb); clear hb; have kT := HT.out; simp only [Tr, Bx, CellsAt, Nat.reduceAdd, Nat.zero_add, and_true] at kT; obtain ⟨⟨⟨kz0, kf0, kc0_0, kc0_1⟩, ⟨kz1, kf1, kc1_0, kc1_1⟩, ⟨kz2, kf2, kc2_0, kc2_1⟩⟩, kE⟩ := kT
  by_cases n1 : nodeOk (a1, a2) = true
  · rw [n1]
    have N1 := hide n1
    clear n1
    go_wp2_with fail
    refine (sNodeOk_any (b1, b2) _).mono ?_; rintro e w3 ⟨rfl, hb⟩; have HT := hide (HT.out.ext hb); have Hw3 := hide hb; clear hb; clear kz0 kf0 kc0_0 kc0_1 kz1 kf1 kc1_0 kc1_1 kz2 kf2 kc2_0 kc2_1 kE; have kT := HT.out; simp only [Tr, Bx, CellsAt, Nat.reduceAdd, Nat.zero_add, and_true] at kT; obtain ⟨⟨⟨kz0, kf0, kc0_0, kc0_1⟩, ⟨kz1, kf1, kc1_0, kc1_1⟩, ⟨kz2, kf2, kc2_0, kc2_1⟩⟩, kE⟩ := kT
    by_cases n2 : nodeOk (b1, b2) = true
    · rw [n2]
      have N2 := hide n2
      clear n2
      go_wp2_with fail
      refine (sNodeOk_any (c1, c2) _).mono ?_; rintro e w4 ⟨rfl, hb⟩; have HT := hide (HT.out.ext hb); have Hw4 := hide hb; clear hb; clear kz0 kf0 kc0_0 kc0_1 kz1 kf1 kc1_0 kc1_1 kz2 kf2 kc2_0 kc2_1 kE; have kT := HT.out; simp only [Tr, Bx, CellsAt, Nat.reduceAdd, Nat.zero_add, and_true] at kT; obtain ⟨⟨⟨kz0, kf0, kc0_0, kc0_1⟩, ⟨kz1, kf1, kc1_0, kc1_1⟩, ⟨kz2, kf2, kc2_0, kc2_1⟩⟩, kE⟩ := kT
      by_cases n3 : nodeOk (c1, c2) = true
      · rw [n3]
        have N3 := hide n3
        clear n3
        go_wp2_with fail
        all_goals first
          | (go_ret; refine ⟨ret_bool ?_, HT.out.2⟩; have q1 := N1.out; have q2 := N2.out; have q3 := N3.out; clear N1 N2 N3; subst_vars; simp [betw, *]; done)
          | skip
        all_goals
          refine (l02Turn_named (_, _) (_, _) (_, _) _ (by have h := N1.out; clear HT kE; simp_all) (by have h := N2.out; clear HT kE; simp_all) (by have h := N3.out; clear HT kE; simp_all)).mono ?_; rintro e w5 ⟨t, rfl, htv, hb⟩; have HT := hide (HT.out.ext hb); have Hw5 := hide hb; clear hb; clear kz0 kf0 kc0_0 kc0_1 kz1 kf1 kc1_0 kc1_1 kz2 kf2 kc2_0 kc2_1 kE; have kT := HT.out; simp only [Tr, Bx, CellsAt, Nat.reduceAdd, Nat.zero_add, and_true] at kT; obtain ⟨⟨⟨kz0, kf0, kc0_0, kc0_1⟩, ⟨kz1, kf1, kc1_0, kc1_1⟩, ⟨kz2, kf2, kc2_0, kc2_1⟩⟩, kE⟩ := kT
          have HTV := hide htv
          clear htv
          by_cases h0 : t = 0
        all_goals go_wp2_with (first | (go_at_call 65; refine (l01In_any _ _ _ _).mono ?_; rintro e w' ⟨rfl, rfl⟩))
        all_goals
          go_ret
          refine ⟨ret_bool ?_, HT.out.2⟩
          rw [HTV.out] at h0
          have q1 := N1.out
          have q2 := N2.out
          have q3 := N3.out
          clear HTV N1 N2 N3
          subst_vars
          clear HT kE
          first
            | (simp [betw, *]; done)
            | (rw [Bool.eq_iff_iff]; simp [betw, inR, *]; done)
            | (rw [Bool.eq_iff_iff]; simp [betw, inR, *] at * <;> omega)
      · rw [Bool.not_eq_true] at n3
        rw [n3]
        have N := hide n3
        clear n3
        go_wp2_with fail
        go_ret
        exact ⟨ret_bool (by rw [betw, N.out]; simp), HT.out.2⟩
    · rw [Bool.not_eq_true] at n2
      rw [n2]
      have N := hide n2
      clear n2
      go_wp2_with fail
      go_ret
      exact ⟨ret_bool (by rw [betw, N.out]; simp), HT.out.2⟩
  · rw [Bool.not_eq_true] at n1
    rw [n1]
    have N := hide n1
    clear n1
    go_wp2_with fail
    go_ret
    exact ⟨ret_bool (by rw [betw, N.out]; simp), HT.out.2⟩
set_option maxHeartbeats 4000000 in
theorem IsBeforeAround_any (a b c : P2) (w : World) :
    Calls Tryz.prog 146 #[.agg #[.int .i64 a.1, .int .i64 a.2], .agg #[.int .i64 b.1, .int .i64 b.2], .agg #[.int .i64 c.1, .int .i64 c.2]] w fun e w' => e = .returned (.bool (befN a b c)) ∧ Ext w w' := by
  obtain ⟨a1, a2⟩ := a
  obtain ⟨b1, b2⟩ := b
  obtain ⟨c1, c2⟩ := c
  dsimp only
  
  go_enter Tryz.func146, Tryz.ntmps146
  go_wp2_with fail
  refine (nodes3_any (a1, a2) (b1, b2) (c1, c2) _ _ (Rds_new _ (enc2 [(a1, a2), (b1, b2), (c1, c2)]) 3 2 _ _ rfl (by simp))).mono ?_; rintro e w2 ⟨rfl, hb⟩; have Hw2 := hide hb; have HT := hide (show Tr [(w.heap.size, [.int .i64 a1, .int .i64 a2]), (w.heap.size + 1, [.int .i64 b1, .int .i64 b2]), (w.heap.size + 1 + 1, [.int .i64 c1, .int .i64 c2])] w w2 from Tr.ext ⟨by (first | (simp [Bx, CellsAt, go_sem, *]; done) | (simp [Bx, CellsAt, go_sem, *]; omega)), by (repeat (first | exact kE | exact Ext.refl _ | apply Ext.alloc | apply Ext.drewN | apply Ext.drew | apply Ext.set0 | apply Ext.set1 | apply Ext.set2 | apply Ext.set3 | (refine Ext.setk ?_ (by omega) _) | (apply Ext.snoc; assumption)))⟩ hb); clear hb; have kT := HT.out; simp only [Tr, Bx, CellsAt, Nat.reduceAdd, Nat.zero_add, and_true] at kT; obtain ⟨⟨⟨kz0, kf0, kc0_0, kc0_1⟩, ⟨kz1, kf1, kc1_0, kc1_1⟩, ⟨kz2, kf2, kc2_0, kc2_1⟩⟩, kE⟩ := kT
  by_cases h : (nodeOk (a1, a2) && nodeOk (b1, b2) && nodeOk (c1, c2)) = true
  · rw [h]
    have H := hide h
    clear h
    go_wp2_with fail
    go_region_held3 (fun w' => (∀ (q o : Nat), q < w2.heap.size → w'.cell? ⟨q, o, none⟩ = w2.cell? ⟨q, o, none⟩) ∧ Ext w2 w') ((apply ExtS; repeat (first | exact kE | exact Ext.refl _ | apply Ext.alloc | apply Ext.drewN | apply Ext.drew | apply Ext.set0 | apply Ext.set1 | apply Ext.set2 | apply Ext.set3 | (refine Ext.setk ?_ (by omega) _) | (apply Ext.snoc; assumption)))) ((first | (go_at_call 150; refine (HalfPlane_any (_, _) (_, _) _).mono ?_; rintro e w3 ⟨rfl, hb3⟩)))
    have hE3 : Ext w2 w3 := by clear kE; repeat (first | exact kE | exact Ext.refl _ | apply Ext.alloc | apply Ext.drewN | apply Ext.drew | apply Ext.set0 | apply Ext.set1 | apply Ext.set2 | apply Ext.set3 | (refine Ext.setk ?_ (by omega) _) | (apply Ext.snoc; assumption))
    have HT := hide (HT.out.ext hE3); clear hE3; have kT := HT.out; simp only [Tr, Bx, CellsAt, Nat.reduceAdd, Nat.zero_add, and_true] at kT; obtain ⟨⟨⟨kz0, kf0, kc0_0, kc0_1⟩, ⟨kz1, kf1, kc1_0, kc1_1⟩, ⟨kz2, kf2, kc2_0, kc2_1⟩⟩, kE⟩ := kT
    have hn := H.out
    simp only [Bool.and_eq_true] at hn
    have N1 := hide hn.1.1
    have N2 := hide hn.1.2
    have N3 := hide hn.2
    clear hn
    obtain ⟨x, hx⟩ : ∃ q, halfP (a1, a2) (b1, b2) = q := ⟨_, rfl⟩
    obtain ⟨y, hy⟩ : ∃ q, halfP (a1, a2) (c1, c2) = q := ⟨_, rfl⟩
    rw [hx, hy]
    have HX := hide hx
    have HY := hide hy
    clear hx hy
    by_cases hxy : x < y
    · go_wp2_with fail
      go_ret
      exact ⟨ret_bool (by simp [befN, N1.out, N2.out, N3.out, HX.out, HY.out, hxy]), HT.out.2⟩
    · by_cases hxe : x = y
      · subst hxe
        go_wp2_with fail
        refine (TurnOf_named (a1, a2) (b1, b2) (c1, c2) _).mono ?_; rintro e w4 ⟨t, rfl, htv, hb⟩; have HT := hide (HT.out.ext hb); have Hw4 := hide hb; clear hb; clear kz0 kf0 kc0_0 kc0_1 kz1 kf1 kc1_0 kc1_1 kz2 kf2 kc2_0 kc2_1 kE; have kT := HT.out; simp only [Tr, Bx, CellsAt, Nat.reduceAdd, Nat.zero_add, and_true] at kT; obtain ⟨⟨⟨kz0, kf0, kc0_0, kc0_1⟩, ⟨kz1, kf1, kc1_0, kc1_1⟩, ⟨kz2, kf2, kc2_0, kc2_1⟩⟩, kE⟩ := kT
        have HTV := hide htv
        clear htv
        go_wp2_with fail
        all_goals
          go_ret
          have htv := HTV.out
          rw [turnF, if_pos H.out] at htv
          subst htv
          exact ⟨ret_bool (by simp [befN, N1.out, N2.out, N3.out, HX.out, HY.out, *]), HT.out.2⟩
      · go_wp2_with fail
        go_ret
        exact ⟨ret_bool (by simp [befN, N1.out, N2.out, N3.out, HX.out, HY.out, hxy, hxe]), HT.out.2⟩
  · rw [Bool.not_eq_true] at h
    rw [h]
    have H := hide h
    clear h
    go_wp2_with fail
    go_ret
    exact ⟨ret_bool (by rw [befN, H.out]; simp), HT.out.2⟩
set_option maxHeartbeats 4000000 in
theorem sIsBeforeAround_any (a b c : P2) (w : World) :
    Calls Tryz.prog 143 #[.agg #[.int .i64 a.1, .int .i64 a.2], .agg #[.int .i64 b.1, .int .i64 b.2], .agg #[.int .i64 c.1, .int .i64 c.2]] w fun e w' => e = .returned (.bool (befN a b c)) ∧ Ext w w' := by
  obtain ⟨a1, a2⟩ := a
  obtain ⟨b1, b2⟩ := b
  obtain ⟨c1, c2⟩ := c
  dsimp only
  
  go_enter Tryz.func143, Tryz.ntmps143
  go_wp2_with fail
  refine (sNodeOk_any (a1, a2) _).mono ?_; rintro e w2 ⟨rfl, hb⟩; have Hw2 := hide hb; have HT := hide (show Tr [(w.heap.size, [.int .i64 a1, .int .i64 a2]), (w.heap.size + 1, [.int .i64 b1, .int .i64 b2]), (w.heap.size + 1 + 1, [.int .i64 c1, .int .i64 c2])] w w2 from Tr.ext ⟨by (first | (simp [Bx, CellsAt, go_sem, *]; done) | (simp [Bx, CellsAt, go_sem, *]; omega)), by (repeat (first | exact kE | exact Ext.refl _ | apply Ext.alloc | apply Ext.drewN | apply Ext.drew | apply Ext.set0 | apply Ext.set1 | apply Ext.set2 | apply Ext.set3 | (refine Ext.setk ?_ (by omega) _) | (apply Ext.snoc; assumption)))⟩ hb); clear hb; have kT := HT.out; simp only [Tr, Bx, CellsAt, Nat.reduceAdd, Nat.zero_add, and_true] at kT; obtain ⟨⟨⟨kz0, kf0, kc0_0, kc0_1⟩, ⟨kz1, kf1, kc1_0, kc1_1⟩, ⟨kz2, kf2, kc2_0, kc2_1⟩⟩, kE⟩ := kT
  by_cases n1 : nodeOk (a1, a2) = true
  · rw [n1]
    have N1 := hide n1
    clear n1
    go_wp2_with fail
    refine (sNodeOk_any (b1, b2) _).mono ?_; rintro e w3 ⟨rfl, hb⟩; have HT := hide (HT.out.ext hb); have Hw3 := hide hb; clear hb; clear kz0 kf0 kc0_0 kc0_1 kz1 kf1 kc1_0 kc1_1 kz2 kf2 kc2_0 kc2_1 kE; have kT := HT.out; simp only [Tr, Bx, CellsAt, Nat.reduceAdd, Nat.zero_add, and_true] at kT; obtain ⟨⟨⟨kz0, kf0, kc0_0, kc0_1⟩, ⟨kz1, kf1, kc1_0, kc1_1⟩, ⟨kz2, kf2, kc2_0, kc2_1⟩⟩, kE⟩ := kT
    by_cases n2 : nodeOk (b1, b2) = true
    · rw [n2]
      have N2 := hide n2
      clear n2
      go_wp2_with fail
      refine (sNodeOk_any (c1, c2) _).mono ?_; rintro e w4 ⟨rfl, hb⟩; have HT := hide (HT.out.ext hb); have Hw4 := hide hb; clear hb; clear kz0 kf0 kc0_0 kc0_1 kz1 kf1 kc1_0 kc1_1 kz2 kf2 kc2_0 kc2_1 kE; have kT := HT.out; simp only [Tr, Bx, CellsAt, Nat.reduceAdd, Nat.zero_add, and_true] at kT; obtain ⟨⟨⟨kz0, kf0, kc0_0, kc0_1⟩, ⟨kz1, kf1, kc1_0, kc1_1⟩, ⟨kz2, kf2, kc2_0, kc2_1⟩⟩, kE⟩ := kT
      by_cases n3 : nodeOk (c1, c2) = true
      · rw [n3]
        have N3 := hide n3
        clear n3
        go_wp2_with fail
        obtain ⟨x, hx⟩ : ∃ q, halfP (a1, a2) (b1, b2) = q := ⟨_, rfl⟩
        obtain ⟨y, hy⟩ : ∃ q, halfP (a1, a2) (c1, c2) = q := ⟨_, rfl⟩
        have HX := hide hx
        have HY := hide hy
        clear hx hy
        go_region_held3 (fun w' => (∀ (q o : Nat), q < w4.heap.size → w'.cell? ⟨q, o, none⟩ = w4.cell? ⟨q, o, none⟩) ∧ Ext w4 w') ((apply ExtS; repeat (first | exact kE | exact Ext.refl _ | apply Ext.alloc | apply Ext.drewN | apply Ext.drew | apply Ext.set0 | apply Ext.set1 | apply Ext.set2 | apply Ext.set3 | (refine Ext.setk ?_ (by omega) _) | (apply Ext.snoc; assumption)))) ((first | (go_at_call 147; refine (sHalfPlane_any (_, _) (_, _) _).mono ?_; rintro e w5 ⟨rfl, hb5⟩)))
        have hE5 : Ext w4 w5 := by clear kE; repeat (first | exact kE | exact Ext.refl _ | apply Ext.alloc | apply Ext.drewN | apply Ext.drew | apply Ext.set0 | apply Ext.set1 | apply Ext.set2 | apply Ext.set3 | (refine Ext.setk ?_ (by omega) _) | (apply Ext.snoc; assumption))
        have HT := hide (HT.out.ext hE5); clear hE5; have kT := HT.out; simp only [Tr, Bx, CellsAt, Nat.reduceAdd, Nat.zero_add, and_true] at kT; obtain ⟨⟨⟨kz0, kf0, kc0_0, kc0_1⟩, ⟨kz1, kf1, kc1_0, kc1_1⟩, ⟨kz2, kf2, kc2_0, kc2_1⟩⟩, kE⟩ := kT
        rw [HX.out, HY.out]
        by_cases hxe : x = y
        · subst hxe
          go_wp2_with fail
          refine (l02Turn_named (a1, a2) (b1, b2) (c1, c2) _ N1.out N2.out N3.out).mono ?_; rintro e w6 ⟨t, rfl, htv, hb⟩; have HT := hide (HT.out.ext hb); have Hw6 := hide hb; clear hb; clear kz0 kf0 kc0_0 kc0_1 kz1 kf1 kc1_0 kc1_1 kz2 kf2 kc2_0 kc2_1 kE; have kT := HT.out; simp only [Tr, Bx, CellsAt, Nat.reduceAdd, Nat.zero_add, and_true] at kT; obtain ⟨⟨⟨kz0, kf0, kc0_0, kc0_1⟩, ⟨kz1, kf1, kc1_0, kc1_1⟩, ⟨kz2, kf2, kc2_0, kc2_1⟩⟩, kE⟩ := kT
          have HTV := hide htv
          clear htv
          go_wp2_with fail
          all_goals
            go_ret
            have htv := HTV.out
            subst htv
            exact ⟨ret_bool (by simp [befN, N1.out, N2.out, N3.out, HX.out, HY.out, *]), HT.out.2⟩
        · go_wp2_with fail
          go_region_held3 (fun w' => (∀ (q o : Nat), q < w5.heap.size → w'.cell? ⟨q, o, none⟩ = w5.cell? ⟨q, o, none⟩) ∧ Ext w5 w') ((apply ExtS; repeat (first | exact kE | exact Ext.refl _ | apply Ext.alloc | apply Ext.drewN | apply Ext.drew | apply Ext.set0 | apply Ext.set1 | apply Ext.set2 | apply Ext.set3 | (refine Ext.setk ?_ (by omega) _) | (apply Ext.snoc; assumption)))) ((first | (go_at_call 147; refine (sHalfPlane_any (_, _) (_, _) _).mono ?_; rintro e w6 ⟨rfl, hb6⟩)))
          have hE6 : Ext w5 w6 := by clear kE; repeat (first | exact kE | exact Ext.refl _ | apply Ext.alloc | apply Ext.drewN | apply Ext.drew | apply Ext.set0 | apply Ext.set1 | apply Ext.set2 | apply Ext.set3 | (refine Ext.setk ?_ (by omega) _) | (apply Ext.snoc; assumption))
          have HT := hide (HT.out.ext hE6); clear hE6; have kT := HT.out; simp only [Tr, Bx, CellsAt, Nat.reduceAdd, Nat.zero_add, and_true] at kT; obtain ⟨⟨⟨kz0, kf0, kc0_0, kc0_1⟩, ⟨kz1, kf1, kc1_0, kc1_1⟩, ⟨kz2, kf2, kc2_0, kc2_1⟩⟩, kE⟩ := kT
          rw [HX.out, HY.out]
          go_wp2_with fail
          all_goals
            go_ret
            exact ⟨ret_bool (by simp [befN, N1.out, N2.out, N3.out, HX.out, HY.out, hxe, *]), HT.out.2⟩
      · rw [Bool.not_eq_true] at n3
        rw [n3]
        have N := hide n3
        clear n3
        go_wp2_with fail
        go_ret
        exact ⟨ret_bool (by rw [befN, N.out]; simp), HT.out.2⟩
    · rw [Bool.not_eq_true] at n2
      rw [n2]
      have N := hide n2
      clear n2
      go_wp2_with fail
      go_ret
      exact ⟨ret_bool (by rw [befN, N.out]; simp), HT.out.2⟩
  · rw [Bool.not_eq_true] at n1
    rw [n1]
    have N := hide n1
    clear n1
    go_wp2_with fail
    go_ret
    exact ⟨ret_bool (by rw [befN, N.out]; simp), HT.out.2⟩
end Go.Proofs.YtabgcpoaepafjaaGreat
