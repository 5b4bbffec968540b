/- Words and walks for the law FnMatches, a part of them. No condition but that the arguments lie in memory. -/
import Derived.Test.YtabgcpoaepafjaaGreatU2
import Derived.Test.YtabgcpoaepafjaaGreatU5
import Derived.Test.YtabgcpoaepafjaaGreatU6
import Derived.BigQuiet
import Derived.BigRegion
import Derived.Deep.DeepCutAuto
set_option linter.unusedVariables false
set_option linter.unusedSimpArgs false
namespace Go.Proofs.YtabgcpoaepafjaaGreat
open Go.RowKit
set_option maxHeartbeats 4000000 in
theorem IsOnLead_any (N : List P2) (A : Option Addr) (c : Nat) (e n : P2) (w : World) (hl : N.length ≤ 1048576) (hr : R2 w A N) :
    Calls Tryz.prog 134 #[.slice A N.length c, .agg #[.int .i64 e.1, .int .i64 e.2], .agg #[.int .i64 n.1, .int .i64 n.2]] w fun x w' => x = .returned (.bool (onLead N e n)) ∧ Ext w w' := by
  have HR := hide hr
  clear hr
  obtain ⟨f, t⟩ := e
  obtain ⟨n1, n2⟩ := n
  dsimp only
  
  go_enter Tryz.func134, Tryz.ntmps134
  go_wp2_with fail
  refine (LeadOk_any N A c (f, t) _ hl (HR.out.ext (by repeat (first | exact kE | exact Ext.refl _ | apply Ext.alloc | apply Ext.drewN | apply Ext.drew | apply Ext.set0 | apply Ext.set1 | apply Ext.set2 | apply Ext.set3 | (refine Ext.setk ?_ (by omega) _) | (apply Ext.snoc; assumption))))).mono ?_; rintro e w2 ⟨rfl, hb⟩; have Hw2 := hide hb; have HT := hide (show Tr [(w.heap.size, [.int .i64 f, .int .i64 t]), (w.heap.size + 1, [.int .i64 n1, .int .i64 n2])] w w2 from Tr.ext ⟨by (first | (simp [Bx, CellsAt, go_sem, *]; done) | (simp [Bx, CellsAt, go_sem, *]; omega)), by (repeat (first | exact kE | exact Ext.refl _ | apply Ext.alloc | apply Ext.drewN | apply Ext.drew | apply Ext.set0 | apply Ext.set1 | apply Ext.set2 | apply Ext.set3 | (refine Ext.setk ?_ (by omega) _) | (apply Ext.snoc; assumption)))⟩ hb); clear hb; have kT := HT.out; simp only [Tr, Bx, CellsAt, Nat.reduceAdd, Nat.zero_add, and_true] at kT; obtain ⟨⟨⟨kz0, kf0, kc0_0, kc0_1⟩, ⟨kz1, kf1, kc1_0, kc1_1⟩⟩, kE⟩ := kT
  by_cases h : leadOk N (f, t) = true
  · rw [h]
    have hk := leadOk_iff.1 h
    dsimp only at hk
    obtain ⟨i, rfl⟩ := Int.eq_ofNat_of_zero_le hk.1.1
    obtain ⟨j, rfl⟩ := Int.eq_ofNat_of_zero_le (show 0 ≤ t by omega)
    
    have hi : i < N.length := by omega
    have hj : j < N.length := by omega
    obtain ⟨b, off, rfl, hb, c0, c1⟩ := R2.at_ (HR.out.ext kE) hi
    obtain ⟨b', off', hA', _, d0, d1⟩ := R2.at_ (HR.out.ext kE) hj
    injection hA' with hA'
    injection hA' with hA1 hA2 _
    subst hA1 hA2
    have HO : Hid (onLead N ((i : Int), (j : Int)) (n1, n2) = onN N[i] N[j] (n1, n2)) := hide (by rw [onLead, h, at2_eq hi, at2_eq hj]; rfl)
    clear h
    obtain ⟨⟨a1, a2⟩, ha⟩ : ∃ q : P2, N[i] = q := ⟨_, rfl⟩
    obtain ⟨⟨b1, b2⟩, hb'⟩ : ∃ q : P2, N[j] = q := ⟨_, rfl⟩
    have ho := HO.out
    rw [ha, hb'] at ho
    rw [ha] at c0 c1
    rw [hb'] at d0 d1
    dsimp only at c0 c1 d0 d1
    have HO := hide ho
    clear ho
    have z1 : (i : Int) < (N.length : Int) := by omega
    have z2 : (j : Int) < (N.length : Int) := by omega
    have z3 : (0 : Int) ≤ (i : Int) := by omega
    have z4 : (0 : Int) ≤ (j : Int) := by omega
    clear hk ha hb'
    go_wp2_with fail
    go_cut [7, 8] from 7 (fun x y wx => ∃ p q : Nat, x = .pointer (some ⟨p, 0, none⟩) ∧ y = .pointer (some ⟨q, 0, none⟩) ∧ Tr [(p, [.int .i64 a1, .int .i64 a2]), (q, [.int .i64 b1, .int .i64 b2])] w2 wx)
    case first => (clear HT HO; go_region; all_goals (go_wp2_with fail; go_meet; refine ⟨_, _, rfl, rfl, ?_⟩; exact ⟨by simp [Bx, CellsAt, go_sem, *], by (try clear kE); repeat (first | exact kE | exact Ext.refl _ | apply Ext.alloc | apply Ext.drewN | apply Ext.drew | apply Ext.set0 | apply Ext.set1 | apply Ext.set2 | apply Ext.set3 | (refine Ext.setk ?_ (by omega) _) | (apply Ext.snoc; assumption))⟩))
    obtain ⟨p, q, rfl, rfl, hT⟩ := hcut; rename World => w4; have Hw4 := hide hT.2; have HT := hide (show Tr [(p, [.int .i64 a1, .int .i64 a2]), (q, [.int .i64 b1, .int .i64 b2]), (w.heap.size, [.int .i64 (i : Int), .int .i64 (j : Int)]), (w.heap.size + 1, [.int .i64 n1, .int .i64 n2])] w w4 from HT.out.mores hT.2 _ hT.1); clear hT kz0 kf0 kc0_0 kc0_1 kz1 kf1 kc1_0 kc1_1 kE; have kT := HT.out; simp only [Tr, Bx, CellsAt, Nat.reduceAdd, Nat.zero_add, and_true] at kT; obtain ⟨⟨⟨kz0, kf0, kc0_0, kc0_1⟩, ⟨kz1, kf1, kc1_0, kc1_1⟩, ⟨kz2, kf2, kc2_0, kc2_1⟩, ⟨kz3, kf3, kc3_0, kc3_1⟩⟩, kE⟩ := kT
    clear c0 c1 d0 d1 hb HR
    go_wp2_with fail
    all_goals first
      | (go_ret; exact ⟨ret_bool (by rw [HO.out]; subst_vars; simp [onN, *]), HT.out.2⟩)
      | skip
    all_goals
      refine (IsBetween_any (_, _) (_, _) (_, _) _).mono ?_; rintro e w5 ⟨rfl, hb⟩; have HT := hide (HT.out.ext hb); have Hw5 := hide hb; clear hb; clear kz0 kf0 kc0_0 kc0_1 kz1 kf1 kc1_0 kc1_1 kz2 kf2 kc2_0 kc2_1 kz3 kf3 kc3_0 kc3_1 kE; have kT := HT.out; simp only [Tr, Bx, CellsAt, Nat.reduceAdd, Nat.zero_add, and_true] at kT; obtain ⟨⟨⟨kz0, kf0, kc0_0, kc0_1⟩, ⟨kz1, kf1, kc1_0, kc1_1⟩, ⟨kz2, kf2, kc2_0, kc2_1⟩, ⟨kz3, kf3, kc3_0, kc3_1⟩⟩, kE⟩ := kT
      go_wp2_with fail
      go_ret
      exact ⟨ret_bool (by rw [HO.out]; subst_vars; simp [onN, *]), HT.out.2⟩
  · rw [Bool.not_eq_true] at h
    rw [h]
    have H := hide h
    clear h
    go_wp2_with fail
    go_ret
    exact ⟨ret_bool (by rw [onLead, H.out]; rfl), HT.out.2⟩
theorem TurnOf_is (a b c : P2) (t : Int) (w : World) (h : turnF a b c = t) :
    Calls Tryz.prog 140 #[.agg #[.int .i64 a.1, .int .i64 a.2], .agg #[.int .i64 b.1, .int .i64 b.2], .agg #[.int .i64 c.1, .int .i64 c.2]] w fun e w' => e = .returned (.int .i64 t) ∧ Ext w w' := by
  rw [← h]
  exact TurnOf_any a b c w
set_option maxRecDepth 20000 in
set_option maxHeartbeats 16000000 in
theorem DoCross_any (N : List P2) (A : Option Addr) (c : Nat) (e e2 : P2) (w : World) (hl : N.length ≤ 1048576) (hr : R2 w A N) :
    Calls Tryz.prog 133 #[.slice A N.length c, .agg #[.int .i64 e.1, .int .i64 e.2], .agg #[.int .i64 e2.1, .int .i64 e2.2]] w fun x w' => x = .returned (.bool (crossB N e e2)) ∧ Ext w w' := by
  have HR := hide hr
  clear hr
  obtain ⟨f, t⟩ := e
  obtain ⟨f2, t2⟩ := e2
  dsimp only
  
  go_enter Tryz.func133, Tryz.ntmps133
  go_wp2_with fail
  refine (LeadOk_any N A c (f, t) _ hl (HR.out.ext (by repeat (first | exact kE | exact Ext.refl _ | apply Ext.alloc | apply Ext.drewN | apply Ext.drew | apply Ext.set0 | apply Ext.set1 | apply Ext.set2 | apply Ext.set3 | (refine Ext.setk ?_ (by omega) _) | (apply Ext.snoc; assumption))))).mono ?_; rintro e w1 ⟨rfl, hb⟩; have Hw1 := hide hb; have HT := hide (show Tr [(w.heap.size, [.int .i64 f, .int .i64 t]), (w.heap.size + 1, [.int .i64 f2, .int .i64 t2])] w w1 from Tr.ext ⟨by (first | (simp [Bx, CellsAt, go_sem, *]; done) | (simp [Bx, CellsAt, go_sem, *]; omega)), by (repeat (first | exact kE | exact Ext.refl _ | apply Ext.alloc | apply Ext.drewN | apply Ext.drew | apply Ext.set0 | apply Ext.set1 | apply Ext.set2 | apply Ext.set3 | (refine Ext.setk ?_ (by omega) _) | (apply Ext.snoc; assumption)))⟩ hb); clear hb; have kT := HT.out; simp only [Tr, Bx, CellsAt, Nat.reduceAdd, Nat.zero_add, and_true] at kT; obtain ⟨⟨⟨kz0, kf0, kc0_0, kc0_1⟩, ⟨kz1, kf1, kc1_0, kc1_1⟩⟩, kE⟩ := kT
  by_cases h : leadOk N (f, t) = true
  · rw [h]
    have HK1 := hide h
    clear h
    go_wp2_with fail
    refine (LeadOk_any N A c (f2, t2) _ hl (HR.out.ext kE)).mono ?_; rintro e w2 ⟨rfl, hb⟩; have HT := hide (HT.out.ext hb); have Hw2 := hide hb; clear hb; clear kz0 kf0 kc0_0 kc0_1 kz1 kf1 kc1_0 kc1_1 kE; have kT := HT.out; simp only [Tr, Bx, CellsAt, Nat.reduceAdd, Nat.zero_add, and_true] at kT; obtain ⟨⟨⟨kz0, kf0, kc0_0, kc0_1⟩, ⟨kz1, kf1, kc1_0, kc1_1⟩⟩, kE⟩ := kT
    by_cases h2 : leadOk N (f2, t2) = true
    · rw [h2]
      have HK2 := hide h2
      clear h2
      have hk := leadOk_iff.1 HK1.out
      have hk2 := leadOk_iff.1 HK2.out
      dsimp only at hk hk2
      obtain ⟨i, rfl⟩ := Int.eq_ofNat_of_zero_le hk.1.1
      obtain ⟨j, rfl⟩ := Int.eq_ofNat_of_zero_le (show 0 ≤ t by omega)
      obtain ⟨i2, rfl⟩ := Int.eq_ofNat_of_zero_le hk2.1.1
      obtain ⟨j2, rfl⟩ := Int.eq_ofNat_of_zero_le (show 0 ≤ t2 by omega)
      
      have hi : i < N.length := by omega
      have hj : j < N.length := by omega
      have hi2 : i2 < N.length := by omega
      have hj2 : j2 < N.length := by omega
      have HO : Hid (crossB N ((i : Int), (j : Int)) ((i2 : Int), (j2 : Int)) = crossN N[i] N[j] N[i2] N[j2]) := hide (by rw [crossB, HK1.out, HK2.out, at2_eq hi, at2_eq hj, at2_eq hi2, at2_eq hj2]; rfl)
      have HG : Hid ((nodeOk N[i] = true ∧ nodeOk N[j] = true ∧ N[i] ≠ N[j]) ∧ nodeOk N[i2] = true ∧ nodeOk N[j2] = true ∧ N[i2] ≠ N[j2]) := hide (by
        rw [at2_eq hi, at2_eq hj] at hk
        rw [at2_eq hi2, at2_eq hj2] at hk2
        exact ⟨hk.2, hk2.2⟩)
      obtain ⟨b, off, rfl, hb, c0, c1⟩ := R2.at_ (HR.out.ext kE) hi
      obtain ⟨b', off', hA', _, d0, d1⟩ := R2.at_ (HR.out.ext kE) hj
      injection hA' with hA'
      injection hA' with hA1 hA2 _
      subst hA1 hA2
      obtain ⟨b', off', hA', _, c2, c3⟩ := R2.at_ (HR.out.ext kE) hi2
      injection hA' with hA'
      injection hA' with hA1 hA2 _
      subst hA1 hA2
      obtain ⟨b', off', hA', _, d2, d3⟩ := R2.at_ (HR.out.ext kE) hj2
      injection hA' with hA'
      injection hA' with hA1 hA2 _
      subst hA1 hA2
      obtain ⟨⟨a1, a2⟩, na⟩ : ∃ q : P2, N[i] = q := ⟨_, rfl⟩
      obtain ⟨⟨b1, b2⟩, nb⟩ : ∃ q : P2, N[j] = q := ⟨_, rfl⟩
      obtain ⟨⟨u1, u2⟩, nu⟩ : ∃ q : P2, N[i2] = q := ⟨_, rfl⟩
      obtain ⟨⟨v1, v2⟩, nv⟩ : ∃ q : P2, N[j2] = q := ⟨_, rfl⟩
      have ho := HO.out
      have hg := HG.out
      rw [na, nb, nu, nv] at ho hg
      rw [na] at c0 c1
      rw [nb] at d0 d1
      rw [nu] at c2 c3
      rw [nv] at d2 d3
      dsimp only at c0 c1 d0 d1 c2 c3 d2 d3
      have HO := hide ho
      have HG := hide hg
      clear ho hg na nb nu nv
      have z1 : (i : Int) < (N.length : Int) := by omega
      have z2 : (j : Int) < (N.length : Int) := by omega
      have z3 : (0 : Int) ≤ (i : Int) := by omega
      have z4 : (0 : Int) ≤ (j : Int) := by omega
      have z5 : (i2 : Int) < (N.length : Int) := by omega
      have z6 : (j2 : Int) < (N.length : Int) := by omega
      have z7 : (0 : Int) ≤ (i2 : Int) := by omega
      have z8 : (0 : Int) ≤ (j2 : Int) := by omega
      clear hk hk2
      go_wp2_with fail
      go_cut [7, 8] from 7 (fun x y wx => ∃ p q : Nat, x = .pointer (some ⟨p, 0, none⟩) ∧ y = .pointer (some ⟨q, 0, none⟩) ∧ Tr [(p, [.int .i64 a1, .int .i64 a2]), (q, [.int .i64 b1, .int .i64 b2])] w2 wx)
      case first => (clear HT HO HG; go_region; all_goals (go_wp2_with fail; go_meet; refine ⟨_, _, rfl, rfl, ?_⟩; exact ⟨by simp [Bx, CellsAt, go_sem, *], by (try clear kE); repeat (first | exact kE | exact Ext.refl _ | apply Ext.alloc | apply Ext.drewN | apply Ext.drew | apply Ext.set0 | apply Ext.set1 | apply Ext.set2 | apply Ext.set3 | (refine Ext.setk ?_ (by omega) _) | (apply Ext.snoc; assumption))⟩))
      obtain ⟨p, q, rfl, rfl, hT⟩ := hcut; rename World => w3; have Hw3 := hide hT.2; have HT := hide (show Tr [(p, [.int .i64 a1, .int .i64 a2]), (q, [.int .i64 b1, .int .i64 b2]), (w.heap.size, [.int .i64 (i : Int), .int .i64 (j : Int)]), (w.heap.size + 1, [.int .i64 (i2 : Int), .int .i64 (j2 : Int)])] w w3 from HT.out.mores hT.2 _ hT.1); clear hT kz0 kf0 kc0_0 kc0_1 kz1 kf1 kc1_0 kc1_1 kE; have kT := HT.out; simp only [Tr, Bx, CellsAt, Nat.reduceAdd, Nat.zero_add, and_true] at kT; obtain ⟨⟨⟨kz0, kf0, kc0_0, kc0_1⟩, ⟨kz1, kf1, kc1_0, kc1_1⟩, ⟨kz2, kf2, kc2_0, kc2_1⟩, ⟨kz3, kf3, kc3_0, kc3_1⟩⟩, kE⟩ := kT
      have c2 := (Hw3.out.facts.1 _ _ hb).trans c2
      have c3 := (Hw3.out.facts.1 _ _ hb).trans c3
      have d2 := (Hw3.out.facts.1 _ _ hb).trans d2
      have d3 := (Hw3.out.facts.1 _ _ hb).trans d3
      have hb := Hw3.out.facts.2.2 _ hb
      clear c0 c1 d0 d1
      go_wp2_with fail
      go_cut [9, 10] from 9 (fun x y wx => ∃ p q : Nat, x = .pointer (some ⟨p, 0, none⟩) ∧ y = .pointer (some ⟨q, 0, none⟩) ∧ Tr [(p, [.int .i64 u1, .int .i64 u2]), (q, [.int .i64 v1, .int .i64 v2])] w3 wx)
      case first => (clear HT HO HG; go_region; all_goals (go_wp2_with fail; go_meet; refine ⟨_, _, rfl, rfl, ?_⟩; exact ⟨by simp [Bx, CellsAt, go_sem, *], by (try clear kE); repeat (first | exact kE | exact Ext.refl _ | apply Ext.alloc | apply Ext.drewN | apply Ext.drew | apply Ext.set0 | apply Ext.set1 | apply Ext.set2 | apply Ext.set3 | (refine Ext.setk ?_ (by omega) _) | (apply Ext.snoc; assumption))⟩))
      obtain ⟨r, s, rfl, rfl, hT⟩ := hcut; rename World => w4; have Hw4 := hide hT.2; have HT := hide (show Tr [(r, [.int .i64 u1, .int .i64 u2]), (s, [.int .i64 v1, .int .i64 v2]), (p, [.int .i64 a1, .int .i64 a2]), (q, [.int .i64 b1, .int .i64 b2]), (w.heap.size, [.int .i64 (i : Int), .int .i64 (j : Int)]), (w.heap.size + 1, [.int .i64 (i2 : Int), .int .i64 (j2 : Int)])] w w4 from HT.out.mores hT.2 _ hT.1); clear hT kz0 kf0 kc0_0 kc0_1 kz1 kf1 kc1_0 kc1_1 kz2 kf2 kc2_0 kc2_1 kz3 kf3 kc3_0 kc3_1 kE; have kT := HT.out; simp only [Tr, Bx, CellsAt, Nat.reduceAdd, Nat.zero_add, and_true] at kT; obtain ⟨⟨⟨kz0, kf0, kc0_0, kc0_1⟩, ⟨kz1, kf1, kc1_0, kc1_1⟩, ⟨kz2, kf2, kc2_0, kc2_1⟩, ⟨kz3, kf3, kc3_0, kc3_1⟩, ⟨kz4, kf4, kc4_0, kc4_1⟩, ⟨kz5, kf5, kc5_0, kc5_1⟩⟩, kE⟩ := kT
      clear c2 c3 d2 d3 hb HR
      go_upto_region 5 with fail
      go_cut [58] from 41 (fun x wx => x = .bool ((decide ((a1, a2) = (u1, u2)) && decide ((b1, b2) = (v1, v2))) || (decide ((a1, a2) = (v1, v2)) && decide ((b1, b2) = (u1, u2)))) ∧ wx = w4)
      case first =>
        clear HO HG HT
        go_wp2_with fail
        all_goals (go_meet; exact ⟨congrArg Value.bool (by first | (simp [*]; done) | (simp [*]; omega)), rfl⟩)
      obtain ⟨rfl, rfl⟩ := hcut
      by_cases hq : ((decide ((a1, a2) = (u1, u2)) && decide ((b1, b2) = (v1, v2))) || (decide ((a1, a2) = (v1, v2)) && decide ((b1, b2) = (u1, u2)))) = true
      · rw [hq]
        have HQ := hide hq
        clear hq
        go_wp2_with fail
        go_ret
        exact ⟨ret_bool (by rw [HO.out, crossN, HQ.out]; simp), HT.out.2⟩
      · rw [Bool.not_eq_true] at hq
        rw [hq]
        have HQ := hide hq
        clear hq
        go_wp2_with fail
        refine (IsBetween_any (a1, a2) (b1, b2) (u1, u2) _).mono ?_; rintro e w5 ⟨rfl, hb⟩; have HT := hide (HT.out.ext hb); have Hw5 := hide hb; clear hb; clear kz0 kf0 kc0_0 kc0_1 kz1 kf1 kc1_0 kc1_1 kz2 kf2 kc2_0 kc2_1 kz3 kf3 kc3_0 kc3_1 kz4 kf4 kc4_0 kc4_1 kz5 kf5 kc5_0 kc5_1 kE; have kT := HT.out; simp only [Tr, Bx, CellsAt, Nat.reduceAdd, Nat.zero_add, and_true] at kT; obtain ⟨⟨⟨kz0, kf0, kc0_0, kc0_1⟩, ⟨kz1, kf1, kc1_0, kc1_1⟩, ⟨kz2, kf2, kc2_0, kc2_1⟩, ⟨kz3, kf3, kc3_0, kc3_1⟩, ⟨kz4, kf4, kc4_0, kc4_1⟩, ⟨kz5, kf5, kc5_0, kc5_1⟩⟩, kE⟩ := kT
        by_cases x0 : betw (a1, a2) (b1, b2) (u1, u2) = true
        · rw [x0]
          have X0 := hide x0
          clear x0
          go_wp2_with fail
          go_ret
          exact ⟨ret_bool (by rw [HO.out, crossN, X0.out]; simp), HT.out.2⟩
        · rw [Bool.not_eq_true] at x0
          rw [x0]
          have X0 := hide x0
          clear x0
          go_wp2_with fail
          refine (IsBetween_any (a1, a2) (b1, b2) (v1, v2) _).mono ?_; rintro e w6 ⟨rfl, hb⟩; have HT := hide (HT.out.ext hb); have Hw6 := hide hb; clear hb; clear kz0 kf0 kc0_0 kc0_1 kz1 kf1 kc1_0 kc1_1 kz2 kf2 kc2_0 kc2_1 kz3 kf3 kc3_0 kc3_1 kz4 kf4 kc4_0 kc4_1 kz5 kf5 kc5_0 kc5_1 kE; have kT := HT.out; simp only [Tr, Bx, CellsAt, Nat.reduceAdd, Nat.zero_add, and_true] at kT; obtain ⟨⟨⟨kz0, kf0, kc0_0, kc0_1⟩, ⟨kz1, kf1, kc1_0, kc1_1⟩, ⟨kz2, kf2, kc2_0, kc2_1⟩, ⟨kz3, kf3, kc3_0, kc3_1⟩, ⟨kz4, kf4, kc4_0, kc4_1⟩, ⟨kz5, kf5, kc5_0, kc5_1⟩⟩, kE⟩ := kT
          by_cases x1 : betw (a1, a2) (b1, b2) (v1, v2) = true
          · rw [x1]
            have X1 := hide x1
            clear x1
            go_wp2_with fail
            go_ret
            exact ⟨ret_bool (by rw [HO.out, crossN, X1.out]; simp), HT.out.2⟩
          · rw [Bool.not_eq_true] at x1
            rw [x1]
            have X1 := hide x1
            clear x1
            go_wp2_with fail
            refine (IsBetween_any (u1, u2) (v1, v2) (a1, a2) _).mono ?_; rintro e w7 ⟨rfl, hb⟩; have HT := hide (HT.out.ext hb); have Hw7 := hide hb; clear hb; clear kz0 kf0 kc0_0 kc0_1 kz1 kf1 kc1_0 kc1_1 kz2 kf2 kc2_0 kc2_1 kz3 kf3 kc3_0 kc3_1 kz4 kf4 kc4_0 kc4_1 kz5 kf5 kc5_0 kc5_1 kE; have kT := HT.out; simp only [Tr, Bx, CellsAt, Nat.reduceAdd, Nat.zero_add, and_true] at kT; obtain ⟨⟨⟨kz0, kf0, kc0_0, kc0_1⟩, ⟨kz1, kf1, kc1_0, kc1_1⟩, ⟨kz2, kf2, kc2_0, kc2_1⟩, ⟨kz3, kf3, kc3_0, kc3_1⟩, ⟨kz4, kf4, kc4_0, kc4_1⟩, ⟨kz5, kf5, kc5_0, kc5_1⟩⟩, kE⟩ := kT
            by_cases x2 : betw (u1, u2) (v1, v2) (a1, a2) = true
            · rw [x2]
              have X2 := hide x2
              clear x2
              go_wp2_with fail
              go_ret
              exact ⟨ret_bool (by rw [HO.out, crossN, X2.out]; simp), HT.out.2⟩
            · rw [Bool.not_eq_true] at x2
              rw [x2]
              have X2 := hide x2
              clear x2
              go_wp2_with fail
              refine (IsBetween_any (u1, u2) (v1, v2) (b1, b2) _).mono ?_; rintro e w8 ⟨rfl, hb⟩; have HT := hide (HT.out.ext hb); have Hw8 := hide hb; clear hb; clear kz0 kf0 kc0_0 kc0_1 kz1 kf1 kc1_0 kc1_1 kz2 kf2 kc2_0 kc2_1 kz3 kf3 kc3_0 kc3_1 kz4 kf4 kc4_0 kc4_1 kz5 kf5 kc5_0 kc5_1 kE; have kT := HT.out; simp only [Tr, Bx, CellsAt, Nat.reduceAdd, Nat.zero_add, and_true] at kT; obtain ⟨⟨⟨kz0, kf0, kc0_0, kc0_1⟩, ⟨kz1, kf1, kc1_0, kc1_1⟩, ⟨kz2, kf2, kc2_0, kc2_1⟩, ⟨kz3, kf3, kc3_0, kc3_1⟩, ⟨kz4, kf4, kc4_0, kc4_1⟩, ⟨kz5, kf5, kc5_0, kc5_1⟩⟩, kE⟩ := kT
              by_cases x3 : betw (u1, u2) (v1, v2) (b1, b2) = true
              · rw [x3]
                have X3 := hide x3
                clear x3
                go_wp2_with fail
                go_ret
                exact ⟨ret_bool (by rw [HO.out, crossN, X3.out]; simp), HT.out.2⟩
              · rw [Bool.not_eq_true] at x3
                rw [x3]
                have X3 := hide x3
                clear x3
                go_wp2_with fail
                have n1 := HG.out.1.1
                have n2 := HG.out.1.2.1
                have n3 := HG.out.2.1
                have n4 := HG.out.2.2.1
                obtain ⟨t1, ht1⟩ : ∃ q, turnN (a1, a2) (b1, b2) (u1, u2) = q := ⟨_, rfl⟩
                obtain ⟨t2, ht2⟩ : ∃ q, turnN (a1, a2) (b1, b2) (v1, v2) = q := ⟨_, rfl⟩
                obtain ⟨t3, ht3⟩ : ∃ q, turnN (u1, u2) (v1, v2) (a1, a2) = q := ⟨_, rfl⟩
                obtain ⟨t4, ht4⟩ : ∃ q, turnN (u1, u2) (v1, v2) (b1, b2) = q := ⟨_, rfl⟩
                have r1 := turn_in n1 n2 n3
                have r2 := turn_in n1 n2 n4
                have r3 := turn_in n3 n4 n1
                have r4 := turn_in n3 n4 n2
                rw [ht1] at r1
                rw [ht2] at r2
                rw [ht3] at r3
                rw [ht4] at r4
                have m1 := mul_in (m := 800) (n := 800) (by decide) (by decide) r1 r2
                have m2 := mul_in (m := 800) (n := 800) (by decide) (by decide) r3 r4
                obtain ⟨p1, hp1⟩ : ∃ q, t1 * t2 = q := ⟨_, rfl⟩
                obtain ⟨p2, hp2⟩ : ∃ q, t3 * t4 = q := ⟨_, rfl⟩
                rw [hp1] at m1
                rw [hp2] at m2
                have q1 : IntKind.i64.wrap (t1 * t2) = p1 := by rw [hp1]; exact IntWalk.i64_in _ (by omega)
                have q2 : IntKind.i64.wrap (t3 * t4) = p2 := by rw [hp2]; exact IntWalk.i64_in _ (by omega)
                have HF1 : Hid (turnF (a1, a2) (b1, b2) (u1, u2) = t1) := hide (by rw [turnF, n1, n2, n3, ← ht1]; rfl)
                have HF2 : Hid (turnF (a1, a2) (b1, b2) (v1, v2) = t2) := hide (by rw [turnF, n1, n2, n4, ← ht2]; rfl)
                have HF3 : Hid (turnF (u1, u2) (v1, v2) (a1, a2) = t3) := hide (by rw [turnF, n3, n4, n1, ← ht3]; rfl)
                have HF4 : Hid (turnF (u1, u2) (v1, v2) (b1, b2) = t4) := hide (by rw [turnF, n3, n4, n2, ← ht4]; rfl)
                have HC : Hid (crossB N ((i : Int), (j : Int)) ((i2 : Int), (j2 : Int)) = (decide (p1 < 0) && decide (p2 < 0))) := hide (by rw [HO.out, crossN, HQ.out, X0.out, X1.out, X2.out, X3.out, ht1, ht2, ht3, ht4, hp1, hp2]; simp)
                clear n1 n2 n3 n4 r1 r2 r3 r4 m1 m2 hp1 hp2 ht1 ht2 ht3 ht4 HQ X0 X1 X2 X3 HO HG
                by_cases g1 : p1 < 0
                · by_cases g2 : p2 < 0
                  · have d1 : decide (p1 < 0) = true := decide_eq_true g1
                    have d2 : decide (p2 < 0) = true := decide_eq_true g2
                    have kq0_0 := ExtBy.cell (W := w8) kz0 kc0_0; have kq0_1 := ExtBy.cell (W := w8) kz0 kc0_1; have kq1_0 := ExtBy.cell (W := w8) kz1 kc1_0; have kq1_1 := ExtBy.cell (W := w8) kz1 kc1_1; have kq2_0 := ExtBy.cell (W := w8) kz2 kc2_0; have kq2_1 := ExtBy.cell (W := w8) kz2 kc2_1; have kq3_0 := ExtBy.cell (W := w8) kz3 kc3_0; have kq3_1 := ExtBy.cell (W := w8) kz3 kc3_1; have kq4_0 := ExtBy.cell (W := w8) kz4 kc4_0; have kq4_1 := ExtBy.cell (W := w8) kz4 kc4_1; have kq5_0 := ExtBy.cell (W := w8) kz5 kc5_0; have kq5_1 := ExtBy.cell (W := w8) kz5 kc5_1; refine wp_region_quietE (by kernel_rfl) (by kernel_rfl) ?_; (repeat (refine WQ.step (fun K hK => ?_); have HK := hide hK; clear hK; go_simp; refine HK.out _ ?_; clear HK K)); (refine WQ.step (fun K hK => ?_); have HK := hide hK; clear hK; go_simp; apply Exists.intro; refine ⟨fun _ => ?_, HK.out _ ?_⟩; (go_at_call 140; refine extby_of (TurnOf_is (a1, a2) (b1, b2) (u1, u2) _ _ HF1.out)); clear HK K); (repeat (refine WQ.step (fun K hK => ?_); have HK := hide hK; clear hK; go_simp; refine HK.out _ ?_; clear HK K)); (refine WQ.step (fun K hK => ?_); have HK := hide hK; clear hK; go_simp; apply Exists.intro; refine ⟨fun _ => ?_, HK.out _ ?_⟩; (go_at_call 140; refine extby_of (TurnOf_is (a1, a2) (b1, b2) (v1, v2) _ _ HF2.out)); clear HK K); (repeat (refine WQ.step (fun K hK => ?_); have HK := hide hK; clear hK; go_simp; refine HK.out _ ?_; clear HK K)); (refine WQ.step (fun K hK => ?_); have HK := hide hK; clear hK; go_simp; apply Exists.intro; refine ⟨fun _ => ?_, HK.out _ ?_⟩; (go_at_call 140; refine extby_of (TurnOf_is (u1, u2) (v1, v2) (a1, a2) _ _ HF3.out)); clear HK K); (repeat (refine WQ.step (fun K hK => ?_); have HK := hide hK; clear hK; go_simp; refine HK.out _ ?_; clear HK K)); (refine WQ.step (fun K hK => ?_); have HK := hide hK; clear hK; go_simp; apply Exists.intro; refine ⟨fun _ => ?_, HK.out _ ?_⟩; (go_at_call 140; refine extby_of (TurnOf_is (u1, u2) (v1, v2) (b1, b2) _ _ HF4.out)); clear HK K); (repeat (refine WQ.step (fun K hK => ?_); have HK := hide hK; clear hK; go_simp; refine HK.out _ ?_; clear HK K)); refine WQ.done ?_; intro w9 hw'; obtain ⟨⟨_, hw9⟩, hw''⟩ := hw'; subst hw''; clear kq0_0 kq0_1 kq1_0 kq1_1 kq2_0 kq2_1 kq3_0 kq3_1 kq4_0 kq4_1 kq5_0 kq5_1; have HT := hide (HT.out.ext hw9); have Hw9 := hide hw9; clear hw9 kz0 kf0 kc0_0 kc0_1 kz1 kf1 kc1_0 kc1_1 kz2 kf2 kc2_0 kc2_1 kz3 kf3 kc3_0 kc3_1 kz4 kf4 kc4_0 kc4_1 kz5 kf5 kc5_0 kc5_1 kE; have kT := HT.out; simp only [Tr, Bx, CellsAt, Nat.reduceAdd, Nat.zero_add, and_true] at kT; obtain ⟨⟨⟨kz0, kf0, kc0_0, kc0_1⟩, ⟨kz1, kf1, kc1_0, kc1_1⟩, ⟨kz2, kf2, kc2_0, kc2_1⟩, ⟨kz3, kf3, kc3_0, kc3_1⟩, ⟨kz4, kf4, kc4_0, kc4_1⟩, ⟨kz5, kf5, kc5_0, kc5_1⟩⟩, kE⟩ := kT
                    go_wp2_with fail
                    go_ret
                    exact ⟨ret_bool (by rw [HC.out]; simp [*]), HT.out.2⟩
                  · have d1 : decide (p1 < 0) = true := decide_eq_true g1
                    have d2 : decide (p2 < 0) = false := decide_eq_false g2
                    clear g2
                    have kq0_0 := ExtBy.cell (W := w8) kz0 kc0_0; have kq0_1 := ExtBy.cell (W := w8) kz0 kc0_1; have kq1_0 := ExtBy.cell (W := w8) kz1 kc1_0; have kq1_1 := ExtBy.cell (W := w8) kz1 kc1_1; have kq2_0 := ExtBy.cell (W := w8) kz2 kc2_0; have kq2_1 := ExtBy.cell (W := w8) kz2 kc2_1; have kq3_0 := ExtBy.cell (W := w8) kz3 kc3_0; have kq3_1 := ExtBy.cell (W := w8) kz3 kc3_1; have kq4_0 := ExtBy.cell (W := w8) kz4 kc4_0; have kq4_1 := ExtBy.cell (W := w8) kz4 kc4_1; have kq5_0 := ExtBy.cell (W := w8) kz5 kc5_0; have kq5_1 := ExtBy.cell (W := w8) kz5 kc5_1; refine wp_region_quietE (by kernel_rfl) (by kernel_rfl) ?_; (repeat (refine WQ.step (fun K hK => ?_); have HK := hide hK; clear hK; go_simp; refine HK.out _ ?_; clear HK K)); (refine WQ.step (fun K hK => ?_); have HK := hide hK; clear hK; go_simp; apply Exists.intro; refine ⟨fun _ => ?_, HK.out _ ?_⟩; (go_at_call 140; refine extby_of (TurnOf_is (a1, a2) (b1, b2) (u1, u2) _ _ HF1.out)); clear HK K); (repeat (refine WQ.step (fun K hK => ?_); have HK := hide hK; clear hK; go_simp; refine HK.out _ ?_; clear HK K)); (refine WQ.step (fun K hK => ?_); have HK := hide hK; clear hK; go_simp; apply Exists.intro; refine ⟨fun _ => ?_, HK.out _ ?_⟩; (go_at_call 140; refine extby_of (TurnOf_is (a1, a2) (b1, b2) (v1, v2) _ _ HF2.out)); clear HK K); (repeat (refine WQ.step (fun K hK => ?_); have HK := hide hK; clear hK; go_simp; refine HK.out _ ?_; clear HK K)); (refine WQ.step (fun K hK => ?_); have HK := hide hK; clear hK; go_simp; apply Exists.intro; refine ⟨fun _ => ?_, HK.out _ ?_⟩; (go_at_call 140; refine extby_of (TurnOf_is (u1, u2) (v1, v2) (a1, a2) _ _ HF3.out)); clear HK K); (repeat (refine WQ.step (fun K hK => ?_); have HK := hide hK; clear hK; go_simp; refine HK.out _ ?_; clear HK K)); (refine WQ.step (fun K hK => ?_); have HK := hide hK; clear hK; go_simp; apply Exists.intro; refine ⟨fun _ => ?_, HK.out _ ?_⟩; (go_at_call 140; refine extby_of (TurnOf_is (u1, u2) (v1, v2) (b1, b2) _ _ HF4.out)); clear HK K); (repeat (refine WQ.step (fun K hK => ?_); have HK := hide hK; clear hK; go_simp; refine HK.out _ ?_; clear HK K)); refine WQ.done ?_; intro w9 hw'; obtain ⟨⟨_, hw9⟩, hw''⟩ := hw'; subst hw''; clear kq0_0 kq0_1 kq1_0 kq1_1 kq2_0 kq2_1 kq3_0 kq3_1 kq4_0 kq4_1 kq5_0 kq5_1; have HT := hide (HT.out.ext hw9); have Hw9 := hide hw9; clear hw9 kz0 kf0 kc0_0 kc0_1 kz1 kf1 kc1_0 kc1_1 kz2 kf2 kc2_0 kc2_1 kz3 kf3 kc3_0 kc3_1 kz4 kf4 kc4_0 kc4_1 kz5 kf5 kc5_0 kc5_1 kE; have kT := HT.out; simp only [Tr, Bx, CellsAt, Nat.reduceAdd, Nat.zero_add, and_true] at kT; obtain ⟨⟨⟨kz0, kf0, kc0_0, kc0_1⟩, ⟨kz1, kf1, kc1_0, kc1_1⟩, ⟨kz2, kf2, kc2_0, kc2_1⟩, ⟨kz3, kf3, kc3_0, kc3_1⟩, ⟨kz4, kf4, kc4_0, kc4_1⟩, ⟨kz5, kf5, kc5_0, kc5_1⟩⟩, kE⟩ := kT
                    go_wp2_with fail
                    go_ret
                    exact ⟨ret_bool (by rw [HC.out]; simp [*]), HT.out.2⟩
                · have d1 : decide (p1 < 0) = false := decide_eq_false g1
                  clear g1
                  have kq0_0 := ExtBy.cell (W := w8) kz0 kc0_0; have kq0_1 := ExtBy.cell (W := w8) kz0 kc0_1; have kq1_0 := ExtBy.cell (W := w8) kz1 kc1_0; have kq1_1 := ExtBy.cell (W := w8) kz1 kc1_1; have kq2_0 := ExtBy.cell (W := w8) kz2 kc2_0; have kq2_1 := ExtBy.cell (W := w8) kz2 kc2_1; have kq3_0 := ExtBy.cell (W := w8) kz3 kc3_0; have kq3_1 := ExtBy.cell (W := w8) kz3 kc3_1; have kq4_0 := ExtBy.cell (W := w8) kz4 kc4_0; have kq4_1 := ExtBy.cell (W := w8) kz4 kc4_1; have kq5_0 := ExtBy.cell (W := w8) kz5 kc5_0; have kq5_1 := ExtBy.cell (W := w8) kz5 kc5_1; refine wp_region_quietE (by kernel_rfl) (by kernel_rfl) ?_; (repeat (refine WQ.step (fun K hK => ?_); have HK := hide hK; clear hK; go_simp; refine HK.out _ ?_; clear HK K)); (refine WQ.step (fun K hK => ?_); have HK := hide hK; clear hK; go_simp; apply Exists.intro; refine ⟨fun _ => ?_, HK.out _ ?_⟩; (go_at_call 140; refine extby_of (TurnOf_is (a1, a2) (b1, b2) (u1, u2) _ _ HF1.out)); clear HK K); (repeat (refine WQ.step (fun K hK => ?_); have HK := hide hK; clear hK; go_simp; refine HK.out _ ?_; clear HK K)); (refine WQ.step (fun K hK => ?_); have HK := hide hK; clear hK; go_simp; apply Exists.intro; refine ⟨fun _ => ?_, HK.out _ ?_⟩; (go_at_call 140; refine extby_of (TurnOf_is (a1, a2) (b1, b2) (v1, v2) _ _ HF2.out)); clear HK K); (repeat (refine WQ.step (fun K hK => ?_); have HK := hide hK; clear hK; go_simp; refine HK.out _ ?_; clear HK K)); refine WQ.done ?_; intro w9 hw'; obtain ⟨⟨_, hw9⟩, hw''⟩ := hw'; subst hw''; clear kq0_0 kq0_1 kq1_0 kq1_1 kq2_0 kq2_1 kq3_0 kq3_1 kq4_0 kq4_1 kq5_0 kq5_1; have HT := hide (HT.out.ext hw9); have Hw9 := hide hw9; clear hw9 kz0 kf0 kc0_0 kc0_1 kz1 kf1 kc1_0 kc1_1 kz2 kf2 kc2_0 kc2_1 kz3 kf3 kc3_0 kc3_1 kz4 kf4 kc4_0 kc4_1 kz5 kf5 kc5_0 kc5_1 kE; have kT := HT.out; simp only [Tr, Bx, CellsAt, Nat.reduceAdd, Nat.zero_add, and_true] at kT; obtain ⟨⟨⟨kz0, kf0, kc0_0, kc0_1⟩, ⟨kz1, kf1, kc1_0, kc1_1⟩, ⟨kz2, kf2, kc2_0, kc2_1⟩, ⟨kz3, kf3, kc3_0, kc3_1⟩, ⟨kz4, kf4, kc4_0, kc4_1⟩, ⟨kz5, kf5, kc5_0, kc5_1⟩⟩, kE⟩ := kT
                  go_wp2_with fail
                  go_ret
                  exact ⟨ret_bool (by rw [HC.out]; simp [*]), HT.out.2⟩
    · rw [Bool.not_eq_true] at h2
      rw [h2]
      have H := hide h2
      clear h2
      go_wp2_with fail
      go_ret
      exact ⟨ret_bool (by rw [crossB, H.out]; simp), HT.out.2⟩
  · rw [Bool.not_eq_true] at h
    rw [h]
    have H := hide h
    clear h
    go_wp2_with fail
    go_ret
    exact ⟨ret_bool (by rw [crossB, H.out]; simp), HT.out.2⟩
end Go.Proofs.YtabgcpoaepafjaaGreat
