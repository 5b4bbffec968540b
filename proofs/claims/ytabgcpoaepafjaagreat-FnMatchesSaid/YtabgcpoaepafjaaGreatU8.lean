/- Words and walks for the law FnMatches, a part of them. No condition but that the arguments lie in memory. -/
import Derived.Test.YtabgcpoaepafjaaGreatU2
import Derived.Test.YtabgcpoaepafjaaGreatU4
import Derived.Test.YtabgcpoaepafjaaGreatU5
import Derived.BigQuiet
import Derived.BigRegion
import Derived.Deep.DeepCutAuto
set_option linter.unusedVariables false
set_option linter.unusedSimpArgs false
namespace Go.Proofs.YtabgcpoaepafjaaGreat
open Go.RowKit
theorem sNodeOk_is (a : P2) (v : Bool) (w : World) (h : nodeOk a = v) : Calls Tryz.prog 87 #[.agg #[.int .i64 a.1, .int .i64 a.2]] w fun e w' => e = .returned (.bool v) ∧ Ext w w' := by
  rw [← h]
  exact sNodeOk_any a w
set_option maxRecDepth 20000 in
set_option maxHeartbeats 16000000 in
theorem sLeadOk_any (N : List P2) (A : Option Addr) (c : Nat) (e : P2) (w : World) (hl : N.length ≤ 1048576) (hr : R2 w A N) :
    Calls Tryz.prog 88 #[.slice A N.length c, .agg #[.int .i64 e.1, .int .i64 e.2]] w fun x w' => x = .returned (.bool (leadOk N e)) ∧ Ext w w' := by
  obtain ⟨f, t⟩ := e
  dsimp only
  by_cases hk : 0 ≤ f ∧ f < t ∧ t < N.length
  · obtain ⟨h0, h1, h2⟩ := hk
    obtain ⟨i, rfl⟩ := Int.eq_ofNat_of_zero_le h0
    obtain ⟨j, rfl⟩ := Int.eq_ofNat_of_zero_le (show 0 ≤ t by omega)
    have hi : i < N.length := by omega
    have hj : j < N.length := by omega
    obtain ⟨b, off, hA, hb, c0, c1⟩ := R2.at_ hr hi
    obtain ⟨b', off', hA', _, d0, d1⟩ := R2.at_ hr hj
    subst hA
    injection hA' with hA'
    injection hA' with hA1 hA2 _
    subst hA1 hA2
    have HK : Hid (leadOk N ((i : Int), (j : Int)) = (nodeOk N[i] && nodeOk N[j] && !decide (N[i] = N[j]))) := hide (by
      have e1 : decide ((0 : Int) ≤ (i : Int)) = true := decide_eq_true (by omega)
      have e2 : decide ((i : Int) < (j : Int)) = true := decide_eq_true h1
      have e3 : decide ((j : Int) < (N.length : Int)) = true := decide_eq_true h2
      simp only [leadOk, at2_eq hi, at2_eq hj, e1, e2, e3, Bool.true_and])
    obtain ⟨⟨a1, a2⟩, ha⟩ : ∃ q : P2, N[i] = q := ⟨_, rfl⟩
    obtain ⟨⟨b1, b2⟩, hb'⟩ : ∃ q : P2, N[j] = q := ⟨_, rfl⟩
    rw [ha] at c0 c1
    rw [hb'] at d0 d1
    dsimp only at c0 c1 d0 d1
    have hk2 := HK.out
    rw [ha, hb'] at hk2
    have HK := hide hk2
    clear hk2 ha hb'
    have hi' : (i : Int) < (N.length : Int) := by omega
    have hj' : (j : Int) < (N.length : Int) := by omega
    have hi0 : (0 : Int) ≤ (i : Int) := by omega
    have hj0 : (0 : Int) ≤ (j : Int) := by omega
    clear hr
    have y1 : inR (i : Int) 0 ((N.length : Int) - 1) = true := by simp [inR]; omega
    have y2 : inR (j : Int) 0 ((N.length : Int) - 1) = true := by simp [inR]; omega
    
    go_enter Tryz.func88, Tryz.ntmps88
    go_wp2_with (first | (go_at_call 65; refine (l01In_any _ _ _ _).mono ?_; rintro e w' ⟨rfl, rfl⟩))
    obtain ⟨w0, hw⟩ : ∃ w1, w1 = w.alloc (Obj.cells #[Value.int IntKind.i64 (i : Int), Value.int IntKind.i64 (j : Int)] 110) := ⟨_, rfl⟩; rw [← hw]; have kT : Tr [(w.heap.size, [.int .i64 (i : Int), .int .i64 (j : Int)])] w w0 := (by rw [hw]; exact ⟨by (first | (simp [Bx, CellsAt, go_sem, *]; done) | (simp [Bx, CellsAt, go_sem, *]; omega)), by (repeat (first | exact kE | exact Ext.refl _ | apply Ext.alloc | apply Ext.drewN | apply Ext.drew | apply Ext.set0 | apply Ext.set1 | apply Ext.set2 | apply Ext.set3 | (refine Ext.setk ?_ (by omega) _) | (apply Ext.snoc; assumption)))⟩); have HT := hide kT; clear hw kT; have kT := HT.out; simp only [Tr, Bx, CellsAt, Nat.reduceAdd, Nat.zero_add, and_true] at kT; obtain ⟨⟨kz0, kf0, kc0_0, kc0_1⟩, kE⟩ := kT
    have c0 := (kE.facts.1 b _ hb).trans c0
    have c1 := (kE.facts.1 b _ hb).trans c1
    have d0 := (kE.facts.1 b _ hb).trans d0
    have d1 := (kE.facts.1 b _ hb).trans d1
    have hb := kE.facts.2.2 b hb
    have qc0 := ExtBy.cell (W := w0) hb c0
    have qc1 := ExtBy.cell (W := w0) hb c1
    have qd0 := ExtBy.cell (W := w0) hb d0
    have qd1 := ExtBy.cell (W := w0) hb d1
    clear c0 c1 d0 d1
    by_cases m1 : nodeOk (a1, a2) = true
    · by_cases m2 : nodeOk (b1, b2) = true
      · skip
        by_cases q1 : a1 = b1
        · subst q1
          by_cases q2 : a2 = b2
          · subst q2
            have M1 := hide m1
            have M2 := hide m2
            clear m1 m2
            have kq0_0 := ExtBy.cell (W := w0) kz0 kc0_0; have kq0_1 := ExtBy.cell (W := w0) kz0 kc0_1; refine wp_region_quietE (by kernel_rfl) (by kernel_rfl) ?_; (repeat (refine WQ.step (fun K hK => ?_); have HK := hide hK; clear hK; go_simp; refine HK.out _ ?_; clear HK K)); (refine WQ.step (fun K hK => ?_); have HK := hide hK; clear hK; go_simp; apply Exists.intro; refine ⟨fun _ => ?_, HK.out _ ?_⟩; (go_at_call 87; refine extby_of (sNodeOk_is (a1, a2) _ _ M1.out)); clear HK K); (repeat (refine WQ.step (fun K hK => ?_); have HK := hide hK; clear hK; go_simp; refine HK.out _ ?_; clear HK K)); (refine WQ.step (fun K hK => ?_); have HK := hide hK; clear hK; go_simp; apply Exists.intro; refine ⟨fun _ => ?_, HK.out _ ?_⟩; (go_at_call 87; refine extby_of (sNodeOk_is (a1, a2) _ _ M2.out)); clear HK K); (repeat (refine WQ.step (fun K hK => ?_); have HK := hide hK; clear hK; go_simp; refine HK.out _ ?_; clear HK K)); refine WQ.done ?_; intro w5 hw'; obtain ⟨⟨_, hw5⟩, hw''⟩ := hw'; subst hw''; clear kq0_0 kq0_1; have HT := hide (HT.out.ext hw5); have Hw5 := hide hw5; clear hw5 kz0 kf0 kc0_0 kc0_1 kE; have kT := HT.out; simp only [Tr, Bx, CellsAt, Nat.reduceAdd, Nat.zero_add, and_true] at kT; obtain ⟨⟨kz0, kf0, kc0_0, kc0_1⟩, kE⟩ := kT
            go_wp2_with fail
            go_ret
            exact ⟨ret_bool (by rw [HK.out, M1.out]; simp), HT.out.2⟩
          · skip
            have M1 := hide m1
            have M2 := hide m2
            clear m1 m2
            have kq0_0 := ExtBy.cell (W := w0) kz0 kc0_0; have kq0_1 := ExtBy.cell (W := w0) kz0 kc0_1; refine wp_region_quietE (by kernel_rfl) (by kernel_rfl) ?_; (repeat (refine WQ.step (fun K hK => ?_); have HK := hide hK; clear hK; go_simp; refine HK.out _ ?_; clear HK K)); (refine WQ.step (fun K hK => ?_); have HK := hide hK; clear hK; go_simp; apply Exists.intro; refine ⟨fun _ => ?_, HK.out _ ?_⟩; (go_at_call 87; refine extby_of (sNodeOk_is (a1, a2) _ _ M1.out)); clear HK K); (repeat (refine WQ.step (fun K hK => ?_); have HK := hide hK; clear hK; go_simp; refine HK.out _ ?_; clear HK K)); (refine WQ.step (fun K hK => ?_); have HK := hide hK; clear hK; go_simp; apply Exists.intro; refine ⟨fun _ => ?_, HK.out _ ?_⟩; (go_at_call 87; refine extby_of (sNodeOk_is (a1, b2) _ _ M2.out)); clear HK K); (repeat (refine WQ.step (fun K hK => ?_); have HK := hide hK; clear hK; go_simp; refine HK.out _ ?_; clear HK K)); refine WQ.done ?_; intro w5 hw'; obtain ⟨⟨_, hw5⟩, hw''⟩ := hw'; subst hw''; clear kq0_0 kq0_1; have HT := hide (HT.out.ext hw5); have Hw5 := hide hw5; clear hw5 kz0 kf0 kc0_0 kc0_1 kE; have kT := HT.out; simp only [Tr, Bx, CellsAt, Nat.reduceAdd, Nat.zero_add, and_true] at kT; obtain ⟨⟨kz0, kf0, kc0_0, kc0_1⟩, kE⟩ := kT
            go_wp2_with fail
            go_ret
            exact ⟨ret_bool (by rw [HK.out, M1.out, M2.out]; simp [q2]), HT.out.2⟩
        · skip
          have M1 := hide m1
          have M2 := hide m2
          clear m1 m2
          have kq0_0 := ExtBy.cell (W := w0) kz0 kc0_0; have kq0_1 := ExtBy.cell (W := w0) kz0 kc0_1; refine wp_region_quietE (by kernel_rfl) (by kernel_rfl) ?_; (repeat (refine WQ.step (fun K hK => ?_); have HK := hide hK; clear hK; go_simp; refine HK.out _ ?_; clear HK K)); (refine WQ.step (fun K hK => ?_); have HK := hide hK; clear hK; go_simp; apply Exists.intro; refine ⟨fun _ => ?_, HK.out _ ?_⟩; (go_at_call 87; refine extby_of (sNodeOk_is (a1, a2) _ _ M1.out)); clear HK K); (repeat (refine WQ.step (fun K hK => ?_); have HK := hide hK; clear hK; go_simp; refine HK.out _ ?_; clear HK K)); (refine WQ.step (fun K hK => ?_); have HK := hide hK; clear hK; go_simp; apply Exists.intro; refine ⟨fun _ => ?_, HK.out _ ?_⟩; (go_at_call 87; refine extby_of (sNodeOk_is (b1, b2) _ _ M2.out)); clear HK K); (repeat (refine WQ.step (fun K hK => ?_); have HK := hide hK; clear hK; go_simp; refine HK.out _ ?_; clear HK K)); refine WQ.done ?_; intro w5 hw'; obtain ⟨⟨_, hw5⟩, hw''⟩ := hw'; subst hw''; clear kq0_0 kq0_1; have HT := hide (HT.out.ext hw5); have Hw5 := hide hw5; clear hw5 kz0 kf0 kc0_0 kc0_1 kE; have kT := HT.out; simp only [Tr, Bx, CellsAt, Nat.reduceAdd, Nat.zero_add, and_true] at kT; obtain ⟨⟨kz0, kf0, kc0_0, kc0_1⟩, kE⟩ := kT
          go_wp2_with fail
          go_ret
          exact ⟨ret_bool (by rw [HK.out, M1.out, M2.out]; simp [q1]), HT.out.2⟩
      · rw [Bool.not_eq_true] at m2
        have M1 := hide m1
        have M2 := hide m2
        clear m1 m2
        have kq0_0 := ExtBy.cell (W := w0) kz0 kc0_0; have kq0_1 := ExtBy.cell (W := w0) kz0 kc0_1; refine wp_region_quietE (by kernel_rfl) (by kernel_rfl) ?_; (repeat (refine WQ.step (fun K hK => ?_); have HK := hide hK; clear hK; go_simp; refine HK.out _ ?_; clear HK K)); (refine WQ.step (fun K hK => ?_); have HK := hide hK; clear hK; go_simp; apply Exists.intro; refine ⟨fun _ => ?_, HK.out _ ?_⟩; (go_at_call 87; refine extby_of (sNodeOk_is (a1, a2) _ _ M1.out)); clear HK K); (repeat (refine WQ.step (fun K hK => ?_); have HK := hide hK; clear hK; go_simp; refine HK.out _ ?_; clear HK K)); (refine WQ.step (fun K hK => ?_); have HK := hide hK; clear hK; go_simp; apply Exists.intro; refine ⟨fun _ => ?_, HK.out _ ?_⟩; (go_at_call 87; refine extby_of (sNodeOk_is (b1, b2) _ _ M2.out)); clear HK K); (repeat (refine WQ.step (fun K hK => ?_); have HK := hide hK; clear hK; go_simp; refine HK.out _ ?_; clear HK K)); refine WQ.done ?_; intro w5 hw'; obtain ⟨⟨_, hw5⟩, hw''⟩ := hw'; subst hw''; clear kq0_0 kq0_1; have HT := hide (HT.out.ext hw5); have Hw5 := hide hw5; clear hw5 kz0 kf0 kc0_0 kc0_1 kE; have kT := HT.out; simp only [Tr, Bx, CellsAt, Nat.reduceAdd, Nat.zero_add, and_true] at kT; obtain ⟨⟨kz0, kf0, kc0_0, kc0_1⟩, kE⟩ := kT
        go_wp2_with fail
        go_ret
        exact ⟨ret_bool (by rw [HK.out, M1.out, M2.out]; simp), HT.out.2⟩
    · rw [Bool.not_eq_true] at m1
      have M1 := hide m1
      clear m1
      have kq0_0 := ExtBy.cell (W := w0) kz0 kc0_0; have kq0_1 := ExtBy.cell (W := w0) kz0 kc0_1; refine wp_region_quietE (by kernel_rfl) (by kernel_rfl) ?_; (repeat (refine WQ.step (fun K hK => ?_); have HK := hide hK; clear hK; go_simp; refine HK.out _ ?_; clear HK K)); (refine WQ.step (fun K hK => ?_); have HK := hide hK; clear hK; go_simp; apply Exists.intro; refine ⟨fun _ => ?_, HK.out _ ?_⟩; (go_at_call 87; refine extby_of (sNodeOk_is (a1, a2) _ _ M1.out)); clear HK K); (repeat (refine WQ.step (fun K hK => ?_); have HK := hide hK; clear hK; go_simp; refine HK.out _ ?_; clear HK K)); refine WQ.done ?_; intro w5 hw'; obtain ⟨⟨_, hw5⟩, hw''⟩ := hw'; subst hw''; clear kq0_0 kq0_1; have HT := hide (HT.out.ext hw5); have Hw5 := hide hw5; clear hw5 kz0 kf0 kc0_0 kc0_1 kE; have kT := HT.out; simp only [Tr, Bx, CellsAt, Nat.reduceAdd, Nat.zero_add, and_true] at kT; obtain ⟨⟨kz0, kf0, kc0_0, kc0_1⟩, kE⟩ := kT
      go_wp2_with fail
      go_ret
      exact ⟨ret_bool (by rw [HK.out, M1.out]; simp), HT.out.2⟩
  · have HK : Hid (leadOk N (f, t) = false) := hide (by
      cases e : leadOk N (f, t)
      · rfl
      · exact absurd (leadOk_iff.1 e).1 hk)
    have HK2 := hide hk
    clear hk
    by_cases x1 : inR f 0 ((N.length : Int) - 1) = true
    · by_cases x2 : inR t 0 ((N.length : Int) - 1) = true
      · have b1 := inR_true x1
        have b2 := inR_true x2
        have b3 : t ≤ f := by have := HK2.out; omega
        go_enter Tryz.func88, Tryz.ntmps88
        go_wp2_with (first | (go_at_call 65; refine (l01In_any _ _ _ _).mono ?_; rintro e w' ⟨rfl, rfl⟩))
        go_ret
        exact ⟨ret_bool (by rw [HK.out]), by repeat (first | exact kE | exact Ext.refl _ | apply Ext.alloc | apply Ext.drewN | apply Ext.drew | apply Ext.set0 | apply Ext.set1 | apply Ext.set2 | apply Ext.set3 | (refine Ext.setk ?_ (by omega) _) | (apply Ext.snoc; assumption))⟩
      · rw [Bool.not_eq_true] at x2
        go_enter Tryz.func88, Tryz.ntmps88
        go_wp2_with (first | (go_at_call 65; refine (l01In_any _ _ _ _).mono ?_; rintro e w' ⟨rfl, rfl⟩))
        go_ret
        exact ⟨ret_bool (by rw [HK.out]), by repeat (first | exact kE | exact Ext.refl _ | apply Ext.alloc | apply Ext.drewN | apply Ext.drew | apply Ext.set0 | apply Ext.set1 | apply Ext.set2 | apply Ext.set3 | (refine Ext.setk ?_ (by omega) _) | (apply Ext.snoc; assumption))⟩
    · rw [Bool.not_eq_true] at x1
      go_enter Tryz.func88, Tryz.ntmps88
      go_wp2_with (first | (go_at_call 65; refine (l01In_any _ _ _ _).mono ?_; rintro e w' ⟨rfl, rfl⟩))
      go_ret
      exact ⟨ret_bool (by rw [HK.out]), by repeat (first | exact kE | exact Ext.refl _ | apply Ext.alloc | apply Ext.drewN | apply Ext.drew | apply Ext.set0 | apply Ext.set1 | apply Ext.set2 | apply Ext.set3 | (refine Ext.setk ?_ (by omega) _) | (apply Ext.snoc; assumption))⟩
end Go.Proofs.YtabgcpoaepafjaaGreat
namespace Go.Proofs.YtabgcpoaepafjaaGreat
open Go.RowKit
set_option maxHeartbeats 4000000 in
theorem sIsOnLead_any (N : List P2) (A : Option Addr) (c : Nat) (e n : P2) (w : World) (hl : N.length ≤ 1048576) (hr : R2 w A N) :
    Calls Tryz.prog 90 #[.slice A N.length c, .agg #[.int .i64 e.1, .int .i64 e.2], .agg #[.int .i64 n.1, .int .i64 n.2]] w fun x w' => x = .returned (.bool (onLead N e n)) ∧ Ext w w' := by
  have HR := hide hr
  clear hr
  obtain ⟨f, t⟩ := e
  obtain ⟨n1, n2⟩ := n
  dsimp only
  
  go_enter Tryz.func90, Tryz.ntmps90
  go_wp2_with fail
  refine (sLeadOk_any N A c (f, t) _ hl (HR.out.ext (by repeat (first | exact kE | exact Ext.refl _ | apply Ext.alloc | apply Ext.drewN | apply Ext.drew | apply Ext.set0 | apply Ext.set1 | apply Ext.set2 | apply Ext.set3 | (refine Ext.setk ?_ (by omega) _) | (apply Ext.snoc; assumption))))).mono ?_; rintro e w2 ⟨rfl, hb⟩; have Hw2 := hide hb; have HT := hide (show Tr [(w.heap.size, [.int .i64 f, .int .i64 t]), (w.heap.size + 1, [.int .i64 n1, .int .i64 n2])] w w2 from Tr.ext ⟨by (first | (simp [Bx, CellsAt, go_sem, *]; done) | (simp [Bx, CellsAt, go_sem, *]; omega)), by (repeat (first | exact kE | exact Ext.refl _ | apply Ext.alloc | apply Ext.drewN | apply Ext.drew | apply Ext.set0 | apply Ext.set1 | apply Ext.set2 | apply Ext.set3 | (refine Ext.setk ?_ (by omega) _) | (apply Ext.snoc; assumption)))⟩ hb); clear hb; have kT := HT.out; simp only [Tr, Bx, CellsAt, Nat.reduceAdd, Nat.zero_add, and_true] at kT; obtain ⟨⟨⟨kz0, kf0, kc0_0, kc0_1⟩, ⟨kz1, kf1, kc1_0, kc1_1⟩⟩, kE⟩ := kT
  by_cases h : leadOk N (f, t) = true
  · rw [h]
    have hk := leadOk_iff.1 h
    dsimp only at hk
    obtain ⟨i, rfl⟩ := Int.eq_ofNat_of_zero_le hk.1.1
    obtain ⟨j, rfl⟩ := Int.eq_ofNat_of_zero_le (show 0 ≤ t by omega)
    
    have hi : i < N.length := by omega
    have hj : j < N.length := by omega
    obtain ⟨b, off, rfl, hb, c0, c1⟩ := R2.at_ (HR.out.ext kE) hi
    obtain ⟨b', off', hA', _, d0, d1⟩ := R2.at_ (HR.out.ext kE) hj
    injection hA' with hA'
    injection hA' with hA1 hA2 _
    subst hA1 hA2
    have HO : Hid (onLead N ((i : Int), (j : Int)) (n1, n2) = onN N[i] N[j] (n1, n2)) := hide (by rw [onLead, h, at2_eq hi, at2_eq hj]; rfl)
    clear h
    obtain ⟨⟨a1, a2⟩, ha⟩ : ∃ q : P2, N[i] = q := ⟨_, rfl⟩
    obtain ⟨⟨b1, b2⟩, hb'⟩ : ∃ q : P2, N[j] = q := ⟨_, rfl⟩
    have ho := HO.out
    rw [ha, hb'] at ho
    rw [ha] at c0 c1
    rw [hb'] at d0 d1
    dsimp only at c0 c1 d0 d1
    have HO := hide ho
    clear ho
    have z1 : (i : Int) < (N.length : Int) := by omega
    have z2 : (j : Int) < (N.length : Int) := by omega
    have z3 : (0 : Int) ≤ (i : Int) := by omega
    have z4 : (0 : Int) ≤ (j : Int) := by omega
    clear hk ha hb'
    go_wp2_with fail
    all_goals
      have hw2 := kE.size
    all_goals first
      | (go_ret; exact ⟨ret_bool (by rw [HO.out]; subst_vars; simp [onN, *]), by repeat (first | exact kE | exact Ext.refl _ | apply Ext.alloc | apply Ext.drewN | apply Ext.drew | apply Ext.set0 | apply Ext.set1 | apply Ext.set2 | apply Ext.set3 | (refine Ext.setk ?_ (by omega) _) | (apply Ext.snoc; assumption))⟩)
      | skip
    all_goals
      have HX := hide (show Ext w _ from kE)
      refine (sIsBetween_any (_, _) (_, _) (_, _) _).mono ?_; rintro e w5 ⟨rfl, hb5⟩
      have hE5 : Ext w w5 := by repeat (first | exact kE | exact Ext.refl _ | apply Ext.alloc | apply Ext.drewN | apply Ext.drew | apply Ext.set0 | apply Ext.set1 | apply Ext.set2 | apply Ext.set3 | (refine Ext.setk ?_ (by omega) _) | (apply Ext.snoc; assumption))
      clear hb5
      go_wp2_with fail
      go_ret
      exact ⟨ret_bool (by rw [HO.out]; subst_vars; simp [onN, *]), hE5⟩
  · rw [Bool.not_eq_true] at h
    rw [h]
    have H := hide h
    clear h
    go_wp2_with fail
    go_ret
    exact ⟨ret_bool (by rw [onLead, H.out]; rfl), HT.out.2⟩
theorem sturn_l (a b : P2) : turnN a b a = 0 := by unfold turnN; simp
theorem sturn_r (a b : P2) : turnN a b b = 0 := by unfold turnN; rw [Int.mul_comm]; omega
theorem scross_share {a b u v : P2} (h : a = u ∨ a = v ∨ b = u ∨ b = v) : turnN a b u * turnN a b v = 0 := by
  rcases h with rfl | rfl | rfl | rfl <;> simp [sturn_l, sturn_r]
def sgn (n : Int) : Int := if n < 0 then -1 else if 0 < n then 1 else 0
theorem sgn_in (n : Int) : -1 ≤ sgn n ∧ sgn n ≤ 1 := by unfold sgn; split <;> (try split) <;> omega
theorem sgn_mul (m n : Int) : sgn m * sgn n < 0 ↔ m * n < 0 := by
  unfold sgn
  have h1 : 0 < m → 0 < n → 0 < m * n := Int.mul_pos
  have h2 : 0 < m → n < 0 → m * n < 0 := Int.mul_neg_of_pos_of_neg
  have h3 : m < 0 → 0 < n → m * n < 0 := Int.mul_neg_of_neg_of_pos
  have h4 : m < 0 → n < 0 → 0 < m * n := Int.mul_pos_of_neg_of_neg
  rcases Int.lt_trichotomy m 0 with a | a | a <;> rcases Int.lt_trichotomy n 0 with b | b | b
  · have := h4 a b; simp [a, b]; omega
  · subst b; simp [a]
  · have := h3 a b
    have e : ¬ n < 0 := by omega
    simp [a, b, e]; exact this
  · subst a; simp
  · subst a; simp
  · subst a; simp
  · have := h2 a b
    have e : ¬ m < 0 := by omega
    simp [a, b, e]; exact this
  · subst b; simp
  · have := h1 a b
    have e : ¬ m < 0 := by omega
    have e2 : ¬ n < 0 := by omega
    simp [a, b, e, e2]; omega
theorem l03Sign_any (n : Int) (w : World) : Calls Tryz.prog 118 #[.int .i64 n] w fun e w' => e = .returned (.int .i64 (sgn n)) ∧ w = w' := by
  go_enter Tryz.func118, Tryz.ntmps118
  go_wp2
  all_goals (go_ret; simp [sgn, *]; try omega)
theorem l03Sign_is (n s : Int) (w : World) (h : sgn n = s) : Calls Tryz.prog 118 #[.int .i64 n] w fun e w' => e = .returned (.int .i64 s) ∧ Ext w w' :=
  (l03Sign_any n w).mono fun _ _ ⟨h1, h2⟩ => ⟨by rw [h1, h], h2 ▸ Ext.refl _⟩
theorem l02Turn_is (a b c : P2) (t : Int) (w : World) (ha : nodeOk a = true) (hb : nodeOk b = true) (hc : nodeOk c = true) (h : turnN a b c = t) :
    Calls Tryz.prog 119 #[.agg #[.int .i64 a.1, .int .i64 a.2], .agg #[.int .i64 b.1, .int .i64 b.2], .agg #[.int .i64 c.1, .int .i64 c.2]] w fun e w' => e = .returned (.int .i64 t) ∧ Ext w w' := by
  rw [← h]
  exact l02Turn_any a b c w ha hb hc
set_option maxRecDepth 20000 in
set_option maxHeartbeats 16000000 in
theorem sDoCross_any (N : List P2) (A : Option Addr) (c : Nat) (e e2 : P2) (w : World) (hl : N.length ≤ 1048576) (hr : R2 w A N) :
    Calls Tryz.prog 89 #[.slice A N.length c, .agg #[.int .i64 e.1, .int .i64 e.2], .agg #[.int .i64 e2.1, .int .i64 e2.2]] w fun x w' => x = .returned (.bool (crossB N e e2)) ∧ Ext w w' := by
  have HR := hide hr
  clear hr
  obtain ⟨f, t⟩ := e
  obtain ⟨f2, t2⟩ := e2
  dsimp only
  
  go_enter Tryz.func89, Tryz.ntmps89
  go_wp2_with fail
  refine (sLeadOk_any N A c (f, t) _ hl (HR.out.ext (by repeat (first | exact kE | exact Ext.refl _ | apply Ext.alloc | apply Ext.drewN | apply Ext.drew | apply Ext.set0 | apply Ext.set1 | apply Ext.set2 | apply Ext.set3 | (refine Ext.setk ?_ (by omega) _) | (apply Ext.snoc; assumption))))).mono ?_; rintro e w1 ⟨rfl, hb⟩; have Hw1 := hide hb; have HT := hide (show Tr [(w.heap.size, [.int .i64 f, .int .i64 t]), (w.heap.size + 1, [.int .i64 f2, .int .i64 t2])] w w1 from Tr.ext ⟨by (first | (simp [Bx, CellsAt, go_sem, *]; done) | (simp [Bx, CellsAt, go_sem, *]; omega)), by (repeat (first | exact kE | exact Ext.refl _ | apply Ext.alloc | apply Ext.drewN | apply Ext.drew | apply Ext.set0 | apply Ext.set1 | apply Ext.set2 | apply Ext.set3 | (refine Ext.setk ?_ (by omega) _) | (apply Ext.snoc; assumption)))⟩ hb); clear hb; have kT := HT.out; simp only [Tr, Bx, CellsAt, Nat.reduceAdd, Nat.zero_add, and_true] at kT; obtain ⟨⟨⟨kz0, kf0, kc0_0, kc0_1⟩, ⟨kz1, kf1, kc1_0, kc1_1⟩⟩, kE⟩ := kT
  by_cases h : leadOk N (f, t) = true
  · rw [h]
    have HK1 := hide h
    clear h
    go_wp2_with fail
    refine (sLeadOk_any N A c (f2, t2) _ hl (HR.out.ext kE)).mono ?_; rintro e w2 ⟨rfl, hb⟩; have HT := hide (HT.out.ext hb); have Hw2 := hide hb; clear hb; clear kz0 kf0 kc0_0 kc0_1 kz1 kf1 kc1_0 kc1_1 kE; have kT := HT.out; simp only [Tr, Bx, CellsAt, Nat.reduceAdd, Nat.zero_add, and_true] at kT; obtain ⟨⟨⟨kz0, kf0, kc0_0, kc0_1⟩, ⟨kz1, kf1, kc1_0, kc1_1⟩⟩, kE⟩ := kT
    by_cases h2 : leadOk N (f2, t2) = true
    · rw [h2]
      have HK2 := hide h2
      clear h2
      have hk := leadOk_iff.1 HK1.out
      have hk2 := leadOk_iff.1 HK2.out
      dsimp only at hk hk2
      obtain ⟨i, rfl⟩ := Int.eq_ofNat_of_zero_le hk.1.1
      obtain ⟨j, rfl⟩ := Int.eq_ofNat_of_zero_le (show 0 ≤ t by omega)
      obtain ⟨i2, rfl⟩ := Int.eq_ofNat_of_zero_le hk2.1.1
      obtain ⟨j2, rfl⟩ := Int.eq_ofNat_of_zero_le (show 0 ≤ t2 by omega)
      
      have hi : i < N.length := by omega
      have hj : j < N.length := by omega
      have hi2 : i2 < N.length := by omega
      have hj2 : j2 < N.length := by omega
      have HO : Hid (crossB N ((i : Int), (j : Int)) ((i2 : Int), (j2 : Int)) = crossN N[i] N[j] N[i2] N[j2]) := hide (by rw [crossB, HK1.out, HK2.out, at2_eq hi, at2_eq hj, at2_eq hi2, at2_eq hj2]; rfl)
      have HG : Hid ((nodeOk N[i] = true ∧ nodeOk N[j] = true ∧ N[i] ≠ N[j]) ∧ nodeOk N[i2] = true ∧ nodeOk N[j2] = true ∧ N[i2] ≠ N[j2]) := hide (by
        rw [at2_eq hi, at2_eq hj] at hk
        rw [at2_eq hi2, at2_eq hj2] at hk2
        exact ⟨hk.2, hk2.2⟩)
      obtain ⟨b, off, rfl, hb, c0, c1⟩ := R2.at_ (HR.out.ext kE) hi
      obtain ⟨b', off', hA', _, d0, d1⟩ := R2.at_ (HR.out.ext kE) hj
      injection hA' with hA'
      injection hA' with hA1 hA2 _
      subst hA1 hA2
      obtain ⟨b', off', hA', _, c2, c3⟩ := R2.at_ (HR.out.ext kE) hi2
      injection hA' with hA'
      injection hA' with hA1 hA2 _
      subst hA1 hA2
      obtain ⟨b', off', hA', _, d2, d3⟩ := R2.at_ (HR.out.ext kE) hj2
      injection hA' with hA'
      injection hA' with hA1 hA2 _
      subst hA1 hA2
      obtain ⟨⟨a1, a2⟩, na⟩ : ∃ q : P2, N[i] = q := ⟨_, rfl⟩
      obtain ⟨⟨b1, b2⟩, nb⟩ : ∃ q : P2, N[j] = q := ⟨_, rfl⟩
      obtain ⟨⟨u1, u2⟩, nu⟩ : ∃ q : P2, N[i2] = q := ⟨_, rfl⟩
      obtain ⟨⟨v1, v2⟩, nv⟩ : ∃ q : P2, N[j2] = q := ⟨_, rfl⟩
      have ho := HO.out
      have hg := HG.out
      rw [na, nb, nu, nv] at ho hg
      rw [na] at c0 c1
      rw [nb] at d0 d1
      rw [nu] at c2 c3
      rw [nv] at d2 d3
      dsimp only at c0 c1 d0 d1 c2 c3 d2 d3
      have HO := hide ho
      have HG := hide hg
      clear ho hg na nb nu nv
      have z1 : (i : Int) < (N.length : Int) := by omega
      have z2 : (j : Int) < (N.length : Int) := by omega
      have z3 : (0 : Int) ≤ (i : Int) := by omega
      have z4 : (0 : Int) ≤ (j : Int) := by omega
      have z5 : (i2 : Int) < (N.length : Int) := by omega
      have z6 : (j2 : Int) < (N.length : Int) := by omega
      have z7 : (0 : Int) ≤ (i2 : Int) := by omega
      have z8 : (0 : Int) ≤ (j2 : Int) := by omega
      clear hk hk2
      go_upto_region 5 with fail
      obtain ⟨w3, hw⟩ : ∃ w1, w1 = (w2.alloc (Obj.cells #[Value.int IntKind.i64 a1, Value.int IntKind.i64 a2] 84)).alloc (Obj.cells #[Value.int IntKind.i64 b1, Value.int IntKind.i64 b2] 84) := ⟨_, rfl⟩; rw [← hw]; have Hw3 := hide (show Ext w2 w3 from (by (rw [hw]; (try clear kE); repeat (first | exact kE | exact Ext.refl _ | apply Ext.alloc | apply Ext.drewN | apply Ext.drew | apply Ext.set0 | apply Ext.set1 | apply Ext.set2 | apply Ext.set3 | (refine Ext.setk ?_ (by omega) _) | (apply Ext.snoc; assumption))))); have HT := hide (show Tr [(w2.heap.size, [.int .i64 a1, .int .i64 a2]), (w2.heap.size + 1, [.int .i64 b1, .int .i64 b2]), (w.heap.size, [.int .i64 (i : Int), .int .i64 (j : Int)]), (w.heap.size + 1, [.int .i64 (i2 : Int), .int .i64 (j2 : Int)])] w w3 from HT.out.mores Hw3.out [(w2.heap.size, [.int .i64 a1, .int .i64 a2]), (w2.heap.size + 1, [.int .i64 b1, .int .i64 b2])] (by (rw [hw]; first | (simp [Bx, CellsAt, go_sem, *]; done) | (simp [Bx, CellsAt, go_sem, *]; omega)))); clear hw kz0 kf0 kc0_0 kc0_1 kz1 kf1 kc1_0 kc1_1 kE; have kT := HT.out; simp only [Tr, Bx, CellsAt, Nat.reduceAdd, Nat.zero_add, and_true] at kT; obtain ⟨⟨⟨kz0, kf0, kc0_0, kc0_1⟩, ⟨kz1, kf1, kc1_0, kc1_1⟩, ⟨kz2, kf2, kc2_0, kc2_1⟩, ⟨kz3, kf3, kc3_0, kc3_1⟩⟩, kE⟩ := kT
      have c2 := (Hw3.out.facts.1 _ _ hb).trans c2
      have c3 := (Hw3.out.facts.1 _ _ hb).trans c3
      have d2 := (Hw3.out.facts.1 _ _ hb).trans d2
      have d3 := (Hw3.out.facts.1 _ _ hb).trans d3
      have hb := Hw3.out.facts.2.2 _ hb
      clear c0 c1 d0 d1
      go_upto_region 7 with fail
      obtain ⟨w4, hw⟩ : ∃ w1, w1 = (w3.alloc (Obj.cells #[Value.int IntKind.i64 u1, Value.int IntKind.i64 u2] 84)).alloc (Obj.cells #[Value.int IntKind.i64 v1, Value.int IntKind.i64 v2] 84) := ⟨_, rfl⟩; rw [← hw]; have Hw4 := hide (show Ext w3 w4 from (by (rw [hw]; (try clear kE); repeat (first | exact kE | exact Ext.refl _ | apply Ext.alloc | apply Ext.drewN | apply Ext.drew | apply Ext.set0 | apply Ext.set1 | apply Ext.set2 | apply Ext.set3 | (refine Ext.setk ?_ (by omega) _) | (apply Ext.snoc; assumption))))); have HT := hide (show Tr [(w3.heap.size, [.int .i64 u1, .int .i64 u2]), (w3.heap.size + 1, [.int .i64 v1, .int .i64 v2]), (w2.heap.size, [.int .i64 a1, .int .i64 a2]), (w2.heap.size + 1, [.int .i64 b1, .int .i64 b2]), (w.heap.size, [.int .i64 (i : Int), .int .i64 (j : Int)]), (w.heap.size + 1, [.int .i64 (i2 : Int), .int .i64 (j2 : Int)])] w w4 from HT.out.mores Hw4.out [(w3.heap.size, [.int .i64 u1, .int .i64 u2]), (w3.heap.size + 1, [.int .i64 v1, .int .i64 v2])] (by (rw [hw]; first | (simp [Bx, CellsAt, go_sem, *]; done) | (simp [Bx, CellsAt, go_sem, *]; omega)))); clear hw kz0 kf0 kc0_0 kc0_1 kz1 kf1 kc1_0 kc1_1 kz2 kf2 kc2_0 kc2_1 kz3 kf3 kc3_0 kc3_1 kE; have kT := HT.out; simp only [Tr, Bx, CellsAt, Nat.reduceAdd, Nat.zero_add, and_true] at kT; obtain ⟨⟨⟨kz0, kf0, kc0_0, kc0_1⟩, ⟨kz1, kf1, kc1_0, kc1_1⟩, ⟨kz2, kf2, kc2_0, kc2_1⟩, ⟨kz3, kf3, kc3_0, kc3_1⟩, ⟨kz4, kf4, kc4_0, kc4_1⟩, ⟨kz5, kf5, kc5_0, kc5_1⟩⟩, kE⟩ := kT
      clear c2 c3 d2 d3 hb HR
      go_wp2_with fail
      refine (sIsBetween_any (a1, a2) (b1, b2) (u1, u2) _).mono ?_; rintro e w5 ⟨rfl, hb⟩; have HT := hide (HT.out.ext hb); have Hw5 := hide hb; clear hb; clear kz0 kf0 kc0_0 kc0_1 kz1 kf1 kc1_0 kc1_1 kz2 kf2 kc2_0 kc2_1 kz3 kf3 kc3_0 kc3_1 kz4 kf4 kc4_0 kc4_1 kz5 kf5 kc5_0 kc5_1 kE; have kT := HT.out; simp only [Tr, Bx, CellsAt, Nat.reduceAdd, Nat.zero_add, and_true] at kT; obtain ⟨⟨⟨kz0, kf0, kc0_0, kc0_1⟩, ⟨kz1, kf1, kc1_0, kc1_1⟩, ⟨kz2, kf2, kc2_0, kc2_1⟩, ⟨kz3, kf3, kc3_0, kc3_1⟩, ⟨kz4, kf4, kc4_0, kc4_1⟩, ⟨kz5, kf5, kc5_0, kc5_1⟩⟩, kE⟩ := kT
      by_cases x0 : betw (a1, a2) (b1, b2) (u1, u2) = true
      · rw [x0]
        have X0 := hide x0
        clear x0
        go_wp2_with fail
        go_ret
        exact ⟨ret_bool (by rw [HO.out, crossN, X0.out]; simp), HT.out.2⟩
      · rw [Bool.not_eq_true] at x0
        rw [x0]
        have X0 := hide x0
        clear x0
        go_wp2_with fail
        refine (sIsBetween_any (a1, a2) (b1, b2) (v1, v2) _).mono ?_; rintro e w6 ⟨rfl, hb⟩; have HT := hide (HT.out.ext hb); have Hw6 := hide hb; clear hb; clear kz0 kf0 kc0_0 kc0_1 kz1 kf1 kc1_0 kc1_1 kz2 kf2 kc2_0 kc2_1 kz3 kf3 kc3_0 kc3_1 kz4 kf4 kc4_0 kc4_1 kz5 kf5 kc5_0 kc5_1 kE; have kT := HT.out; simp only [Tr, Bx, CellsAt, Nat.reduceAdd, Nat.zero_add, and_true] at kT; obtain ⟨⟨⟨kz0, kf0, kc0_0, kc0_1⟩, ⟨kz1, kf1, kc1_0, kc1_1⟩, ⟨kz2, kf2, kc2_0, kc2_1⟩, ⟨kz3, kf3, kc3_0, kc3_1⟩, ⟨kz4, kf4, kc4_0, kc4_1⟩, ⟨kz5, kf5, kc5_0, kc5_1⟩⟩, kE⟩ := kT
        by_cases x1 : betw (a1, a2) (b1, b2) (v1, v2) = true
        · rw [x1]
          have X1 := hide x1
          clear x1
          go_wp2_with fail
          go_ret
          exact ⟨ret_bool (by rw [HO.out, crossN, X1.out]; simp), HT.out.2⟩
        · rw [Bool.not_eq_true] at x1
          rw [x1]
          have X1 := hide x1
          clear x1
          go_wp2_with fail
          refine (sIsBetween_any (u1, u2) (v1, v2) (a1, a2) _).mono ?_; rintro e w7 ⟨rfl, hb⟩; have HT := hide (HT.out.ext hb); have Hw7 := hide hb; clear hb; clear kz0 kf0 kc0_0 kc0_1 kz1 kf1 kc1_0 kc1_1 kz2 kf2 kc2_0 kc2_1 kz3 kf3 kc3_0 kc3_1 kz4 kf4 kc4_0 kc4_1 kz5 kf5 kc5_0 kc5_1 kE; have kT := HT.out; simp only [Tr, Bx, CellsAt, Nat.reduceAdd, Nat.zero_add, and_true] at kT; obtain ⟨⟨⟨kz0, kf0, kc0_0, kc0_1⟩, ⟨kz1, kf1, kc1_0, kc1_1⟩, ⟨kz2, kf2, kc2_0, kc2_1⟩, ⟨kz3, kf3, kc3_0, kc3_1⟩, ⟨kz4, kf4, kc4_0, kc4_1⟩, ⟨kz5, kf5, kc5_0, kc5_1⟩⟩, kE⟩ := kT
          by_cases x2 : betw (u1, u2) (v1, v2) (a1, a2) = true
          · rw [x2]
            have X2 := hide x2
            clear x2
            go_wp2_with fail
            go_ret
            exact ⟨ret_bool (by rw [HO.out, crossN, X2.out]; simp), HT.out.2⟩
          · rw [Bool.not_eq_true] at x2
            rw [x2]
            have X2 := hide x2
            clear x2
            go_wp2_with fail
            refine (sIsBetween_any (u1, u2) (v1, v2) (b1, b2) _).mono ?_; rintro e w8 ⟨rfl, hb⟩; have HT := hide (HT.out.ext hb); have Hw8 := hide hb; clear hb; clear kz0 kf0 kc0_0 kc0_1 kz1 kf1 kc1_0 kc1_1 kz2 kf2 kc2_0 kc2_1 kz3 kf3 kc3_0 kc3_1 kz4 kf4 kc4_0 kc4_1 kz5 kf5 kc5_0 kc5_1 kE; have kT := HT.out; simp only [Tr, Bx, CellsAt, Nat.reduceAdd, Nat.zero_add, and_true] at kT; obtain ⟨⟨⟨kz0, kf0, kc0_0, kc0_1⟩, ⟨kz1, kf1, kc1_0, kc1_1⟩, ⟨kz2, kf2, kc2_0, kc2_1⟩, ⟨kz3, kf3, kc3_0, kc3_1⟩, ⟨kz4, kf4, kc4_0, kc4_1⟩, ⟨kz5, kf5, kc5_0, kc5_1⟩⟩, kE⟩ := kT
            by_cases x3 : betw (u1, u2) (v1, v2) (b1, b2) = true
            · rw [x3]
              have X3 := hide x3
              clear x3
              go_wp2_with fail
              go_ret
              exact ⟨ret_bool (by rw [HO.out, crossN, X3.out]; simp), HT.out.2⟩
            · rw [Bool.not_eq_true] at x3
              rw [x3]
              have X3 := hide x3
              clear x3
              go_upto_region 9 with fail
              go_cut [80] from 11 (fun x wx => x = .bool ((decide ((a1, a2) = (u1, u2)) && decide ((b1, b2) = (v1, v2))) || (decide ((a1, a2) = (v1, v2)) && decide ((b1, b2) = (u1, u2)))) ∧ wx = w8)
              case first =>
                clear HO HG HT
                go_wp2_with fail
                all_goals (go_meet; exact ⟨congrArg Value.bool (by first | (simp [*]; done) | (simp [*]; omega)), rfl⟩)
              obtain ⟨rfl, hwc⟩ := hcut; have hwc := hwc.symm; subst hwc
              by_cases hq : ((decide ((a1, a2) = (u1, u2)) && decide ((b1, b2) = (v1, v2))) || (decide ((a1, a2) = (v1, v2)) && decide ((b1, b2) = (u1, u2)))) = true
              · rw [hq]
                have HQ := hide hq
                clear hq
                go_wp2_with fail
                go_ret
                exact ⟨ret_bool (by rw [HO.out, crossN, HQ.out]; simp), HT.out.2⟩
              · rw [Bool.not_eq_true] at hq
                rw [hq]
                have HQ := hide hq
                clear hq
                go_upto_region 11 with fail
                go_cut [98] from 11 (fun x wx => x = .bool (decide ((a1, a2) = (u1, u2)) || decide ((a1, a2) = (v1, v2)) || decide ((b1, b2) = (u1, u2)) || decide ((b1, b2) = (v1, v2))) ∧ wx = w8)
                case first =>
                  clear HO HG HT
                  go_wp2_with fail
                  all_goals (go_meet; exact ⟨congrArg Value.bool (by first | (simp [*]; done) | (simp [*]; omega)), rfl⟩)
                obtain ⟨rfl, hwc⟩ := hcut; have hwc := hwc.symm; subst hwc
                by_cases hq : (decide ((a1, a2) = (u1, u2)) || decide ((a1, a2) = (v1, v2)) || decide ((b1, b2) = (u1, u2)) || decide ((b1, b2) = (v1, v2))) = true
                · rw [hq]
                  have HZ : Hid (crossB N ((i : Int), (j : Int)) ((i2 : Int), (j2 : Int)) = false) := hide (by
                    have e : turnN (a1, a2) (b1, b2) (u1, u2) * turnN (a1, a2) (b1, b2) (v1, v2) = 0 := scross_share (by simpa [or_assoc] using hq)
                    rw [HO.out, crossN, HQ.out, X0.out, X1.out, X2.out, X3.out, e]; simp)
                  clear hq
                  go_wp2_with fail
                  go_ret
                  exact ⟨ret_bool HZ.out.symm, HT.out.2⟩
                · rw [Bool.not_eq_true] at hq
                  rw [hq]
                  clear hq
                  go_wp2_with fail
                  have n1 := HG.out.1.1
                  have n2 := HG.out.1.2.1
                  have n3 := HG.out.2.1
                  have n4 := HG.out.2.2.1
                  obtain ⟨t1, ht1⟩ : ∃ q, turnN (a1, a2) (b1, b2) (u1, u2) = q := ⟨_, rfl⟩
                  obtain ⟨t2, ht2⟩ : ∃ q, turnN (a1, a2) (b1, b2) (v1, v2) = q := ⟨_, rfl⟩
                  obtain ⟨t3, ht3⟩ : ∃ q, turnN (u1, u2) (v1, v2) (a1, a2) = q := ⟨_, rfl⟩
                  obtain ⟨t4, ht4⟩ : ∃ q, turnN (u1, u2) (v1, v2) (b1, b2) = q := ⟨_, rfl⟩
                  have r1 := turn_in n1 n2 n3
                  have r2 := turn_in n1 n2 n4
                  have r3 := turn_in n3 n4 n1
                  have r4 := turn_in n3 n4 n2
                  rw [ht1] at r1
                  rw [ht2] at r2
                  rw [ht3] at r3
                  rw [ht4] at r4
                  obtain ⟨s1, hs1⟩ : ∃ q, sgn t1 = q := ⟨_, rfl⟩
                  obtain ⟨s2, hs2⟩ : ∃ q, sgn t2 = q := ⟨_, rfl⟩
                  obtain ⟨s3, hs3⟩ : ∃ q, sgn t3 = q := ⟨_, rfl⟩
                  obtain ⟨s4, hs4⟩ : ∃ q, sgn t4 = q := ⟨_, rfl⟩
                  have m1 := mul_in (m := 1) (n := 1) (by decide) (by decide) (sgn_in t1) (sgn_in t2)
                  have m2 := mul_in (m := 1) (n := 1) (by decide) (by decide) (sgn_in t3) (sgn_in t4)
                  have e1 := sgn_mul t1 t2
                  have e2 := sgn_mul t3 t4
                  rw [hs1, hs2] at m1 e1
                  rw [hs3, hs4] at m2 e2
                  obtain ⟨p1, hp1⟩ : ∃ q, s1 * s2 = q := ⟨_, rfl⟩
                  obtain ⟨p2, hp2⟩ : ∃ q, s3 * s4 = q := ⟨_, rfl⟩
                  rw [hp1] at m1 e1
                  rw [hp2] at m2 e2
                  have q1 : IntKind.i64.wrap (s1 * s2) = p1 := by rw [hp1]; exact IntWalk.i64_in _ (by omega)
                  have q2 : IntKind.i64.wrap (s3 * s4) = p2 := by rw [hp2]; exact IntWalk.i64_in _ (by omega)
                  have HC : Hid (crossB N ((i : Int), (j : Int)) ((i2 : Int), (j2 : Int)) = (decide (p1 < 0) && decide (p2 < 0))) := hide (by
                    have z1 : decide (t1 * t2 < 0) = decide (p1 < 0) := by rw [decide_eq_decide]; exact e1.symm
                    have z2 : decide (t3 * t4 < 0) = decide (p2 < 0) := by rw [decide_eq_decide]; exact e2.symm
                    rw [HO.out, crossN, HQ.out, X0.out, X1.out, X2.out, X3.out, ht1, ht2, ht3, ht4, z1, z2]; simp)
                  have HF1 := hide ht1
                  have HF2 := hide ht2
                  have HF3 := hide ht3
                  have HF4 := hide ht4
                  have HS1 := hide hs1
                  have HS2 := hide hs2
                  have HS3 := hide hs3
                  have HS4 := hide hs4
                  have N1 := hide n1
                  have N2 := hide n2
                  have N3 := hide n3
                  have N4 := hide n4
                  clear hs1 hs2 hs3 hs4 e1 e2
                  clear n1 n2 n3 n4 r1 r2 r3 r4 m1 m2 hp1 hp2 ht1 ht2 ht3 ht4 HQ X0 X1 X2 X3 HO HG
                  by_cases g1 : p1 < 0
                  · by_cases g2 : p2 < 0
                    · have d1 : decide (p1 < 0) = true := decide_eq_true g1
                      have d2 : decide (p2 < 0) = true := decide_eq_true g2
                      have kq0_0 := ExtBy.cell (W := w8) kz0 kc0_0; have kq0_1 := ExtBy.cell (W := w8) kz0 kc0_1; have kq1_0 := ExtBy.cell (W := w8) kz1 kc1_0; have kq1_1 := ExtBy.cell (W := w8) kz1 kc1_1; have kq2_0 := ExtBy.cell (W := w8) kz2 kc2_0; have kq2_1 := ExtBy.cell (W := w8) kz2 kc2_1; have kq3_0 := ExtBy.cell (W := w8) kz3 kc3_0; have kq3_1 := ExtBy.cell (W := w8) kz3 kc3_1; have kq4_0 := ExtBy.cell (W := w8) kz4 kc4_0; have kq4_1 := ExtBy.cell (W := w8) kz4 kc4_1; have kq5_0 := ExtBy.cell (W := w8) kz5 kc5_0; have kq5_1 := ExtBy.cell (W := w8) kz5 kc5_1; refine wp_region_quietE (by kernel_rfl) (by kernel_rfl) ?_; (repeat (refine WQ.step (fun K hK => ?_); have HK := hide hK; clear hK; go_simp; refine HK.out _ ?_; clear HK K)); (refine WQ.step (fun K hK => ?_); have HK := hide hK; clear hK; go_simp; apply Exists.intro; refine ⟨fun _ => ?_, HK.out _ ?_⟩; (go_at_call 119; refine extby_of (l02Turn_is (a1, a2) (b1, b2) (u1, u2) _ _ N1.out N2.out N3.out HF1.out)); clear HK K); (repeat (refine WQ.step (fun K hK => ?_); have HK := hide hK; clear hK; go_simp; refine HK.out _ ?_; clear HK K)); (refine WQ.step (fun K hK => ?_); have HK := hide hK; clear hK; go_simp; apply Exists.intro; refine ⟨fun _ => ?_, HK.out _ ?_⟩; (go_at_call 118; refine extby_of (l03Sign_is _ _ _ HS1.out)); clear HK K); (repeat (refine WQ.step (fun K hK => ?_); have HK := hide hK; clear hK; go_simp; refine HK.out _ ?_; clear HK K)); (refine WQ.step (fun K hK => ?_); have HK := hide hK; clear hK; go_simp; apply Exists.intro; refine ⟨fun _ => ?_, HK.out _ ?_⟩; (go_at_call 119; refine extby_of (l02Turn_is (a1, a2) (b1, b2) (v1, v2) _ _ N1.out N2.out N4.out HF2.out)); clear HK K); (repeat (refine WQ.step (fun K hK => ?_); have HK := hide hK; clear hK; go_simp; refine HK.out _ ?_; clear HK K)); (refine WQ.step (fun K hK => ?_); have HK := hide hK; clear hK; go_simp; apply Exists.intro; refine ⟨fun _ => ?_, HK.out _ ?_⟩; (go_at_call 118; refine extby_of (l03Sign_is _ _ _ HS2.out)); clear HK K); (repeat (refine WQ.step (fun K hK => ?_); have HK := hide hK; clear hK; go_simp; refine HK.out _ ?_; clear HK K)); (refine WQ.step (fun K hK => ?_); have HK := hide hK; clear hK; go_simp; apply Exists.intro; refine ⟨fun _ => ?_, HK.out _ ?_⟩; (go_at_call 119; refine extby_of (l02Turn_is (u1, u2) (v1, v2) (a1, a2) _ _ N3.out N4.out N1.out HF3.out)); clear HK K); (repeat (refine WQ.step (fun K hK => ?_); have HK := hide hK; clear hK; go_simp; refine HK.out _ ?_; clear HK K)); (refine WQ.step (fun K hK => ?_); have HK := hide hK; clear hK; go_simp; apply Exists.intro; refine ⟨fun _ => ?_, HK.out _ ?_⟩; (go_at_call 118; refine extby_of (l03Sign_is _ _ _ HS3.out)); clear HK K); (repeat (refine WQ.step (fun K hK => ?_); have HK := hide hK; clear hK; go_simp; refine HK.out _ ?_; clear HK K)); (refine WQ.step (fun K hK => ?_); have HK := hide hK; clear hK; go_simp; apply Exists.intro; refine ⟨fun _ => ?_, HK.out _ ?_⟩; (go_at_call 119; refine extby_of (l02Turn_is (u1, u2) (v1, v2) (b1, b2) _ _ N3.out N4.out N2.out HF4.out)); clear HK K); (repeat (refine WQ.step (fun K hK => ?_); have HK := hide hK; clear hK; go_simp; refine HK.out _ ?_; clear HK K)); (refine WQ.step (fun K hK => ?_); have HK := hide hK; clear hK; go_simp; apply Exists.intro; refine ⟨fun _ => ?_, HK.out _ ?_⟩; (go_at_call 118; refine extby_of (l03Sign_is _ _ _ HS4.out)); clear HK K); (repeat (refine WQ.step (fun K hK => ?_); have HK := hide hK; clear hK; go_simp; refine HK.out _ ?_; clear HK K)); refine WQ.done ?_; intro w9 hw'; obtain ⟨⟨_, hw9⟩, hw''⟩ := hw'; subst hw''; clear kq0_0 kq0_1 kq1_0 kq1_1 kq2_0 kq2_1 kq3_0 kq3_1 kq4_0 kq4_1 kq5_0 kq5_1; have HT := hide (HT.out.ext hw9); have Hw9 := hide hw9; clear hw9 kz0 kf0 kc0_0 kc0_1 kz1 kf1 kc1_0 kc1_1 kz2 kf2 kc2_0 kc2_1 kz3 kf3 kc3_0 kc3_1 kz4 kf4 kc4_0 kc4_1 kz5 kf5 kc5_0 kc5_1 kE; have kT := HT.out; simp only [Tr, Bx, CellsAt, Nat.reduceAdd, Nat.zero_add, and_true] at kT; obtain ⟨⟨⟨kz0, kf0, kc0_0, kc0_1⟩, ⟨kz1, kf1, kc1_0, kc1_1⟩, ⟨kz2, kf2, kc2_0, kc2_1⟩, ⟨kz3, kf3, kc3_0, kc3_1⟩, ⟨kz4, kf4, kc4_0, kc4_1⟩, ⟨kz5, kf5, kc5_0, kc5_1⟩⟩, kE⟩ := kT
                      go_wp2_with fail
                      go_ret
                      exact ⟨ret_bool (by rw [HC.out]; simp [*]), HT.out.2⟩
                    · have d1 : decide (p1 < 0) = true := decide_eq_true g1
                      have d2 : decide (p2 < 0) = false := decide_eq_false g2
                      clear g2
                      have kq0_0 := ExtBy.cell (W := w8) kz0 kc0_0; have kq0_1 := ExtBy.cell (W := w8) kz0 kc0_1; have kq1_0 := ExtBy.cell (W := w8) kz1 kc1_0; have kq1_1 := ExtBy.cell (W := w8) kz1 kc1_1; have kq2_0 := ExtBy.cell (W := w8) kz2 kc2_0; have kq2_1 := ExtBy.cell (W := w8) kz2 kc2_1; have kq3_0 := ExtBy.cell (W := w8) kz3 kc3_0; have kq3_1 := ExtBy.cell (W := w8) kz3 kc3_1; have kq4_0 := ExtBy.cell (W := w8) kz4 kc4_0; have kq4_1 := ExtBy.cell (W := w8) kz4 kc4_1; have kq5_0 := ExtBy.cell (W := w8) kz5 kc5_0; have kq5_1 := ExtBy.cell (W := w8) kz5 kc5_1; refine wp_region_quietE (by kernel_rfl) (by kernel_rfl) ?_; (repeat (refine WQ.step (fun K hK => ?_); have HK := hide hK; clear hK; go_simp; refine HK.out _ ?_; clear HK K)); (refine WQ.step (fun K hK => ?_); have HK := hide hK; clear hK; go_simp; apply Exists.intro; refine ⟨fun _ => ?_, HK.out _ ?_⟩; (go_at_call 119; refine extby_of (l02Turn_is (a1, a2) (b1, b2) (u1, u2) _ _ N1.out N2.out N3.out HF1.out)); clear HK K); (repeat (refine WQ.step (fun K hK => ?_); have HK := hide hK; clear hK; go_simp; refine HK.out _ ?_; clear HK K)); (refine WQ.step (fun K hK => ?_); have HK := hide hK; clear hK; go_simp; apply Exists.intro; refine ⟨fun _ => ?_, HK.out _ ?_⟩; (go_at_call 118; refine extby_of (l03Sign_is _ _ _ HS1.out)); clear HK K); (repeat (refine WQ.step (fun K hK => ?_); have HK := hide hK; clear hK; go_simp; refine HK.out _ ?_; clear HK K)); (refine WQ.step (fun K hK => ?_); have HK := hide hK; clear hK; go_simp; apply Exists.intro; refine ⟨fun _ => ?_, HK.out _ ?_⟩; (go_at_call 119; refine extby_of (l02Turn_is (a1, a2) (b1, b2) (v1, v2) _ _ N1.out N2.out N4.out HF2.out)); clear HK K); (repeat (refine WQ.step (fun K hK => ?_); have HK := hide hK; clear hK; go_simp; refine HK.out _ ?_; clear HK K)); (refine WQ.step (fun K hK => ?_); have HK := hide hK; clear hK; go_simp; apply Exists.intro; refine ⟨fun _ => ?_, HK.out _ ?_⟩; (go_at_call 118; refine extby_of (l03Sign_is _ _ _ HS2.out)); clear HK K); (repeat (refine WQ.step (fun K hK => ?_); have HK := hide hK; clear hK; go_simp; refine HK.out _ ?_; clear HK K)); (refine WQ.step (fun K hK => ?_); have HK := hide hK; clear hK; go_simp; apply Exists.intro; refine ⟨fun _ => ?_, HK.out _ ?_⟩; (go_at_call 119; refine extby_of (l02Turn_is (u1, u2) (v1, v2) (a1, a2) _ _ N3.out N4.out N1.out HF3.out)); clear HK K); (repeat (refine WQ.step (fun K hK => ?_); have HK := hide hK; clear hK; go_simp; refine HK.out _ ?_; clear HK K)); (refine WQ.step (fun K hK => ?_); have HK := hide hK; clear hK; go_simp; apply Exists.intro; refine ⟨fun _ => ?_, HK.out _ ?_⟩; (go_at_call 118; refine extby_of (l03Sign_is _ _ _ HS3.out)); clear HK K); (repeat (refine WQ.step (fun K hK => ?_); have HK := hide hK; clear hK; go_simp; refine HK.out _ ?_; clear HK K)); (refine WQ.step (fun K hK => ?_); have HK := hide hK; clear hK; go_simp; apply Exists.intro; refine ⟨fun _ => ?_, HK.out _ ?_⟩; (go_at_call 119; refine extby_of (l02Turn_is (u1, u2) (v1, v2) (b1, b2) _ _ N3.out N4.out N2.out HF4.out)); clear HK K); (repeat (refine WQ.step (fun K hK => ?_); have HK := hide hK; clear hK; go_simp; refine HK.out _ ?_; clear HK K)); (refine WQ.step (fun K hK => ?_); have HK := hide hK; clear hK; go_simp; apply Exists.intro; refine ⟨fun _ => ?_, HK.out _ ?_⟩; (go_at_call 118; refine extby_of (l03Sign_is _ _ _ HS4.out)); clear HK K); (repeat (refine WQ.step (fun K hK => ?_); have HK := hide hK; clear hK; go_simp; refine HK.out _ ?_; clear HK K)); refine WQ.done ?_; intro w9 hw'; obtain ⟨⟨_, hw9⟩, hw''⟩ := hw'; subst hw''; clear kq0_0 kq0_1 kq1_0 kq1_1 kq2_0 kq2_1 kq3_0 kq3_1 kq4_0 kq4_1 kq5_0 kq5_1; have HT := hide (HT.out.ext hw9); have Hw9 := hide hw9; clear hw9 kz0 kf0 kc0_0 kc0_1 kz1 kf1 kc1_0 kc1_1 kz2 kf2 kc2_0 kc2_1 kz3 kf3 kc3_0 kc3_1 kz4 kf4 kc4_0 kc4_1 kz5 kf5 kc5_0 kc5_1 kE; have kT := HT.out; simp only [Tr, Bx, CellsAt, Nat.reduceAdd, Nat.zero_add, and_true] at kT; obtain ⟨⟨⟨kz0, kf0, kc0_0, kc0_1⟩, ⟨kz1, kf1, kc1_0, kc1_1⟩, ⟨kz2, kf2, kc2_0, kc2_1⟩, ⟨kz3, kf3, kc3_0, kc3_1⟩, ⟨kz4, kf4, kc4_0, kc4_1⟩, ⟨kz5, kf5, kc5_0, kc5_1⟩⟩, kE⟩ := kT
                      go_wp2_with fail
                      go_ret
                      exact ⟨ret_bool (by rw [HC.out]; simp [*]), HT.out.2⟩
                  · have d1 : decide (p1 < 0) = false := decide_eq_false g1
                    clear g1
                    have kq0_0 := ExtBy.cell (W := w8) kz0 kc0_0; have kq0_1 := ExtBy.cell (W := w8) kz0 kc0_1; have kq1_0 := ExtBy.cell (W := w8) kz1 kc1_0; have kq1_1 := ExtBy.cell (W := w8) kz1 kc1_1; have kq2_0 := ExtBy.cell (W := w8) kz2 kc2_0; have kq2_1 := ExtBy.cell (W := w8) kz2 kc2_1; have kq3_0 := ExtBy.cell (W := w8) kz3 kc3_0; have kq3_1 := ExtBy.cell (W := w8) kz3 kc3_1; have kq4_0 := ExtBy.cell (W := w8) kz4 kc4_0; have kq4_1 := ExtBy.cell (W := w8) kz4 kc4_1; have kq5_0 := ExtBy.cell (W := w8) kz5 kc5_0; have kq5_1 := ExtBy.cell (W := w8) kz5 kc5_1; refine wp_region_quietE (by kernel_rfl) (by kernel_rfl) ?_; (repeat (refine WQ.step (fun K hK => ?_); have HK := hide hK; clear hK; go_simp; refine HK.out _ ?_; clear HK K)); (refine WQ.step (fun K hK => ?_); have HK := hide hK; clear hK; go_simp; apply Exists.intro; refine ⟨fun _ => ?_, HK.out _ ?_⟩; (go_at_call 119; refine extby_of (l02Turn_is (a1, a2) (b1, b2) (u1, u2) _ _ N1.out N2.out N3.out HF1.out)); clear HK K); (repeat (refine WQ.step (fun K hK => ?_); have HK := hide hK; clear hK; go_simp; refine HK.out _ ?_; clear HK K)); (refine WQ.step (fun K hK => ?_); have HK := hide hK; clear hK; go_simp; apply Exists.intro; refine ⟨fun _ => ?_, HK.out _ ?_⟩; (go_at_call 118; refine extby_of (l03Sign_is _ _ _ HS1.out)); clear HK K); (repeat (refine WQ.step (fun K hK => ?_); have HK := hide hK; clear hK; go_simp; refine HK.out _ ?_; clear HK K)); (refine WQ.step (fun K hK => ?_); have HK := hide hK; clear hK; go_simp; apply Exists.intro; refine ⟨fun _ => ?_, HK.out _ ?_⟩; (go_at_call 119; refine extby_of (l02Turn_is (a1, a2) (b1, b2) (v1, v2) _ _ N1.out N2.out N4.out HF2.out)); clear HK K); (repeat (refine WQ.step (fun K hK => ?_); have HK := hide hK; clear hK; go_simp; refine HK.out _ ?_; clear HK K)); (refine WQ.step (fun K hK => ?_); have HK := hide hK; clear hK; go_simp; apply Exists.intro; refine ⟨fun _ => ?_, HK.out _ ?_⟩; (go_at_call 118; refine extby_of (l03Sign_is _ _ _ HS2.out)); clear HK K); (repeat (refine WQ.step (fun K hK => ?_); have HK := hide hK; clear hK; go_simp; refine HK.out _ ?_; clear HK K)); refine WQ.done ?_; intro w9 hw'; obtain ⟨⟨_, hw9⟩, hw''⟩ := hw'; subst hw''; clear kq0_0 kq0_1 kq1_0 kq1_1 kq2_0 kq2_1 kq3_0 kq3_1 kq4_0 kq4_1 kq5_0 kq5_1; have HT := hide (HT.out.ext hw9); have Hw9 := hide hw9; clear hw9 kz0 kf0 kc0_0 kc0_1 kz1 kf1 kc1_0 kc1_1 kz2 kf2 kc2_0 kc2_1 kz3 kf3 kc3_0 kc3_1 kz4 kf4 kc4_0 kc4_1 kz5 kf5 kc5_0 kc5_1 kE; have kT := HT.out; simp only [Tr, Bx, CellsAt, Nat.reduceAdd, Nat.zero_add, and_true] at kT; obtain ⟨⟨⟨kz0, kf0, kc0_0, kc0_1⟩, ⟨kz1, kf1, kc1_0, kc1_1⟩, ⟨kz2, kf2, kc2_0, kc2_1⟩, ⟨kz3, kf3, kc3_0, kc3_1⟩, ⟨kz4, kf4, kc4_0, kc4_1⟩, ⟨kz5, kf5, kc5_0, kc5_1⟩⟩, kE⟩ := kT
                    go_wp2_with fail
                    go_ret
                    exact ⟨ret_bool (by rw [HC.out]; simp [*]), HT.out.2⟩
    · rw [Bool.not_eq_true] at h2
      rw [h2]
      have H := hide h2
      clear h2
      go_wp2_with fail
      go_ret
      exact ⟨ret_bool (by rw [crossB, H.out]; simp), HT.out.2⟩
  · rw [Bool.not_eq_true] at h
    rw [h]
    have H := hide h
    clear h
    go_wp2_with fail
    go_ret
    exact ⟨ret_bool (by rw [crossB, H.out]; simp), HT.out.2⟩
end Go.Proofs.YtabgcpoaepafjaaGreat
