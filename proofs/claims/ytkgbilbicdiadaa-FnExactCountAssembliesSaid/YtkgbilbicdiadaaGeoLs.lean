/- Walks of the functions on leads: whether a lead is valid, whether a node lies on it, whether two cross. No condition but that a list has at most 1048576 elements. -/
import Derived.Test.YtkgbilbicdiadaaGeoN
import Derived.Test.YtkgbilbicdiadaaRegR
import Derived.Test.YtkgbilbicdiadaaRegS
import Derived.Test.YtkgbilbicdiadaaQuietE
import Derived.BigQuiet
set_option linter.unusedSimpArgs false
set_option linter.unusedVariables false
namespace Go.Proofs.Ytkgbilbicdiadaa
open Go.RowKit
theorem sNodeOk_is (a : P2) (v : Bool) (w : World) (h : nodeOk a = v) : Calls Try.prog 142 #[.agg #[.int .i64 a.1, .int .i64 a.2]] w fun e w' => e = .returned (.bool v) ∧ Ext w w' := by
  rw [← h]
  exact sNodeOk_any a w
set_option maxRecDepth 20000 in
set_option maxHeartbeats 16000000 in
theorem sLeadOk_any (N : List P2) (A : Option Addr) (c : Nat) (e : P2) (w : World) (hl : N.length ≤ 1048576) (hr : R2 w A N) :
    Calls Try.prog 143 #[.slice A N.length c, .agg #[.int .i64 e.1, .int .i64 e.2]] w fun x w' => x = .returned (.bool (leadOk N e)) ∧ Ext w w' := by
  obtain ⟨f, t⟩ := e
  dsimp only
  by_cases hk : 0 ≤ f ∧ f < t ∧ t < N.length
  · obtain ⟨h0, h1, h2⟩ := hk
    obtain ⟨i, rfl⟩ := Int.eq_ofNat_of_zero_le h0
    obtain ⟨j, rfl⟩ := Int.eq_ofNat_of_zero_le (show 0 ≤ t by omega)
    have hi : i < N.length := by omega
    have hj : j < N.length := by omega
    obtain ⟨b, off, hA, hb, c0, c1⟩ := R2.at_ hr hi
    obtain ⟨b', off', hA', _, d0, d1⟩ := R2.at_ hr hj
    subst hA
    injection hA' with hA'
    injection hA' with hA1 hA2 _
    subst hA1 hA2
    have HK : Hid (leadOk N ((i : Int), (j : Int)) = (nodeOk N[i] && nodeOk N[j] && !decide (N[i] = N[j]))) := hide (by
      have e1 : decide ((0 : Int) ≤ (i : Int)) = true := decide_eq_true (by omega)
      have e2 : decide ((i : Int) < (j : Int)) = true := decide_eq_true h1
      have e3 : decide ((j : Int) < (N.length : Int)) = true := decide_eq_true h2
      simp only [leadOk, at2_eq hi, at2_eq hj, e1, e2, e3, Bool.true_and])
    obtain ⟨⟨a1, a2⟩, ha⟩ : ∃ q : P2, N[i] = q := ⟨_, rfl⟩
    obtain ⟨⟨b1, b2⟩, hb'⟩ : ∃ q : P2, N[j] = q := ⟨_, rfl⟩
    rw [ha] at c0 c1
    rw [hb'] at d0 d1
    dsimp only at c0 c1 d0 d1
    have hk2 := HK.out
    rw [ha, hb'] at hk2
    have HK := hide hk2
    clear hk2 ha hb'
    have hi' : (i : Int) < (N.length : Int) := by omega
    have hj' : (j : Int) < (N.length : Int) := by omega
    have hi0 : (0 : Int) ≤ (i : Int) := by omega
    have hj0 : (0 : Int) ≤ (j : Int) := by omega
    clear hr
    have y1 : inR (i : Int) 0 ((N.length : Int) - 1) = true := by simp [inR]; omega
    have y2 : inR (j : Int) 0 ((N.length : Int) - 1) = true := by simp [inR]; omega
    
    go_enter Try.func143, Try.ntmps143
    go_wp2_with (first | (go_at_call 95; refine (l01In_any _ _ _ _).mono ?_; rintro e w' ⟨rfl, rfl⟩))
    obtain ⟨w0, hw⟩ : ∃ w1, w1 = w.alloc (Obj.cells #[Value.int IntKind.i64 (i : Int), Value.int IntKind.i64 (j : Int)] 84) := ⟨_, rfl⟩; rw [← hw]; have kT : Tr [(w.heap.size, [.int .i64 (i : Int), .int .i64 (j : Int)])] w w0 := (by rw [hw]; exact ⟨by (first | (simp [Bx, CellsAt, go_sem, *]; done) | (simp [Bx, CellsAt, go_sem, *]; omega)), by (repeat (first | exact kE | exact Ext.refl _ | apply Ext.alloc | apply Ext.drewN | apply Ext.drew | apply Ext.set0 | apply Ext.set1 | apply Ext.set2 | apply Ext.set3 | (refine Ext.setk ?_ (by omega) _) | (apply Ext.snoc; assumption)))⟩); have HT := hide kT; clear hw kT; have kT := HT.out; simp only [Tr, Bx, CellsAt, Nat.reduceAdd, Nat.zero_add, and_true] at kT; obtain ⟨⟨kz0, kf0, kc0_0, kc0_1⟩, kE⟩ := kT
    have c0 := (kE.facts.1 b _ hb).trans c0
    have c1 := (kE.facts.1 b _ hb).trans c1
    have d0 := (kE.facts.1 b _ hb).trans d0
    have d1 := (kE.facts.1 b _ hb).trans d1
    have hb := kE.facts.2.2 b hb
    have qc0 := ExtBy.cell (W := w0) hb c0
    have qc1 := ExtBy.cell (W := w0) hb c1
    have qd0 := ExtBy.cell (W := w0) hb d0
    have qd1 := ExtBy.cell (W := w0) hb d1
    clear c0 c1 d0 d1
    by_cases m1 : nodeOk (a1, a2) = true
    · by_cases m2 : nodeOk (b1, b2) = true
      · skip
        by_cases q1 : a1 = b1
        · subst q1
          by_cases q2 : a2 = b2
          · subst q2
            have M1 := hide m1
            have M2 := hide m2
            clear m1 m2
            have kq0_0 := ExtBy.cell (W := w0) kz0 kc0_0; have kq0_1 := ExtBy.cell (W := w0) kz0 kc0_1; refine wp_region_quietE (by kernel_rfl) (by kernel_rfl) ?_; (repeat (refine WQ.step (fun K hK => ?_); have HK := hide hK; clear hK; go_simp; refine HK.out _ ?_; clear HK K)); (refine WQ.step (fun K hK => ?_); have HK := hide hK; clear hK; go_simp; apply Exists.intro; refine ⟨fun _ => ?_, HK.out _ ?_⟩; (go_at_call 142; refine extby_of (sNodeOk_is (a1, a2) _ _ M1.out)); clear HK K); (repeat (refine WQ.step (fun K hK => ?_); have HK := hide hK; clear hK; go_simp; refine HK.out _ ?_; clear HK K)); (refine WQ.step (fun K hK => ?_); have HK := hide hK; clear hK; go_simp; apply Exists.intro; refine ⟨fun _ => ?_, HK.out _ ?_⟩; (go_at_call 142; refine extby_of (sNodeOk_is (a1, a2) _ _ M2.out)); clear HK K); (repeat (refine WQ.step (fun K hK => ?_); have HK := hide hK; clear hK; go_simp; refine HK.out _ ?_; clear HK K)); refine WQ.done ?_; intro w5 hw'; obtain ⟨⟨_, hw5⟩, hw''⟩ := hw'; subst hw''; clear kq0_0 kq0_1; have HT := hide (HT.out.ext hw5); have Hw5 := hide hw5; clear hw5 kz0 kf0 kc0_0 kc0_1 kE; have kT := HT.out; simp only [Tr, Bx, CellsAt, Nat.reduceAdd, Nat.zero_add, and_true] at kT; obtain ⟨⟨kz0, kf0, kc0_0, kc0_1⟩, kE⟩ := kT
            go_wp2_with fail
            go_ret
            exact ⟨ret_bool (by rw [HK.out, M1.out]; simp), HT.out.2⟩
          · skip
            have M1 := hide m1
            have M2 := hide m2
            clear m1 m2
            have kq0_0 := ExtBy.cell (W := w0) kz0 kc0_0; have kq0_1 := ExtBy.cell (W := w0) kz0 kc0_1; refine wp_region_quietE (by kernel_rfl) (by kernel_rfl) ?_; (repeat (refine WQ.step (fun K hK => ?_); have HK := hide hK; clear hK; go_simp; refine HK.out _ ?_; clear HK K)); (refine WQ.step (fun K hK => ?_); have HK := hide hK; clear hK; go_simp; apply Exists.intro; refine ⟨fun _ => ?_, HK.out _ ?_⟩; (go_at_call 142; refine extby_of (sNodeOk_is (a1, a2) _ _ M1.out)); clear HK K); (repeat (refine WQ.step (fun K hK => ?_); have HK := hide hK; clear hK; go_simp; refine HK.out _ ?_; clear HK K)); (refine WQ.step (fun K hK => ?_); have HK := hide hK; clear hK; go_simp; apply Exists.intro; refine ⟨fun _ => ?_, HK.out _ ?_⟩; (go_at_call 142; refine extby_of (sNodeOk_is (a1, b2) _ _ M2.out)); clear HK K); (repeat (refine WQ.step (fun K hK => ?_); have HK := hide hK; clear hK; go_simp; refine HK.out _ ?_; clear HK K)); refine WQ.done ?_; intro w5 hw'; obtain ⟨⟨_, hw5⟩, hw''⟩ := hw'; subst hw''; clear kq0_0 kq0_1; have HT := hide (HT.out.ext hw5); have Hw5 := hide hw5; clear hw5 kz0 kf0 kc0_0 kc0_1 kE; have kT := HT.out; simp only [Tr, Bx, CellsAt, Nat.reduceAdd, Nat.zero_add, and_true] at kT; obtain ⟨⟨kz0, kf0, kc0_0, kc0_1⟩, kE⟩ := kT
            go_wp2_with fail
            go_ret
            exact ⟨ret_bool (by rw [HK.out, M1.out, M2.out]; simp [q2]), HT.out.2⟩
        · skip
          have M1 := hide m1
          have M2 := hide m2
          clear m1 m2
          have kq0_0 := ExtBy.cell (W := w0) kz0 kc0_0; have kq0_1 := ExtBy.cell (W := w0) kz0 kc0_1; refine wp_region_quietE (by kernel_rfl) (by kernel_rfl) ?_; (repeat (refine WQ.step (fun K hK => ?_); have HK := hide hK; clear hK; go_simp; refine HK.out _ ?_; clear HK K)); (refine WQ.step (fun K hK => ?_); have HK := hide hK; clear hK; go_simp; apply Exists.intro; refine ⟨fun _ => ?_, HK.out _ ?_⟩; (go_at_call 142; refine extby_of (sNodeOk_is (a1, a2) _ _ M1.out)); clear HK K); (repeat (refine WQ.step (fun K hK => ?_); have HK := hide hK; clear hK; go_simp; refine HK.out _ ?_; clear HK K)); (refine WQ.step (fun K hK => ?_); have HK := hide hK; clear hK; go_simp; apply Exists.intro; refine ⟨fun _ => ?_, HK.out _ ?_⟩; (go_at_call 142; refine extby_of (sNodeOk_is (b1, b2) _ _ M2.out)); clear HK K); (repeat (refine WQ.step (fun K hK => ?_); have HK := hide hK; clear hK; go_simp; refine HK.out _ ?_; clear HK K)); refine WQ.done ?_; intro w5 hw'; obtain ⟨⟨_, hw5⟩, hw''⟩ := hw'; subst hw''; clear kq0_0 kq0_1; have HT := hide (HT.out.ext hw5); have Hw5 := hide hw5; clear hw5 kz0 kf0 kc0_0 kc0_1 kE; have kT := HT.out; simp only [Tr, Bx, CellsAt, Nat.reduceAdd, Nat.zero_add, and_true] at kT; obtain ⟨⟨kz0, kf0, kc0_0, kc0_1⟩, kE⟩ := kT
          go_wp2_with fail
          go_ret
          exact ⟨ret_bool (by rw [HK.out, M1.out, M2.out]; simp [q1]), HT.out.2⟩
      · rw [Bool.not_eq_true] at m2
        have M1 := hide m1
        have M2 := hide m2
        clear m1 m2
        have kq0_0 := ExtBy.cell (W := w0) kz0 kc0_0; have kq0_1 := ExtBy.cell (W := w0) kz0 kc0_1; refine wp_region_quietE (by kernel_rfl) (by kernel_rfl) ?_; (repeat (refine WQ.step (fun K hK => ?_); have HK := hide hK; clear hK; go_simp; refine HK.out _ ?_; clear HK K)); (refine WQ.step (fun K hK => ?_); have HK := hide hK; clear hK; go_simp; apply Exists.intro; refine ⟨fun _ => ?_, HK.out _ ?_⟩; (go_at_call 142; refine extby_of (sNodeOk_is (a1, a2) _ _ M1.out)); clear HK K); (repeat (refine WQ.step (fun K hK => ?_); have HK := hide hK; clear hK; go_simp; refine HK.out _ ?_; clear HK K)); (refine WQ.step (fun K hK => ?_); have HK := hide hK; clear hK; go_simp; apply Exists.intro; refine ⟨fun _ => ?_, HK.out _ ?_⟩; (go_at_call 142; refine extby_of (sNodeOk_is (b1, b2) _ _ M2.out)); clear HK K); (repeat (refine WQ.step (fun K hK => ?_); have HK := hide hK; clear hK; go_simp; refine HK.out _ ?_; clear HK K)); refine WQ.done ?_; intro w5 hw'; obtain ⟨⟨_, hw5⟩, hw''⟩ := hw'; subst hw''; clear kq0_0 kq0_1; have HT := hide (HT.out.ext hw5); have Hw5 := hide hw5; clear hw5 kz0 kf0 kc0_0 kc0_1 kE; have kT := HT.out; simp only [Tr, Bx, CellsAt, Nat.reduceAdd, Nat.zero_add, and_true] at kT; obtain ⟨⟨kz0, kf0, kc0_0, kc0_1⟩, kE⟩ := kT
        go_wp2_with fail
        go_ret
        exact ⟨ret_bool (by rw [HK.out, M1.out, M2.out]; simp), HT.out.2⟩
    · rw [Bool.not_eq_true] at m1
      have M1 := hide m1
      clear m1
      have kq0_0 := ExtBy.cell (W := w0) kz0 kc0_0; have kq0_1 := ExtBy.cell (W := w0) kz0 kc0_1; refine wp_region_quietE (by kernel_rfl) (by kernel_rfl) ?_; (repeat (refine WQ.step (fun K hK => ?_); have HK := hide hK; clear hK; go_simp; refine HK.out _ ?_; clear HK K)); (refine WQ.step (fun K hK => ?_); have HK := hide hK; clear hK; go_simp; apply Exists.intro; refine ⟨fun _ => ?_, HK.out _ ?_⟩; (go_at_call 142; refine extby_of (sNodeOk_is (a1, a2) _ _ M1.out)); clear HK K); (repeat (refine WQ.step (fun K hK => ?_); have HK := hide hK; clear hK; go_simp; refine HK.out _ ?_; clear HK K)); refine WQ.done ?_; intro w5 hw'; obtain ⟨⟨_, hw5⟩, hw''⟩ := hw'; subst hw''; clear kq0_0 kq0_1; have HT := hide (HT.out.ext hw5); have Hw5 := hide hw5; clear hw5 kz0 kf0 kc0_0 kc0_1 kE; have kT := HT.out; simp only [Tr, Bx, CellsAt, Nat.reduceAdd, Nat.zero_add, and_true] at kT; obtain ⟨⟨kz0, kf0, kc0_0, kc0_1⟩, kE⟩ := kT
      go_wp2_with fail
      go_ret
      exact ⟨ret_bool (by rw [HK.out, M1.out]; simp), HT.out.2⟩
  · have HK : Hid (leadOk N (f, t) = false) := hide (by
      cases e : leadOk N (f, t)
      · rfl
      · exact absurd (leadOk_iff.1 e).1 hk)
    have HK2 := hide hk
    clear hk
    by_cases x1 : inR f 0 ((N.length : Int) - 1) = true
    · by_cases x2 : inR t 0 ((N.length : Int) - 1) = true
      · have b1 := inR_true x1
        have b2 := inR_true x2
        have b3 : t ≤ f := by have := HK2.out; omega
        go_enter Try.func143, Try.ntmps143
        go_wp2_with (first | (go_at_call 95; refine (l01In_any _ _ _ _).mono ?_; rintro e w' ⟨rfl, rfl⟩))
        go_ret
        exact ⟨ret_bool (by rw [HK.out]), by repeat (first | exact kE | exact Ext.refl _ | apply Ext.alloc | apply Ext.drewN | apply Ext.drew | apply Ext.set0 | apply Ext.set1 | apply Ext.set2 | apply Ext.set3 | (refine Ext.setk ?_ (by omega) _) | (apply Ext.snoc; assumption))⟩
      · rw [Bool.not_eq_true] at x2
        go_enter Try.func143, Try.ntmps143
        go_wp2_with (first | (go_at_call 95; refine (l01In_any _ _ _ _).mono ?_; rintro e w' ⟨rfl, rfl⟩))
        go_ret
        exact ⟨ret_bool (by rw [HK.out]), by repeat (first | exact kE | exact Ext.refl _ | apply Ext.alloc | apply Ext.drewN | apply Ext.drew | apply Ext.set0 | apply Ext.set1 | apply Ext.set2 | apply Ext.set3 | (refine Ext.setk ?_ (by omega) _) | (apply Ext.snoc; assumption))⟩
    · rw [Bool.not_eq_true] at x1
      go_enter Try.func143, Try.ntmps143
      go_wp2_with (first | (go_at_call 95; refine (l01In_any _ _ _ _).mono ?_; rintro e w' ⟨rfl, rfl⟩))
      go_ret
      exact ⟨ret_bool (by rw [HK.out]), by repeat (first | exact kE | exact Ext.refl _ | apply Ext.alloc | apply Ext.drewN | apply Ext.drew | apply Ext.set0 | apply Ext.set1 | apply Ext.set2 | apply Ext.set3 | (refine Ext.setk ?_ (by omega) _) | (apply Ext.snoc; assumption))⟩
end Go.Proofs.Ytkgbilbicdiadaa
