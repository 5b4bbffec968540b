/- The walk of the law on sheets. No condition but that the bytes lie in memory. -/
import Derived.Test.YtjibcmmnohjhkaaDrawA
import Derived.Test.YtjibcmmnohjhkaaDrawS
import Derived.Test.YtjibcmmnohjhkaaSheetP
set_option linter.unusedSimpArgs false
set_option linter.unusedVariables false
namespace Go.Proofs.Ytjibcmmnohjhkaa
open Go.RowKit

set_option maxRecDepth 100000 in
set_option maxHeartbeats 8000000 in
theorem FnSheets_walk (l : List Int) (A : Option Addr) (c : Nat) (w : World) (hl : l.length ≤ maxLen) (hr : RB w A l) :
    Calls Try.prog 12 #[.slice A l.length c] w fun e w' => e = .returned (.bool true) ∧ Ext w w' := by
  by_cases hb : (1048576 : Int) < l.length
  · go_enter Try.func12, Try.ntmps12
    go_wp2_with fail
    refine (big_any l A c _ hl).mono ?_; rintro e w1 ⟨rfl, rfl⟩
    rw [decide_eq_true (by omega)]
    go_wp2_with fail
    go_ret
    exact ⟨rfl, by repeat (first | exact kE | exact Ext.refl _ | apply Ext.alloc | apply Ext.drewN | apply Ext.drew | apply Ext.set0 | apply Ext.set1 | apply Ext.set2 | apply Ext.set3 | (refine Ext.setk ?_ (by omega) _) | (apply Ext.snoc; assumption))⟩
  · have HR := hide hr
    clear hr
    have hm : l.length ≤ 1048576 := by omega
    go_enter Try.func12, Try.ntmps12
    go_wp2_with fail
    refine (big_any l A c _ hl).mono ?_; rintro e w1 ⟨rfl, rfl⟩
    rw [decide_eq_false (by omega)]
    go_wp2_with fail
    refine (DrawSheets_any l A c _ hm HR.out).mono ?_; rintro e v1 ⟨a, b, x, y, rfl, hs, hp, hE⟩
    go_wp2_with fail
    
    obtain ⟨w2, hw⟩ : ∃ w1, w1 = ((v1.alloc (Obj.cells #[Value.int IntKind.i64 a, Value.int IntKind.i64 b] 25)).alloc (Obj.cells #[Value.int IntKind.i64 x, Value.int IntKind.i64 y] 25)) := ⟨_, rfl⟩; rw [← hw]; have kT : Tr [(v1.heap.size, [.int .i64 a, .int .i64 b]), (v1.heap.size + 1, [.int .i64 x, .int .i64 y])] w w2 := (by rw [hw]; exact ⟨by (first | (simp [Bx, CellsAt, go_sem, *]; done) | (simp [Bx, CellsAt, go_sem, *]; omega)), by (repeat (first | exact kE | exact Ext.refl _ | apply Ext.alloc | apply Ext.drewN | apply Ext.drew | apply Ext.set0 | apply Ext.set1 | apply Ext.set2 | apply Ext.set3 | (refine Ext.setk ?_ (by omega) _) | (apply Ext.snoc; assumption)))⟩); have HT := hide kT; clear hw kT; have kT := HT.out; simp only [Tr, Bx, CellsAt, Nat.reduceAdd, Nat.zero_add, and_true] at kT; obtain ⟨⟨⟨kz0, kf0, kc0_0, kc0_1⟩, ⟨kz1, kf1, kc1_0, kc1_1⟩⟩, kE⟩ := kT
    refine (MostPieces_any _ _ _ _ _).mono ?_; rintro e w3 ⟨rfl, hb⟩; have HT := hide (HT.out.ext hb); have Hw3 := hide hb; clear hb; clear kz0 kf0 kc0_0 kc0_1 kz1 kf1 kc1_0 kc1_1 kE; have kT := HT.out; simp only [Tr, Bx, CellsAt, Nat.reduceAdd, Nat.zero_add, and_true] at kT; obtain ⟨⟨⟨kz0, kf0, kc0_0, kc0_1⟩, ⟨kz1, kf1, kc1_0, kc1_1⟩⟩, kE⟩ := kT
    go_wp2_with fail
    refine (BestValue_any a b [(x, y)] _ 1 [1] _ 1 _ (by simp) (by simp) (Rds.alloc (Rds_new _ (enc2 [(x, y)]) 1 2 _ _ rfl rfl) _) (Rds_new _ (encI [1]) 1 1 _ _ rfl (by simp))).mono ?_; rintro e w4 ⟨rfl, hb0⟩
    have hb : Ext w3 w4 := Ext.trans (by (clear kE; repeat (first | exact kE | exact Ext.refl _ | apply Ext.alloc | apply Ext.drewN | apply Ext.drew | apply Ext.set0 | apply Ext.set1 | apply Ext.set2 | apply Ext.set3 | (refine Ext.setk ?_ (by omega) _) | (apply Ext.snoc; assumption)))) hb0
    clear hb0
    have HT := hide (HT.out.ext hb); clear hb; have kT := HT.out; simp only [Tr, Bx, CellsAt, Nat.reduceAdd, Nat.zero_add, and_true] at kT; obtain ⟨⟨⟨kz0, kf0, kc0_0, kc0_1⟩, ⟨kz1, kf1, kc1_0, kc1_1⟩⟩, kE⟩ := kT
    go_wp2_with fail
    refine (WasteOf_any a b [(x, y)] _ 1 _ (by simp) (Rds_new _ (enc2 [(x, y)]) 1 2 _ _ rfl rfl)).mono ?_; rintro e w5 ⟨rfl, hb0⟩
    have hb : Ext w4 w5 := Ext.trans (by (clear kE; repeat (first | exact kE | exact Ext.refl _ | apply Ext.alloc | apply Ext.drewN | apply Ext.drew | apply Ext.set0 | apply Ext.set1 | apply Ext.set2 | apply Ext.set3 | (refine Ext.setk ?_ (by omega) _) | (apply Ext.snoc; assumption)))) hb0
    clear hb0
    have HT := hide (HT.out.ext hb); clear hb; have kT := HT.out; simp only [Tr, Bx, CellsAt, Nat.reduceAdd, Nat.zero_add, and_true] at kT; obtain ⟨⟨⟨kz0, kf0, kc0_0, kc0_1⟩, ⟨kz1, kf1, kc1_0, kc1_1⟩⟩, kE⟩ := kT
    go_wp2_with fail
    refine (at_any l A c 0 _ hm (by omega) (HR.out.ext kE)).mono ?_; rintro e w' ⟨q0, rfl, hq0, hq0', rfl⟩
    have m0 : 0 ≤ q0 % 8 := Int.emod_nonneg _ (by omega)
    have m0' : q0 % 8 < 8 := Int.emod_lt_of_pos _ (by omega)
    go_wp2_with fail
    refine (at_any l A c 1 _ hm (by omega) (HR.out.ext kE)).mono ?_; rintro e w' ⟨q1, rfl, hq1, hq1', rfl⟩
    have m1 : 0 ≤ q1 % 8 := Int.emod_nonneg _ (by omega)
    have m1' : q1 % 8 < 8 := Int.emod_lt_of_pos _ (by omega)
    go_wp2_with fail
    obtain ⟨u, hu⟩ : ∃ u, u = 1 + q0 % 8 := ⟨_, rfl⟩
    obtain ⟨v, hv⟩ : ∃ v, v = 1 + q1 % 8 := ⟨_, rfl⟩
    rw [← hu, ← hv]
    have hq : 1 ≤ u ∧ u ≤ 8 ∧ 1 ≤ v ∧ v ≤ 8 := ⟨by omega, by omega, by omega, by omega⟩
    clear hu hv m0 m0' m1 m1'
    obtain ⟨w6, hw⟩ : ∃ w1, w1 = w5.alloc (Obj.cells #[Value.int IntKind.i64 u, Value.int IntKind.i64 v] 25) := ⟨_, rfl⟩; rw [← hw]; have Hw6 := hide (show Ext w5 w6 from (by (rw [hw]; (try clear kE); repeat (first | exact kE | exact Ext.refl _ | apply Ext.alloc | apply Ext.drewN | apply Ext.drew | apply Ext.set0 | apply Ext.set1 | apply Ext.set2 | apply Ext.set3 | (refine Ext.setk ?_ (by omega) _) | (apply Ext.snoc; assumption))))); have HT := hide (HT.out.more Hw6.out (w5.heap.size) [.int .i64 u, .int .i64 v] (by (rw [hw]; first | (simp [CellsAt, go_sem, *]; done) | (simp [CellsAt, go_sem, *]; omega)))); have Zw6 := hide (congrArg (fun z : World => z.heap.size) hw); clear hw kz0 kf0 kc0_0 kc0_1 kz1 kf1 kc1_0 kc1_1 kE; have kT := HT.out; simp only [Tr, Bx, CellsAt, Nat.reduceAdd, Nat.zero_add, and_true] at kT; obtain ⟨⟨⟨kz0, kf0, kc0_0, kc0_1⟩, ⟨kz1, kf1, kc1_0, kc1_1⟩, ⟨kz2, kf2, kc2_0, kc2_1⟩⟩, kE⟩ := kT
    have K := hide (sheets_law (a := a) (b := b) (x := x) (y := y) (u := u) (v := v) hs hp hq)
    refine (BestValue_any a b [(x, y), (u, v)] _ 2 [1, 1] _ 2 _ (by simp) (by simp) (Rds.alloc (Rds_new _ (enc2 [(x, y), (u, v)]) 2 2 _ _ rfl (by have := Zw6.out; simp at this; omega)) _) (Rds_new _ (encI [1, 1]) 2 1 _ _ rfl (by have := Zw6.out; simp at this; simp; omega))).mono ?_; rintro e w7 ⟨rfl, hb0⟩
    have hb : Ext w6 w7 := Ext.trans (by (clear kE; repeat (first | exact kE | exact Ext.refl _ | apply Ext.alloc | apply Ext.drewN | apply Ext.drew | apply Ext.set0 | apply Ext.set1 | apply Ext.set2 | apply Ext.set3 | (refine Ext.setk ?_ (by omega) _) | (apply Ext.snoc; assumption)))) hb0
    clear hb0
    have HT := hide (HT.out.ext hb); clear hb; have kT := HT.out; simp only [Tr, Bx, CellsAt, Nat.reduceAdd, Nat.zero_add, and_true] at kT; obtain ⟨⟨⟨kz0, kf0, kc0_0, kc0_1⟩, ⟨kz1, kf1, kc1_0, kc1_1⟩, ⟨kz2, kf2, kc2_0, kc2_1⟩⟩, kE⟩ := kT
    go_wp2_with fail
    refine (WasteOf_any a b [(x, y), (u, v)] _ 2 _ (by simp) (Rds_new _ (enc2 [(x, y), (u, v)]) 2 2 _ _ rfl rfl)).mono ?_; rintro e w8 ⟨rfl, hb0⟩
    have hb : Ext w7 w8 := Ext.trans (by (clear kE; repeat (first | exact kE | exact Ext.refl _ | apply Ext.alloc | apply Ext.drewN | apply Ext.drew | apply Ext.set0 | apply Ext.set1 | apply Ext.set2 | apply Ext.set3 | (refine Ext.setk ?_ (by omega) _) | (apply Ext.snoc; assumption)))) hb0
    clear hb0
    have HT := hide (HT.out.ext hb); clear hb; have kT := HT.out; simp only [Tr, Bx, CellsAt, Nat.reduceAdd, Nat.zero_add, and_true] at kT; obtain ⟨⟨⟨kz0, kf0, kc0_0, kc0_1⟩, ⟨kz1, kf1, kc1_0, kc1_1⟩, ⟨kz2, kf2, kc2_0, kc2_1⟩⟩, kE⟩ := kT
    go_wp2_with fail
    refine (FewestCuts_any _ _ _ _ _).mono ?_; rintro e w9 ⟨rfl, hb0⟩
    have hb : Ext w8 w9 := Ext.trans (by (clear kE; repeat (first | exact kE | exact Ext.refl _ | apply Ext.alloc | apply Ext.drewN | apply Ext.drew | apply Ext.set0 | apply Ext.set1 | apply Ext.set2 | apply Ext.set3 | (refine Ext.setk ?_ (by omega) _) | (apply Ext.snoc; assumption)))) hb0
    clear hb0
    have HT := hide (HT.out.ext hb); clear hb; have kT := HT.out; simp only [Tr, Bx, CellsAt, Nat.reduceAdd, Nat.zero_add, and_true] at kT; obtain ⟨⟨⟨kz0, kf0, kc0_0, kc0_1⟩, ⟨kz1, kf1, kc1_0, kc1_1⟩, ⟨kz2, kf2, kc2_0, kc2_1⟩⟩, kE⟩ := kT
    go_wp2_with fail
    refine (FitsSheet_any _ _ _ _ _ _).mono ?_; rintro e w10 ⟨rfl, hb0⟩
    have hb : Ext w9 w10 := Ext.trans (by (clear kE; repeat (first | exact kE | exact Ext.refl _ | apply Ext.alloc | apply Ext.drewN | apply Ext.drew | apply Ext.set0 | apply Ext.set1 | apply Ext.set2 | apply Ext.set3 | (refine Ext.setk ?_ (by omega) _) | (apply Ext.snoc; assumption)))) hb0
    clear hb0
    have HT := hide (HT.out.ext hb); clear hb; have kT := HT.out; simp only [Tr, Bx, CellsAt, Nat.reduceAdd, Nat.zero_add, and_true] at kT; obtain ⟨⟨⟨kz0, kf0, kc0_0, kc0_1⟩, ⟨kz1, kf1, kc1_0, kc1_1⟩, ⟨kz2, kf2, kc2_0, kc2_1⟩⟩, kE⟩ := kT
    go_wp2_with fail
    obtain ⟨w11, hw⟩ : ∃ w1, w1 = w10.alloc (Obj.cells #[Value.int IntKind.i64 y, Value.int IntKind.i64 x] 25) := ⟨_, rfl⟩; rw [← hw]; have Hw11 := hide (show Ext w10 w11 from (by (rw [hw]; (try clear kE); repeat (first | exact kE | exact Ext.refl _ | apply Ext.alloc | apply Ext.drewN | apply Ext.drew | apply Ext.set0 | apply Ext.set1 | apply Ext.set2 | apply Ext.set3 | (refine Ext.setk ?_ (by omega) _) | (apply Ext.snoc; assumption))))); have HT := hide (HT.out.more Hw11.out (w10.heap.size) [.int .i64 y, .int .i64 x] (by (rw [hw]; first | (simp [CellsAt, go_sem, *]; done) | (simp [CellsAt, go_sem, *]; omega)))); have Zw11 := hide (congrArg (fun z : World => z.heap.size) hw); clear hw kz0 kf0 kc0_0 kc0_1 kz1 kf1 kc1_0 kc1_1 kz2 kf2 kc2_0 kc2_1 kE; have kT := HT.out; simp only [Tr, Bx, CellsAt, Nat.reduceAdd, Nat.zero_add, and_true] at kT; obtain ⟨⟨⟨kz0, kf0, kc0_0, kc0_1⟩, ⟨kz1, kf1, kc1_0, kc1_1⟩, ⟨kz2, kf2, kc2_0, kc2_1⟩, ⟨kz3, kf3, kc3_0, kc3_1⟩⟩, kE⟩ := kT
    have ks : sheetOk a b = true := sheetOk_in hs
    refine (SheetOk_any _ _ _).mono ?_; rintro e w12 ⟨rfl, hb⟩
    have HT := hide (HT.out.ext hb); clear hb; have kT := HT.out; simp only [Tr, Bx, CellsAt, Nat.reduceAdd, Nat.zero_add, and_true] at kT; obtain ⟨⟨⟨kz0, kf0, kc0_0, kc0_1⟩, ⟨kz1, kf1, kc1_0, kc1_1⟩, ⟨kz2, kf2, kc2_0, kc2_1⟩, ⟨kz3, kf3, kc3_0, kc3_1⟩⟩, kE⟩ := kT
    rw [ks]
    obtain ⟨one, h1⟩ : ∃ one, one = bestVal a b [(x, y)] [1] := ⟨_, rfl⟩
    obtain ⟨n, h2⟩ : ∃ n, n = most a b x y := ⟨_, rfl⟩
    obtain ⟨waste, h3⟩ : ∃ n, n = wasteVal a b [(x, y)] := ⟨_, rfl⟩
    obtain ⟨both, h4⟩ : ∃ n, n = bestVal a b [(x, y), (u, v)] [1, 1] := ⟨_, rfl⟩
    obtain ⟨less, h5⟩ : ∃ n, n = wasteVal a b [(x, y), (u, v)] := ⟨_, rfl⟩
    obtain ⟨cc, h6⟩ : ∃ n, n = cuts a b x y := ⟨_, rfl⟩
    obtain ⟨fit, h7⟩ : ∃ n, n = fits a b x y true := ⟨_, rfl⟩
    have K2 := K.out
    rw [← h1, ← h2, ← h3, ← h4, ← h5, ← h6, ← h7] at K2
    rw [← h1, ← h2, ← h3, ← h4, ← h5, ← h6, ← h7]
    clear h1 h2 h3 h4 h5 h6 h7 K
    obtain ⟨k1, k2, k3, k4, k5, k6, k7, k8, k9, k10, k11, n0, n1⟩ := K2
    subst k1 k2
    have x1 : 0 ≤ a * b ∧ a * b ≤ 16 * 16 := ⟨Int.mul_nonneg (by omega) (by omega), Int.mul_le_mul (by omega) (by omega) (by omega) (by omega)⟩
    have x2 : 0 ≤ one * x ∧ one * x ≤ 256 * 8 := ⟨Int.mul_nonneg (by omega) (by omega), Int.mul_le_mul (by omega) (by omega) (by omega) (by omega)⟩
    have x3 : 0 ≤ one * x * y ∧ one * x * y ≤ 256 * 8 * 8 := ⟨Int.mul_nonneg (by omega) (by omega), Int.mul_le_mul (by omega) (by omega) (by omega) (by omega)⟩
    have y1 : IntKind.i64.wrap (a * b) = a * b := IntWalk.i64_in _ (by omega)
    have y2 : IntKind.i64.wrap (one * x) = one * x := IntWalk.i64_in _ (by omega)
    have y3 : IntKind.i64.wrap (one * x * y) = one * x * y := IntWalk.i64_in _ (by omega)
    have y4 : IntKind.i64.wrap (a * b - one * x * y) = a * b - one * x * y := IntWalk.i64_in _ (by omega)
    by_cases hn : 0 < one
    · rw [decide_eq_true hn] at k7
      subst k7
      have k8 := of_decide_eq_true k8
      rw [Bool.true_or] at k11
      by_cases hc : cc = 0
      · obtain ⟨e1, e2⟩ := k10.1 hc
        subst e1 e2 hc
        clear k10
        go_wp2_with fail
        refine (MostPieces_any _ _ _ _ _).mono ?_; rintro e w13 ⟨rfl, hb⟩
        have HT := hide (HT.out.ext hb); clear hb; have kT := HT.out; simp only [Tr, Bx, CellsAt, Nat.reduceAdd, Nat.zero_add, and_true] at kT; obtain ⟨⟨⟨kz0, kf0, kc0_0, kc0_1⟩, ⟨kz1, kf1, kc1_0, kc1_1⟩, ⟨kz2, kf2, kc2_0, kc2_1⟩, ⟨kz3, kf3, kc3_0, kc3_1⟩⟩, kE⟩ := kT
        go_wp2_with fail
        refine (FitsSheet_any _ _ _ _ _ _).mono ?_; rintro e w14 ⟨rfl, hb⟩
        have HT := hide (HT.out.ext hb); clear hb; have kT := HT.out; simp only [Tr, Bx, CellsAt, Nat.reduceAdd, Nat.zero_add, and_true] at kT; obtain ⟨⟨⟨kz0, kf0, kc0_0, kc0_1⟩, ⟨kz1, kf1, kc1_0, kc1_1⟩, ⟨kz2, kf2, kc2_0, kc2_1⟩, ⟨kz3, kf3, kc3_0, kc3_1⟩⟩, kE⟩ := kT
        rw [k11]
        go_wp2_with fail
        refine (WasteOf_any _ _ [(1, 1)] _ 1 _ (by simp) (Rds_new _ (enc2 [(1, 1)]) 1 2 _ _ rfl rfl)).mono ?_; rintro e w16 ⟨rfl, hb0⟩
        have hb : Ext w14 w16 := Ext.trans (by (clear kE; repeat (first | exact kE | exact Ext.refl _ | apply Ext.alloc | apply Ext.drewN | apply Ext.drew | apply Ext.set0 | apply Ext.set1 | apply Ext.set2 | apply Ext.set3 | (refine Ext.setk ?_ (by omega) _) | (apply Ext.snoc; assumption)))) hb0
        clear hb0
        have HT := hide (HT.out.ext hb); clear hb; have kT := HT.out; simp only [Tr, Bx, CellsAt, Nat.reduceAdd, Nat.zero_add, and_true] at kT; obtain ⟨⟨⟨kz0, kf0, kc0_0, kc0_1⟩, ⟨kz1, kf1, kc1_0, kc1_1⟩, ⟨kz2, kf2, kc2_0, kc2_1⟩, ⟨kz3, kf3, kc3_0, kc3_1⟩⟩, kE⟩ := kT
        rw [waste_ones hs]
        go_wp2_with fail
        go_ret
        exact ⟨rfl, by repeat (first | exact kE | exact Ext.refl _ | apply Ext.alloc | apply Ext.drewN | apply Ext.drew | apply Ext.set0 | apply Ext.set1 | apply Ext.set2 | apply Ext.set3 | (refine Ext.setk ?_ (by omega) _) | (apply Ext.snoc; assumption))⟩
      · by_cases he : a = x
        · subst he
          have he2 : ¬ b = y := fun e => hc (k10.2 ⟨rfl, e⟩)
          clear k10
          have hcb : (cc == 0) = false := by simpa using hc
          go_wp2_with fail
          refine (MostPieces_any _ _ _ _ _).mono ?_; rintro e w13 ⟨rfl, hb⟩
          have HT := hide (HT.out.ext hb); clear hb; have kT := HT.out; simp only [Tr, Bx, CellsAt, Nat.reduceAdd, Nat.zero_add, and_true] at kT; obtain ⟨⟨⟨kz0, kf0, kc0_0, kc0_1⟩, ⟨kz1, kf1, kc1_0, kc1_1⟩, ⟨kz2, kf2, kc2_0, kc2_1⟩, ⟨kz3, kf3, kc3_0, kc3_1⟩⟩, kE⟩ := kT
          go_wp2_with fail
          refine (FitsSheet_any _ _ _ _ _ _).mono ?_; rintro e w14 ⟨rfl, hb⟩
          have HT := hide (HT.out.ext hb); clear hb; have kT := HT.out; simp only [Tr, Bx, CellsAt, Nat.reduceAdd, Nat.zero_add, and_true] at kT; obtain ⟨⟨⟨kz0, kf0, kc0_0, kc0_1⟩, ⟨kz1, kf1, kc1_0, kc1_1⟩, ⟨kz2, kf2, kc2_0, kc2_1⟩, ⟨kz3, kf3, kc3_0, kc3_1⟩⟩, kE⟩ := kT
          rw [k11]
          go_wp2_with fail
          refine (WasteOf_any _ _ [(1, 1)] _ 1 _ (by simp) (Rds_new _ (enc2 [(1, 1)]) 1 2 _ _ rfl rfl)).mono ?_; rintro e w16 ⟨rfl, hb0⟩
          have hb : Ext w14 w16 := Ext.trans (by (clear kE; repeat (first | exact kE | exact Ext.refl _ | apply Ext.alloc | apply Ext.drewN | apply Ext.drew | apply Ext.set0 | apply Ext.set1 | apply Ext.set2 | apply Ext.set3 | (refine Ext.setk ?_ (by omega) _) | (apply Ext.snoc; assumption)))) hb0
          clear hb0
          have HT := hide (HT.out.ext hb); clear hb; have kT := HT.out; simp only [Tr, Bx, CellsAt, Nat.reduceAdd, Nat.zero_add, and_true] at kT; obtain ⟨⟨⟨kz0, kf0, kc0_0, kc0_1⟩, ⟨kz1, kf1, kc1_0, kc1_1⟩, ⟨kz2, kf2, kc2_0, kc2_1⟩, ⟨kz3, kf3, kc3_0, kc3_1⟩⟩, kE⟩ := kT
          rw [waste_ones hs]
          go_wp2_with fail
          go_ret
          exact ⟨rfl, by repeat (first | exact kE | exact Ext.refl _ | apply Ext.alloc | apply Ext.drewN | apply Ext.drew | apply Ext.set0 | apply Ext.set1 | apply Ext.set2 | apply Ext.set3 | (refine Ext.setk ?_ (by omega) _) | (apply Ext.snoc; assumption))⟩
        · clear k10
          have hcb : (cc == 0) = false := by simpa using hc
          go_wp2_with fail
          refine (MostPieces_any _ _ _ _ _).mono ?_; rintro e w13 ⟨rfl, hb⟩
          have HT := hide (HT.out.ext hb); clear hb; have kT := HT.out; simp only [Tr, Bx, CellsAt, Nat.reduceAdd, Nat.zero_add, and_true] at kT; obtain ⟨⟨⟨kz0, kf0, kc0_0, kc0_1⟩, ⟨kz1, kf1, kc1_0, kc1_1⟩, ⟨kz2, kf2, kc2_0, kc2_1⟩, ⟨kz3, kf3, kc3_0, kc3_1⟩⟩, kE⟩ := kT
          go_wp2_with fail
          refine (FitsSheet_any _ _ _ _ _ _).mono ?_; rintro e w14 ⟨rfl, hb⟩
          have HT := hide (HT.out.ext hb); clear hb; have kT := HT.out; simp only [Tr, Bx, CellsAt, Nat.reduceAdd, Nat.zero_add, and_true] at kT; obtain ⟨⟨⟨kz0, kf0, kc0_0, kc0_1⟩, ⟨kz1, kf1, kc1_0, kc1_1⟩, ⟨kz2, kf2, kc2_0, kc2_1⟩, ⟨kz3, kf3, kc3_0, kc3_1⟩⟩, kE⟩ := kT
          rw [k11]
          go_wp2_with fail
          refine (WasteOf_any _ _ [(1, 1)] _ 1 _ (by simp) (Rds_new _ (enc2 [(1, 1)]) 1 2 _ _ rfl rfl)).mono ?_; rintro e w16 ⟨rfl, hb0⟩
          have hb : Ext w14 w16 := Ext.trans (by (clear kE; repeat (first | exact kE | exact Ext.refl _ | apply Ext.alloc | apply Ext.drewN | apply Ext.drew | apply Ext.set0 | apply Ext.set1 | apply Ext.set2 | apply Ext.set3 | (refine Ext.setk ?_ (by omega) _) | (apply Ext.snoc; assumption)))) hb0
          clear hb0
          have HT := hide (HT.out.ext hb); clear hb; have kT := HT.out; simp only [Tr, Bx, CellsAt, Nat.reduceAdd, Nat.zero_add, and_true] at kT; obtain ⟨⟨⟨kz0, kf0, kc0_0, kc0_1⟩, ⟨kz1, kf1, kc1_0, kc1_1⟩, ⟨kz2, kf2, kc2_0, kc2_1⟩, ⟨kz3, kf3, kc3_0, kc3_1⟩⟩, kE⟩ := kT
          rw [waste_ones hs]
          go_wp2_with fail
          go_ret
          exact ⟨rfl, by repeat (first | exact kE | exact Ext.refl _ | apply Ext.alloc | apply Ext.drewN | apply Ext.drew | apply Ext.set0 | apply Ext.set1 | apply Ext.set2 | apply Ext.set3 | (refine Ext.setk ?_ (by omega) _) | (apply Ext.snoc; assumption))⟩
    · have hnb : decide (0 < one) = false := decide_eq_false hn
      rw [hnb] at k7
      subst k7
      have k8 := of_decide_eq_false k8
      rw [Bool.false_or] at k11
      have hc : ¬ cc = 0 := by omega
      by_cases he : a = x
      · subst he
        have he2 : ¬ b = y := fun e => hc (k10.2 ⟨rfl, e⟩)
        clear k10
        have hcb : (cc == 0) = false := by simpa using hc
        go_wp2_with fail
        refine (MostPieces_any _ _ _ _ _).mono ?_; rintro e w13 ⟨rfl, hb⟩
        have HT := hide (HT.out.ext hb); clear hb; have kT := HT.out; simp only [Tr, Bx, CellsAt, Nat.reduceAdd, Nat.zero_add, and_true] at kT; obtain ⟨⟨⟨kz0, kf0, kc0_0, kc0_1⟩, ⟨kz1, kf1, kc1_0, kc1_1⟩, ⟨kz2, kf2, kc2_0, kc2_1⟩, ⟨kz3, kf3, kc3_0, kc3_1⟩⟩, kE⟩ := kT
        go_wp2_with fail
        refine (FitsSheet_any _ _ _ _ _ _).mono ?_; rintro e w14 ⟨rfl, hb⟩
        have HT := hide (HT.out.ext hb); clear hb; have kT := HT.out; simp only [Tr, Bx, CellsAt, Nat.reduceAdd, Nat.zero_add, and_true] at kT; obtain ⟨⟨⟨kz0, kf0, kc0_0, kc0_1⟩, ⟨kz1, kf1, kc1_0, kc1_1⟩, ⟨kz2, kf2, kc2_0, kc2_1⟩, ⟨kz3, kf3, kc3_0, kc3_1⟩⟩, kE⟩ := kT
        rw [k11]
        go_wp2_with fail
        refine (FitsSheet_any _ _ _ _ _ _).mono ?_; rintro e w15 ⟨rfl, hb⟩
        have HT := hide (HT.out.ext hb); clear hb; have kT := HT.out; simp only [Tr, Bx, CellsAt, Nat.reduceAdd, Nat.zero_add, and_true] at kT; obtain ⟨⟨⟨kz0, kf0, kc0_0, kc0_1⟩, ⟨kz1, kf1, kc1_0, kc1_1⟩, ⟨kz2, kf2, kc2_0, kc2_1⟩, ⟨kz3, kf3, kc3_0, kc3_1⟩⟩, kE⟩ := kT
        obtain ⟨ft, hft⟩ : ∃ ft, ft = fits a b y a true := ⟨_, rfl⟩
        rw [← hft]
        clear hft
        go_wp2_with fail
        refine (WasteOf_any _ _ [(1, 1)] _ 1 _ (by simp) (Rds_new _ (enc2 [(1, 1)]) 1 2 _ _ rfl rfl)).mono ?_; rintro e w16 ⟨rfl, hb0⟩
        have hb : Ext w15 w16 := Ext.trans (by (clear kE; repeat (first | exact kE | exact Ext.refl _ | apply Ext.alloc | apply Ext.drewN | apply Ext.drew | apply Ext.set0 | apply Ext.set1 | apply Ext.set2 | apply Ext.set3 | (refine Ext.setk ?_ (by omega) _) | (apply Ext.snoc; assumption)))) hb0
        clear hb0
        have HT := hide (HT.out.ext hb); clear hb; have kT := HT.out; simp only [Tr, Bx, CellsAt, Nat.reduceAdd, Nat.zero_add, and_true] at kT; obtain ⟨⟨⟨kz0, kf0, kc0_0, kc0_1⟩, ⟨kz1, kf1, kc1_0, kc1_1⟩, ⟨kz2, kf2, kc2_0, kc2_1⟩, ⟨kz3, kf3, kc3_0, kc3_1⟩⟩, kE⟩ := kT
        rw [waste_ones hs]
        go_wp2_with fail
        go_ret
        exact ⟨rfl, by repeat (first | exact kE | exact Ext.refl _ | apply Ext.alloc | apply Ext.drewN | apply Ext.drew | apply Ext.set0 | apply Ext.set1 | apply Ext.set2 | apply Ext.set3 | (refine Ext.setk ?_ (by omega) _) | (apply Ext.snoc; assumption))⟩
      · clear k10
        have hcb : (cc == 0) = false := by simpa using hc
        go_wp2_with fail
        refine (MostPieces_any _ _ _ _ _).mono ?_; rintro e w13 ⟨rfl, hb⟩
        have HT := hide (HT.out.ext hb); clear hb; have kT := HT.out; simp only [Tr, Bx, CellsAt, Nat.reduceAdd, Nat.zero_add, and_true] at kT; obtain ⟨⟨⟨kz0, kf0, kc0_0, kc0_1⟩, ⟨kz1, kf1, kc1_0, kc1_1⟩, ⟨kz2, kf2, kc2_0, kc2_1⟩, ⟨kz3, kf3, kc3_0, kc3_1⟩⟩, kE⟩ := kT
        go_wp2_with fail
        refine (FitsSheet_any _ _ _ _ _ _).mono ?_; rintro e w14 ⟨rfl, hb⟩
        have HT := hide (HT.out.ext hb); clear hb; have kT := HT.out; simp only [Tr, Bx, CellsAt, Nat.reduceAdd, Nat.zero_add, and_true] at kT; obtain ⟨⟨⟨kz0, kf0, kc0_0, kc0_1⟩, ⟨kz1, kf1, kc1_0, kc1_1⟩, ⟨kz2, kf2, kc2_0, kc2_1⟩, ⟨kz3, kf3, kc3_0, kc3_1⟩⟩, kE⟩ := kT
        rw [k11]
        go_wp2_with fail
        refine (FitsSheet_any _ _ _ _ _ _).mono ?_; rintro e w15 ⟨rfl, hb⟩
        have HT := hide (HT.out.ext hb); clear hb; have kT := HT.out; simp only [Tr, Bx, CellsAt, Nat.reduceAdd, Nat.zero_add, and_true] at kT; obtain ⟨⟨⟨kz0, kf0, kc0_0, kc0_1⟩, ⟨kz1, kf1, kc1_0, kc1_1⟩, ⟨kz2, kf2, kc2_0, kc2_1⟩, ⟨kz3, kf3, kc3_0, kc3_1⟩⟩, kE⟩ := kT
        obtain ⟨ft, hft⟩ : ∃ ft, ft = fits a b y x true := ⟨_, rfl⟩
        rw [← hft]
        clear hft
        go_wp2_with fail
        refine (WasteOf_any _ _ [(1, 1)] _ 1 _ (by simp) (Rds_new _ (enc2 [(1, 1)]) 1 2 _ _ rfl rfl)).mono ?_; rintro e w16 ⟨rfl, hb0⟩
        have hb : Ext w15 w16 := Ext.trans (by (clear kE; repeat (first | exact kE | exact Ext.refl _ | apply Ext.alloc | apply Ext.drewN | apply Ext.drew | apply Ext.set0 | apply Ext.set1 | apply Ext.set2 | apply Ext.set3 | (refine Ext.setk ?_ (by omega) _) | (apply Ext.snoc; assumption)))) hb0
        clear hb0
        have HT := hide (HT.out.ext hb); clear hb; have kT := HT.out; simp only [Tr, Bx, CellsAt, Nat.reduceAdd, Nat.zero_add, and_true] at kT; obtain ⟨⟨⟨kz0, kf0, kc0_0, kc0_1⟩, ⟨kz1, kf1, kc1_0, kc1_1⟩, ⟨kz2, kf2, kc2_0, kc2_1⟩, ⟨kz3, kf3, kc3_0, kc3_1⟩⟩, kE⟩ := kT
        rw [waste_ones hs]
        go_wp2_with fail
        go_ret
        exact ⟨rfl, by repeat (first | exact kE | exact Ext.refl _ | apply Ext.alloc | apply Ext.drewN | apply Ext.drew | apply Ext.set0 | apply Ext.set1 | apply Ext.set2 | apply Ext.set3 | (refine Ext.setk ?_ (by omega) _) | (apply Ext.snoc; assumption))⟩
end Go.Proofs.Ytjibcmmnohjhkaa
