/- The walk of the law on stains. Condition: the bytes lie in memory, and the table of powers reads as it was laid. -/
import Derived.Test.YtlpononcpocmoaaDoorDrawA
import Derived.Test.YtlpononcpocmoaaDoorDrawT
import Derived.Test.YtlpononcpocmoaaDoorArgB
import Derived.Test.YtlpononcpocmoaaDoorStainP
set_option linter.unusedSimpArgs false
set_option linter.unusedVariables false
namespace Go.Proofs.YtlpononcpocmoaaDoor
open Go.RowKit

theorem lay_nil : layAllV [] = (1000, 1000, 1000) := by decide
set_option maxRecDepth 100000 in
set_option maxHeartbeats 16000000 in
theorem FnStains_walk (l : List Int) (A : Option Addr) (cc : Nat) (w : World) (hl : l.length ≤ maxLen) (hr : RB w A l) (htab : Lib.TabIs Tryd.prog w "internal/strconv.uint64pow10" .u64 Lib.pow10Tab) :
    Calls Tryd.prog 4 #[.slice A l.length cc] w fun e w' => e = .returned (.bool true) ∧ Ext w w' := by
  have HTAB := hide htab
  clear htab
  by_cases hb : (1048576 : Int) < l.length
  · go_enter Tryd.func4, Tryd.ntmps4
    go_wp2_with fail
    refine (big_any l A cc _ hl).mono ?_; rintro e w1 ⟨rfl, rfl⟩
    rw [decide_eq_true (by omega)]
    go_wp2_with fail
    go_ret
    exact ⟨rfl, by repeat (first | exact kE | exact Ext.refl _ | apply Ext.alloc | apply Ext.drewN | apply Ext.drew | apply Ext.set0 | apply Ext.set1 | apply Ext.set2 | apply Ext.set3 | (refine Ext.setk ?_ (by omega) _) | (apply Ext.snoc; assumption))⟩
  · have HR := hide hr
    clear hr
    have hm : l.length ≤ 1048576 := by omega
    go_enter Tryd.func4, Tryd.ntmps4
    go_wp2_with fail
    refine (big_any l A cc _ hl).mono ?_; rintro e w1 ⟨rfl, rfl⟩
    rw [decide_eq_false (by omega)]
    go_wp2_with fail
    refine (DrawStains_any l A cc _ hm HR.out).mono ?_; rintro e v1 ⟨a, b, c, x, y, z, rfl, hs, ht, hE⟩
    go_wp2_with fail
    obtain ⟨p, hp⟩ : ∃ q, layS a b c x y z = q := ⟨_, rfl⟩
    obtain ⟨p', hp'⟩ : ∃ q, layS x y z a b c = q := ⟨_, rfl⟩
    obtain ⟨q, hq⟩ : ∃ q, layAllV [(a, b, c), (x, y, z)] = q := ⟨_, rfl⟩
    obtain ⟨m, hm50⟩ : ∃ q, mixS a b c x y z 50 = q := ⟨_, rfl⟩
    obtain ⟨o, hm100⟩ : ∃ q, mixS a b c x y z 100 = q := ⟨_, rfl⟩
    obtain ⟨m1, hk50⟩ : ∃ q, mixOk a b c x y z 50 = q := ⟨_, rfl⟩
    obtain ⟨o1, hk100⟩ : ∃ q, mixOk a b c x y z 100 = q := ⟨_, rfl⟩
    obtain ⟨d1, hd1⟩ : ∃ q, darker a b c a b c = q := ⟨_, rfl⟩
    obtain ⟨d2, hd2⟩ : ∃ q, darker a b c x y z = q := ⟨_, rfl⟩
    obtain ⟨d3, hd3⟩ : ∃ q, darker x y z a b c = q := ⟨_, rfl⟩
    have K := stains_law hs ht
    rw [hp, hp', hq, hm50, hm100, hk50, hk100, hd1, hd2, hd3] at K
    obtain ⟨d4, hd4⟩ : ∃ q, darker p.1 p.2.1 p.2.2 a b c = q := ⟨_, rfl⟩
    rw [hd4] at K
    obtain ⟨p1, p2, p3⟩ := p
    obtain ⟨n1, n2, n3⟩ := m
    obtain ⟨k1, k2, k3, l1, l2, l3, k5, k6, k7, j1, j3, k8, k9, k10⟩ := K
    subst k1 k2 k5 k6 k7 k8
    dsimp only at k3 l1 l2 l3 j1 j3 k9 k10 hd4
    have HP := hide hp
    have HP' := hide hp'
    have HQ := hide hq
    have HM := hide hm50
    have HO := hide hm100
    have HK := hide hk50
    have HKO := hide hk100
    have HD1 := hide hd1
    have HD2 := hide hd2
    have HD3 := hide hd3
    have HD4 := hide hd4
    have HOK := hide k3
    have HL := hide (And.intro l1 (And.intro l2 l3))
    have HJ := hide (And.intro j1 j3)
    have HK9 := hide k9
    have HK10 := hide k10
    clear hp hp' hq hm50 hm100 hk50 hk100 hd1 hd2 hd3 hd4 k3 l1 l2 l3 j1 j3 k9 k10
    
    obtain ⟨w2, hw⟩ : ∃ w1, w1 = ((v1.alloc (Obj.cells #[Value.int IntKind.i64 a, Value.int IntKind.i64 b, Value.int IntKind.i64 c] 25)).alloc (Obj.cells #[Value.int IntKind.i64 x, Value.int IntKind.i64 y, Value.int IntKind.i64 z] 25)) := ⟨_, rfl⟩; rw [← hw]; have kT : Tr [(v1.heap.size, [.int .i64 a, .int .i64 b, .int .i64 c]), (v1.heap.size + 1, [.int .i64 x, .int .i64 y, .int .i64 z])] w w2 := (by rw [hw]; exact ⟨by (first | (simp [Bx, CellsAt, go_sem, *]; done) | (simp [Bx, CellsAt, go_sem, *]; omega)), by (repeat (first | exact kE | exact Ext.refl _ | apply Ext.alloc | apply Ext.drewN | apply Ext.drew | apply Ext.set0 | apply Ext.set1 | apply Ext.set2 | apply Ext.set3 | (refine Ext.setk ?_ (by omega) _) | (apply Ext.snoc; assumption)))⟩); have HT := hide kT; clear hw kT; have kT := HT.out; simp only [Tr, Bx, CellsAt, Nat.reduceAdd, Nat.zero_add, and_true] at kT; obtain ⟨⟨⟨kz0, kf0, kc0_0, kc0_1, kc0_2⟩, ⟨kz1, kf1, kc1_0, kc1_1, kc1_2⟩⟩, kE⟩ := kT
    refine (LayStains_any _ _ _ _ _ _ _).mono ?_; rintro e w3 ⟨rfl, hb⟩; have HT := hide (HT.out.ext hb); have Hw3 := hide hb; clear hb; clear kz0 kf0 kc0_0 kc0_1 kc0_2 kz1 kf1 kc1_0 kc1_1 kc1_2 kE; have kT := HT.out; simp only [Tr, Bx, CellsAt, Nat.reduceAdd, Nat.zero_add, and_true] at kT; obtain ⟨⟨⟨kz0, kf0, kc0_0, kc0_1, kc0_2⟩, ⟨kz1, kf1, kc1_0, kc1_1, kc1_2⟩⟩, kE⟩ := kT
    rw [HP.out]
    go_wp2_with fail
    obtain ⟨w4, hw⟩ : ∃ w1, w1 = w3.alloc (Obj.cells #[Value.int IntKind.i64 p1, Value.int IntKind.i64 p2, Value.int IntKind.i64 p3] 25) := ⟨_, rfl⟩; rw [← hw]; have Hw4 := hide (show Ext w3 w4 from (by (rw [hw]; (try clear kE); repeat (first | exact kE | exact Ext.refl _ | apply Ext.alloc | apply Ext.drewN | apply Ext.drew | apply Ext.set0 | apply Ext.set1 | apply Ext.set2 | apply Ext.set3 | (refine Ext.setk ?_ (by omega) _) | (apply Ext.snoc; assumption))))); have HT := hide (HT.out.more Hw4.out (w3.heap.size) [.int .i64 p1, .int .i64 p2, .int .i64 p3] (by (rw [hw]; first | (simp [CellsAt, go_sem, *]; done) | (simp [CellsAt, go_sem, *]; omega)))); have Zw4 := hide (congrArg (fun z : World => z.heap.size) hw); clear hw kz0 kf0 kc0_0 kc0_1 kc0_2 kz1 kf1 kc1_0 kc1_1 kc1_2 kE; have kT := HT.out; simp only [Tr, Bx, CellsAt, Nat.reduceAdd, Nat.zero_add, and_true] at kT; obtain ⟨⟨⟨kz0, kf0, kc0_0, kc0_1, kc0_2⟩, ⟨kz1, kf1, kc1_0, kc1_1, kc1_2⟩, ⟨kz2, kf2, kc2_0, kc2_1, kc2_2⟩⟩, kE⟩ := kT
    refine (LayStains_any _ _ _ _ _ _ _).mono ?_; rintro e w5 ⟨rfl, hb⟩; have HT := hide (HT.out.ext hb); have Hw5 := hide hb; clear hb; clear kz0 kf0 kc0_0 kc0_1 kc0_2 kz1 kf1 kc1_0 kc1_1 kc1_2 kz2 kf2 kc2_0 kc2_1 kc2_2 kE; have kT := HT.out; simp only [Tr, Bx, CellsAt, Nat.reduceAdd, Nat.zero_add, and_true] at kT; obtain ⟨⟨⟨kz0, kf0, kc0_0, kc0_1, kc0_2⟩, ⟨kz1, kf1, kc1_0, kc1_1, kc1_2⟩, ⟨kz2, kf2, kc2_0, kc2_1, kc2_2⟩⟩, kE⟩ := kT
    rw [HP'.out]
    go_wp2_with fail
    obtain ⟨w6, hw⟩ : ∃ w1, w1 = w5.alloc (Obj.cells #[Value.int IntKind.i64 p1, Value.int IntKind.i64 p2, Value.int IntKind.i64 p3] 25) := ⟨_, rfl⟩; rw [← hw]; have Hw6 := hide (show Ext w5 w6 from (by (rw [hw]; (try clear kE); repeat (first | exact kE | exact Ext.refl _ | apply Ext.alloc | apply Ext.drewN | apply Ext.drew | apply Ext.set0 | apply Ext.set1 | apply Ext.set2 | apply Ext.set3 | (refine Ext.setk ?_ (by omega) _) | (apply Ext.snoc; assumption))))); have HT := hide (HT.out.more Hw6.out (w5.heap.size) [.int .i64 p1, .int .i64 p2, .int .i64 p3] (by (rw [hw]; first | (simp [CellsAt, go_sem, *]; done) | (simp [CellsAt, go_sem, *]; omega)))); have Zw6 := hide (congrArg (fun z : World => z.heap.size) hw); clear hw kz0 kf0 kc0_0 kc0_1 kc0_2 kz1 kf1 kc1_0 kc1_1 kc1_2 kz2 kf2 kc2_0 kc2_1 kc2_2 kE; have kT := HT.out; simp only [Tr, Bx, CellsAt, Nat.reduceAdd, Nat.zero_add, and_true] at kT; obtain ⟨⟨⟨kz0, kf0, kc0_0, kc0_1, kc0_2⟩, ⟨kz1, kf1, kc1_0, kc1_1, kc1_2⟩, ⟨kz2, kf2, kc2_0, kc2_1, kc2_2⟩, ⟨kz3, kf3, kc3_0, kc3_1, kc3_2⟩⟩, kE⟩ := kT
    refine (MixStains_any _ _ _ _ _ _ _ _).mono ?_; rintro e w7 ⟨rfl, hb⟩; have HT := hide (HT.out.ext hb); have Hw7 := hide hb; clear hb; clear kz0 kf0 kc0_0 kc0_1 kc0_2 kz1 kf1 kc1_0 kc1_1 kc1_2 kz2 kf2 kc2_0 kc2_1 kc2_2 kz3 kf3 kc3_0 kc3_1 kc3_2 kE; have kT := HT.out; simp only [Tr, Bx, CellsAt, Nat.reduceAdd, Nat.zero_add, and_true] at kT; obtain ⟨⟨⟨kz0, kf0, kc0_0, kc0_1, kc0_2⟩, ⟨kz1, kf1, kc1_0, kc1_1, kc1_2⟩, ⟨kz2, kf2, kc2_0, kc2_1, kc2_2⟩, ⟨kz3, kf3, kc3_0, kc3_1, kc3_2⟩⟩, kE⟩ := kT
    rw [HM.out, HK.out]
    go_wp2_with fail
    obtain ⟨w8, hw⟩ : ∃ w1, w1 = w7.alloc (Obj.cells #[Value.int IntKind.i64 n1, Value.int IntKind.i64 n2, Value.int IntKind.i64 n3] 25) := ⟨_, rfl⟩; rw [← hw]; have Hw8 := hide (show Ext w7 w8 from (by (rw [hw]; (try clear kE); repeat (first | exact kE | exact Ext.refl _ | apply Ext.alloc | apply Ext.drewN | apply Ext.drew | apply Ext.set0 | apply Ext.set1 | apply Ext.set2 | apply Ext.set3 | (refine Ext.setk ?_ (by omega) _) | (apply Ext.snoc; assumption))))); have HT := hide (HT.out.more Hw8.out (w7.heap.size) [.int .i64 n1, .int .i64 n2, .int .i64 n3] (by (rw [hw]; first | (simp [CellsAt, go_sem, *]; done) | (simp [CellsAt, go_sem, *]; omega)))); have Zw8 := hide (congrArg (fun z : World => z.heap.size) hw); clear hw kz0 kf0 kc0_0 kc0_1 kc0_2 kz1 kf1 kc1_0 kc1_1 kc1_2 kz2 kf2 kc2_0 kc2_1 kc2_2 kz3 kf3 kc3_0 kc3_1 kc3_2 kE; have kT := HT.out; simp only [Tr, Bx, CellsAt, Nat.reduceAdd, Nat.zero_add, and_true] at kT; obtain ⟨⟨⟨kz0, kf0, kc0_0, kc0_1, kc0_2⟩, ⟨kz1, kf1, kc1_0, kc1_1, kc1_2⟩, ⟨kz2, kf2, kc2_0, kc2_1, kc2_2⟩, ⟨kz3, kf3, kc3_0, kc3_1, kc3_2⟩, ⟨kz4, kf4, kc4_0, kc4_1, kc4_2⟩⟩, kE⟩ := kT
    refine (MixStains_any _ _ _ _ _ _ _ _).mono ?_; rintro e w9 ⟨rfl, hb⟩; have HT := hide (HT.out.ext hb); have Hw9 := hide hb; clear hb; clear kz0 kf0 kc0_0 kc0_1 kc0_2 kz1 kf1 kc1_0 kc1_1 kc1_2 kz2 kf2 kc2_0 kc2_1 kc2_2 kz3 kf3 kc3_0 kc3_1 kc3_2 kz4 kf4 kc4_0 kc4_1 kc4_2 kE; have kT := HT.out; simp only [Tr, Bx, CellsAt, Nat.reduceAdd, Nat.zero_add, and_true] at kT; obtain ⟨⟨⟨kz0, kf0, kc0_0, kc0_1, kc0_2⟩, ⟨kz1, kf1, kc1_0, kc1_1, kc1_2⟩, ⟨kz2, kf2, kc2_0, kc2_1, kc2_2⟩, ⟨kz3, kf3, kc3_0, kc3_1, kc3_2⟩, ⟨kz4, kf4, kc4_0, kc4_1, kc4_2⟩⟩, kE⟩ := kT
    rw [HO.out, HKO.out]
    go_wp2_with fail
    obtain ⟨w10, hw⟩ : ∃ w1, w1 = w9.alloc (Obj.cells #[Value.int IntKind.i64 a, Value.int IntKind.i64 b, Value.int IntKind.i64 c] 25) := ⟨_, rfl⟩; rw [← hw]; have Hw10 := hide (show Ext w9 w10 from (by (rw [hw]; (try clear kE); repeat (first | exact kE | exact Ext.refl _ | apply Ext.alloc | apply Ext.drewN | apply Ext.drew | apply Ext.set0 | apply Ext.set1 | apply Ext.set2 | apply Ext.set3 | (refine Ext.setk ?_ (by omega) _) | (apply Ext.snoc; assumption))))); have HT := hide (HT.out.more Hw10.out (w9.heap.size) [.int .i64 a, .int .i64 b, .int .i64 c] (by (rw [hw]; first | (simp [CellsAt, go_sem, *]; done) | (simp [CellsAt, go_sem, *]; omega)))); have Zw10 := hide (congrArg (fun z : World => z.heap.size) hw); clear hw kz0 kf0 kc0_0 kc0_1 kc0_2 kz1 kf1 kc1_0 kc1_1 kc1_2 kz2 kf2 kc2_0 kc2_1 kc2_2 kz3 kf3 kc3_0 kc3_1 kc3_2 kz4 kf4 kc4_0 kc4_1 kc4_2 kE; have kT := HT.out; simp only [Tr, Bx, CellsAt, Nat.reduceAdd, Nat.zero_add, and_true] at kT; obtain ⟨⟨⟨kz0, kf0, kc0_0, kc0_1, kc0_2⟩, ⟨kz1, kf1, kc1_0, kc1_1, kc1_2⟩, ⟨kz2, kf2, kc2_0, kc2_1, kc2_2⟩, ⟨kz3, kf3, kc3_0, kc3_1, kc3_2⟩, ⟨kz4, kf4, kc4_0, kc4_1, kc4_2⟩, ⟨kz5, kf5, kc5_0, kc5_1, kc5_2⟩⟩, kE⟩ := kT
    refine (LayAll_any [(a, b, c), (x, y, z)] _ 2 _ (by simp) (Rds_new _ (enc3 [(a, b, c), (x, y, z)]) 2 3 _ _ rfl (by have := Zw10.out; simp at this; omega))).mono ?_; rintro e w11 ⟨rfl, hb0⟩
    have hb : Ext w10 w11 := Ext.trans (by (clear kE; repeat (first | exact kE | exact Ext.refl _ | apply Ext.alloc | apply Ext.drewN | apply Ext.drew | apply Ext.set0 | apply Ext.set1 | apply Ext.set2 | apply Ext.set3 | (refine Ext.setk ?_ (by omega) _) | (apply Ext.snoc; assumption)))) hb0
    clear hb0
    have HT := hide (HT.out.ext hb); clear hb; have kT := HT.out; simp only [Tr, Bx, CellsAt, Nat.reduceAdd, Nat.zero_add, and_true] at kT; obtain ⟨⟨⟨kz0, kf0, kc0_0, kc0_1, kc0_2⟩, ⟨kz1, kf1, kc1_0, kc1_1, kc1_2⟩, ⟨kz2, kf2, kc2_0, kc2_1, kc2_2⟩, ⟨kz3, kf3, kc3_0, kc3_1, kc3_2⟩, ⟨kz4, kf4, kc4_0, kc4_1, kc4_2⟩, ⟨kz5, kf5, kc5_0, kc5_1, kc5_2⟩⟩, kE⟩ := kT
    rw [HQ.out]
    go_wp2_with fail
    obtain ⟨w12, hw⟩ : ∃ w1, w1 = w11.alloc (Obj.cells #[Value.int IntKind.i64 p1, Value.int IntKind.i64 p2, Value.int IntKind.i64 p3] 25) := ⟨_, rfl⟩; rw [← hw]; have Hw12 := hide (show Ext w11 w12 from (by (rw [hw]; (try clear kE); repeat (first | exact kE | exact Ext.refl _ | apply Ext.alloc | apply Ext.drewN | apply Ext.drew | apply Ext.set0 | apply Ext.set1 | apply Ext.set2 | apply Ext.set3 | (refine Ext.setk ?_ (by omega) _) | (apply Ext.snoc; assumption))))); have HT := hide (HT.out.more Hw12.out (w11.heap.size) [.int .i64 p1, .int .i64 p2, .int .i64 p3] (by (rw [hw]; first | (simp [CellsAt, go_sem, *]; done) | (simp [CellsAt, go_sem, *]; omega)))); have Zw12 := hide (congrArg (fun z : World => z.heap.size) hw); clear hw kz0 kf0 kc0_0 kc0_1 kc0_2 kz1 kf1 kc1_0 kc1_1 kc1_2 kz2 kf2 kc2_0 kc2_1 kc2_2 kz3 kf3 kc3_0 kc3_1 kc3_2 kz4 kf4 kc4_0 kc4_1 kc4_2 kz5 kf5 kc5_0 kc5_1 kc5_2 kE; have kT := HT.out; simp only [Tr, Bx, CellsAt, Nat.reduceAdd, Nat.zero_add, and_true] at kT; obtain ⟨⟨⟨kz0, kf0, kc0_0, kc0_1, kc0_2⟩, ⟨kz1, kf1, kc1_0, kc1_1, kc1_2⟩, ⟨kz2, kf2, kc2_0, kc2_1, kc2_2⟩, ⟨kz3, kf3, kc3_0, kc3_1, kc3_2⟩, ⟨kz4, kf4, kc4_0, kc4_1, kc4_2⟩, ⟨kz5, kf5, kc5_0, kc5_1, kc5_2⟩, ⟨kz6, kf6, kc6_0, kc6_1, kc6_2⟩⟩, kE⟩ := kT
    refine (StainOk_any _ _ _ _).mono ?_; rintro e w13 ⟨rfl, hb⟩; have HT := hide (HT.out.ext hb); have Hw13 := hide hb; clear hb; clear kz0 kf0 kc0_0 kc0_1 kc0_2 kz1 kf1 kc1_0 kc1_1 kc1_2 kz2 kf2 kc2_0 kc2_1 kc2_2 kz3 kf3 kc3_0 kc3_1 kc3_2 kz4 kf4 kc4_0 kc4_1 kc4_2 kz5 kf5 kc5_0 kc5_1 kc5_2 kz6 kf6 kc6_0 kc6_1 kc6_2 kE; have kT := HT.out; simp only [Tr, Bx, CellsAt, Nat.reduceAdd, Nat.zero_add, and_true] at kT; obtain ⟨⟨⟨kz0, kf0, kc0_0, kc0_1, kc0_2⟩, ⟨kz1, kf1, kc1_0, kc1_1, kc1_2⟩, ⟨kz2, kf2, kc2_0, kc2_1, kc2_2⟩, ⟨kz3, kf3, kc3_0, kc3_1, kc3_2⟩, ⟨kz4, kf4, kc4_0, kc4_1, kc4_2⟩, ⟨kz5, kf5, kc5_0, kc5_1, kc5_2⟩, ⟨kz6, kf6, kc6_0, kc6_1, kc6_2⟩⟩, kE⟩ := kT
    rw [HOK.out]
    obtain ⟨⟨q1, q2⟩, ⟨q3, q4⟩, ⟨q5, q6⟩⟩ := HL.out
    have hm1 : p1 ≤ min a x := by omega
    have hm2 : p2 ≤ min b y := by omega
    have hm3 : p3 ≤ min c z := by omega
    obtain ⟨⟨j1, j2⟩, ⟨j3, j4⟩⟩ := HJ.out
    have hn1 : min a x ≤ n1 := by omega
    have hn2 : n1 ≤ max a x := by omega
    have hn3 : min c z ≤ n3 := by omega
    have hn4 : n3 ≤ max c z := by omega
    clear q1 q2 q3 q4 q5 q6 j1 j2 j3 j4
    by_cases e1 : a = p1
    · subst e1
      by_cases e2 : b = p2
      · subst e2
        by_cases e3 : c = p3
        · subst e3
          go_wp2_with fail
          refine (IsDarker_any _ _ _ _ _ _ _).mono ?_; rintro e w14 ⟨rfl, hb⟩; have HT := hide (HT.out.ext hb); have Hw14 := hide hb; clear hb; clear kz0 kf0 kc0_0 kc0_1 kc0_2 kz1 kf1 kc1_0 kc1_1 kc1_2 kz2 kf2 kc2_0 kc2_1 kc2_2 kz3 kf3 kc3_0 kc3_1 kc3_2 kz4 kf4 kc4_0 kc4_1 kc4_2 kz5 kf5 kc5_0 kc5_1 kc5_2 kz6 kf6 kc6_0 kc6_1 kc6_2 kE; have kT := HT.out; simp only [Tr, Bx, CellsAt, Nat.reduceAdd, Nat.zero_add, and_true] at kT; obtain ⟨⟨⟨kz0, kf0, kc0_0, kc0_1, kc0_2⟩, ⟨kz1, kf1, kc1_0, kc1_1, kc1_2⟩, ⟨kz2, kf2, kc2_0, kc2_1, kc2_2⟩, ⟨kz3, kf3, kc3_0, kc3_1, kc3_2⟩, ⟨kz4, kf4, kc4_0, kc4_1, kc4_2⟩, ⟨kz5, kf5, kc5_0, kc5_1, kc5_2⟩, ⟨kz6, kf6, kc6_0, kc6_1, kc6_2⟩⟩, kE⟩ := kT
          rw [HD1.out]
          go_wp2_with fail
          refine (IsDarker_any _ _ _ _ _ _ _).mono ?_; rintro e w15 ⟨rfl, hb⟩; have HT := hide (HT.out.ext hb); have Hw15 := hide hb; clear hb; clear kz0 kf0 kc0_0 kc0_1 kc0_2 kz1 kf1 kc1_0 kc1_1 kc1_2 kz2 kf2 kc2_0 kc2_1 kc2_2 kz3 kf3 kc3_0 kc3_1 kc3_2 kz4 kf4 kc4_0 kc4_1 kc4_2 kz5 kf5 kc5_0 kc5_1 kc5_2 kz6 kf6 kc6_0 kc6_1 kc6_2 kE; have kT := HT.out; simp only [Tr, Bx, CellsAt, Nat.reduceAdd, Nat.zero_add, and_true] at kT; obtain ⟨⟨⟨kz0, kf0, kc0_0, kc0_1, kc0_2⟩, ⟨kz1, kf1, kc1_0, kc1_1, kc1_2⟩, ⟨kz2, kf2, kc2_0, kc2_1, kc2_2⟩, ⟨kz3, kf3, kc3_0, kc3_1, kc3_2⟩, ⟨kz4, kf4, kc4_0, kc4_1, kc4_2⟩, ⟨kz5, kf5, kc5_0, kc5_1, kc5_2⟩, ⟨kz6, kf6, kc6_0, kc6_1, kc6_2⟩⟩, kE⟩ := kT
          rw [HD2.out]
          cases d2
          · go_wp2_with fail
            refine (StainText_any 1 0 20 _ (TabExt HTAB.out kE)).mono ?_; rintro e w20 ⟨rfl, hb⟩; have HT := hide (HT.out.ext hb); have Hw20 := hide hb; clear hb; clear kz0 kf0 kc0_0 kc0_1 kc0_2 kz1 kf1 kc1_0 kc1_1 kc1_2 kz2 kf2 kc2_0 kc2_1 kc2_2 kz3 kf3 kc3_0 kc3_1 kc3_2 kz4 kf4 kc4_0 kc4_1 kc4_2 kz5 kf5 kc5_0 kc5_1 kc5_2 kz6 kf6 kc6_0 kc6_1 kc6_2 kE; have kT := HT.out; simp only [Tr, Bx, CellsAt, Nat.reduceAdd, Nat.zero_add, and_true] at kT; obtain ⟨⟨⟨kz0, kf0, kc0_0, kc0_1, kc0_2⟩, ⟨kz1, kf1, kc1_0, kc1_1, kc1_2⟩, ⟨kz2, kf2, kc2_0, kc2_1, kc2_2⟩, ⟨kz3, kf3, kc3_0, kc3_1, kc3_2⟩, ⟨kz4, kf4, kc4_0, kc4_1, kc4_2⟩, ⟨kz5, kf5, kc5_0, kc5_1, kc5_2⟩, ⟨kz6, kf6, kc6_0, kc6_1, kc6_2⟩⟩, kE⟩ := kT
            rw [text_fixed]
            go_wp2_with fail
            refine (LayAll_any [] none 0 _ (by simp) Rds.nil_).mono ?_; rintro e w21 ⟨rfl, hb⟩; have HT := hide (HT.out.ext hb); have Hw21 := hide hb; clear hb; clear kz0 kf0 kc0_0 kc0_1 kc0_2 kz1 kf1 kc1_0 kc1_1 kc1_2 kz2 kf2 kc2_0 kc2_1 kc2_2 kz3 kf3 kc3_0 kc3_1 kc3_2 kz4 kf4 kc4_0 kc4_1 kc4_2 kz5 kf5 kc5_0 kc5_1 kc5_2 kz6 kf6 kc6_0 kc6_1 kc6_2 kE; have kT := HT.out; simp only [Tr, Bx, CellsAt, Nat.reduceAdd, Nat.zero_add, and_true] at kT; obtain ⟨⟨⟨kz0, kf0, kc0_0, kc0_1, kc0_2⟩, ⟨kz1, kf1, kc1_0, kc1_1, kc1_2⟩, ⟨kz2, kf2, kc2_0, kc2_1, kc2_2⟩, ⟨kz3, kf3, kc3_0, kc3_1, kc3_2⟩, ⟨kz4, kf4, kc4_0, kc4_1, kc4_2⟩, ⟨kz5, kf5, kc5_0, kc5_1, kc5_2⟩, ⟨kz6, kf6, kc6_0, kc6_1, kc6_2⟩⟩, kE⟩ := kT
            rw [lay_nil]
            go_wp2_with fail
            go_ret
            exact ⟨rfl, by repeat (first | exact kE | exact Ext.refl _ | apply Ext.alloc | apply Ext.drewN | apply Ext.drew | apply Ext.set0 | apply Ext.set1 | apply Ext.set2 | apply Ext.set3 | (refine Ext.setk ?_ (by omega) _) | (apply Ext.snoc; assumption))⟩
          · go_wp2_with fail
            refine (IsDarker_any _ _ _ _ _ _ _).mono ?_; rintro e w16 ⟨rfl, hb⟩; have HT := hide (HT.out.ext hb); have Hw16 := hide hb; clear hb; clear kz0 kf0 kc0_0 kc0_1 kc0_2 kz1 kf1 kc1_0 kc1_1 kc1_2 kz2 kf2 kc2_0 kc2_1 kc2_2 kz3 kf3 kc3_0 kc3_1 kc3_2 kz4 kf4 kc4_0 kc4_1 kc4_2 kz5 kf5 kc5_0 kc5_1 kc5_2 kz6 kf6 kc6_0 kc6_1 kc6_2 kE; have kT := HT.out; simp only [Tr, Bx, CellsAt, Nat.reduceAdd, Nat.zero_add, and_true] at kT; obtain ⟨⟨⟨kz0, kf0, kc0_0, kc0_1, kc0_2⟩, ⟨kz1, kf1, kc1_0, kc1_1, kc1_2⟩, ⟨kz2, kf2, kc2_0, kc2_1, kc2_2⟩, ⟨kz3, kf3, kc3_0, kc3_1, kc3_2⟩, ⟨kz4, kf4, kc4_0, kc4_1, kc4_2⟩, ⟨kz5, kf5, kc5_0, kc5_1, kc5_2⟩, ⟨kz6, kf6, kc6_0, kc6_1, kc6_2⟩⟩, kE⟩ := kT
            rw [HD3.out]
            cases d3
            · go_wp2_with fail
              refine (StainText_any 1 0 20 _ (TabExt HTAB.out kE)).mono ?_; rintro e w20 ⟨rfl, hb⟩; have HT := hide (HT.out.ext hb); have Hw20 := hide hb; clear hb; clear kz0 kf0 kc0_0 kc0_1 kc0_2 kz1 kf1 kc1_0 kc1_1 kc1_2 kz2 kf2 kc2_0 kc2_1 kc2_2 kz3 kf3 kc3_0 kc3_1 kc3_2 kz4 kf4 kc4_0 kc4_1 kc4_2 kz5 kf5 kc5_0 kc5_1 kc5_2 kz6 kf6 kc6_0 kc6_1 kc6_2 kE; have kT := HT.out; simp only [Tr, Bx, CellsAt, Nat.reduceAdd, Nat.zero_add, and_true] at kT; obtain ⟨⟨⟨kz0, kf0, kc0_0, kc0_1, kc0_2⟩, ⟨kz1, kf1, kc1_0, kc1_1, kc1_2⟩, ⟨kz2, kf2, kc2_0, kc2_1, kc2_2⟩, ⟨kz3, kf3, kc3_0, kc3_1, kc3_2⟩, ⟨kz4, kf4, kc4_0, kc4_1, kc4_2⟩, ⟨kz5, kf5, kc5_0, kc5_1, kc5_2⟩, ⟨kz6, kf6, kc6_0, kc6_1, kc6_2⟩⟩, kE⟩ := kT
              rw [text_fixed]
              go_wp2_with fail
              refine (LayAll_any [] none 0 _ (by simp) Rds.nil_).mono ?_; rintro e w21 ⟨rfl, hb⟩; have HT := hide (HT.out.ext hb); have Hw21 := hide hb; clear hb; clear kz0 kf0 kc0_0 kc0_1 kc0_2 kz1 kf1 kc1_0 kc1_1 kc1_2 kz2 kf2 kc2_0 kc2_1 kc2_2 kz3 kf3 kc3_0 kc3_1 kc3_2 kz4 kf4 kc4_0 kc4_1 kc4_2 kz5 kf5 kc5_0 kc5_1 kc5_2 kz6 kf6 kc6_0 kc6_1 kc6_2 kE; have kT := HT.out; simp only [Tr, Bx, CellsAt, Nat.reduceAdd, Nat.zero_add, and_true] at kT; obtain ⟨⟨⟨kz0, kf0, kc0_0, kc0_1, kc0_2⟩, ⟨kz1, kf1, kc1_0, kc1_1, kc1_2⟩, ⟨kz2, kf2, kc2_0, kc2_1, kc2_2⟩, ⟨kz3, kf3, kc3_0, kc3_1, kc3_2⟩, ⟨kz4, kf4, kc4_0, kc4_1, kc4_2⟩, ⟨kz5, kf5, kc5_0, kc5_1, kc5_2⟩, ⟨kz6, kf6, kc6_0, kc6_1, kc6_2⟩⟩, kE⟩ := kT
              rw [lay_nil]
              go_wp2_with fail
              go_ret
              exact ⟨rfl, by repeat (first | exact kE | exact Ext.refl _ | apply Ext.alloc | apply Ext.drewN | apply Ext.drew | apply Ext.set0 | apply Ext.set1 | apply Ext.set2 | apply Ext.set3 | (refine Ext.setk ?_ (by omega) _) | (apply Ext.snoc; assumption))⟩
            · exact (HK9.out (by simp)).elim
        · have hd4 : d4 = true := HK10.out.resolve_left (fun h => e3 h.2.2.symm)
          subst hd4
          have e3 : ¬ p3 = c := fun h => e3 h.symm
          go_wp2_with fail
          refine (IsDarker_any _ _ _ _ _ _ _).mono ?_; rintro e w14 ⟨rfl, hb⟩; have HT := hide (HT.out.ext hb); have Hw14 := hide hb; clear hb; clear kz0 kf0 kc0_0 kc0_1 kc0_2 kz1 kf1 kc1_0 kc1_1 kc1_2 kz2 kf2 kc2_0 kc2_1 kc2_2 kz3 kf3 kc3_0 kc3_1 kc3_2 kz4 kf4 kc4_0 kc4_1 kc4_2 kz5 kf5 kc5_0 kc5_1 kc5_2 kz6 kf6 kc6_0 kc6_1 kc6_2 kE; have kT := HT.out; simp only [Tr, Bx, CellsAt, Nat.reduceAdd, Nat.zero_add, and_true] at kT; obtain ⟨⟨⟨kz0, kf0, kc0_0, kc0_1, kc0_2⟩, ⟨kz1, kf1, kc1_0, kc1_1, kc1_2⟩, ⟨kz2, kf2, kc2_0, kc2_1, kc2_2⟩, ⟨kz3, kf3, kc3_0, kc3_1, kc3_2⟩, ⟨kz4, kf4, kc4_0, kc4_1, kc4_2⟩, ⟨kz5, kf5, kc5_0, kc5_1, kc5_2⟩, ⟨kz6, kf6, kc6_0, kc6_1, kc6_2⟩⟩, kE⟩ := kT
          rw [HD1.out]
          go_wp2_with fail
          refine (IsDarker_any _ _ _ _ _ _ _).mono ?_; rintro e w15 ⟨rfl, hb⟩; have HT := hide (HT.out.ext hb); have Hw15 := hide hb; clear hb; clear kz0 kf0 kc0_0 kc0_1 kc0_2 kz1 kf1 kc1_0 kc1_1 kc1_2 kz2 kf2 kc2_0 kc2_1 kc2_2 kz3 kf3 kc3_0 kc3_1 kc3_2 kz4 kf4 kc4_0 kc4_1 kc4_2 kz5 kf5 kc5_0 kc5_1 kc5_2 kz6 kf6 kc6_0 kc6_1 kc6_2 kE; have kT := HT.out; simp only [Tr, Bx, CellsAt, Nat.reduceAdd, Nat.zero_add, and_true] at kT; obtain ⟨⟨⟨kz0, kf0, kc0_0, kc0_1, kc0_2⟩, ⟨kz1, kf1, kc1_0, kc1_1, kc1_2⟩, ⟨kz2, kf2, kc2_0, kc2_1, kc2_2⟩, ⟨kz3, kf3, kc3_0, kc3_1, kc3_2⟩, ⟨kz4, kf4, kc4_0, kc4_1, kc4_2⟩, ⟨kz5, kf5, kc5_0, kc5_1, kc5_2⟩, ⟨kz6, kf6, kc6_0, kc6_1, kc6_2⟩⟩, kE⟩ := kT
          rw [HD2.out]
          cases d2
          · go_wp2_with fail
            refine (IsDarker_any _ _ _ _ _ _ _).mono ?_; rintro e w19 ⟨rfl, hb⟩; have HT := hide (HT.out.ext hb); have Hw19 := hide hb; clear hb; clear kz0 kf0 kc0_0 kc0_1 kc0_2 kz1 kf1 kc1_0 kc1_1 kc1_2 kz2 kf2 kc2_0 kc2_1 kc2_2 kz3 kf3 kc3_0 kc3_1 kc3_2 kz4 kf4 kc4_0 kc4_1 kc4_2 kz5 kf5 kc5_0 kc5_1 kc5_2 kz6 kf6 kc6_0 kc6_1 kc6_2 kE; have kT := HT.out; simp only [Tr, Bx, CellsAt, Nat.reduceAdd, Nat.zero_add, and_true] at kT; obtain ⟨⟨⟨kz0, kf0, kc0_0, kc0_1, kc0_2⟩, ⟨kz1, kf1, kc1_0, kc1_1, kc1_2⟩, ⟨kz2, kf2, kc2_0, kc2_1, kc2_2⟩, ⟨kz3, kf3, kc3_0, kc3_1, kc3_2⟩, ⟨kz4, kf4, kc4_0, kc4_1, kc4_2⟩, ⟨kz5, kf5, kc5_0, kc5_1, kc5_2⟩, ⟨kz6, kf6, kc6_0, kc6_1, kc6_2⟩⟩, kE⟩ := kT
            rw [HD4.out]
            go_wp2_with fail
            refine (StainText_any 1 0 20 _ (TabExt HTAB.out kE)).mono ?_; rintro e w20 ⟨rfl, hb⟩; have HT := hide (HT.out.ext hb); have Hw20 := hide hb; clear hb; clear kz0 kf0 kc0_0 kc0_1 kc0_2 kz1 kf1 kc1_0 kc1_1 kc1_2 kz2 kf2 kc2_0 kc2_1 kc2_2 kz3 kf3 kc3_0 kc3_1 kc3_2 kz4 kf4 kc4_0 kc4_1 kc4_2 kz5 kf5 kc5_0 kc5_1 kc5_2 kz6 kf6 kc6_0 kc6_1 kc6_2 kE; have kT := HT.out; simp only [Tr, Bx, CellsAt, Nat.reduceAdd, Nat.zero_add, and_true] at kT; obtain ⟨⟨⟨kz0, kf0, kc0_0, kc0_1, kc0_2⟩, ⟨kz1, kf1, kc1_0, kc1_1, kc1_2⟩, ⟨kz2, kf2, kc2_0, kc2_1, kc2_2⟩, ⟨kz3, kf3, kc3_0, kc3_1, kc3_2⟩, ⟨kz4, kf4, kc4_0, kc4_1, kc4_2⟩, ⟨kz5, kf5, kc5_0, kc5_1, kc5_2⟩, ⟨kz6, kf6, kc6_0, kc6_1, kc6_2⟩⟩, kE⟩ := kT
            rw [text_fixed]
            go_wp2_with fail
            refine (LayAll_any [] none 0 _ (by simp) Rds.nil_).mono ?_; rintro e w21 ⟨rfl, hb⟩; have HT := hide (HT.out.ext hb); have Hw21 := hide hb; clear hb; clear kz0 kf0 kc0_0 kc0_1 kc0_2 kz1 kf1 kc1_0 kc1_1 kc1_2 kz2 kf2 kc2_0 kc2_1 kc2_2 kz3 kf3 kc3_0 kc3_1 kc3_2 kz4 kf4 kc4_0 kc4_1 kc4_2 kz5 kf5 kc5_0 kc5_1 kc5_2 kz6 kf6 kc6_0 kc6_1 kc6_2 kE; have kT := HT.out; simp only [Tr, Bx, CellsAt, Nat.reduceAdd, Nat.zero_add, and_true] at kT; obtain ⟨⟨⟨kz0, kf0, kc0_0, kc0_1, kc0_2⟩, ⟨kz1, kf1, kc1_0, kc1_1, kc1_2⟩, ⟨kz2, kf2, kc2_0, kc2_1, kc2_2⟩, ⟨kz3, kf3, kc3_0, kc3_1, kc3_2⟩, ⟨kz4, kf4, kc4_0, kc4_1, kc4_2⟩, ⟨kz5, kf5, kc5_0, kc5_1, kc5_2⟩, ⟨kz6, kf6, kc6_0, kc6_1, kc6_2⟩⟩, kE⟩ := kT
            rw [lay_nil]
            go_wp2_with fail
            go_ret
            exact ⟨rfl, by repeat (first | exact kE | exact Ext.refl _ | apply Ext.alloc | apply Ext.drewN | apply Ext.drew | apply Ext.set0 | apply Ext.set1 | apply Ext.set2 | apply Ext.set3 | (refine Ext.setk ?_ (by omega) _) | (apply Ext.snoc; assumption))⟩
          · go_wp2_with fail
            refine (IsDarker_any _ _ _ _ _ _ _).mono ?_; rintro e w16 ⟨rfl, hb⟩; have HT := hide (HT.out.ext hb); have Hw16 := hide hb; clear hb; clear kz0 kf0 kc0_0 kc0_1 kc0_2 kz1 kf1 kc1_0 kc1_1 kc1_2 kz2 kf2 kc2_0 kc2_1 kc2_2 kz3 kf3 kc3_0 kc3_1 kc3_2 kz4 kf4 kc4_0 kc4_1 kc4_2 kz5 kf5 kc5_0 kc5_1 kc5_2 kz6 kf6 kc6_0 kc6_1 kc6_2 kE; have kT := HT.out; simp only [Tr, Bx, CellsAt, Nat.reduceAdd, Nat.zero_add, and_true] at kT; obtain ⟨⟨⟨kz0, kf0, kc0_0, kc0_1, kc0_2⟩, ⟨kz1, kf1, kc1_0, kc1_1, kc1_2⟩, ⟨kz2, kf2, kc2_0, kc2_1, kc2_2⟩, ⟨kz3, kf3, kc3_0, kc3_1, kc3_2⟩, ⟨kz4, kf4, kc4_0, kc4_1, kc4_2⟩, ⟨kz5, kf5, kc5_0, kc5_1, kc5_2⟩, ⟨kz6, kf6, kc6_0, kc6_1, kc6_2⟩⟩, kE⟩ := kT
            rw [HD3.out]
            cases d3
            · go_wp2_with fail
              refine (IsDarker_any _ _ _ _ _ _ _).mono ?_; rintro e w19 ⟨rfl, hb⟩; have HT := hide (HT.out.ext hb); have Hw19 := hide hb; clear hb; clear kz0 kf0 kc0_0 kc0_1 kc0_2 kz1 kf1 kc1_0 kc1_1 kc1_2 kz2 kf2 kc2_0 kc2_1 kc2_2 kz3 kf3 kc3_0 kc3_1 kc3_2 kz4 kf4 kc4_0 kc4_1 kc4_2 kz5 kf5 kc5_0 kc5_1 kc5_2 kz6 kf6 kc6_0 kc6_1 kc6_2 kE; have kT := HT.out; simp only [Tr, Bx, CellsAt, Nat.reduceAdd, Nat.zero_add, and_true] at kT; obtain ⟨⟨⟨kz0, kf0, kc0_0, kc0_1, kc0_2⟩, ⟨kz1, kf1, kc1_0, kc1_1, kc1_2⟩, ⟨kz2, kf2, kc2_0, kc2_1, kc2_2⟩, ⟨kz3, kf3, kc3_0, kc3_1, kc3_2⟩, ⟨kz4, kf4, kc4_0, kc4_1, kc4_2⟩, ⟨kz5, kf5, kc5_0, kc5_1, kc5_2⟩, ⟨kz6, kf6, kc6_0, kc6_1, kc6_2⟩⟩, kE⟩ := kT
              rw [HD4.out]
              go_wp2_with fail
              refine (StainText_any 1 0 20 _ (TabExt HTAB.out kE)).mono ?_; rintro e w20 ⟨rfl, hb⟩; have HT := hide (HT.out.ext hb); have Hw20 := hide hb; clear hb; clear kz0 kf0 kc0_0 kc0_1 kc0_2 kz1 kf1 kc1_0 kc1_1 kc1_2 kz2 kf2 kc2_0 kc2_1 kc2_2 kz3 kf3 kc3_0 kc3_1 kc3_2 kz4 kf4 kc4_0 kc4_1 kc4_2 kz5 kf5 kc5_0 kc5_1 kc5_2 kz6 kf6 kc6_0 kc6_1 kc6_2 kE; have kT := HT.out; simp only [Tr, Bx, CellsAt, Nat.reduceAdd, Nat.zero_add, and_true] at kT; obtain ⟨⟨⟨kz0, kf0, kc0_0, kc0_1, kc0_2⟩, ⟨kz1, kf1, kc1_0, kc1_1, kc1_2⟩, ⟨kz2, kf2, kc2_0, kc2_1, kc2_2⟩, ⟨kz3, kf3, kc3_0, kc3_1, kc3_2⟩, ⟨kz4, kf4, kc4_0, kc4_1, kc4_2⟩, ⟨kz5, kf5, kc5_0, kc5_1, kc5_2⟩, ⟨kz6, kf6, kc6_0, kc6_1, kc6_2⟩⟩, kE⟩ := kT
              rw [text_fixed]
              go_wp2_with fail
              refine (LayAll_any [] none 0 _ (by simp) Rds.nil_).mono ?_; rintro e w21 ⟨rfl, hb⟩; have HT := hide (HT.out.ext hb); have Hw21 := hide hb; clear hb; clear kz0 kf0 kc0_0 kc0_1 kc0_2 kz1 kf1 kc1_0 kc1_1 kc1_2 kz2 kf2 kc2_0 kc2_1 kc2_2 kz3 kf3 kc3_0 kc3_1 kc3_2 kz4 kf4 kc4_0 kc4_1 kc4_2 kz5 kf5 kc5_0 kc5_1 kc5_2 kz6 kf6 kc6_0 kc6_1 kc6_2 kE; have kT := HT.out; simp only [Tr, Bx, CellsAt, Nat.reduceAdd, Nat.zero_add, and_true] at kT; obtain ⟨⟨⟨kz0, kf0, kc0_0, kc0_1, kc0_2⟩, ⟨kz1, kf1, kc1_0, kc1_1, kc1_2⟩, ⟨kz2, kf2, kc2_0, kc2_1, kc2_2⟩, ⟨kz3, kf3, kc3_0, kc3_1, kc3_2⟩, ⟨kz4, kf4, kc4_0, kc4_1, kc4_2⟩, ⟨kz5, kf5, kc5_0, kc5_1, kc5_2⟩, ⟨kz6, kf6, kc6_0, kc6_1, kc6_2⟩⟩, kE⟩ := kT
              rw [lay_nil]
              go_wp2_with fail
              go_ret
              exact ⟨rfl, by repeat (first | exact kE | exact Ext.refl _ | apply Ext.alloc | apply Ext.drewN | apply Ext.drew | apply Ext.set0 | apply Ext.set1 | apply Ext.set2 | apply Ext.set3 | (refine Ext.setk ?_ (by omega) _) | (apply Ext.snoc; assumption))⟩
            · exact (HK9.out (by simp)).elim
      · have hd4 : d4 = true := HK10.out.resolve_left (fun h => e2 h.2.1.symm)
        subst hd4
        have e2 : ¬ p2 = b := fun h => e2 h.symm
        go_wp2_with fail
        refine (IsDarker_any _ _ _ _ _ _ _).mono ?_; rintro e w14 ⟨rfl, hb⟩; have HT := hide (HT.out.ext hb); have Hw14 := hide hb; clear hb; clear kz0 kf0 kc0_0 kc0_1 kc0_2 kz1 kf1 kc1_0 kc1_1 kc1_2 kz2 kf2 kc2_0 kc2_1 kc2_2 kz3 kf3 kc3_0 kc3_1 kc3_2 kz4 kf4 kc4_0 kc4_1 kc4_2 kz5 kf5 kc5_0 kc5_1 kc5_2 kz6 kf6 kc6_0 kc6_1 kc6_2 kE; have kT := HT.out; simp only [Tr, Bx, CellsAt, Nat.reduceAdd, Nat.zero_add, and_true] at kT; obtain ⟨⟨⟨kz0, kf0, kc0_0, kc0_1, kc0_2⟩, ⟨kz1, kf1, kc1_0, kc1_1, kc1_2⟩, ⟨kz2, kf2, kc2_0, kc2_1, kc2_2⟩, ⟨kz3, kf3, kc3_0, kc3_1, kc3_2⟩, ⟨kz4, kf4, kc4_0, kc4_1, kc4_2⟩, ⟨kz5, kf5, kc5_0, kc5_1, kc5_2⟩, ⟨kz6, kf6, kc6_0, kc6_1, kc6_2⟩⟩, kE⟩ := kT
        rw [HD1.out]
        go_wp2_with fail
        refine (IsDarker_any _ _ _ _ _ _ _).mono ?_; rintro e w15 ⟨rfl, hb⟩; have HT := hide (HT.out.ext hb); have Hw15 := hide hb; clear hb; clear kz0 kf0 kc0_0 kc0_1 kc0_2 kz1 kf1 kc1_0 kc1_1 kc1_2 kz2 kf2 kc2_0 kc2_1 kc2_2 kz3 kf3 kc3_0 kc3_1 kc3_2 kz4 kf4 kc4_0 kc4_1 kc4_2 kz5 kf5 kc5_0 kc5_1 kc5_2 kz6 kf6 kc6_0 kc6_1 kc6_2 kE; have kT := HT.out; simp only [Tr, Bx, CellsAt, Nat.reduceAdd, Nat.zero_add, and_true] at kT; obtain ⟨⟨⟨kz0, kf0, kc0_0, kc0_1, kc0_2⟩, ⟨kz1, kf1, kc1_0, kc1_1, kc1_2⟩, ⟨kz2, kf2, kc2_0, kc2_1, kc2_2⟩, ⟨kz3, kf3, kc3_0, kc3_1, kc3_2⟩, ⟨kz4, kf4, kc4_0, kc4_1, kc4_2⟩, ⟨kz5, kf5, kc5_0, kc5_1, kc5_2⟩, ⟨kz6, kf6, kc6_0, kc6_1, kc6_2⟩⟩, kE⟩ := kT
        rw [HD2.out]
        cases d2
        · go_wp2_with fail
          refine (IsDarker_any _ _ _ _ _ _ _).mono ?_; rintro e w19 ⟨rfl, hb⟩; have HT := hide (HT.out.ext hb); have Hw19 := hide hb; clear hb; clear kz0 kf0 kc0_0 kc0_1 kc0_2 kz1 kf1 kc1_0 kc1_1 kc1_2 kz2 kf2 kc2_0 kc2_1 kc2_2 kz3 kf3 kc3_0 kc3_1 kc3_2 kz4 kf4 kc4_0 kc4_1 kc4_2 kz5 kf5 kc5_0 kc5_1 kc5_2 kz6 kf6 kc6_0 kc6_1 kc6_2 kE; have kT := HT.out; simp only [Tr, Bx, CellsAt, Nat.reduceAdd, Nat.zero_add, and_true] at kT; obtain ⟨⟨⟨kz0, kf0, kc0_0, kc0_1, kc0_2⟩, ⟨kz1, kf1, kc1_0, kc1_1, kc1_2⟩, ⟨kz2, kf2, kc2_0, kc2_1, kc2_2⟩, ⟨kz3, kf3, kc3_0, kc3_1, kc3_2⟩, ⟨kz4, kf4, kc4_0, kc4_1, kc4_2⟩, ⟨kz5, kf5, kc5_0, kc5_1, kc5_2⟩, ⟨kz6, kf6, kc6_0, kc6_1, kc6_2⟩⟩, kE⟩ := kT
          rw [HD4.out]
          go_wp2_with fail
          refine (StainText_any 1 0 20 _ (TabExt HTAB.out kE)).mono ?_; rintro e w20 ⟨rfl, hb⟩; have HT := hide (HT.out.ext hb); have Hw20 := hide hb; clear hb; clear kz0 kf0 kc0_0 kc0_1 kc0_2 kz1 kf1 kc1_0 kc1_1 kc1_2 kz2 kf2 kc2_0 kc2_1 kc2_2 kz3 kf3 kc3_0 kc3_1 kc3_2 kz4 kf4 kc4_0 kc4_1 kc4_2 kz5 kf5 kc5_0 kc5_1 kc5_2 kz6 kf6 kc6_0 kc6_1 kc6_2 kE; have kT := HT.out; simp only [Tr, Bx, CellsAt, Nat.reduceAdd, Nat.zero_add, and_true] at kT; obtain ⟨⟨⟨kz0, kf0, kc0_0, kc0_1, kc0_2⟩, ⟨kz1, kf1, kc1_0, kc1_1, kc1_2⟩, ⟨kz2, kf2, kc2_0, kc2_1, kc2_2⟩, ⟨kz3, kf3, kc3_0, kc3_1, kc3_2⟩, ⟨kz4, kf4, kc4_0, kc4_1, kc4_2⟩, ⟨kz5, kf5, kc5_0, kc5_1, kc5_2⟩, ⟨kz6, kf6, kc6_0, kc6_1, kc6_2⟩⟩, kE⟩ := kT
          rw [text_fixed]
          go_wp2_with fail
          refine (LayAll_any [] none 0 _ (by simp) Rds.nil_).mono ?_; rintro e w21 ⟨rfl, hb⟩; have HT := hide (HT.out.ext hb); have Hw21 := hide hb; clear hb; clear kz0 kf0 kc0_0 kc0_1 kc0_2 kz1 kf1 kc1_0 kc1_1 kc1_2 kz2 kf2 kc2_0 kc2_1 kc2_2 kz3 kf3 kc3_0 kc3_1 kc3_2 kz4 kf4 kc4_0 kc4_1 kc4_2 kz5 kf5 kc5_0 kc5_1 kc5_2 kz6 kf6 kc6_0 kc6_1 kc6_2 kE; have kT := HT.out; simp only [Tr, Bx, CellsAt, Nat.reduceAdd, Nat.zero_add, and_true] at kT; obtain ⟨⟨⟨kz0, kf0, kc0_0, kc0_1, kc0_2⟩, ⟨kz1, kf1, kc1_0, kc1_1, kc1_2⟩, ⟨kz2, kf2, kc2_0, kc2_1, kc2_2⟩, ⟨kz3, kf3, kc3_0, kc3_1, kc3_2⟩, ⟨kz4, kf4, kc4_0, kc4_1, kc4_2⟩, ⟨kz5, kf5, kc5_0, kc5_1, kc5_2⟩, ⟨kz6, kf6, kc6_0, kc6_1, kc6_2⟩⟩, kE⟩ := kT
          rw [lay_nil]
          go_wp2_with fail
          go_ret
          exact ⟨rfl, by repeat (first | exact kE | exact Ext.refl _ | apply Ext.alloc | apply Ext.drewN | apply Ext.drew | apply Ext.set0 | apply Ext.set1 | apply Ext.set2 | apply Ext.set3 | (refine Ext.setk ?_ (by omega) _) | (apply Ext.snoc; assumption))⟩
        · go_wp2_with fail
          refine (IsDarker_any _ _ _ _ _ _ _).mono ?_; rintro e w16 ⟨rfl, hb⟩; have HT := hide (HT.out.ext hb); have Hw16 := hide hb; clear hb; clear kz0 kf0 kc0_0 kc0_1 kc0_2 kz1 kf1 kc1_0 kc1_1 kc1_2 kz2 kf2 kc2_0 kc2_1 kc2_2 kz3 kf3 kc3_0 kc3_1 kc3_2 kz4 kf4 kc4_0 kc4_1 kc4_2 kz5 kf5 kc5_0 kc5_1 kc5_2 kz6 kf6 kc6_0 kc6_1 kc6_2 kE; have kT := HT.out; simp only [Tr, Bx, CellsAt, Nat.reduceAdd, Nat.zero_add, and_true] at kT; obtain ⟨⟨⟨kz0, kf0, kc0_0, kc0_1, kc0_2⟩, ⟨kz1, kf1, kc1_0, kc1_1, kc1_2⟩, ⟨kz2, kf2, kc2_0, kc2_1, kc2_2⟩, ⟨kz3, kf3, kc3_0, kc3_1, kc3_2⟩, ⟨kz4, kf4, kc4_0, kc4_1, kc4_2⟩, ⟨kz5, kf5, kc5_0, kc5_1, kc5_2⟩, ⟨kz6, kf6, kc6_0, kc6_1, kc6_2⟩⟩, kE⟩ := kT
          rw [HD3.out]
          cases d3
          · go_wp2_with fail
            refine (IsDarker_any _ _ _ _ _ _ _).mono ?_; rintro e w19 ⟨rfl, hb⟩; have HT := hide (HT.out.ext hb); have Hw19 := hide hb; clear hb; clear kz0 kf0 kc0_0 kc0_1 kc0_2 kz1 kf1 kc1_0 kc1_1 kc1_2 kz2 kf2 kc2_0 kc2_1 kc2_2 kz3 kf3 kc3_0 kc3_1 kc3_2 kz4 kf4 kc4_0 kc4_1 kc4_2 kz5 kf5 kc5_0 kc5_1 kc5_2 kz6 kf6 kc6_0 kc6_1 kc6_2 kE; have kT := HT.out; simp only [Tr, Bx, CellsAt, Nat.reduceAdd, Nat.zero_add, and_true] at kT; obtain ⟨⟨⟨kz0, kf0, kc0_0, kc0_1, kc0_2⟩, ⟨kz1, kf1, kc1_0, kc1_1, kc1_2⟩, ⟨kz2, kf2, kc2_0, kc2_1, kc2_2⟩, ⟨kz3, kf3, kc3_0, kc3_1, kc3_2⟩, ⟨kz4, kf4, kc4_0, kc4_1, kc4_2⟩, ⟨kz5, kf5, kc5_0, kc5_1, kc5_2⟩, ⟨kz6, kf6, kc6_0, kc6_1, kc6_2⟩⟩, kE⟩ := kT
            rw [HD4.out]
            go_wp2_with fail
            refine (StainText_any 1 0 20 _ (TabExt HTAB.out kE)).mono ?_; rintro e w20 ⟨rfl, hb⟩; have HT := hide (HT.out.ext hb); have Hw20 := hide hb; clear hb; clear kz0 kf0 kc0_0 kc0_1 kc0_2 kz1 kf1 kc1_0 kc1_1 kc1_2 kz2 kf2 kc2_0 kc2_1 kc2_2 kz3 kf3 kc3_0 kc3_1 kc3_2 kz4 kf4 kc4_0 kc4_1 kc4_2 kz5 kf5 kc5_0 kc5_1 kc5_2 kz6 kf6 kc6_0 kc6_1 kc6_2 kE; have kT := HT.out; simp only [Tr, Bx, CellsAt, Nat.reduceAdd, Nat.zero_add, and_true] at kT; obtain ⟨⟨⟨kz0, kf0, kc0_0, kc0_1, kc0_2⟩, ⟨kz1, kf1, kc1_0, kc1_1, kc1_2⟩, ⟨kz2, kf2, kc2_0, kc2_1, kc2_2⟩, ⟨kz3, kf3, kc3_0, kc3_1, kc3_2⟩, ⟨kz4, kf4, kc4_0, kc4_1, kc4_2⟩, ⟨kz5, kf5, kc5_0, kc5_1, kc5_2⟩, ⟨kz6, kf6, kc6_0, kc6_1, kc6_2⟩⟩, kE⟩ := kT
            rw [text_fixed]
            go_wp2_with fail
            refine (LayAll_any [] none 0 _ (by simp) Rds.nil_).mono ?_; rintro e w21 ⟨rfl, hb⟩; have HT := hide (HT.out.ext hb); have Hw21 := hide hb; clear hb; clear kz0 kf0 kc0_0 kc0_1 kc0_2 kz1 kf1 kc1_0 kc1_1 kc1_2 kz2 kf2 kc2_0 kc2_1 kc2_2 kz3 kf3 kc3_0 kc3_1 kc3_2 kz4 kf4 kc4_0 kc4_1 kc4_2 kz5 kf5 kc5_0 kc5_1 kc5_2 kz6 kf6 kc6_0 kc6_1 kc6_2 kE; have kT := HT.out; simp only [Tr, Bx, CellsAt, Nat.reduceAdd, Nat.zero_add, and_true] at kT; obtain ⟨⟨⟨kz0, kf0, kc0_0, kc0_1, kc0_2⟩, ⟨kz1, kf1, kc1_0, kc1_1, kc1_2⟩, ⟨kz2, kf2, kc2_0, kc2_1, kc2_2⟩, ⟨kz3, kf3, kc3_0, kc3_1, kc3_2⟩, ⟨kz4, kf4, kc4_0, kc4_1, kc4_2⟩, ⟨kz5, kf5, kc5_0, kc5_1, kc5_2⟩, ⟨kz6, kf6, kc6_0, kc6_1, kc6_2⟩⟩, kE⟩ := kT
            rw [lay_nil]
            go_wp2_with fail
            go_ret
            exact ⟨rfl, by repeat (first | exact kE | exact Ext.refl _ | apply Ext.alloc | apply Ext.drewN | apply Ext.drew | apply Ext.set0 | apply Ext.set1 | apply Ext.set2 | apply Ext.set3 | (refine Ext.setk ?_ (by omega) _) | (apply Ext.snoc; assumption))⟩
          · exact (HK9.out (by simp)).elim
    · have hd4 : d4 = true := HK10.out.resolve_left (fun h => e1 h.1.symm)
      subst hd4
      have e1 : ¬ p1 = a := fun h => e1 h.symm
      go_wp2_with fail
      refine (IsDarker_any _ _ _ _ _ _ _).mono ?_; rintro e w14 ⟨rfl, hb⟩; have HT := hide (HT.out.ext hb); have Hw14 := hide hb; clear hb; clear kz0 kf0 kc0_0 kc0_1 kc0_2 kz1 kf1 kc1_0 kc1_1 kc1_2 kz2 kf2 kc2_0 kc2_1 kc2_2 kz3 kf3 kc3_0 kc3_1 kc3_2 kz4 kf4 kc4_0 kc4_1 kc4_2 kz5 kf5 kc5_0 kc5_1 kc5_2 kz6 kf6 kc6_0 kc6_1 kc6_2 kE; have kT := HT.out; simp only [Tr, Bx, CellsAt, Nat.reduceAdd, Nat.zero_add, and_true] at kT; obtain ⟨⟨⟨kz0, kf0, kc0_0, kc0_1, kc0_2⟩, ⟨kz1, kf1, kc1_0, kc1_1, kc1_2⟩, ⟨kz2, kf2, kc2_0, kc2_1, kc2_2⟩, ⟨kz3, kf3, kc3_0, kc3_1, kc3_2⟩, ⟨kz4, kf4, kc4_0, kc4_1, kc4_2⟩, ⟨kz5, kf5, kc5_0, kc5_1, kc5_2⟩, ⟨kz6, kf6, kc6_0, kc6_1, kc6_2⟩⟩, kE⟩ := kT
      rw [HD1.out]
      go_wp2_with fail
      refine (IsDarker_any _ _ _ _ _ _ _).mono ?_; rintro e w15 ⟨rfl, hb⟩; have HT := hide (HT.out.ext hb); have Hw15 := hide hb; clear hb; clear kz0 kf0 kc0_0 kc0_1 kc0_2 kz1 kf1 kc1_0 kc1_1 kc1_2 kz2 kf2 kc2_0 kc2_1 kc2_2 kz3 kf3 kc3_0 kc3_1 kc3_2 kz4 kf4 kc4_0 kc4_1 kc4_2 kz5 kf5 kc5_0 kc5_1 kc5_2 kz6 kf6 kc6_0 kc6_1 kc6_2 kE; have kT := HT.out; simp only [Tr, Bx, CellsAt, Nat.reduceAdd, Nat.zero_add, and_true] at kT; obtain ⟨⟨⟨kz0, kf0, kc0_0, kc0_1, kc0_2⟩, ⟨kz1, kf1, kc1_0, kc1_1, kc1_2⟩, ⟨kz2, kf2, kc2_0, kc2_1, kc2_2⟩, ⟨kz3, kf3, kc3_0, kc3_1, kc3_2⟩, ⟨kz4, kf4, kc4_0, kc4_1, kc4_2⟩, ⟨kz5, kf5, kc5_0, kc5_1, kc5_2⟩, ⟨kz6, kf6, kc6_0, kc6_1, kc6_2⟩⟩, kE⟩ := kT
      rw [HD2.out]
      cases d2
      · go_wp2_with fail
        refine (IsDarker_any _ _ _ _ _ _ _).mono ?_; rintro e w19 ⟨rfl, hb⟩; have HT := hide (HT.out.ext hb); have Hw19 := hide hb; clear hb; clear kz0 kf0 kc0_0 kc0_1 kc0_2 kz1 kf1 kc1_0 kc1_1 kc1_2 kz2 kf2 kc2_0 kc2_1 kc2_2 kz3 kf3 kc3_0 kc3_1 kc3_2 kz4 kf4 kc4_0 kc4_1 kc4_2 kz5 kf5 kc5_0 kc5_1 kc5_2 kz6 kf6 kc6_0 kc6_1 kc6_2 kE; have kT := HT.out; simp only [Tr, Bx, CellsAt, Nat.reduceAdd, Nat.zero_add, and_true] at kT; obtain ⟨⟨⟨kz0, kf0, kc0_0, kc0_1, kc0_2⟩, ⟨kz1, kf1, kc1_0, kc1_1, kc1_2⟩, ⟨kz2, kf2, kc2_0, kc2_1, kc2_2⟩, ⟨kz3, kf3, kc3_0, kc3_1, kc3_2⟩, ⟨kz4, kf4, kc4_0, kc4_1, kc4_2⟩, ⟨kz5, kf5, kc5_0, kc5_1, kc5_2⟩, ⟨kz6, kf6, kc6_0, kc6_1, kc6_2⟩⟩, kE⟩ := kT
        rw [HD4.out]
        go_wp2_with fail
        refine (StainText_any 1 0 20 _ (TabExt HTAB.out kE)).mono ?_; rintro e w20 ⟨rfl, hb⟩; have HT := hide (HT.out.ext hb); have Hw20 := hide hb; clear hb; clear kz0 kf0 kc0_0 kc0_1 kc0_2 kz1 kf1 kc1_0 kc1_1 kc1_2 kz2 kf2 kc2_0 kc2_1 kc2_2 kz3 kf3 kc3_0 kc3_1 kc3_2 kz4 kf4 kc4_0 kc4_1 kc4_2 kz5 kf5 kc5_0 kc5_1 kc5_2 kz6 kf6 kc6_0 kc6_1 kc6_2 kE; have kT := HT.out; simp only [Tr, Bx, CellsAt, Nat.reduceAdd, Nat.zero_add, and_true] at kT; obtain ⟨⟨⟨kz0, kf0, kc0_0, kc0_1, kc0_2⟩, ⟨kz1, kf1, kc1_0, kc1_1, kc1_2⟩, ⟨kz2, kf2, kc2_0, kc2_1, kc2_2⟩, ⟨kz3, kf3, kc3_0, kc3_1, kc3_2⟩, ⟨kz4, kf4, kc4_0, kc4_1, kc4_2⟩, ⟨kz5, kf5, kc5_0, kc5_1, kc5_2⟩, ⟨kz6, kf6, kc6_0, kc6_1, kc6_2⟩⟩, kE⟩ := kT
        rw [text_fixed]
        go_wp2_with fail
        refine (LayAll_any [] none 0 _ (by simp) Rds.nil_).mono ?_; rintro e w21 ⟨rfl, hb⟩; have HT := hide (HT.out.ext hb); have Hw21 := hide hb; clear hb; clear kz0 kf0 kc0_0 kc0_1 kc0_2 kz1 kf1 kc1_0 kc1_1 kc1_2 kz2 kf2 kc2_0 kc2_1 kc2_2 kz3 kf3 kc3_0 kc3_1 kc3_2 kz4 kf4 kc4_0 kc4_1 kc4_2 kz5 kf5 kc5_0 kc5_1 kc5_2 kz6 kf6 kc6_0 kc6_1 kc6_2 kE; have kT := HT.out; simp only [Tr, Bx, CellsAt, Nat.reduceAdd, Nat.zero_add, and_true] at kT; obtain ⟨⟨⟨kz0, kf0, kc0_0, kc0_1, kc0_2⟩, ⟨kz1, kf1, kc1_0, kc1_1, kc1_2⟩, ⟨kz2, kf2, kc2_0, kc2_1, kc2_2⟩, ⟨kz3, kf3, kc3_0, kc3_1, kc3_2⟩, ⟨kz4, kf4, kc4_0, kc4_1, kc4_2⟩, ⟨kz5, kf5, kc5_0, kc5_1, kc5_2⟩, ⟨kz6, kf6, kc6_0, kc6_1, kc6_2⟩⟩, kE⟩ := kT
        rw [lay_nil]
        go_wp2_with fail
        go_ret
        exact ⟨rfl, by repeat (first | exact kE | exact Ext.refl _ | apply Ext.alloc | apply Ext.drewN | apply Ext.drew | apply Ext.set0 | apply Ext.set1 | apply Ext.set2 | apply Ext.set3 | (refine Ext.setk ?_ (by omega) _) | (apply Ext.snoc; assumption))⟩
      · go_wp2_with fail
        refine (IsDarker_any _ _ _ _ _ _ _).mono ?_; rintro e w16 ⟨rfl, hb⟩; have HT := hide (HT.out.ext hb); have Hw16 := hide hb; clear hb; clear kz0 kf0 kc0_0 kc0_1 kc0_2 kz1 kf1 kc1_0 kc1_1 kc1_2 kz2 kf2 kc2_0 kc2_1 kc2_2 kz3 kf3 kc3_0 kc3_1 kc3_2 kz4 kf4 kc4_0 kc4_1 kc4_2 kz5 kf5 kc5_0 kc5_1 kc5_2 kz6 kf6 kc6_0 kc6_1 kc6_2 kE; have kT := HT.out; simp only [Tr, Bx, CellsAt, Nat.reduceAdd, Nat.zero_add, and_true] at kT; obtain ⟨⟨⟨kz0, kf0, kc0_0, kc0_1, kc0_2⟩, ⟨kz1, kf1, kc1_0, kc1_1, kc1_2⟩, ⟨kz2, kf2, kc2_0, kc2_1, kc2_2⟩, ⟨kz3, kf3, kc3_0, kc3_1, kc3_2⟩, ⟨kz4, kf4, kc4_0, kc4_1, kc4_2⟩, ⟨kz5, kf5, kc5_0, kc5_1, kc5_2⟩, ⟨kz6, kf6, kc6_0, kc6_1, kc6_2⟩⟩, kE⟩ := kT
        rw [HD3.out]
        cases d3
        · go_wp2_with fail
          refine (IsDarker_any _ _ _ _ _ _ _).mono ?_; rintro e w19 ⟨rfl, hb⟩; have HT := hide (HT.out.ext hb); have Hw19 := hide hb; clear hb; clear kz0 kf0 kc0_0 kc0_1 kc0_2 kz1 kf1 kc1_0 kc1_1 kc1_2 kz2 kf2 kc2_0 kc2_1 kc2_2 kz3 kf3 kc3_0 kc3_1 kc3_2 kz4 kf4 kc4_0 kc4_1 kc4_2 kz5 kf5 kc5_0 kc5_1 kc5_2 kz6 kf6 kc6_0 kc6_1 kc6_2 kE; have kT := HT.out; simp only [Tr, Bx, CellsAt, Nat.reduceAdd, Nat.zero_add, and_true] at kT; obtain ⟨⟨⟨kz0, kf0, kc0_0, kc0_1, kc0_2⟩, ⟨kz1, kf1, kc1_0, kc1_1, kc1_2⟩, ⟨kz2, kf2, kc2_0, kc2_1, kc2_2⟩, ⟨kz3, kf3, kc3_0, kc3_1, kc3_2⟩, ⟨kz4, kf4, kc4_0, kc4_1, kc4_2⟩, ⟨kz5, kf5, kc5_0, kc5_1, kc5_2⟩, ⟨kz6, kf6, kc6_0, kc6_1, kc6_2⟩⟩, kE⟩ := kT
          rw [HD4.out]
          go_wp2_with fail
          refine (StainText_any 1 0 20 _ (TabExt HTAB.out kE)).mono ?_; rintro e w20 ⟨rfl, hb⟩; have HT := hide (HT.out.ext hb); have Hw20 := hide hb; clear hb; clear kz0 kf0 kc0_0 kc0_1 kc0_2 kz1 kf1 kc1_0 kc1_1 kc1_2 kz2 kf2 kc2_0 kc2_1 kc2_2 kz3 kf3 kc3_0 kc3_1 kc3_2 kz4 kf4 kc4_0 kc4_1 kc4_2 kz5 kf5 kc5_0 kc5_1 kc5_2 kz6 kf6 kc6_0 kc6_1 kc6_2 kE; have kT := HT.out; simp only [Tr, Bx, CellsAt, Nat.reduceAdd, Nat.zero_add, and_true] at kT; obtain ⟨⟨⟨kz0, kf0, kc0_0, kc0_1, kc0_2⟩, ⟨kz1, kf1, kc1_0, kc1_1, kc1_2⟩, ⟨kz2, kf2, kc2_0, kc2_1, kc2_2⟩, ⟨kz3, kf3, kc3_0, kc3_1, kc3_2⟩, ⟨kz4, kf4, kc4_0, kc4_1, kc4_2⟩, ⟨kz5, kf5, kc5_0, kc5_1, kc5_2⟩, ⟨kz6, kf6, kc6_0, kc6_1, kc6_2⟩⟩, kE⟩ := kT
          rw [text_fixed]
          go_wp2_with fail
          refine (LayAll_any [] none 0 _ (by simp) Rds.nil_).mono ?_; rintro e w21 ⟨rfl, hb⟩; have HT := hide (HT.out.ext hb); have Hw21 := hide hb; clear hb; clear kz0 kf0 kc0_0 kc0_1 kc0_2 kz1 kf1 kc1_0 kc1_1 kc1_2 kz2 kf2 kc2_0 kc2_1 kc2_2 kz3 kf3 kc3_0 kc3_1 kc3_2 kz4 kf4 kc4_0 kc4_1 kc4_2 kz5 kf5 kc5_0 kc5_1 kc5_2 kz6 kf6 kc6_0 kc6_1 kc6_2 kE; have kT := HT.out; simp only [Tr, Bx, CellsAt, Nat.reduceAdd, Nat.zero_add, and_true] at kT; obtain ⟨⟨⟨kz0, kf0, kc0_0, kc0_1, kc0_2⟩, ⟨kz1, kf1, kc1_0, kc1_1, kc1_2⟩, ⟨kz2, kf2, kc2_0, kc2_1, kc2_2⟩, ⟨kz3, kf3, kc3_0, kc3_1, kc3_2⟩, ⟨kz4, kf4, kc4_0, kc4_1, kc4_2⟩, ⟨kz5, kf5, kc5_0, kc5_1, kc5_2⟩, ⟨kz6, kf6, kc6_0, kc6_1, kc6_2⟩⟩, kE⟩ := kT
          rw [lay_nil]
          go_wp2_with fail
          go_ret
          exact ⟨rfl, by repeat (first | exact kE | exact Ext.refl _ | apply Ext.alloc | apply Ext.drewN | apply Ext.drew | apply Ext.set0 | apply Ext.set1 | apply Ext.set2 | apply Ext.set3 | (refine Ext.setk ?_ (by omega) _) | (apply Ext.snoc; assumption))⟩
        · exact (HK9.out (by simp)).elim
end Go.Proofs.YtlpononcpocmoaaDoor
