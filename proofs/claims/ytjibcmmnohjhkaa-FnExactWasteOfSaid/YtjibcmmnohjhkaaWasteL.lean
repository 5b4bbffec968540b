/- The walk of the law on waste. No condition. -/
import Derived.Test.YtjibcmmnohjhkaaBestG
set_option linter.unusedSimpArgs false
set_option linter.unusedVariables false
namespace Go.Proofs.Ytjibcmmnohjhkaa
open Go.RowKit
set_option maxHeartbeats 2000000 in
theorem FnExactWasteOf_walk (s0_0 s0_1 : Int) (l0 : List P2) (A0 : Option Addr) (c0 : Nat) (w : World) (hl0 : l0.length ≤ maxLen) (hr0 : R2 w A0 l0) :
    Calls Try.prog 11 #[.agg #[.int .i64 s0_0, .int .i64 s0_1], .slice A0 l0.length c0] w fun e w' => e = .returned (.bool true) ∧ Ext w w' := by
  
  have HR0 := hide hr0
  clear hr0
  by_cases h0 : (1048576 : Int) < l0.length
  · have hs0 : szR l0.length (1048576) = -1 := by unfold szR; rw [if_pos h0]
    go_enter Try.func11, Try.ntmps11
    go_wp2_with fail
    refine (szSheetS_any l0 A0 c0 _ _ hl0 (by omega) (by omega)).mono ?_; rintro e w' ⟨rfl, rfl⟩
    rw [hs0]
    go_wp2_with fail
    go_ret
    exact ⟨rfl, by repeat (first | exact kE | exact Ext.refl _ | apply Ext.alloc | apply Ext.drewN | apply Ext.drew | apply Ext.set0 | apply Ext.set1 | apply Ext.set2 | apply Ext.set3 | (refine Ext.setk ?_ (by omega) _) | (apply Ext.snoc; assumption))⟩
  · have hs0 : szR l0.length (1048576) = 1048576 - l0.length := by unfold szR; rw [if_neg h0]
    have hm0 : l0.length ≤ 1048576 := by omega
    go_enter Try.func11, Try.ntmps11
    go_wp2_with fail
    refine (szSheetS_any l0 A0 c0 _ _ hl0 (by omega) (by omega)).mono ?_; rintro e w' ⟨rfl, rfl⟩
    rw [hs0]
    go_wp2_with fail
    obtain ⟨w0, hw⟩ : ∃ w1, w1 = (w.alloc (Obj.cells #[Value.int IntKind.i64 s0_0, Value.int IntKind.i64 s0_1] 23)) := ⟨_, rfl⟩; rw [← hw]; have kT : Tr [(w.heap.size, [.int .i64 s0_0, .int .i64 s0_1])] w w0 := (by rw [hw]; exact ⟨by (first | (simp [Bx, CellsAt, go_sem, *]; done) | (simp [Bx, CellsAt, go_sem, *]; omega)), by (repeat (first | exact kE | exact Ext.refl _ | apply Ext.alloc | apply Ext.drewN | apply Ext.drew | apply Ext.set0 | apply Ext.set1 | apply Ext.set2 | apply Ext.set3 | (refine Ext.setk ?_ (by omega) _) | (apply Ext.snoc; assumption)))⟩); have HT := hide kT; clear hw kT; have kT := HT.out; simp only [Tr, Bx, CellsAt, Nat.reduceAdd, Nat.zero_add, and_true] at kT; obtain ⟨⟨kz0, kf0, kc0_0, kc0_1⟩, kE⟩ := kT
    have zw0 := kE.size
    refine (toSheet_any _ _ _).mono ?_; rintro e w1 ⟨rfl, hb⟩
    have zw1 := hb.size
    have HT := hide (HT.out.ext hb); clear hb; clear kz0 kf0 kc0_0 kc0_1 kE; have kT := HT.out; simp only [Tr, Bx, CellsAt, Nat.reduceAdd, Nat.zero_add, and_true] at kT; obtain ⟨⟨kz0, kf0, kc0_0, kc0_1⟩, kE⟩ := kT
    go_wp2_with fail
    refine (toSheetS_any l0 A0 c0 _ hm0 (HR0.out.ext kE)).mono ?_; rintro e w2 ⟨ga0, rfl, ho, hb⟩
    have zw2 := hb.size
    have HT := hide (HT.out.ext hb); clear hb; clear kz0 kf0 kc0_0 kc0_1 kE; have kT := HT.out; simp only [Tr, Bx, CellsAt, Nat.reduceAdd, Nat.zero_add, and_true] at kT; obtain ⟨⟨kz0, kf0, kc0_0, kc0_1⟩, kE⟩ := kT
    have HBa0 := hide ho; have HOa0 := hide ho; clear ho
    go_wp2_with fail
    refine (sWasteOf_any s0_0 s0_1 l0 _ _ _ hm0 (Rds.of_own HOa0.out) ).mono ?_; rintro e w3 ⟨rfl, hb⟩
    have zw3 := hb.size
    have HOa0 := hide (own_ext HOa0.out hb)
    have HT := hide (HT.out.ext hb); clear hb; clear kz0 kf0 kc0_0 kc0_1 kE; have kT := HT.out; simp only [Tr, Bx, CellsAt, Nat.reduceAdd, Nat.zero_add, and_true] at kT; obtain ⟨⟨kz0, kf0, kc0_0, kc0_1⟩, kE⟩ := kT
    go_wp2_with fail
    refine (toSheetS_any l0 A0 c0 _ hm0 (HR0.out.ext kE)).mono ?_; rintro e w4 ⟨gx0, rfl, ho, hb⟩
    have zw4 := hb.size
    have HT := hide (HT.out.ext hb); clear hb; clear kz0 kf0 kc0_0 kc0_1 kE; have kT := HT.out; simp only [Tr, Bx, CellsAt, Nat.reduceAdd, Nat.zero_add, and_true] at kT; obtain ⟨⟨kz0, kf0, kc0_0, kc0_1⟩, kE⟩ := kT
    have HBx0 := hide ho; have HOx0 := hide ho; clear ho
    go_wp2_with fail
    refine (toSheet_any _ _ _).mono ?_; rintro e w5 ⟨rfl, hb⟩
    have zw5 := hb.size
    have HOx0 := hide (own_ext HOx0.out hb)
    have HT := hide (HT.out.ext hb); clear hb; clear kz0 kf0 kc0_0 kc0_1 kE; have kT := HT.out; simp only [Tr, Bx, CellsAt, Nat.reduceAdd, Nat.zero_add, and_true] at kT; obtain ⟨⟨kz0, kf0, kc0_0, kc0_1⟩, kE⟩ := kT
    go_wp2_with fail
    refine (WasteOf_any s0_0 s0_1 l0 _ _ _ hm0 (Rds.of_own HOx0.out) ).mono ?_; rintro e w6 ⟨rfl, hb⟩
    have zw6 := hb.size
    have HOx0 := hide (own_ext HOx0.out hb)
    have HT := hide (HT.out.ext hb); clear hb; clear kz0 kf0 kc0_0 kc0_1 kE; have kT := HT.out; simp only [Tr, Bx, CellsAt, Nat.reduceAdd, Nat.zero_add, and_true] at kT; obtain ⟨⟨kz0, kf0, kc0_0, kc0_1⟩, kE⟩ := kT
    go_wp2_with fail
    refine (toSheetS_any l0 A0 c0 _ hm0 (HR0.out.ext kE)).mono ?_; rintro e w7 ⟨gy0, rfl, ho, hb⟩
    have zw7 := hb.size
    have HOx0 := hide (own_ext HOx0.out hb)
    have HT := hide (HT.out.ext hb); clear hb; clear kz0 kf0 kc0_0 kc0_1 kE; have kT := HT.out; simp only [Tr, Bx, CellsAt, Nat.reduceAdd, Nat.zero_add, and_true] at kT; obtain ⟨⟨kz0, kf0, kc0_0, kc0_1⟩, kE⟩ := kT
    have HBy0 := hide ho; have HOy0 := hide ho; clear ho
    go_wp2_with fail
    refine (eqSheetS_any l0 l0 _ _ _ _ _ hm0 hm0 (Rds.of_own HOx0.out) (Rds.of_own HOy0.out)).mono ?_; rintro e w8 ⟨rfl, hb⟩
    have zw8 := hb.size
    have HOx0 := hide (own_ext HOx0.out hb)
    have HOy0 := hide (own_ext HOy0.out hb)
    have HT := hide (HT.out.ext hb); clear hb; clear kz0 kf0 kc0_0 kc0_1 kE; have kT := HT.out; simp only [Tr, Bx, CellsAt, Nat.reduceAdd, Nat.zero_add, and_true] at kT; obtain ⟨⟨kz0, kf0, kc0_0, kc0_1⟩, kE⟩ := kT
    rw [decide_eq_true rfl]
    go_wp2_with fail
    go_ret
    exact ⟨rfl, by repeat (first | exact kE | exact Ext.refl _ | apply Ext.alloc | apply Ext.drewN | apply Ext.drew | apply Ext.set0 | apply Ext.set1 | apply Ext.set2 | apply Ext.set3 | (refine Ext.setk ?_ (by omega) _) | (apply Ext.snoc; assumption))⟩
end Go.Proofs.Ytjibcmmnohjhkaa
