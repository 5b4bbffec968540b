/- The walk of the law on a stain's text. Condition: the table of powers reads as it was laid. -/
import Derived.Test.YtlpononcpocmoaaDoorStainT
set_option linter.unusedSimpArgs false
set_option linter.unusedVariables false
namespace Go.Proofs.YtlpononcpocmoaaDoor
open Go.RowKit
theorem FnExactStainText_walk (x0 x1 x2 : Int) (w : World) (htab : Lib.TabIs Tryd.prog w "internal/strconv.uint64pow10" .u64 Lib.pow10Tab) :
    Calls Tryd.prog 3 #[.agg #[.int .i64 x0, .int .i64 x1, .int .i64 x2]] w fun e w' => e = .returned (.bool true) ∧ Ext w w' := by
  have HTAB := hide htab
  clear htab
  
  go_enter Tryd.func3, Tryd.ntmps3
  go_wp2_with fail
  obtain ⟨w0, hw⟩ : ∃ w1, w1 = (w.alloc (Obj.cells #[Value.int IntKind.i64 x0, Value.int IntKind.i64 x1, Value.int IntKind.i64 x2] 23)) := ⟨_, rfl⟩; rw [← hw]; have kT : Tr [(w.heap.size, [.int .i64 x0, .int .i64 x1, .int .i64 x2])] w w0 := (by rw [hw]; exact ⟨by (first | (simp [Bx, CellsAt, go_sem, *]; done) | (simp [Bx, CellsAt, go_sem, *]; omega)), by (repeat (first | exact kE | exact Ext.refl _ | apply Ext.alloc | apply Ext.drewN | apply Ext.drew | apply Ext.set0 | apply Ext.set1 | apply Ext.set2 | apply Ext.set3 | (refine Ext.setk ?_ (by omega) _) | (apply Ext.snoc; assumption)))⟩); have HT := hide kT; clear hw kT; have kT := HT.out; simp only [Tr, Bx, CellsAt, Nat.reduceAdd, Nat.zero_add, and_true] at kT; obtain ⟨⟨kz0, kf0, kc0_0, kc0_1, kc0_2⟩, kE⟩ := kT
  refine (toStain_any _ _ _ _).mono ?_; rintro e w1 ⟨rfl, hb⟩; have HT := hide (HT.out.ext hb); have Hw1 := hide hb; clear hb; clear kz0 kf0 kc0_0 kc0_1 kc0_2 kE; have kT := HT.out; simp only [Tr, Bx, CellsAt, Nat.reduceAdd, Nat.zero_add, and_true] at kT; obtain ⟨⟨kz0, kf0, kc0_0, kc0_1, kc0_2⟩, kE⟩ := kT
  go_wp2_with fail
  refine (sStainText_any _ _ _ _).mono ?_; rintro e w2 ⟨rfl, hb⟩; have HT := hide (HT.out.ext hb); have Hw2 := hide hb; clear hb; clear kz0 kf0 kc0_0 kc0_1 kc0_2 kE; have kT := HT.out; simp only [Tr, Bx, CellsAt, Nat.reduceAdd, Nat.zero_add, and_true] at kT; obtain ⟨⟨kz0, kf0, kc0_0, kc0_1, kc0_2⟩, kE⟩ := kT
  go_wp2_with fail
  refine (toStain_any _ _ _ _).mono ?_; rintro e w3 ⟨rfl, hb⟩; have HT := hide (HT.out.ext hb); have Hw3 := hide hb; clear hb; clear kz0 kf0 kc0_0 kc0_1 kc0_2 kE; have kT := HT.out; simp only [Tr, Bx, CellsAt, Nat.reduceAdd, Nat.zero_add, and_true] at kT; obtain ⟨⟨kz0, kf0, kc0_0, kc0_1, kc0_2⟩, kE⟩ := kT
  go_wp2_with fail
  refine (StainText_any _ _ _ _ (TabExt HTAB.out kE)).mono ?_; rintro e w4 ⟨rfl, hb⟩; have HT := hide (HT.out.ext hb); have Hw4 := hide hb; clear hb; clear kz0 kf0 kc0_0 kc0_1 kc0_2 kE; have kT := HT.out; simp only [Tr, Bx, CellsAt, Nat.reduceAdd, Nat.zero_add, and_true] at kT; obtain ⟨⟨kz0, kf0, kc0_0, kc0_1, kc0_2⟩, kE⟩ := kT
  obtain ⟨s, hs⟩ : ∃ s, s = textB x0 x1 x2 := ⟨_, rfl⟩
  rw [← hs]
  clear hs
  go_wp2
  go_ret
  exact ⟨rfl, by repeat (first | exact kE | exact Ext.refl _ | apply Ext.alloc | apply Ext.drewN | apply Ext.drew | apply Ext.set0 | apply Ext.set1 | apply Ext.set2 | apply Ext.set3 | (refine Ext.setk ?_ (by omega) _) | (apply Ext.snoc; assumption))⟩
end Go.Proofs.YtlpononcpocmoaaDoor
