/- The walk of the law on laying all stains. No condition. -/
import Derived.Test.YtlpononcpocmoaaLayAll
set_option linter.unusedSimpArgs false
set_option linter.unusedVariables false
namespace Go.Proofs.Ytlpononcpocmoaa
open Go.RowKit
set_option maxHeartbeats 2000000 in
theorem FnExactLayAll_walk (l0 : List P3) (A0 : Option Addr) (c0 : Nat) (w : World) (hl0 : l0.length ≤ maxLen) (hr0 : R3 w A0 l0) :
    Calls Try.prog 8 #[.slice A0 l0.length c0] w fun e w' => e = .returned (.bool true) ∧ Ext w w' := by
  have HR0 := hide hr0
  clear hr0
  by_cases h0 : (1048576 : Int) < l0.length
  · have hs0 : szR l0.length (1048576) = -1 := by unfold szR; rw [if_pos h0]
    go_enter Try.func8, Try.ntmps8
    go_wp2_with fail
    refine (szStainS_any l0 A0 c0 _ _ hl0 (by omega) (by omega)).mono ?_; rintro e w' ⟨rfl, rfl⟩
    rw [hs0]
    go_wp2_with fail
    go_ret
    exact ⟨rfl, by repeat (first | exact kE | exact Ext.refl _ | apply Ext.alloc | apply Ext.drewN | apply Ext.drew | apply Ext.set0 | apply Ext.set1 | apply Ext.set2 | apply Ext.set3 | (refine Ext.setk ?_ (by omega) _) | (apply Ext.snoc; assumption))⟩
  · have hs0 : szR l0.length (1048576) = 1048576 - l0.length := by unfold szR; rw [if_neg h0]
    have hm0 : l0.length ≤ 1048576 := by omega
    go_enter Try.func8, Try.ntmps8
    go_wp2_with fail
    refine (szStainS_any l0 A0 c0 _ _ hl0 (by omega) (by omega)).mono ?_; rintro e w' ⟨rfl, rfl⟩
    rw [hs0]
    go_wp2_with fail
    have kE := Ext.refl w
    refine (toStainS_any l0 A0 c0 _ hm0 (HR0.out.ext kE)).mono ?_; rintro e w1 ⟨ga0, rfl, ho, hb⟩
    have zw1 := hb.size
    have kE := kE.trans hb
    clear hb
    have HBa0 := hide ho; have HOa0 := hide ho; clear ho
    go_wp2_with fail
    refine (sLayAll_any l0 _ _ _ hm0 (Rds.of_own HOa0.out) ).mono ?_; rintro e w2 ⟨rfl, hb⟩
    have zw2 := hb.size
    have HOa0 := hide (own_ext HOa0.out hb)
    have kE := kE.trans hb
    clear hb
    go_wp2_with fail
    obtain ⟨w3, hw⟩ : ∃ w1, w1 = w2.alloc (Obj.cells #[Value.int .i64 (layAllV l0).1, Value.int .i64 (layAllV l0).2.1, Value.int .i64 (layAllV l0).2.2] 34) := ⟨_, rfl⟩
    rw [← hw]
    have hb : Ext w2 w3 := by (rw [hw]; (try clear kE); repeat (first | exact kE | exact Ext.refl _ | apply Ext.alloc | apply Ext.drewN | apply Ext.drew | apply Ext.set0 | apply Ext.set1 | apply Ext.set2 | apply Ext.set3 | (refine Ext.setk ?_ (by omega) _) | (apply Ext.snoc; assumption)))
    have hk : Blk w3 w2.heap.size 34 [Value.int .i64 (layAllV l0).1, Value.int .i64 (layAllV l0).2.1, Value.int .i64 (layAllV l0).2.2] := by rw [hw]; exact Blk.new w2 _ [Value.int .i64 (layAllV l0).1, Value.int .i64 (layAllV l0).2.1, Value.int .i64 (layAllV l0).2.2]
    clear hw
    have zw3 := hb.size
    have HOa0 := hide (own_ext HOa0.out hb)
    have kE := kE.trans hb
    clear hb
    have HKr := hide hk; clear hk
    refine (toStainS_any l0 A0 c0 _ hm0 (HR0.out.ext kE)).mono ?_; rintro e w4 ⟨gx0, rfl, ho, hb⟩
    have zw4 := hb.size
    have HKr := hide (HKr.out.ext hb)
    have kE := kE.trans hb
    clear hb
    have HBx0 := hide ho; have HOx0 := hide ho; clear ho
    go_wp2_with fail
    refine (LayAll_any l0 _ _ _ hm0 (Rds.of_own HOx0.out) ).mono ?_; rintro e w5 ⟨rfl, hb⟩
    have zw5 := hb.size
    have HOx0 := hide (own_ext HOx0.out hb)
    have HKr := hide (HKr.out.ext hb)
    have kE := kE.trans hb
    clear hb
    have hkz := HKr.out.lt
    have hk0 := HKr.out.cell 0
    have hk1 := HKr.out.cell 1
    have hk2 := HKr.out.cell 2
    simp only [List.getElem?_cons_zero, List.getElem?_cons_succ] at hk0 hk1 hk2
    go_wp2_with fail
    clear hkz hk0 hk1 hk2
    obtain ⟨w6, hw⟩ : ∃ w1, w1 = w5.alloc (Obj.cells #[Value.int .i64 (layAllV l0).1, Value.int .i64 (layAllV l0).2.1, Value.int .i64 (layAllV l0).2.2] 34) := ⟨_, rfl⟩
    rw [← hw]
    have hb : Ext w5 w6 := by (rw [hw]; (try clear kE); repeat (first | exact kE | exact Ext.refl _ | apply Ext.alloc | apply Ext.drewN | apply Ext.drew | apply Ext.set0 | apply Ext.set1 | apply Ext.set2 | apply Ext.set3 | (refine Ext.setk ?_ (by omega) _) | (apply Ext.snoc; assumption)))
    have hk : Blk w6 w5.heap.size 34 [Value.int .i64 (layAllV l0).1, Value.int .i64 (layAllV l0).2.1, Value.int .i64 (layAllV l0).2.2] := by rw [hw]; exact Blk.new w5 _ [Value.int .i64 (layAllV l0).1, Value.int .i64 (layAllV l0).2.1, Value.int .i64 (layAllV l0).2.2]
    clear hw
    have zw6 := hb.size
    have HOx0 := hide (own_ext HOx0.out hb)
    have HKr := hide (HKr.out.ext hb)
    have kE := kE.trans hb
    clear hb
    have HKg := hide hk; clear hk
    have hev : eq3 ((layAllV l0).1) ((layAllV l0).2.1) ((layAllV l0).2.2) ((layAllV l0).1) ((layAllV l0).2.1) ((layAllV l0).2.2) = true := by simp [eq3]
    refine (eq3Stain_any _ _ _ _ _ _ _).mono ?_; rintro e w7 ⟨rfl, hb⟩
    have zw7 := hb.size
    have HOx0 := hide (own_ext HOx0.out hb)
    have HKr := hide (HKr.out.ext hb)
    have HKg := hide (HKg.out.ext hb)
    have kE := kE.trans hb
    clear hb
    rw [hev]
    clear hev
    go_wp2_with fail
    refine (toStainS_any l0 A0 c0 _ hm0 (HR0.out.ext kE)).mono ?_; rintro e w8 ⟨gy0, rfl, ho, hb⟩
    have zw8 := hb.size
    have HOx0 := hide (own_ext HOx0.out hb)
    have kE := kE.trans hb
    clear hb
    have HBy0 := hide ho; have HOy0 := hide ho; clear ho
    go_wp2_with fail
    refine (eqStainS_any l0 l0 _ _ _ _ _ hm0 hm0 (Rds.of_own HOx0.out) (Rds.of_own HOy0.out)).mono ?_; rintro e w9 ⟨rfl, hb⟩
    have zw9 := hb.size
    have HOx0 := hide (own_ext HOx0.out hb)
    have HOy0 := hide (own_ext HOy0.out hb)
    have kE := kE.trans hb
    clear hb
    rw [decide_eq_true rfl]
    go_wp2_with fail
    go_ret
    exact ⟨rfl, by repeat (first | exact kE | exact Ext.refl _ | apply Ext.alloc | apply Ext.drewN | apply Ext.drew | apply Ext.set0 | apply Ext.set1 | apply Ext.set2 | apply Ext.set3 | (refine Ext.setk ?_ (by omega) _) | (apply Ext.snoc; assumption))⟩
end Go.Proofs.Ytlpononcpocmoaa
