/- The walk of the law on mirrored shapes. No condition. -/
import Derived.Test.YtlpononcpocmoaaShapeE
set_option linter.unusedSimpArgs false
set_option linter.unusedVariables false
namespace Go.Proofs.Ytlpononcpocmoaa
open Go.RowKit
set_option maxHeartbeats 2000000 in
theorem FnExactAreMirrored_walk (l0 : List P2) (A0 : Option Addr) (c0 : Nat) (l1 : List P2) (A1 : Option Addr) (c1 : Nat) (w : World) (hl0 : l0.length ≤ maxLen) (hr0 : R2 w A0 l0) (hl1 : l1.length ≤ maxLen) (hr1 : R2 w A1 l1) :
    Calls Try.prog 7 #[.slice A0 l0.length c0, .slice A1 l1.length c1] w fun e w' => e = .returned (.bool true) ∧ Ext w w' := by
  have HR0 := hide hr0
  have HR1 := hide hr1
  clear hr0 hr1
  by_cases h0 : (1048576 : Int) < l0.length
  · have hs0 : szR l0.length (1048576) = -1 := by unfold szR; rw [if_pos h0]
    go_enter Try.func7, Try.ntmps7
    go_wp2_with fail
    refine (szNodeS_any l0 A0 c0 _ _ hl0 (by omega) (by omega)).mono ?_; rintro e w' ⟨rfl, rfl⟩
    rw [hs0]
    go_wp2_with fail
    go_ret
    exact ⟨rfl, by repeat (first | exact kE | exact Ext.refl _ | apply Ext.alloc | apply Ext.drewN | apply Ext.drew | apply Ext.set0 | apply Ext.set1 | apply Ext.set2 | apply Ext.set3 | (refine Ext.setk ?_ (by omega) _) | (apply Ext.snoc; assumption))⟩
  · have hs0 : szR l0.length (1048576) = 1048576 - l0.length := by unfold szR; rw [if_neg h0]
    have hm0 : l0.length ≤ 1048576 := by omega
    by_cases h1 : (1048576 : Int) - l0.length < l1.length
    · have hs1 : szR l1.length (1048576 - l0.length) = -1 := by unfold szR; rw [if_pos h1]
      go_enter Try.func7, Try.ntmps7
      go_wp2_with fail
      refine (szNodeS_any l0 A0 c0 _ _ hl0 (by omega) (by omega)).mono ?_; rintro e w' ⟨rfl, rfl⟩
      rw [hs0]
      go_wp2_with fail
      refine (szNodeS_any l1 A1 c1 _ _ hl1 (by omega) (by omega)).mono ?_; rintro e w' ⟨rfl, rfl⟩
      rw [hs1]
      go_wp2_with fail
      go_ret
      exact ⟨rfl, by repeat (first | exact kE | exact Ext.refl _ | apply Ext.alloc | apply Ext.drewN | apply Ext.drew | apply Ext.set0 | apply Ext.set1 | apply Ext.set2 | apply Ext.set3 | (refine Ext.setk ?_ (by omega) _) | (apply Ext.snoc; assumption))⟩
    · have hs1 : szR l1.length (1048576 - l0.length) = 1048576 - l0.length - l1.length := by unfold szR; rw [if_neg h1]
      have hm1 : l1.length ≤ 1048576 := by omega
      go_enter Try.func7, Try.ntmps7
      go_wp2_with fail
      refine (szNodeS_any l0 A0 c0 _ _ hl0 (by omega) (by omega)).mono ?_; rintro e w' ⟨rfl, rfl⟩
      rw [hs0]
      go_wp2_with fail
      refine (szNodeS_any l1 A1 c1 _ _ hl1 (by omega) (by omega)).mono ?_; rintro e w' ⟨rfl, rfl⟩
      rw [hs1]
      go_wp2_with fail
      have kE := Ext.refl w
      refine (toNodeS_any l0 A0 c0 _ hm0 (HR0.out.ext kE)).mono ?_; rintro e w1 ⟨ga0, rfl, ho, hb⟩
      have zw1 := hb.size
      have kE := kE.trans hb
      clear hb
      have HBa0 := hide ho; have HOa0 := hide ho; clear ho
      go_wp2_with fail
      refine (toNodeS_any l1 A1 c1 _ hm1 (HR1.out.ext kE)).mono ?_; rintro e w2 ⟨ga1, rfl, ho, hb⟩
      have zw2 := hb.size
      have HOa0 := hide (own_ext HOa0.out hb)
      have kE := kE.trans hb
      clear hb
      have HBa1 := hide ho; have HOa1 := hide ho; clear ho
      go_wp2_with fail
      refine (sAreMirrored_any l0 _ _ l1 _ _ _ hm0 hm1 (Rds.of_own HOa0.out) (Rds.of_own HOa1.out) ).mono ?_; rintro e w3 ⟨rfl, hb⟩
      have zw3 := hb.size
      have HOa0 := hide (own_ext HOa0.out hb)
      have HOa1 := hide (own_ext HOa1.out hb)
      have kE := kE.trans hb
      clear hb
      go_wp2_with fail
      refine (toNodeS_any l0 A0 c0 _ hm0 (HR0.out.ext kE)).mono ?_; rintro e w4 ⟨gx0, rfl, ho, hb⟩
      have zw4 := hb.size
      have kE := kE.trans hb
      clear hb
      have HBx0 := hide ho; have HOx0 := hide ho; clear ho
      go_wp2_with fail
      refine (toNodeS_any l1 A1 c1 _ hm1 (HR1.out.ext kE)).mono ?_; rintro e w5 ⟨gx1, rfl, ho, hb⟩
      have zw5 := hb.size
      have HOx0 := hide (own_ext HOx0.out hb)
      have kE := kE.trans hb
      clear hb
      have HBx1 := hide ho; have HOx1 := hide ho; clear ho
      go_wp2_with fail
      refine (AreMirrored_any l0 _ _ l1 _ _ _ hm0 hm1 (Rds.of_own HOx0.out) (Rds.of_own HOx1.out) ).mono ?_; rintro e w6 ⟨rfl, hb⟩
      have zw6 := hb.size
      have HOx0 := hide (own_ext HOx0.out hb)
      have HOx1 := hide (own_ext HOx1.out hb)
      have kE := kE.trans hb
      clear hb
      go_wp2_with fail
      refine (toNodeS_any l0 A0 c0 _ hm0 (HR0.out.ext kE)).mono ?_; rintro e w7 ⟨gy0, rfl, ho, hb⟩
      have zw7 := hb.size
      have HOx0 := hide (own_ext HOx0.out hb)
      have HOx1 := hide (own_ext HOx1.out hb)
      have kE := kE.trans hb
      clear hb
      have HBy0 := hide ho; have HOy0 := hide ho; clear ho
      go_wp2_with fail
      refine (eqNodeS_any l0 l0 _ _ _ _ _ hm0 hm0 (Rds.of_own HOx0.out) (Rds.of_own HOy0.out)).mono ?_; rintro e w8 ⟨rfl, hb⟩
      have zw8 := hb.size
      have HOx0 := hide (own_ext HOx0.out hb)
      have HOx1 := hide (own_ext HOx1.out hb)
      have HOy0 := hide (own_ext HOy0.out hb)
      have kE := kE.trans hb
      clear hb
      rw [decide_eq_true rfl]
      go_wp2_with fail
      refine (toNodeS_any l1 A1 c1 _ hm1 (HR1.out.ext kE)).mono ?_; rintro e w9 ⟨gy1, rfl, ho, hb⟩
      have zw9 := hb.size
      have HOx0 := hide (own_ext HOx0.out hb)
      have HOx1 := hide (own_ext HOx1.out hb)
      have kE := kE.trans hb
      clear hb
      have HBy1 := hide ho; have HOy1 := hide ho; clear ho
      go_wp2_with fail
      refine (eqNodeS_any l1 l1 _ _ _ _ _ hm1 hm1 (Rds.of_own HOx1.out) (Rds.of_own HOy1.out)).mono ?_; rintro e w10 ⟨rfl, hb⟩
      have zw10 := hb.size
      have HOx0 := hide (own_ext HOx0.out hb)
      have HOx1 := hide (own_ext HOx1.out hb)
      have HOy1 := hide (own_ext HOy1.out hb)
      have kE := kE.trans hb
      clear hb
      rw [decide_eq_true rfl]
      go_wp2_with fail
      go_ret
      exact ⟨rfl, by repeat (first | exact kE | exact Ext.refl _ | apply Ext.alloc | apply Ext.drewN | apply Ext.drew | apply Ext.set0 | apply Ext.set1 | apply Ext.set2 | apply Ext.set3 | (refine Ext.setk ?_ (by omega) _) | (apply Ext.snoc; assumption))⟩
end Go.Proofs.Ytlpononcpocmoaa
