/- The walk of the law on the least sum of hours. No condition. -/
import Derived.Test.YtgddpeaoacmfnaaKilnL
import Derived.Test.YtgddpeaoacmfnaaFireS
set_option linter.unusedSimpArgs false
set_option linter.unusedVariables false
namespace Go.Proofs.Ytgddpeaoacmfnaa
open Go.RowKit
set_option maxHeartbeats 2000000 in
theorem FnExactHoursOf_walk (l0 : List P3) (A0 : Option Addr) (c0 : Nat) (w : World) (hl0 : l0.length ≤ maxLen) (hr0 : R3 w A0 l0) :
    Calls Try.prog 4 #[.slice A0 l0.length c0] w fun e w' => e = .returned (.bool true) ∧ Ext w w' := by
  have HR0 := hide hr0
  clear hr0
  by_cases h0 : (1048576 : Int) < l0.length
  · have hs0 : szR l0.length (1048576) = -1 := by unfold szR; rw [if_pos h0]
    go_enter Try.func4, Try.ntmps4
    go_wp2_with fail
    refine (szFiringS_any l0 A0 c0 _ _ hl0 (by omega) (by omega)).mono ?_; rintro e w' ⟨rfl, rfl⟩
    rw [hs0]
    go_wp2_with fail
    go_ret
    exact ⟨rfl, by repeat (first | exact kE | exact Ext.refl _ | apply Ext.alloc | apply Ext.drewN | apply Ext.drew | apply Ext.set0 | apply Ext.set1 | apply Ext.set2 | apply Ext.set3 | (refine Ext.setk ?_ (by omega) _) | (apply Ext.snoc; assumption))⟩
  · have hs0 : szR l0.length (1048576) = 1048576 - l0.length := by unfold szR; rw [if_neg h0]
    have hm0 : l0.length ≤ 1048576 := by omega
    go_enter Try.func4, Try.ntmps4
    go_wp2_with fail
    refine (szFiringS_any l0 A0 c0 _ _ hl0 (by omega) (by omega)).mono ?_; rintro e w' ⟨rfl, rfl⟩
    rw [hs0]
    go_wp2_with fail
    have kE := Ext.refl w
    refine (toFiringS_any l0 A0 c0 _ hm0 (HR0.out.ext kE)).mono ?_; rintro e w1 ⟨ga0, rfl, ho, hb⟩
    have zw1 := hb.size
    have kE := kE.trans hb
    clear hb
    have HBa0 := hide ho; have HOa0 := hide ho; clear ho
    go_wp2_with fail
    refine (sHoursOf_any l0 _ _ _ hm0 (Rds.of_own HOa0.out) ).mono ?_; rintro e w2 ⟨rfl, hb⟩
    have zw2 := hb.size
    have HOa0 := hide (own_ext HOa0.out hb)
    have kE := kE.trans hb
    clear hb
    go_wp2_with fail
    refine (toFiringS_any l0 A0 c0 _ hm0 (HR0.out.ext kE)).mono ?_; rintro e w3 ⟨gx0, rfl, ho, hb⟩
    have zw3 := hb.size
    have kE := kE.trans hb
    clear hb
    have HBx0 := hide ho; have HOx0 := hide ho; clear ho
    go_wp2_with fail
    refine (HoursOf_any l0 _ _ _ hm0 (Rds.of_own HOx0.out) ).mono ?_; rintro e w4 ⟨rfl, hb⟩
    have zw4 := hb.size
    have HOx0 := hide (own_ext HOx0.out hb)
    have kE := kE.trans hb
    clear hb
    go_wp2_with fail
    refine (toFiringS_any l0 A0 c0 _ hm0 (HR0.out.ext kE)).mono ?_; rintro e w5 ⟨gy0, rfl, ho, hb⟩
    have zw5 := hb.size
    have HOx0 := hide (own_ext HOx0.out hb)
    have kE := kE.trans hb
    clear hb
    have HBy0 := hide ho; have HOy0 := hide ho; clear ho
    go_wp2_with fail
    refine (eqFiringS_any l0 l0 _ _ _ _ _ hm0 hm0 (Rds.of_own HOx0.out) (Rds.of_own HOy0.out)).mono ?_; rintro e w6 ⟨rfl, hb⟩
    have zw6 := hb.size
    have HOx0 := hide (own_ext HOx0.out hb)
    have HOy0 := hide (own_ext HOy0.out hb)
    have kE := kE.trans hb
    clear hb
    rw [decide_eq_true rfl]
    go_wp2_with fail
    go_ret
    exact ⟨rfl, by repeat (first | exact kE | exact Ext.refl _ | apply Ext.alloc | apply Ext.drewN | apply Ext.drew | apply Ext.set0 | apply Ext.set1 | apply Ext.set2 | apply Ext.set3 | (refine Ext.setk ?_ (by omega) _) | (apply Ext.snoc; assumption))⟩
end Go.Proofs.Ytgddpeaoacmfnaa
