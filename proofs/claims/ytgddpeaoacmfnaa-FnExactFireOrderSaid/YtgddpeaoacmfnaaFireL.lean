/- The walk of the law on the order of firing. No condition. -/
import Derived.Test.YtgddpeaoacmfnaaFireP
import Derived.Test.YtgddpeaoacmfnaaFireS
import Derived.Test.YtgddpeaoacmfnaaMarkFire
import Derived.Test.YtgddpeaoacmfnaaMarkInt
import Derived.Test.YtgddpeaoacmfnaaTrackG
set_option linter.unusedSimpArgs false
set_option linter.unusedVariables false
namespace Go.Proofs.Ytgddpeaoacmfnaa
open Go.RowKit
set_option maxHeartbeats 2000000 in
theorem FnExactFireOrder_walk (l0 : List P3) (A0 : Option Addr) (c0 : Nat) (w : World) (hl0 : l0.length ≤ maxLen) (hr0 : R3 w A0 l0) :
    Calls Try.prog 5 #[.slice A0 l0.length c0] w fun e w' => e = .returned (.bool true) ∧ Ext w w' := by
  have HR0 := hide hr0
  clear hr0
  by_cases h0 : (1048576 : Int) < l0.length
  · have hs0 : szR l0.length (1048576) = -1 := by unfold szR; rw [if_pos h0]
    go_enter Try.func5, Try.ntmps5
    go_wp2_with fail
    refine (szFiringS_any l0 A0 c0 _ _ hl0 (by omega) (by omega)).mono ?_; rintro e w' ⟨rfl, rfl⟩
    rw [hs0]
    go_wp2_with fail
    go_ret
    exact ⟨rfl, by repeat (first | exact kE | exact Ext.refl _ | apply Ext.alloc | apply Ext.drewN | apply Ext.drew | apply Ext.set0 | apply Ext.set1 | apply Ext.set2 | apply Ext.set3 | (refine Ext.setk ?_ (by omega) _) | (apply Ext.snoc; assumption))⟩
  · have hs0 : szR l0.length (1048576) = 1048576 - l0.length := by unfold szR; rw [if_neg h0]
    have hm0 : l0.length ≤ 1048576 := by omega
    go_enter Try.func5, Try.ntmps5
    go_wp2_with fail
    refine (szFiringS_any l0 A0 c0 _ _ hl0 (by omega) (by omega)).mono ?_; rintro e w' ⟨rfl, rfl⟩
    rw [hs0]
    go_wp2_with fail
    have kE := Ext.refl w
    have hrl : ((fireV l0)).length ≤ 1048576 := fireV_length l0 hm0
    refine (toFiringS_any l0 A0 c0 _ hm0 (HR0.out.ext kE)).mono ?_; rintro e w1 ⟨ga0, rfl, ho, hb⟩
    have zw1 := hb.size
    have kE := kE.trans hb
    clear hb
    have HBa0 := hide ho; have HOa0 := hide ho; clear ho
    go_wp2_with fail
    refine (sFireOrder_any l0 _ _ _ hm0 (Rds.of_own HOa0.out) ).mono ?_; rintro e w2 ⟨Ar, cr, rfl, ho, hb⟩
    have zw2 := hb.size
    have HOa0 := hide (own_ext HOa0.out hb)
    have kE := kE.trans hb
    clear hb
    have HBr := hide ho; have HOr := hide ho; clear ho
    go_wp2_with fail
    refine (toFiringS_any l0 A0 c0 _ hm0 (HR0.out.ext kE)).mono ?_; rintro e w3 ⟨gx0, rfl, ho, hb⟩
    have zw3 := hb.size
    have HOr := hide (own_ext HOr.out hb)
    have kE := kE.trans hb
    clear hb
    have HBx0 := hide ho; have HOx0 := hide ho; clear ho
    go_wp2_with fail
    refine (FireOrder_any l0 _ _ _ hm0 (Rds.of_own HOx0.out) ).mono ?_; rintro e w4 ⟨Ag, cg, rfl, ho, hb⟩
    have zw4 := hb.size
    have HOr := hide (own_ext HOr.out hb)
    have HOx0 := hide (own_ext HOx0.out hb)
    have kE := kE.trans hb
    clear hb
    have HBg := hide ho; have HOg := hide ho; clear ho
    go_wp2_with fail
    refine (eqIntS_any (fireV l0) (fireV l0) _ _ _ _ _ hrl hrl (Rds.of_own HOg.out) (Rds.of_own HOr.out)).mono ?_; rintro e w5 ⟨rfl, hb⟩
    have zw5 := hb.size
    have HOr := hide (own_ext HOr.out hb)
    have HOx0 := hide (own_ext HOx0.out hb)
    have HOg := hide (own_ext HOg.out hb)
    have kE := kE.trans hb
    clear hb
    rw [decide_eq_true rfl]
    go_wp2_with fail
    refine (toFiringS_any l0 A0 c0 _ hm0 (HR0.out.ext kE)).mono ?_; rintro e w6 ⟨gy0, rfl, ho, hb⟩
    have zw6 := hb.size
    have HOr := hide (own_ext HOr.out hb)
    have HOx0 := hide (own_ext HOx0.out hb)
    have HOg := hide (own_ext HOg.out hb)
    have kE := kE.trans hb
    clear hb
    have HBy0 := hide ho; have HOy0 := hide ho; clear ho
    go_wp2_with fail
    refine (eqFiringS_any l0 l0 _ _ _ _ _ hm0 hm0 (Rds.of_own HOx0.out) (Rds.of_own HOy0.out)).mono ?_; rintro e w7 ⟨rfl, hb⟩
    have zw7 := hb.size
    have HOr := hide (own_ext HOr.out hb)
    have HOx0 := hide (own_ext HOx0.out hb)
    have HOg := hide (own_ext HOg.out hb)
    have HOy0 := hide (own_ext HOy0.out hb)
    have kE := kE.trans hb
    clear hb
    rw [decide_eq_true rfl]
    go_wp2_with fail
    refine (markFiringS_any l0.length (some ⟨gx0, 0, none⟩) l0.length _ _ 1 _ hm0 (by omega) (by omega) HOx0.out).mono ?_; rintro e w8 ⟨rfl, ho, hg⟩
    have zw8 := hg.size
    have HOr := hide (World.ownsRow.kept HOr.out hg (own_other2 HBr.out HBx0.out (by omega)))
    have HOg := hide (World.ownsRow.kept HOg.out hg (own_other HBx0.out HBg.out (by omega)))
    have HOx0 := hide ho
    have kE := Ext.grown kE hg ((own_base HBx0.out (by omega)))
    clear ho hg
    go_wp2_with fail
    refine (eqIntS_any (fireV l0) (fireV l0) _ _ _ _ _ hrl hrl (Rds.of_own HOg.out) (Rds.of_own HOr.out)).mono ?_; rintro e w9 ⟨rfl, hb⟩
    have zw9 := hb.size
    have HOr := hide (own_ext HOr.out hb)
    have HOx0 := hide (own_ext HOx0.out hb)
    have HOg := hide (own_ext HOg.out hb)
    have kE := kE.trans hb
    clear hb
    rw [decide_eq_true rfl]
    go_wp2_with fail
    refine (markIntS_any ((fireV l0)).length Ag cg _ _ 1 _ hrl (by omega) (by omega) HOg.out).mono ?_; rintro e w10 ⟨rfl, ho, hg⟩
    have zw10 := hg.size
    have HOr := hide (World.ownsRow.kept HOr.out hg (own_other2 HBr.out HBg.out (by omega)))
    have HOg := hide ho
    have kE := Ext.grown kE hg ((own_base HBg.out (by omega)))
    clear ho hg
    go_wp2_with fail
    refine (heldIntS_any ((fireV l0)).length Ag cg 1 _ hrl (by omega) (by omega) (Rds.of_own HOg.out)).mono ?_; rintro e w11 ⟨rfl, hb⟩
    have zw11 := hb.size
    have HOr := hide (own_ext HOr.out hb)
    have HOg := hide (own_ext HOg.out hb)
    have kE := kE.trans hb
    clear hb
    go_wp2_with fail
    refine (toFiringS_any l0 A0 c0 _ hm0 (HR0.out.ext kE)).mono ?_; rintro e w12 ⟨gb0, rfl, ho, hb⟩
    have zw12 := hb.size
    have HOr := hide (own_ext HOr.out hb)
    have HOg := hide (own_ext HOg.out hb)
    have kE := kE.trans hb
    clear hb
    have HBb0 := hide ho; have HOb0 := hide ho; clear ho
    go_wp2_with fail
    refine (FireOrder_any l0 _ _ _ hm0 (Rds.of_own HOb0.out) ).mono ?_; rintro e w13 ⟨Ah, ch, rfl, ho, hb⟩
    have zw13 := hb.size
    have HOr := hide (own_ext HOr.out hb)
    have HOg := hide (own_ext HOg.out hb)
    have HOb0 := hide (own_ext HOb0.out hb)
    have kE := kE.trans hb
    clear hb
    have HBh := hide ho; have HOh := hide ho; clear ho
    go_wp2_with fail
    refine (eqIntS_any (fireV l0) (fireV l0) _ _ _ _ _ hrl hrl (Rds.of_own HOh.out) (Rds.of_own HOr.out)).mono ?_; rintro e w14 ⟨rfl, hb⟩
    have zw14 := hb.size
    have HOr := hide (own_ext HOr.out hb)
    have HOg := hide (own_ext HOg.out hb)
    have HOh := hide (own_ext HOh.out hb)
    have kE := kE.trans hb
    clear hb
    rw [decide_eq_true rfl]
    go_wp2_with fail
    refine (heldIntS_any ((fireV l0)).length Ag cg 1 _ hrl (by omega) (by omega) (Rds.of_own HOg.out)).mono ?_; rintro e w15 ⟨rfl, hb⟩
    have zw15 := hb.size
    have HOg := hide (own_ext HOg.out hb)
    have kE := kE.trans hb
    clear hb
    go_wp2_with fail
    go_ret
    exact ⟨rfl, by repeat (first | exact kE | exact Ext.refl _ | apply Ext.alloc | apply Ext.drewN | apply Ext.drew | apply Ext.set0 | apply Ext.set1 | apply Ext.set2 | apply Ext.set3 | (refine Ext.setk ?_ (by omega) _) | (apply Ext.snoc; assumption))⟩
end Go.Proofs.Ytgddpeaoacmfnaa
