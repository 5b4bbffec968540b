/- The walk of the law on colors and stains. No condition. -/
import Derived.Test.YtlpononcpocmoaaColors
import Derived.Test.YtlpononcpocmoaaMarkStain
import Derived.Test.YtlpononcpocmoaaMarkInt
set_option linter.unusedSimpArgs false
set_option linter.unusedVariables false
namespace Go.Proofs.Ytlpononcpocmoaa
open Go.RowKit
set_option maxHeartbeats 2000000 in
theorem FnExactColorStains_walk (l0 : List Int) (A0 : Option Addr) (c0 : Nat) (l1 : List P3) (A1 : Option Addr) (c1 : Nat) (w : World) (hl0 : l0.length ≤ maxLen) (hr0 : RI w A0 l0) (hl1 : l1.length ≤ maxLen) (hr1 : R3 w A1 l1) :
    Calls Try.prog 10 #[.slice A0 l0.length c0, .slice A1 l1.length c1] w fun e w' => e = .returned (.bool true) ∧ Ext w w' := by
  have HR0 := hide hr0
  have HR1 := hide hr1
  clear hr0 hr1
  by_cases h0 : (1048576 : Int) < l0.length
  · skip
    unfold maxLen at hl0
    go_enter Try.func10, Try.ntmps10
    go_wp2_with fail
    go_ret
    exact ⟨rfl, by repeat (first | exact kE | exact Ext.refl _ | apply Ext.alloc | apply Ext.drewN | apply Ext.drew | apply Ext.set0 | apply Ext.set1 | apply Ext.set2 | apply Ext.set3 | (refine Ext.setk ?_ (by omega) _) | (apply Ext.snoc; assumption))⟩
  · skip
    have hm0 : l0.length ≤ 1048576 := by omega
    by_cases h1 : (1048576 : Int) < l1.length
    · have hs1 : szR l1.length (1048576) = -1 := by unfold szR; rw [if_pos h1]
      go_enter Try.func10, Try.ntmps10
      go_wp2_with fail
      refine (szStainS_any l1 A1 c1 _ _ hl1 (by omega) (by omega)).mono ?_; rintro e w' ⟨rfl, rfl⟩
      rw [hs1]
      go_wp2_with fail
      go_ret
      exact ⟨rfl, by repeat (first | exact kE | exact Ext.refl _ | apply Ext.alloc | apply Ext.drewN | apply Ext.drew | apply Ext.set0 | apply Ext.set1 | apply Ext.set2 | apply Ext.set3 | (refine Ext.setk ?_ (by omega) _) | (apply Ext.snoc; assumption))⟩
    · have hs1 : szR l1.length (1048576) = 1048576 - l1.length := by unfold szR; rw [if_neg h1]
      have hm1 : l1.length ≤ 1048576 := by omega
      unfold maxLen at hl0
      go_enter Try.func10, Try.ntmps10
      go_wp2_with fail
      refine (szStainS_any l1 A1 c1 _ _ hl1 (by omega) (by omega)).mono ?_; rintro e w' ⟨rfl, rfl⟩
      rw [hs1]
      go_wp2_with fail
      have kE := Ext.refl w
      have hrl : ((colorV l0 l1)).length ≤ 1048576 := colorV_length l0 l1 hm0
      refine (toIntS_any l0 A0 c0 _ hm0 (HR0.out.ext kE)).mono ?_; rintro e w1 ⟨ga0, rfl, ho, hb⟩
      have zw1 := hb.size
      have kE := kE.trans hb
      clear hb
      have HBa0 := hide ho; have HOa0 := hide ho; clear ho
      go_wp2_with fail
      refine (toStainS_any l1 A1 c1 _ hm1 (HR1.out.ext kE)).mono ?_; rintro e w2 ⟨ga1, rfl, ho, hb⟩
      have zw2 := hb.size
      have HOa0 := hide (own_ext HOa0.out hb)
      have kE := kE.trans hb
      clear hb
      have HBa1 := hide ho; have HOa1 := hide ho; clear ho
      go_wp2_with fail
      refine (sColorStains_any l0 _ _ l1 _ _ _ hm0 hm1 (Rds.of_own HOa0.out) (Rds.of_own HOa1.out) ).mono ?_; rintro e w3 ⟨Ar, cr, rfl, ho, hb⟩
      have zw3 := hb.size
      have HOa0 := hide (own_ext HOa0.out hb)
      have HOa1 := hide (own_ext HOa1.out hb)
      have kE := kE.trans hb
      clear hb
      have HBr := hide ho; have HOr := hide ho; clear ho
      go_wp2_with fail
      refine (toIntS_any l0 A0 c0 _ hm0 (HR0.out.ext kE)).mono ?_; rintro e w4 ⟨gx0, rfl, ho, hb⟩
      have zw4 := hb.size
      have HOr := hide (own_ext HOr.out hb)
      have kE := kE.trans hb
      clear hb
      have HBx0 := hide ho; have HOx0 := hide ho; clear ho
      go_wp2_with fail
      refine (toStainS_any l1 A1 c1 _ hm1 (HR1.out.ext kE)).mono ?_; rintro e w5 ⟨gx1, rfl, ho, hb⟩
      have zw5 := hb.size
      have HOr := hide (own_ext HOr.out hb)
      have HOx0 := hide (own_ext HOx0.out hb)
      have kE := kE.trans hb
      clear hb
      have HBx1 := hide ho; have HOx1 := hide ho; clear ho
      go_wp2_with fail
      refine (ColorStains_any l0 _ _ l1 _ _ _ hm0 hm1 (Rds.of_own HOx0.out) (Rds.of_own HOx1.out) ).mono ?_; rintro e w6 ⟨Ag, cg, rfl, ho, hb⟩
      have zw6 := hb.size
      have HOr := hide (own_ext HOr.out hb)
      have HOx0 := hide (own_ext HOx0.out hb)
      have HOx1 := hide (own_ext HOx1.out hb)
      have kE := kE.trans hb
      clear hb
      have HBg := hide ho; have HOg := hide ho; clear ho
      go_wp2_with fail
      refine (eqStainS_any (colorV l0 l1) (colorV l0 l1) _ _ _ _ _ hrl hrl (Rds.of_own HOg.out) (Rds.of_own HOr.out)).mono ?_; rintro e w7 ⟨rfl, hb⟩
      have zw7 := hb.size
      have HOr := hide (own_ext HOr.out hb)
      have HOx0 := hide (own_ext HOx0.out hb)
      have HOx1 := hide (own_ext HOx1.out hb)
      have HOg := hide (own_ext HOg.out hb)
      have kE := kE.trans hb
      clear hb
      rw [decide_eq_true rfl]
      go_wp2_with fail
      refine (toIntS_any l0 A0 c0 _ hm0 (HR0.out.ext kE)).mono ?_; rintro e w8 ⟨gy0, rfl, ho, hb⟩
      have zw8 := hb.size
      have HOr := hide (own_ext HOr.out hb)
      have HOx0 := hide (own_ext HOx0.out hb)
      have HOx1 := hide (own_ext HOx1.out hb)
      have HOg := hide (own_ext HOg.out hb)
      have kE := kE.trans hb
      clear hb
      have HBy0 := hide ho; have HOy0 := hide ho; clear ho
      go_wp2_with fail
      refine (eqIntS_any l0 l0 _ _ _ _ _ hm0 hm0 (Rds.of_own HOx0.out) (Rds.of_own HOy0.out)).mono ?_; rintro e w9 ⟨rfl, hb⟩
      have zw9 := hb.size
      have HOr := hide (own_ext HOr.out hb)
      have HOx0 := hide (own_ext HOx0.out hb)
      have HOx1 := hide (own_ext HOx1.out hb)
      have HOg := hide (own_ext HOg.out hb)
      have HOy0 := hide (own_ext HOy0.out hb)
      have kE := kE.trans hb
      clear hb
      rw [decide_eq_true rfl]
      go_wp2_with fail
      refine (toStainS_any l1 A1 c1 _ hm1 (HR1.out.ext kE)).mono ?_; rintro e w10 ⟨gy1, rfl, ho, hb⟩
      have zw10 := hb.size
      have HOr := hide (own_ext HOr.out hb)
      have HOx0 := hide (own_ext HOx0.out hb)
      have HOx1 := hide (own_ext HOx1.out hb)
      have HOg := hide (own_ext HOg.out hb)
      have kE := kE.trans hb
      clear hb
      have HBy1 := hide ho; have HOy1 := hide ho; clear ho
      go_wp2_with fail
      refine (eqStainS_any l1 l1 _ _ _ _ _ hm1 hm1 (Rds.of_own HOx1.out) (Rds.of_own HOy1.out)).mono ?_; rintro e w11 ⟨rfl, hb⟩
      have zw11 := hb.size
      have HOr := hide (own_ext HOr.out hb)
      have HOx0 := hide (own_ext HOx0.out hb)
      have HOx1 := hide (own_ext HOx1.out hb)
      have HOg := hide (own_ext HOg.out hb)
      have HOy1 := hide (own_ext HOy1.out hb)
      have kE := kE.trans hb
      clear hb
      rw [decide_eq_true rfl]
      go_wp2_with fail
      refine (markIntS_any l0.length (some ⟨gx0, 0, none⟩) l0.length _ _ 1 _ hm0 (by omega) (by omega) HOx0.out).mono ?_; rintro e w12 ⟨rfl, ho, hg⟩
      have zw12 := hg.size
      have HOr := hide (World.ownsRow.kept HOr.out hg (own_other2 HBr.out HBx0.out (by omega)))
      have HOx1 := hide (World.ownsRow.kept HOx1.out hg (own_other HBx0.out HBx1.out (by omega)))
      have HOg := hide (World.ownsRow.kept HOg.out hg (own_other HBx0.out HBg.out (by omega)))
      have HOx0 := hide ho
      have kE := Ext.grown kE hg ((own_base HBx0.out (by omega)))
      clear ho hg
      go_wp2_with fail
      refine (markStainS_any l1.length (some ⟨gx1, 0, none⟩) l1.length _ _ (1 + l0.length) _ hm1 (by omega) (by omega) HOx1.out).mono ?_; rintro e w13 ⟨rfl, ho, hg⟩
      have zw13 := hg.size
      have HOr := hide (World.ownsRow.kept HOr.out hg (own_other2 HBr.out HBx1.out (by omega)))
      have HOx0 := hide (World.ownsRow.kept HOx0.out hg (own_other2 HBx0.out HBx1.out (by omega)))
      have HOg := hide (World.ownsRow.kept HOg.out hg (own_other HBx1.out HBg.out (by omega)))
      have HOx1 := hide ho
      have kE := Ext.grown kE hg ((own_base HBx1.out (by omega)))
      clear ho hg
      go_wp2_with fail
      refine (eqStainS_any (colorV l0 l1) (colorV l0 l1) _ _ _ _ _ hrl hrl (Rds.of_own HOg.out) (Rds.of_own HOr.out)).mono ?_; rintro e w14 ⟨rfl, hb⟩
      have zw14 := hb.size
      have HOr := hide (own_ext HOr.out hb)
      have HOx0 := hide (own_ext HOx0.out hb)
      have HOx1 := hide (own_ext HOx1.out hb)
      have HOg := hide (own_ext HOg.out hb)
      have kE := kE.trans hb
      clear hb
      rw [decide_eq_true rfl]
      go_wp2_with fail
      refine (markStainS_any ((colorV l0 l1)).length Ag cg _ _ 1 _ hrl (by omega) (by omega) HOg.out).mono ?_; rintro e w15 ⟨rfl, ho, hg⟩
      have zw15 := hg.size
      have HOr := hide (World.ownsRow.kept HOr.out hg (own_other2 HBr.out HBg.out (by omega)))
      have HOg := hide ho
      have kE := Ext.grown kE hg ((own_base HBg.out (by omega)))
      clear ho hg
      go_wp2_with fail
      refine (heldStainS_any ((colorV l0 l1)).length Ag cg 1 _ hrl (by omega) (by omega) (Rds.of_own HOg.out)).mono ?_; rintro e w16 ⟨rfl, hb⟩
      have zw16 := hb.size
      have HOr := hide (own_ext HOr.out hb)
      have HOg := hide (own_ext HOg.out hb)
      have kE := kE.trans hb
      clear hb
      go_wp2_with fail
      refine (toIntS_any l0 A0 c0 _ hm0 (HR0.out.ext kE)).mono ?_; rintro e w17 ⟨gb0, rfl, ho, hb⟩
      have zw17 := hb.size
      have HOr := hide (own_ext HOr.out hb)
      have HOg := hide (own_ext HOg.out hb)
      have kE := kE.trans hb
      clear hb
      have HBb0 := hide ho; have HOb0 := hide ho; clear ho
      go_wp2_with fail
      refine (toStainS_any l1 A1 c1 _ hm1 (HR1.out.ext kE)).mono ?_; rintro e w18 ⟨gb1, rfl, ho, hb⟩
      have zw18 := hb.size
      have HOr := hide (own_ext HOr.out hb)
      have HOg := hide (own_ext HOg.out hb)
      have HOb0 := hide (own_ext HOb0.out hb)
      have kE := kE.trans hb
      clear hb
      have HBb1 := hide ho; have HOb1 := hide ho; clear ho
      go_wp2_with fail
      refine (ColorStains_any l0 _ _ l1 _ _ _ hm0 hm1 (Rds.of_own HOb0.out) (Rds.of_own HOb1.out) ).mono ?_; rintro e w19 ⟨Ah, ch, rfl, ho, hb⟩
      have zw19 := hb.size
      have HOr := hide (own_ext HOr.out hb)
      have HOg := hide (own_ext HOg.out hb)
      have HOb0 := hide (own_ext HOb0.out hb)
      have HOb1 := hide (own_ext HOb1.out hb)
      have kE := kE.trans hb
      clear hb
      have HBh := hide ho; have HOh := hide ho; clear ho
      go_wp2_with fail
      refine (eqStainS_any (colorV l0 l1) (colorV l0 l1) _ _ _ _ _ hrl hrl (Rds.of_own HOh.out) (Rds.of_own HOr.out)).mono ?_; rintro e w20 ⟨rfl, hb⟩
      have zw20 := hb.size
      have HOr := hide (own_ext HOr.out hb)
      have HOg := hide (own_ext HOg.out hb)
      have HOh := hide (own_ext HOh.out hb)
      have kE := kE.trans hb
      clear hb
      rw [decide_eq_true rfl]
      go_wp2_with fail
      refine (heldStainS_any ((colorV l0 l1)).length Ag cg 1 _ hrl (by omega) (by omega) (Rds.of_own HOg.out)).mono ?_; rintro e w21 ⟨rfl, hb⟩
      have zw21 := hb.size
      have HOg := hide (own_ext HOg.out hb)
      have kE := kE.trans hb
      clear hb
      go_wp2_with fail
      go_ret
      exact ⟨rfl, by repeat (first | exact kE | exact Ext.refl _ | apply Ext.alloc | apply Ext.drewN | apply Ext.drew | apply Ext.set0 | apply Ext.set1 | apply Ext.set2 | apply Ext.set3 | (refine Ext.setk ?_ (by omega) _) | (apply Ext.snoc; assumption))⟩
end Go.Proofs.Ytlpononcpocmoaa
