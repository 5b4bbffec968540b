/- The walk of the law on a stain put into a list. No condition. -/
import Derived.Test.YtlpononcpocmoaaWithS
import Derived.Test.YtlpononcpocmoaaMarkStain
import Derived.Test.YtlpononcpocmoaaTrackG
set_option linter.unusedSimpArgs false
set_option linter.unusedVariables false
namespace Go.Proofs.Ytlpononcpocmoaa
open Go.RowKit
set_option maxHeartbeats 2000000 in
theorem FnExactWithStain_walk (l0 : List P3) (A0 : Option Addr) (c0 : Nat) (n0 : Int) (s0_0 s0_1 s0_2 : Int) (w : World) (hl0 : l0.length ≤ maxLen) (hr0 : R3 w A0 l0) :
    Calls Try.prog 9 #[.slice A0 l0.length c0, .int .i64 n0, .agg #[.int .i64 s0_0, .int .i64 s0_1, .int .i64 s0_2]] w fun e w' => e = .returned (.bool true) ∧ Ext w w' := by
  
  have HR0 := hide hr0
  clear hr0
  by_cases h0 : (1048576 : Int) < l0.length
  · have hs0 : szR l0.length (1048576) = -1 := by unfold szR; rw [if_pos h0]
    go_enter Try.func9, Try.ntmps9
    go_wp2_with fail
    refine (szStainS_any l0 A0 c0 _ _ hl0 (by omega) (by omega)).mono ?_; rintro e w' ⟨rfl, rfl⟩
    rw [hs0]
    go_wp2_with fail
    go_ret
    exact ⟨rfl, by repeat (first | exact kE | exact Ext.refl _ | apply Ext.alloc | apply Ext.drewN | apply Ext.drew | apply Ext.set0 | apply Ext.set1 | apply Ext.set2 | apply Ext.set3 | (refine Ext.setk ?_ (by omega) _) | (apply Ext.snoc; assumption))⟩
  · have hs0 : szR l0.length (1048576) = 1048576 - l0.length := by unfold szR; rw [if_neg h0]
    have hm0 : l0.length ≤ 1048576 := by omega
    go_enter Try.func9, Try.ntmps9
    go_wp2_with fail
    refine (szStainS_any l0 A0 c0 _ _ hl0 (by omega) (by omega)).mono ?_; rintro e w' ⟨rfl, rfl⟩
    rw [hs0]
    go_wp2_with fail
    obtain ⟨w0, hw⟩ : ∃ w1, w1 = (w.alloc (Obj.cells #[Value.int IntKind.i64 s0_0, Value.int IntKind.i64 s0_1, Value.int IntKind.i64 s0_2] 41)) := ⟨_, rfl⟩; rw [← hw]; have kT : Tr [(w.heap.size, [.int .i64 s0_0, .int .i64 s0_1, .int .i64 s0_2])] w w0 := (by rw [hw]; exact ⟨by (first | (simp [Bx, CellsAt, go_sem, *]; done) | (simp [Bx, CellsAt, go_sem, *]; omega)), by (repeat (first | exact kE | exact Ext.refl _ | apply Ext.alloc | apply Ext.drewN | apply Ext.drew | apply Ext.set0 | apply Ext.set1 | apply Ext.set2 | apply Ext.set3 | (refine Ext.setk ?_ (by omega) _) | (apply Ext.snoc; assumption)))⟩); have HT := hide kT; clear hw kT; have kT := HT.out; simp only [Tr, Bx, CellsAt, Nat.reduceAdd, Nat.zero_add, and_true] at kT; obtain ⟨⟨kz0, kf0, kc0_0, kc0_1, kc0_2⟩, kE⟩ := kT
    have zw0 := kE.size
    have HT0 := HT
    have hrl : ((withV l0 n0 s0_0 s0_1 s0_2)).length ≤ 1048576 := (by rw [withV_length]; exact hm0)
    go_region_held3 (fun w' => (∀ (q o : Nat), q < w0.heap.size → w'.cell? ⟨q, o, none⟩ = w0.cell? ⟨q, o, none⟩) ∧ Ext w0 w') ((apply ExtS; repeat (first | exact kE | exact Ext.refl _ | apply Ext.alloc | apply Ext.drewN | apply Ext.drew | apply Ext.set0 | apply Ext.set1 | apply Ext.set2 | apply Ext.set3 | (refine Ext.setk ?_ (by omega) _) | (apply Ext.snoc; assumption)))) ((first | (go_at_call 28; refine (toStainS_any l0 A0 c0 _ hm0 (HR0.out.ext (kE.trans (by repeat (first | exact kE | exact Ext.refl _ | apply Ext.alloc | apply Ext.drewN | apply Ext.drew | apply Ext.set0 | apply Ext.set1 | apply Ext.set2 | apply Ext.set3 | (refine Ext.setk ?_ (by omega) _) | (apply Ext.snoc; assumption)))))).mono ?_; rintro e w90 ⟨g90, rfl, ho90, hb90⟩; have HO90 := hide ho90; clear ho90)  |  (go_at_call 33; refine (toStain_any _ _ _ _).mono ?_; rintro e w80 ⟨rfl, hb80⟩)  |  (go_at_call 32; refine (sWithStain_any l0 _ _ n0 s0_0 s0_1 s0_2 _ hm0 (Rds.ext (Rds.of_own HO90.out) (by repeat (first | exact kE | exact Ext.refl _ | apply Ext.alloc | apply Ext.drewN | apply Ext.drew | apply Ext.set0 | apply Ext.set1 | apply Ext.set2 | apply Ext.set3 | (refine Ext.setk ?_ (by omega) _) | (apply Ext.snoc; assumption))))).mono ?_; rintro e w1 ⟨Ar, cr, rfl, ho, hb7⟩)))
    have hb : Ext w0 w1 := by (clear kE; repeat (first | exact kE | exact Ext.refl _ | apply Ext.alloc | apply Ext.drewN | apply Ext.drew | apply Ext.set0 | apply Ext.set1 | apply Ext.set2 | apply Ext.set3 | (refine Ext.setk ?_ (by omega) _) | (apply Ext.snoc; assumption)))
    clear hb90 hb80 hb7
    have zw1 := hb.size
    have HT := hide (HT.out.ext hb); clear hb; clear kz0 kf0 kc0_0 kc0_1 kc0_2 kE; have kT := HT.out; simp only [Tr, Bx, CellsAt, Nat.reduceAdd, Nat.zero_add, and_true] at kT; obtain ⟨⟨kz0, kf0, kc0_0, kc0_1, kc0_2⟩, kE⟩ := kT
    have HBr := hide ho; have HOr := hide ho; clear ho
    go_wp2_with fail
    refine (toStainS_any l0 A0 c0 _ hm0 (HR0.out.ext kE)).mono ?_; rintro e w2 ⟨gx0, rfl, ho, hb⟩
    have zw2 := hb.size
    have HOr := hide (own_ext HOr.out hb)
    have HT := hide (HT.out.ext hb); clear hb; clear kz0 kf0 kc0_0 kc0_1 kc0_2 kE; have kT := HT.out; simp only [Tr, Bx, CellsAt, Nat.reduceAdd, Nat.zero_add, and_true] at kT; obtain ⟨⟨kz0, kf0, kc0_0, kc0_1, kc0_2⟩, kE⟩ := kT
    have HBx0 := hide ho; have HOx0 := hide ho; clear ho
    go_wp2_with fail
    refine (toStain_any _ _ _ _).mono ?_; rintro e w3 ⟨rfl, hb⟩
    have zw3 := hb.size
    have HOr := hide (own_ext HOr.out hb)
    have HOx0 := hide (own_ext HOx0.out hb)
    have HT := hide (HT.out.ext hb); clear hb; clear kz0 kf0 kc0_0 kc0_1 kc0_2 kE; have kT := HT.out; simp only [Tr, Bx, CellsAt, Nat.reduceAdd, Nat.zero_add, and_true] at kT; obtain ⟨⟨kz0, kf0, kc0_0, kc0_1, kc0_2⟩, kE⟩ := kT
    go_wp2_with fail
    refine (WithStain_any l0 _ _ n0 s0_0 s0_1 s0_2 _ hm0 (Rds.of_own HOx0.out) ).mono ?_; rintro e w4 ⟨Ag, cg, rfl, ho, hb⟩
    have zw4 := hb.size
    have HOr := hide (own_ext HOr.out hb)
    have HOx0 := hide (own_ext HOx0.out hb)
    have HT := hide (HT.out.ext hb); clear hb; clear kz0 kf0 kc0_0 kc0_1 kc0_2 kE; have kT := HT.out; simp only [Tr, Bx, CellsAt, Nat.reduceAdd, Nat.zero_add, and_true] at kT; obtain ⟨⟨kz0, kf0, kc0_0, kc0_1, kc0_2⟩, kE⟩ := kT
    have HBg := hide ho; have HOg := hide ho; clear ho
    go_wp2_with fail
    refine (eqStainS_any (withV l0 n0 s0_0 s0_1 s0_2) (withV l0 n0 s0_0 s0_1 s0_2) _ _ _ _ _ hrl hrl (Rds.of_own HOg.out) (Rds.of_own HOr.out)).mono ?_; rintro e w5 ⟨rfl, hb⟩
    have zw5 := hb.size
    have HOr := hide (own_ext HOr.out hb)
    have HOx0 := hide (own_ext HOx0.out hb)
    have HOg := hide (own_ext HOg.out hb)
    have HT := hide (HT.out.ext hb); clear hb; clear kz0 kf0 kc0_0 kc0_1 kc0_2 kE; have kT := HT.out; simp only [Tr, Bx, CellsAt, Nat.reduceAdd, Nat.zero_add, and_true] at kT; obtain ⟨⟨kz0, kf0, kc0_0, kc0_1, kc0_2⟩, kE⟩ := kT
    rw [decide_eq_true rfl]
    go_wp2_with fail
    refine (toStainS_any l0 A0 c0 _ hm0 (HR0.out.ext kE)).mono ?_; rintro e w6 ⟨gy0, rfl, ho, hb⟩
    have zw6 := hb.size
    have HOr := hide (own_ext HOr.out hb)
    have HOx0 := hide (own_ext HOx0.out hb)
    have HOg := hide (own_ext HOg.out hb)
    have HT := hide (HT.out.ext hb); clear hb; clear kz0 kf0 kc0_0 kc0_1 kc0_2 kE; have kT := HT.out; simp only [Tr, Bx, CellsAt, Nat.reduceAdd, Nat.zero_add, and_true] at kT; obtain ⟨⟨kz0, kf0, kc0_0, kc0_1, kc0_2⟩, kE⟩ := kT
    have HBy0 := hide ho; have HOy0 := hide ho; clear ho
    go_wp2_with fail
    refine (eqStainS_any l0 l0 _ _ _ _ _ hm0 hm0 (Rds.of_own HOx0.out) (Rds.of_own HOy0.out)).mono ?_; rintro e w7 ⟨rfl, hb⟩
    have zw7 := hb.size
    have HOr := hide (own_ext HOr.out hb)
    have HOx0 := hide (own_ext HOx0.out hb)
    have HOg := hide (own_ext HOg.out hb)
    have HOy0 := hide (own_ext HOy0.out hb)
    have HT := hide (HT.out.ext hb); clear hb; clear kz0 kf0 kc0_0 kc0_1 kc0_2 kE; have kT := HT.out; simp only [Tr, Bx, CellsAt, Nat.reduceAdd, Nat.zero_add, and_true] at kT; obtain ⟨⟨kz0, kf0, kc0_0, kc0_1, kc0_2⟩, kE⟩ := kT
    rw [decide_eq_true rfl]
    go_wp2_with fail
    refine (markStainS_any l0.length (some ⟨gx0, 0, none⟩) l0.length _ _ 1 _ hm0 (by omega) (by omega) HOx0.out).mono ?_; rintro e w8 ⟨rfl, ho, hg⟩
    have zw8 := hg.size
    have HOr := hide (World.ownsRow.kept HOr.out hg (own_other2 HBr.out HBx0.out (by omega)))
    have HOg := hide (World.ownsRow.kept HOg.out hg (own_other HBx0.out HBg.out (by omega)))
    have HOx0 := hide ho
    have HT := hide (HT.out.grown HT0.out hg (own_base HBx0.out (by omega))); clear kz0 kf0 kc0_0 kc0_1 kc0_2 kE; have kT := HT.out; simp only [Tr, Bx, CellsAt, Nat.reduceAdd, Nat.zero_add, and_true] at kT; obtain ⟨⟨kz0, kf0, kc0_0, kc0_1, kc0_2⟩, kE⟩ := kT
    clear ho hg
    go_wp2_with fail
    refine (eqStainS_any (withV l0 n0 s0_0 s0_1 s0_2) (withV l0 n0 s0_0 s0_1 s0_2) _ _ _ _ _ hrl hrl (Rds.of_own HOg.out) (Rds.of_own HOr.out)).mono ?_; rintro e w9 ⟨rfl, hb⟩
    have zw9 := hb.size
    have HOr := hide (own_ext HOr.out hb)
    have HOx0 := hide (own_ext HOx0.out hb)
    have HOg := hide (own_ext HOg.out hb)
    have HT := hide (HT.out.ext hb); clear hb; clear kz0 kf0 kc0_0 kc0_1 kc0_2 kE; have kT := HT.out; simp only [Tr, Bx, CellsAt, Nat.reduceAdd, Nat.zero_add, and_true] at kT; obtain ⟨⟨kz0, kf0, kc0_0, kc0_1, kc0_2⟩, kE⟩ := kT
    rw [decide_eq_true rfl]
    go_wp2_with fail
    refine (markStainS_any ((withV l0 n0 s0_0 s0_1 s0_2)).length Ag cg _ _ 1 _ hrl (by omega) (by omega) HOg.out).mono ?_; rintro e w10 ⟨rfl, ho, hg⟩
    have zw10 := hg.size
    have HOr := hide (World.ownsRow.kept HOr.out hg (own_other2 HBr.out HBg.out (by omega)))
    have HOg := hide ho
    have HT := hide (HT.out.grown HT0.out hg (own_base HBg.out (by omega))); clear kz0 kf0 kc0_0 kc0_1 kc0_2 kE; have kT := HT.out; simp only [Tr, Bx, CellsAt, Nat.reduceAdd, Nat.zero_add, and_true] at kT; obtain ⟨⟨kz0, kf0, kc0_0, kc0_1, kc0_2⟩, kE⟩ := kT
    clear ho hg
    go_wp2_with fail
    refine (heldStainS_any ((withV l0 n0 s0_0 s0_1 s0_2)).length Ag cg 1 _ hrl (by omega) (by omega) (Rds.of_own HOg.out)).mono ?_; rintro e w11 ⟨rfl, hb⟩
    have zw11 := hb.size
    have HOr := hide (own_ext HOr.out hb)
    have HOg := hide (own_ext HOg.out hb)
    have HT := hide (HT.out.ext hb); clear hb; clear kz0 kf0 kc0_0 kc0_1 kc0_2 kE; have kT := HT.out; simp only [Tr, Bx, CellsAt, Nat.reduceAdd, Nat.zero_add, and_true] at kT; obtain ⟨⟨kz0, kf0, kc0_0, kc0_1, kc0_2⟩, kE⟩ := kT
    go_wp2_with fail
    go_region_held3 (fun w' => (∀ (q o : Nat), q < w11.heap.size → w'.cell? ⟨q, o, none⟩ = w11.cell? ⟨q, o, none⟩) ∧ Ext w11 w') ((apply ExtS; repeat (first | exact kE | exact Ext.refl _ | apply Ext.alloc | apply Ext.drewN | apply Ext.drew | apply Ext.set0 | apply Ext.set1 | apply Ext.set2 | apply Ext.set3 | (refine Ext.setk ?_ (by omega) _) | (apply Ext.snoc; assumption)))) ((first | (go_at_call 28; refine (toStainS_any l0 A0 c0 _ hm0 (HR0.out.ext (kE.trans (by repeat (first | exact kE | exact Ext.refl _ | apply Ext.alloc | apply Ext.drewN | apply Ext.drew | apply Ext.set0 | apply Ext.set1 | apply Ext.set2 | apply Ext.set3 | (refine Ext.setk ?_ (by omega) _) | (apply Ext.snoc; assumption)))))).mono ?_; rintro e w90 ⟨g90, rfl, ho90, hb90⟩; have HO90 := hide ho90; clear ho90)  |  (go_at_call 33; refine (toStain_any _ _ _ _).mono ?_; rintro e w80 ⟨rfl, hb80⟩)  |  (go_at_call 34; refine (WithStain_any l0 _ _ n0 s0_0 s0_1 s0_2 _ hm0 (Rds.ext (Rds.of_own HO90.out) (by repeat (first | exact kE | exact Ext.refl _ | apply Ext.alloc | apply Ext.drewN | apply Ext.drew | apply Ext.set0 | apply Ext.set1 | apply Ext.set2 | apply Ext.set3 | (refine Ext.setk ?_ (by omega) _) | (apply Ext.snoc; assumption))))).mono ?_; rintro e w12 ⟨Ah, ch, rfl, ho, hb7⟩)))
    have hb : Ext w11 w12 := by (clear kE; repeat (first | exact kE | exact Ext.refl _ | apply Ext.alloc | apply Ext.drewN | apply Ext.drew | apply Ext.set0 | apply Ext.set1 | apply Ext.set2 | apply Ext.set3 | (refine Ext.setk ?_ (by omega) _) | (apply Ext.snoc; assumption)))
    clear hb90 hb80 hb7
    have zw12 := hb.size
    have HOr := hide (own_ext HOr.out hb)
    have HOg := hide (own_ext HOg.out hb)
    have HT := hide (HT.out.ext hb); clear hb; clear kz0 kf0 kc0_0 kc0_1 kc0_2 kE; have kT := HT.out; simp only [Tr, Bx, CellsAt, Nat.reduceAdd, Nat.zero_add, and_true] at kT; obtain ⟨⟨kz0, kf0, kc0_0, kc0_1, kc0_2⟩, kE⟩ := kT
    have HBh := hide ho; have HOh := hide ho; clear ho
    go_wp2_with fail
    refine (eqStainS_any (withV l0 n0 s0_0 s0_1 s0_2) (withV l0 n0 s0_0 s0_1 s0_2) _ _ _ _ _ hrl hrl (Rds.of_own HOh.out) (Rds.of_own HOr.out)).mono ?_; rintro e w13 ⟨rfl, hb⟩
    have zw13 := hb.size
    have HOr := hide (own_ext HOr.out hb)
    have HOg := hide (own_ext HOg.out hb)
    have HOh := hide (own_ext HOh.out hb)
    have HT := hide (HT.out.ext hb); clear hb; clear kz0 kf0 kc0_0 kc0_1 kc0_2 kE; have kT := HT.out; simp only [Tr, Bx, CellsAt, Nat.reduceAdd, Nat.zero_add, and_true] at kT; obtain ⟨⟨kz0, kf0, kc0_0, kc0_1, kc0_2⟩, kE⟩ := kT
    rw [decide_eq_true rfl]
    go_wp2_with fail
    refine (heldStainS_any ((withV l0 n0 s0_0 s0_1 s0_2)).length Ag cg 1 _ hrl (by omega) (by omega) (Rds.of_own HOg.out)).mono ?_; rintro e w14 ⟨rfl, hb⟩
    have zw14 := hb.size
    have HOg := hide (own_ext HOg.out hb)
    have HT := hide (HT.out.ext hb); clear hb; clear kz0 kf0 kc0_0 kc0_1 kc0_2 kE; have kT := HT.out; simp only [Tr, Bx, CellsAt, Nat.reduceAdd, Nat.zero_add, and_true] at kT; obtain ⟨⟨kz0, kf0, kc0_0, kc0_1, kc0_2⟩, kE⟩ := kT
    go_wp2_with fail
    go_ret
    exact ⟨rfl, by repeat (first | exact kE | exact Ext.refl _ | apply Ext.alloc | apply Ext.drewN | apply Ext.drew | apply Ext.set0 | apply Ext.set1 | apply Ext.set2 | apply Ext.set3 | (refine Ext.setk ?_ (by omega) _) | (apply Ext.snoc; assumption))⟩
end Go.Proofs.Ytlpononcpocmoaa
