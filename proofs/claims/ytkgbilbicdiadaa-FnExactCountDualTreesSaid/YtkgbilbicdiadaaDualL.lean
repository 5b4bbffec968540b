/- The walk of the law on the number of dual trees. No condition. -/
import Derived.Test.YtkgbilbicdiadaaDualD
import Derived.Test.YtkgbilbicdiadaaMarkWin
set_option linter.unusedSimpArgs false
set_option linter.unusedVariables false
namespace Go.Proofs.Ytkgbilbicdiadaa
open Go.RowKit

set_option maxRecDepth 20000 in
set_option maxHeartbeats 4000000 in
theorem FnExactCountDualTrees_walk (N E : List P2) (A B : Option Addr) (c c' : Nat) (w : World) (hN : N.length ≤ c ∧ c ≤ maxLen) (hE : E.length ≤ c' ∧ c' ≤ maxLen) (hr : R2 w A N) (hs : R2 w B E) :
    Calls Try.prog 6 #[.agg #[.slice A N.length c, .slice B E.length c']] w fun e w' => e = .returned (.bool true) ∧ Ext w w' := by
  have HR := hide hr
  have HS := hide hs
  have hNm := Nat.le_trans hN.1 hN.2
  have hEm := Nat.le_trans hE.1 hE.2
  clear hr hs hN hE
  
  go_enter Try.func6, Try.ntmps6
  go_wp2_with fail
  obtain ⟨w0, hw⟩ : ∃ w1, w1 = w.alloc (Obj.cells #[Value.slice A N.length c, Value.slice B E.length c'] 43) := ⟨_, rfl⟩; rw [← hw]; have kT : Tr [(w.heap.size, [.slice A N.length c, .slice B E.length c'])] w w0 := (by rw [hw]; exact ⟨by (first | (simp [Bx, CellsAt, go_sem, *]; done) | (simp [Bx, CellsAt, go_sem, *]; omega)), by (repeat (first | exact kE | exact Ext.refl _ | apply Ext.alloc | apply Ext.drewN | apply Ext.drew | apply Ext.set0 | apply Ext.set1 | apply Ext.set2 | apply Ext.set3 | (refine Ext.setk ?_ (by omega) _) | (apply Ext.snoc; assumption)))⟩); have HT := hide kT; clear hw kT; have kT := HT.out; simp only [Tr, Bx, CellsAt, Nat.reduceAdd, Nat.zero_add, and_true] at kT; obtain ⟨⟨kz0, kf0, kc0_0, kc0_1⟩, kE⟩ := kT
  refine (szWindow_any N E A B c c' 1048576 w0 hNm hEm (by omega) (by omega)).mono ?_; rintro e w1 ⟨rfl, hb⟩; have HT := hide (HT.out.ext hb); have Hw1 := hide hb; clear hb; clear kz0 kf0 kc0_0 kc0_1 kE; have kT := HT.out; simp only [Tr, Bx, CellsAt, Nat.reduceAdd, Nat.zero_add, and_true] at kT; obtain ⟨⟨kz0, kf0, kc0_0, kc0_1⟩, kE⟩ := kT
  by_cases h0 : szW N E 1048576 < 0
  · go_wp2_with fail
    go_ret
    exact ⟨rfl, kE⟩
  · obtain ⟨hN1, hE1, hsz⟩ := szW_yes h0 (by omega)
    obtain ⟨left, hleft⟩ : ∃ x, szW N E 1048576 = x := ⟨_, rfl⟩
    rw [hleft] at h0 hsz ⊢
    have hle : left ≤ 1048576 := by omega
    clear hleft hsz
    go_wp2_with fail
    clear h0 hle
    refine (toWindow_any N E A B c c' _ hN1 hE1 (HR.out.ext kE) (HS.out.ext kE)).mono ?_
    rintro e w2 ⟨g1, g2, rfl, hw1, hb⟩
    have HW1 := hide (hw1)
    have HT' := hide (HT.out.ext hb); clear hb HT; have HT := HT'; clear HT'
    clear kz0 kf0 kc0_0 kc0_1 kE
    have kT := HT.out; simp only [Tr, Bx, CellsAt, Nat.reduceAdd, Nat.zero_add, and_true] at kT; obtain ⟨⟨kz0, kf0, kc0_0, kc0_1⟩, kE⟩ := kT
    clear hw1
    go_wp2_with fail
    refine (sCountDualTrees_any N E (some ⟨g1, 0, none⟩) (some ⟨g2, 0, none⟩) N.length E.length _ HW1.out).mono ?_
    rintro e w4 ⟨rfl, hb⟩
    have HW1' := hide (HW1.out.ext hb); clear HW1; have HW1 := HW1'; clear HW1'
    have HT' := hide (HT.out.ext hb); clear hb HT; have HT := HT'; clear HT'
    clear kz0 kf0 kc0_0 kc0_1 kE
    have kT := HT.out; simp only [Tr, Bx, CellsAt, Nat.reduceAdd, Nat.zero_add, and_true] at kT; obtain ⟨⟨kz0, kf0, kc0_0, kc0_1⟩, kE⟩ := kT
    go_wp2_with fail
    clear HW1
    refine (toWindow_any N E A B c c' _ hN1 hE1 (HR.out.ext kE) (HS.out.ext kE)).mono ?_
    rintro e w5 ⟨g4, g5, rfl, hw1, hb⟩
    have HX := hide (hw1)
    have HT' := hide (HT.out.ext hb); clear hb HT; have HT := HT'; clear HT'
    clear kz0 kf0 kc0_0 kc0_1 kE
    have kT := HT.out; simp only [Tr, Bx, CellsAt, Nat.reduceAdd, Nat.zero_add, and_true] at kT; obtain ⟨⟨kz0, kf0, kc0_0, kc0_1⟩, kE⟩ := kT
    clear hw1
    go_wp2_with fail
    obtain ⟨w6, hw⟩ : ∃ w1, w1 = w5.alloc (Obj.cells #[Value.slice (some ⟨g4, 0, none⟩) N.length N.length, Value.slice (some ⟨g5, 0, none⟩) E.length E.length] 27) := ⟨_, rfl⟩; rw [← hw]; have Hw6 := hide (show Ext w5 w6 from (by (rw [hw]; (try clear kE); repeat (first | exact kE | exact Ext.refl _ | apply Ext.alloc | apply Ext.drewN | apply Ext.drew | apply Ext.set0 | apply Ext.set1 | apply Ext.set2 | apply Ext.set3 | (refine Ext.setk ?_ (by omega) _) | (apply Ext.snoc; assumption))))); have HT := hide (HT.out.more Hw6.out (w5.heap.size) [.slice (some ⟨g4, 0, none⟩) N.length N.length, .slice (some ⟨g5, 0, none⟩) E.length E.length] (by (rw [hw]; first | (simp [CellsAt, go_sem, *]; done) | (simp [CellsAt, go_sem, *]; omega)))); have Zw6 := hide (congrArg (fun z : World => z.heap.size) hw); clear hw kz0 kf0 kc0_0 kc0_1 kE; have kT := HT.out; simp only [Tr, Bx, CellsAt, Nat.reduceAdd, Nat.zero_add, and_true] at kT; obtain ⟨⟨⟨kz0, kf0, kc0_0, kc0_1⟩, ⟨kz1, kf1, kc1_0, kc1_1⟩⟩, kE⟩ := kT
    have HX' := hide (HX.out.ext Hw6.out); clear HX; have HX := HX'; clear HX'
    refine (CountDualTrees_any N E (some ⟨g4, 0, none⟩) (some ⟨g5, 0, none⟩) N.length E.length _ HX.out).mono ?_
    rintro e w8 ⟨rfl, hb⟩
    have HX' := hide (HX.out.ext hb); clear HX; have HX := HX'; clear HX'
    have HT' := hide (HT.out.ext hb); clear hb HT; have HT := HT'; clear HT'
    clear kz0 kf0 kc0_0 kc0_1 kz1 kf1 kc1_0 kc1_1 kE
    have kT := HT.out; simp only [Tr, Bx, CellsAt, Nat.reduceAdd, Nat.zero_add, and_true] at kT; obtain ⟨⟨⟨kz0, kf0, kc0_0, kc0_1⟩, ⟨kz1, kf1, kc1_0, kc1_1⟩⟩, kE⟩ := kT
    go_wp2_with fail
    go_region_held3 (fun w' => (∀ (q o : Nat), q < w8.heap.size → w'.cell? ⟨q, o, none⟩ = w8.cell? ⟨q, o, none⟩) ∧ Ext w8 w') ((apply ExtS; repeat (first | exact kE | exact Ext.refl _ | apply Ext.alloc | apply Ext.drewN | apply Ext.drew | apply Ext.set0 | apply Ext.set1 | apply Ext.set2 | apply Ext.set3 | (refine Ext.setk ?_ (by omega) _) | (apply Ext.snoc; assumption)))) ((first | (go_at_call 34; refine (toWindow_any N E A B c c' _ hN1 hE1 (HR.out.ext (kE.trans (by clear kE; repeat (first | exact kE | exact Ext.refl _ | apply Ext.alloc | apply Ext.drewN | apply Ext.drew | apply Ext.set0 | apply Ext.set1 | apply Ext.set2 | apply Ext.set3 | (refine Ext.setk ?_ (by omega) _) | (apply Ext.snoc; assumption))))) (HS.out.ext (kE.trans (by clear kE; repeat (first | exact kE | exact Ext.refl _ | apply Ext.alloc | apply Ext.drewN | apply Ext.drew | apply Ext.set0 | apply Ext.set1 | apply Ext.set2 | apply Ext.set3 | (refine Ext.setk ?_ (by omega) _) | (apply Ext.snoc; assumption)))))).mono ?_; rintro e w9 ⟨g7, g8, rfl, hw9, hb9⟩)  |  (go_at_call 36; refine (eqWindow_any N E _ _ _ _ _ _ _ _ _ hN1 hE1 (HX.out.ext (by clear kE; repeat (first | exact kE | exact Ext.refl _ | apply Ext.alloc | apply Ext.drewN | apply Ext.drew | apply Ext.set0 | apply Ext.set1 | apply Ext.set2 | apply Ext.set3 | (refine Ext.setk ?_ (by omega) _) | (apply Ext.snoc; assumption)))) hw9).mono ?_; rintro e w10 ⟨rfl, hb10⟩)))
    have HE10 := hide (show Ext w8 w10 from by clear kE; repeat (first | exact kE | exact Ext.refl _ | apply Ext.alloc | apply Ext.drewN | apply Ext.drew | apply Ext.set0 | apply Ext.set1 | apply Ext.set2 | apply Ext.set3 | (refine Ext.setk ?_ (by omega) _) | (apply Ext.snoc; assumption)))
    have HEE := hide (kE.trans HE10.out)
    clear hb9 hb10 hw9
    go_wp2_with fail
    go_ret
    exact ⟨rfl, HEE.out⟩
end Go.Proofs.Ytkgbilbicdiadaa
