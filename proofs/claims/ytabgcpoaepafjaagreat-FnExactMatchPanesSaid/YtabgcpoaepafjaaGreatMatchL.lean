/- The walk of the law on the panes that are matched. No condition. -/
import Derived.Test.YtabgcpoaepafjaaGreatMatchQ
import Derived.Test.YtabgcpoaepafjaaGreatSSw
import Derived.Test.YtabgcpoaepafjaaGreatMarkWin
set_option linter.unusedSimpArgs false
set_option linter.unusedVariables false
namespace Go.Proofs.YtabgcpoaepafjaaGreat
open Go.RowKit

set_option maxRecDepth 20000 in
set_option maxHeartbeats 4000000 in
theorem FnExactMatchPanes_walk (N E : List P2) (A B : Option Addr) (c c' : Nat) (S : List (List P2)) (C : Option Addr) (c3 : Nat) (w : World) (hN : N.length ≤ c ∧ c ≤ maxLen) (hE : E.length ≤ c' ∧ c' ≤ maxLen) (hr : R2 w A N) (hs : R2 w B E) (hl : S.length ≤ maxLen) (hrs : RSS w C S) :
    Calls Tryz.prog 6 #[.agg #[.slice A N.length c, .slice B E.length c'], .slice C S.length c3] w fun e w' => e = .returned (.bool true) ∧ Ext w w' := by
  have HR := hide hr
  have HS := hide hs
  have hNm := Nat.le_trans hN.1 hN.2
  have hEm := Nat.le_trans hE.1 hE.2
  clear hr hs hN hE
  have HRS := hide hrs
  clear hrs
  have hrl : (matchV N E S).length ≤ 1048576 := (Nat.le_trans (matchV_len N E S) (by decide))
  
  go_enter Tryz.func6, Tryz.ntmps6
  go_wp2_with fail
  obtain ⟨w0, hw⟩ : ∃ w1, w1 = w.alloc (Obj.cells #[Value.slice A N.length c, Value.slice B E.length c'] 60) := ⟨_, rfl⟩; rw [← hw]; have kT : Tr [(w.heap.size, [.slice A N.length c, .slice B E.length c'])] w w0 := (by rw [hw]; exact ⟨by (first | (simp [Bx, CellsAt, go_sem, *]; done) | (simp [Bx, CellsAt, go_sem, *]; omega)), by (repeat (first | exact kE | exact Ext.refl _ | apply Ext.alloc | apply Ext.drewN | apply Ext.drew | apply Ext.set0 | apply Ext.set1 | apply Ext.set2 | apply Ext.set3 | (refine Ext.setk ?_ (by omega) _) | (apply Ext.snoc; assumption)))⟩); have HT := hide kT; clear hw kT; have kT := HT.out; simp only [Tr, Bx, CellsAt, Nat.reduceAdd, Nat.zero_add, and_true] at kT; obtain ⟨⟨kz0, kf0, kc0_0, kc0_1⟩, kE⟩ := kT
  refine (szWindow_any N E A B c c' 1048576 w0 hNm hEm (by omega) (by omega)).mono ?_; rintro e w1 ⟨rfl, hb⟩; have HT := hide (HT.out.ext hb); have Hw1 := hide hb; clear hb; clear kz0 kf0 kc0_0 kc0_1 kE; have kT := HT.out; simp only [Tr, Bx, CellsAt, Nat.reduceAdd, Nat.zero_add, and_true] at kT; obtain ⟨⟨kz0, kf0, kc0_0, kc0_1⟩, kE⟩ := kT
  by_cases h0 : szW N E 1048576 < 0
  · go_wp2_with fail
    go_ret
    exact ⟨rfl, kE⟩
  · obtain ⟨hN1, hE1, hsz⟩ := szW_yes h0 (by omega)
    obtain ⟨left, hleft⟩ : ∃ x, szW N E 1048576 = x := ⟨_, rfl⟩
    rw [hleft] at h0 hsz ⊢
    have hle : left ≤ 1048576 := by omega
    clear hleft hsz
    go_wp2_with fail
    refine (szNodeSS_any S C c3 left _ hl (by omega) (by omega) (HRS.out.ext kE)).mono ?_
    rintro e wq ⟨left2, rfl, hS0, hb⟩
    have HT' := hide (HT.out.ext hb); clear hb HT; have HT := HT'; clear HT'
    clear kz0 kf0 kc0_0 kc0_1 kE
    have kT := HT.out; simp only [Tr, Bx, CellsAt, Nat.reduceAdd, Nat.zero_add, and_true] at kT; obtain ⟨⟨kz0, kf0, kc0_0, kc0_1⟩, kE⟩ := kT
    by_cases h1 : left2 < 0
    · go_wp2_with fail
      go_ret
      exact ⟨rfl, kE⟩
    · have hS1 : (S.length : Int) + totalSS S ≤ 1048576 := by have := hS0 (by omega); omega
      have hSn : S.length ≤ 1048576 := by omega
      have HSL := hide (show ∀ s ∈ S, s.length ≤ 1048576 from fun s hs => by
        obtain ⟨i, hi, rfl⟩ := List.getElem_of_mem hs
        have := totalSS_row hi
        omega)
      obtain ⟨tot, htot⟩ : ∃ t, totalSS S = t := ⟨_, rfl⟩
      have HTOT := hide htot
      have hS1' : (S.length : Int) + tot ≤ 1048576 := by rw [← htot]; exact hS1
      have HS1 := hide hS1
      clear hS0 hS1 htot
      go_wp2_with fail
      clear h0 h1 hle
      have z1s := kz0
      refine (toWindow_own N E A B c c' _ hN1 hE1 (HR.out.ext kE) (HS.out.ext kE)).mono ?_
      rintro e w2 ⟨gan, gal, vw2, rfl, hbn, hon, hol, hz1, hz2, hb⟩
      have zw2 := hb.size
      have HT' := hide (HT.out.ext hb); clear hb HT; have HT := HT'; clear HT'
      clear kz0 kf0 kc0_0 kc0_1 kE
      have kT := HT.out; simp only [Tr, Bx, CellsAt, Nat.reduceAdd, Nat.zero_add, and_true] at kT; obtain ⟨⟨kz0, kf0, kc0_0, kc0_1⟩, kE⟩ := kT
      have HBan := hide hbn; have HOan := hide hon; clear hbn hon
      have HBal := hide hol; have HOal := hide hol; clear hol
      go_wp2_with fail
      refine (toNodeSS_any S C c3 _ HS1.out (HRS.out.ext kE)).mono ?_
      rintro e w3 ⟨gas, Ga, xsa, Xa, rfl, hso, hXa, hb⟩
      have zw3 := hb.size
      have HOan := hide (own_ext HOan.out hb)
      have HOal := hide (own_ext HOal.out hb)
      have HT' := hide (HT.out.ext hb); clear hb HT; have HT := HT'; clear HT'
      clear kz0 kf0 kc0_0 kc0_1 kE
      have kT := HT.out; simp only [Tr, Bx, CellsAt, Nat.reduceAdd, Nat.zero_add, and_true] at kT; obtain ⟨⟨kz0, kf0, kc0_0, kc0_1⟩, kE⟩ := kT
      have HSOa := hide hso
      have HXa := hide hXa
      have hloa : ∃ n, n = w2.heap.size := ⟨_, rfl⟩; obtain ⟨loa, hloa⟩ := hloa
      have hhia : ∃ n, n = w3.heap.size := ⟨_, rfl⟩; obtain ⟨hia, hhia⟩ := hhia
      have HGBa := hide (show gas < hia ∧ ∀ i, i < S.length → Ga i < hia from ⟨by rw [hhia]; exact (hso.hd.lt _ rfl).2, fun i hi => by rw [hhia]; exact ((hso.row i hi).2.lt _ rfl).2⟩)
      clear hso hXa
      go_wp2_with fail
      refine (sMatchPanes_any N E S (some ⟨gan, 0, none⟩) (some ⟨gal, 0, none⟩) (some ⟨gas, 0, none⟩) N.length E.length S.length _ ⟨hN1, hE1, Nat.le_refl _, Nat.le_refl _, Rds.of_own HOan.out, Rds.of_own HOal.out⟩ hSn HSL.out (HSOa.out.rss rfl HXa.out)).mono ?_
      rintro e w4 ⟨Ar, cr, rfl, ho, hb⟩
      have zw4 := hb.size
      have HOan := hide (own_ext HOan.out hb)
      have HOal := hide (own_ext HOal.out hb)
      have HSOa := hide (HSOa.out.ext hb)
      have HT' := hide (HT.out.ext hb); clear hb HT; have HT := HT'; clear HT'
      clear kz0 kf0 kc0_0 kc0_1 kE
      have kT := HT.out; simp only [Tr, Bx, CellsAt, Nat.reduceAdd, Nat.zero_add, and_true] at kT; obtain ⟨⟨kz0, kf0, kc0_0, kc0_1⟩, kE⟩ := kT
      have HBr := hide ho; have HOr := hide ho; clear ho
      go_wp2_with fail
      clear HOan
      clear HOal
      clear HSOa HXa HGBa hloa hhia
      refine (toWindow_own N E A B c c' _ hN1 hE1 (HR.out.ext kE) (HS.out.ext kE)).mono ?_
      rintro e w5 ⟨gxn, gxl, vw5, rfl, hbn, hon, hol, hz1, hz2, hb⟩
      have zw5 := hb.size
      have HOr := hide (own_ext HOr.out hb)
      have HT' := hide (HT.out.ext hb); clear hb HT; have HT := HT'; clear HT'
      clear kz0 kf0 kc0_0 kc0_1 kE
      have kT := HT.out; simp only [Tr, Bx, CellsAt, Nat.reduceAdd, Nat.zero_add, and_true] at kT; obtain ⟨⟨kz0, kf0, kc0_0, kc0_1⟩, kE⟩ := kT
      have HBxn := hide hbn; have HOxn := hide hon; clear hbn hon
      have HBxl := hide hol; have HOxl := hide hol; clear hol
      go_wp2_with fail
      obtain ⟨w6, hw⟩ : ∃ w1, w1 = w5.alloc (Obj.cells #[Value.slice (some ⟨gxn, 0, none⟩) N.length N.length, Value.slice (some ⟨gxl, 0, none⟩) E.length E.length] 27) := ⟨_, rfl⟩; rw [← hw]; have Hw6 := hide (show Ext w5 w6 from (by (rw [hw]; (try clear kE); repeat (first | exact kE | exact Ext.refl _ | apply Ext.alloc | apply Ext.drewN | apply Ext.drew | apply Ext.set0 | apply Ext.set1 | apply Ext.set2 | apply Ext.set3 | (refine Ext.setk ?_ (by omega) _) | (apply Ext.snoc; assumption))))); have HT := hide (HT.out.more Hw6.out (w5.heap.size) [.slice (some ⟨gxn, 0, none⟩) N.length N.length, .slice (some ⟨gxl, 0, none⟩) E.length E.length] (by (rw [hw]; first | (simp [CellsAt, go_sem, *]; done) | (simp [CellsAt, go_sem, *]; omega)))); have Zw6 := hide (congrArg (fun z : World => z.heap.size) hw); clear hw kz0 kf0 kc0_0 kc0_1 kE; have kT := HT.out; simp only [Tr, Bx, CellsAt, Nat.reduceAdd, Nat.zero_add, and_true] at kT; obtain ⟨⟨⟨kz0, kf0, kc0_0, kc0_1⟩, ⟨kz1, kf1, kc1_0, kc1_1⟩⟩, kE⟩ := kT
      have zw6 := kz0
      have HOr := hide (own_ext HOr.out Hw6.out)
      have HOxn := hide (own_ext HOxn.out Hw6.out)
      have HOxl := hide (own_ext HOxl.out Hw6.out)
      refine (toNodeSS_any S C c3 _ HS1.out (HRS.out.ext kE)).mono ?_
      rintro e w7 ⟨gxs, Gx, xsx, Xx, rfl, hso, hXx, hb⟩
      have zw7 := hb.size
      have HOr := hide (own_ext HOr.out hb)
      have HOxn := hide (own_ext HOxn.out hb)
      have HOxl := hide (own_ext HOxl.out hb)
      have HT' := hide (HT.out.ext hb); clear hb HT; have HT := HT'; clear HT'
      clear kz0 kf0 kc0_0 kc0_1 kz1 kf1 kc1_0 kc1_1 kE
      have kT := HT.out; simp only [Tr, Bx, CellsAt, Nat.reduceAdd, Nat.zero_add, and_true] at kT; obtain ⟨⟨⟨kz0, kf0, kc0_0, kc0_1⟩, ⟨kz1, kf1, kc1_0, kc1_1⟩⟩, kE⟩ := kT
      have HSOx := hide hso
      have HXx := hide hXx
      have hlox : ∃ n, n = w6.heap.size := ⟨_, rfl⟩; obtain ⟨lox, hlox⟩ := hlox
      have hhix : ∃ n, n = w7.heap.size := ⟨_, rfl⟩; obtain ⟨hix, hhix⟩ := hhix
      have HGBx := hide (show gxs < hix ∧ ∀ i, i < S.length → Gx i < hix from ⟨by rw [hhix]; exact (hso.hd.lt _ rfl).2, fun i hi => by rw [hhix]; exact ((hso.row i hi).2.lt _ rfl).2⟩)
      clear hso hXx
      go_wp2_with fail
      refine (MatchPanes_any N E S (some ⟨gxn, 0, none⟩) (some ⟨gxl, 0, none⟩) (some ⟨gxs, 0, none⟩) N.length E.length S.length _ ⟨hN1, hE1, Nat.le_refl _, Nat.le_refl _, Rds.of_own HOxn.out, Rds.of_own HOxl.out⟩ hSn HSL.out (HSOx.out.rss rfl HXx.out)).mono ?_
      rintro e w8 ⟨Ag, cg, rfl, ho, hb⟩
      have zw8 := hb.size
      have HOr := hide (own_ext HOr.out hb)
      have HOxn := hide (own_ext HOxn.out hb)
      have HOxl := hide (own_ext HOxl.out hb)
      have HSOx := hide (HSOx.out.ext hb)
      have HT' := hide (HT.out.ext hb); clear hb HT; have HT := HT'; clear HT'
      clear kz0 kf0 kc0_0 kc0_1 kz1 kf1 kc1_0 kc1_1 kE
      have kT := HT.out; simp only [Tr, Bx, CellsAt, Nat.reduceAdd, Nat.zero_add, and_true] at kT; obtain ⟨⟨⟨kz0, kf0, kc0_0, kc0_1⟩, ⟨kz1, kf1, kc1_0, kc1_1⟩⟩, kE⟩ := kT
      have HBg := hide ho; have HOg := hide ho; clear ho
      go_wp2_with fail
      refine (eqIntS_any (matchV N E S) (matchV N E S) _ _ _ _ _ hrl hrl (Rds.of_own HOg.out) (Rds.of_own HOr.out)).mono ?_
      rintro e w9 ⟨rfl, hb⟩
      have zw9 := hb.size
      have HOr := hide (own_ext HOr.out hb)
      have HOxn := hide (own_ext HOxn.out hb)
      have HOxl := hide (own_ext HOxl.out hb)
      have HOg := hide (own_ext HOg.out hb)
      have HSOx := hide (HSOx.out.ext hb)
      have HT' := hide (HT.out.ext hb); clear hb HT; have HT := HT'; clear HT'
      clear kz0 kf0 kc0_0 kc0_1 kz1 kf1 kc1_0 kc1_1 kE
      have kT := HT.out; simp only [Tr, Bx, CellsAt, Nat.reduceAdd, Nat.zero_add, and_true] at kT; obtain ⟨⟨⟨kz0, kf0, kc0_0, kc0_1⟩, ⟨kz1, kf1, kc1_0, kc1_1⟩⟩, kE⟩ := kT
      rw [decide_eq_true rfl]
      go_wp2_with fail
      have hwx : WR w9 N E (some ⟨gxn, 0, none⟩) (some ⟨gxl, 0, none⟩) N.length E.length := ⟨hN1, hE1, Nat.le_refl _, Nat.le_refl _, Rds.of_own HOxn.out, Rds.of_own HOxl.out⟩
      have HX := hide hwx
      clear hwx
      go_region_held3 (fun w' => (∀ (q o : Nat), q < w9.heap.size → w'.cell? ⟨q, o, none⟩ = w9.cell? ⟨q, o, none⟩) ∧ Ext w9 w') ((apply ExtS; repeat (first | exact kE | exact Ext.refl _ | apply Ext.alloc | apply Ext.drewN | apply Ext.drew | apply Ext.set0 | apply Ext.set1 | apply Ext.set2 | apply Ext.set3 | (refine Ext.setk ?_ (by omega) _) | (apply Ext.snoc; assumption)))) ((first | (go_at_call 32; refine (toWindow_any N E A B c c' _ hN1 hE1 (HR.out.ext (kE.trans (by clear kE; repeat (first | exact kE | exact Ext.refl _ | apply Ext.alloc | apply Ext.drewN | apply Ext.drew | apply Ext.set0 | apply Ext.set1 | apply Ext.set2 | apply Ext.set3 | (refine Ext.setk ?_ (by omega) _) | (apply Ext.snoc; assumption))))) (HS.out.ext (kE.trans (by clear kE; repeat (first | exact kE | exact Ext.refl _ | apply Ext.alloc | apply Ext.drewN | apply Ext.drew | apply Ext.set0 | apply Ext.set1 | apply Ext.set2 | apply Ext.set3 | (refine Ext.setk ?_ (by omega) _) | (apply Ext.snoc; assumption)))))).mono ?_; rintro e w91 ⟨g7, g8, rfl, hw9, hb9⟩)  |  (go_at_call 35; refine (eqWindow_any N E _ _ _ _ _ _ _ _ _ hN1 hE1 (HX.out.ext (by clear kE; repeat (first | exact kE | exact Ext.refl _ | apply Ext.alloc | apply Ext.drewN | apply Ext.drew | apply Ext.set0 | apply Ext.set1 | apply Ext.set2 | apply Ext.set3 | (refine Ext.setk ?_ (by omega) _) | (apply Ext.snoc; assumption)))) hw9).mono ?_; rintro e w10 ⟨rfl, hb10⟩)))
      have hb : Ext w9 w10 := by clear kE; repeat (first | exact kE | exact Ext.refl _ | apply Ext.alloc | apply Ext.drewN | apply Ext.drew | apply Ext.set0 | apply Ext.set1 | apply Ext.set2 | apply Ext.set3 | (refine Ext.setk ?_ (by omega) _) | (apply Ext.snoc; assumption))
      clear hb9 hb10 hw9 HX
      have zw10 := hb.size
      have HOr := hide (own_ext HOr.out hb)
      have HOxn := hide (own_ext HOxn.out hb)
      have HOxl := hide (own_ext HOxl.out hb)
      have HOg := hide (own_ext HOg.out hb)
      have HSOx := hide (HSOx.out.ext hb)
      have HT' := hide (HT.out.ext hb); clear hb HT; have HT := HT'; clear HT'
      clear kz0 kf0 kc0_0 kc0_1 kz1 kf1 kc1_0 kc1_1 kE
      have kT := HT.out; simp only [Tr, Bx, CellsAt, Nat.reduceAdd, Nat.zero_add, and_true] at kT; obtain ⟨⟨⟨kz0, kf0, kc0_0, kc0_1⟩, ⟨kz1, kf1, kc1_0, kc1_1⟩⟩, kE⟩ := kT
      go_wp2_with fail
      refine (toNodeSS_any S C c3 _ HS1.out (HRS.out.ext kE)).mono ?_
      rintro e w11 ⟨gys, Gy, xsy, Xy, rfl, hso, hXy, hb⟩
      have zw11 := hb.size
      have HOr := hide (own_ext HOr.out hb)
      have HOxn := hide (own_ext HOxn.out hb)
      have HOxl := hide (own_ext HOxl.out hb)
      have HOg := hide (own_ext HOg.out hb)
      have HSOx := hide (HSOx.out.ext hb)
      have HT' := hide (HT.out.ext hb); clear hb HT; have HT := HT'; clear HT'
      clear kz0 kf0 kc0_0 kc0_1 kz1 kf1 kc1_0 kc1_1 kE
      have kT := HT.out; simp only [Tr, Bx, CellsAt, Nat.reduceAdd, Nat.zero_add, and_true] at kT; obtain ⟨⟨⟨kz0, kf0, kc0_0, kc0_1⟩, ⟨kz1, kf1, kc1_0, kc1_1⟩⟩, kE⟩ := kT
      have HSOy := hide hso
      have HXy := hide hXy
      have hloy : ∃ n, n = w10.heap.size := ⟨_, rfl⟩; obtain ⟨loy, hloy⟩ := hloy
      have hhiy : ∃ n, n = w11.heap.size := ⟨_, rfl⟩; obtain ⟨hiy, hhiy⟩ := hhiy
      have HGBy := hide (show gys < hiy ∧ ∀ i, i < S.length → Gy i < hiy from ⟨by rw [hhiy]; exact (hso.hd.lt _ rfl).2, fun i hi => by rw [hhiy]; exact ((hso.row i hi).2.lt _ rfl).2⟩)
      clear hso hXy
      go_wp2_with fail
      refine (eqNodeSS_any S _ _ _ _ _ HS1.out (HSOx.out.rss rfl HXx.out) (HSOy.out.rss rfl HXy.out)).mono ?_
      rintro e w12 ⟨rfl, hb⟩
      have zw12 := hb.size
      have HOr := hide (own_ext HOr.out hb)
      have HOxn := hide (own_ext HOxn.out hb)
      have HOxl := hide (own_ext HOxl.out hb)
      have HOg := hide (own_ext HOg.out hb)
      have HSOx := hide (HSOx.out.ext hb)
      have HSOy := hide (HSOy.out.ext hb)
      have HT' := hide (HT.out.ext hb); clear hb HT; have HT := HT'; clear HT'
      clear kz0 kf0 kc0_0 kc0_1 kz1 kf1 kc1_0 kc1_1 kE
      have kT := HT.out; simp only [Tr, Bx, CellsAt, Nat.reduceAdd, Nat.zero_add, and_true] at kT; obtain ⟨⟨⟨kz0, kf0, kc0_0, kc0_1⟩, ⟨kz1, kf1, kc1_0, kc1_1⟩⟩, kE⟩ := kT
      go_wp2_with fail
      clear HSOy HXy HGBy hloy hhiy
      refine (markWindow_any N.length E.length (some ⟨gxn, 0, none⟩) (some ⟨gxl, 0, none⟩) N.length E.length _ _ _ _ 1 _ hN1 hE1 (by omega) (by omega) HOxn.out HOxl.out (own_other HBxn.out HBxl.out (by omega)) (fun q e => (HOxn.out.lt q e).2)).mono ?_
      rintro e w15 ⟨w13, w14, rfl, hb, hg1, hg2⟩
      have zw13 := hb.size
      have HOr := hide (own_ext HOr.out hb)
      have HOxn := hide (own_ext HOxn.out hb)
      have HOxl := hide (own_ext HOxl.out hb)
      have HOg := hide (own_ext HOg.out hb)
      have HSOx := hide (HSOx.out.ext hb)
      have HT' := hide (HT.out.ext hb); clear hb HT; have HT := HT'; clear HT'
      clear kz0 kf0 kc0_0 kc0_1 kz1 kf1 kc1_0 kc1_1 kE
      have kT := HT.out; simp only [Tr, Bx, CellsAt, Nat.reduceAdd, Nat.zero_add, and_true] at kT; obtain ⟨⟨⟨kz0, kf0, kc0_0, kc0_1⟩, ⟨kz1, kf1, kc1_0, kc1_1⟩⟩, kE⟩ := kT
      have hg := hg1; clear hg1
      have zw14 := hg.size
      have hlo := (HOxn.out.lt gxn rfl).1; have hlh := (HBxn.out.lt gxn rfl).2
      have HOr := hide (World.ownsRow.kept HOr.out hg (own_other2 HBr.out HBxn.out (by omega)))
      have HOg := hide (World.ownsRow.kept HOg.out hg (own_other HBxn.out HBg.out (by omega)))
      have HSOx := hide (HSOx.out.kept hg (fun q e => by have e : some gxn = some q := e; injection e with e; subst e; omega))
      have HOxl := hide (World.ownsRow.kept HOxl.out hg (own_other HBxn.out HBxl.out (by omega)))
      have HT' := hide (HT.out.grownA hg (fun k hk => by (simp only [Value.ownBlock, Option.some.injEq] at hk; omega)) (by (simp [Ap, Value.ownBlock]; try omega))); clear hg HT; have HT := HT'; clear HT'
      clear hlo hlh
      clear kz0 kf0 kc0_0 kc0_1 kz1 kf1 kc1_0 kc1_1 kE
      have kT := HT.out; simp only [Tr, Bx, CellsAt, Nat.reduceAdd, Nat.zero_add, and_true] at kT; obtain ⟨⟨⟨kz0, kf0, kc0_0, kc0_1⟩, ⟨kz1, kf1, kc1_0, kc1_1⟩⟩, kE⟩ := kT
      have hg := hg2; clear hg2
      have zw15 := hg.size
      have hlo := (HOxl.out.lt gxl rfl).1; have hlh := (HBxl.out.lt gxl rfl).2
      have HOr := hide (World.ownsRow.kept HOr.out hg (own_other2 HBr.out HBxl.out (by omega)))
      have HOg := hide (World.ownsRow.kept HOg.out hg (own_other HBxl.out HBg.out (by omega)))
      have HSOx := hide (HSOx.out.kept hg (fun q e => by have e : some gxl = some q := e; injection e with e; subst e; omega))
      have HT' := hide (HT.out.grownA hg (fun k hk => by (simp only [Value.ownBlock, Option.some.injEq] at hk; omega)) (by (simp [Ap, Value.ownBlock]; try omega))); clear hg HT; have HT := HT'; clear HT'
      clear hlo hlh
      clear kz0 kf0 kc0_0 kc0_1 kz1 kf1 kc1_0 kc1_1 kE
      have kT := HT.out; simp only [Tr, Bx, CellsAt, Nat.reduceAdd, Nat.zero_add, and_true] at kT; obtain ⟨⟨⟨kz0, kf0, kc0_0, kc0_1⟩, ⟨kz1, kf1, kc1_0, kc1_1⟩⟩, kE⟩ := kT
      clear HOxn
      clear HOxl
      go_wp2_with fail
      obtain ⟨kk, hkk⟩ : ∃ kk : Int, kk = 1 + 2 * N.length + 2 * E.length := ⟨_, rfl⟩
      have hkk1 : 0 ≤ kk ∧ kk ≤ 100000000 := by omega
      refine (markNodeSS_any S gxs _ hix Gx xsx Xx _ _ HS1.out (by omega) (by omega) HSOx.out HGBx.out.1 HGBx.out.2).mono ?_
      rintro e w16 ⟨rfl, hrng⟩
      rw [HTOT.out]
      have zw16 := hrng.size
      have HOr := hide (hrng.own HOr.out (fun k e => .inl (by have := (HBr.out.lt k e).2; omega)))
      have HOg := hide (hrng.own HOg.out (fun k e => .inr (by have := (HBg.out.lt k e).1; omega)))
      have HT' := hide (hrng.tr HT.out (by omega) (by intro p hp; simp at hp; rcases hp with rfl | rfl <;> simp <;> omega)); clear hrng HT; have HT := HT'; clear HT'
      clear kz0 kf0 kc0_0 kc0_1 kz1 kf1 kc1_0 kc1_1 kE
      have kT := HT.out; simp only [Tr, Bx, CellsAt, Nat.reduceAdd, Nat.zero_add, and_true] at kT; obtain ⟨⟨⟨kz0, kf0, kc0_0, kc0_1⟩, ⟨kz1, kf1, kc1_0, kc1_1⟩⟩, kE⟩ := kT
      clear hkk hkk1
      clear HSOx HXx HGBx hlox hhix
      go_wp2_with fail
      refine (eqIntS_any (matchV N E S) (matchV N E S) _ _ _ _ _ hrl hrl (Rds.of_own HOg.out) (Rds.of_own HOr.out)).mono ?_
      rintro e w17 ⟨rfl, hb⟩
      have zw17 := hb.size
      have HOr := hide (own_ext HOr.out hb)
      have HOg := hide (own_ext HOg.out hb)
      have HT' := hide (HT.out.ext hb); clear hb HT; have HT := HT'; clear HT'
      clear kz0 kf0 kc0_0 kc0_1 kz1 kf1 kc1_0 kc1_1 kE
      have kT := HT.out; simp only [Tr, Bx, CellsAt, Nat.reduceAdd, Nat.zero_add, and_true] at kT; obtain ⟨⟨⟨kz0, kf0, kc0_0, kc0_1⟩, ⟨kz1, kf1, kc1_0, kc1_1⟩⟩, kE⟩ := kT
      rw [decide_eq_true rfl]
      go_wp2_with fail
      refine (markIntS_any (matchV N E S).length Ag cg _ _ 1 _ hrl (by omega) (by omega) HOg.out).mono ?_
      rintro e w18 ⟨rfl, ho, hg⟩
      have zw18 := hg.size
      have HOr := hide (World.ownsRow.kept HOr.out hg (own_other2 HBr.out HBg.out (by omega)))
      have HOg := hide ho; clear ho
      have hap := own_apart HBg.out
      have HT' := hide (HT.out.grownA hg (fun k hk => by (have h1 := own_base HBg.out (Nat.le_refl _) k hk; omega)) (by (simp only [Ap, and_true]; exact ⟨hap _ (by omega), hap _ (by omega)⟩))); clear hg hap HT; have HT := HT'; clear HT'
      clear kz0 kf0 kc0_0 kc0_1 kz1 kf1 kc1_0 kc1_1 kE
      have kT := HT.out; simp only [Tr, Bx, CellsAt, Nat.reduceAdd, Nat.zero_add, and_true] at kT; obtain ⟨⟨⟨kz0, kf0, kc0_0, kc0_1⟩, ⟨kz1, kf1, kc1_0, kc1_1⟩⟩, kE⟩ := kT
      go_wp2_with fail
      refine (heldIntS_any (matchV N E S).length Ag cg 1 _ hrl (by omega) (by omega) (Rds.of_own HOg.out)).mono ?_
      rintro e w19 ⟨rfl, hb⟩
      have zw19 := hb.size
      have HOr := hide (own_ext HOr.out hb)
      have HOg := hide (own_ext HOg.out hb)
      have HT' := hide (HT.out.ext hb); clear hb HT; have HT := HT'; clear HT'
      clear kz0 kf0 kc0_0 kc0_1 kz1 kf1 kc1_0 kc1_1 kE
      have kT := HT.out; simp only [Tr, Bx, CellsAt, Nat.reduceAdd, Nat.zero_add, and_true] at kT; obtain ⟨⟨⟨kz0, kf0, kc0_0, kc0_1⟩, ⟨kz1, kf1, kc1_0, kc1_1⟩⟩, kE⟩ := kT
      go_wp2_with fail
      refine (toWindow_own N E A B c c' _ hN1 hE1 (HR.out.ext kE) (HS.out.ext kE)).mono ?_
      rintro e w20 ⟨gbn, gbl, vw20, rfl, hbn, hon, hol, hz1, hz2, hb⟩
      have zw20 := hb.size
      have HOr := hide (own_ext HOr.out hb)
      have HOg := hide (own_ext HOg.out hb)
      have HT' := hide (HT.out.ext hb); clear hb HT; have HT := HT'; clear HT'
      clear kz0 kf0 kc0_0 kc0_1 kz1 kf1 kc1_0 kc1_1 kE
      have kT := HT.out; simp only [Tr, Bx, CellsAt, Nat.reduceAdd, Nat.zero_add, and_true] at kT; obtain ⟨⟨⟨kz0, kf0, kc0_0, kc0_1⟩, ⟨kz1, kf1, kc1_0, kc1_1⟩⟩, kE⟩ := kT
      have HBbn := hide hbn; have HObn := hide hon; clear hbn hon
      have HBbl := hide hol; have HObl := hide hol; clear hol
      go_wp2_with fail
      refine (toNodeSS_any S C c3 _ HS1.out (HRS.out.ext kE)).mono ?_
      rintro e w21 ⟨gbs, Gb, xsb, Xb, rfl, hso, hXb, hb⟩
      have zw21 := hb.size
      have HOr := hide (own_ext HOr.out hb)
      have HOg := hide (own_ext HOg.out hb)
      have HObn := hide (own_ext HObn.out hb)
      have HObl := hide (own_ext HObl.out hb)
      have HT' := hide (HT.out.ext hb); clear hb HT; have HT := HT'; clear HT'
      clear kz0 kf0 kc0_0 kc0_1 kz1 kf1 kc1_0 kc1_1 kE
      have kT := HT.out; simp only [Tr, Bx, CellsAt, Nat.reduceAdd, Nat.zero_add, and_true] at kT; obtain ⟨⟨⟨kz0, kf0, kc0_0, kc0_1⟩, ⟨kz1, kf1, kc1_0, kc1_1⟩⟩, kE⟩ := kT
      have HSOb := hide hso
      have HXb := hide hXb
      have hlob : ∃ n, n = w20.heap.size := ⟨_, rfl⟩; obtain ⟨lob, hlob⟩ := hlob
      have hhib : ∃ n, n = w21.heap.size := ⟨_, rfl⟩; obtain ⟨hib, hhib⟩ := hhib
      have HGBb := hide (show gbs < hib ∧ ∀ i, i < S.length → Gb i < hib from ⟨by rw [hhib]; exact (hso.hd.lt _ rfl).2, fun i hi => by rw [hhib]; exact ((hso.row i hi).2.lt _ rfl).2⟩)
      clear hso hXb
      go_wp2_with fail
      refine (MatchPanes_any N E S (some ⟨gbn, 0, none⟩) (some ⟨gbl, 0, none⟩) (some ⟨gbs, 0, none⟩) N.length E.length S.length _ ⟨hN1, hE1, Nat.le_refl _, Nat.le_refl _, Rds.of_own HObn.out, Rds.of_own HObl.out⟩ hSn HSL.out (HSOb.out.rss rfl HXb.out)).mono ?_
      rintro e w22 ⟨Ah, ch, rfl, ho, hb⟩
      have zw22 := hb.size
      have HOr := hide (own_ext HOr.out hb)
      have HOg := hide (own_ext HOg.out hb)
      have HObn := hide (own_ext HObn.out hb)
      have HObl := hide (own_ext HObl.out hb)
      have HSOb := hide (HSOb.out.ext hb)
      have HT' := hide (HT.out.ext hb); clear hb HT; have HT := HT'; clear HT'
      clear kz0 kf0 kc0_0 kc0_1 kz1 kf1 kc1_0 kc1_1 kE
      have kT := HT.out; simp only [Tr, Bx, CellsAt, Nat.reduceAdd, Nat.zero_add, and_true] at kT; obtain ⟨⟨⟨kz0, kf0, kc0_0, kc0_1⟩, ⟨kz1, kf1, kc1_0, kc1_1⟩⟩, kE⟩ := kT
      have HBh := hide ho; have HOh := hide ho; clear ho
      go_wp2_with fail
      clear HObn
      clear HObl
      clear HSOb HXb HGBb hlob hhib
      refine (eqIntS_any (matchV N E S) (matchV N E S) _ _ _ _ _ hrl hrl (Rds.of_own HOh.out) (Rds.of_own HOr.out)).mono ?_
      rintro e w23 ⟨rfl, hb⟩
      have zw23 := hb.size
      have HOr := hide (own_ext HOr.out hb)
      have HOg := hide (own_ext HOg.out hb)
      have HOh := hide (own_ext HOh.out hb)
      have HT' := hide (HT.out.ext hb); clear hb HT; have HT := HT'; clear HT'
      clear kz0 kf0 kc0_0 kc0_1 kz1 kf1 kc1_0 kc1_1 kE
      have kT := HT.out; simp only [Tr, Bx, CellsAt, Nat.reduceAdd, Nat.zero_add, and_true] at kT; obtain ⟨⟨⟨kz0, kf0, kc0_0, kc0_1⟩, ⟨kz1, kf1, kc1_0, kc1_1⟩⟩, kE⟩ := kT
      rw [decide_eq_true rfl]
      go_wp2_with fail
      refine (heldIntS_any (matchV N E S).length Ag cg 1 _ hrl (by omega) (by omega) (Rds.of_own HOg.out)).mono ?_
      rintro e w24 ⟨rfl, hb⟩
      have zw24 := hb.size
      have HOr := hide (own_ext HOr.out hb)
      have HOg := hide (own_ext HOg.out hb)
      have HOh := hide (own_ext HOh.out hb)
      have HT' := hide (HT.out.ext hb); clear hb HT; have HT := HT'; clear HT'
      clear kz0 kf0 kc0_0 kc0_1 kz1 kf1 kc1_0 kc1_1 kE
      have kT := HT.out; simp only [Tr, Bx, CellsAt, Nat.reduceAdd, Nat.zero_add, and_true] at kT; obtain ⟨⟨⟨kz0, kf0, kc0_0, kc0_1⟩, ⟨kz1, kf1, kc1_0, kc1_1⟩⟩, kE⟩ := kT
      go_wp2_with fail
      go_ret
      exact ⟨rfl, kE⟩
end Go.Proofs.YtabgcpoaepafjaaGreat
