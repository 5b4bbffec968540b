/- Walks of the share of light (both forms), of TotalArea. No condition but that a list has at most 1048576 elements. -/
import Derived.Test.YtabgcpoaepafjaaGreatLightV
import Derived.Test.YtabgcpoaepafjaaGreatPlaneW
set_option linter.unusedSimpArgs false
set_option linter.unusedVariables false
namespace Go.Proofs.YtabgcpoaepafjaaGreat
open Go.RowKit

noncomputable def lightSum (N E : List P2) (S : List P3) : Int := (lightV N E S).1 + (lightV N E S).2.1 + (lightV N E S).2.2
noncomputable def shareI (N E : List P2) (S : List P3) : Int := if lightSum N E S = 0 then 0 else lightSum N E S * 1000 / (3000 * areaAt N E (outerI N E))
theorem light_one {N E : List P2} {S : List P3} (h : litOk N E S = true) (h1 : (fcs N E).length ≤ 1) : lightTo N E S S.length = (0, 0, 0) := by
  obtain ⟨hw, hl, _⟩ := litOk_iff.1 h
  obtain ⟨k0, hk, ho, _⟩ := outer_whole hw
  have e0 : S.length = 1 := by omega
  have e1 : k0 = 0 := by omega
  rw [e0]
  simp only [lightTo]
  rw [ho, e1, if_pos rfl]
theorem light_facts (N E : List P2) (S : List P3) : (0 ≤ (lightV N E S).1 ∧ (lightV N E S).1 ≤ 640000000) ∧ (0 ≤ (lightV N E S).2.1 ∧ (lightV N E S).2.1 ≤ 640000000) ∧ (0 ≤ (lightV N E S).2.2 ∧ (lightV N E S).2.2 ≤ 640000000) ∧ (lightSum N E S ≠ 0 → 0 < areaAt N E (outerI N E) ∧ areaAt N E (outerI N E) ≤ 16000) := by
  unfold lightSum lightV
  cases h : litOk N E S with
  | false => simp
  | true =>
    have hl := fcs_lit_len h
    have hb := light_in h S.length (Nat.le_refl _)
    simp only [if_true]
    refine ⟨by omega, by omega, by omega, fun hne => ?_⟩
    obtain ⟨hw, _, _⟩ := litOk_iff.1 h
    have h1 : 1 < (fcs N E).length := by
      rcases Nat.lt_or_ge 1 (fcs N E).length with q | q
      · exact q
      · rw [light_one h q] at hne; exact absurd rfl hne
    refine ⟨total_pos hw h1, ?_⟩
    obtain ⟨k0, hk, ho, _⟩ := outer_whole hw
    rw [ho]
    exact (area_range hk).2
set_option maxRecDepth 20000 in
set_option maxHeartbeats 4000000 in
theorem TotalArea_any (N E : List P2) (A B : Option Addr) (c c' : Nat) (w : World) (hw : WR w N E A B c c') :
    Calls Tryz.prog 63 #[.agg #[.slice A N.length c, .slice B E.length c']] w fun e w' => e = .returned (.int .i64 (areaAt N E (outerI N E))) ∧ Ext w w' := by
  have HO := hide (fun (W : World) (hE : Ext w W) => OuterFace_any N E A B c c' W (hw.ext hE))
  have HA := hide (fun (W : World) (hE : Ext w W) => AreaOf_any N E A B c c' (outerI N E) W (hw.ext hE))
  obtain ⟨a, ha⟩ : ∃ a, areaAt N E (outerI N E) = a := ⟨_, rfl⟩
  rw [ha] at HA ⊢
  clear ha
  obtain ⟨o, ho⟩ : ∃ o, outerI N E = o := ⟨_, rfl⟩
  rw [ho] at HO HA
  clear ho hw
  
  go_enter Tryz.func63, Tryz.ntmps63
  go_wp2_with fail
  obtain ⟨w0, hw⟩ : ∃ w1, w1 = w.alloc (Obj.cells #[Value.slice A N.length c, Value.slice B E.length c'] 27) := ⟨_, rfl⟩; rw [← hw]; have kT : Tr [(w.heap.size, [.slice A N.length c, .slice B E.length c'])] w w0 := (by rw [hw]; exact ⟨by (first | (simp [Bx, CellsAt, go_sem, *]; done) | (simp [Bx, CellsAt, go_sem, *]; omega)), by (repeat (first | exact kE | exact Ext.refl _ | apply Ext.alloc | apply Ext.drewN | apply Ext.drew | apply Ext.set0 | apply Ext.set1 | apply Ext.set2 | apply Ext.set3 | (refine Ext.setk ?_ (by omega) _) | (apply Ext.snoc; assumption)))⟩); have HT := hide kT; clear hw kT; have kT := HT.out; simp only [Tr, Bx, CellsAt, Nat.reduceAdd, Nat.zero_add, and_true] at kT; obtain ⟨⟨kz0, kf0, kc0_0, kc0_1⟩, kE⟩ := kT
  have HKE := hide kE
  have kq0_0 := ExtBy.cell (W := w0) kz0 kc0_0; have kq0_1 := ExtBy.cell (W := w0) kz0 kc0_1; refine wp_region_quietE (by kernel_rfl) (by kernel_rfl) ?_; (repeat (refine WQ.step (fun K hK => ?_); have HK := hide hK; clear hK; go_simp; refine HK.out _ ?_; clear HK K)); (refine WQ.step (fun K hK => ?_); have HK := hide hK; clear hK; go_simp; apply Exists.intro; refine ⟨fun _ => ?_, HK.out _ ?_⟩; (go_at_call 61; refine extby_of (HO.out _ (HKE.out.trans (ExtBy.h _)))); clear HK K); (repeat (refine WQ.step (fun K hK => ?_); have HK := hide hK; clear hK; go_simp; refine HK.out _ ?_; clear HK K)); (refine WQ.step (fun K hK => ?_); have HK := hide hK; clear hK; go_simp; apply Exists.intro; refine ⟨fun _ => ?_, HK.out _ ?_⟩; (go_at_call 62; refine extby_of (HA.out _ (HKE.out.trans (ExtBy.h _)))); clear HK K); (repeat (refine WQ.step (fun K hK => ?_); have HK := hide hK; clear hK; go_simp; refine HK.out _ ?_; clear HK K)); refine WQ.done ?_; intro w1 hw'; obtain ⟨⟨_, hw1⟩, hw''⟩ := hw'; subst hw''; clear kq0_0 kq0_1; have HT := hide (HT.out.ext hw1); have Hw1 := hide hw1; clear hw1 kz0 kf0 kc0_0 kc0_1 kE; have kT := HT.out; simp only [Tr, Bx, CellsAt, Nat.reduceAdd, Nat.zero_add, and_true] at kT; obtain ⟨⟨kz0, kf0, kc0_0, kc0_1⟩, kE⟩ := kT
  go_wp2_with fail
  go_ret
  exact ⟨rfl, kE⟩
set_option maxRecDepth 20000 in
set_option maxHeartbeats 4000000 in
theorem ShareOfLight_any (N E : List P2) (S : List P3) (A B C : Option Addr) (c c' c3 : Nat) (w : World) (hw : WR w N E A B c c') (hS : S.length ≤ 1048576) (hrs : R3 w C S) :
    Calls Tryz.prog 20 #[.agg #[.slice A N.length c, .slice B E.length c'], .slice C S.length c3] w fun e w' => e = .returned (.int .i64 (shareI N E S)) ∧ Ext w w' := by
  have HW := hide hw
  have HR := hide hrs
  clear hw hrs
  have HTA := hide (fun (W : World) (hE : Ext w W) => TotalArea_any N E A B c c' W (HW.out.ext hE))
  obtain ⟨⟨r1, r2⟩, ⟨g1, g2⟩, ⟨b1, b2⟩, hpos⟩ := light_facts N E S
  have HC := hide (fun (W : World) (hE : Ext w W) => LightOf_any N E S A B C c c' c3 W (HW.out.ext hE) hS (HR.out.ext hE))
  have hv : shareI N E S = if lightSum N E S = 0 then 0 else lightSum N E S * 1000 / (3000 * areaAt N E (outerI N E)) := rfl
  have hsum : lightSum N E S = (lightV N E S).1 + (lightV N E S).2.1 + (lightV N E S).2.2 := rfl
  obtain ⟨v, hvv⟩ : ∃ v, shareI N E S = v := ⟨_, rfl⟩
  rw [hvv] at hv ⊢
  rw [hsum] at hpos hv
  obtain ⟨r, hr⟩ : ∃ r, (lightV N E S).1 = r := ⟨_, rfl⟩
  obtain ⟨g, hg⟩ : ∃ g, (lightV N E S).2.1 = g := ⟨_, rfl⟩
  obtain ⟨b, hb⟩ : ∃ b, (lightV N E S).2.2 = b := ⟨_, rfl⟩
  obtain ⟨a, ha⟩ : ∃ a, areaAt N E (outerI N E) = a := ⟨_, rfl⟩
  rw [hr] at r1 r2 hpos hv HC
  rw [hg] at g1 g2 hpos hv HC
  rw [hb] at b1 b2 hpos hv HC
  rw [ha] at hpos hv HTA
  have HV := hide hv
  clear hsum hvv hr hg hb ha hv
  
  go_enter Tryz.func20, Tryz.ntmps20
  go_wp2_with fail
  obtain ⟨w0, hw⟩ : ∃ w1, w1 = w.alloc (Obj.cells #[Value.slice A N.length c, Value.slice B E.length c'] 27) := ⟨_, rfl⟩; rw [← hw]; have kT : Tr [(w.heap.size, [.slice A N.length c, .slice B E.length c'])] w w0 := (by rw [hw]; exact ⟨by (first | (simp [Bx, CellsAt, go_sem, *]; done) | (simp [Bx, CellsAt, go_sem, *]; omega)), by (repeat (first | exact kE | exact Ext.refl _ | apply Ext.alloc | apply Ext.drewN | apply Ext.drew | apply Ext.set0 | apply Ext.set1 | apply Ext.set2 | apply Ext.set3 | (refine Ext.setk ?_ (by omega) _) | (apply Ext.snoc; assumption)))⟩); have HT := hide kT; clear hw kT; have kT := HT.out; simp only [Tr, Bx, CellsAt, Nat.reduceAdd, Nat.zero_add, and_true] at kT; obtain ⟨⟨kz0, kf0, kc0_0, kc0_1⟩, kE⟩ := kT
  refine (HC.out _ kE).mono ?_; rintro e w1 ⟨rfl, hb⟩; have HT := hide (HT.out.ext hb); have Hw1 := hide hb; clear hb; clear kz0 kf0 kc0_0 kc0_1 kE; have kT := HT.out; simp only [Tr, Bx, CellsAt, Nat.reduceAdd, Nat.zero_add, and_true] at kT; obtain ⟨⟨kz0, kf0, kc0_0, kc0_1⟩, kE⟩ := kT
  by_cases h0 : r + g + b = 0
  · have HV2 := hide (show v = 0 by rw [HV.out, if_pos h0])
    clear hpos
    go_wp2_with fail
    go_ret
    exact ⟨ret_int HV2.out.symm, kE⟩
  · have HV2 := hide (show v = (r + g + b) * 1000 / (3000 * a) by rw [HV.out, if_neg h0])
    obtain ⟨a1, a2⟩ := hpos h0
    clear hpos HV
    go_wp2_with fail
    refine (HTA.out _ kE).mono ?_
    rintro e w2 ⟨rfl, hb2⟩
    have HE2 := hide (kE.trans hb2)
    clear hb2
    go_wp2_with fail
    go_ret
    exact ⟨ret_int HV2.out.symm, HE2.out⟩
end Go.Proofs.YtabgcpoaepafjaaGreat
