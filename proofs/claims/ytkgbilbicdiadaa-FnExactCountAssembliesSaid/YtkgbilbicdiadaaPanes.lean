/- The walk of the program's neighbors: for each face the set of the faces beside it. No condition but a whole window. -/
import Derived.Test.YtkgbilbicdiadaaSides
import Derived.BigRegion
import Derived.Test.YtkgbilbicdiadaaDual
set_option linter.unusedSimpArgs false
set_option linter.unusedVariables false
namespace Go.Proofs.Ytkgbilbicdiadaa
open Go.RowKit

noncomputable def nearV (N E : List P2) (f : Nat) : Nat := nearTo (sd N E) E.length f
theorem sd_lt {N E : List P2} (h : wholeB N E = true) (d : Nat) : sd N E d < (fcs N E).length := sideTo_lt _ d _ (fcs_facts h).1
theorem near_step {s : Nat → Nat} {k : Nat} (hne : s (2 * k) ≠ s (2 * k + 1)) : (fun f => if f = s (2 * k + 1) then ((nearTo s k (s (2 * k + 1)) ||| 2 ^ s (2 * k) : Nat) : Int) else if f = s (2 * k) then ((nearTo s k (s (2 * k)) ||| 2 ^ s (2 * k + 1) : Nat) : Int) else ((nearTo s k f : Nat) : Int)) = fun f => ((nearTo s (k + 1) f : Nat) : Int) := by
  funext f
  simp only [nearTo]
  rw [if_neg hne]
  by_cases h1 : f = s (2 * k)
  · subst h1
    rw [if_neg hne, if_pos rfl, if_pos rfl]
  · rw [if_neg h1]
    by_cases h2 : f = s (2 * k + 1)
    · subst h2
      rw [if_pos rfl, if_neg h1, if_pos rfl]
    · rw [if_neg h2, if_neg h1, if_neg h2]
theorem near_same {s : Nat → Nat} {k : Nat} (he : s (2 * k) = s (2 * k + 1)) : (fun f => ((nearTo s k f : Nat) : Int)) = fun f => ((nearTo s (k + 1) f : Nat) : Int) := by
  funext f
  simp only [nearTo]
  rw [if_pos he]
theorem or_shl {u f : Nat} (hu : u < 2 ^ 60) (hf : f < 60) : bits .or .i64 (u : Int) (IntKind.i64.wrap ((2 : Int) ^ f)) = ((u ||| 2 ^ f : Nat) : Int) := by
  have h1 : 2 ^ f < 2 ^ 60 := Nat.pow_lt_pow_right (by decide) hf
  rw [shl_one (by omega), i64_or _ _ (by omega) (by omega)]
theorem wrap64_eq (n : Int) : wrap64 n = IntKind.i64.wrap n := by simp only [wrap64, IntKind.wrap_i64]
set_option maxRecDepth 20000 in
set_option maxHeartbeats 4000000 in
theorem neighbors_any (N E : List P2) (A B : Option Addr) (c c' : Nat) (w : World) (hw : WR w N E A B c c') (hwh : wholeB N E = true) :
    Calls Try.prog 103 #[.agg #[.slice A N.length c, .slice B E.length c']] w fun e w' => ∃ g c2, e = .returned (.slice (some ⟨g, 0, none⟩) (fcs N E).length c2) ∧ w'.ownsRow w.heap.size 3 1 (.slice (some ⟨g, 0, none⟩) (fcs N E).length c2) (fcs N E).length (rowOf (fcs N E).length (fun f => ((nearV N E f : Nat) : Int))) ∧ Ext w w' := by
  obtain ⟨i0, hi, hz0, hz1, hz2⟩ := info_parts int_info
  have HW := hide hw
  have hm := (wholeB_iff.1 hwh).1.m
  have hsd := sd_lt hwh
  have hl40 := fcs_len (N := N) (E := E)
  have hpos := (fcs_facts hwh).1
  have HV := hide (show (fun f => ((nearV N E f : Nat) : Int)) = fun f => ((nearTo (sd N E) E.length f : Nat) : Int) from rfl)
  have HFA := hide (fun (W : World) (hE : Ext w W) => facesAt_any N E A B c c' W (hw.ext hE) hwh)
  have HFO := hide (fun (W : World) (hE : Ext w W) => (FacesOf_any N E A B c c' W (hw.ext hE)).mono (R' := fun e w' => ∃ A2 c2, e = .returned (.slice A2 (fcs N E).length c2) ∧ Ext W w') (by rintro e w' ⟨A2, c2, h1, _, _, _, _, h2⟩; exact ⟨A2, c2, h1, h2⟩))
  obtain ⟨n, hn⟩ : ∃ n, (fcs N E).length = n := ⟨_, rfl⟩
  obtain ⟨s, hs⟩ : ∃ s, sd N E = s := ⟨_, rfl⟩
  rw [hn] at hsd hl40 hpos HFO ⊢
  rw [hs] at hsd HV HFA
  have HSD := hide hsd
  clear hw hwh hn hs hsd
  
  go_enter Try.func103, Try.ntmps103
  go_wp2_with fail
  obtain ⟨w0, hw⟩ : ∃ w1, w1 = w.alloc (Obj.cells #[Value.slice A N.length c, Value.slice B E.length c'] 27) := ⟨_, rfl⟩; rw [← hw]; have kT : Tr [(w.heap.size, [.slice A N.length c, .slice B E.length c'])] w w0 := (by rw [hw]; exact ⟨by (first | (simp [Bx, CellsAt, go_sem, *]; done) | (simp [Bx, CellsAt, go_sem, *]; omega)), by (repeat (first | exact kE | exact Ext.refl _ | apply Ext.alloc | apply Ext.drewN | apply Ext.drew | apply Ext.set0 | apply Ext.set1 | apply Ext.set2 | apply Ext.set3 | (refine Ext.setk ?_ (by omega) _) | (apply Ext.snoc; assumption)))⟩); have HT := hide kT; clear hw kT; have kT := HT.out; simp only [Tr, Bx, CellsAt, Nat.reduceAdd, Nat.zero_add, and_true] at kT; obtain ⟨⟨kz0, kf0, kc0_0, kc0_1⟩, kE⟩ := kT
  have HW0 := hide kE
  refine (HFA.out _ kE).mono ?_
  rintro e w1 ⟨ga, ca, rfl, hat, hb1⟩
  have HAT := hide hat
  have HT' := hide (HT.out.ext hb1)
  clear hat hb1 HT
  have HT := HT'
  clear HT'
  clear kz0 kf0 kc0_0 kc0_1 kE
  have kT := HT.out; simp only [Tr, Bx, CellsAt, Nat.reduceAdd, Nat.zero_add, and_true] at kT; obtain ⟨⟨kz0, kf0, kc0_0, kc0_1⟩, kE⟩ := kT
  go_wp2_with fail
  refine (HFO.out _ kE).mono ?_
  rintro e w2 ⟨A2, c2, rfl, hb2⟩
  have HAT' := hide (own_ext HAT.out hb2)
  clear HAT
  have HAT := HAT'
  clear HAT'
  have HT' := hide (HT.out.ext hb2)
  clear hb2 HT
  have HT := HT'
  clear HT'
  clear kz0 kf0 kc0_0 kc0_1 kE
  have kT := HT.out; simp only [Tr, Bx, CellsAt, Nat.reduceAdd, Nat.zero_add, and_true] at kT; obtain ⟨⟨kz0, kf0, kc0_0, kc0_1⟩, kE⟩ := kT
  have HW2 := hide kE
  go_wp2_with (at_make; refine wpList_make_full _ rfl _ _ 29 rfl w2.heap.size 3 i0 (.int .i64 0) 1 Try.underlying29 hi hz0 hz1 .i64 .i64 n n n rfl rfl (by first | rfl | omega) (by first | rfl | omega) (by rw [hz2]; omega) (by unfold maxLen; omega) (Nat.le_refl _) ?_; intro w3 hown hgrow)
  rw [made_zeros'] at hown
  have HE3 := hide (grown_ext hgrow)
  have HO3 := hide (show w3.ownsRow w2.heap.size 3 1 (.slice (some ⟨w2.heap.size, 0, none⟩) n n) n (rowOf n (fun f => ((nearTo s 0 f : Nat) : Int))) from by simpa [nearTo] using hown)
  clear hown hgrow HT
  clear kz0 kf0 kc0_0 kc0_1 kE
  go_loopw [5] (fun i wi => ∃ k : Nat, k ≤ E.length ∧ i = .int .i64 k ∧ Hid (wi.ownsRow w2.heap.size 3 1 (.slice (some ⟨w2.heap.size, 0, none⟩) n n) n (rowOf n (fun f => ((nearTo s k f : Nat) : Int)))) ∧ Hid (Ext w2 wi)) (fun i _ => E.length - (intOf i).toNat)
  case atStart => exact ⟨0, Nat.zero_le _, rfl, HO3, HE3⟩
  case round =>
    clear HO3 HE3
    obtain ⟨k, hk, rfl, HO, HE⟩ := hrel
    by_cases hlt : k < E.length
    · have hlz : 2 * (k : Int) < 2 * (E.length : Int) := by omega
      have hat := own_ext HAT.out HE.out
      obtain ⟨i1, hi1⟩ : ∃ i1, i1 = 2 * k := ⟨_, rfl⟩
      obtain ⟨i2, hi2⟩ : ∃ i2, i2 = 2 * k + 1 := ⟨_, rfl⟩
      have ca1 := own_cellR hat (k := i1) (by omega)
      have ca2 := own_cellR hat (k := i2) (by omega)
      have hag := (own_ltg hat).2
      have y1 : (2 * (k : Int)).toNat = i1 := by omega
      have y2 : (2 * (k : Int) + 1).toNat = i2 := by omega
      have y3 : (0 : Int) ≤ 2 * (k : Int) := by omega
      have y4 : (0 : Int) ≤ 2 * (k : Int) + 1 := by omega
      have y5 : 2 * (k : Int) + 1 < 2 * (E.length : Int) := by omega
      have y6 : IntKind.i64.wrap (2 * (k : Int)) = 2 * (k : Int) := by rw [IntKind.wrap_i64]; omega
      have y7 : IntKind.i64.wrap (2 * (k : Int) + 1) = 2 * (k : Int) + 1 := by rw [IntKind.wrap_i64]; omega
      have hs1 := HSD.out i1
      have hs2 := HSD.out i2
      have hN1 := near_lt HSD.out k (s i1)
      have hN2 := near_lt HSD.out k (s i2)
      have HST := hide (near_step (s := s) (k := k))
      have HSM := hide (near_same (s := s) (k := k))
      rw [← hi2, ← hi1] at HST HSM
      obtain ⟨a, ha⟩ : ∃ a, s i1 = a := ⟨_, rfl⟩
      obtain ⟨b, hb⟩ : ∃ b, s i2 = b := ⟨_, rfl⟩
      rw [ha] at ca1 hs1 hN1 HST HSM
      rw [hb] at ca2 hs2 hN2 HST HSM
      have q1 := ExtBy.cell (W := wr) hag ca1
      have q2 := ExtBy.cell (W := wr) hag ca2
      have hp60 : 2 ^ n ≤ 2 ^ 40 := Nat.pow_le_pow_right (by decide) hl40
      clear hi1 hi2 hat ha hb ca1 ca2
      go_wp2_with fail
      
      refine wp_region_quietE (by kernel_rfl) (by kernel_rfl) ?_; (repeat (refine WQ.step (fun K hK => ?_); have HK := hide hK; clear hK; go_simp; refine HK.out _ ?_; clear HK K)); refine WQ.done ?_; intro w4 hw'; obtain ⟨⟨_, hw4⟩, hw''⟩ := hw'; subst hw''
      have HE4 := hide (HE.out.trans hw4)
      have HO4 := hide (own_ext HO.out hw4)
      clear hw4 HO HE q1 q2
      by_cases hab : a = b
      · have t1 : ((a : Int) != (b : Int)) = false := by simp [hab]
        have t2 : (a != b) = false := by simp [hab]
        have t3 : ((a : Int) == (b : Int)) = true := by simp [hab]
        have t4 : (a == b) = true := by simp [hab]
        have HAB := hide hab
        clear hab
        go_wp2_with fail
        go_roundw
        case rel => exact ⟨k + 1, by omega, by go_num, hide (by rw [← HSM.out HAB.out]; exact HO4.out), HE4⟩
        case measure => simp [intOf]; omega
      · have t1 : ((a : Int) != (b : Int)) = true := by simp [hab]; omega
        have t2 : (a != b) = true := by simp [hab]
        have t3 : ((a : Int) == (b : Int)) = false := by simp; omega
        have t4 : (a == b) = false := by simp [hab]
        have HAB := hide hab
        clear hab
        obtain ⟨X, hX⟩ : ∃ X, nearTo s k a = X := ⟨_, rfl⟩
        obtain ⟨Y, hY⟩ : ∃ Y, nearTo s k b = Y := ⟨_, rfl⟩
        have cx := own_cellR HO4.out hs1
        have cy := own_cellR HO4.out hs2
        rw [hX] at cx hN1 HST
        rw [hY] at cy hN2 HST
        have f1 := HO4.out.frozenAt a
        have f2 := HO4.out.frozenAt b
        have r1 := or_shl (u := X) (f := b) (by omega) (by omega)
        have r2 := or_shl (u := Y) (f := a) (by omega) (by omega)
        have HXX := hide hX
        clear hX
        go_wp2_with fail
        go_big_region
        have s1 := (HO4.out.stored a (.int .i64 (bits .or .i64 (X : Int) (IntKind.i64.wrap ((2 : Int) ^ b))))).1
        rw [rowOf_set _ _ hs1] at s1
        have s1' := own_ext s1 ((Ext.refl _).drew)
        have s2 := ((HE4.out.setk (k := w2.heap.size) (o := a) (s := none) (Nat.le_refl _) (.int .i64 (bits .or .i64 (X : Int) (IntKind.i64.wrap ((2 : Int) ^ b))))).drew)
        obtain ⟨w5, hw5⟩ : ∃ w5, w5 = (w4.setCell ⟨w2.heap.size, a, none⟩ (.int .i64 (bits .or .i64 (X : Int) (IntKind.i64.wrap ((2 : Int) ^ b))))).drew := ⟨_, rfl⟩
        rw [← hw5] at s1' s2
        simp only [wrap64_eq]
        rw [← hw5]
        clear hw5 cx cy f1 f2 s1 HO4 HE4
        have HO5 := hide s1'
        have HE5 := hide s2
        clear s1' s2
        have cy := own_cellR HO5.out hs2
        rw [if_neg (show ¬ b = a from fun e => HAB.out e.symm), hY] at cy
        have f2 := HO5.out.frozenAt b
        go_wp2_with fail
        go_big_region
        have s1 := (HO5.out.stored b (.int .i64 (bits .or .i64 (Y : Int) (IntKind.i64.wrap ((2 : Int) ^ a))))).1
        rw [rowOf_set _ _ hs2, r1, r2, HST.out HAB.out] at s1
        have s1' := own_ext s1 ((Ext.refl _).drew)
        have s2 := ((HE5.out.setk (k := w2.heap.size) (o := b) (s := none) (Nat.le_refl _) (.int .i64 (bits .or .i64 (Y : Int) (IntKind.i64.wrap ((2 : Int) ^ a))))).drew)
        rw [r2] at s2
        obtain ⟨w6, hw6⟩ : ∃ w6, w6 = (w5.setCell ⟨w2.heap.size, b, none⟩ (.int .i64 ((Y ||| 2 ^ a : Nat) : Int))).drew := ⟨_, rfl⟩
        rw [← hw6] at s1' s2
        simp only [wrap64_eq]
        rw [r2, ← hw6]
        clear hw6 cy f2 s1 HO5 HE5
        have HO6 := hide s1'
        have HE6 := hide s2
        clear s1' s2
        go_wp2_with fail
        go_roundw
        case rel => exact ⟨k + 1, by omega, by go_num, HO6, HE6⟩
        case measure => simp [intOf]; omega
    · obtain rfl : k = E.length := by omega
      have hlz : ¬ 2 * (E.length : Int) < 2 * (E.length : Int) := by omega
      go_wp2_with fail
      go_ret
      exact ⟨w2.heap.size, n, rfl, by rw [HV.out]; exact own_mono HO.out HW2.out.size, HW2.out.trans HE.out⟩
end Go.Proofs.Ytkgbilbicdiadaa
namespace Go.Proofs.Ytkgbilbicdiadaa
open Go.RowKit

/-- The outer face of a whole window. -/
noncomputable def oN (N E : List P2) : Nat := (fcs N E).findIdx (fun l => decide (areaL N E l ≤ 0))
theorem outer_nat {N E : List P2} (h : wholeB N E = true) : outerI N E = (oN N E : Nat) ∧ oN N E < (fcs N E).length := by
  have hf := fcs_facts h
  have e : fcs N E = facesL N E := by unfold fcs; rw [if_pos h]
  obtain ⟨l, hl, ha⟩ := outer_some (N := N) (E := E) (by omega)
  rw [← e] at hl
  have hlt : oN N E < (fcs N E).length := List.findIdx_lt_length_of_exists ⟨l, hl, by simpa using ha⟩
  refine ⟨?_, hlt⟩
  unfold oN at hlt ⊢
  unfold outerI
  rw [if_pos hlt]
/-- The set of all faces but face o. -/
def panesN (n o : Nat) : Nat := (2 ^ n - 1) ^^^ ((2 ^ n - 1) &&& 2 ^ o)
theorem panes_bit (n o i : Nat) : (panesN n o).testBit i = (decide (i < n) && !decide (i = o)) := by
  unfold panesN
  rw [Nat.testBit_xor, Nat.testBit_and, Nat.testBit_two_pow_sub_one, Nat.testBit_two_pow, show decide (o = i) = decide (i = o) from by rw [decide_eq_decide]; exact eq_comm]
  cases decide (i < n) <;> cases decide (i = o) <;> rfl
theorem panes_lt (n o : Nat) : panesN n o < 2 ^ n := by
  refine Nat.lt_pow_two_of_testBit _ fun i hi => ?_
  rw [panes_bit]
  simp
  omega
theorem pow_word {n : Nat} (hn : n < 62) : IntKind.i64.wrap ((2 : Int) ^ n) = ((2 ^ n : Nat) : Int) := shl_one hn
theorem pow_pred {n : Nat} (hn : n < 62) : IntKind.i64.wrap (IntKind.i64.wrap ((2 : Int) ^ n) - 1) = ((2 ^ n - 1 : Nat) : Int) := by
  have h : 2 ^ n < 2 ^ 62 := Nat.pow_lt_pow_right (by decide) hn
  have h0 : 0 < 2 ^ n := Nat.two_pow_pos n
  rw [shl_one hn, IntKind.wrap_i64]
  omega
theorem panes_word {n o : Nat} (hn : n ≤ 40) (ho : o < n) : bits .andNot .i64 (IntKind.i64.wrap (IntKind.i64.wrap ((2 : Int) ^ n) - 1)) (IntKind.i64.wrap ((2 : Int) ^ o)) = (panesN n o : Nat) := by
  have h : 2 ^ n ≤ 2 ^ 40 := Nat.pow_le_pow_right (by decide) hn
  have h1 : 2 ^ o < 2 ^ n := Nat.pow_lt_pow_right (by decide) ho
  rw [pow_pred (by omega), shl_one (by omega), i64_andNot _ _ (by omega) (by omega)]
  rfl
set_option maxRecDepth 20000 in
set_option maxHeartbeats 4000000 in
theorem paneSet_any (N E : List P2) (A B : Option Addr) (c c' : Nat) (w : World) (hw : WR w N E A B c c') (hwh : wholeB N E = true) :
    Calls Try.prog 102 #[.agg #[.slice A N.length c, .slice B E.length c']] w fun e w' => e = .returned (.int .i64 (panesN (fcs N E).length (oN N E) : Nat)) ∧ Ext w w' := by
  have HFO := hide (fun (W : World) (hE : Ext w W) => (FacesOf_any N E A B c c' W (hw.ext hE)).mono (R' := fun e w' => ∃ A2 c2, e = .returned (.slice A2 (fcs N E).length c2) ∧ Ext W w') (by rintro e w' ⟨A2, c2, h1, _, _, _, _, h2⟩; exact ⟨A2, c2, h1, h2⟩))
  have HOF := hide (fun (W : World) (hE : Ext w W) => OuterFace_any N E A B c c' W (hw.ext hE))
  obtain ⟨ho1, ho2⟩ := outer_nat hwh
  have hl40 := fcs_len (N := N) (E := E)
  rw [ho1] at HOF
  obtain ⟨n, hn⟩ : ∃ n, (fcs N E).length = n := ⟨_, rfl⟩
  obtain ⟨o, ho⟩ : ∃ o, oN N E = o := ⟨_, rfl⟩
  rw [hn] at hl40 ho2 HFO ⊢
  rw [ho] at ho2 HOF ⊢
  have HP := hide (panes_word hl40 ho2)
  clear hw hwh ho1 hn ho
  
  go_enter Try.func102, Try.ntmps102
  go_wp2_with fail
  obtain ⟨w0, hw⟩ : ∃ w1, w1 = w.alloc (Obj.cells #[Value.slice A N.length c, Value.slice B E.length c'] 27) := ⟨_, rfl⟩; rw [← hw]; have kT : Tr [(w.heap.size, [.slice A N.length c, .slice B E.length c'])] w w0 := (by rw [hw]; exact ⟨by (first | (simp [Bx, CellsAt, go_sem, *]; done) | (simp [Bx, CellsAt, go_sem, *]; omega)), by (repeat (first | exact kE | exact Ext.refl _ | apply Ext.alloc | apply Ext.drewN | apply Ext.drew | apply Ext.set0 | apply Ext.set1 | apply Ext.set2 | apply Ext.set3 | (refine Ext.setk ?_ (by omega) _) | (apply Ext.snoc; assumption)))⟩); have HT := hide kT; clear hw kT; have kT := HT.out; simp only [Tr, Bx, CellsAt, Nat.reduceAdd, Nat.zero_add, and_true] at kT; obtain ⟨⟨kz0, kf0, kc0_0, kc0_1⟩, kE⟩ := kT
  have HW0 := hide kE
  go_region_held3 (fun w' => (∀ (q o : Nat), q < w0.heap.size → w'.cell? ⟨q, o, none⟩ = w0.cell? ⟨q, o, none⟩) ∧ Ext w0 w') ((apply ExtS; repeat (first | exact kE | exact Ext.refl _ | apply Ext.alloc | apply Ext.drewN | apply Ext.drew | apply Ext.set0 | apply Ext.set1 | apply Ext.set2 | apply Ext.set3 | (refine Ext.setk ?_ (by omega) _) | (apply Ext.snoc; assumption)))) ((first | (go_at_call 87; refine (HFO.out _ (HW0.out.trans (by clear kE; repeat (first | exact kE | exact Ext.refl _ | apply Ext.alloc | apply Ext.drewN | apply Ext.drew | apply Ext.set0 | apply Ext.set1 | apply Ext.set2 | apply Ext.set3 | (refine Ext.setk ?_ (by omega) _) | (apply Ext.snoc; assumption))))).mono ?_; rintro e w3 ⟨A2, c2, rfl, hb3⟩)  |  (go_at_call 111; refine (HOF.out _ (HW0.out.trans (by clear kE; repeat (first | exact kE | exact Ext.refl _ | apply Ext.alloc | apply Ext.drewN | apply Ext.drew | apply Ext.set0 | apply Ext.set1 | apply Ext.set2 | apply Ext.set3 | (refine Ext.setk ?_ (by omega) _) | (apply Ext.snoc; assumption))))).mono ?_; rintro e w5 ⟨rfl, hb5⟩)))
  have HE5 := hide (HW0.out.trans (((Ext.refl w0).drew.trans hb3).trans hb5))
  clear hb3 hb5
  rw [HP.out]
  go_wp2_with fail
  go_ret
  exact ⟨rfl, HE5.out⟩
end Go.Proofs.Ytkgbilbicdiadaa
namespace Go.Proofs.Ytkgbilbicdiadaa

/-- The set of the first k of the numbers F. -/
def setTo (F : Nat → Nat) : Nat → Nat
  | 0 => 0
  | k + 1 => setTo F k ||| 2 ^ F k
theorem setTo_bit {F : Nat → Nat} {j : Nat} : ∀ k, (setTo F k).testBit j = true ↔ ∃ i, i < k ∧ F i = j
  | 0 => by simp [setTo]
  | k + 1 => by
    simp only [setTo]
    rw [or_bit, setTo_bit k]
    constructor
    · rintro (⟨i, h1, h2⟩ | h)
      · exact ⟨i, by omega, h2⟩
      · exact ⟨k, by omega, h⟩
    · rintro ⟨i, h1, h2⟩
      rcases Nat.lt_or_ge i k with h | h
      · exact .inl ⟨i, h, h2⟩
      · have : i = k := by omega
        subst this
        exact .inr h2
theorem setTo_lt {F : Nat → Nat} {n : Nat} : ∀ k, (∀ j, j < k → F j < n) → setTo F k < 2 ^ n
  | 0, _ => Nat.two_pow_pos n
  | k + 1, h => sub_set_lt (setTo_lt k fun j hj => h j (by omega)) (h k (by omega))
theorem memN_nodup (s n : Nat) : (memN s n).Nodup := List.Pairwise.filter _ List.nodup_range
theorem setTo_count {F : Nat → Nat} {n k : Nat} (h : ∀ j, j < k → F j < n) (hd : ∀ j, j < k → ∀ i, i < j → F i ≠ F j) : (memN (setTo F k) n).length = k := by
  have h1 : ((List.range k).map F).Nodup := by
    refine List.pairwise_map.2 (List.Pairwise.imp_of_mem (R := fun a b => a < b) (fun {a b} _ hb hab => ?_) List.pairwise_lt_range)
    exact hd b (List.mem_range.1 hb) a hab
  have h2 : (memN (setTo F k) n).Perm ((List.range k).map F) := by
    refine (List.perm_ext_iff_of_nodup (memN_nodup _ _) h1).2 fun x => ?_
    rw [memN_mem, setTo_bit, List.mem_map]
    constructor
    · rintro ⟨_, i, hi, rfl⟩
      exact ⟨i, List.mem_range.2 hi, rfl⟩
    · rintro ⟨i, hi, rfl⟩
      have := List.mem_range.1 hi
      exact ⟨h i this, i, this, rfl⟩
  rw [h2.length_eq]
  simp
theorem panes_count {n o : Nat} (ho : o < n) : (memN (panesN n o) n).length = n - 1 := by
  have h2 : (memN (panesN n o) n).Perm ((List.range n).erase o) := by
    refine (List.perm_ext_iff_of_nodup (memN_nodup _ _) (List.nodup_range.erase _)).2 fun x => ?_
    rw [memN_mem, panes_bit, List.Nodup.mem_erase_iff List.nodup_range, List.mem_range]
    simp
    omega
  rw [h2.length_eq, List.length_erase_of_mem (List.mem_range.2 ho)]
  simp
/-- The first k numbers are set one by one: each a face, each new, each beside one before it. -/
def StepI (b : Nat → Nat → Bool) (R : Nat → Bool) (F : Nat → Nat) (k : Nat) : Prop := ∀ j, j < k → R j = true ∧ (∀ i, i < j → F i ≠ F j) ∧ (j = 0 ∨ ∃ i, i < j ∧ b (F i) (F j) = true)
def AsmOk (b : Nat → Nat → Bool) (R : Nat → Bool) (F : Nat → Nat) (n o m : Nat) : Prop := m + 1 = n ∧ StepI b R F m ∧ ∀ j, j < m → F j ≠ o
theorem StepI.next {b : Nat → Nat → Bool} {R : Nat → Bool} {F : Nat → Nat} {k : Nat} (h : StepI b R F k) (h1 : R k = true) (h2 : (setTo F k).testBit (F k) = false) (h3 : k = 0 ∨ ∃ i, i < k ∧ b (F i) (F k) = true) : StepI b R F (k + 1) := by
  intro j hj
  rcases Nat.lt_or_ge j k with hlt | hge
  · exact h j hlt
  · have : j = k := by omega
    subst this
    refine ⟨h1, fun i hi e => ?_, h3⟩
    have : (setTo F j).testBit (F j) = true := (setTo_bit j).2 ⟨i, hi, e⟩
    rw [h2] at this
    cases this
theorem asm_no {b : Nat → Nat → Bool} {R : Nat → Bool} {F : Nat → Nat} {n o m k : Nat} (hk : k < m) (h : R k = false ∨ (setTo F k).testBit (F k) = true ∨ F k = o ∨ (k ≠ 0 ∧ ∀ i, i < k → b (F i) (F k) = false)) : ¬ AsmOk b R F n o m := by
  rintro ⟨_, h2, h3⟩
  obtain ⟨g1, g2, g3⟩ := h2 k hk
  rcases h with h | h | h | ⟨h, h'⟩
  · rw [h] at g1; cases g1
  · obtain ⟨i, hi, e⟩ := (setTo_bit k).1 h
    exact g2 i hi e
  · exact h3 k hk h
  · rcases g3 with g3 | ⟨i, hi, e⟩
    · exact h g3
    · rw [h' i hi] at e; cases e
/-- At the end: the set of the faces is the set of the panes just if they are as many, and the outer face is none of them. -/
theorem asm_end {b : Nat → Nat → Bool} {R : Nat → Bool} {F : Nat → Nat} {n o m : Nat} (ho : o < n) (hR : ∀ j, R j = true → F j < n) (h : StepI b R F m) : setTo F m = panesN n o ↔ AsmOk b R F n o m := by
  have hlt : ∀ j, j < m → F j < n := fun j hj => hR j (h j hj).1
  have hc := setTo_count hlt fun j hj => (h j hj).2.1
  have hp := panes_count ho
  constructor
  · intro e
    rw [e, hp] at hc
    refine ⟨by omega, h, fun j hj e2 => ?_⟩
    have h1 : (setTo F m).testBit o = true := (setTo_bit m).2 ⟨j, hj, e2⟩
    rw [e, panes_bit] at h1
    simp at h1
  · rintro ⟨h1, _, h3⟩
    have hsub : Sub (setTo F m) (panesN n o) := fun i hi => by
      obtain ⟨j, hj, rfl⟩ := (setTo_bit m).1 hi
      rw [panes_bit]
      simp [hlt j hj, h3 j hj]
    by_cases e : panesN n o = setTo F m
    · exact e.symm
    · have := bits_count (setTo_lt m hlt) (panes_lt n o) hsub e
      omega
/-- Beside one of the first i. -/
def besideTo (b : Nat → Nat → Bool) (F : Nat → Nat) (k : Nat) : Nat → Bool
  | 0 => decide (k = 0)
  | i + 1 => besideTo b F k i || b (F i) (F k)
theorem besideTo_iff {b : Nat → Nat → Bool} {F : Nat → Nat} {k : Nat} : ∀ i, besideTo b F k i = true ↔ k = 0 ∨ ∃ j, j < i ∧ b (F j) (F k) = true
  | 0 => by simp [besideTo]
  | i + 1 => by
    simp only [besideTo, Bool.or_eq_true]
    rw [besideTo_iff i]
    constructor
    · rintro ((h | ⟨j, h1, h2⟩) | h)
      · exact .inl h
      · exact .inr ⟨j, by omega, h2⟩
      · exact .inr ⟨i, by omega, h⟩
    · rintro (h | ⟨j, h1, h2⟩)
      · exact .inl (.inl h)
      · rcases Nat.lt_or_ge j i with q | q
        · exact .inl (.inr ⟨j, q, h2⟩)
        · have : j = i := by omega
          subst this
          exact .inr h2
theorem near_ne {b : Nat → Nat → Bool} {F nf : Nat → Nat} {k : Nat} (hb : ∀ a c, b a c = b c a) (hn : ∀ f g, (nf f).testBit g = b f g) : nf (F k) &&& setTo F k ≠ 0 ↔ ∃ i, i < k ∧ b (F i) (F k) = true := by
  rw [and_ne]
  constructor
  · rintro ⟨j, h1, h2⟩
    obtain ⟨i, hi, rfl⟩ := (setTo_bit k).1 h2
    rw [hn, hb] at h1
    exact ⟨i, hi, h1⟩
  · rintro ⟨i, hi, h⟩
    exact ⟨F i, by rw [hn, hb]; exact h, (setTo_bit k).2 ⟨i, hi, rfl⟩⟩
end Go.Proofs.Ytkgbilbicdiadaa
