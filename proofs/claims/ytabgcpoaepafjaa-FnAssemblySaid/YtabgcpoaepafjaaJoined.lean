/- The walk of the program's neighbors: for each face the set of the faces beside it. No condition but a whole window. -/
import Derived.Test.YtabgcpoaepafjaaOuter
import Derived.BigRegion
import Derived.Test.YtabgcpoaepafjaaGeo
import Derived.Test.YtabgcpoaepafjaaMem
set_option linter.unusedSimpArgs false
set_option linter.unusedVariables false
namespace Go.Proofs.Ytabgcpoaepafjaa
open Go.RowKit

noncomputable def nearV (N E : List P2) (f : Nat) : Nat := nearTo (sd N E) E.length f
theorem sd_lt {N E : List P2} (h : wholeB N E = true) (d : Nat) : sd N E d < (fcs N E).length := sideTo_lt _ d _ (fcs_facts h).1
theorem near_step {s : Nat → Nat} {k : Nat} (hne : s (2 * k) ≠ s (2 * k + 1)) : (fun f => if f = s (2 * k + 1) then ((nearTo s k (s (2 * k + 1)) ||| 2 ^ s (2 * k) : Nat) : Int) else if f = s (2 * k) then ((nearTo s k (s (2 * k)) ||| 2 ^ s (2 * k + 1) : Nat) : Int) else ((nearTo s k f : Nat) : Int)) = fun f => ((nearTo s (k + 1) f : Nat) : Int) := by
  funext f
  simp only [nearTo]
  rw [if_neg hne]
  by_cases h1 : f = s (2 * k)
  · subst h1
    rw [if_neg hne, if_pos rfl, if_pos rfl]
  · rw [if_neg h1]
    by_cases h2 : f = s (2 * k + 1)
    · subst h2
      rw [if_pos rfl, if_neg h1, if_pos rfl]
    · rw [if_neg h2, if_neg h1, if_neg h2]
theorem near_same {s : Nat → Nat} {k : Nat} (he : s (2 * k) = s (2 * k + 1)) : (fun f => ((nearTo s k f : Nat) : Int)) = fun f => ((nearTo s (k + 1) f : Nat) : Int) := by
  funext f
  simp only [nearTo]
  rw [if_pos he]
theorem or_shl {u f : Nat} (hu : u < 2 ^ 60) (hf : f < 60) : bits .or .i64 (u : Int) (IntKind.i64.wrap ((2 : Int) ^ f)) = ((u ||| 2 ^ f : Nat) : Int) := by
  have h1 : 2 ^ f < 2 ^ 60 := Nat.pow_lt_pow_right (by decide) hf
  rw [shl_one (by omega), i64_or _ _ (by omega) (by omega)]
theorem wrap64_eq (n : Int) : wrap64 n = IntKind.i64.wrap n := by simp only [wrap64, IntKind.wrap_i64]
set_option maxRecDepth 20000 in
set_option maxHeartbeats 4000000 in
theorem neighbors_any (N E : List P2) (A B : Option Addr) (c c' : Nat) (w : World) (hw : WR w N E A B c c') (hwh : wholeB N E = true) :
    Calls Try.prog 59 #[.agg #[.slice A N.length c, .slice B E.length c']] w fun e w' => ∃ g c2, e = .returned (.slice (some ⟨g, 0, none⟩) (fcs N E).length c2) ∧ w'.ownsRow w.heap.size 3 1 (.slice (some ⟨g, 0, none⟩) (fcs N E).length c2) (fcs N E).length (rowOf (fcs N E).length (fun f => ((nearV N E f : Nat) : Int))) ∧ Ext w w' := by
  obtain ⟨i0, hi, hz0, hz1, hz2⟩ := info_parts int_info
  have HW := hide hw
  have hm := (wholeB_iff.1 hwh).1.m
  have hsd := sd_lt hwh
  have hl40 := fcs_len (N := N) (E := E)
  have hpos := (fcs_facts hwh).1
  have HV := hide (show (fun f => ((nearV N E f : Nat) : Int)) = fun f => ((nearTo (sd N E) E.length f : Nat) : Int) from rfl)
  have HFA := hide (fun (W : World) (hE : Ext w W) => facesAt_any N E A B c c' W (hw.ext hE) hwh)
  have HFO := hide (fun (W : World) (hE : Ext w W) => (FacesOf_any N E A B c c' W (hw.ext hE)).mono (R' := fun e w' => ∃ A2 c2, e = .returned (.slice A2 (fcs N E).length c2) ∧ Ext W w') (by rintro e w' ⟨A2, c2, h1, _, _, _, _, h2⟩; exact ⟨A2, c2, h1, h2⟩))
  obtain ⟨n, hn⟩ : ∃ n, (fcs N E).length = n := ⟨_, rfl⟩
  obtain ⟨s, hs⟩ : ∃ s, sd N E = s := ⟨_, rfl⟩
  rw [hn] at hsd hl40 hpos HFO ⊢
  rw [hs] at hsd HV HFA
  have HSD := hide hsd
  clear hw hwh hn hs hsd
  
  go_enter Try.func59, Try.ntmps59
  go_wp2_with fail
  obtain ⟨w0, hw⟩ : ∃ w1, w1 = w.alloc (Obj.cells #[Value.slice A N.length c, Value.slice B E.length c'] 27) := ⟨_, rfl⟩; rw [← hw]; have kT : Tr [(w.heap.size, [.slice A N.length c, .slice B E.length c'])] w w0 := (by rw [hw]; exact ⟨by (first | (simp [Bx, CellsAt, go_sem, *]; done) | (simp [Bx, CellsAt, go_sem, *]; omega)), by (repeat (first | exact kE | exact Ext.refl _ | apply Ext.alloc | apply Ext.drewN | apply Ext.drew | apply Ext.set0 | apply Ext.set1 | apply Ext.set2 | apply Ext.set3 | (refine Ext.setk ?_ (by omega) _) | (apply Ext.snoc; assumption)))⟩); have HT := hide kT; clear hw kT; have kT := HT.out; simp only [Tr, Bx, CellsAt, Nat.reduceAdd, Nat.zero_add, and_true] at kT; obtain ⟨⟨kz0, kf0, kc0_0, kc0_1⟩, kE⟩ := kT
  have HW0 := hide kE
  refine (HFA.out _ kE).mono ?_
  rintro e w1 ⟨ga, ca, rfl, hat, hb1⟩
  have HAT := hide hat
  have HT' := hide (HT.out.ext hb1)
  clear hat hb1 HT
  have HT := HT'
  clear HT'
  clear kz0 kf0 kc0_0 kc0_1 kE
  have kT := HT.out; simp only [Tr, Bx, CellsAt, Nat.reduceAdd, Nat.zero_add, and_true] at kT; obtain ⟨⟨kz0, kf0, kc0_0, kc0_1⟩, kE⟩ := kT
  go_wp2_with fail
  refine (HFO.out _ kE).mono ?_
  rintro e w2 ⟨A2, c2, rfl, hb2⟩
  have HAT' := hide (own_ext HAT.out hb2)
  clear HAT
  have HAT := HAT'
  clear HAT'
  have HT' := hide (HT.out.ext hb2)
  clear hb2 HT
  have HT := HT'
  clear HT'
  clear kz0 kf0 kc0_0 kc0_1 kE
  have kT := HT.out; simp only [Tr, Bx, CellsAt, Nat.reduceAdd, Nat.zero_add, and_true] at kT; obtain ⟨⟨kz0, kf0, kc0_0, kc0_1⟩, kE⟩ := kT
  have HW2 := hide kE
  go_wp2_with (at_make; refine wpList_make_full _ rfl _ _ 29 rfl w2.heap.size 3 i0 (.int .i64 0) 1 Try.underlying29 hi hz0 hz1 .i64 .i64 n n n rfl rfl (by first | rfl | omega) (by first | rfl | omega) (by rw [hz2]; omega) (by unfold maxLen; omega) (Nat.le_refl _) ?_; intro w3 hown hgrow)
  rw [made_zeros'] at hown
  have HE3 := hide (grown_ext hgrow)
  have HO3 := hide (show w3.ownsRow w2.heap.size 3 1 (.slice (some ⟨w2.heap.size, 0, none⟩) n n) n (rowOf n (fun f => ((nearTo s 0 f : Nat) : Int))) from by simpa [nearTo] using hown)
  clear hown hgrow HT
  clear kz0 kf0 kc0_0 kc0_1 kE
  go_loopw [5] (fun i wi => ∃ k : Nat, k ≤ E.length ∧ i = .int .i64 k ∧ Hid (wi.ownsRow w2.heap.size 3 1 (.slice (some ⟨w2.heap.size, 0, none⟩) n n) n (rowOf n (fun f => ((nearTo s k f : Nat) : Int)))) ∧ Hid (Ext w2 wi)) (fun i _ => E.length - (intOf i).toNat)
  case atStart => exact ⟨0, Nat.zero_le _, rfl, HO3, HE3⟩
  case round =>
    clear HO3 HE3
    obtain ⟨k, hk, rfl, HO, HE⟩ := hrel
    by_cases hlt : k < E.length
    · have hlz : 2 * (k : Int) < 2 * (E.length : Int) := by omega
      have hat := own_ext HAT.out HE.out
      obtain ⟨i1, hi1⟩ : ∃ i1, i1 = 2 * k := ⟨_, rfl⟩
      obtain ⟨i2, hi2⟩ : ∃ i2, i2 = 2 * k + 1 := ⟨_, rfl⟩
      have ca1 := own_cellR hat (k := i1) (by omega)
      have ca2 := own_cellR hat (k := i2) (by omega)
      have hag := (own_ltg hat).2
      have y1 : (2 * (k : Int)).toNat = i1 := by omega
      have y2 : (2 * (k : Int) + 1).toNat = i2 := by omega
      have y3 : (0 : Int) ≤ 2 * (k : Int) := by omega
      have y4 : (0 : Int) ≤ 2 * (k : Int) + 1 := by omega
      have y5 : 2 * (k : Int) + 1 < 2 * (E.length : Int) := by omega
      have y6 : IntKind.i64.wrap (2 * (k : Int)) = 2 * (k : Int) := by rw [IntKind.wrap_i64]; omega
      have y7 : IntKind.i64.wrap (2 * (k : Int) + 1) = 2 * (k : Int) + 1 := by rw [IntKind.wrap_i64]; omega
      have hs1 := HSD.out i1
      have hs2 := HSD.out i2
      have hN1 := near_lt HSD.out k (s i1)
      have hN2 := near_lt HSD.out k (s i2)
      have HST := hide (near_step (s := s) (k := k))
      have HSM := hide (near_same (s := s) (k := k))
      rw [← hi2, ← hi1] at HST HSM
      obtain ⟨a, ha⟩ : ∃ a, s i1 = a := ⟨_, rfl⟩
      obtain ⟨b, hb⟩ : ∃ b, s i2 = b := ⟨_, rfl⟩
      rw [ha] at ca1 hs1 hN1 HST HSM
      rw [hb] at ca2 hs2 hN2 HST HSM
      have q1 := ExtBy.cell (W := wr) hag ca1
      have q2 := ExtBy.cell (W := wr) hag ca2
      have hp60 : 2 ^ n ≤ 2 ^ 40 := Nat.pow_le_pow_right (by decide) hl40
      clear hi1 hi2 hat ha hb ca1 ca2
      go_wp2_with fail
      
      refine wp_region_quietE (by kernel_rfl) (by kernel_rfl) ?_; (repeat (refine WQ.step (fun K hK => ?_); have HK := hide hK; clear hK; go_simp; refine HK.out _ ?_; clear HK K)); refine WQ.done ?_; intro w4 hw'; obtain ⟨⟨_, hw4⟩, hw''⟩ := hw'; subst hw''
      have HE4 := hide (HE.out.trans hw4)
      have HO4 := hide (own_ext HO.out hw4)
      clear hw4 HO HE q1 q2
      by_cases hab : a = b
      · have t1 : ((a : Int) != (b : Int)) = false := by simp [hab]
        have t2 : (a != b) = false := by simp [hab]
        have t3 : ((a : Int) == (b : Int)) = true := by simp [hab]
        have t4 : (a == b) = true := by simp [hab]
        have HAB := hide hab
        clear hab
        go_wp2_with fail
        go_roundw
        case rel => exact ⟨k + 1, by omega, by go_num, hide (by rw [← HSM.out HAB.out]; exact HO4.out), HE4⟩
        case measure => simp [intOf]; omega
      · have t1 : ((a : Int) != (b : Int)) = true := by simp [hab]; omega
        have t2 : (a != b) = true := by simp [hab]
        have t3 : ((a : Int) == (b : Int)) = false := by simp; omega
        have t4 : (a == b) = false := by simp [hab]
        have HAB := hide hab
        clear hab
        obtain ⟨X, hX⟩ : ∃ X, nearTo s k a = X := ⟨_, rfl⟩
        obtain ⟨Y, hY⟩ : ∃ Y, nearTo s k b = Y := ⟨_, rfl⟩
        have cx := own_cellR HO4.out hs1
        have cy := own_cellR HO4.out hs2
        rw [hX] at cx hN1 HST
        rw [hY] at cy hN2 HST
        have f1 := HO4.out.frozenAt a
        have f2 := HO4.out.frozenAt b
        have r1 := or_shl (u := X) (f := b) (by omega) (by omega)
        have r2 := or_shl (u := Y) (f := a) (by omega) (by omega)
        have HXX := hide hX
        clear hX
        go_wp2_with fail
        go_big_region
        have s1 := (HO4.out.stored a (.int .i64 (bits .or .i64 (X : Int) (IntKind.i64.wrap ((2 : Int) ^ b))))).1
        rw [rowOf_set _ _ hs1] at s1
        have s1' := own_ext s1 ((Ext.refl _).drew)
        have s2 := ((HE4.out.setk (k := w2.heap.size) (o := a) (s := none) (Nat.le_refl _) (.int .i64 (bits .or .i64 (X : Int) (IntKind.i64.wrap ((2 : Int) ^ b))))).drew)
        obtain ⟨w5, hw5⟩ : ∃ w5, w5 = (w4.setCell ⟨w2.heap.size, a, none⟩ (.int .i64 (bits .or .i64 (X : Int) (IntKind.i64.wrap ((2 : Int) ^ b))))).drew := ⟨_, rfl⟩
        rw [← hw5] at s1' s2
        simp only [wrap64_eq]
        rw [← hw5]
        clear hw5 cx cy f1 f2 s1 HO4 HE4
        have HO5 := hide s1'
        have HE5 := hide s2
        clear s1' s2
        have cy := own_cellR HO5.out hs2
        rw [if_neg (show ¬ b = a from fun e => HAB.out e.symm), hY] at cy
        have f2 := HO5.out.frozenAt b
        go_wp2_with fail
        go_big_region
        have s1 := (HO5.out.stored b (.int .i64 (bits .or .i64 (Y : Int) (IntKind.i64.wrap ((2 : Int) ^ a))))).1
        rw [rowOf_set _ _ hs2, r1, r2, HST.out HAB.out] at s1
        have s1' := own_ext s1 ((Ext.refl _).drew)
        have s2 := ((HE5.out.setk (k := w2.heap.size) (o := b) (s := none) (Nat.le_refl _) (.int .i64 (bits .or .i64 (Y : Int) (IntKind.i64.wrap ((2 : Int) ^ a))))).drew)
        rw [r2] at s2
        obtain ⟨w6, hw6⟩ : ∃ w6, w6 = (w5.setCell ⟨w2.heap.size, b, none⟩ (.int .i64 ((Y ||| 2 ^ a : Nat) : Int))).drew := ⟨_, rfl⟩
        rw [← hw6] at s1' s2
        simp only [wrap64_eq]
        rw [r2, ← hw6]
        clear hw6 cy f2 s1 HO5 HE5
        have HO6 := hide s1'
        have HE6 := hide s2
        clear s1' s2
        go_wp2_with fail
        go_roundw
        case rel => exact ⟨k + 1, by omega, by go_num, HO6, HE6⟩
        case measure => simp [intOf]; omega
    · obtain rfl : k = E.length := by omega
      have hlz : ¬ 2 * (E.length : Int) < 2 * (E.length : Int) := by omega
      go_wp2_with fail
      go_ret
      exact ⟨w2.heap.size, n, rfl, by rw [HV.out]; exact own_mono HO.out HW2.out.size, HW2.out.trans HE.out⟩
end Go.Proofs.Ytabgcpoaepafjaa
namespace Go.Proofs.Ytabgcpoaepafjaa
open Go.RowKit

/-- The outer face of a whole window. -/
noncomputable def oN (N E : List P2) : Nat := (fcs N E).findIdx (fun l => decide (areaL N E l ≤ 0))
theorem outer_nat {N E : List P2} (h : wholeB N E = true) : outerI N E = (oN N E : Nat) ∧ oN N E < (fcs N E).length := by
  have hf := fcs_facts h
  have e : fcs N E = facesL N E := by unfold fcs; rw [if_pos h]
  obtain ⟨l, hl, ha⟩ := outer_some (N := N) (E := E) (by omega)
  rw [← e] at hl
  have hlt : oN N E < (fcs N E).length := List.findIdx_lt_length_of_exists ⟨l, hl, by simpa using ha⟩
  refine ⟨?_, hlt⟩
  unfold oN at hlt ⊢
  unfold outerI
  rw [if_pos hlt]
/-- The set of all faces but face o. -/
def panesN (n o : Nat) : Nat := (2 ^ n - 1) ^^^ ((2 ^ n - 1) &&& 2 ^ o)
theorem panes_bit (n o i : Nat) : (panesN n o).testBit i = (decide (i < n) && !decide (i = o)) := by
  unfold panesN
  rw [Nat.testBit_xor, Nat.testBit_and, Nat.testBit_two_pow_sub_one, Nat.testBit_two_pow, show decide (o = i) = decide (i = o) from by rw [decide_eq_decide]; exact eq_comm]
  cases decide (i < n) <;> cases decide (i = o) <;> rfl
theorem panes_lt (n o : Nat) : panesN n o < 2 ^ n := by
  refine Nat.lt_pow_two_of_testBit _ fun i hi => ?_
  rw [panes_bit]
  simp
  omega
theorem pow_word {n : Nat} (hn : n < 62) : IntKind.i64.wrap ((2 : Int) ^ n) = ((2 ^ n : Nat) : Int) := shl_one hn
theorem pow_pred {n : Nat} (hn : n < 62) : IntKind.i64.wrap (IntKind.i64.wrap ((2 : Int) ^ n) - 1) = ((2 ^ n - 1 : Nat) : Int) := by
  have h : 2 ^ n < 2 ^ 62 := Nat.pow_lt_pow_right (by decide) hn
  have h0 : 0 < 2 ^ n := Nat.two_pow_pos n
  rw [shl_one hn, IntKind.wrap_i64]
  omega
theorem panes_word {n o : Nat} (hn : n ≤ 40) (ho : o < n) : bits .andNot .i64 (IntKind.i64.wrap (IntKind.i64.wrap ((2 : Int) ^ n) - 1)) (IntKind.i64.wrap ((2 : Int) ^ o)) = (panesN n o : Nat) := by
  have h : 2 ^ n ≤ 2 ^ 40 := Nat.pow_le_pow_right (by decide) hn
  have h1 : 2 ^ o < 2 ^ n := Nat.pow_lt_pow_right (by decide) ho
  rw [pow_pred (by omega), shl_one (by omega), i64_andNot _ _ (by omega) (by omega)]
  rfl
set_option maxRecDepth 20000 in
set_option maxHeartbeats 4000000 in
theorem paneSet_any (N E : List P2) (A B : Option Addr) (c c' : Nat) (w : World) (hw : WR w N E A B c c') (hwh : wholeB N E = true) :
    Calls Try.prog 60 #[.agg #[.slice A N.length c, .slice B E.length c']] w fun e w' => e = .returned (.int .i64 (panesN (fcs N E).length (oN N E) : Nat)) ∧ Ext w w' := by
  have HFO := hide (fun (W : World) (hE : Ext w W) => (FacesOf_any N E A B c c' W (hw.ext hE)).mono (R' := fun e w' => ∃ A2 c2, e = .returned (.slice A2 (fcs N E).length c2) ∧ Ext W w') (by rintro e w' ⟨A2, c2, h1, _, _, _, _, h2⟩; exact ⟨A2, c2, h1, h2⟩))
  have HOF := hide (fun (W : World) (hE : Ext w W) => OuterFace_any N E A B c c' W (hw.ext hE))
  obtain ⟨ho1, ho2⟩ := outer_nat hwh
  have hl40 := fcs_len (N := N) (E := E)
  rw [ho1] at HOF
  obtain ⟨n, hn⟩ : ∃ n, (fcs N E).length = n := ⟨_, rfl⟩
  obtain ⟨o, ho⟩ : ∃ o, oN N E = o := ⟨_, rfl⟩
  rw [hn] at hl40 ho2 HFO ⊢
  rw [ho] at ho2 HOF ⊢
  have HP := hide (panes_word hl40 ho2)
  clear hw hwh ho1 hn ho
  
  go_enter Try.func60, Try.ntmps60
  go_wp2_with fail
  obtain ⟨w0, hw⟩ : ∃ w1, w1 = w.alloc (Obj.cells #[Value.slice A N.length c, Value.slice B E.length c'] 27) := ⟨_, rfl⟩; rw [← hw]; have kT : Tr [(w.heap.size, [.slice A N.length c, .slice B E.length c'])] w w0 := (by rw [hw]; exact ⟨by (first | (simp [Bx, CellsAt, go_sem, *]; done) | (simp [Bx, CellsAt, go_sem, *]; omega)), by (repeat (first | exact kE | exact Ext.refl _ | apply Ext.alloc | apply Ext.drewN | apply Ext.drew | apply Ext.set0 | apply Ext.set1 | apply Ext.set2 | apply Ext.set3 | (refine Ext.setk ?_ (by omega) _) | (apply Ext.snoc; assumption)))⟩); have HT := hide kT; clear hw kT; have kT := HT.out; simp only [Tr, Bx, CellsAt, Nat.reduceAdd, Nat.zero_add, and_true] at kT; obtain ⟨⟨kz0, kf0, kc0_0, kc0_1⟩, kE⟩ := kT
  have HW0 := hide kE
  go_region_held3 (fun w' => (∀ (q o : Nat), q < w0.heap.size → w'.cell? ⟨q, o, none⟩ = w0.cell? ⟨q, o, none⟩) ∧ Ext w0 w') ((apply ExtS; repeat (first | exact kE | exact Ext.refl _ | apply Ext.alloc | apply Ext.drewN | apply Ext.drew | apply Ext.set0 | apply Ext.set1 | apply Ext.set2 | apply Ext.set3 | (refine Ext.setk ?_ (by omega) _) | (apply Ext.snoc; assumption)))) ((first | (go_at_call 47; refine (HFO.out _ (HW0.out.trans (by clear kE; repeat (first | exact kE | exact Ext.refl _ | apply Ext.alloc | apply Ext.drewN | apply Ext.drew | apply Ext.set0 | apply Ext.set1 | apply Ext.set2 | apply Ext.set3 | (refine Ext.setk ?_ (by omega) _) | (apply Ext.snoc; assumption))))).mono ?_; rintro e w3 ⟨A2, c2, rfl, hb3⟩)  |  (go_at_call 64; refine (HOF.out _ (HW0.out.trans (by clear kE; repeat (first | exact kE | exact Ext.refl _ | apply Ext.alloc | apply Ext.drewN | apply Ext.drew | apply Ext.set0 | apply Ext.set1 | apply Ext.set2 | apply Ext.set3 | (refine Ext.setk ?_ (by omega) _) | (apply Ext.snoc; assumption))))).mono ?_; rintro e w5 ⟨rfl, hb5⟩)))
  have HE5 := hide (HW0.out.trans (((Ext.refl w0).drew.trans hb3).trans hb5))
  clear hb3 hb5
  rw [HP.out]
  go_wp2_with fail
  go_ret
  exact ⟨rfl, HE5.out⟩
end Go.Proofs.Ytabgcpoaepafjaa
namespace Go.Proofs.Ytabgcpoaepafjaa

/-- The set of the first k of the numbers F. -/
def setTo (F : Nat → Nat) : Nat → Nat
  | 0 => 0
  | k + 1 => setTo F k ||| 2 ^ F k
theorem setTo_bit {F : Nat → Nat} {j : Nat} : ∀ k, (setTo F k).testBit j = true ↔ ∃ i, i < k ∧ F i = j
  | 0 => by simp [setTo]
  | k + 1 => by
    simp only [setTo]
    rw [or_bit, setTo_bit k]
    constructor
    · rintro (⟨i, h1, h2⟩ | h)
      · exact ⟨i, by omega, h2⟩
      · exact ⟨k, by omega, h⟩
    · rintro ⟨i, h1, h2⟩
      rcases Nat.lt_or_ge i k with h | h
      · exact .inl ⟨i, h, h2⟩
      · have : i = k := by omega
        subst this
        exact .inr h2
theorem setTo_lt {F : Nat → Nat} {n : Nat} : ∀ k, (∀ j, j < k → F j < n) → setTo F k < 2 ^ n
  | 0, _ => Nat.two_pow_pos n
  | k + 1, h => sub_set_lt (setTo_lt k fun j hj => h j (by omega)) (h k (by omega))
theorem memN_nodup (s n : Nat) : (memN s n).Nodup := List.Pairwise.filter _ List.nodup_range
theorem setTo_count {F : Nat → Nat} {n k : Nat} (h : ∀ j, j < k → F j < n) (hd : ∀ j, j < k → ∀ i, i < j → F i ≠ F j) : (memN (setTo F k) n).length = k := by
  have h1 : ((List.range k).map F).Nodup := by
    refine List.pairwise_map.2 (List.Pairwise.imp_of_mem (R := fun a b => a < b) (fun {a b} _ hb hab => ?_) List.pairwise_lt_range)
    exact hd b (List.mem_range.1 hb) a hab
  have h2 : (memN (setTo F k) n).Perm ((List.range k).map F) := by
    refine (List.perm_ext_iff_of_nodup (memN_nodup _ _) h1).2 fun x => ?_
    rw [memN_mem, setTo_bit, List.mem_map]
    constructor
    · rintro ⟨_, i, hi, rfl⟩
      exact ⟨i, List.mem_range.2 hi, rfl⟩
    · rintro ⟨i, hi, rfl⟩
      have := List.mem_range.1 hi
      exact ⟨h i this, i, this, rfl⟩
  rw [h2.length_eq]
  simp
theorem panes_count {n o : Nat} (ho : o < n) : (memN (panesN n o) n).length = n - 1 := by
  have h2 : (memN (panesN n o) n).Perm ((List.range n).erase o) := by
    refine (List.perm_ext_iff_of_nodup (memN_nodup _ _) (List.nodup_range.erase _)).2 fun x => ?_
    rw [memN_mem, panes_bit, List.Nodup.mem_erase_iff List.nodup_range, List.mem_range]
    simp
    omega
  rw [h2.length_eq, List.length_erase_of_mem (List.mem_range.2 ho)]
  simp
/-- The first k numbers are set one by one: each a face, each new, each beside one before it. -/
def StepI (b : Nat → Nat → Bool) (R : Nat → Bool) (F : Nat → Nat) (k : Nat) : Prop := ∀ j, j < k → R j = true ∧ (∀ i, i < j → F i ≠ F j) ∧ (j = 0 ∨ ∃ i, i < j ∧ b (F i) (F j) = true)
def AsmOk (b : Nat → Nat → Bool) (R : Nat → Bool) (F : Nat → Nat) (n o m : Nat) : Prop := m + 1 = n ∧ StepI b R F m ∧ ∀ j, j < m → F j ≠ o
theorem StepI.next {b : Nat → Nat → Bool} {R : Nat → Bool} {F : Nat → Nat} {k : Nat} (h : StepI b R F k) (h1 : R k = true) (h2 : (setTo F k).testBit (F k) = false) (h3 : k = 0 ∨ ∃ i, i < k ∧ b (F i) (F k) = true) : StepI b R F (k + 1) := by
  intro j hj
  rcases Nat.lt_or_ge j k with hlt | hge
  · exact h j hlt
  · have : j = k := by omega
    subst this
    refine ⟨h1, fun i hi e => ?_, h3⟩
    have : (setTo F j).testBit (F j) = true := (setTo_bit j).2 ⟨i, hi, e⟩
    rw [h2] at this
    cases this
theorem asm_no {b : Nat → Nat → Bool} {R : Nat → Bool} {F : Nat → Nat} {n o m k : Nat} (hk : k < m) (h : R k = false ∨ (setTo F k).testBit (F k) = true ∨ F k = o ∨ (k ≠ 0 ∧ ∀ i, i < k → b (F i) (F k) = false)) : ¬ AsmOk b R F n o m := by
  rintro ⟨_, h2, h3⟩
  obtain ⟨g1, g2, g3⟩ := h2 k hk
  rcases h with h | h | h | ⟨h, h'⟩
  · rw [h] at g1; cases g1
  · obtain ⟨i, hi, e⟩ := (setTo_bit k).1 h
    exact g2 i hi e
  · exact h3 k hk h
  · rcases g3 with g3 | ⟨i, hi, e⟩
    · exact h g3
    · rw [h' i hi] at e; cases e
/-- At the end: the set of the faces is the set of the panes just if they are as many, and the outer face is none of them. -/
theorem asm_end {b : Nat → Nat → Bool} {R : Nat → Bool} {F : Nat → Nat} {n o m : Nat} (ho : o < n) (hR : ∀ j, R j = true → F j < n) (h : StepI b R F m) : setTo F m = panesN n o ↔ AsmOk b R F n o m := by
  have hlt : ∀ j, j < m → F j < n := fun j hj => hR j (h j hj).1
  have hc := setTo_count hlt fun j hj => (h j hj).2.1
  have hp := panes_count ho
  constructor
  · intro e
    rw [e, hp] at hc
    refine ⟨by omega, h, fun j hj e2 => ?_⟩
    have h1 : (setTo F m).testBit o = true := (setTo_bit m).2 ⟨j, hj, e2⟩
    rw [e, panes_bit] at h1
    simp at h1
  · rintro ⟨h1, _, h3⟩
    have hsub : Sub (setTo F m) (panesN n o) := fun i hi => by
      obtain ⟨j, hj, rfl⟩ := (setTo_bit m).1 hi
      rw [panes_bit]
      simp [hlt j hj, h3 j hj]
    by_cases e : panesN n o = setTo F m
    · exact e.symm
    · have := bits_count (setTo_lt m hlt) (panes_lt n o) hsub e
      omega
/-- Beside one of the first i. -/
def besideTo (b : Nat → Nat → Bool) (F : Nat → Nat) (k : Nat) : Nat → Bool
  | 0 => decide (k = 0)
  | i + 1 => besideTo b F k i || b (F i) (F k)
theorem besideTo_iff {b : Nat → Nat → Bool} {F : Nat → Nat} {k : Nat} : ∀ i, besideTo b F k i = true ↔ k = 0 ∨ ∃ j, j < i ∧ b (F j) (F k) = true
  | 0 => by simp [besideTo]
  | i + 1 => by
    simp only [besideTo, Bool.or_eq_true]
    rw [besideTo_iff i]
    constructor
    · rintro ((h | ⟨j, h1, h2⟩) | h)
      · exact .inl h
      · exact .inr ⟨j, by omega, h2⟩
      · exact .inr ⟨i, by omega, h⟩
    · rintro (h | ⟨j, h1, h2⟩)
      · exact .inl (.inl h)
      · rcases Nat.lt_or_ge j i with q | q
        · exact .inl (.inr ⟨j, q, h2⟩)
        · have : j = i := by omega
          subst this
          exact .inr h2
theorem near_ne {b : Nat → Nat → Bool} {F nf : Nat → Nat} {k : Nat} (hb : ∀ a c, b a c = b c a) (hn : ∀ f g, (nf f).testBit g = b f g) : nf (F k) &&& setTo F k ≠ 0 ↔ ∃ i, i < k ∧ b (F i) (F k) = true := by
  rw [and_ne]
  constructor
  · rintro ⟨j, h1, h2⟩
    obtain ⟨i, hi, rfl⟩ := (setTo_bit k).1 h2
    rw [hn, hb] at h1
    exact ⟨i, hi, h1⟩
  · rintro ⟨i, hi, h⟩
    exact ⟨F i, by rw [hn, hb]; exact h, (setTo_bit k).2 ⟨i, hi, rfl⟩⟩
end Go.Proofs.Ytabgcpoaepafjaa
namespace Go.Proofs.Ytabgcpoaepafjaa
open Go.RowKit

/-- The table f with one place changed. -/
def updB (f : Nat → Nat → Bool) (i j : Nat) (v : Bool) : Nat → Nat → Bool := fun a b => if a = i ∧ b = j then v else f a b
theorem updB_same (f : Nat → Nat → Bool) (i j : Nat) (v : Bool) : updB f i j v i j = v := by simp [updB]
theorem updB_ne (f : Nat → Nat → Bool) (i j : Nat) (v : Bool) {a b : Nat} (h : a ≠ i ∨ b ≠ j) : updB f i j v a b = f a b := by
  unfold updB
  rw [if_neg (by omega)]
/-- A row of bools. -/
def rowB (n : Nat) (f : Nat → Bool) : List Value := (List.range n).map fun j => Value.bool (f j)
theorem rowB_get {n j : Nat} (f : Nat → Bool) (h : j < n) : (rowB n f)[j]? = some (.bool (f j)) := by simp [rowB, h]
theorem rowB_length (n : Nat) (f : Nat → Bool) : (rowB n f).length = n := by simp [rowB]
theorem rowB_set {n j : Nat} (f : Nat → Bool) (v : Bool) (h : j < n) : (rowB n f).set j (.bool v) = rowB n (fun k => if k = j then v else f k) := by
  apply List.ext_getElem?
  intro k
  by_cases hk : k = j
  · subst hk
    rw [List.getElem?_set_self (by rw [rowB_length]; exact h), rowB_get _ h]
    simp
  · rw [List.getElem?_set_ne (fun e => hk e.symm)]
    by_cases hkn : k < n
    · rw [rowB_get _ hkn, rowB_get _ hkn]
      simp [hk]
    · rw [List.getElem?_eq_none (by rw [rowB_length]; omega), List.getElem?_eq_none (by rw [rowB_length]; omega)]
theorem rowB_zero (n : Nat) : List.replicate n (Value.bool false) = rowB n (fun _ => false) := by
  apply List.ext_getElem?
  intro k
  by_cases hkn : k < n
  · rw [rowB_get _ hkn]
    simp [hkn]
  · rw [List.getElem?_eq_none (by simp; omega), List.getElem?_eq_none (by rw [rowB_length]; omega)]
/-- Block hd holds n headers at least; the first n rows, of n bools each, read as f; all blocks lie below U. -/
def MatB (w : World) (B U hd n : Nat) (Th Te : TypeId) (f : Nat → Nat → Bool) : Prop :=
  ∃ (G : Nat → Nat) (hs : List Value), B ≤ hd ∧ hd < U ∧ Blk w hd Th hs ∧ n ≤ hs.length ∧ (∀ i, i < n → hs[i]? = some (.slice (some ⟨G i, 0, none⟩) n n) ∧ B ≤ G i ∧ G i < U ∧ G i ≠ hd ∧ Blk w (G i) Te (rowB n (f i))) ∧ (∀ i j, i < n → j < n → G i = G j → i = j)
section
variable {w w' : World} {B U hd n : Nat} {Th Te : TypeId} {f f' : Nat → Nat → Bool}
theorem MatB.ext (h : MatB w B U hd n Th Te f) (hE : Ext w w') : MatB w' B U hd n Th Te f := by
  obtain ⟨G, hs, h1, h0, h2, h3, h5, h6⟩ := h
  exact ⟨G, hs, h1, h0, h2.ext hE, h3, fun i hi => ⟨(h5 i hi).1, (h5 i hi).2.1, (h5 i hi).2.2.1, (h5 i hi).2.2.2.1, (h5 i hi).2.2.2.2.ext hE⟩, h6⟩
theorem MatB.mono {B' U' : Nat} (h : MatB w B U hd n Th Te f) (hB : B' ≤ B) (hU : U ≤ U') : MatB w B' U' hd n Th Te f := by
  obtain ⟨G, hs, h1, h0, h2, h3, h5, h6⟩ := h
  exact ⟨G, hs, by omega, by omega, h2, h3, fun i hi => ⟨(h5 i hi).1, Nat.le_trans hB (h5 i hi).2.1, Nat.lt_of_lt_of_le (h5 i hi).2.2.1 hU, (h5 i hi).2.2.2⟩, h6⟩
theorem MatB.lt (h : MatB w B U hd n Th Te f) : B ≤ hd ∧ hd < U ∧ hd < w.heap.size := by
  obtain ⟨G, hs, h1, h0, h2, _⟩ := h
  exact ⟨h1, h0, h2.lt⟩
/-- A place of the table: its header, its cell, and what a store there leaves. -/
theorem MatB.at_ (h : MatB w B U hd n Th Te f) {i j : Nat} (hi : i < n) (hj : j < n) : ∃ g, w.cell? ⟨hd, i, none⟩ = some (.slice (some ⟨g, 0, none⟩) n n) ∧ w.cell? ⟨g, j, none⟩ = some (.bool (f i j)) ∧ w.frozen? ⟨g, j, none⟩ = false ∧
    B ≤ g ∧ g < U ∧ g < w.heap.size ∧ ∀ v, MatB (w.setCell ⟨g, j, none⟩ (.bool v)) B U hd n Th Te (updB f i j v) := by
  obtain ⟨G, hs, h1, h0, h2, h3, h5, h6⟩ := h
  obtain ⟨e1, e2, e0, e3, e4⟩ := h5 i hi
  refine ⟨G i, by rw [h2.cell, e1], by rw [e4.cell, rowB_get _ hj], e4.free _, e2, e0, e4.lt, fun v => ?_⟩
  refine ⟨G, hs, h1, h0, h2.other (fun e => e3 e.symm) _, h3, fun k hk => ⟨(h5 k hk).1, (h5 k hk).2.1, (h5 k hk).2.2.1, (h5 k hk).2.2.2.1, ?_⟩, h6⟩
  by_cases hki : k = i
  · subst hki
    have := e4.set j (.bool v)
    rw [rowB_set _ _ hj] at this
    have e : (fun b => if b = j then v else f k b) = updB f k j v k := by
      funext b
      simp [updB]
    rw [← e]
    exact this
  · have e : f k = updB f i j v k := by
      funext b
      rw [updB_ne _ _ _ _ (.inl hki)]
    rw [← e]
    exact (h5 k hk).2.2.2.2.other (fun e => hki (h6 k i hk hi e)) _
end
/-- A row of k headers that grows, each header's row of n zeros in a block of its own. -/
def HdrB (w : World) (B : Nat) (v : Value) (k n : Nat) (Th Te : TypeId) : Prop :=
  ∃ G : Nat → Nat, w.ownsRow B Th 1 v k ((List.range k).map fun i => Value.slice (some ⟨G i, 0, none⟩) n n) ∧ (∀ i, i < k → B ≤ G i ∧ v.ownBlock ≠ some (G i) ∧ Blk w (G i) Te (List.replicate n (Value.bool false))) ∧ ∀ i j, i < k → j < k → G i = G j → i = j
theorem HdrB.step {w w2 w4 : World} {B k n g : Nat} {v v' : Value} {Th Te : TypeId} {G : Nat → Nat} (h1 : w.ownsRow B Th 1 v k ((List.range k).map fun i => Value.slice (some ⟨G i, 0, none⟩) n n)) (h2 : ∀ i, i < k → B ≤ G i ∧ v.ownBlock ≠ some (G i) ∧ Blk w (G i) Te (List.replicate n (Value.bool false))) (h3 : ∀ i j, i < k → j < k → G i = G j → i = j) (hE : Ext w w2) (hg : g = w.heap.size) (hB : B ≤ w.heap.size) (hb : Blk w2 g Te (List.replicate n (Value.bool false)))
    (hgr : (w2.alloc (.cells #[Value.slice (some ⟨g, 0, none⟩) n n] Th)).grownBy w4 v.ownBlock) (hv : v'.ownBlock = v.ownBlock ∨ v'.ownBlock = some (w2.alloc (.cells #[Value.slice (some ⟨g, 0, none⟩) n n] Th)).heap.size)
    (how : w4.ownsRow B Th 1 v' (k + 1) ((List.range k).map (fun i => Value.slice (some ⟨G i, 0, none⟩) n n) ++ [Value.slice (some ⟨g, 0, none⟩) n n])) : HdrB w4 B v' (k + 1) n Th Te := by
  have hlt : ∀ i, i < k → G i < w.heap.size := fun i hi => (h2 i hi).2.2.lt
  have hgl := hb.lt
  have hsz := hE.size
  have hne : ∀ x, x < w2.heap.size → v.ownBlock ≠ some x → v'.ownBlock ≠ some x := by
    intro x hx hn e
    rcases hv with e' | e'
    · rw [e'] at e
      exact hn e
    · rw [e'] at e
      injection e with e
      simp at e
      omega
  have hvg : v.ownBlock ≠ some g := by
    intro e
    have := (h1.lt g e).2
    omega
  refine ⟨fun i => if i = k then g else G i, ?_, fun i hi => ?_, fun i j hi hj e => ?_⟩
  · have := how
    have e : (List.range (k + 1)).map (fun i => Value.slice (some ⟨if i = k then g else G i, 0, none⟩) n n) = (List.range k).map (fun i => Value.slice (some ⟨G i, 0, none⟩) n n) ++ [Value.slice (some ⟨g, 0, none⟩) n n] := by
      rw [List.range_succ, List.map_append]
      congr 1
      · apply List.map_congr_left
        intro i hi
        have := List.mem_range.1 hi
        rw [if_neg (by omega)]
      · simp
    rw [e]
    exact this
  · by_cases hik : i = k
    · subst hik
      simp only [if_true]
      exact ⟨by omega, hne g hgl hvg, (hb.ext ((Ext.refl _).alloc _)).grown hgr hvg⟩
    · simp only [hik, if_false]
      obtain ⟨e1, e2, e3⟩ := h2 i (by omega)
      exact ⟨e1, hne _ (Nat.lt_of_lt_of_le e3.lt hsz) e2, ((e3.ext hE).ext ((Ext.refl _).alloc _)).grown hgr e2⟩
  · have a1 := hlt i
    have a2 := hlt j
    have a3 := h3 i j
    by_cases hik : i = k <;> by_cases hjk : j = k <;> simp [hik, hjk] at e <;> omega
theorem HdrB.mat {w : World} {B k : Nat} {v : Value} {Th Te : TypeId} (h : HdrB w B v k k Th Te) (hk : 0 < k) : ∃ hd c, v = .slice (some ⟨hd, 0, none⟩) k c ∧ k ≤ c ∧ MatB w B w.heap.size hd k Th Te (fun _ _ => false) := by
  obtain ⟨G, h1, h2, h3⟩ := h
  obtain ⟨A, c, rfl, hc, h4, h5⟩ := own_slice h1
  cases A with
  | none => exact absurd (h4 rfl) (by omega)
  | some a =>
    obtain ⟨g, rfl, h6, h7, h8⟩ := h5 a rfl
    obtain ⟨cs, b1, b2, b3, b4⟩ := Blk.of_own h1
    refine ⟨g, c, rfl, hc, G, cs, h6, h7, b1, by omega, fun i hi => ?_, h3⟩
    obtain ⟨e1, e2, e3⟩ := h2 i hi
    refine ⟨?_, e1, e3.lt, fun e => e2 (by rw [h8, e]), ?_⟩
    · have : (cs.take (k * 1))[i]? = some (Value.slice (some ⟨G i, 0, none⟩) k k) := by rw [b2]; simp [hi]
      rw [List.getElem?_take_of_lt (by omega)] at this
      exact this
    · rw [← rowB_zero]
      exact e3
end Go.Proofs.Ytabgcpoaepafjaa
namespace Go.Proofs.Ytabgcpoaepafjaa
open Go.RowKit

theorem bes_step {s : Nat → Nat} {k : Nat} (hne : s (2 * k) ≠ s (2 * k + 1)) : updB (updB (besTo s k) (s (2 * k)) (s (2 * k + 1)) true) (s (2 * k + 1)) (s (2 * k)) true = besTo s (k + 1) := by
  funext a b
  simp only [updB, besTo]
  by_cases h1 : a = s (2 * k + 1) ∧ b = s (2 * k)
  · rw [if_pos h1]
    simp [hne, h1.1, h1.2]
  · rw [if_neg h1]
    by_cases h2 : a = s (2 * k) ∧ b = s (2 * k + 1)
    · rw [if_pos h2]
      simp [hne, h2.1, h2.2]
    · rw [if_neg h2]
      have e1 : (decide (a = s (2 * k + 1)) && decide (b = s (2 * k))) = false := by rw [← Bool.decide_and, decide_eq_false h1]
      have e2 : (decide (a = s (2 * k)) && decide (b = s (2 * k + 1))) = false := by rw [← Bool.decide_and, decide_eq_false h2]
      rw [e1, e2]
      simp
theorem bes_same {s : Nat → Nat} {k : Nat} (he : s (2 * k) = s (2 * k + 1)) : besTo s k = besTo s (k + 1) := by
  funext a b
  simp [besTo, he]
theorem made_falses (n : Nat) : (madeCells (Value.bool false).cells (n * 1)).toList = List.replicate n (Value.bool false) := by
  rw [Nat.mul_one]
  exact toList_madeCells_one _ _
theorem rowb_info : (Try.prog.info? 66).map (fun i => (i.zero, i.size, i.bytes)) = some (some (.slice none 0 0), 1, 24) := by kernel_rfl
theorem matTop {w : World} {B U hd n : Nat} {Th Te : TypeId} {f : Nat → Nat → Bool} (h : MatB w B U hd n Th Te f) : MatB w B w.heap.size hd n Th Te f := by
  obtain ⟨G, hs, h1, h0, h2, h3, h5, h6⟩ := h
  exact ⟨G, hs, h1, h2.lt, h2, h3, fun i hi => ⟨(h5 i hi).1, (h5 i hi).2.1, (h5 i hi).2.2.2.2.lt, (h5 i hi).2.2.2⟩, h6⟩
theorem matSetk {w : World} {B U hd n k i : Nat} {u : Value} {Th Te : TypeId} {f : Nat → Nat → Bool} (h : MatB w B U hd n Th Te f) (hk : U ≤ k) : MatB (w.setCell ⟨k, i, none⟩ u) B U hd n Th Te f := by
  obtain ⟨G, hs, h1, h0, h2, h3, h5, h6⟩ := h
  exact ⟨G, hs, h1, h0, h2.other (by omega) _, h3, fun j hj => ⟨(h5 j hj).1, (h5 j hj).2.1, (h5 j hj).2.2.1, (h5 j hj).2.2.2.1, (h5 j hj).2.2.2.2.other (by have := (h5 j hj).2.2.1; omega) _⟩, h6⟩
set_option maxRecDepth 20000 in
set_option maxHeartbeats 4000000 in
theorem l13Beside_any (N E : List P2) (A B : Option Addr) (c c' : Nat) (w : World) (hw : WR w N E A B c c') (hwh : wholeB N E = true) :
    Calls Try.prog 63 #[.agg #[.slice A N.length c, .slice B E.length c']] w fun e w' => ∃ hd c2 U, e = .returned (.slice (some ⟨hd, 0, none⟩) (fcs N E).length c2) ∧ MatB w' w.heap.size U hd (fcs N E).length 66 4 (besTo (sd N E) E.length) ∧ Ext w w' := by
  obtain ⟨i0, hi, hz0, hz1, hz2⟩ := info_parts rowb_info
  obtain ⟨j0, hj, hy0, hy1, hy2⟩ := info_parts bool_info
  have HW := hide hw
  have hm := (wholeB_iff.1 hwh).1.m
  have hsd := sd_lt hwh
  have hl40 := fcs_len (N := N) (E := E)
  have hpos := (fcs_facts hwh).1
  have HFA := hide (fun (W : World) (hE : Ext w W) => l09Sides_any N E A B c c' W (hw.ext hE) hwh)
  have HFO := hide (fun (W : World) (hE : Ext w W) => (sFacesOf_any N E A B c c' W (hw.ext hE)).mono (R' := fun e w' => ∃ A2 c2, e = .returned (.slice A2 (fcs N E).length c2) ∧ Ext W w') (by rintro e w' ⟨A2, c2, h1, _, _, h2⟩; exact ⟨A2, c2, h1, h2⟩))
  obtain ⟨n, hn⟩ : ∃ n, (fcs N E).length = n := ⟨_, rfl⟩
  obtain ⟨s, hs⟩ : ∃ s, sd N E = s := ⟨_, rfl⟩
  rw [hn] at hsd hl40 hpos HFO ⊢
  rw [hs] at hsd HFA ⊢
  have HSD := hide hsd
  clear hw hwh hn hs hsd
  
  go_enter Try.func63, Try.ntmps63
  go_wp2_with fail
  obtain ⟨w0, hw⟩ : ∃ w1, w1 = w.alloc (Obj.cells #[Value.slice A N.length c, Value.slice B E.length c'] 27) := ⟨_, rfl⟩; rw [← hw]; have kT : Tr [(w.heap.size, [.slice A N.length c, .slice B E.length c'])] w w0 := (by rw [hw]; exact ⟨by (first | (simp [Bx, CellsAt, go_sem, *]; done) | (simp [Bx, CellsAt, go_sem, *]; omega)), by (repeat (first | exact kE | exact Ext.refl _ | apply Ext.alloc | apply Ext.drewN | apply Ext.drew | apply Ext.set0 | apply Ext.set1 | apply Ext.set2 | apply Ext.set3 | (refine Ext.setk ?_ (by omega) _) | (apply Ext.snoc; assumption)))⟩); have HT := hide kT; clear hw kT; have kT := HT.out; simp only [Tr, Bx, CellsAt, Nat.reduceAdd, Nat.zero_add, and_true] at kT; obtain ⟨⟨kz0, kf0, kc0_0, kc0_1⟩, kE⟩ := kT
  refine (HFO.out _ kE).mono ?_
  rintro e w2 ⟨A2, c2, rfl, hb2⟩
  have HT' := hide (HT.out.ext hb2)
  clear hb2 HT
  have HT := HT'
  clear HT'
  clear kz0 kf0 kc0_0 kc0_1 kE
  have kT := HT.out; simp only [Tr, Bx, CellsAt, Nat.reduceAdd, Nat.zero_add, and_true] at kT; obtain ⟨⟨kz0, kf0, kc0_0, kc0_1⟩, kE⟩ := kT
  have HW2 := hide kE
  go_wp2_with fail
  have hO := World.ownsRow_lit (base := w2.heap.size) (e := 66) (size := 1) w2 #[] 0 (Nat.le_refl _) (Nat.zero_le _) rfl
  have HO := hide hO
  clear hO
  have HTZ := HT
  clear kz0 kf0 kc0_0 kc0_1 kE
  clear HT
  go_loopw [4, 5] (fun v i wr => ∃ k : Nat, k ≤ n ∧ i = .int .i64 k ∧ Hid (HdrB wr w2.heap.size v k n 66 4) ∧ Hid (Ext w2 wr)) (fun _ i _ => n - (intOf i).toNat)
  case atStart => exact ⟨0, Nat.zero_le _, rfl, hide ⟨fun _ => 0, by simpa using HO.out, fun i hi => absurd hi (Nat.not_lt_zero i), fun i j hi => absurd hi (Nat.not_lt_zero i)⟩, hide ((Ext.refl _).alloc _)⟩
  case round =>
    clear HO
    obtain ⟨k, hk, rfl, HH, HE⟩ := hrel
    have hsz : w2.heap.size ≤ wr.heap.size := HE.out.size
    by_cases hlt : k < n
    · have hlz : (k : Int) < (n : Int) := by omega
      obtain ⟨G, h1, h2, h3⟩ := HH.out
      have H1 := hide h1
      have H2 := hide h2
      have H3 := hide h3
      clear h1 h2 h3
      go_wp2_with (first | (at_make; refine wpList_make_full _ rfl _ _ 66 rfl w2.heap.size 4 j0 (.bool false) 1 Try.underlying66 hj hy0 hy1 .i64 .i64 n n n rfl rfl (by omega) (by omega) (by rw [hy2]; omega) (by unfold maxLen; omega) (by omega) ?_; intro w3 hown hgrow; have hX2 := grown_ext hgrow; have HX2 := hide hX2; have hs2 := hX2.size; clear hX2) | (at_builtin; refine wpList_append_own_at _ rfl _ _ 69 rfl w2.heap.size 66 i0 (.slice none 0 0) 1 24 Try.underlying69 hi hz0 hz1 hz2 rfl (by decide) u4 _ _ rfl (own_ext H1.out (HX2.out.alloc _)) ⟨w3.heap.size, 0, none⟩ 1 1 [Value.slice (some ⟨wr.heap.size, 0, none⟩) n n] rfl rfl (news_new _ #[Value.slice (some ⟨wr.heap.size, 0, none⟩) n n] _) (by intro u hu; simp at hu; subst hu; rfl) (by unfold maxLen; omega) (by omega) (by simp; omega) ?_; intro v' w4 hown4 hgrow4 hnil hblk))
      rw [made_falses] at hown
      have R := HdrB.step H1.out H2.out H3.out HX2.out rfl hsz (Blk.of_full hown) hgrow4 hblk hown4
      have E4 := Ext.grown ((HE.out.trans HX2.out).alloc _) hgrow4 (own_base H1.out (Nat.le_refl _))
      clear hown hgrow hown4 hgrow4 hnil hblk
      go_roundw
      case rel => exact ⟨k + 1, by omega, by go_num, hide R, hide E4⟩
      case measure => simp [intOf]; omega
    · obtain rfl : n = k := by omega
      obtain ⟨hd, ch, rfl, hch, hmat⟩ := HH.out.mat (by omega)
      have HM := hide hmat
      clear hmat HH
      have HT := hide (HTZ.out.ext HE.out)
      have kT := HT.out; simp only [Tr, Bx, CellsAt, Nat.reduceAdd, Nat.zero_add, and_true] at kT; obtain ⟨⟨kz0, kf0, kc0_0, kc0_1⟩, kE⟩ := kT
      have HE2 := HE
      go_wp2_with fail
      refine (HFA.out _ kE).mono ?_
      rintro e w5 ⟨ga, ca, rfl, hat, hb5⟩
      have HAT := hide hat
      have HM5 := hide (HM.out.ext hb5)
      have HE5 := hide (HE2.out.trans hb5)
      have hU : wr.heap.size ≤ w5.heap.size := hb5.size
      clear hat hb5 HM HE HE2
      clear kz0 kf0 kc0_0 kc0_1 kE
      clear HT
      obtain ⟨U, hU0⟩ : ∃ U, wr.heap.size = U := ⟨_, rfl⟩
      rw [hU0] at HAT HM5 hU
      clear hU0
      have HT := hide (HTZ.out.ext HE5.out)
      have kT := HT.out; simp only [Tr, Bx, CellsAt, Nat.reduceAdd, Nat.zero_add, and_true] at kT; obtain ⟨⟨kz0, kf0, kc0_0, kc0_1⟩, kE⟩ := kT
      go_wp2_with fail
      clear kz0 kf0 kc0_0 kc0_1 kE
      clear HT
      go_loopw [7] (fun i wi => ∃ k : Nat, k ≤ E.length ∧ i = .int .i64 k ∧ Hid (MatB wi w2.heap.size U hd n 66 4 (besTo s k)) ∧ Hid (wi.ownsRow U 3 1 (.slice (some ⟨ga, 0, none⟩) (2 * E.length) ca) (2 * E.length) (rowOf (2 * E.length) (fun d => ((s d : Nat) : Int)))) ∧ Hid (Ext w2 wi)) (fun i _ => E.length - (intOf i).toNat)
      case atStart => exact ⟨0, Nat.zero_le _, rfl, HM5, HAT, HE5⟩
      case round =>
        clear HM5 HAT HE5
        obtain ⟨k, hk, rfl, HM, HAT, HE⟩ := hrel
        have HT := hide (HTZ.out.ext HE.out)
        have kT := HT.out; simp only [Tr, Bx, CellsAt, Nat.reduceAdd, Nat.zero_add, and_true] at kT; obtain ⟨⟨kz0, kf0, kc0_0, kc0_1⟩, kE⟩ := kT
        by_cases hlt : k < E.length
        · have hlz : (k : Int) < (E.length : Int) := by omega
          have hat := HAT.out
          obtain ⟨i1, hi1⟩ : ∃ i1, i1 = 2 * k := ⟨_, rfl⟩
          obtain ⟨i2, hi2⟩ : ∃ i2, i2 = 2 * k + 1 := ⟨_, rfl⟩
          have ca1 := own_cellR hat (k := i1) (by omega)
          have ca2 := own_cellR hat (k := i2) (by omega)
          have y1 : (2 * (k : Int)).toNat = i1 := by omega
          have y2 : (2 * (k : Int) + 1).toNat = i2 := by omega
          have y3 : (0 : Int) ≤ 2 * (k : Int) := by omega
          have y4 : (0 : Int) ≤ 2 * (k : Int) + 1 := by omega
          have y5 : 2 * (k : Int) + 1 < 2 * (E.length : Int) := by omega
          have y8 : 2 * (k : Int) < 2 * (E.length : Int) := by omega
          have y6 : IntKind.i64.wrap (2 * (k : Int)) = 2 * (k : Int) := by rw [IntKind.wrap_i64]; omega
          have y7 : IntKind.i64.wrap (2 * (k : Int) + 1) = 2 * (k : Int) + 1 := by rw [IntKind.wrap_i64]; omega
          have hs1 := HSD.out i1
          have hs2 := HSD.out i2
          have HST := hide (bes_step (s := s) (k := k))
          have HSM := hide (bes_same (s := s) (k := k))
          rw [← hi2, ← hi1] at HST HSM
          obtain ⟨a, ha⟩ : ∃ a, s i1 = a := ⟨_, rfl⟩
          obtain ⟨b, hb⟩ : ∃ b, s i2 = b := ⟨_, rfl⟩
          rw [ha] at ca1 hs1 HST HSM
          rw [hb] at ca2 hs2 HST HSM
          clear hi1 hi2 hat ha hb
          by_cases hab : a = b
          · have t1 : ((a : Int) != (b : Int)) = false := by simp [hab]
            have t2 : (a != b) = false := by simp [hab]
            have t3 : ((a : Int) == (b : Int)) = true := by simp [hab]
            have t4 : (a == b) = true := by simp [hab]
            have HAB := hide hab
            clear hab
            go_wp2_with fail
            go_roundw
            case rel => exact ⟨k + 1, by omega, by go_num, hide (by rw [← HSM.out HAB.out]; exact HM.out), HAT, HE⟩
            case measure => simp [intOf]; omega
          · have t1 : ((a : Int) != (b : Int)) = true := by simp [hab]; omega
            have t2 : (a != b) = true := by simp [hab]
            have t3 : ((a : Int) == (b : Int)) = false := by simp; omega
            have t4 : (a == b) = false := by simp [hab]
            have z1 : (a : Int) < (n : Int) := by omega
            have z2 : (b : Int) < (n : Int) := by omega
            have HAB := hide hab
            clear hab
            obtain ⟨g1, m1, m2, m3, m4, m5, m6, m7⟩ := HM.out.at_ hs1 hs2
            have HM6 := hide (m7 true)
            obtain ⟨g2, p1, p2, p3, p4, p5, p6, p7⟩ := HM6.out.at_ hs2 hs1
            have HM7 := hide (p7 true)
            have HA7 := hide (ownsRow_setCell_below (ownsRow_setCell_below HAT.out (a := ⟨g1, b, none⟩) m5 (.bool true)) (a := ⟨g2, a, none⟩) p5 (.bool true))
            have HE7 := hide ((HE.out.setk m4 (.bool true) (o := b) (s := none)).setk p4 (.bool true) (o := a) (s := none))
            clear m7 p7
            obtain ⟨u2, p2⟩ : ∃ u2, (wr.setCell ⟨g1, b, none⟩ (.bool true)).cell? ⟨g2, a, none⟩ = some u2 := ⟨_, p2⟩
            go_wp2_with fail
            rw [HST.out HAB.out] at HM7
            obtain ⟨w8, hw8⟩ : ∃ w8, w8 = (wr.setCell ⟨g1, b, none⟩ (.bool true)).setCell ⟨g2, a, none⟩ (.bool true) := ⟨_, rfl⟩
            rw [← hw8] at HM7 HA7 HE7 ⊢
            clear hw8
            go_roundw
            case rel => exact ⟨k + 1, by omega, by go_num, HM7, HA7, HE7⟩
            case measure => simp [intOf]; omega
        · obtain rfl : k = E.length := by omega
          go_wp2_with fail
          go_ret
          exact ⟨hd, _, U, rfl, HM.out.mono HW2.out.size (Nat.le_refl _), HW2.out.trans HE.out⟩
end Go.Proofs.Ytabgcpoaepafjaa
namespace Go.Proofs.Ytabgcpoaepafjaa
open Go.RowKit

/-- A set of panes that hang together. -/
noncomputable def joinedI (N E : List P2) (set : Int) : Bool := decide (1 ≤ (fcs N E).length) && (decide ((fcs N E).length ≤ 20) && (inR set 1 ((2 ^ (fcs N E).length - 1 : Nat) : Int) && (!set.toNat.testBit (oN N E) && joinedB (besTo (sd N E) E.length) set.toNat (fcs N E).length)))
theorem and_neg {s n : Nat} (h0 : s ≠ 0) (h : s < 2 ^ n) (hn : n ≤ 60) : bits .and .i64 (s : Int) (IntKind.i64.wrap (-(s : Int))) = ((2 ^ lowOf s n : Nat) : Int) := by
  have hp : 2 ^ n ≤ 2 ^ 60 := Nat.pow_le_pow_right (by decide) hn
  have hl := (low_facts n s h0 h).2.1
  have hl2 : 2 ^ lowOf s n < 2 ^ n := Nat.pow_lt_pow_right (by decide) hl
  have e : (BitVec.ofInt 64 (s : Int) &&& BitVec.ofInt 64 (IntKind.i64.wrap (-(s : Int)))).toNat = 2 ^ lowOf s n := by
    rw [← low_bit h0 h (by omega), BitVec.toNat_and]
    congr 1
    · rw [BitVec.ofInt_natCast, BitVec.toNat_ofNat, Nat.mod_eq_of_lt (by omega)]
    · rw [BitVec.toNat_ofInt, IntKind.wrap_i64]
      omega
  show IntKind.i64.wrap ((BitVec.ofInt 64 (s : Int) &&& BitVec.ofInt 64 (IntKind.i64.wrap (-(s : Int)))).toNat : Nat) = _
  rw [e, IntKind.wrap_i64]
  omega
/-- A set lies in the set of panes just if it has not the outer face. -/
theorem panes_sub {n o s : Nat} (hs : s < 2 ^ n) : (s ^^^ (s &&& panesN n o) = 0) ↔ s.testBit o = false := by
  constructor
  · intro h
    have := congrArg (fun x => Nat.testBit x o) h
    simpa [panes_bit] using this
  · intro h
    refine Nat.eq_of_testBit_eq fun i => ?_
    rw [Nat.testBit_xor, Nat.testBit_and, panes_bit, Nat.zero_testBit]
    cases hb : s.testBit i with
    | false => rfl
    | true =>
      have h1 := bit_lt hs hb
      have h2 : i ≠ o := fun e => by rw [e, h] at hb; cases hb
      simp [h1, h2]
theorem in_nat {set : Int} {P : Nat} (h : inR set 1 ((P - 1 : Nat) : Int) = true) : ∃ s : Nat, set = (s : Nat) ∧ s ≠ 0 ∧ s < P := by
  simp [inR] at h
  exact ⟨set.toNat, by omega, by omega, by omega⟩
theorem int_beq (a b : Nat) : ((a : Int) == (b : Int)) = (a == b) := by rw [Bool.eq_iff_iff]; simp; omega
set_option maxRecDepth 20000 in
set_option maxHeartbeats 4000000 in
theorem AreJoined_any (N E : List P2) (A B : Option Addr) (c c' : Nat) (set : Int) (w : World) (hw : WR w N E A B c c') :
    Calls Try.prog 25 #[.agg #[.slice A N.length c, .slice B E.length c'], .int .i64 set] w fun e w' => e = .returned (.bool (joinedI N E set)) ∧ Ext w w' := by
  have HFO := hide (fun (W : World) (hE : Ext w W) => (FacesOf_any N E A B c c' W (hw.ext hE)).mono (R' := fun e w' => ∃ A2 c2, e = .returned (.slice A2 (fcs N E).length c2) ∧ Ext W w') (by rintro e w' ⟨A2, c2, h1, _, _, _, _, h2⟩; exact ⟨A2, c2, h1, h2⟩))
  have HPS := hide (fun (hwh : wholeB N E = true) (W : World) (hE : Ext w W) => paneSet_any N E A B c c' W (hw.ext hE) hwh)
  have HNB := hide (fun (hwh : wholeB N E = true) (W : World) (hE : Ext w W) => neighbors_any N E A B c c' W (hw.ext hE) hwh)
  have HWH := hide (fcs_whole (N := N) (E := E))
  have HOL := hide (fun (hwh : wholeB N E = true) => (outer_nat hwh).2)
  have hl40 := fcs_len (N := N) (E := E)
  obtain ⟨n, hn⟩ : ∃ n, (fcs N E).length = n := ⟨_, rfl⟩
  obtain ⟨o, ho⟩ : ∃ o, oN N E = o := ⟨_, rfl⟩
  obtain ⟨v, hv⟩ : ∃ v, joinedI N E set = v := ⟨_, rfl⟩
  rw [hn] at hl40 HFO HPS HNB HWH HOL
  have HVAL := hide (show v = (decide (1 ≤ n) && (decide (n ≤ 20) && (inR set 1 ((2 ^ n - 1 : Nat) : Int) && (!set.toNat.testBit o && joinedB (besTo (sd N E) E.length) set.toNat n)))) by rw [← hv, ← hn, ← ho]; rfl)
  rw [ho] at HPS HOL
  have HSD := hide (fun (hwh : wholeB N E = true) (d : Nat) => (show sd N E d < n by rw [← hn]; exact sd_lt hwh d))
  rw [hv]
  clear hw hn ho hv
  
  go_enter Try.func25, Try.ntmps25
  go_wp2_with fail
  obtain ⟨w0, hw⟩ : ∃ w1, w1 = w.alloc (Obj.cells #[Value.slice A N.length c, Value.slice B E.length c'] 27) := ⟨_, rfl⟩; rw [← hw]; have kT : Tr [(w.heap.size, [.slice A N.length c, .slice B E.length c'])] w w0 := (by rw [hw]; exact ⟨by (first | (simp [Bx, CellsAt, go_sem, *]; done) | (simp [Bx, CellsAt, go_sem, *]; omega)), by (repeat (first | exact kE | exact Ext.refl _ | apply Ext.alloc | apply Ext.drewN | apply Ext.drew | apply Ext.set0 | apply Ext.set1 | apply Ext.set2 | apply Ext.set3 | (refine Ext.setk ?_ (by omega) _) | (apply Ext.snoc; assumption)))⟩); have HT := hide kT; clear hw kT; have kT := HT.out; simp only [Tr, Bx, CellsAt, Nat.reduceAdd, Nat.zero_add, and_true] at kT; obtain ⟨⟨kz0, kf0, kc0_0, kc0_1⟩, kE⟩ := kT
  refine (HFO.out _ kE).mono ?_
  rintro e w2 ⟨A2, c2, rfl, hb2⟩
  have HT' := hide (HT.out.ext hb2)
  clear hb2 HT
  have HT := HT'
  clear HT'
  clear kz0 kf0 kc0_0 kc0_1 kE
  have kT := HT.out; simp only [Tr, Bx, CellsAt, Nat.reduceAdd, Nat.zero_add, and_true] at kT; obtain ⟨⟨kz0, kf0, kc0_0, kc0_1⟩, kE⟩ := kT
  have HW2 := hide kE
  by_cases h0 : n = 0
  · subst h0
    have HV := hide (show v = false by rw [HVAL.out]; rfl)
    go_wp2_with fail
    go_ret
    exact ⟨ret_bool HV.out.symm, HW2.out⟩
  have HN0 := hide h0
  have t1 : ((n : Int) == 0) = false := by simp; omega
  have t1' : (n == 0) = false := by simp; omega
  clear h0
  by_cases h20 : 20 < n
  · have HV := hide (show v = false by rw [HVAL.out, decide_eq_false (show ¬ n ≤ 20 by omega)]; simp)
    have t2 : decide ((n : Int) > 20) = true := decide_eq_true (by omega)
    have t3 : decide (n > 20) = true := decide_eq_true (by omega)
    go_wp2_with fail
    go_ret
    exact ⟨ret_bool HV.out.symm, HW2.out⟩
  have t2 : decide ((n : Int) > 20) = false := decide_eq_false (by omega)
  have t3 : decide (n > 20) = false := decide_eq_false (by omega)
  have t4 : ¬ (n : Int) > 20 := by omega
  have hwi := fun W => (within_any set 1 (wrap64 (wrap64 ((2 : Int) ^ n) - 1)) W).mono (R' := fun e w' => e = .returned (.bool (inR set 1 ((2 ^ n - 1 : Nat) : Int))) ∧ W = w') (by rintro e w' ⟨rfl, rfl⟩; rw [wrap64_eq, wrap64_eq, pow_pred (by omega)]; exact ⟨rfl, rfl⟩)
  have HWI := hide hwi
  clear hwi
  cases hin : inR set 1 ((2 ^ n - 1 : Nat) : Int) with
  | false =>
    rw [hin] at HWI
    have HV := hide (show v = false by rw [HVAL.out, hin]; simp)
    clear hin
    go_wp2_with (go_at_call 61; refine (HWI.out _).mono ?_; rintro e w' ⟨rfl, rfl⟩)
    go_ret
    exact ⟨ret_bool HV.out.symm, HW2.out⟩
  | true =>
    rw [hin] at HWI
    obtain ⟨s, rfl, hs0, hsP⟩ := in_nat hin
    have hwh := HWH.out (Nat.pos_of_ne_zero HN0.out)
    have hon := HOL.out hwh
    have HP := hide (HPS.out hwh)
    have HN := hide (HNB.out hwh)
    have HD := hide (HSD.out hwh)
    have HV0 := hide (show v = (!s.testBit o && joinedB (besTo (sd N E) E.length) s n) by rw [HVAL.out, hin, decide_eq_true (show 1 ≤ n from Nat.pos_of_ne_zero HN0.out), decide_eq_true (show n ≤ 20 by omega)]; simp)
    have hp20 : 2 ^ n ≤ 2 ^ 20 := Nat.pow_le_pow_right (by decide) (by omega)
    have hpl := panes_lt n o
    have hq := i64_andNot s (panesN n o) (by omega) (by omega)
    have hqs := panes_sub (o := o) hsP
    obtain ⟨r, hr⟩ : ∃ r, s ^^^ (s &&& panesN n o) = r := ⟨_, rfl⟩
    rw [hr] at hq hqs
    obtain ⟨P, hP⟩ : ∃ P, panesN n o = P := ⟨_, rfl⟩
    rw [hP] at hq HP
    have HIN := hide hin
    clear hin hwh HPS HNB HSD HWH HOL HFO hpl hr hP
    cases hb : s.testBit o with
    | true =>
      rw [hb] at hqs
      have hr0 : r ≠ 0 := by rw [ne_eq, hqs]; simp
      have q1 : ((r : Int) != 0) = true := by simp; omega
      have q2 : (r != 0) = true := by simp; omega
      have q3 : ((r : Int) == 0) = false := by simp; omega
      have HV := hide (show v = false by rw [HV0.out, hb]; rfl)
      clear hb hqs hp20 hr0
      have HS := hide (And.intro hs0 hsP)
      clear hs0 hsP
      go_wp2_with (first | (go_at_call 61; refine (HWI.out _).mono ?_; rintro e w' ⟨rfl, rfl⟩) | (go_at_call 60; refine (HP.out _ HW2.out).mono ?_; rintro e w5 ⟨rfl, hb5⟩))
      have HE5 := hide (HW2.out.trans hb5)
      clear hb5
      go_ret
      exact ⟨ret_bool HV.out.symm, HE5.out⟩
    | false =>
      rw [hb] at hqs
      obtain rfl : r = 0 := hqs.2 rfl
      have hq' : bits .andNot .i64 (s : Int) (P : Int) = 0 := hq
      have HV1 := hide (show v = joinedB (besTo (sd N E) E.length) s n by rw [HV0.out, hb]; rfl)
      clear hb hqs hq
      have HS := hide (And.intro hs0 hsP)
      have han := and_neg hs0 hsP (by omega)
      have hLP := Nat.pow_lt_pow_right (show 1 < 2 by decide) (low_facts n s hs0 hsP).2.1
      rw [← wrap64_eq] at han
      have hnb : ∀ f g, (nearV N E f).testBit g = besTo (sd N E) E.length f g := near_bit (sd N E) E.length
      have hnl : ∀ f, nearV N E f < 2 ^ n := near_lt HD.out E.length
      have HFIN := hide (joined_same (set := s) (n := n) (bes_comm (sd N E) E.length) hnb hs0 hsP)
      have HCL := hide (join_closing (set := s) (n := n) (bes_comm (sd N E) E.length) hnb)
      obtain ⟨nf, hnf⟩ : ∃ nf, nearV N E = nf := ⟨_, rfl⟩
      rw [hnf] at hnl HFIN HCL
      have HNE := hide hnf
      have HNL := hide hnl
      obtain ⟨L, hL⟩ : ∃ L, 2 ^ lowOf s n = L := ⟨_, rfl⟩
      rw [hL] at han HFIN hLP
      have HIT := hide (fun k => HCL.out.it_lt hLP k)
      clear hs0 hsP hnb hnl hnf hL HCL hLP
      go_wp2_with (first | (go_at_call 61; refine (HWI.out _).mono ?_; rintro e w' ⟨rfl, rfl⟩) | (go_at_call 60; refine (HP.out _ HW2.out).mono ?_; rintro e w5 ⟨rfl, hb5⟩; have HT := hide (HT.out.ext hb5); clear hb5; clear kz0 kf0 kc0_0 kc0_1 kE; have kT := HT.out; simp only [Tr, Bx, CellsAt, Nat.reduceAdd, Nat.zero_add, and_true] at kT; obtain ⟨⟨kz0, kf0, kc0_0, kc0_1⟩, kE⟩ := kT; have HW5 := hide kE) | (go_at_call 59; refine (HN.out _ HW5.out).mono ?_; rintro e w6 ⟨g, c6, rfl, hown, hb6⟩))
      have ho := hown
      rw [show (fun f => ((nearV N E f : Nat) : Int)) = fun f => ((nf f : Nat) : Int) from by rw [HNE.out]] at ho
      have HO := hide ho
      have HE6 := hide (HW5.out.trans hb6)
      clear hown ho hb6 HWI HP HN han hq'
      clear kz0 kf0 kc0_0 kc0_1 kE
      clear HT
      go_loopw [7, 41] (fun r i wr => ∃ k : Nat, k ≤ n ∧ i = .int .i64 k ∧ r = .int .i64 (it (joinTo nf s n) k L : Nat) ∧ Hid (wr = w6)) (fun _ i _ => n - (intOf i).toNat)
      case atStart => exact ⟨0, Nat.zero_le _, rfl, rfl, hide rfl⟩
      case round =>
        obtain ⟨k, hk, rfl, rfl, HW⟩ := hrel
        obtain rfl := HW.out
        by_cases hlt : k < n
        · have hlz : (k : Int) < (n : Int) := by omega
          have HR := hide (HIT.out k)
          have HNX := hide (show joinTo nf s n (it (joinTo nf s n) k L) = it (joinTo nf s n) (k + 1) L from rfl)
          obtain ⟨R, hR⟩ : ∃ R, it (joinTo nf s n) k L = R := ⟨_, rfl⟩
          rw [hR] at HR HNX ⊢
          clear hR
          go_wp2_with fail
          go_loopw [7, 45] (fun r i wi => ∃ f : Nat, f ≤ n ∧ i = .int .i64 f ∧ r = .int .i64 (joinTo nf s f R : Nat) ∧ Hid (wi = wr)) (fun _ i _ => n - (intOf i).toNat)
          case atStart => exact ⟨0, Nat.zero_le _, rfl, rfl, hide rfl⟩
          case round =>
            obtain ⟨f, hf, rfl, rfl, HW'⟩ := hrel
            obtain rfl := HW'.out
            by_cases hlt2 : f < n
            · have hlz2 : (f : Int) < (n : Int) := by omega
              have hu := join_lt (near := nf) (set := s) HR.out f (by omega)
              have HNU := hide (show joinTo nf s (f + 1) R = if s.testBit f = true ∧ nf f &&& joinTo nf s f R ≠ 0 then joinTo nf s f R ||| 2 ^ f else joinTo nf s f R from rfl)
              obtain ⟨u, hu'⟩ : ∃ u, joinTo nf s f R = u := ⟨_, rfl⟩
              rw [hu'] at hu HNU ⊢
              clear hu'
              have cn := own_cellR HO.out hlt2
              have hnl := HNL.out f
              have hsP := HS.out.2
              have b1 := bit_at s f (by omega)
              have b2 := i64_and (nf f) u (by omega) (by omega)
              have b3 := or_shl (u := u) (f := f) (by omega) (by omega)
              rw [← wrap64_eq] at b3
              obtain ⟨x, hx⟩ : ∃ x, nf f = x := ⟨_, rfl⟩
              rw [hx] at cn b2 HNU hnl
              clear hx
              obtain ⟨y, hy⟩ : ∃ y, x &&& u = y := ⟨_, rfl⟩
              obtain ⟨z, hz⟩ : ∃ z, u ||| 2 ^ f = z := ⟨_, rfl⟩
              rw [hy] at b2 HNU
              rw [hz] at b3 HNU
              clear hy hz hsP hnl hu
              cases hb : s.testBit f with
              | true =>
                rw [hb, if_pos rfl] at b1
                by_cases hy0 : y = 0
                · subst hy0
                  have b2' : bits .and .i64 (x : Int) (u : Int) = 0 := b2
                  have HV := hide (show joinTo nf s (f + 1) R = u by rw [HNU.out, if_neg (by simp)])
                  clear b2 hb
                  go_wp2_with fail
                  go_roundw
                  case rel => exact ⟨f + 1, by omega, by go_num, by rw [HV.out], by first | exact hide rfl | exact hide trivial⟩
                  case measure => simp [intOf]; omega
                · have q1 : ((y : Int) != 0) = true := by simp; omega
                  have q2 : (y != 0) = true := by simp; omega
                  have q3 : ((y : Int) == 0) = false := by simp; omega
                  have HV := hide (show joinTo nf s (f + 1) R = z by rw [HNU.out, if_pos ⟨hb, hy0⟩])
                  clear hb hy0
                  go_wp2_with fail
                  go_roundw
                  case rel => exact ⟨f + 1, by omega, by go_num, by rw [HV.out], by first | exact hide rfl | exact hide trivial⟩
                  case measure => simp [intOf]; omega
              | false =>
                have b1' : bits .and .i64 ((s : Int) / 2 ^ f) 1 = 0 := by rw [b1, hb]; rfl
                have HV := hide (show joinTo nf s (f + 1) R = u by rw [HNU.out, if_neg (by rw [hb]; simp)])
                clear b1 hb
                go_wp2_with fail
                go_roundw
                case rel => exact ⟨f + 1, by omega, by go_num, by rw [HV.out], by first | exact hide rfl | exact hide trivial⟩
                case measure => simp [intOf]; omega
            · obtain rfl : f = n := by omega
              go_wp2_with fail
              go_roundw
              case rel => exact ⟨k + 1, by omega, by go_num, by rw [HNX.out], by first | exact hide rfl | exact hide trivial⟩
              case measure => simp [intOf]; omega
        · obtain rfl : n = k := by omega
          go_wp2_with fail
          go_ret
          exact ⟨ret_bool (by rw [HV1.out, ← HFIN.out, int_beq]), HE6.out⟩
end Go.Proofs.Ytabgcpoaepafjaa
namespace Go.Proofs.Ytabgcpoaepafjaa
open Go.RowKit

set_option maxRecDepth 20000 in
set_option maxHeartbeats 4000000 in
theorem l17Joined_any (n hd c2 B U s : Nat) (F : Nat → Nat → Bool) (w : World) (hM : MatB w B U hd n 66 4 F) (h0 : s ≠ 0) (h : s < 2 ^ n) (hn : n ≤ 20) :
    Calls Try.prog 62 #[.slice (some ⟨hd, 0, none⟩) n c2, .int .i64 (s : Nat)] w fun e w' => e = .returned (.bool (joinedB F s n)) ∧ w = w' := by
  have HM := hide hM
  have hp20 : 2 ^ n ≤ 2 ^ 20 := Nat.pow_le_pow_right (by decide) hn
  have hs62 : s < 2 ^ 62 := by omega
  obtain ⟨l1, l2, l3⟩ := low_facts n s h0 h
  have HCL := hide (reach_closing F s n)
  have HV := hide (show joinedB F s n = _ from rfl)
  have HB := hide (fun i => bit_at s i hs62)
  obtain ⟨p, hp⟩ : ∃ p, lowOf s n = p := ⟨_, rfl⟩
  rw [hp] at l1 l2 l3
  have HL1 := hide l1
  have HL3 := hide l3
  have hLP := Nat.pow_lt_pow_right (show 1 < 2 by decide) l2
  have HVJ := hide (show joinedB F s n = (it (reachF F s n n) n (2 ^ p) == s) by rw [← hp]; rfl)
  obtain ⟨v, hv⟩ : ∃ v, joinedB F s n = v := ⟨_, rfl⟩
  rw [hv] at HVJ ⊢
  have hsh := shl_one (show p < 62 by omega)
  rw [← wrap64_eq] at hsh
  obtain ⟨L, hL⟩ : ∃ L, 2 ^ p = L := ⟨_, rfl⟩
  rw [hL] at hLP HVJ hsh
  have HIT := hide (fun k => HCL.out.it_lt hLP k)
  have HSS := hide (And.intro h0 h)
  clear hM h0 h hs62 l1 l3 hp HV hv hL hLP HCL
  go_enter Try.func62, Try.ntmps62
  go_wp2_with fail
  go_loopw [5] (fun i wr => ∃ k : Nat, k ≤ p ∧ i = .int .i64 k ∧ Hid (wr = w)) (fun i _ => p - (intOf i).toNat)
  case atStart => exact ⟨0, Nat.zero_le _, rfl, hide rfl⟩
  case round =>
    obtain ⟨k, hk, rfl, HW⟩ := hrel
    obtain rfl := HW.out
    by_cases hlt : k < p
    · have b1 : bits .and .i64 ((s : Int) / 2 ^ k) 1 = 0 := by rw [HB.out, HL3.out k hlt]; rfl
      go_wp2_with fail
      go_roundw
      case rel => exact ⟨k + 1, by omega, by go_num, by first | exact hide rfl | exact hide trivial⟩
      case measure => simp [intOf]; omega
    · obtain rfl : p = k := by omega
      have b1 : bits .and .i64 ((s : Int) / 2 ^ p) 1 = 1 := by rw [HB.out, HL1.out]; rfl
      go_wp2_with fail
      clear b1
      go_loopw [6, 7] (fun r i wi => ∃ k : Nat, k ≤ n ∧ i = .int .i64 k ∧ r = .int .i64 (it (reachF F s n n) k L : Nat) ∧ Hid (wi = wr)) (fun _ i _ => n - (intOf i).toNat)
      case atStart => exact ⟨0, Nat.zero_le _, rfl, rfl, hide rfl⟩
      case round =>
        obtain ⟨k, hk2, rfl, rfl, HW1⟩ := hrel
        obtain rfl := HW1.out
        by_cases hlt : k < n
        · have hlz : (k : Int) < (n : Int) := by omega
          have HR := hide (HIT.out k)
          have HNX := hide (show reachF F s n n (it (reachF F s n n) k L) = it (reachF F s n n) (k + 1) L from rfl)
          obtain ⟨R, hR⟩ : ∃ R, it (reachF F s n n) k L = R := ⟨_, rfl⟩
          rw [hR] at HR HNX ⊢
          clear hR
          go_wp2_with fail
          go_loopw [6, 8] (fun r i wi => ∃ f : Nat, f ≤ n ∧ i = .int .i64 f ∧ r = .int .i64 (reachF F s n f R : Nat) ∧ Hid (wi = wr)) (fun _ i _ => n - (intOf i).toNat)
          case atStart => exact ⟨0, Nat.zero_le _, rfl, rfl, hide rfl⟩
          case round =>
            obtain ⟨f, hf, rfl, rfl, HW2⟩ := hrel
            obtain rfl := HW2.out
            by_cases hlt2 : f < n
            · have hlz2 : (f : Int) < (n : Int) := by omega
              have HR2 := hide (reachF_lt (b := F) (set := s) HR.out f)
              have HNX2 := hide (show reachG F s f n (reachF F s n f R) = reachF F s n (f + 1) R from rfl)
              obtain ⟨R2, hR2⟩ : ∃ R2, reachF F s n f R = R2 := ⟨_, rfl⟩
              rw [hR2] at HR2 HNX2 ⊢
              clear hR2
              go_wp2_with fail
              go_loopw [6, 9] (fun r i wi => ∃ g : Nat, g ≤ n ∧ i = .int .i64 g ∧ r = .int .i64 (reachG F s f g R2 : Nat) ∧ Hid (wi = wr)) (fun _ i _ => n - (intOf i).toNat)
              case atStart => exact ⟨0, Nat.zero_le _, rfl, rfl, hide rfl⟩
              case round =>
                obtain ⟨g, hg, rfl, rfl, HW3⟩ := hrel
                obtain rfl := HW3.out
                by_cases hlt3 : g < n
                · have hlz3 : (g : Int) < (n : Int) := by omega
                  have hu := reachG_lt (b := F) (set := s) (f := f) HR2.out g (by omega)
                  have HNU := hide (show reachG F s f (g + 1) R2 = if (reachG F s f g R2).testBit f = true ∧ s.testBit g = true ∧ F f g = true then reachG F s f g R2 ||| 2 ^ g else reachG F s f g R2 from rfl)
                  obtain ⟨u, hu'⟩ : ∃ u, reachG F s f g R2 = u := ⟨_, rfl⟩
                  rw [hu'] at hu HNU ⊢
                  clear hu'
                  obtain ⟨gb, m1, m2, _, _, _, _, _⟩ := HM.out.at_ hlt2 hlt3
                  have b1 := bit_at u f (by omega)
                  have b2 := HB.out g
                  have b3 := or_shl (u := u) (f := g) (by omega) (by omega)
                  rw [← wrap64_eq] at b3
                  obtain ⟨z, hz⟩ : ∃ z, u ||| 2 ^ g = z := ⟨_, rfl⟩
                  rw [hz] at b3 HNU
                  obtain ⟨x, hx⟩ : ∃ x, F f g = x := ⟨_, rfl⟩
                  rw [hx] at m2 HNU
                  clear hx hz hu
                  cases hb1 : u.testBit f with
                  | false =>
                    have b1' : bits .and .i64 ((u : Int) / 2 ^ f) 1 = 0 := by rw [b1, hb1]; rfl
                    have HV := hide (show reachG F s f (g + 1) R2 = u by rw [HNU.out, if_neg (by rw [hb1]; simp)])
                    clear b1 b2 hb1
                    go_wp2_with fail
                    go_roundw
                    case rel => exact ⟨g + 1, by omega, by go_num, by rw [HV.out], by first | exact hide rfl | exact hide trivial⟩
                    case measure => simp [intOf]; omega
                  | true =>
                    rw [hb1, if_pos rfl] at b1
                    cases hb2 : s.testBit g with
                    | false =>
                      have b2' : bits .and .i64 ((s : Int) / 2 ^ g) 1 = 0 := by rw [b2, hb2]; rfl
                      have HV := hide (show reachG F s f (g + 1) R2 = u by rw [HNU.out, if_neg (by rw [hb2]; simp)])
                      clear b2 hb1 hb2
                      go_wp2_with fail
                      go_roundw
                      case rel => exact ⟨g + 1, by omega, by go_num, by rw [HV.out], by first | exact hide rfl | exact hide trivial⟩
                      case measure => simp [intOf]; omega
                    | true =>
                      rw [hb2, if_pos rfl] at b2
                      cases x with
                      | false =>
                        have HV := hide (show reachG F s f (g + 1) R2 = u by rw [HNU.out, if_neg (by simp)])
                        clear hb1 hb2
                        go_wp2_with fail
                        go_roundw
                        case rel => exact ⟨g + 1, by omega, by go_num, by rw [HV.out], by first | exact hide rfl | exact hide trivial⟩
                        case measure => simp [intOf]; omega
                      | true =>
                        have HV := hide (show reachG F s f (g + 1) R2 = z by rw [HNU.out, if_pos ⟨hb1, hb2, rfl⟩])
                        clear hb1 hb2
                        go_wp2_with fail
                        go_roundw
                        case rel => exact ⟨g + 1, by omega, by go_num, by rw [HV.out], by first | exact hide rfl | exact hide trivial⟩
                        case measure => simp [intOf]; omega
                · obtain rfl : g = n := by omega
                  go_wp2_with fail
                  go_roundw
                  case rel => exact ⟨f + 1, by omega, by go_num, by rw [HNX2.out], by first | exact hide rfl | exact hide trivial⟩
                  case measure => simp [intOf]; omega
            · obtain rfl : f = n := by omega
              go_wp2_with fail
              go_roundw
              case rel => exact ⟨k + 1, by omega, by go_num, by rw [HNX.out], by first | exact hide rfl | exact hide trivial⟩
              case measure => simp [intOf]; omega
        · obtain rfl : n = k := by omega
          go_wp2_with fail
          go_ret
          exact ⟨ret_bool (by rw [HVJ.out, int_beq]), rfl⟩
set_option maxRecDepth 20000 in
set_option maxHeartbeats 4000000 in
theorem sAreJoined_any (N E : List P2) (A B : Option Addr) (c c' : Nat) (set : Int) (w : World) (hw : WR w N E A B c c') :
    Calls Try.prog 26 #[.agg #[.slice A N.length c, .slice B E.length c'], .int .i64 set] w fun e w' => e = .returned (.bool (joinedI N E set)) ∧ Ext w w' := by
  have HFO := hide (fun (W : World) (hE : Ext w W) => (sFacesOf_any N E A B c c' W (hw.ext hE)).mono (R' := fun e w' => ∃ A2 c2, e = .returned (.slice A2 (fcs N E).length c2) ∧ Ext W w') (by rintro e w' ⟨A2, c2, h1, _, _, h2⟩; exact ⟨A2, c2, h1, h2⟩))
  have HOF := hide (fun (W : World) (hE : Ext w W) => sOuterFace_any N E A B c c' W (hw.ext hE))
  have HBS := hide (fun (hwh : wholeB N E = true) (W : World) (hE : Ext w W) => l13Beside_any N E A B c c' W (hw.ext hE) hwh)
  have HWH := hide (fcs_whole (N := N) (E := E))
  have HOL := hide (fun (hwh : wholeB N E = true) => outer_nat hwh)
  have hl40 := fcs_len (N := N) (E := E)
  obtain ⟨n, hn⟩ : ∃ n, (fcs N E).length = n := ⟨_, rfl⟩
  obtain ⟨o, ho⟩ : ∃ o, oN N E = o := ⟨_, rfl⟩
  obtain ⟨v, hv⟩ : ∃ v, joinedI N E set = v := ⟨_, rfl⟩
  rw [hn] at hl40 HFO HBS HWH HOL
  have HVAL := hide (show v = (decide (1 ≤ n) && (decide (n ≤ 20) && (inR set 1 ((2 ^ n - 1 : Nat) : Int) && (!set.toNat.testBit o && joinedB (besTo (sd N E) E.length) set.toNat n)))) by rw [← hv, ← hn, ← ho]; rfl)
  rw [ho] at HOL
  rw [hv]
  clear hw hn ho hv
  
  go_enter Try.func26, Try.ntmps26
  go_wp2_with fail
  obtain ⟨w0, hw⟩ : ∃ w1, w1 = w.alloc (Obj.cells #[Value.slice A N.length c, Value.slice B E.length c'] 27) := ⟨_, rfl⟩; rw [← hw]; have kT : Tr [(w.heap.size, [.slice A N.length c, .slice B E.length c'])] w w0 := (by rw [hw]; exact ⟨by (first | (simp [Bx, CellsAt, go_sem, *]; done) | (simp [Bx, CellsAt, go_sem, *]; omega)), by (repeat (first | exact kE | exact Ext.refl _ | apply Ext.alloc | apply Ext.drewN | apply Ext.drew | apply Ext.set0 | apply Ext.set1 | apply Ext.set2 | apply Ext.set3 | (refine Ext.setk ?_ (by omega) _) | (apply Ext.snoc; assumption)))⟩); have HT := hide kT; clear hw kT; have kT := HT.out; simp only [Tr, Bx, CellsAt, Nat.reduceAdd, Nat.zero_add, and_true] at kT; obtain ⟨⟨kz0, kf0, kc0_0, kc0_1⟩, kE⟩ := kT
  refine (HFO.out _ kE).mono ?_
  rintro e w2 ⟨A2, c2, rfl, hb2⟩
  have HT' := hide (HT.out.ext hb2)
  clear hb2 HT
  have HT := HT'
  clear HT'
  clear kz0 kf0 kc0_0 kc0_1 kE
  have kT := HT.out; simp only [Tr, Bx, CellsAt, Nat.reduceAdd, Nat.zero_add, and_true] at kT; obtain ⟨⟨kz0, kf0, kc0_0, kc0_1⟩, kE⟩ := kT
  have HW2 := hide kE
  have hwi := fun W => l01In_any n 1 20 W
  have HWI := hide hwi
  clear hwi
  cases hin1 : inR (n : Int) 1 20 with
  | false =>
    rw [hin1] at HWI
    have HV := hide (show v = false by
      rw [HVAL.out]
      simp [inR] at hin1
      by_cases h1 : 1 ≤ n
      · rw [decide_eq_false (show ¬ n ≤ 20 by omega)]; simp
      · rw [decide_eq_false h1]; rfl)
    clear hin1
    go_wp2_with (go_at_call 55; refine (HWI.out _).mono ?_; rintro e w' ⟨rfl, rfl⟩)
    go_ret
    exact ⟨ret_bool HV.out.symm, HW2.out⟩
  | true =>
  rw [hin1] at HWI
  have hn1 : 1 ≤ n ∧ n ≤ 20 := by simp [inR] at hin1; omega
  clear hin1
  have hwi := fun W => (l01In_any set 1 (wrap64 (wrap64 ((2 : Int) ^ n) - 1)) W).mono (R' := fun e w' => e = .returned (.bool (inR set 1 ((2 ^ n - 1 : Nat) : Int))) ∧ W = w') (by rintro e w' ⟨rfl, rfl⟩; rw [wrap64_eq, wrap64_eq, pow_pred (by omega)]; exact ⟨rfl, rfl⟩)
  have HWI2 := hide hwi
  clear hwi
  cases hin : inR set 1 ((2 ^ n - 1 : Nat) : Int) with
  | false =>
    rw [hin] at HWI2
    have HV := hide (show v = false by rw [HVAL.out, hin]; simp)
    clear hin
    go_wp2_with fail
    (refine (HWI.out _).mono ?_; rintro e w' ⟨rfl, rfl⟩)
    go_wp2_with fail
    (refine (HWI2.out _).mono ?_; rintro e w' ⟨rfl, rfl⟩)
    go_wp2_with fail
    go_ret
    exact ⟨ret_bool HV.out.symm, HW2.out⟩
  | true =>
    rw [hin] at HWI2
    obtain ⟨s, rfl, hs0, hsP⟩ := in_nat hin
    have hwh := HWH.out (by omega)
    obtain ⟨hoe, hon⟩ := HOL.out hwh
    have HP := hide (HBS.out hwh)
    rw [hoe] at HOF
    have HV0 := hide (show v = (!s.testBit o && joinedB (besTo (sd N E) E.length) s n) by rw [HVAL.out, hin, decide_eq_true hn1.1, decide_eq_true hn1.2]; simp)
    have hp20 : 2 ^ n ≤ 2 ^ 20 := Nat.pow_le_pow_right (by decide) hn1.2
    have b1 := bit_at s o (by omega)
    have HIN := hide hin
    clear hin hwh HBS HWH HOL HFO hoe
    cases hb : s.testBit o with
    | true =>
      rw [hb, if_pos rfl] at b1
      have HV := hide (show v = false by rw [HV0.out, hb]; rfl)
      clear hb hp20
      have HS := hide (And.intro hs0 hsP)
      clear hs0 hsP
      go_wp2_with fail
      (refine (HWI.out _).mono ?_; rintro e w' ⟨rfl, rfl⟩)
      go_wp2_with fail
      (refine (HWI2.out _).mono ?_; rintro e w' ⟨rfl, rfl⟩)
      go_wp2_with (first | (go_at_call 22; refine (HOF.out _ HW2.out).mono ?_; rintro e w5 ⟨rfl, hb5⟩))
      have HE5 := hide (HW2.out.trans hb5)
      clear hb5
      go_ret
      exact ⟨ret_bool HV.out.symm, HE5.out⟩
    | false =>
      have b1' : bits .and .i64 ((s : Int) / 2 ^ o) 1 = 0 := by rw [b1, hb]; rfl
      have HV1 := hide (show v = joinedB (besTo (sd N E) E.length) s n by rw [HV0.out, hb]; rfl)
      clear hb b1
      have HS := hide (And.intro hs0 hsP)
      clear hs0 hsP
      have HJ := hide (fun hd c2 B U W hM => l17Joined_any n hd c2 B U s (besTo (sd N E) E.length) W hM HS.out.1 HS.out.2 hn1.2)
      rw [← HV1.out] at HJ
      go_wp2_with fail
      (refine (HWI.out _).mono ?_; rintro e w' ⟨rfl, rfl⟩)
      go_wp2_with fail
      (refine (HWI2.out _).mono ?_; rintro e w' ⟨rfl, rfl⟩)
      go_wp2_with (first | (go_at_call 22; refine (HOF.out _ HW2.out).mono ?_; rintro e w5 ⟨rfl, hb5⟩; have HT := hide (HT.out.ext hb5); clear hb5; clear kz0 kf0 kc0_0 kc0_1 kE; have kT := HT.out; simp only [Tr, Bx, CellsAt, Nat.reduceAdd, Nat.zero_add, and_true] at kT; obtain ⟨⟨kz0, kf0, kc0_0, kc0_1⟩, kE⟩ := kT; have HW5 := hide kE) | (go_at_call 63; refine (HP.out _ HW5.out).mono ?_; rintro e w6 ⟨hd, c6, U, rfl, hM, hb6⟩) | (go_at_call 62; refine (HJ.out _ _ _ _ _ hM).mono ?_; rintro e w' ⟨rfl, rfl⟩))
      have HE6 := hide (HW5.out.trans hb6)
      clear hb6 hM
      go_ret
      exact ⟨rfl, HE6.out⟩
end Go.Proofs.Ytabgcpoaepafjaa
