/- The walk of the program's neighbors: for each face the set of the faces beside it. No condition but a whole window. -/
import Derived.Test.YtkgbilbicdiadaaSides
import Derived.BigRegion
set_option linter.unusedSimpArgs false
set_option linter.unusedVariables false
namespace Go.Proofs.Ytkgbilbicdiadaa
open Go.RowKit

noncomputable def nearV (N E : List P2) (f : Nat) : Nat := nearTo (sd N E) E.length f
theorem sd_lt {N E : List P2} (h : wholeB N E = true) (d : Nat) : sd N E d < (fcs N E).length := sideTo_lt _ d _ (fcs_facts h).1
theorem near_step {s : Nat → Nat} {k : Nat} (hne : s (2 * k) ≠ s (2 * k + 1)) : (fun f => if f = s (2 * k + 1) then ((nearTo s k (s (2 * k + 1)) ||| 2 ^ s (2 * k) : Nat) : Int) else if f = s (2 * k) then ((nearTo s k (s (2 * k)) ||| 2 ^ s (2 * k + 1) : Nat) : Int) else ((nearTo s k f : Nat) : Int)) = fun f => ((nearTo s (k + 1) f : Nat) : Int) := by
  funext f
  simp only [nearTo]
  rw [if_neg hne]
  by_cases h1 : f = s (2 * k)
  · subst h1
    rw [if_neg hne, if_pos rfl, if_pos rfl]
  · rw [if_neg h1]
    by_cases h2 : f = s (2 * k + 1)
    · subst h2
      rw [if_pos rfl, if_neg h1, if_pos rfl]
    · rw [if_neg h2, if_neg h1, if_neg h2]
theorem near_same {s : Nat → Nat} {k : Nat} (he : s (2 * k) = s (2 * k + 1)) : (fun f => ((nearTo s k f : Nat) : Int)) = fun f => ((nearTo s (k + 1) f : Nat) : Int) := by
  funext f
  simp only [nearTo]
  rw [if_pos he]
theorem or_shl {u f : Nat} (hu : u < 2 ^ 60) (hf : f < 60) : bits .or .i64 (u : Int) (IntKind.i64.wrap ((2 : Int) ^ f)) = ((u ||| 2 ^ f : Nat) : Int) := by
  have h1 : 2 ^ f < 2 ^ 60 := Nat.pow_lt_pow_right (by decide) hf
  rw [shl_one (by omega), i64_or _ _ (by omega) (by omega)]
theorem wrap64_eq (n : Int) : wrap64 n = IntKind.i64.wrap n := by simp only [wrap64, IntKind.wrap_i64]
set_option maxRecDepth 20000 in
set_option maxHeartbeats 4000000 in
theorem neighbors_any (N E : List P2) (A B : Option Addr) (c c' : Nat) (w : World) (hw : WR w N E A B c c') (hwh : wholeB N E = true) :
    Calls Try.prog 103 #[.agg #[.slice A N.length c, .slice B E.length c']] w fun e w' => ∃ g c2, e = .returned (.slice (some ⟨g, 0, none⟩) (fcs N E).length c2) ∧ w'.ownsRow w.heap.size 3 1 (.slice (some ⟨g, 0, none⟩) (fcs N E).length c2) (fcs N E).length (rowOf (fcs N E).length (fun f => ((nearV N E f : Nat) : Int))) ∧ Ext w w' := by
  obtain ⟨i0, hi, hz0, hz1, hz2⟩ := info_parts int_info
  have HW := hide hw
  have hm := (wholeB_iff.1 hwh).1.m
  have hsd := sd_lt hwh
  have hl40 := fcs_len (N := N) (E := E)
  have hpos := (fcs_facts hwh).1
  have HV := hide (show (fun f => ((nearV N E f : Nat) : Int)) = fun f => ((nearTo (sd N E) E.length f : Nat) : Int) from rfl)
  have HFA := hide (fun (W : World) (hE : Ext w W) => facesAt_any N E A B c c' W (hw.ext hE) hwh)
  have HFO := hide (fun (W : World) (hE : Ext w W) => (FacesOf_any N E A B c c' W (hw.ext hE)).mono (R' := fun e w' => ∃ A2 c2, e = .returned (.slice A2 (fcs N E).length c2) ∧ Ext W w') (by rintro e w' ⟨A2, c2, h1, _, _, _, _, h2⟩; exact ⟨A2, c2, h1, h2⟩))
  obtain ⟨n, hn⟩ : ∃ n, (fcs N E).length = n := ⟨_, rfl⟩
  obtain ⟨s, hs⟩ : ∃ s, sd N E = s := ⟨_, rfl⟩
  rw [hn] at hsd hl40 hpos HFO ⊢
  rw [hs] at hsd HV HFA
  have HSD := hide hsd
  clear hw hwh hn hs hsd
  
  go_enter Try.func103, Try.ntmps103
  go_wp2_with fail
  obtain ⟨w0, hw⟩ : ∃ w1, w1 = w.alloc (Obj.cells #[Value.slice A N.length c, Value.slice B E.length c'] 27) := ⟨_, rfl⟩; rw [← hw]; have kT : Tr [(w.heap.size, [.slice A N.length c, .slice B E.length c'])] w w0 := (by rw [hw]; exact ⟨by (first | (simp [Bx, CellsAt, go_sem, *]; done) | (simp [Bx, CellsAt, go_sem, *]; omega)), by (repeat (first | exact kE | exact Ext.refl _ | apply Ext.alloc | apply Ext.drewN | apply Ext.drew | apply Ext.set0 | apply Ext.set1 | apply Ext.set2 | apply Ext.set3 | (refine Ext.setk ?_ (by omega) _) | (apply Ext.snoc; assumption)))⟩); have HT := hide kT; clear hw kT; have kT := HT.out; simp only [Tr, Bx, CellsAt, Nat.reduceAdd, Nat.zero_add, and_true] at kT; obtain ⟨⟨kz0, kf0, kc0_0, kc0_1⟩, kE⟩ := kT
  have HW0 := hide kE
  refine (HFA.out _ kE).mono ?_
  rintro e w1 ⟨ga, ca, rfl, hat, hb1⟩
  have HAT := hide hat
  have HT' := hide (HT.out.ext hb1)
  clear hat hb1 HT
  have HT := HT'
  clear HT'
  clear kz0 kf0 kc0_0 kc0_1 kE
  have kT := HT.out; simp only [Tr, Bx, CellsAt, Nat.reduceAdd, Nat.zero_add, and_true] at kT; obtain ⟨⟨kz0, kf0, kc0_0, kc0_1⟩, kE⟩ := kT
  go_wp2_with fail
  refine (HFO.out _ kE).mono ?_
  rintro e w2 ⟨A2, c2, rfl, hb2⟩
  have HAT' := hide (own_ext HAT.out hb2)
  clear HAT
  have HAT := HAT'
  clear HAT'
  have HT' := hide (HT.out.ext hb2)
  clear hb2 HT
  have HT := HT'
  clear HT'
  clear kz0 kf0 kc0_0 kc0_1 kE
  have kT := HT.out; simp only [Tr, Bx, CellsAt, Nat.reduceAdd, Nat.zero_add, and_true] at kT; obtain ⟨⟨kz0, kf0, kc0_0, kc0_1⟩, kE⟩ := kT
  have HW2 := hide kE
  go_wp2_with (at_make; refine wpList_make_full _ rfl _ _ 29 rfl w2.heap.size 3 i0 (.int .i64 0) 1 Try.underlying29 hi hz0 hz1 .i64 .i64 n n n rfl rfl (by first | rfl | omega) (by first | rfl | omega) (by rw [hz2]; omega) (by unfold maxLen; omega) (Nat.le_refl _) ?_; intro w3 hown hgrow)
  rw [made_zeros'] at hown
  have HE3 := hide (grown_ext hgrow)
  have HO3 := hide (show w3.ownsRow w2.heap.size 3 1 (.slice (some ⟨w2.heap.size, 0, none⟩) n n) n (rowOf n (fun f => ((nearTo s 0 f : Nat) : Int))) from by simpa [nearTo] using hown)
  clear hown hgrow HT
  clear kz0 kf0 kc0_0 kc0_1 kE
  go_loopw [5] (fun i wi => ∃ k : Nat, k ≤ E.length ∧ i = .int .i64 k ∧ Hid (wi.ownsRow w2.heap.size 3 1 (.slice (some ⟨w2.heap.size, 0, none⟩) n n) n (rowOf n (fun f => ((nearTo s k f : Nat) : Int)))) ∧ Hid (Ext w2 wi)) (fun i _ => E.length - (intOf i).toNat)
  case atStart => exact ⟨0, Nat.zero_le _, rfl, HO3, HE3⟩
  case round =>
    clear HO3 HE3
    obtain ⟨k, hk, rfl, HO, HE⟩ := hrel
    by_cases hlt : k < E.length
    · have hlz : 2 * (k : Int) < 2 * (E.length : Int) := by omega
      have hat := own_ext HAT.out HE.out
      obtain ⟨i1, hi1⟩ : ∃ i1, i1 = 2 * k := ⟨_, rfl⟩
      obtain ⟨i2, hi2⟩ : ∃ i2, i2 = 2 * k + 1 := ⟨_, rfl⟩
      have ca1 := own_cellR hat (k := i1) (by omega)
      have ca2 := own_cellR hat (k := i2) (by omega)
      have hag := (own_ltg hat).2
      have y1 : (2 * (k : Int)).toNat = i1 := by omega
      have y2 : (2 * (k : Int) + 1).toNat = i2 := by omega
      have y3 : (0 : Int) ≤ 2 * (k : Int) := by omega
      have y4 : (0 : Int) ≤ 2 * (k : Int) + 1 := by omega
      have y5 : 2 * (k : Int) + 1 < 2 * (E.length : Int) := by omega
      have y6 : IntKind.i64.wrap (2 * (k : Int)) = 2 * (k : Int) := by rw [IntKind.wrap_i64]; omega
      have y7 : IntKind.i64.wrap (2 * (k : Int) + 1) = 2 * (k : Int) + 1 := by rw [IntKind.wrap_i64]; omega
      have hs1 := HSD.out i1
      have hs2 := HSD.out i2
      have hN1 := near_lt HSD.out k (s i1)
      have hN2 := near_lt HSD.out k (s i2)
      have HST := hide (near_step (s := s) (k := k))
      have HSM := hide (near_same (s := s) (k := k))
      rw [← hi2, ← hi1] at HST HSM
      obtain ⟨a, ha⟩ : ∃ a, s i1 = a := ⟨_, rfl⟩
      obtain ⟨b, hb⟩ : ∃ b, s i2 = b := ⟨_, rfl⟩
      rw [ha] at ca1 hs1 hN1 HST HSM
      rw [hb] at ca2 hs2 hN2 HST HSM
      have q1 := ExtBy.cell (W := wr) hag ca1
      have q2 := ExtBy.cell (W := wr) hag ca2
      have hp60 : 2 ^ n ≤ 2 ^ 40 := Nat.pow_le_pow_right (by decide) hl40
      clear hi1 hi2 hat ha hb ca1 ca2
      go_wp2_with fail
      
      refine wp_region_quietE (by kernel_rfl) (by kernel_rfl) ?_; (repeat (refine WQ.step (fun K hK => ?_); have HK := hide hK; clear hK; go_simp; refine HK.out _ ?_; clear HK K)); refine WQ.done ?_; intro w4 hw'; obtain ⟨⟨_, hw4⟩, hw''⟩ := hw'; subst hw''
      have HE4 := hide (HE.out.trans hw4)
      have HO4 := hide (own_ext HO.out hw4)
      clear hw4 HO HE q1 q2
      by_cases hab : a = b
      · have t1 : ((a : Int) != (b : Int)) = false := by simp [hab]
        have t2 : (a != b) = false := by simp [hab]
        have t3 : ((a : Int) == (b : Int)) = true := by simp [hab]
        have t4 : (a == b) = true := by simp [hab]
        have HAB := hide hab
        clear hab
        go_wp2_with fail
        go_roundw
        case rel => exact ⟨k + 1, by omega, by go_num, hide (by rw [← HSM.out HAB.out]; exact HO4.out), HE4⟩
        case measure => simp [intOf]; omega
      · have t1 : ((a : Int) != (b : Int)) = true := by simp [hab]; omega
        have t2 : (a != b) = true := by simp [hab]
        have t3 : ((a : Int) == (b : Int)) = false := by simp; omega
        have t4 : (a == b) = false := by simp [hab]
        have HAB := hide hab
        clear hab
        obtain ⟨X, hX⟩ : ∃ X, nearTo s k a = X := ⟨_, rfl⟩
        obtain ⟨Y, hY⟩ : ∃ Y, nearTo s k b = Y := ⟨_, rfl⟩
        have cx := own_cellR HO4.out hs1
        have cy := own_cellR HO4.out hs2
        rw [hX] at cx hN1 HST
        rw [hY] at cy hN2 HST
        have f1 := HO4.out.frozenAt a
        have f2 := HO4.out.frozenAt b
        have r1 := or_shl (u := X) (f := b) (by omega) (by omega)
        have r2 := or_shl (u := Y) (f := a) (by omega) (by omega)
        have HXX := hide hX
        clear hX
        go_wp2_with fail
        go_big_region
        have s1 := (HO4.out.stored a (.int .i64 (bits .or .i64 (X : Int) (IntKind.i64.wrap ((2 : Int) ^ b))))).1
        rw [rowOf_set _ _ hs1] at s1
        have s1' := own_ext s1 ((Ext.refl _).drew)
        have s2 := ((HE4.out.setk (k := w2.heap.size) (o := a) (s := none) (Nat.le_refl _) (.int .i64 (bits .or .i64 (X : Int) (IntKind.i64.wrap ((2 : Int) ^ b))))).drew)
        obtain ⟨w5, hw5⟩ : ∃ w5, w5 = (w4.setCell ⟨w2.heap.size, a, none⟩ (.int .i64 (bits .or .i64 (X : Int) (IntKind.i64.wrap ((2 : Int) ^ b))))).drew := ⟨_, rfl⟩
        rw [← hw5] at s1' s2
        simp only [wrap64_eq]
        rw [← hw5]
        clear hw5 cx cy f1 f2 s1 HO4 HE4
        have HO5 := hide s1'
        have HE5 := hide s2
        clear s1' s2
        have cy := own_cellR HO5.out hs2
        rw [if_neg (show ¬ b = a from fun e => HAB.out e.symm), hY] at cy
        have f2 := HO5.out.frozenAt b
        go_wp2_with fail
        go_big_region
        have s1 := (HO5.out.stored b (.int .i64 (bits .or .i64 (Y : Int) (IntKind.i64.wrap ((2 : Int) ^ a))))).1
        rw [rowOf_set _ _ hs2, r1, r2, HST.out HAB.out] at s1
        have s1' := own_ext s1 ((Ext.refl _).drew)
        have s2 := ((HE5.out.setk (k := w2.heap.size) (o := b) (s := none) (Nat.le_refl _) (.int .i64 (bits .or .i64 (Y : Int) (IntKind.i64.wrap ((2 : Int) ^ a))))).drew)
        rw [r2] at s2
        obtain ⟨w6, hw6⟩ : ∃ w6, w6 = (w5.setCell ⟨w2.heap.size, b, none⟩ (.int .i64 ((Y ||| 2 ^ a : Nat) : Int))).drew := ⟨_, rfl⟩
        rw [← hw6] at s1' s2
        simp only [wrap64_eq]
        rw [r2, ← hw6]
        clear hw6 cy f2 s1 HO5 HE5
        have HO6 := hide s1'
        have HE6 := hide s2
        clear s1' s2
        go_wp2_with fail
        go_roundw
        case rel => exact ⟨k + 1, by omega, by go_num, HO6, HE6⟩
        case measure => simp [intOf]; omega
    · obtain rfl : k = E.length := by omega
      have hlz : ¬ 2 * (E.length : Int) < 2 * (E.length : Int) := by omega
      go_wp2_with fail
      go_ret
      exact ⟨w2.heap.size, n, rfl, by rw [HV.out]; exact own_mono HO.out HW2.out.size, HW2.out.trans HE.out⟩
end Go.Proofs.Ytkgbilbicdiadaa
