/- Words and walks for the law FnTrees, a part of them. No condition but that the arguments lie in memory. -/
import Derived.Test.YtabgcpoaepafjaaU5
import Derived.Test.YtabgcpoaepafjaaU15
import Derived.Test.YtabgcpoaepafjaaU16
import Derived.StillTail
set_option linter.unusedVariables false
set_option linter.unusedSimpArgs false
namespace Go.Proofs.Ytabgcpoaepafjaa
open Go.RowKit
theorem castL_range_yes {p : Nat → Bool} {k : Nat} (h : p k = true) : castL ((List.range (k + 1)).filter p) = castL ((List.range k).filter p) ++ [(k : Int)] := filter_range_yes h
set_option maxRecDepth 20000 in
set_option maxHeartbeats 4000000 in
theorem hasFace_any (N E : List P2) (A B : Option Addr) (c c' : Nat) (f : Int) (w : World) (hw : WR w N E A B c c') :
    Calls Try.prog 83 #[.agg #[.slice A N.length c, .slice B E.length c'], .int .i64 f] w fun e w' => e = .returned (.bool (inR f 0 (((fcs N E).length : Int) - 1))) ∧ Ext w w' := by
  have HFO := hide (fun (W : World) (hE : Ext w W) => (FacesOf_any N E A B c c' W (hw.ext hE)).mono (R' := fun e w' => ∃ A2 c2, e = .returned (.slice A2 (fcs N E).length c2) ∧ Ext W w') (by rintro e w' ⟨A2, c2, h1, _, _, _, _, h2⟩; exact ⟨A2, c2, h1, h2⟩))
  have hl40 := fcs_len (N := N) (E := E)
  obtain ⟨n, hn⟩ : ∃ n, (fcs N E).length = n := ⟨_, rfl⟩
  rw [hn] at hl40 HFO ⊢
  clear hn hw
  
  go_enter Try.func83, Try.ntmps83
  go_wp2_with fail
  obtain ⟨w0, hw⟩ : ∃ w1, w1 = w.alloc (Obj.cells #[Value.slice A N.length c, Value.slice B E.length c'] 27) := ⟨_, rfl⟩; rw [← hw]; have kT : Tr [(w.heap.size, [.slice A N.length c, .slice B E.length c'])] w w0 := (by rw [hw]; exact ⟨by (first | (simp [Bx, CellsAt, go_sem, *]; done) | (simp [Bx, CellsAt, go_sem, *]; omega)), by (repeat (first | exact kE | exact Ext.refl _ | apply Ext.alloc | apply Ext.drewN | apply Ext.drew | apply Ext.set0 | apply Ext.set1 | apply Ext.set2 | apply Ext.set3 | (refine Ext.setk ?_ (by omega) _) | (apply Ext.snoc; assumption)))⟩); have HT := hide kT; clear hw kT; have kT := HT.out; simp only [Tr, Bx, CellsAt, Nat.reduceAdd, Nat.zero_add, and_true] at kT; obtain ⟨⟨kz0, kf0, kc0_0, kc0_1⟩, kE⟩ := kT
  refine (HFO.out _ kE).mono ?_
  rintro e w5 ⟨A2, c2, rfl, hb5⟩
  have HE5 := hide (kE.trans hb5)
  clear hb5 HT
  clear kz0 kf0 kc0_0 kc0_1 kE
  have hwn : IntKind.i64.wrap ((n : Int) - 1) = (n : Int) - 1 := by rw [IntKind.wrap_i64]; omega
  go_wp2_with (first | (go_at_call 61; refine (within_any _ _ _ _).mono ?_; rintro e w' ⟨rfl, rfl⟩))
  go_ret
  exact ⟨rfl, HE5.out⟩
theorem in_nat2 {a n : Nat} (h : a < n) : inR (a : Int) 0 ((n : Int) - 1) = true := by simp [inR]; omega
set_option maxRecDepth 20000 in
set_option maxHeartbeats 8000000 in
theorem SharedLeads_any (N E : List P2) (A B : Option Addr) (c c' a b : Nat) (w : World) (hw : WR w N E A B c c') (ha : a < (fcs N E).length) (hb : b < (fcs N E).length) :
    Calls Try.prog 49 #[.agg #[.slice A N.length c, .slice B E.length c'], .int .i64 a, .int .i64 b] w fun e w' => ∃ A2 c2, e = .returned (.slice A2 (shL (sd N E) a b E.length).length c2) ∧ w'.ownsRow w.heap.size 3 1 (.slice A2 (shL (sd N E) a b E.length).length c2) (shL (sd N E) a b E.length).length (encI (castL (shL (sd N E) a b E.length))) ∧ Ext w w' := by
  obtain ⟨i0, hi, hz0, hz1, hz2⟩ := info_parts int_info
  have hwh := fcs_whole (show 0 < (fcs N E).length by omega)
  have hm := (wholeB_iff.1 hwh).1.m
  have HA := hide (fun (W : World) (hE : Ext w W) => by have h := hasFace_any N E A B c c' (a : Int) W (hw.ext hE); rw [in_nat2 ha] at h; exact h)
  have HB := hide (fun (W : World) (hE : Ext w W) => by have h := hasFace_any N E A B c c' (b : Int) W (hw.ext hE); rw [in_nat2 hb] at h; exact h)
  have HFA := hide (fun (W : World) (hE : Ext w W) => facesAt_any N E A B c c' W (hw.ext hE) hwh)
  obtain ⟨s, hs⟩ : ∃ s, sd N E = s := ⟨_, rfl⟩
  rw [hs] at HFA ⊢
  obtain ⟨m, hmm⟩ : ∃ m, m = E.length := ⟨_, rfl⟩
  have HFY := hide (fun k h => castL_range_yes (p := ssB s a b) (k := k) h)
  have HFN := hide (fun k h => filter_range_no (p := ssB s a b) (k := k) h)
  have HSS := hide (fun k => (show ssB s a b k = ((decide (s (2 * k) = a) && decide (s (2 * k + 1) = b)) || (decide (s (2 * k) = b) && decide (s (2 * k + 1) = a))) from rfl))
  obtain ⟨F, hF⟩ : ∃ F : Nat → List Int, (fun k => castL ((List.range k).filter (ssB s a b))) = F := ⟨_, rfl⟩
  have hFk : ∀ k, castL ((List.range k).filter (ssB s a b)) = F k := fun k => congrFun hF k
  have HFL := hide (fun k => (show (F k).length ≤ k by rw [← hFk, castL_length]; exact Nat.le_trans (List.length_filter_le _ _) (by simp)))
  have HF0 := hide (show F 0 = [] from by rw [← hFk]; rfl)
  have hFE : castL (shL s a b E.length) = F E.length := hFk _
  have hFE2 : (shL s a b E.length).length = (F E.length).length := by rw [← hFE, castL_length]
  rw [hFE, hFE2]
  have HFY := hide (fun k h => (by have q := HFY.out k h; rw [hFk, hFk] at q; exact q : F (k + 1) = F k ++ [(k : Int)]))
  have HFN := hide (fun k h => (by have q := HFN.out k h; rw [hFk, hFk] at q; exact q : F (k + 1) = F k))
  clear hw hwh hs hF hFk hFE hFE2 ha hb hmm
  
  go_enter Try.func49, Try.ntmps49
  go_wp2_with fail
  obtain ⟨w0, hw⟩ : ∃ w1, w1 = w.alloc (Obj.cells #[Value.slice A N.length c, Value.slice B E.length c'] 27) := ⟨_, rfl⟩; rw [← hw]; have kT : Tr [(w.heap.size, [.slice A N.length c, .slice B E.length c'])] w w0 := (by rw [hw]; exact ⟨by (first | (simp [Bx, CellsAt, go_sem, *]; done) | (simp [Bx, CellsAt, go_sem, *]; omega)), by (repeat (first | exact kE | exact Ext.refl _ | apply Ext.alloc | apply Ext.drewN | apply Ext.drew | apply Ext.set0 | apply Ext.set1 | apply Ext.set2 | apply Ext.set3 | (refine Ext.setk ?_ (by omega) _) | (apply Ext.snoc; assumption)))⟩); have HT := hide kT; clear hw kT; have kT := HT.out; simp only [Tr, Bx, CellsAt, Nat.reduceAdd, Nat.zero_add, and_true] at kT; obtain ⟨⟨kz0, kf0, kc0_0, kc0_1⟩, kE⟩ := kT
  refine (HA.out w0 kE).mono ?_; rintro e w1 ⟨rfl, hb⟩; have HT := hide (HT.out.ext hb); have Hw1 := hide hb; clear hb; clear kz0 kf0 kc0_0 kc0_1 kE; have kT := HT.out; simp only [Tr, Bx, CellsAt, Nat.reduceAdd, Nat.zero_add, and_true] at kT; obtain ⟨⟨kz0, kf0, kc0_0, kc0_1⟩, kE⟩ := kT
  go_wp2_with fail
  refine (HB.out w1 kE).mono ?_; rintro e w2 ⟨rfl, hb⟩; have HT := hide (HT.out.ext hb); have Hw2 := hide hb; clear hb; clear kz0 kf0 kc0_0 kc0_1 kE; have kT := HT.out; simp only [Tr, Bx, CellsAt, Nat.reduceAdd, Nat.zero_add, and_true] at kT; obtain ⟨⟨kz0, kf0, kc0_0, kc0_1⟩, kE⟩ := kT
  go_wp2_with fail
  refine (HFA.out _ kE).mono ?_
  rintro e w3 ⟨ga, ca, rfl, hat, hb1⟩
  have HAT := hide hat
  have HW3 := hide (kE.trans hb1)
  have HT' := hide (HT.out.ext hb1)
  clear hat hb1 HT
  have HT := HT'
  clear HT'
  clear kz0 kf0 kc0_0 kc0_1 kE
  have kT := HT.out; simp only [Tr, Bx, CellsAt, Nat.reduceAdd, Nat.zero_add, and_true] at kT; obtain ⟨⟨kz0, kf0, kc0_0, kc0_1⟩, kE⟩ := kT
  have HTZ := HT
  go_wp2_with fail
  clear kz0 kf0 kc0_0 kc0_1 kE
  clear HT
  go_loopw [8, 27] (fun v i wr => ∃ k : Nat, k ≤ E.length ∧ i = .int .i64 k ∧ Hid (wr.ownsRow w3.heap.size 3 1 v (F k).length (encI (F k))) ∧ Hid (Ext w3 wr)) (fun _ i _ => E.length - (intOf i).toNat)
  case atStart => exact ⟨0, Nat.zero_le _, rfl, hide (by rw [HF0.out]; exact World.ownsRow_nil _ _ _ _), hide (Ext.refl _)⟩
  case round =>
    obtain ⟨k, hk, rfl, HO, HE⟩ := hrel
    by_cases hlt : k < E.length
    · have hlz : (k : Int) < (E.length : Int) := by omega
      have hsz := HE.out.size
      have hFl := HFL.out k
      have hat := own_ext HAT.out HE.out
      have HSK := hide (HSS.out k)
      have HY := hide (HFY.out k)
      have HN := hide (HFN.out k)
      obtain ⟨i1, hi1⟩ : ∃ i1, i1 = 2 * k := ⟨_, rfl⟩
      obtain ⟨i2, hi2⟩ : ∃ i2, i2 = 2 * k + 1 := ⟨_, rfl⟩
      have ca1 := own_cellR hat (k := i1) (by omega)
      have ca2 := own_cellR hat (k := i2) (by omega)
      have hag := (own_ltg hat).2
      have y1 : (2 * (k : Int)).toNat = i1 := by omega
      have y2 : (2 * (k : Int) + 1).toNat = i2 := by omega
      have y3 : (0 : Int) ≤ 2 * (k : Int) := by omega
      have y4 : (0 : Int) ≤ 2 * (k : Int) + 1 := by omega
      have y5 : 2 * (k : Int) + 1 < 2 * (E.length : Int) := by omega
      have y6 : IntKind.i64.wrap (2 * (k : Int)) = 2 * (k : Int) := by rw [IntKind.wrap_i64]; omega
      have y7 : IntKind.i64.wrap (2 * (k : Int) + 1) = 2 * (k : Int) + 1 := by rw [IntKind.wrap_i64]; omega
      rw [← hi2, ← hi1] at HSK
      obtain ⟨x, hx⟩ : ∃ x, s i1 = x := ⟨_, rfl⟩
      obtain ⟨y, hy⟩ : ∃ y, s i2 = y := ⟨_, rfl⟩
      rw [hx] at ca1 HSK
      rw [hy] at ca2 HSK
      have q1 := ExtBy.cell (W := wr) hag ca1
      have q2 := ExtBy.cell (W := wr) hag ca2
      clear hi1 hi2 hat hx hy ca1 ca2
      go_wp2_with fail
      
      refine wp_region_quietE (by kernel_rfl) (by kernel_rfl) ?_; (repeat (refine WQ.step (fun K hK => ?_); have HK := hide hK; clear hK; go_simp; refine HK.out _ ?_; clear HK K)); refine WQ.done ?_; intro w4 hw'; obtain ⟨⟨_, hw4⟩, hw''⟩ := hw'; subst hw''
      have HE4 := hide (HE.out.trans hw4)
      have HO4 := hide (own_ext HO.out hw4)
      clear hw4 HO HE q1 q2
      by_cases hh_xa : x = a
      · have txa1 : ((x : Int) == (a : Int)) = true := by simp [hh_xa]
        have txa2 : (x == a) = true := by simp [hh_xa]
        by_cases hh_yb : y = b
        · have tyb1 : ((y : Int) == (b : Int)) = true := by simp [hh_yb]
          have tyb2 : (y == b) = true := by simp [hh_yb]
          have HP := hide (show ssB s a b k = true from by rw [HSK.out]; simp only [decide_eq_true hh_xa, decide_eq_true hh_yb, Bool.and_true, Bool.and_false, Bool.true_and, Bool.false_and, Bool.or_true, Bool.true_or, Bool.or_false, Bool.false_or, Bool.or_self])
          clear hh_xa hh_yb
          have hs4 := HE4.out.size
          go_wp2_with (at_builtin; refine wpList_append_own _ rfl _ _ 29 rfl w3.heap.size 3 i0 (.int .i64 0) 1 8 Try.underlying29 hi hz0 hz1 hz2 rfl (by decide) u8 (F k).length (encI (F k)) rfl (own_ext HO4.out ((Ext.refl _).alloc _)) ⟨w4.heap.size, 0, none⟩ 1 1 [.int .i64 (k : Int)] rfl rfl (news_new w4 #[.int .i64 (k : Int)] 3) (enc_one _) (by unfold maxLen; omega) (by omega) (by first | (simp; done) | (simp; omega)) ?_; intro v' w5 hown5 hgrow5 hnil)
          have E5 := hide (Ext.grown (HE4.out.alloc _) hgrow5 (own_base HO4.out (Nat.le_refl _)))
          have HO5 := hide (show w5.ownsRow w3.heap.size 3 1 v' (F (k + 1)).length (encI (F (k + 1))) from by
            rw [HY.out HP.out, encI_append, List.length_append]
            exact hown5)
          clear hown5 hgrow5 hnil
          go_roundw
          case rel => exact ⟨k + 1, by omega, by go_num, by first | exact HO5 | exact hide HO5.out, by first | exact E5 | exact hide E5.out⟩
          case measure => simp [intOf]; omega
        · have tyb1 : ((y : Int) == (b : Int)) = false := by simp; omega
          have tyb2 : (y == b) = false := by simp [hh_yb]
          by_cases hh_xb : x = b
          · have txb1 : ((x : Int) == (b : Int)) = true := by simp [hh_xb]
            have txb2 : (x == b) = true := by simp [hh_xb]
            by_cases hh_ya : y = a
            · have tya1 : ((y : Int) == (a : Int)) = true := by simp [hh_ya]
              have tya2 : (y == a) = true := by simp [hh_ya]
              have HP := hide (show ssB s a b k = true from by rw [HSK.out]; simp only [decide_eq_true hh_xa, decide_eq_false hh_yb, decide_eq_true hh_xb, decide_eq_true hh_ya, Bool.and_true, Bool.and_false, Bool.true_and, Bool.false_and, Bool.or_true, Bool.true_or, Bool.or_false, Bool.false_or, Bool.or_self])
              clear hh_xa hh_yb hh_xb hh_ya
              have hs4 := HE4.out.size
              go_wp2_with (at_builtin; refine wpList_append_own _ rfl _ _ 29 rfl w3.heap.size 3 i0 (.int .i64 0) 1 8 Try.underlying29 hi hz0 hz1 hz2 rfl (by decide) u8 (F k).length (encI (F k)) rfl (own_ext HO4.out ((Ext.refl _).alloc _)) ⟨w4.heap.size, 0, none⟩ 1 1 [.int .i64 (k : Int)] rfl rfl (news_new w4 #[.int .i64 (k : Int)] 3) (enc_one _) (by unfold maxLen; omega) (by omega) (by first | (simp; done) | (simp; omega)) ?_; intro v' w5 hown5 hgrow5 hnil)
              have E5 := hide (Ext.grown (HE4.out.alloc _) hgrow5 (own_base HO4.out (Nat.le_refl _)))
              have HO5 := hide (show w5.ownsRow w3.heap.size 3 1 v' (F (k + 1)).length (encI (F (k + 1))) from by
                rw [HY.out HP.out, encI_append, List.length_append]
                exact hown5)
              clear hown5 hgrow5 hnil
              go_roundw
              case rel => exact ⟨k + 1, by omega, by go_num, by first | exact HO5 | exact hide HO5.out, by first | exact E5 | exact hide E5.out⟩
              case measure => simp [intOf]; omega
            · have tya1 : ((y : Int) == (a : Int)) = false := by simp; omega
              have tya2 : (y == a) = false := by simp [hh_ya]
              have HP := hide (show ssB s a b k = false from by rw [HSK.out]; simp only [decide_eq_true hh_xa, decide_eq_false hh_yb, decide_eq_true hh_xb, decide_eq_false hh_ya, Bool.and_true, Bool.and_false, Bool.true_and, Bool.false_and, Bool.or_true, Bool.true_or, Bool.or_false, Bool.false_or, Bool.or_self])
              clear hh_xa hh_yb hh_xb hh_ya
              go_wp2_with fail
              go_roundw
              case rel => exact ⟨k + 1, by omega, by go_num, hide (by rw [HN.out HP.out]; exact HO4.out), by first | exact HE4 | exact hide HE4.out⟩
              case measure => simp [intOf]; omega
          · have txb1 : ((x : Int) == (b : Int)) = false := by simp; omega
            have txb2 : (x == b) = false := by simp [hh_xb]
            have HP := hide (show ssB s a b k = false from by rw [HSK.out]; simp only [decide_eq_true hh_xa, decide_eq_false hh_yb, decide_eq_false hh_xb, Bool.and_true, Bool.and_false, Bool.true_and, Bool.false_and, Bool.or_true, Bool.true_or, Bool.or_false, Bool.false_or, Bool.or_self])
            clear hh_xa hh_yb hh_xb
            go_wp2_with fail
            go_roundw
            case rel => exact ⟨k + 1, by omega, by go_num, hide (by rw [HN.out HP.out]; exact HO4.out), by first | exact HE4 | exact hide HE4.out⟩
            case measure => simp [intOf]; omega
      · have txa1 : ((x : Int) == (a : Int)) = false := by simp; omega
        have txa2 : (x == a) = false := by simp [hh_xa]
        by_cases hh_xb : x = b
        · have txb1 : ((x : Int) == (b : Int)) = true := by simp [hh_xb]
          have txb2 : (x == b) = true := by simp [hh_xb]
          by_cases hh_ya : y = a
          · have tya1 : ((y : Int) == (a : Int)) = true := by simp [hh_ya]
            have tya2 : (y == a) = true := by simp [hh_ya]
            have HP := hide (show ssB s a b k = true from by rw [HSK.out]; simp only [decide_eq_false hh_xa, decide_eq_true hh_xb, decide_eq_true hh_ya, Bool.and_true, Bool.and_false, Bool.true_and, Bool.false_and, Bool.or_true, Bool.true_or, Bool.or_false, Bool.false_or, Bool.or_self])
            clear hh_xa hh_xb hh_ya
            have hs4 := HE4.out.size
            go_wp2_with (at_builtin; refine wpList_append_own _ rfl _ _ 29 rfl w3.heap.size 3 i0 (.int .i64 0) 1 8 Try.underlying29 hi hz0 hz1 hz2 rfl (by decide) u8 (F k).length (encI (F k)) rfl (own_ext HO4.out ((Ext.refl _).alloc _)) ⟨w4.heap.size, 0, none⟩ 1 1 [.int .i64 (k : Int)] rfl rfl (news_new w4 #[.int .i64 (k : Int)] 3) (enc_one _) (by unfold maxLen; omega) (by omega) (by first | (simp; done) | (simp; omega)) ?_; intro v' w5 hown5 hgrow5 hnil)
            have E5 := hide (Ext.grown (HE4.out.alloc _) hgrow5 (own_base HO4.out (Nat.le_refl _)))
            have HO5 := hide (show w5.ownsRow w3.heap.size 3 1 v' (F (k + 1)).length (encI (F (k + 1))) from by
              rw [HY.out HP.out, encI_append, List.length_append]
              exact hown5)
            clear hown5 hgrow5 hnil
            go_roundw
            case rel => exact ⟨k + 1, by omega, by go_num, by first | exact HO5 | exact hide HO5.out, by first | exact E5 | exact hide E5.out⟩
            case measure => simp [intOf]; omega
          · have tya1 : ((y : Int) == (a : Int)) = false := by simp; omega
            have tya2 : (y == a) = false := by simp [hh_ya]
            have HP := hide (show ssB s a b k = false from by rw [HSK.out]; simp only [decide_eq_false hh_xa, decide_eq_true hh_xb, decide_eq_false hh_ya, Bool.and_true, Bool.and_false, Bool.true_and, Bool.false_and, Bool.or_true, Bool.true_or, Bool.or_false, Bool.false_or, Bool.or_self])
            clear hh_xa hh_xb hh_ya
            go_wp2_with fail
            go_roundw
            case rel => exact ⟨k + 1, by omega, by go_num, hide (by rw [HN.out HP.out]; exact HO4.out), by first | exact HE4 | exact hide HE4.out⟩
            case measure => simp [intOf]; omega
        · have txb1 : ((x : Int) == (b : Int)) = false := by simp; omega
          have txb2 : (x == b) = false := by simp [hh_xb]
          have HP := hide (show ssB s a b k = false from by rw [HSK.out]; simp only [decide_eq_false hh_xa, decide_eq_false hh_xb, Bool.and_true, Bool.and_false, Bool.true_and, Bool.false_and, Bool.or_true, Bool.true_or, Bool.or_false, Bool.false_or, Bool.or_self])
          clear hh_xa hh_xb
          go_wp2_with fail
          go_roundw
          case rel => exact ⟨k + 1, by omega, by go_num, hide (by rw [HN.out HP.out]; exact HO4.out), by first | exact HE4 | exact hide HE4.out⟩
          case measure => simp [intOf]; omega
    · obtain rfl : k = E.length := by omega
      have HX := hide (HW3.out.trans HE.out)
      have HOZ := HO
      have hsz := HW3.out.size
      obtain ⟨Ar, cr, rfl, _⟩ := own_slice HOZ.out
      go_wp2_with fail
      go_ret
      exact ⟨Ar, cr, rfl, own_mono HOZ.out hsz, HX.out⟩
set_option maxRecDepth 20000 in
set_option maxHeartbeats 4000000 in
theorem DualDegree_any (N E : List P2) (A B : Option Addr) (c c' a : Nat) (w : World) (hw : WR w N E A B c c') (ha : a < (fcs N E).length) :
    Calls Try.prog 50 #[.agg #[.slice A N.length c, .slice B E.length c'], .int .i64 a] w fun e w' => e = .returned (.int .i64 (dgD (sd N E) a (2 * E.length) : Nat)) ∧ Ext w w' := by
  have hwh := fcs_whole (show 0 < (fcs N E).length by omega)
  have hm := (wholeB_iff.1 hwh).1.m
  have HA := hide (fun (W : World) (hE : Ext w W) => by have h := hasFace_any N E A B c c' (a : Int) W (hw.ext hE); rw [in_nat2 ha] at h; exact h)
  have HFA := hide (fun (W : World) (hE : Ext w W) => facesAt_any N E A B c c' W (hw.ext hE) hwh)
  obtain ⟨s, hs⟩ : ∃ s, sd N E = s := ⟨_, rfl⟩
  rw [hs] at HFA ⊢
  obtain ⟨n, hn⟩ : ∃ n, 2 * E.length = n := ⟨_, rfl⟩
  rw [hn] at HFA ⊢
  have HTW := hide (fun d => (show d < n → twin d < n by rw [← hn]; exact twin_lt))
  clear hw hwh hs ha
  
  go_enter Try.func50, Try.ntmps50
  go_wp2_with fail
  obtain ⟨w0, hw⟩ : ∃ w1, w1 = w.alloc (Obj.cells #[Value.slice A N.length c, Value.slice B E.length c'] 27) := ⟨_, rfl⟩; rw [← hw]; have kT : Tr [(w.heap.size, [.slice A N.length c, .slice B E.length c'])] w w0 := (by rw [hw]; exact ⟨by (first | (simp [Bx, CellsAt, go_sem, *]; done) | (simp [Bx, CellsAt, go_sem, *]; omega)), by (repeat (first | exact kE | exact Ext.refl _ | apply Ext.alloc | apply Ext.drewN | apply Ext.drew | apply Ext.set0 | apply Ext.set1 | apply Ext.set2 | apply Ext.set3 | (refine Ext.setk ?_ (by omega) _) | (apply Ext.snoc; assumption)))⟩); have HT := hide kT; clear hw kT; have kT := HT.out; simp only [Tr, Bx, CellsAt, Nat.reduceAdd, Nat.zero_add, and_true] at kT; obtain ⟨⟨kz0, kf0, kc0_0, kc0_1⟩, kE⟩ := kT
  refine (HA.out w0 kE).mono ?_; rintro e w1 ⟨rfl, hb⟩; have HT := hide (HT.out.ext hb); have Hw1 := hide hb; clear hb; clear kz0 kf0 kc0_0 kc0_1 kE; have kT := HT.out; simp only [Tr, Bx, CellsAt, Nat.reduceAdd, Nat.zero_add, and_true] at kT; obtain ⟨⟨kz0, kf0, kc0_0, kc0_1⟩, kE⟩ := kT
  go_wp2_with fail
  refine (HFA.out _ kE).mono ?_
  rintro e w3 ⟨ga, ca, rfl, hat, hb1⟩
  have HAT := hide hat
  have HW3 := hide (kE.trans hb1)
  clear hat hb1 HT
  clear kz0 kf0 kc0_0 kc0_1 kE
  go_wp2_with fail
  go_loopw [6, 17] (fun v i wr => ∃ k : Nat, k ≤ n ∧ i = .int .i64 k ∧ v = .int .i64 (dgD s a k : Nat) ∧ Hid (wr = w3)) (fun _ i _ => n - (intOf i).toNat)
  case atStart => exact ⟨0, Nat.zero_le _, rfl, rfl, hide rfl⟩
  case round =>
    obtain ⟨k, hk, rfl, rfl, HW⟩ := hrel
    obtain rfl := HW.out
    by_cases hlt : k < n
    · have hlz : (k : Int) < (n : Int) := by omega
      have hdl := dgD_le s a k
      have hxr : bits .xor .i64 (k : Int) 1 = ((twin k : Nat) : Int) := by
        rw [← twin_xor]
        exact i64_xor k 1 (by omega) (by decide)
      have HTL := HTW.out k hlt
      have HST := hide (show dgD s a (k + 1) = dgD s a k + if (decide (s k = a) && !decide (s (twin k) = a)) = true then 1 else 0 from by rw [← twin_xor]; rfl)
      have ca1 := own_cellR HAT.out (k := k) hlt
      have ca2 := own_cellR HAT.out (k := twin k) HTL
      have hag := (own_ltg HAT.out).2
      obtain ⟨x, hx⟩ : ∃ x, s k = x := ⟨_, rfl⟩
      obtain ⟨y, hy⟩ : ∃ y, s (twin k) = y := ⟨_, rfl⟩
      obtain ⟨tk, htk⟩ : ∃ t, twin k = t := ⟨_, rfl⟩
      rw [hx] at ca1 HST
      rw [hy] at ca2 HST
      rw [htk] at ca2 hxr HTL
      obtain ⟨D, hD⟩ : ∃ D, dgD s a k = D := ⟨_, rfl⟩
      rw [hD] at HST hdl ⊢
      clear hx hy htk hD
      by_cases e1 : x = a
      · have t1 : ((x : Int) == (a : Int)) = true := by simp [e1]
        have t2 : (x == a) = true := by simp [e1]
        by_cases e2 : y = a
        · have t3 : ((y : Int) != (a : Int)) = false := by simp [e2]
          have t4 : (y != a) = false := by simp [e2]
          have HX := hide (show dgD s a (k + 1) = D by rw [HST.out]; simp [e2])
          clear e1 e2
          go_wp2_with fail
          clear ca1 ca2
          go_roundw
          case rel => exact ⟨k + 1, by omega, by go_num, by rw [HX.out], by first | exact hide rfl | exact hide trivial⟩
          case measure => simp [intOf]; omega
        · have t3 : ((y : Int) != (a : Int)) = true := by simp; omega
          have t4 : (y != a) = true := by simp [e2]
          have HX := hide (show dgD s a (k + 1) = D + 1 by rw [HST.out]; simp [e1, e2])
          clear e1 e2
          go_wp2_with fail
          clear ca1 ca2
          go_roundw
          case rel => exact ⟨k + 1, by omega, by go_num, by rw [HX.out]; first | go_num | rfl, by first | exact hide rfl | exact hide trivial⟩
          case measure => simp [intOf]; omega
      · have t1 : ((x : Int) == (a : Int)) = false := by simp; omega
        have t2 : (x == a) = false := by simp [e1]
        have HX := hide (show dgD s a (k + 1) = D by rw [HST.out]; simp [e1])
        clear e1
        go_wp2_with fail
        clear ca1 ca2
        go_roundw
        case rel => exact ⟨k + 1, by omega, by go_num, by rw [HX.out], by first | exact hide rfl | exact hide trivial⟩
        case measure => simp [intOf]; omega
    · obtain rfl : k = n := by omega
      go_wp2_with fail
      go_ret
      exact ⟨rfl, HW3.out⟩
end Go.Proofs.Ytabgcpoaepafjaa
namespace Go.Proofs.Ytabgcpoaepafjaa
open Go Go.RowKit
section
variable {P : Program} {ops : Array Oper} {md : Region.Mode} {C : World → Prop}
def wpAnyQL (P : Program) (md : Region.Mode) (ops : Array Oper) (C : World → Prop) (n : Nat) (L : Array Bool → Act → Prop) : Nat → Array Bool → Act → Prop
  | 0, listed, a => L listed a
  | f + 1, listed, a => Region.ready md ops listed ≠ [] ∧ ∀ i ∈ Region.ready md ops listed, i < n ∧ qOp P ops C i (wpAnyQL P md ops C n L f (listed.setIfInBounds i true)) a
theorem wpAny_of_headQ {n g : Nat} {L : Array Bool → Act → Prop} {Q' : Exit → Act → World → Prop} (hL : ∀ listed a w, C w → L listed a → wpAny P md ops Q' g listed a w) :
    ∀ (f : Nat) (listed : Array Bool) (a : Act) (w : World), C w → wpAnyQL P md ops C n L f listed a → wpAny P md ops Q' (f + g) listed a w
  | 0, listed, a, w, hw, h => by rw [Nat.zero_add]; exact hL _ _ _ hw h
  | f + 1, listed, a, w, hw, h => by
    rw [show f + 1 + g = (f + g) + 1 by omega]
    exact ⟨fun h0 => absurd h0 h.1, fun i hi => wpOp_of_qOp hw (fun a' w' hw' h' => wpAny_of_headQ hL f _ a' w' hw' h') (h.2 i hi).2⟩
theorem wpAnyQL_first {n i : Nat} {oi : Oper} {v : Value} {L : Array Bool → Act → Prop} (hi : ops[i]? = some oi) (hsel : ∀ (j : Nat) (o : Oper) cs b, ops[j]? = some o → o.op ≠ .select cs b)
    (hs : Region.sinkB md ops n = true) (hc : Region.chainB md ops n = true) (hn : n < ops.size) (hin : i < n)
    (hdone : ∀ listed a, L listed a → ∀ j ∈ Region.ready md ops listed, n ≤ j) :
    ∀ (f : Nat) (listed : Array Bool) (a : Act), HeadInv md ops n listed →
      (∀ j oj, ops[j]? = some oj → j ≠ i → listed.getD j true = false → (∀ e ∈ oj.after, Region.binds md e = true → e.on ≠ i) → oi.apart ops oj = true) →
      i ∈ Region.ready md ops listed → YieldsIn P ops C oi v a →
      wpAnyQL P md ops C n L f (listed.setIfInBounds i true) (a.put oi.dst v) → wpAnyQL P md ops C n L (f + 1) listed a := by
  intro f
  induction f with
  | zero =>
    intro listed a inv _ hr hy H
    have hun := (mem_ready.1 hr).1
    refine ⟨fun h => (by rw [h] at hr; cases hr), fun j hj => ?_⟩
    have hjn : j < n := by
      rcases Nat.lt_or_ge j n with h | h
      · exact h
      · exact absurd hj (tail_waits hs hc hn inv _ i rfl hin hun j h)
    refine ⟨hjn, ?_⟩
    by_cases hji : j = i
    · subst hji; exact hy.qOp hi H
    · have := hdone _ _ H j (ready_mono hj hji)
      omega
  | succ f ih =>
    intro listed a inv hfree hr hy H
    have hun := (mem_ready.1 hr).1
    refine ⟨fun h => (by rw [h] at hr; cases hr), fun j hj => ?_⟩
    have hjn : j < n := by
      rcases Nat.lt_or_ge j n with h | h
      · exact h
      · exact absurd hj (tail_waits hs hc hn inv _ i rfl hin hun j h)
    refine ⟨hjn, ?_⟩
    by_cases hji : j = i
    · subst hji; exact hy.qOp hi H
    · have h1 := (H.2 j (ready_mono hj hji)).2
      obtain ⟨hjun, oj, hoj, hall⟩ := mem_ready.1 hj
      have hnot : ∀ e ∈ oj.after, Region.binds md e = true → e.on ≠ i := fun e he hb heq => by
        have h1 := hall e he hb
        rw [heq, getD_both hun] at h1
        cases h1
      have h2 := qOp_put hoj (hfree j oj hoj hji hjun hnot) (fun cs b => hsel i oi cs b hi) (fun cs b => hsel j oj cs b hoj) hy h1
      have hfree' : ∀ k ok, ops[k]? = some ok → k ≠ i → (listed.setIfInBounds j true).getD k true = false →
          (∀ e ∈ ok.after, Region.binds md e = true → e.on ≠ i) → oi.apart ops ok = true := fun k ok hk hki hun hno => by
        refine hfree k ok hk hki ?_ hno
        by_cases hjk : j = k
        · subst hjk; exact hjun
        · rw [getD_set_ne true hjk] at hun; exact hun
      refine qOp_mono (fun a' h3 => ih (listed.setIfInBounds j true) a' (inv.set hj hjn) hfree' (ready_mono hr (Ne.symm hji)) h3.1 ?_) h2
      rw [Array.setIfInBounds_comm _ _ hji]
      exact h3.2
theorem wpAnyQL_lex {n g : Nat} {Lq : Act → Prop} (hsel : Region.noSelect ops = true) (hs : Region.sinkB md ops n = true) (hc : Region.chainB md ops n = true) (hn : n < ops.size) :
    ∀ (l : List Oper) (k : Nat) (listed : Array Bool) (a : Act), (∀ j, j < l.length → l[j]? = ops[k + j]?) → k + l.length = n → HeadInv md ops n listed →
    Region.lexHead md ops g l.length k listed = true → wpQuiet P ops C Lq l a →
    wpAnyQL P md ops C n (fun listed' a' => Region.seqB md ops g n listed' = true ∧ Lq a') l.length listed a
  | [], k, listed, a, _, hk, _, hB, h => by
    have : k = n := by simpa using hk
    subst this
    exact ⟨by simpa [Region.lexHead] using hB, h⟩
  | o :: l, k, listed, a, hl, hk, inv, hB, h => by
    have h0 : ops[k]? = some o := by simpa using (hl 0 (by simp)).symm
    simp only [List.length_cons, Region.lexHead, Bool.and_eq_true] at hB
    obtain ⟨⟨hr, hf⟩, hB'⟩ := hB
    have hkn : k < n := by simp only [List.length_cons] at hk; omega
    have hr' : k ∈ Region.ready md ops listed := by simpa using hr
    have hst : qOp P ops C k (wpQuiet P ops C Lq l) a := by unfold qOp; simp only [h0]; exact h
    obtain ⟨v, hy, hK⟩ := yieldsIn_of_qOp h0 hst
    exact wpAnyQL_first h0 (Region.noSelect_spec hsel) hs hc hn hkn (fun listed' a' hL => seqB_ready hL.1) l.length listed a inv (Region.free_spec h0 hf) hr' hy
      (wpAnyQL_lex hsel hs hc hn l (k + 1) _ _ (fun j hj => by have := hl (j + 1) (by simp; omega); simpa [Nat.add_assoc, Nat.add_comm 1 j] using this) (by simp only [List.length_cons] at hk; omega) (inv.set hr' hkn) hB' hK)
theorem wp_region_quiet_tail {id : Nat} {Q : Exit → Act → World → Prop} {a : Act} {w : World} {l : List Oper} (n : Nat) (hm : P.follows .mixedOrders = true) (hB : Region.lexTailB .any l.toArray n = true) (hC : C { w with drawn := w.drawn + 1 })
    (h : wpQuiet P l.toArray C (fun a' => ∀ w', C w' → wpList P l.toArray Q (l.drop n) a' w') (l.take n) a) : (Code.region id l.toArray true).wp P Q a w := by
  simp only [Region.lexTailB, Bool.and_eq_true, decide_eq_true_eq] at hB
  obtain ⟨⟨⟨⟨hsel, hn⟩, hs⟩, hc⟩, hlex⟩ := hB
  have hn' : n < l.length := by simpa using hn
  have htl : (l.take n).length = n := by simp; omega
  have hdl : (l.drop n).length = l.toArray.size - n := by simp
  have inv0 : HeadInv .any l.toArray n (Array.replicate l.toArray.size false) :=
    ⟨by simp, fun j oj _ hl => (by rw [getD_replicate_false] at hl; cases hl), fun t _ ht => getD_in (by simpa using ht) (getD_replicate_false _ _)⟩
  have H := wpAnyQL_lex (md := .any) (g := l.toArray.size - n) hsel hs hc hn (l.take n) 0 _ a (fun j hj => by
    have hj' : j < n := by rw [htl] at hj; exact hj
    simp [hj']) (by simpa using htl) inv0 (by rw [htl]; exact hlex) h
  refine wp_region_any hm ?_
  have := wpAny_of_headQ (Q' := Q) (g := l.toArray.size - n) (fun listed a' w' hw' hL => by
    have := wpAny_of_seq (md := .any) (Q' := Q) (l.drop n) n listed a' w' (fun j => by simp [List.getElem?_drop]) (by rw [hdl]; exact hL.1) (hL.2 w' hw')
    rwa [hdl] at this) _ _ _ _ hC H
  rw [htl, show n + (l.toArray.size - n) = l.toArray.size by omega] at this
  exact this
end
/-- The class: what extends the world at the region's start. -/
theorem wp_region_tailE {P : Program} {id : Nat} {Q : Exit → Act → World → Prop} {a : Act} {w : World} {l : List Oper} (n : Nat) (hm : P.follows .mixedOrders = true) (hB : Region.lexTailB .any l.toArray n = true)
    (h : WQ P l.toArray (fun w' => ∃ p : ExtBy w, w' = p.w) (fun a' => ∀ w', (∃ p : ExtBy w, w' = p.w) → wpList P l.toArray Q (l.drop n) a' w') (l.take n) a) : (Code.region id l.toArray true).wp P Q a w :=
  wp_region_quiet_tail (C := fun w' => ∃ p : ExtBy w, w' = p.w) n hm hB ⟨⟨w.drew, (Ext.refl w).drew⟩, rfl⟩ h.out
end Go.Proofs.Ytabgcpoaepafjaa
