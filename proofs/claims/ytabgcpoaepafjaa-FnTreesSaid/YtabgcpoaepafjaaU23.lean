/- Words and walks for the law FnTrees, a part of them. No condition but that the arguments lie in memory. -/
import Derived.Test.YtabgcpoaepafjaaU20
import Derived.Test.YtabgcpoaepafjaaU21
import Derived.Test.YtabgcpoaepafjaaU22
import Derived.Maps.AppendAt
set_option linter.unusedVariables false
set_option linter.unusedSimpArgs false
namespace Go.Proofs.Ytabgcpoaepafjaa
open Go.RowKit
set_option maxRecDepth 20000 in
set_option maxHeartbeats 8000000 in
theorem DualSpanning_any (N E : List P2) (A B A3 : Option Addr) (c c' c3 : Nat) (K : List Nat) (w : World) (hw : WR w N E A B c c') (hwh : wholeB N E = true) (hKl : K.length = N.length - 1) (hKp : K.Pairwise (· < ·)) (hKm : ∀ k ∈ K, k < E.length) (hr : RI w A3 (castL K))
    (hj : joinedV (prs (fun k => sE E (2 * k)) (fun k => sE E (2 * k + 1)) K) = 2 ^ N.length - 1) :
    Calls Try.prog 9 #[.agg #[.slice A N.length c, .slice B E.length c'], .slice A3 K.length c3] w fun e w' => ∃ A2 c2, e = .returned (.slice A2 ((List.range E.length).filter fun t : Nat => !hasL (castL K) t).length c2) ∧ w'.ownsRow w.heap.size 3 1 (.slice A2 ((List.range E.length).filter fun t : Nat => !hasL (castL K) t).length c2) ((List.range E.length).filter fun t : Nat => !hasL (castL K) t).length (encI (castL ((List.range E.length).filter fun t : Nat => !hasL (castL K) t))) ∧ Ext w w' := by
  obtain ⟨i0, hi, hz0, hz1, hz2⟩ := info_parts int_info
  obtain ⟨hm, hm0, hn2, hn12, _, _⟩ := whole_m hwh
  have HC := hide (fun (W : World) (hE : Ext w W) => IsSpanning_tree N E A B A3 c c' c3 K W (hw.ext hE) hwh hKl hKp hKm (Rds.ext hr hE) hj)
  have hl40 : (castL K).length ≤ 1048576 := by rw [castL_length]; omega
  have HHI := hide (fun (k : Nat) (W : World) (hE : Ext w W) => (by have h := hasInt_any (castL K) A3 c3 (k : Int) W hl40 (Rds.ext hr hE); rw [castL_length] at h; exact h : Calls Try.prog 42 #[.slice A3 K.length c3, .int .i64 (k : Nat)] W fun e w' => e = .returned (.bool (hasL (castL K) (k : Nat))) ∧ W = w'))
  obtain ⟨H, hH⟩ : ∃ H : Nat → Bool, (fun t : Nat => hasL (castL K) (t : Int)) = H := ⟨_, rfl⟩
  have hHk : ∀ t : Nat, hasL (castL K) (t : Int) = H t := fun t => congrFun hH t
  simp only [hHk] at HHI ⊢
  obtain ⟨kl, hkl⟩ : ∃ kl, K.length = kl := ⟨_, rfl⟩
  rw [hkl] at HC HHI ⊢
  have HFY := hide (fun k h => castL_range_yes (p := fun t => !H t) (k := k) h)
  have HFN := hide (fun k h => filter_range_no (p := fun t => !H t) (k := k) h)
  obtain ⟨F, hF⟩ : ∃ F : Nat → List Int, (fun k => castL ((List.range k).filter fun t => !H t)) = F := ⟨_, rfl⟩
  have hFk : ∀ k, castL ((List.range k).filter fun t => !H t) = F k := fun k => congrFun hF k
  have HFL := hide (fun k => (show (F k).length ≤ k by rw [← hFk, castL_length]; exact Nat.le_trans (List.length_filter_le _ _) (by simp)))
  have HF0 := hide (show F 0 = [] from by rw [← hFk]; rfl)
  have hFE2 : ((List.range E.length).filter fun t => !H t).length = (F E.length).length := by rw [← hFk, castL_length]
  rw [hFk, hFE2]
  have HFY := hide (fun k (h : H k = false) => (by have q := HFY.out k (by rw [h]; rfl); rw [hFk, hFk] at q; exact q : F (k + 1) = F k ++ [(k : Int)]))
  have HFN := hide (fun k (h : H k = true) => (by have q := HFN.out k (by rw [h]; rfl); rw [hFk, hFk] at q; exact q : F (k + 1) = F k))
  clear hw hwh hKl hKp hKm hr hj hl40 hH hHk hkl hF hFk hFE2 hn2 hn12
  
  go_enter Try.func9, Try.ntmps9
  go_wp2_with fail
  obtain ⟨w0, hw⟩ : ∃ w1, w1 = w.alloc (Obj.cells #[Value.slice A N.length c, Value.slice B E.length c'] 27) := ⟨_, rfl⟩; rw [← hw]; have kT : Tr [(w.heap.size, [.slice A N.length c, .slice B E.length c'])] w w0 := (by rw [hw]; exact ⟨by (first | (simp [Bx, CellsAt, go_sem, *]; done) | (simp [Bx, CellsAt, go_sem, *]; omega)), by (repeat (first | exact kE | exact Ext.refl _ | apply Ext.alloc | apply Ext.drewN | apply Ext.drew | apply Ext.set0 | apply Ext.set1 | apply Ext.set2 | apply Ext.set3 | (refine Ext.setk ?_ (by omega) _) | (apply Ext.snoc; assumption)))⟩); have HT := hide kT; clear hw kT; have kT := HT.out; simp only [Tr, Bx, CellsAt, Nat.reduceAdd, Nat.zero_add, and_true] at kT; obtain ⟨⟨kz0, kf0, kc0_0, kc0_1⟩, kE⟩ := kT
  refine (HC.out w0 kE).mono ?_; rintro e w3 ⟨rfl, hb⟩; have HT := hide (HT.out.ext hb); have Hw3 := hide hb; clear hb; clear kz0 kf0 kc0_0 kc0_1 kE; have kT := HT.out; simp only [Tr, Bx, CellsAt, Nat.reduceAdd, Nat.zero_add, and_true] at kT; obtain ⟨⟨kz0, kf0, kc0_0, kc0_1⟩, kE⟩ := kT
  have HW3 := hide kE
  have HTZ := HT
  go_wp2_with fail
  clear kz0 kf0 kc0_0 kc0_1 kE
  clear HT
  go_loopw [5, 14] (fun v i wr => ∃ k : Nat, k ≤ E.length ∧ i = .int .i64 k ∧ Hid (wr.ownsRow w3.heap.size 3 1 v (F k).length (encI (F k))) ∧ Hid (Ext w3 wr)) (fun _ i _ => E.length - (intOf i).toNat)
  case atStart => exact ⟨0, Nat.zero_le _, rfl, hide (by rw [HF0.out]; exact World.ownsRow_nil _ _ _ _), hide (Ext.refl _)⟩
  case round =>
    obtain ⟨k, hk, rfl, HO, HE⟩ := hrel
    by_cases hlt : k < E.length
    · have hlz : (k : Int) < (E.length : Int) := by omega
      have hsz := HE.out.size
      have hFl := HFL.out k
      have HY := hide (HFY.out k)
      have HN := hide (HFN.out k)
      have HHK := hide (HHI.out k wr (HW3.out.trans HE.out))
      cases hh : H k with
      | true =>
        rw [hh] at HHK
        have HP := hide hh
        clear hh
        go_wp2_with (go_at_call 42; refine HHK.out.mono ?_; rintro e w' ⟨rfl, rfl⟩)
        go_roundw
        case rel => exact ⟨k + 1, by omega, by go_num, hide (by rw [HN.out HP.out]; exact HO.out), HE⟩
        case measure => simp [intOf]; omega
      | false =>
        rw [hh] at HHK
        have HP := hide hh
        clear hh
        go_wp2_with (first | (go_at_call 42; refine HHK.out.mono ?_; rintro e w' ⟨rfl, rfl⟩) | (at_builtin; refine wpList_append_own _ rfl _ _ 29 rfl w3.heap.size 3 i0 (.int .i64 0) 1 8 Try.underlying29 hi hz0 hz1 hz2 rfl (by decide) u5 (F k).length (encI (F k)) rfl (own_ext HO.out ((Ext.refl _).alloc _)) ⟨wr.heap.size, 0, none⟩ 1 1 [.int .i64 (k : Int)] rfl rfl (news_new wr #[.int .i64 (k : Int)] 3) (enc_one _) (by unfold maxLen; omega) (by omega) (by simp; omega) ?_; intro v' w5 hown5 hgrow5 hnil))
        have E5 := hide (Ext.grown (HE.out.alloc _) hgrow5 (own_base HO.out (Nat.le_refl _)))
        have HO5 := hide (show w5.ownsRow w3.heap.size 3 1 v' (F (k + 1)).length (encI (F (k + 1))) from by
          rw [HY.out HP.out, encI_append, List.length_append]
          exact hown5)
        clear hown5 hgrow5 hnil
        go_roundw
        case rel => exact ⟨k + 1, by omega, by go_num, HO5, E5⟩
        case measure => simp [intOf]; omega
    · obtain rfl : k = E.length := by omega
      have hsz := HW3.out.size
      have HX := hide (HW3.out.trans HE.out)
      obtain ⟨Ar, cr, rfl, _⟩ := own_slice HO.out
      go_wp2_with fail
      go_ret
      exact ⟨Ar, cr, rfl, own_mono HO.out hsz, HX.out⟩
set_option maxRecDepth 20000 in
set_option maxHeartbeats 8000000 in
theorem sLooseLeads_any (N E : List P2) (A B : Option Addr) (c c' : Nat) (w : World) (hw : WR w N E A B c c') (hwh : wholeB N E = true) :
    Calls Try.prog 16 #[.agg #[.slice A N.length c, .slice B E.length c']] w fun e w' => ∃ A2 c2, e = .returned (.slice A2 ((List.range E.length).filter fun t : Nat => decide (sd N E (2 * t) = sd N E (2 * t + 1))).length c2) ∧ w'.ownsRow w.heap.size 3 1 (.slice A2 ((List.range E.length).filter fun t : Nat => decide (sd N E (2 * t) = sd N E (2 * t + 1))).length c2) ((List.range E.length).filter fun t : Nat => decide (sd N E (2 * t) = sd N E (2 * t + 1))).length (encI (castL ((List.range E.length).filter fun t : Nat => decide (sd N E (2 * t) = sd N E (2 * t + 1))))) ∧ Ext w w' := by
  obtain ⟨i0, hi, hz0, hz1, hz2⟩ := info_parts int_info
  obtain ⟨hm, hm0, hn2, hn12, _, _⟩ := whole_m hwh
  have HC := hide (fun (W : World) (hE : Ext w W) => by have h := sIsWhole_any N E A B c c' W (hw.ext hE); rw [hwh] at h; exact h)
  have HSI := hide (fun (W : World) (hE : Ext w W) => l09Sides_any N E A B c c' W (hw.ext hE) hwh)
  obtain ⟨s, hs⟩ : ∃ s, sd N E = s := ⟨_, rfl⟩
  rw [hs] at HSI ⊢
  obtain ⟨H, hH⟩ : ∃ H : Nat → Bool, (fun t : Nat => decide (s (2 * t) = s (2 * t + 1))) = H := ⟨_, rfl⟩
  have HHK := hide (fun t : Nat => (show H t = decide (s (2 * t) = s (2 * t + 1)) by rw [← hH]))
  rw [hH]
  have HFY := hide (fun k h => castL_range_yes (p := H) (k := k) h)
  have HFN := hide (fun k h => filter_range_no (p := H) (k := k) h)
  obtain ⟨F, hF⟩ : ∃ F : Nat → List Int, (fun k => castL ((List.range k).filter H)) = F := ⟨_, rfl⟩
  have hFk : ∀ k, castL ((List.range k).filter H) = F k := fun k => congrFun hF k
  have HFL := hide (fun k => (show (F k).length ≤ k by rw [← hFk, castL_length]; exact Nat.le_trans (List.length_filter_le _ _) (by simp)))
  have HF0 := hide (show F 0 = [] from by rw [← hFk]; rfl)
  have hFE2 : ((List.range E.length).filter H).length = (F E.length).length := by rw [← hFk, castL_length]
  rw [hFk, hFE2]
  have HFY := hide (fun k h => (by have q := HFY.out k h; rw [hFk, hFk] at q; exact q : F (k + 1) = F k ++ [(k : Int)]))
  have HFN := hide (fun k h => (by have q := HFN.out k h; rw [hFk, hFk] at q; exact q : F (k + 1) = F k))
  clear hw hwh hs hH hF hFk hFE2 hn2 hn12
  
  go_enter Try.func16, Try.ntmps16
  go_wp2_with fail
  obtain ⟨w0, hw⟩ : ∃ w1, w1 = (w.alloc (Obj.cells #[Value.slice A N.length c, Value.slice B E.length c'] 27)).alloc (Obj.cells #[] 3) := ⟨_, rfl⟩; rw [← hw]; have kT : Tr [(w.heap.size, [.slice A N.length c, .slice B E.length c'])] w w0 := (by rw [hw]; exact ⟨by (first | (simp [Bx, CellsAt, go_sem, *]; done) | (simp [Bx, CellsAt, go_sem, *]; omega)), by (repeat (first | exact kE | exact Ext.refl _ | apply Ext.alloc | apply Ext.drewN | apply Ext.drew | apply Ext.set0 | apply Ext.set1 | apply Ext.set2 | apply Ext.set3 | (refine Ext.setk ?_ (by omega) _) | (apply Ext.snoc; assumption)))⟩); have HT := hide kT; clear kT; have kT := HT.out; simp only [Tr, Bx, CellsAt, Nat.reduceAdd, Nat.zero_add, and_true] at kT; obtain ⟨⟨kz0, kf0, kc0_0, kc0_1⟩, kE⟩ := kT
  have HO0 := hide (show w0.ownsRow (w.heap.size + 1) 3 1 (.slice (some ⟨w.heap.size + 1, 0, none⟩) 0 0) 0 [] from by
    rw [hw]
    have h := World.ownsRow_lit (base := w.heap.size + 1) (e := 3) (size := 1) (w.alloc (Obj.cells #[Value.slice A N.length c, Value.slice B E.length c'] 27)) #[] 0 (by simp) (Nat.zero_le _) rfl
    simpa using h)
  clear hw
  refine (HC.out w0 kE).mono ?_; rintro e w2 ⟨rfl, hb⟩; have HT := hide (HT.out.ext hb); have Hw2 := hide hb; clear hb; clear kz0 kf0 kc0_0 kc0_1 kE; have kT := HT.out; simp only [Tr, Bx, CellsAt, Nat.reduceAdd, Nat.zero_add, and_true] at kT; obtain ⟨⟨kz0, kf0, kc0_0, kc0_1⟩, kE⟩ := kT
  have HO2 := hide (own_ext HO0.out Hw2.out)
  have HK2 := hide Hw2.out.size
  have hs2 := kz0
  go_wp2_with fail
  refine (HSI.out _ kE).mono ?_
  rintro e w3 ⟨ga, ca, rfl, hat, hb3⟩
  have HAT := hide hat
  have HAB := hide (own_ltg hat).1
  have HO3 := hide (own_ext HO2.out hb3)
  have HW3 := hide (kE.trans hb3)
  have hs3 := hb3.size
  have HOL := hide (HO2.out.lt (w.heap.size + 1) rfl).2
  have HT' := hide (HT.out.ext hb3)
  clear hat hb3 HT
  have HT := HT'
  clear HT'
  clear kz0 kf0 kc0_0 kc0_1 kE
  have kT := HT.out; simp only [Tr, Bx, CellsAt, Nat.reduceAdd, Nat.zero_add, and_true] at kT; obtain ⟨⟨kz0, kf0, kc0_0, kc0_1⟩, kE⟩ := kT
  have HTZ := HT
  go_wp2_with fail
  clear kz0 kf0 kc0_0 kc0_1 kE
  clear HT
  go_loopw [3, 5] (fun v i wr => ∃ k : Nat, k ≤ E.length ∧ i = .int .i64 k ∧ Hid (wr.ownsRow (w.heap.size + 1) 3 1 v (F k).length (encI (F k))) ∧ Hid (∀ q, v.ownBlock = some q → q ≠ ga) ∧ Hid (wr.ownsRow w2.heap.size 3 1 (.slice (some ⟨ga, 0, none⟩) (2 * E.length) ca) (2 * E.length) (rowOf (2 * E.length) (fun d => ((s d : Nat) : Int)))) ∧ Hid (Tr [(w.heap.size, [.slice A N.length c, .slice B E.length c'])] w wr)) (fun _ i _ => E.length - (intOf i).toNat)
  case atStart => exact ⟨0, Nat.zero_le _, rfl, hide (by rw [HF0.out]; exact HO3.out), hide (fun q e => by
    have e : w.heap.size + 1 = q := Option.some.inj e
    have q1 := HAB.out
    have q2 := HOL.out
    omega), HAT, HTZ⟩
  case round =>
    obtain ⟨k, hk, rfl, HO, HNE, HAT, HT⟩ := hrel
    have kT := HT.out; simp only [Tr, Bx, CellsAt, Nat.reduceAdd, Nat.zero_add, and_true] at kT; obtain ⟨⟨kz0, kf0, kc0_0, kc0_1⟩, kE⟩ := kT
    by_cases hlt : k < E.length
    · have hlz : (k : Int) < (E.length : Int) := by omega
      have hFl := HFL.out k
      have HSK := hide (HHK.out k)
      have HY := hide (HFY.out k)
      have HN := hide (HFN.out k)
      obtain ⟨i1, hi1⟩ : ∃ i1, i1 = 2 * k := ⟨_, rfl⟩
      obtain ⟨i2, hi2⟩ : ∃ i2, i2 = 2 * k + 1 := ⟨_, rfl⟩
      have ca1 := own_cellR HAT.out (k := i1) (by omega)
      have ca2 := own_cellR HAT.out (k := i2) (by omega)
      have hag := (own_ltg HAT.out).2
      have y1 : (2 * (k : Int)).toNat = i1 := by omega
      have y2 : (2 * (k : Int) + 1).toNat = i2 := by omega
      have y3 : (0 : Int) ≤ 2 * (k : Int) := by omega
      have y4 : (0 : Int) ≤ 2 * (k : Int) + 1 := by omega
      have y5 : 2 * (k : Int) + 1 < 2 * (E.length : Int) := by omega
      have y6 : IntKind.i64.wrap (2 * (k : Int)) = 2 * (k : Int) := by rw [IntKind.wrap_i64]; omega
      have y7 : IntKind.i64.wrap (2 * (k : Int) + 1) = 2 * (k : Int) + 1 := by rw [IntKind.wrap_i64]; omega
      rw [← hi2, ← hi1] at HSK
      obtain ⟨x, hx⟩ : ∃ x, s i1 = x := ⟨_, rfl⟩
      obtain ⟨y, hy⟩ : ∃ y, s i2 = y := ⟨_, rfl⟩
      rw [hx] at ca1 HSK
      rw [hy] at ca2 HSK
      have q1 := ExtBy.cell (W := wr) hag ca1
      have q2 := ExtBy.cell (W := wr) hag ca2
      clear hi1 hi2 hx hy ca1 ca2
      go_wp2_with fail
      have kq0_0 := ExtBy.cell (W := wr) kz0 kc0_0; have kq0_1 := ExtBy.cell (W := wr) kz0 kc0_1; refine wp_region_quietE (by kernel_rfl) (by kernel_rfl) ?_; (repeat (refine WQ.step (fun K hK => ?_); have HK := hide hK; clear hK; go_simp; refine HK.out _ ?_; clear HK K)); refine WQ.done ?_; intro w4 hw'; obtain ⟨⟨_, hw4⟩, hw''⟩ := hw'; subst hw''; clear kq0_0 kq0_1; have HT := hide (HT.out.ext hw4); have Hw4 := hide hw4; clear hw4 kz0 kf0 kc0_0 kc0_1 kE; have kT := HT.out; simp only [Tr, Bx, CellsAt, Nat.reduceAdd, Nat.zero_add, and_true] at kT; obtain ⟨⟨kz0, kf0, kc0_0, kc0_1⟩, kE⟩ := kT
      clear q1 q2
      have HO4 := hide (own_ext HO.out Hw4.out)
      have HAT4 := hide (own_ext HAT.out Hw4.out)
      by_cases hxy : x = y
      · have t1 : ((x : Int) == (y : Int)) = true := by simp [hxy]
        have HP := hide (show H k = true from by rw [HSK.out, decide_eq_true hxy])
        clear hxy
        have hsz4 := (HO4.out.lt)
        have hw4s : w.heap.size + 1 ≤ w4.heap.size := by have := kz0; omega
        clear hsz4
        go_wp2_with (at_builtin; refine wpList_append_own_at _ rfl _ _ 29 rfl (w.heap.size + 1) 3 i0 (.int .i64 0) 1 8 Try.underlying29 hi hz0 hz1 hz2 rfl (by decide) u3 (F k).length (encI (F k)) rfl (own_ext HO4.out ((Ext.refl _).alloc _)) ⟨w4.heap.size, 0, none⟩ 1 1 [.int .i64 (k : Int)] rfl rfl (news_new w4 #[.int .i64 (k : Int)] 3) (enc_one _) (by unfold maxLen; omega) (by omega) (by simp; omega) ?_; intro v' w5 hown5 hgrow5 hnil hloc)
        have HO5 := hide (show w5.ownsRow (w.heap.size + 1) 3 1 v' (F (k + 1)).length (encI (F (k + 1))) from by
          rw [HY.out HP.out, encI_append, List.length_append]
          exact hown5)
        have HNE5 := hide (show ∀ q, v'.ownBlock = some q → q ≠ ga from fun q h1 => by
          rcases hloc with e | e
          · exact HNE.out q (by rw [← e]; exact h1)
          · rw [e] at h1
            have q1 := (own_ltg HAT4.out).2
            have q2 := Option.some.inj h1
            simp at q2
            omega)
        have HAT5 := hide ((own_ext HAT4.out ((Ext.refl w4).alloc (Obj.cells #[.int .i64 (k : Int)] 3))).kept hgrow5 (.inr fun e => HNE.out ga e.symm rfl))
        have HT5 := hide ((HT.out.ext ((Ext.refl w4).alloc (Obj.cells #[.int .i64 (k : Int)] 3))).grownA hgrow5 (fun q e => Nat.le_trans (Nat.le_succ _) (HO4.out.lt q e).1) ⟨fun e => by have := (HO4.out.lt _ e).1; omega, trivial⟩)
        clear hown5 hgrow5 hnil hloc
        go_roundw
        case rel => exact ⟨k + 1, by omega, by go_num, HO5, HNE5, HAT5, HT5⟩
        case measure => simp [intOf]; omega
      · have t1 : ((x : Int) == (y : Int)) = false := by simp; omega
        have t2 : (x == y) = false := by simp [hxy]
        have HP := hide (show H k = false from by rw [HSK.out, decide_eq_false hxy])
        clear hxy
        go_wp2_with fail
        go_roundw
        case rel => exact ⟨k + 1, by omega, by go_num, hide (by rw [HN.out HP.out]; exact HO4.out), HNE, HAT4, HT⟩
        case measure => simp [intOf]; omega
    · obtain rfl : k = E.length := by omega
      obtain ⟨Ar, cr, rfl, _⟩ := own_slice HO.out
      go_wp2_with fail
      go_ret
      exact ⟨Ar, cr, rfl, own_mono HO.out (by omega), kE⟩
set_option maxRecDepth 20000 in
set_option maxHeartbeats 8000000 in
theorem CountParts_any (N E : List P2) (A B : Option Addr) (c c' : Nat) (w : World) (hw : WR w N E A B c c') (hwh : wholeB N E = true) :
    Calls Try.prog 52 #[.agg #[.slice A N.length c, .slice B E.length c']] w fun e w' => e = .returned (.int .i64 1) ∧ Ext w w' := by
  obtain ⟨hm, hm0, hn2, hn12, _, _⟩ := whole_m hwh
  obtain ⟨hok, _, hwl⟩ := wholeB_iff.1 hwh
  have HC := hide (fun (W : World) (hE : Ext w W) => by have h := sWindowOk_any N E A B c c' W hw.hN hw.hE hw.hc hw.hd (hw.hr.ext hE) (hw.hs.ext hE); rw [windowB_iff.2 hok] at h; exact h)
  have HP := hide (fun (W : World) (hE : Ext w W) => l07Parts_any N E A B c c' W (hw.ext hE) hok)
  have hz := (whole_parts (by omega) hok.ends_lt).2 hwl
  have hl := parts_length E N.length E.length
  obtain ⟨L, hL⟩ : ∃ L, partsTo E N.length E.length = L := ⟨_, rfl⟩
  rw [hL] at HP hz hl
  have HZ := hide hz
  have HLL := hide hl
  clear hw hwh hok hwl hz hl hL
  
  go_enter Try.func52, Try.ntmps52
  go_wp2_with fail
  obtain ⟨w0, hw⟩ : ∃ w1, w1 = w.alloc (Obj.cells #[Value.slice A N.length c, Value.slice B E.length c'] 27) := ⟨_, rfl⟩; rw [← hw]; have kT : Tr [(w.heap.size, [.slice A N.length c, .slice B E.length c'])] w w0 := (by rw [hw]; exact ⟨by (first | (simp [Bx, CellsAt, go_sem, *]; done) | (simp [Bx, CellsAt, go_sem, *]; omega)), by (repeat (first | exact kE | exact Ext.refl _ | apply Ext.alloc | apply Ext.drewN | apply Ext.drew | apply Ext.set0 | apply Ext.set1 | apply Ext.set2 | apply Ext.set3 | (refine Ext.setk ?_ (by omega) _) | (apply Ext.snoc; assumption)))⟩); have HT := hide kT; clear hw kT; have kT := HT.out; simp only [Tr, Bx, CellsAt, Nat.reduceAdd, Nat.zero_add, and_true] at kT; obtain ⟨⟨kz0, kf0, kc0_0, kc0_1⟩, kE⟩ := kT
  refine (HC.out w0 kE).mono ?_; rintro e w2 ⟨rfl, hb⟩; have HT := hide (HT.out.ext hb); have Hw2 := hide hb; clear hb; clear kz0 kf0 kc0_0 kc0_1 kE; have kT := HT.out; simp only [Tr, Bx, CellsAt, Nat.reduceAdd, Nat.zero_add, and_true] at kT; obtain ⟨⟨kz0, kf0, kc0_0, kc0_1⟩, kE⟩ := kT
  go_wp2_with fail
  refine (HP.out _ kE).mono ?_
  rintro e w3 ⟨g, c2, rfl, hown, hb3⟩
  have HO := hide hown
  have HX := hide (kE.trans hb3)
  clear hown hb3 HT
  clear kz0 kf0 kc0_0 kc0_1 kE
  go_wp2_with fail
  go_loopw [4, 5] (fun v i wr => ∃ k : Nat, k ≤ N.length ∧ i = .int .i64 k ∧ v = .int .i64 (min 1 k : Nat) ∧ Hid (wr = w3)) (fun _ i _ => N.length - (intOf i).toNat)
  case atStart => exact ⟨0, Nat.zero_le _, rfl, rfl, hide rfl⟩
  case round =>
    obtain ⟨k, hk, rfl, rfl, HW⟩ := hrel
    obtain rfl := HW.out
    by_cases hlt : k < N.length
    · have hlz : (k : Int) < (N.length : Int) := by omega
      have hkL : k < L.length := by rw [HLL.out]; exact hlt
      have ck := own_cellI HO.out HLL.out (k := k) (v := 0) (by have h := HZ.out k hlt; rw [List.getD_eq_getElem?_getD, List.getElem?_eq_getElem hkL] at h; rw [List.getElem?_eq_getElem hkL]; simpa using h)
      have hg := (own_ltg HO.out).2
      rcases Nat.eq_zero_or_pos k with h0 | h0
      · subst h0
        go_wp2_with fail
        go_roundw
        case rel => exact ⟨1, by omega, by go_num, by go_num, by first | exact hide rfl | exact hide trivial⟩
        case measure => simp [intOf]; omega
      · have t1 : ((0 : Int) == (k : Int)) = false := by simp; omega
        have t2 : ¬ k = 0 := by omega
        have HM1 := hide (show min 1 k = 1 by omega)
        have HM2 := hide (show min 1 (k + 1) = 1 by omega)
        rw [HM1.out]
        go_wp2_with fail
        go_roundw
        case rel => exact ⟨k + 1, by omega, by go_num, by rw [HM2.out], by first | exact hide rfl | exact hide trivial⟩
        case measure => simp [intOf]; omega
    · obtain rfl : k = N.length := by omega
      have HM1 := hide (show min 1 N.length = 1 by omega)
      rw [HM1.out]
      go_wp2_with fail
      go_ret
      exact ⟨rfl, HX.out⟩
set_option maxRecDepth 20000 in
set_option maxHeartbeats 8000000 in
theorem CountFaces_any (N E : List P2) (A B : Option Addr) (c c' : Nat) (w : World) (hw : WR w N E A B c c') (hwh : wholeB N E = true) :
    Calls Try.prog 14 #[.agg #[.slice A N.length c, .slice B E.length c']] w fun e w' => e = .returned (.int .i64 ((fcs N E).length : Nat)) ∧ Ext w w' := by
  obtain ⟨hm, hm0, hn2, hn12, heu, _⟩ := whole_m hwh
  obtain ⟨hok, _, _⟩ := wholeB_iff.1 hwh
  have HC := hide (fun (W : World) (hE : Ext w W) => by have h := sWindowOk_any N E A B c c' W hw.hN hw.hE hw.hc hw.hd (hw.hr.ext hE) (hw.hs.ext hE); rw [windowB_iff.2 hok] at h; exact h)
  have HP := hide (fun (W : World) (hE : Ext w W) => CountParts_any N E A B c c' W (hw.ext hE) hwh)
  obtain ⟨f, hf⟩ : ∃ f, (fcs N E).length = f := ⟨_, rfl⟩
  rw [hf] at heu ⊢
  have HEU := hide heu
  clear hw hwh hok hf heu
  
  go_enter Try.func14, Try.ntmps14
  go_wp2_with fail
  obtain ⟨w0, hw⟩ : ∃ w1, w1 = w.alloc (Obj.cells #[Value.slice A N.length c, Value.slice B E.length c'] 27) := ⟨_, rfl⟩; rw [← hw]; have kT : Tr [(w.heap.size, [.slice A N.length c, .slice B E.length c'])] w w0 := (by rw [hw]; exact ⟨by (first | (simp [Bx, CellsAt, go_sem, *]; done) | (simp [Bx, CellsAt, go_sem, *]; omega)), by (repeat (first | exact kE | exact Ext.refl _ | apply Ext.alloc | apply Ext.drewN | apply Ext.drew | apply Ext.set0 | apply Ext.set1 | apply Ext.set2 | apply Ext.set3 | (refine Ext.setk ?_ (by omega) _) | (apply Ext.snoc; assumption)))⟩); have HT := hide kT; clear hw kT; have kT := HT.out; simp only [Tr, Bx, CellsAt, Nat.reduceAdd, Nat.zero_add, and_true] at kT; obtain ⟨⟨kz0, kf0, kc0_0, kc0_1⟩, kE⟩ := kT
  refine (HC.out w0 kE).mono ?_; rintro e w2 ⟨rfl, hb⟩; have HT := hide (HT.out.ext hb); have Hw2 := hide hb; clear hb; clear kz0 kf0 kc0_0 kc0_1 kE; have kT := HT.out; simp only [Tr, Bx, CellsAt, Nat.reduceAdd, Nat.zero_add, and_true] at kT; obtain ⟨⟨kz0, kf0, kc0_0, kc0_1⟩, kE⟩ := kT
  have HX := hide kE
  have h1 : IntKind.i64.wrap ((E.length : Int) - (N.length : Int)) = (E.length : Int) - (N.length : Int) := by rw [IntKind.wrap_i64]; omega
  have h2 : IntKind.i64.wrap ((E.length : Int) - (N.length : Int) + 1) = (E.length : Int) - (N.length : Int) + 1 := by rw [IntKind.wrap_i64]; omega
  have h3 : IntKind.i64.wrap ((E.length : Int) - (N.length : Int) + 1 + 1) = (E.length : Int) - (N.length : Int) + 1 + 1 := by rw [IntKind.wrap_i64]; omega
  go_wp2_with fail
  have HPW := hide (fun (W : World) (hE : Ext w2 W) => HP.out W (HX.out.trans hE))
  have kq0_0 := ExtBy.cell (W := w2) kz0 kc0_0; have kq0_1 := ExtBy.cell (W := w2) kz0 kc0_1; refine wp_region_quietE (by kernel_rfl) (by kernel_rfl) ?_; (repeat (refine WQ.step (fun K hK => ?_); have HK := hide hK; clear hK; go_simp; refine HK.out _ ?_; clear HK K)); (refine WQ.step (fun K hK => ?_); have HK := hide hK; clear hK; go_simp; apply Exists.intro; refine ⟨fun _ => ?_, HK.out _ ?_⟩; (go_at_call 52; refine extby_of (HPW.out _ (ExtBy.h _))); clear HK K); (repeat (refine WQ.step (fun K hK => ?_); have HK := hide hK; clear hK; go_simp; refine HK.out _ ?_; clear HK K)); refine WQ.done ?_; intro w3 hw'; obtain ⟨⟨_, hw3⟩, hw''⟩ := hw'; subst hw''; clear kq0_0 kq0_1; have HT := hide (HT.out.ext hw3); have Hw3 := hide hw3; clear hw3 kz0 kf0 kc0_0 kc0_1 kE; have kT := HT.out; simp only [Tr, Bx, CellsAt, Nat.reduceAdd, Nat.zero_add, and_true] at kT; obtain ⟨⟨kz0, kf0, kc0_0, kc0_1⟩, kE⟩ := kT
  go_wp2_with fail
  go_ret
  have heu := HEU.out
  exact ⟨ret_int (by omega), HX.out.trans Hw3.out⟩
end Go.Proofs.Ytabgcpoaepafjaa
namespace Go.Proofs.Ytabgcpoaepafjaa
open Go.RowKit
set_option maxRecDepth 20000 in
set_option maxHeartbeats 8000000 in
theorem IsDualTree_tree (N E : List P2) (A B A3 : Option Addr) (c c' c3 : Nat) (K : List Nat) (w : World) (hw : WR w N E A B c c') (hwh : wholeB N E = true) (hKl : K.length = (fcs N E).length - 1) (hKp : K.Pairwise (· < ·)) (hKm : ∀ k ∈ K, k < E.length) (hr : RI w A3 (castL K))
    (hj : joinedV (prs (fun k => sd N E (2 * k)) (fun k => sd N E (2 * k + 1)) K) = 2 ^ (fcs N E).length - 1) :
    Calls Try.prog 12 #[.agg #[.slice A N.length c, .slice B E.length c'], .slice A3 K.length c3] w fun e w' => e = .returned (.bool true) ∧ Ext w w' := by
  obtain ⟨i0, hi, hz0, hz1, hz2⟩ := info_parts pair_info
  have HC := hide (fun (W : World) (hE : Ext w W) => by have h := IsWhole_any N E A B c c' W (hw.ext hE); rw [hwh] at h; exact h)
  obtain ⟨hm, hm0, hn2, hn12, heu, hf0⟩ := whole_m hwh
  have HFO := hide (fun (W : World) (hE : Ext w W) => (FacesOf_any N E A B c c' W (hw.ext hE)).mono (R' := fun e w' => ∃ A2 c2, e = .returned (.slice A2 (fcs N E).length c2) ∧ Ext W w') (by rintro e w' ⟨A2, c2, h1, _, _, _, _, h2⟩; exact ⟨A2, c2, h1, h2⟩))
  have HFA := hide (fun (W : World) (hE : Ext w W) => facesAt_any N E A B c c' W (hw.ext hE) hwh)
  have hK20 : K.length ≤ 20 := by omega
  have HRI := hide (fun (W : World) (hE : Ext w W) => rising_any K E.length A3 c3 W (by omega) (by omega) hKp hKm (Rds.ext hr hE))
  have HR := hide (fun (W : World) (hE : Ext w W) => Rds.ext hr hE)
  have hb : ∀ k, k ∈ K → (fun k => sd N E (2 * k)) k ≤ 22 ∧ (fun k => sd N E (2 * k + 1)) k ≤ 22 := fun k hk => by
    have h := (span_plan hwh).lp k (hKm k hk)
    show sd N E (2 * k) ≤ 22 ∧ sd N E (2 * k + 1) ≤ 22
    have h1 : sd N E (2 * k) ≤ (fcs N E).length - 1 := h.1
    have h2 : sd N E (2 * k + 1) ≤ (fcs N E).length - 1 := h.2
    omega
  have hends := prs_ends hb
  obtain ⟨Ps, hPs⟩ : ∃ Ps, prs (fun k => sd N E (2 * k)) (fun k => sd N E (2 * k + 1)) K = Ps := ⟨_, rfl⟩
  have hPl : Ps.length = K.length := by rw [← hPs, prs_length]
  rw [hPs] at hends hj
  obtain ⟨n, hn⟩ : ∃ n, (fcs N E).length = n := ⟨_, rfl⟩
  rw [hn] at hj hKl heu HFO
  have hn22 : n ≤ 22 := by omega
  obtain ⟨s, hs⟩ : ∃ s, sd N E = s := ⟨_, rfl⟩
  rw [hs] at hPs HFA
  have HPT := hide (fun k (hk : k < K.length) => prs_take (X := fun k => s (2 * k)) (Y := fun k => s (2 * k + 1)) hk)
  obtain ⟨F, hF⟩ : ∃ F : Nat → List P2, (fun k => prs (fun k => s (2 * k)) (fun k => s (2 * k + 1)) (K.take k)) = F := ⟨_, rfl⟩
  have hFk : ∀ k, prs (fun k => s (2 * k)) (fun k => s (2 * k + 1)) (K.take k) = F k := fun k => congrFun hF k
  have HF0 := hide (show F 0 = [] by rw [← hFk]; rfl)
  have HPT := hide (fun k (hk : k < K.length) => (by have q := HPT.out k hk; rw [hFk, hFk] at q; exact q : F (k + 1) = F k ++ [((s (2 * K[k]) : Int), (s (2 * K[k] + 1) : Int))]))
  have hFe : prs (fun k => s (2 * k)) (fun k => s (2 * k + 1)) K = F K.length := by rw [← hFk, List.take_length]
  rw [hFe] at hPs
  have HPS := hide hPs
  have HKM := hide hKm
  have hp13 : 2 ^ n ≤ 2 ^ 22 := Nat.pow_le_pow_right (by decide) hn22
  obtain ⟨R, hR⟩ : ∃ R, 2 ^ n = R + 1 := ⟨2 ^ n - 1, by have := Nat.two_pow_pos n; omega⟩
  have HJ := hide (fun (A4 : Option Addr) (c4 : Nat) (W : World) (h : R2 W A4 Ps) => (show Calls Try.prog 46 #[.slice A4 K.length c4] W fun e w' => e = .returned (.int .i64 (R : Int)) ∧ Ext W w' by
    have q := joined_any Ps 22 A4 c4 W (by omega) (by omega) hends h
    rw [hj, hPl, hR, Nat.add_sub_cancel] at q
    exact q))
  have hwr : IntKind.i64.wrap (R : Int) = (R : Int) := by rw [IntKind.wrap_i64]; omega
  have hwl : IntKind.i64.wrap ((2 : Int) ^ n) = (R : Int) + 1 := by rw [shl_one (by omega), hR]; push_cast; rfl
  have HP := hide (And.intro hwl hwr)
  have HPL := hide hPl
  clear hwl hp13 hR hwr hPl
  have hkn : ((K.length : Int) != (n : Int) - 1) = false := by simp; omega
  have hw2 : IntKind.i64.wrap ((n : Int) - 1) = (n : Int) - 1 := by rw [IntKind.wrap_i64]; omega
  clear hw hwh hKl hKp hKm hr hj hb hs hF hFk hFe hPs hends heu hn hf0
  
  go_enter Try.func12, Try.ntmps12
  go_wp2_with fail
  obtain ⟨w0, hw⟩ : ∃ w1, w1 = w.alloc (Obj.cells #[Value.slice A N.length c, Value.slice B E.length c'] 27) := ⟨_, rfl⟩; rw [← hw]; have kT : Tr [(w.heap.size, [.slice A N.length c, .slice B E.length c'])] w w0 := (by rw [hw]; exact ⟨by (first | (simp [Bx, CellsAt, go_sem, *]; done) | (simp [Bx, CellsAt, go_sem, *]; omega)), by (repeat (first | exact kE | exact Ext.refl _ | apply Ext.alloc | apply Ext.drewN | apply Ext.drew | apply Ext.set0 | apply Ext.set1 | apply Ext.set2 | apply Ext.set3 | (refine Ext.setk ?_ (by omega) _) | (apply Ext.snoc; assumption)))⟩); have HT := hide kT; clear hw kT; have kT := HT.out; simp only [Tr, Bx, CellsAt, Nat.reduceAdd, Nat.zero_add, and_true] at kT; obtain ⟨⟨kz0, kf0, kc0_0, kc0_1⟩, kE⟩ := kT
  have hw1 : IntKind.i64.wrap ((E.length : Int) - 1) = (E.length : Int) - 1 := by rw [IntKind.wrap_i64]; omega
  refine (HC.out w0 kE).mono ?_; rintro e w1 ⟨rfl, hb⟩; have HT := hide (HT.out.ext hb); have Hw1 := hide hb; clear hb; clear kz0 kf0 kc0_0 kc0_1 kE; have kT := HT.out; simp only [Tr, Bx, CellsAt, Nat.reduceAdd, Nat.zero_add, and_true] at kT; obtain ⟨⟨kz0, kf0, kc0_0, kc0_1⟩, kE⟩ := kT
  go_wp2_with (go_at_call 45; refine (HRI.out _ kE).mono ?_; rintro e w' ⟨rfl, rfl⟩)
  refine (HFO.out _ kE).mono ?_
  rintro e w2 ⟨A5, c5, rfl, hb2⟩
  have HT' := hide (HT.out.ext hb2)
  clear hb2 HT
  have HT := HT'
  clear HT'
  clear kz0 kf0 kc0_0 kc0_1 kE
  have kT := HT.out; simp only [Tr, Bx, CellsAt, Nat.reduceAdd, Nat.zero_add, and_true] at kT; obtain ⟨⟨kz0, kf0, kc0_0, kc0_1⟩, kE⟩ := kT
  go_wp2_with fail
  refine (HFA.out _ kE).mono ?_
  rintro e w3 ⟨ga, ca, rfl, hat, hb3⟩
  have HAT := hide hat
  have HW3 := hide (kE.trans hb3)
  have HT' := hide (HT.out.ext hb3)
  clear hat hb3 HT
  have HT := HT'
  clear HT'
  clear kz0 kf0 kc0_0 kc0_1 kE
  have kT := HT.out; simp only [Tr, Bx, CellsAt, Nat.reduceAdd, Nat.zero_add, and_true] at kT; obtain ⟨⟨kz0, kf0, kc0_0, kc0_1⟩, kE⟩ := kT
  have HTZ := HT
  go_wp2_with fail
  clear hw1 hkn HT HRI HC hw2 HFO HFA
  clear kz0 kf0 kc0_0 kc0_1 kE
  go_loopw [7, 34] (fun v i wr => ∃ k : Nat, k ≤ K.length ∧ i = .int .i64 k ∧ Hid (wr.ownsRow w3.heap.size 61 2 v k (enc2 (F k))) ∧ Hid (Ext w3 wr)) (fun _ i _ => K.length - (intOf i).toNat)
  case atStart => exact ⟨0, Nat.zero_le _, rfl, hide (by rw [HF0.out]; exact World.ownsRow_nil _ _ _ _), hide (Ext.refl _)⟩
  case round =>
    obtain ⟨k, hk, rfl, HO, HE⟩ := hrel
    have HT := hide (HTZ.out.ext HE.out)
    have kT := HT.out; simp only [Tr, Bx, CellsAt, Nat.reduceAdd, Nat.zero_add, and_true] at kT; obtain ⟨⟨kz0, kf0, kc0_0, kc0_1⟩, kE⟩ := kT
    by_cases hlt : k < K.length
    · have hlz : (k : Int) < (K.length : Int) := by omega
      obtain ⟨b3, o3, rfl, hb3, cj5⟩ := RI.at_ (HR.out _ HW3.out) (k := k) (by rw [castL_length]; exact hlt)
      rw [castL_at hlt] at cj5
      have hKk := HKM.out _ (List.getElem_mem hlt)
      have HTK := hide (HPT.out k hlt)
      obtain ⟨j, hj⟩ : ∃ j, K[k] = j := ⟨_, rfl⟩
      rw [hj] at cj5 hKk HTK
      obtain ⟨i1, hi1⟩ : ∃ i1, i1 = 2 * j := ⟨_, rfl⟩
      obtain ⟨i2, hi2⟩ : ∃ i2, i2 = 2 * j + 1 := ⟨_, rfl⟩
      have hat := own_ext HAT.out HE.out
      have ca1 := own_cellR hat (k := i1) (by omega)
      have ca2 := own_cellR hat (k := i2) (by omega)
      have hag := (own_ltg hat).2
      have hag3 := (own_ltg HAT.out).2
      rw [← hi2, ← hi1] at HTK
      obtain ⟨x, hx⟩ : ∃ x : Nat, s i1 = x := ⟨_, rfl⟩
      obtain ⟨y, hy⟩ : ∃ y : Nat, s i2 = y := ⟨_, rfl⟩
      rw [hx] at ca1 HTK
      rw [hy] at ca2 HTK
      have y1 : (2 * (j : Int)).toNat = i1 := by omega
      have y2 : (2 * (j : Int) + 1).toNat = i2 := by omega
      have y3 : (0 : Int) ≤ 2 * (j : Int) := by omega
      have y4 : (0 : Int) ≤ 2 * (j : Int) + 1 := by omega
      have y5 : 2 * (j : Int) + 1 < 2 * (E.length : Int) := by omega
      have y8 : 2 * (j : Int) < 2 * (E.length : Int) := by omega
      have y6 : IntKind.i64.wrap (2 * (j : Int)) = 2 * (j : Int) := by rw [IntKind.wrap_i64]; omega
      have y7 : IntKind.i64.wrap (2 * (j : Int) + 1) = 2 * (j : Int) + 1 := by rw [IntKind.wrap_i64]; omega
      have cj := (HE.out.facts.1 _ _ hb3).trans cj5
      have hsz := HE.out.size
      have hz1' := HE.out.facts.2.2 _ hb3
      have hbz := HTZ.out.1.1.1
      have HB := hide (own_base HO.out (Nat.le_refl _))
      have HN2 := hide (show u7.ownBlock ≠ some b3 from fun e => by have := HB.out _ e; omega)
      have HN3 := hide (show u7.ownBlock ≠ some ga from fun e => by have := HB.out _ e; omega)
      clear hj hx hy cj5 hbz hi1 hi2 hat hag3
      go_wp2_with fail
      go_region_held3 (fun w' => w'.cell? ⟨b3, o3 + k, none⟩ = some (.int .i64 (j : Nat)) ∧ w'.cell? ⟨ga, i1, none⟩ = some (.int .i64 (x : Nat)) ∧ w'.cell? ⟨ga, i2, none⟩ = some (.int .i64 (y : Nat)))
        (first | go_keep | (go_split_ands; refine ⟨?_, ?_, ?_⟩ <;> (rw [hgrow.cell_far _ (by simp; omega) (by first | exact fun e => HN2.out e.symm | exact HN2.out | exact fun e => HN3.out e.symm | exact HN3.out)]; assumption)))
        ((refine step_append_lies _ (by rfl) _ _ _ (by rfl) w3.heap.size 61 i0 (.agg #[.int .i64 0, .int .i64 0]) 2 16 Try.underlying60 hi hz0 hz1 hz2 rfl (by omega) u7 k (enc2 (F k)) (by rfl) ((own_ext HO.out ((Ext.refl _).alloc _)).drew) ⟨wr.heap.size, 0, none⟩ 1 1 [.int .i64 (x : Nat), .int .i64 (y : Nat)] (by rfl) (by rfl) (World.news_of_block (cs := #[.int .i64 (x : Nat), .int .i64 (y : Nat)]) (t := 61) (fr := (0, 0)) (heap_alloc_new wr _)) (pair_one _ _) (by omega) (by unfold maxLen; omega) (by omega) (by simp; omega) (wr.heap.size + 1) (by simp) ?_; intro gg cap w6 hown6 hgrow hat hlt4))
      go_wp2
      have HO6 := hide (show w6.ownsRow w3.heap.size 61 2 (.slice (some ⟨gg, 0, none⟩) (k + 1) cap) (k + 1) (enc2 (F (k + 1))) by
        rw [HTK.out, enc2_snoc2]
        exact hown6)
      have HE6 := hide (Ext.grown (HE.out.trans (((Ext.refl wr).alloc _).drew)) hgrow HB.out)
      clear hown6 hgrow hat hlt4
      go_roundw
      case rel => exact ⟨k + 1, by omega, by go_num, HO6, HE6⟩
      case measure => simp [intOf]; omega
    · obtain rfl : k = K.length := by omega
      obtain ⟨A4, c4, rfl, _⟩ := own_slice HO.out
      have HJW := hide (fun (W : World) (hE : Ext wr W) => HJ.out A4 c4 W (by
        have h := Rds.of_own (own_ext HO.out hE)
        rw [HPS.out, ← HPL.out] at h
        exact h))
      have HE9 := hide (HW3.out.trans HE.out)
      go_wp2_with fail
      obtain ⟨hwl, hr1⟩ := HP.out
      have kq0_0 := ExtBy.cell (W := wr) kz0 kc0_0; have kq0_1 := ExtBy.cell (W := wr) kz0 kc0_1; refine wp_region_quietE (by kernel_rfl) (by kernel_rfl) ?_; (repeat (refine WQ.step (fun K hK => ?_); have HK := hide hK; clear hK; go_simp; refine HK.out _ ?_; clear HK K)); (refine WQ.step (fun K hK => ?_); have HK := hide hK; clear hK; go_simp; apply Exists.intro; refine ⟨fun _ => ?_, HK.out _ ?_⟩; (go_at_call 46; refine extby_of (HJW.out _ (ExtBy.h _))); clear HK K); (repeat (refine WQ.step (fun K hK => ?_); have HK := hide hK; clear hK; go_simp; refine HK.out _ ?_; clear HK K)); refine WQ.done ?_; intro w9 hw'; obtain ⟨⟨_, hw9⟩, hw''⟩ := hw'; subst hw''; clear kq0_0 kq0_1; have HT := hide (HT.out.ext hw9); have Hw9 := hide hw9; clear hw9 kz0 kf0 kc0_0 kc0_1 kE; have kT := HT.out; simp only [Tr, Bx, CellsAt, Nat.reduceAdd, Nat.zero_add, and_true] at kT; obtain ⟨⟨kz0, kf0, kc0_0, kc0_1⟩, kE⟩ := kT
      go_wp2_with fail
      go_ret
      exact ⟨by simp, HE9.out.trans Hw9.out⟩
end Go.Proofs.Ytabgcpoaepafjaa
