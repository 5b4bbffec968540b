/- The walk of the program's MatchPanes. No condition but that the lists are not too long. -/
import Derived.Test.YtabgcpoaepafjaaGreatMatchD
set_option linter.unusedSimpArgs false
set_option linter.unusedVariables false
namespace Go.Proofs.YtabgcpoaepafjaaGreat
open Go.RowKit

theorem RNN.drop {w : World} {P : List (List Nat)} {b off k : Nat} (h : RNN w (some ⟨b, off, none⟩) P) : RNN w (some ⟨b, off + k, none⟩) (P.drop k) := by
  obtain ⟨hs, h1, h2⟩ := h
  refine ⟨hs.drop k, ⟨by have := h1.1; simp at this ⊢; omega, fun hp => ?_⟩, fun i hi => ?_⟩
  · obtain ⟨b', off', e, hb, hc⟩ := h1.2 (by simp at hp; omega)
    injection e with e
    injection e with e1 e2
    subst e1 e2
    refine ⟨b, off + k, rfl, hb, fun j u hj => ?_⟩
    rw [List.getElem?_drop] at hj
    rw [Nat.add_assoc]
    exact hc _ u hj
  · have hi2 : k + i < P.length := by simp at hi; omega
    obtain ⟨B, c, e1, e2, e3, e4⟩ := h2 (k + i) hi2
    refine ⟨B, c, ?_, ?_, e3, ?_⟩
    · rw [List.getElem?_drop, e1]
      simp
    · simpa using e2
    · simpa using e4
theorem Bits.nil : Bits 0 [] := fun f => by simp
theorem Bits.snoc {U p : Nat} {used : List Nat} (h : Bits U used) : Bits (U ||| 2 ^ p) (used ++ [p]) := fun f => by
  rw [List.mem_append, List.mem_singleton, h f, Nat.testBit_or, Bool.or_eq_true, Nat.testBit_two_pow, decide_eq_true_eq]
  exact or_congr Iff.rfl eq_comm
theorem Bits.has {U p : Nat} {used : List Nat} (h : Bits U used) : used.contains p = U.testBit p := by
  rw [Bool.eq_iff_iff, ← h p]
  simp
set_option maxRecDepth 20000 in
set_option maxHeartbeats 16000000 in
theorem MatchPanes_any (N E : List P2) (L : List (List P2)) (A B C : Option Addr) (c c' c3 : Nat) (w : World) (hw : WR w N E A B c c') (hl : L.length ≤ 1048576) (hls : ∀ S ∈ L, S.length ≤ 1048576) (hr : RSS w C L) :
    Calls Tryz.prog 9 #[.agg #[.slice A N.length c, .slice B E.length c'], .slice C L.length c3] w fun e w' => ∃ A2 c2, e = .returned (.slice A2 (matchV N E L).length c2) ∧ w'.ownsRow w.heap.size 3 1 (.slice A2 (matchV N E L).length c2) (matchV N E L).length (encI (matchV N E L)) ∧ Ext w w' := by
  obtain ⟨i0, hi, hz0, hz1, hz2⟩ := info_parts int_info
  have HNO := hide (fun (W : World) (hE : Ext w W) (ha : askB N E L = false) => placesOf_no N E L A B C c c' c3 W (hw.ext hE) hl ha)
  have HYES := hide (fun (W : World) (hE : Ext w W) (ha : askB N E L = true) => placesOf_yes N E L A B C c c' c3 W (hw.ext hE) hls (hr.ext hE) ha)
  have HVN := hide (fun h => matchV_no (N := N) (E := E) (L := L) h)
  have HVY := hide (fun h => matchV_yes (N := N) (E := E) (L := L) h)
  have HPL := hide (plN_length N E L)
  have HLT := hide (plN_lt N E L)
  have HP40 := hide (plN_len N E L)
  have H8 := hide (show askB N E L = true → L.length ≤ 8 from fun h => by unfold askB at h; rw [Bool.and_eq_true, decide_eq_true_eq] at h; exact h.2)
  obtain ⟨P, hP⟩ : ∃ P, plN N E L = P := ⟨_, rfl⟩
  obtain ⟨V, hV⟩ : ∃ V, matchV N E L = V := ⟨_, rfl⟩
  obtain ⟨q, hq⟩ : ∃ q, askB N E L = q := ⟨_, rfl⟩
  rw [hP] at HYES HVY HPL HLT HP40
  rw [hV] at HVN HVY ⊢
  rw [hq] at HNO HYES HVN HVY H8
  clear hw hr hls hP hV hq
  
  go_enter Tryz.func9, Tryz.ntmps9
  go_wp2_with fail
  obtain ⟨w0, hw⟩ : ∃ w1, w1 = w.alloc (Obj.cells #[Value.slice A N.length c, Value.slice B E.length c'] 27) := ⟨_, rfl⟩; rw [← hw]; have kT : Tr [(w.heap.size, [.slice A N.length c, .slice B E.length c'])] w w0 := (by rw [hw]; exact ⟨by (first | (simp [Bx, CellsAt, go_sem, *]; done) | (simp [Bx, CellsAt, go_sem, *]; omega)), by (repeat (first | exact kE | exact Ext.refl _ | apply Ext.alloc | apply Ext.drewN | apply Ext.drew | apply Ext.set0 | apply Ext.set1 | apply Ext.set2 | apply Ext.set3 | (refine Ext.setk ?_ (by omega) _) | (apply Ext.snoc; assumption)))⟩); have HT := hide kT; clear hw kT; have kT := HT.out; simp only [Tr, Bx, CellsAt, Nat.reduceAdd, Nat.zero_add, and_true] at kT; obtain ⟨⟨kz0, kf0, kc0_0, kc0_1⟩, kE⟩ := kT
  cases q with
  | false =>
    refine (HNO.out _ kE rfl).mono ?_
    rintro e w3 ⟨rfl, hb⟩
    have HE := hide (kE.trans hb)
    clear hb
    obtain rfl := HVN.out rfl
    go_wp2_with fail
    go_ret
    exact ⟨none, 0, rfl, World.ownsRow_nil _ _ _ _, HE.out⟩
  | true =>
    refine (HYES.out _ kE rfl).mono ?_
    rintro e w3 ⟨A2, c2, rfl, hc1, hc2, hrnn, hb⟩
    have HR := hide hrnn
    have HE3 := hide (kE.trans hb)
    have h8 := H8.out rfl
    have HV2 := hide (HVY.out rfl)
    clear hb hrnn HVN HVY HNO HYES HT H8
    clear kz0 kf0 kc0_0 kc0_1 kE
    obtain ⟨m, hm⟩ : ∃ m, L.length = m := ⟨_, rfl⟩
    have HPM := hide (show P.length = m from by rw [HPL.out, hm])
    rw [hm] at hc1 h8 ⊢
    clear HPL hm
    have HMA := hide (show ∀ (W : World), Ext w3 W → Calls Tryz.prog 46 #[.slice A2 m c2, .int .i64 0] W fun e w' => e = .returned (.int .i64 (bestM P [] : Nat)) ∧ Ext W w' from fun W hE => matched_any P A2 c2 m 0 [] W HPM.out h8 HP40.out HLT.out (by decide) Bits.nil (HR.out.ext hE))
    have hb0 := bestM_le P []
    rw [HPM.out] at hb0
    obtain ⟨bb, hbb⟩ : ∃ x, bestM P [] = x := ⟨_, rfl⟩
    have HB0 := hide hbb
    rw [hbb] at HMA hb0
    clear hbb
    go_wp2_with fail
    refine (HMA.out _ (Ext.refl _)).mono ?_
    rintro e w4 ⟨rfl, hb4⟩
    have HE4 := hide hb4
    clear hb4 HMA
    go_wp2_with fail
    go_loopw [7, 8, 9, 27] (fun vm vu vo i wr => ∃ (y most U : Nat) (used : List Nat) (zs : List Int), y ≤ m ∧ i = .int .i64 y ∧ vm = .int .i64 most ∧ vu = .int .i64 U ∧ most ≤ m ∧ U < 2 ^ 40 ∧ Hid (Bits U used) ∧ Hid (bestM (P.drop y) used = most) ∧ Hid (V = zs ++ pickR (P.drop y) used) ∧ Hid (wr.ownsRow w3.heap.size 3 1 vo y (encI zs)) ∧ Hid (Ext w3 wr)) (fun _ _ _ i _ => m - (intOf i).toNat)
    case atStart => exact ⟨0, bb, 0, [], [], Nat.zero_le _, rfl, rfl, rfl, hb0, by decide, hide Bits.nil, hide HB0.out, hide (by rw [HV2.out]; rfl), hide (World.ownsRow_nil _ _ _ _), HE4⟩
    case round =>
      obtain ⟨y, most, U, used, zs, hy, rfl, rfl, rfl, hmost, hU, HBI, HBE, HV, HO, HE⟩ := hrel
      have hsz := HE.out.size
      by_cases hlt : y < m
      · have hlz : (y : Int) < (m : Int) := by omega
        have hyP : y < P.length := by rw [HPM.out]; exact hlt
        have hdr : P.drop y = P[y] :: P.drop (y + 1) := List.drop_eq_getElem_cons hyP
        have hr40 := HP40.out _ (List.getElem_mem hyP)
        have HRL := hide (HLT.out _ (List.getElem_mem hyP))
        obtain ⟨bP, oP, rfl, hbP, D, dd, cP, hd1, hd2, hrD⟩ := (HR.out.ext HE.out).at_ hyP
        have HRD := hide hrD
        obtain ⟨A3, hA3⟩ : ∃ A3, (if c2 = y + 1 then some (⟨bP, oP, none⟩ : Addr) else some ⟨bP, oP + (y + 1), none⟩) = A3 := ⟨_, rfl⟩
        have HA3 := hide hA3
        have HTL := hide (show RNN wr A3 (P.drop (y + 1)) from by
          rw [← hA3]
          split
          · rename_i e
            rw [List.drop_of_length_le (by rw [HPM.out]; omega)]
            exact ⟨[], ⟨rfl, fun h => absurd h (by simp)⟩, fun i hi => absurd hi (by simp)⟩
          · exact RNN.drop (k := y + 1) (HR.out.ext HE.out))
        clear hA3
        have HQ40 := hide (fun r (hr : r ∈ P.drop (y + 1)) => HP40.out r (List.mem_of_mem_drop hr))
        have HQLT := hide (fun r (hr : r ∈ P.drop (y + 1)) => HLT.out r (List.mem_of_mem_drop hr))
        have hQm : (P.drop (y + 1)).length = m - (y + 1) := by rw [List.length_drop, HPM.out]
        rw [hdr] at HBE HV
        obtain ⟨r, hrr⟩ : ∃ r, P[y] = r := ⟨_, rfl⟩
        rw [hrr] at hr40 HRL cP hd1 HRD HBE HV
        obtain ⟨Q, hQ⟩ : ∃ Q, P.drop (y + 1) = Q := ⟨_, rfl⟩
        rw [hQ] at HBE HV HTL HQ40 HQLT hQm
        have HMQ := hide (show ∀ (p : Nat), p < 40 → ∀ (W : World), Ext wr W → Calls Tryz.prog 46 #[.slice A3 (m - (y + 1)) (c2 - (y + 1)), .int .i64 ((U ||| 2 ^ p : Nat) : Int)] W fun e w' => e = .returned (.int .i64 (bestM Q (used ++ [p]) : Nat)) ∧ Ext W w' from fun p hp W hE => matched_any Q _ _ _ (U ||| 2 ^ p) (used ++ [p]) W hQm (by omega) HQ40.out HQLT.out (asked_lt hU hp) HBI.out.snoc (HTL.out.ext hE))
        have HBQ := hide (fun u => bestM_le Q u)
        have HTK := hide (show ∀ p, takes Q used most p = (!used.contains p && decide (1 + bestM Q (used ++ [p]) = most)) from fun p => rfl)
        have HPK := hide (show pickOf r Q used = r.find? (takes Q used most) from by rw [← HBE.out]; rfl)
        have HQ := hide hQ
        obtain ⟨T, hT⟩ : ∃ T, takes Q used most = T := ⟨_, rfl⟩
        rw [hT] at HTK HPK
        clear hT hQ hrr hdr hyP hrD HTL HQ40 HQLT
        go_wp2_with fail
        go_loopw [12, 34] (fun v i wq => ∃ j : Nat, j ≤ r.length ∧ i = .int .i64 j ∧ v = .int .i64 (-1) ∧ Hid (FindI r T j (-1)) ∧ Hid (Ext wr wq)) (fun _ i _ => r.length - (intOf i).toNat)
        case atStart => exact ⟨0, Nat.zero_le _, rfl, rfl, hide (FindI.start r T), hide (Ext.refl _)⟩
        case round =>
          obtain ⟨j, hj, rfl, rfl, HF, HE3⟩ := hrel
          by_cases hjr : j < r.length
          · have hjz : (j : Int) < (r.length : Int) := by omega
            obtain ⟨bR, oR, rfl, hbR, hcR⟩ := (Rds.ext HRD.out HE3.out).2 (by omega)
            have cR := hcR j _ (encI_castZ_get hjr)
            have hpl := HRL.out _ (List.getElem_mem hjr)
            have HNO := hide (HF.out.no hjr (by decide))
            have HYES := hide (HF.out.yes hjr (by decide))
            obtain ⟨p, hp⟩ : ∃ p, r[j] = p := ⟨_, rfl⟩
            rw [hp] at cR hpl HNO HYES
            have hbm := HBQ.out (used ++ [p])
            have htk := HTK.out p
            have hbit := bit_at U p (Nat.lt_of_lt_of_le hU (by decide))
            have bsh := or_shl (u := U) (f := p) (Nat.lt_of_lt_of_le hU (by decide)) (by omega)
            rw [HBI.out.has] at htk
            clear hp hcR HF
            go_upto_region 14 with fail
            cases ht : U.testBit p with
            | true =>
              rw [ht] at hbit htk
              simp only [if_true] at hbit
              rw [Bool.not_true, Bool.false_and] at htk
              have HNO2 := hide (HNO.out htk)
              clear HNO HYES htk ht
              go_region
              go_wp2_with fail
              go_roundw
              case rel => exact ⟨j + 1, by omega, by go_num, rfl, HNO2, by first | exact HE3 | exact hide HE3.out.drew⟩
              case measure => simp [intOf]; omega
            | false =>
              rw [ht] at hbit htk
              simp only [Bool.false_eq_true, if_false] at hbit
              rw [Bool.not_false, Bool.true_and] at htk
              have HQC := hide (fun q : ExtBy wr => HMQ.out p hpl q.w (HE3.out.trans q.h))
              obtain ⟨Bq, hBq⟩ : ∃ Bq, bestM Q (used ++ [p]) = Bq := ⟨_, rfl⟩
              rw [hBq] at htk hbm HQC
              have HBQ2 := hide hBq
              clear ht hBq
              have hwy : IntKind.i64.wrap ((y : Int) + 1) = (y : Int) + 1 := by rw [IntKind.wrap_i64]; omega
              have hmw : IntKind.i64.wrap ((most : Int) - 1) = (most : Int) - 1 := by rw [IntKind.wrap_i64]; omega
              have hty : ((y : Int) + 1).toNat = y + 1 := by omega
              have hy0 : (0 : Int) ≤ (y : Int) + 1 := by omega
              have hym : (y : Int) + 1 ≤ (m : Int) := by omega
              have hA3 := HA3.out
              
              refine wp_region_quietE (by kernel_rfl) (by kernel_rfl) ?_; (repeat (refine WQ.step (fun K hK => ?_); have HK := hide hK; clear hK; go_simp; refine HK.out _ ?_; clear HK K)); (refine WQ.step (fun K hK => ?_); have HK := hide hK; clear hK; go_simp; apply Exists.intro; refine ⟨fun _ => ?_, HK.out _ ?_⟩; (go_at_call 46; refine extby_of (HQC.out _)); clear HK K); (repeat (refine WQ.step (fun K hK => ?_); have HK := hide hK; clear hK; go_simp; refine HK.out _ ?_; clear HK K)); refine WQ.done ?_; intro w7 hw'; obtain ⟨⟨_, hw7⟩, hw''⟩ := hw'; subst hw''
              have HE7 := hide (HE3.out.trans hw7)
              clear hw7 hwy hty hy0 hym hA3 HQC hmw
              by_cases heq : 1 + Bq = most
              · have hez : ((Bq : Int) == (most : Int) - 1) = true := by rw [beq_iff_eq]; omega
                rw [decide_eq_true heq] at htk
                have hpz : (0 : Int) ≤ (p : Int) := by omega
                have bsh2 : bits .or .i64 (U : Int) (wrap64 ((2 : Int) ^ p)) = ((U ||| 2 ^ p : Nat) : Int) := by rw [wrap64_eq]; exact bsh
                obtain ⟨p', hpp, hfi⟩ := (HYES.out htk).some (by omega)
                have hpp2 : p' = p := by omega
                rw [hpp2] at hfi
                have HV9 := hide (show V = (zs ++ [(p : Int)]) ++ pickR Q (used ++ [p]) from by rw [HV.out, pickR_yes (HPK.out.trans hfi)]; simp)
                have HO7 := hide (own_ext HO.out HE7.out)
                have hsz7 := HE7.out.size
                have hasl := asked_lt hU hpl
                have HBS := hide (HBI.out.snoc (p := p))
                clear HNO HYES htk hfi hpp hpp2 p'
                go_wp2_with (at_builtin; refine wpList_append_own _ rfl _ _ 31 rfl w3.heap.size 3 i0 (.int .i64 0) 1 8 Tryz.underlying31 hi hz0 hz1 hz2 rfl (by decide) u9 y (encI zs) rfl (own_ext HO7.out ((Ext.refl _).alloc _)) ⟨w7.heap.size, 0, none⟩ 1 1 [.int .i64 (p : Int)] rfl rfl (news_new w7 #[.int .i64 (p : Int)] 3) (enc_one _) (by unfold maxLen; omega) (by omega) (by first | (simp; done) | (simp; omega)) ?_; intro v6 w8 hown8 hgrow8 hnil8)
                have HX8 := hide (Ext.grown ((HE.out.trans HE7.out).alloc _) hgrow8 (own_base HO7.out (Nat.le_refl _)))
                have HO8 := hide (show w8.ownsRow w3.heap.size 3 1 v6 (y + 1) (encI (zs ++ [(p : Int)])) from by rw [encI_snoc]; exact hown8)
                clear hown8 hgrow8 hnil8
                go_roundw
                case rel => exact ⟨y + 1, Bq, _, used ++ [p], zs ++ [(p : Int)], by omega, by go_num, by go_num, rfl, by omega, hasl, HBS, hide (by rw [HQ.out]; exact HBQ2.out), hide (by rw [HQ.out]; exact HV9.out), HO8, HX8⟩
                case measure => simp [intOf]; omega
              · have hez : ((Bq : Int) == (most : Int) - 1) = false := by rw [beq_eq_false_iff_ne]; omega
                have hez2 : ¬ (Bq : Int) = (most : Int) - 1 := by omega
                rw [decide_eq_false heq] at htk
                have HNO2 := hide (HNO.out htk)
                clear HNO HYES htk heq
                go_wp2_with fail
                go_roundw
                case rel => exact ⟨j + 1, by omega, by go_num, rfl, HNO2, by first | exact HE7 | exact hide HE7.out.drew⟩
                case measure => simp [intOf]; omega
          · obtain rfl : j = r.length := by omega
            obtain ⟨_, hfi⟩ := HF.out.none (by decide)
            have hpk := HPK.out.trans hfi
            have HV9 := hide (show V = (zs ++ [(-1 : Int)]) ++ pickR Q used from by rw [HV.out, pickR_none hpk]; simp)
            have HB9 := hide (show bestM (P.drop (y + 1)) used = most from by rw [HQ.out, ← HBE.out, pick_none hpk])
            have HO7 := hide (own_ext HO.out HE3.out)
            have hsz7 := HE3.out.size
            clear hfi hpk HF
            go_wp2_with (at_builtin; refine wpList_append_own _ rfl _ _ 31 rfl w3.heap.size 3 i0 (.int .i64 0) 1 8 Tryz.underlying31 hi hz0 hz1 hz2 rfl (by decide) u9 y (encI zs) rfl (own_ext HO7.out ((Ext.refl _).alloc _)) ⟨wr.heap.size, 0, none⟩ 1 1 [.int .i64 (-1)] rfl rfl (news_new wr #[.int .i64 (-1)] 3) (enc_one _) (by unfold maxLen; omega) (by omega) (by first | (simp; done) | (simp; omega)) ?_; intro v6 w8 hown8 hgrow8 hnil8)
            have HX8 := hide (Ext.grown ((HE.out.trans HE3.out).alloc _) hgrow8 (own_base HO7.out (Nat.le_refl _)))
            have HO8 := hide (show w8.ownsRow w3.heap.size 3 1 v6 (y + 1) (encI (zs ++ [(-1 : Int)])) from by rw [encI_snoc]; exact hown8)
            clear hown8 hgrow8 hnil8
            go_roundw
            case rel => exact ⟨y + 1, most, U, used, zs ++ [(-1 : Int)], by omega, by go_num, rfl, rfl, hmost, hU, HBI, HB9, hide (by rw [HQ.out]; exact HV9.out), HO8, HX8⟩
            case measure => simp [intOf]; omega
      · obtain rfl : y = m := by omega
        have hV := HV.out
        rw [List.drop_of_length_le (by rw [HPM.out]; omega), pickR, List.append_nil] at hV
        subst hV
        have HX := hide (HE3.out.trans HE.out)
        obtain ⟨Ar, cr, rfl, _⟩ := own_slice HO.out
        have HO9 := hide HO.out
        have hzl : V.length = y := by have := HO9.out.1; simpa [encI] using this
        have HZL := hide hzl
        clear hzl HO
        go_wp2_with fail
        go_ret
        have h9 := HO9.out
        rw [HZL.out]
        exact ⟨Ar, cr, rfl, own_mono h9 (by have := HE3.out.size; omega), HX.out⟩
end Go.Proofs.YtabgcpoaepafjaaGreat
