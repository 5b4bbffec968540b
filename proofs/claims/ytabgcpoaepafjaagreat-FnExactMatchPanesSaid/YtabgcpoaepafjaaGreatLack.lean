/- The walk of the program's LackingShapes. No condition but that the lists are not too long. -/
import Derived.Test.YtabgcpoaepafjaaGreatPlOf
import Derived.Test.YtabgcpoaepafjaaGreatMatchP
set_option linter.unusedSimpArgs false
set_option linter.unusedVariables false
namespace Go.Proofs.YtabgcpoaepafjaaGreat
open Go.RowKit

/-- The shapes of the first set with too few places. -/
noncomputable def lackV (N E : List P2) (L : List (List P2)) : List Int := if askB N E L = true then lackM (plN N E L) 40 else []
theorem lackV_no {N E : List P2} {L : List (List P2)} (h : askB N E L = false) : lackV N E L = [] := by unfold lackV; rw [if_neg (by simp [h])]
theorem lackV_yes {N E : List P2} {L : List (List P2)} (h : askB N E L = true) : lackV N E L = lackM (plN N E L) 40 := by unfold lackV; rw [if_pos h]
theorem lackV_len (N E : List P2) (L : List (List P2)) : (lackV N E L).length ≤ 8 := by
  cases h : askB N E L with
  | false => rw [lackV_no h]; simp
  | true =>
    rw [lackV_yes h]
    have h1 := lackM_length (plN N E L) 40
    rw [plN_length] at h1
    unfold askB at h
    rw [Bool.and_eq_true, decide_eq_true_eq] at h
    omega
set_option maxRecDepth 20000 in
set_option maxHeartbeats 16000000 in
theorem LackingShapes_any (N E : List P2) (L : List (List P2)) (A B C : Option Addr) (c c' c3 : Nat) (w : World) (hw : WR w N E A B c c') (hl : L.length ≤ 1048576) (hls : ∀ S ∈ L, S.length ≤ 1048576) (hr : RSS w C L) :
    Calls Tryz.prog 10 #[.agg #[.slice A N.length c, .slice B E.length c'], .slice C L.length c3] w fun e w' => ∃ A2 c2, e = .returned (.slice A2 (lackV N E L).length c2) ∧ w'.ownsRow w.heap.size 3 1 (.slice A2 (lackV N E L).length c2) (lackV N E L).length (encI (lackV N E L)) ∧ Ext w w' := by
  have HNO := hide (fun (W : World) (hE : Ext w W) (ha : askB N E L = false) => placesOf_no N E L A B C c c' c3 W (hw.ext hE) hl ha)
  have HYES := hide (fun (W : World) (hE : Ext w W) (ha : askB N E L = true) => placesOf_yes N E L A B C c c' c3 W (hw.ext hE) hls (hr.ext hE) ha)
  have HVN := hide (fun h => lackV_no (N := N) (E := E) (L := L) h)
  have HVY := hide (fun h => lackV_yes (N := N) (E := E) (L := L) h)
  have HPL := hide (plN_length N E L)
  have HLT := hide (plN_lt N E L)
  have HP40 := hide (plN_len N E L)
  have H8 := hide (show askB N E L = true → L.length ≤ 8 from fun h => by unfold askB at h; rw [Bool.and_eq_true, decide_eq_true_eq] at h; exact h.2)
  obtain ⟨P, hP⟩ : ∃ P, plN N E L = P := ⟨_, rfl⟩
  obtain ⟨V, hV⟩ : ∃ V, lackV N E L = V := ⟨_, rfl⟩
  obtain ⟨q, hq⟩ : ∃ q, askB N E L = q := ⟨_, rfl⟩
  rw [hP] at HYES HVY HPL HLT HP40
  rw [hV] at HVN HVY ⊢
  rw [hq] at HNO HYES HVN HVY H8
  clear hw hr hls hP hV hq
  
  go_enter Tryz.func10, Tryz.ntmps10
  go_wp2_with fail
  obtain ⟨w0, hw⟩ : ∃ w1, w1 = w.alloc (Obj.cells #[Value.slice A N.length c, Value.slice B E.length c'] 27) := ⟨_, rfl⟩; rw [← hw]; have kT : Tr [(w.heap.size, [.slice A N.length c, .slice B E.length c'])] w w0 := (by rw [hw]; exact ⟨by (first | (simp [Bx, CellsAt, go_sem, *]; done) | (simp [Bx, CellsAt, go_sem, *]; omega)), by (repeat (first | exact kE | exact Ext.refl _ | apply Ext.alloc | apply Ext.drewN | apply Ext.drew | apply Ext.set0 | apply Ext.set1 | apply Ext.set2 | apply Ext.set3 | (refine Ext.setk ?_ (by omega) _) | (apply Ext.snoc; assumption)))⟩); have HT := hide kT; clear hw kT; have kT := HT.out; simp only [Tr, Bx, CellsAt, Nat.reduceAdd, Nat.zero_add, and_true] at kT; obtain ⟨⟨kz0, kf0, kc0_0, kc0_1⟩, kE⟩ := kT
  cases q with
  | false =>
    refine (HNO.out _ kE rfl).mono ?_
    rintro e w3 ⟨rfl, hb⟩
    have HE := hide (kE.trans hb)
    clear hb
    obtain rfl := HVN.out rfl
    go_wp2_with fail
    go_ret
    exact ⟨none, 0, rfl, World.ownsRow_nil _ _ _ _, HE.out⟩
  | true =>
    refine (HYES.out _ kE rfl).mono ?_
    rintro e w3 ⟨A2, c2, rfl, hc1, hc2, hrnn, hb⟩
    have HR := hide hrnn
    have HE3 := hide (kE.trans hb)
    have h8 := H8.out rfl
    have HV2 := hide (HVY.out rfl)
    clear hb hrnn HVN HVY HNO HYES HT H8
    clear kz0 kf0 kc0_0 kc0_1 kE
    obtain ⟨m, hm⟩ : ∃ m, L.length = m := ⟨_, rfl⟩
    have HPM := hide (show P.length = m from by rw [HPL.out, hm])
    rw [hm] at hc1 h8 ⊢
    clear HPL hm
    obtain ⟨M, hM⟩ : ∃ M, 2 ^ m = M := ⟨_, rfl⟩
    have hM1 : 1 ≤ M := by rw [← hM]; exact Nat.one_le_two_pow
    have hM2 : M ≤ 256 := by rw [← hM]; exact Nat.pow_le_pow_right (n := 2) (by decide) h8
    have hpw : IntKind.i64.wrap ((2 : Int) ^ m) = (M : Int) := by rw [pow_word (by omega), hM]
    have HM := hide hM
    clear hM
    go_wp2_with fail
    go_loopw [7] (fun i wr => ∃ s : Nat, 1 ≤ s ∧ s ≤ M ∧ i = .int .i64 s ∧ Hid (lackF P 40 (M - s) s = V) ∧ Hid (Ext w3 wr)) (fun i _ => M - (intOf i).toNat)
    case atStart => exact ⟨1, by omega, hM1, rfl, hide (by rw [HV2.out, lackM, HPM.out, HM.out]), hide (Ext.refl _)⟩
    case round =>
      obtain ⟨s, hs1, hsM, rfl, HF, HE⟩ := hrel
      have hszr := HE.out.size
      by_cases hlt : s < M
      · have hlz : (s : Int) < (M : Int) := by omega
        have hsm : s < 2 ^ m := by rw [HM.out]; exact hlt
        have HMO := hide (membersOf_any s m wr hsm (by omega))
        have HSM := hide hsm
        have HI := hide (show ∀ j (hj : j < (memN s m).length), (memN s m)[j] < m from fun j hj => (memN_mem.1 (List.getElem_mem hj)).1)
        have hml : (memN s m).length ≤ 8 := Nat.le_trans (memN_length s m) h8
        have HOR := hide (show orL P (memN s m) = orB P s m from orL_mem P s m)
        have HFEW := hide (show fewB P 40 s = decide ((memN (orB P s m) 40).length < (memN s m).length) from by unfold fewB; rw [HPM.out])
        have HMI := hide (show memI s m = castZ (memN s m) from rfl)
        have HFY := hide (show fewB P 40 s = true → V = memI s m from fun h => by
          have h2 := HF.out
          rw [show M - s = (M - (s + 1)) + 1 by omega, lackF_yes h, HPM.out] at h2
          exact h2.symm)
        have HFN := hide (show fewB P 40 s = false → lackF P 40 (M - (s + 1)) (s + 1) = V from fun h => by
          have h2 := HF.out
          rw [show M - s = (M - (s + 1)) + 1 by omega, lackF_no h] at h2
          exact h2)
        have HMIL := hide (memI_length s m)
        rw [HMI.out, castZ_length] at HMO
        rw [HMI.out] at HFY
        obtain ⟨K, hK⟩ : ∃ K, memN s m = K := ⟨_, rfl⟩
        rw [hK] at HMO HI hml HOR HFEW HFY
        clear hK hsm HF HMI HMIL
        go_wp2_with fail
        refine HMO.out.mono ?_
        rintro e w4 ⟨A4, c4, rfl, ho4, hb4⟩
        have HK4 := hide ho4
        have HRK := hide (Rds.of_own ho4)
        have hlen4 := own_len ho4
        have HE4 := hide (HE.out.trans hb4)
        clear ho4 hb4 HMO HE
        go_wp2_with fail
        go_loopw [9, 33] (fun v i wr => ∃ j : Nat, j ≤ K.length ∧ i = .int .i64 j ∧ v = .int .i64 (orL P (K.take j) : Nat) ∧ Hid (Ext w4 wr)) (fun _ i _ => K.length - (intOf i).toNat)
        case atStart => exact ⟨0, Nat.zero_le _, rfl, rfl, hide (Ext.refl _)⟩
        case round =>
          obtain ⟨j, hj, rfl, rfl, HE5⟩ := hrel
          by_cases hjl : j < K.length
          · have hjz : (j : Int) < (K.length : Int) := by omega
            have HX5 := hide (HE4.out.trans HE5.out)
            obtain ⟨bK, oK, rfl, hbK, hcK⟩ := (Rds.ext HRK.out HE5.out).2 (by omega)
            have cK := hcK j _ (encI_castZ_get hjl)
            have hi2 := HI.out j hjl
            have HSN := hide (show orL P (K.take (j + 1)) = orL P (K.take j) ||| bitsOf (P.getD K[j] []) from by rw [List.take_succ_eq_append_getElem hjl, orL_snoc])
            obtain ⟨x, hx⟩ : ∃ x, K[j] = x := ⟨_, rfl⟩
            rw [hx] at cK hi2 HSN
            have hxz : (x : Int) < (m : Int) := by omega
            have hxP : x < P.length := by rw [HPM.out]; exact hi2
            obtain ⟨bP, oP, rfl, hbP, D, d, cP, hd1, hd2, hrD⟩ := (HR.out.ext HX5.out).at_ hxP
            have HRD := hide hrD
            have hr40 := HP40.out _ (List.getElem_mem hxP)
            have HRL := hide (HLT.out _ (List.getElem_mem hxP))
            have hgd : P.getD x [] = P[x] := by simp [hxP]
            rw [hgd] at HSN
            obtain ⟨r, hr⟩ : ∃ r, P[x] = r := ⟨_, rfl⟩
            rw [hr] at cP HRD hr40 HRL HSN hd1
            have hu := orL_lt HLT.out (K.take j)
            obtain ⟨u, hu2⟩ : ∃ u, orL P (K.take j) = u := ⟨_, rfl⟩
            rw [hu2] at hu HSN ⊢
            have HU := hide hu
            clear hu hu2 hr hgd hx hcK hrD hxP
            go_wp2_with fail
            go_loopw [9, 42] (fun v i wz => ∃ y : Nat, y ≤ r.length ∧ i = .int .i64 y ∧ v = .int .i64 ((u ||| bitsOf (r.take y) : Nat) : Int) ∧ Hid (Ext wr wz)) (fun _ i _ => r.length - (intOf i).toNat)
            case atStart => exact ⟨0, Nat.zero_le _, rfl, by simp [bitsOf], hide (Ext.refl _)⟩
            case round =>
              obtain ⟨y, hy, rfl, rfl, HE6⟩ := hrel
              by_cases hyl : y < r.length
              · have hyz : (y : Int) < (r.length : Int) := by omega
                obtain ⟨bR, oR, rfl, hbR, hcR⟩ := (Rds.ext HRD.out HE6.out).2 (by omega)
                have cR := hcR y _ (encI_castZ_get hyl)
                have hfl := HRL.out _ (List.getElem_mem hyl)
                have HBT := hide (bitsOf_take hyl)
                have hb1 := bitsOf_take_lt HRL.out y
                obtain ⟨f, hf⟩ : ∃ f, r[y] = f := ⟨_, rfl⟩
                rw [hf] at cR hfl HBT
                obtain ⟨z, hz⟩ : ∃ z, u ||| bitsOf (r.take y) = z := ⟨_, rfl⟩
                have HZ := hide hz
                have hzl : z < 2 ^ 40 := by rw [← hz]; exact Nat.or_lt_two_pow HU.out hb1
                rw [hz]
                have hor := or_shl (u := z) (f := f) (Nat.lt_of_lt_of_le hzl (by decide)) (by omega)
                clear hz hf hcR hb1 hzl
                go_wp2_with fail
                go_roundw
                case rel => exact ⟨y + 1, by omega, by go_num, by rw [HBT.out, ← Nat.or_assoc, HZ.out]; rw [IntWalk.i64_left] at hor; rw [hor], HE6⟩
                case measure => simp [intOf]; omega
              · obtain rfl : y = r.length := by omega
                rw [List.take_length]
                have HSN2 := hide (show u ||| bitsOf r = orL P (K.take (j + 1)) from HSN.out.symm)
                go_wp2_with fail
                go_roundw
                case rel => exact ⟨j + 1, by omega, by go_num, by rw [HSN2.out], hide (HE5.out.trans HE6.out)⟩
                case measure => simp [intOf]; omega
          · obtain rfl : j = K.length := by omega
            have HX5 := hide (HE4.out.trans HE5.out)
            have HK5 := hide (own_ext HK4.out HE5.out)
            rw [List.take_length, HOR.out]
            have hu := orB_lt HLT.out s m
            obtain ⟨u, hu2⟩ : ∃ u, orB P s m = u := ⟨_, rfl⟩
            rw [hu2] at hu HFEW ⊢
            have HM2 := hide (show ∀ W, Calls Tryz.prog 47 #[.int .i64 u] W fun e w' => ∃ A c, e = .returned (.slice A (memN u 40).length c) ∧ Ext W w' from fun W => (membersOf_any u 40 W hu (by omega)).mono (by rintro e w' ⟨A, c, rfl, _, h2⟩; exact ⟨A, c, by rw [memI_length], h2⟩))
            have hu40 : (memN u 40).length ≤ 40 := memN_length u 40
            obtain ⟨t, ht⟩ : ∃ t, (memN u 40).length = t := ⟨_, rfl⟩
            rw [ht] at HFEW HM2 hu40
            clear hu2 ht hu
            go_wp2_with fail
            refine (HM2.out _).mono ?_
            rintro e w6 ⟨A6, c6, rfl, hb6⟩
            have HX6 := hide (HE3.out.trans (HX5.out.trans hb6))
            have HX7 := hide (HX5.out.trans hb6)
            have HK6 := hide (own_ext HK5.out hb6)
            have hsz := HE3.out.size
            have hsz2 := HE4.out.size
            clear hb6 HX5 HK5
            by_cases hfew : t < K.length
            · have hfz : (t : Int) < (K.length : Int) := by omega
              obtain rfl := HFY.out (by rw [HFEW.out]; exact decide_eq_true hfew)
              clear HFEW HFN HFY hfew
              go_wp2_with fail
              go_ret
              refine ⟨A4, c4, by rw [castZ_length]; rfl, ?_, HX6.out⟩
              rw [castZ_length]
              exact own_mono HK6.out (by have := HE3.out.size; omega)
            · have hfz : ¬ (t : Int) < (K.length : Int) := by omega
              have HFX := hide (HFN.out (by rw [HFEW.out]; exact decide_eq_false hfew))
              clear HFEW HFN HFY hfew
              go_wp2_with fail
              go_roundw
              case rel => exact ⟨s + 1, by omega, by omega, by go_num, HFX, HX7⟩
              case measure => simp [intOf]; omega
      · obtain rfl : s = M := by omega
        have hV := HF.out
        rw [Nat.sub_self, lackF] at hV
        subst hV
        have HX := hide (HE3.out.trans HE.out)
        go_wp2_with fail
        go_ret
        exact ⟨none, 0, rfl, World.ownsRow_nil _ _ _ _, HX.out⟩
end Go.Proofs.YtabgcpoaepafjaaGreat
