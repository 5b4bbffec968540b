/- The walk of the reference's LackingShapes. No condition but that the lists are not too long. -/
import Derived.Test.YtabgcpoaepafjaaGreatLack
set_option linter.unusedSimpArgs false
set_option linter.unusedVariables false
namespace Go.Proofs.YtabgcpoaepafjaaGreat
open Go.RowKit

set_option maxRecDepth 20000 in
set_option maxHeartbeats 16000000 in
theorem sLackingShapes_any (N E : List P2) (L : List (List P2)) (A B C : Option Addr) (c c' c3 : Nat) (w : World) (hw : WR w N E A B c c') (hl : L.length ≤ 1048576) (hls : ∀ S ∈ L, S.length ≤ 1048576) (hr : RSS w C L) :
    Calls Tryz.prog 31 #[.agg #[.slice A N.length c, .slice B E.length c'], .slice C L.length c3] w fun e w' => ∃ A2 c2, e = .returned (.slice A2 (lackV N E L).length c2) ∧ w'.ownsRow w.heap.size 3 1 (.slice A2 (lackV N E L).length c2) (lackV N E L).length (encI (lackV N E L)) ∧ Ext w w' := by
  obtain ⟨i0, hi, hz0, hz1, hz2⟩ := info_parts int_info
  have HIW := hide (fun (W : World) (hE : Ext w W) => sIsWhole_any N E A B c c' W (hw.ext hE))
  have HPF := hide (show ∀ (k : Nat) (hk : k < L.length) (W : World) (D : Option Addr) (d : Nat), Ext w W → R2 W D L[k] → Calls Tryz.prog 71 #[.agg #[.slice A N.length c, .slice B E.length c'], .slice D L[k].length d] W fun e w' => ∃ A2 c2, e = .returned (.slice A2 ((plN N E L).getD k []).length c2) ∧ w'.ownsRow W.heap.size 3 1 (.slice A2 ((plN N E L).getD k []).length c2) ((plN N E L).getD k []).length (encI (castZ ((plN N E L).getD k []))) ∧ Ext W w' from fun k hk W D d hE hD => by
    rw [plN_at hk]
    exact sPlacesFor_any N E L[k] A B D c c' d W (hw.ext hE) (hls _ (List.getElem_mem hk)) hD)
  have HVN := hide (fun h => lackV_no (N := N) (E := E) (L := L) h)
  have HVY := hide (fun h => lackV_yes (N := N) (E := E) (L := L) h)
  have HPL := hide (plN_length N E L)
  have HLT := hide (plN_lt N E L)
  have HP40 := hide (plN_len N E L)
  have HASK := hide (show askB N E L = (wholeB N E && decide (L.length ≤ 8)) from rfl)
  obtain ⟨P, hP⟩ : ∃ P, plN N E L = P := ⟨_, rfl⟩
  obtain ⟨V, hV⟩ : ∃ V, lackV N E L = V := ⟨_, rfl⟩
  obtain ⟨q, hq⟩ : ∃ q, askB N E L = q := ⟨_, rfl⟩
  rw [hP] at HPF HVY HPL HLT HP40
  rw [hV] at HVN HVY ⊢
  rw [hq] at HVN HVY HASK
  have HR := hide hr
  clear hw hr hls hP hV hq
  
  go_enter Tryz.func31, Tryz.ntmps31
  go_wp2_with fail
  obtain ⟨w0, hw⟩ : ∃ w1, w1 = (w.alloc (Obj.cells #[Value.slice A N.length c, Value.slice B E.length c'] 27)).alloc (Obj.cells #[] 3) := ⟨_, rfl⟩; rw [← hw]; have kT : Tr [(w.heap.size, [.slice A N.length c, .slice B E.length c'])] w w0 := (by rw [hw]; exact ⟨by (first | (simp [Bx, CellsAt, go_sem, *]; done) | (simp [Bx, CellsAt, go_sem, *]; omega)), by (repeat (first | exact kE | exact Ext.refl _ | apply Ext.alloc | apply Ext.drewN | apply Ext.drew | apply Ext.set0 | apply Ext.set1 | apply Ext.set2 | apply Ext.set3 | (refine Ext.setk ?_ (by omega) _) | (apply Ext.snoc; assumption)))⟩); have HT := hide kT; clear kT; have kT := HT.out; simp only [Tr, Bx, CellsAt, Nat.reduceAdd, Nat.zero_add, and_true] at kT; obtain ⟨⟨kz0, kf0, kc0_0, kc0_1⟩, kE⟩ := kT
  have HO0 := hide (show w0.ownsRow (w.heap.size + 1) 3 1 (.slice (some ⟨w.heap.size + 1, 0, none⟩) 0 0) 0 [] from by
    rw [hw]
    have h := World.ownsRow_lit (base := w.heap.size + 1) (e := 3) (size := 1) (w.alloc (Obj.cells #[Value.slice A N.length c, Value.slice B E.length c'] 27)) #[] 0 (by simp) (Nat.zero_le _) rfl
    simpa using h)
  have hsz0 : w.heap.size + 1 < w0.heap.size := by rw [hw]; simp
  clear hw
  refine (HIW.out _ kE).mono ?_
  rintro e w3 ⟨rfl, hb3⟩
  have HO3 := hide (own_ext HO0.out hb3)
  have hsz3 := Nat.lt_of_lt_of_le hsz0 hb3.size
  have HE3 := hide (kE.trans hb3)
  have HT' := hide (HT.out.ext hb3)
  clear hb3 HT HO0 hsz0
  have HT := HT'
  clear HT'
  clear kz0 kf0 kc0_0 kc0_1 kE
  have kT := HT.out; simp only [Tr, Bx, CellsAt, Nat.reduceAdd, Nat.zero_add, and_true] at kT; obtain ⟨⟨kz0, kf0, kc0_0, kc0_1⟩, kE⟩ := kT
  cases hwh : wholeB N E with
  | false =>
    rw [hwh, Bool.false_and] at HASK
    obtain rfl := HVN.out HASK.out
    go_wp2_with fail
    go_ret
    exact ⟨_, _, rfl, own_mono HO3.out (by omega), HE3.out⟩
  | true =>
    rw [hwh, Bool.true_and] at HASK
    by_cases h8n : ¬ L.length ≤ 8
    · have h8z : (8 : Int) < (L.length : Int) := by omega
      rw [decide_eq_false h8n] at HASK
      obtain rfl := HVN.out HASK.out
      go_wp2_with fail
      go_ret
      exact ⟨_, _, rfl, own_mono HO3.out (by omega), HE3.out⟩
    · have h8 : L.length ≤ 8 := by omega
      clear h8n
      have hL8 : ¬ (8 : Int) < (L.length : Int) := by omega
      rw [decide_eq_true h8] at HASK
      have HV2 := hide (HVY.out HASK.out)
      clear HVN HVY HASK hwh
      obtain ⟨m, hm⟩ : ∃ m, L.length = m := ⟨_, rfl⟩
      have HPM := hide (show P.length = m from by rw [HPL.out, hm])
      have HLM := hide hm
      rw [hm] at h8 hL8 ⊢
      clear HPL hm
      obtain ⟨M, hM⟩ : ∃ M, 2 ^ m = M := ⟨_, rfl⟩
      have hM1 : 1 ≤ M := by rw [← hM]; exact Nat.one_le_two_pow
      have hM2 : M ≤ 256 := by rw [← hM]; exact Nat.pow_le_pow_right (n := 2) (by decide) h8
      have hpw : IntKind.i64.wrap ((2 : Int) ^ m) = (M : Int) := by rw [pow_word (by omega), hM]
      have HM := hide hM
      clear hM
      go_wp2_with fail
      obtain ⟨w4, hw4⟩ : ∃ w4, w4 = w3.alloc (Obj.cells #[] 3) := ⟨_, rfl⟩
      have hE34 : Ext w3 w4 := by rw [hw4]; exact (Ext.refl _).alloc _
      have HS4 := hide (show w4.ownsRow w3.heap.size 3 1 (.slice (some ⟨w3.heap.size, 0, none⟩) 0 0) 0 [] from by rw [hw4]; exact lit_own w3 3 1)
      have HOR := hide (OutR.start HS4.out (fun k e => by injection e with e; exact e.symm))
      have HO4 := hide (own_ext HO3.out hE34)
      have HE4 := hide (HE3.out.trans hE34)
      have HT4 := hide (HT.out.ext hE34)
      have hz4 : w3.heap.size < w4.heap.size := by rw [hw4]; simp
      rw [← hw4]
      clear hE34 hw4 HT HS4
      clear kz0 kf0 kc0_0 kc0_1 kE
      have HF := hide (show ∀ k, k < m → castZ ((P.take (k + 1)).map bitsOf) = castZ ((P.take k).map bitsOf) ++ [((bitsOf (P.getD k []) : Nat) : Int)] from fun k hk => by
        have hk2 : k < P.length := by rw [HPM.out]; exact hk
        rw [List.take_succ_eq_append_getElem hk2, List.map_append, castZ, List.map_append]
        congr 1
        simp [hk2])
      have HFL := hide (show ∀ k, k ≤ m → (castZ ((P.take k).map bitsOf)).length = k from fun k hk => by
        rw [castZ_length, List.length_map, List.length_take, HPM.out]; omega)
      go_loopw [6, 7] (fun v i wr => ∃ k : Nat, k ≤ m ∧ i = .int .i64 k ∧ Hid (OutR w4 wr w3.heap.size 3 1 v k (encI (castZ ((P.take k).map bitsOf))))) (fun _ i _ => m - (intOf i).toNat)
      case atStart => exact ⟨0, Nat.zero_le _, rfl, hide HOR.out⟩
      case round =>
        clear HOR
        obtain ⟨k, hk, rfl, HO⟩ := hrel
        by_cases hlt : k < m
        · have hlz : (k : Int) < (m : Int) := by omega
          have HX := hide (HO.out.ext0 HE4.out (by omega))
          have kz0 := Nat.lt_of_lt_of_le HT4.out.1.1.1 HO.out.2.1.size
          have kc0_0 := HO.out.cell HT4.out.1.1.1 (by omega) HT4.out.1.1.2.2.1
          have kc0_1 := HO.out.cell HT4.out.1.1.1 (by omega) HT4.out.1.1.2.2.2.1
          have hsz := HO.out.2.1.size
          have hkL : k < L.length := by rw [HLM.out]; exact hlt
          obtain ⟨b3, off3, rfl, hb3, D, d, cj, hd1, hd2, hrD⟩ := (HR.out.ext HX.out).at_ hkL
          have HRD := hide hrD
          have HC := hide (fun (W : World) (hE : Ext wr W) => HPF.out k hkL W D d (HX.out.trans hE) (HRD.out.ext hE))
          have hkP : k < P.length := by rw [HPM.out]; exact hlt
          have hgd : P.getD k [] = P[k] := by simp [hkP]
          have hr40 := HP40.out _ (List.getElem_mem hkP)
          have HRL := hide (HLT.out _ (List.getElem_mem hkP))
          have HY := hide (HF.out k hlt)
          have HYL := hide (HFL.out k (by omega))
          obtain ⟨S, hS⟩ : ∃ S, L[k] = S := ⟨_, rfl⟩
          rw [hS] at cj HC
          obtain ⟨r, hrr⟩ : ∃ r, P[k] = r := ⟨_, rfl⟩
          rw [hgd, hrr] at HC HY
          rw [hrr] at hr40 HRL
          clear hS hrD HRD hrr hd1 hgd hkP hkL
          go_wp2_with fail
          go_region_held3 (fun w' => (∀ (q o : Nat), q < wr.heap.size → w'.cell? ⟨q, o, none⟩ = wr.cell? ⟨q, o, none⟩) ∧ Ext wr w') ((apply ExtS; repeat (first | exact kE | exact Ext.refl _ | apply Ext.alloc | apply Ext.drewN | apply Ext.drew | apply Ext.set0 | apply Ext.set1 | apply Ext.set2 | apply Ext.set3 | (refine Ext.setk ?_ (by omega) _) | (apply Ext.snoc; assumption)))) ((first | (go_at_call 71; refine (HC.out _ (by repeat (first | exact kE | exact Ext.refl _ | apply Ext.alloc | apply Ext.drewN | apply Ext.drew | apply Ext.set0 | apply Ext.set1 | apply Ext.set2 | apply Ext.set3 | (refine Ext.setk ?_ (by omega) _) | (apply Ext.snoc; assumption)))).mono ?_; rintro e w5 ⟨A5, c5, rfl, ho5, hb5⟩; have HA5 := hide (Rds.of_own ho5); clear ho5)))
          have hb : Ext wr w5 := by (first | exact ((Ext.refl wr).drew).trans hb5 | exact hb5)
          have HE5 := hide hb
          have HO5 := hide (HO.out.ext hb)
          clear hb hb5 HO HC kz0 kc0_0 kc0_1 cj
          go_wp2_with fail
          go_loopw [8, 10] (fun v i wz => ∃ y : Nat, y ≤ r.length ∧ i = .int .i64 y ∧ v = .int .i64 ((bitsOf (r.take y) : Nat) : Int) ∧ Hid (Ext w5 wz)) (fun _ i _ => r.length - (intOf i).toNat)
          case atStart => exact ⟨0, Nat.zero_le _, rfl, by simp [bitsOf], hide (Ext.refl _)⟩
          case round =>
            obtain ⟨y, hy, rfl, rfl, HE6⟩ := hrel
            by_cases hyl : y < r.length
            · have hyz : (y : Int) < (r.length : Int) := by omega
              obtain ⟨bR, oR, rfl, hbR, hcR⟩ := (Rds.ext HA5.out HE6.out).2 (by omega)
              have cR := hcR y _ (encI_castZ_get hyl)
              have hfl := HRL.out _ (List.getElem_mem hyl)
              have HBT := hide (bitsOf_take hyl)
              have hb1 := bitsOf_take_lt HRL.out y
              obtain ⟨f, hf⟩ : ∃ f, r[y] = f := ⟨_, rfl⟩
              rw [hf] at cR hfl HBT
              obtain ⟨z, hz⟩ : ∃ z, bitsOf (r.take y) = z := ⟨_, rfl⟩
              have HZ := hide hz
              rw [hz] at hb1 ⊢
              have hor := or_shl (u := z) (f := f) (Nat.lt_of_lt_of_le hb1 (by decide)) (by omega)
              clear hz hf hcR hb1
              go_wp2_with fail
              go_roundw
              case rel => exact ⟨y + 1, by omega, by go_num, by rw [HBT.out, HZ.out]; rw [IntWalk.i64_left] at hor; rw [hor], HE6⟩
              case measure => simp [intOf]; omega
            · obtain rfl : y = r.length := by omega
              rw [List.take_length]
              have HO6 := hide (HO5.out.ext HE6.out)
              have hsz6 := HO6.out.2.1.size
              obtain ⟨z, hz⟩ : ∃ z, bitsOf r = z := ⟨_, rfl⟩
              rw [hz] at HY ⊢
              clear hz
              go_wp2_with (at_builtin; refine wpList_append_own_at _ rfl _ _ 31 rfl w3.heap.size 3 i0 (.int .i64 0) 1 8 Tryz.underlying31 hi hz0 hz1 hz2 rfl (by decide) u6 k (encI (castZ ((P.take k).map bitsOf))) rfl (own_ext HO6.out.1 ((Ext.refl _).alloc _)) ⟨wr.heap.size, 0, none⟩ 1 1 [.int .i64 (z : Int)] rfl rfl (news_new wr #[.int .i64 (z : Int)] 3) (enc_one _) (by unfold maxLen; omega) (by omega) (by first | (simp; done) | (simp; omega)) ?_; intro v' w7 hown7 hgrow7 hnil hloc)
              have ho7 : w7.ownsRow w3.heap.size 3 1 v' (k + 1) (encI (castZ ((P.take (k + 1)).map bitsOf))) := by
                rw [HY.out, encI_append]
                exact hown7
              have HO7 := hide (HO6.out.app ho7 hgrow7 hloc)
              clear ho7 hown7 hgrow7 hnil hloc
              go_roundw
              case rel => exact ⟨k + 1, by omega, by go_num, by first | exact HO7 | exact hide HO7.out⟩
              case measure => simp [intOf]; omega
        · obtain rfl : k = m := by omega
          rename World => wx
          have HXE := hide (HO.out.ext0 HE4.out (by omega))
          have HOU := hide (HO4.out.kept HO.out.2.1 (.inr fun e => by have e : some (w.heap.size + 1) = some w3.heap.size := e; injection e with e; omega))
          obtain ⟨As, cs, rfl, _⟩ := own_slice HO.out.1
          have HSR := hide (show Rds wx 1 As k (encI (castZ (P.map bitsOf))) from by
            have h := Rds.of_own HO.out.1
            rwa [List.take_of_length_le (by rw [HPM.out]; omega)] at h)
          have hszw := HXE.out.size
          clear HO HE4 HO4 HO3 HT4 HF HFL HE3
          go_wp2_with fail
          go_loopw [5, 11] (fun v i wz => ∃ s : Nat, 1 ≤ s ∧ s ≤ M ∧ i = .int .i64 s ∧ v = .slice (some ⟨w.heap.size + 1, 0, none⟩) 0 0 ∧ Hid (lackF P 40 (M - s) s = V) ∧ Hid (Ext wx wz)) (fun _ i _ => M - (intOf i).toNat)
          case atStart => exact ⟨1, by omega, hM1, rfl, rfl, hide (by rw [HV2.out, lackM, HPM.out, HM.out]), hide (Ext.refl _)⟩
          case round =>
            obtain ⟨s, hs1, hsM, rfl, rfl, HF, HE⟩ := hrel
            by_cases hlt : s < M
            · have hlz : (s : Int) < (M : Int) := by omega
              have hsm : s < 2 ^ k := by rw [HM.out]; exact hlt
              have hs62 : s < 2 ^ 62 := Nat.lt_of_lt_of_le hsm (Nat.pow_le_pow_right (by decide) (by omega))
              have HB := hide (fun j => bit_at s j hs62)
              have HMS := hide (fun j => memN_succ s j)
              have HOS := hide (fun j (h : s.testBit j = true) => (show orB P s (j + 1) = orB P s j ||| bitsOf (P.getD j []) by rw [orB, if_pos h]))
              have HON := hide (fun j (h : s.testBit j = false) => (show orB P s (j + 1) = orB P s j by rw [orB, if_neg (by simp [h])]))
              have HOL := hide (fun j => orB_lt HLT.out s j)
              have HFEW := hide (show fewB P 40 s = decide ((memN (orB P s k) 40).length < (memN s k).length) from by unfold fewB; rw [HPM.out])
              have HFY := hide (show fewB P 40 s = true → V = memI s k from fun h => by
                have h2 := HF.out
                rw [show M - s = (M - (s + 1)) + 1 by omega, lackF_yes h, HPM.out] at h2
                exact h2.symm)
              have HFN := hide (show fewB P 40 s = false → lackF P 40 (M - (s + 1)) (s + 1) = V from fun h => by
                have h2 := HF.out
                rw [show M - s = (M - (s + 1)) + 1 by omega, lackF_no h] at h2
                exact h2)
              have HML := hide (fun j => memN_length s j)
              clear HF hsm hs62
              go_wp2_with fail
              go_loopw [12, 13, 14] (fun x z i wz => ∃ j : Nat, j ≤ k ∧ i = .int .i64 j ∧ x = .int .i64 (orB P s j : Nat) ∧ z = .int .i64 ((memN s j).length : Nat) ∧ Hid (Ext wx wz)) (fun _ _ i _ => k - (intOf i).toNat)
              case atStart => exact ⟨0, Nat.zero_le _, rfl, rfl, rfl, HE⟩
              case round =>
                obtain ⟨j, hj, rfl, rfl, rfl, HE2⟩ := hrel
                by_cases hjk : j < k
                · have hjz : (j : Int) < (k : Int) := by omega
                  have hb := HB.out j
                  have hml := HML.out j
                  have hol := HOL.out j
                  have hms := HMS.out j
                  cases ht : s.testBit j with
                  | true =>
                    rw [ht] at hb
                    simp only [if_true] at hb
                    have HO1 := hide (HOS.out j ht)
                    have HM1 := hide (show (memN s (j + 1)).length = (memN s j).length + 1 from by rw [hms, ht]; simp)
                    have hjP : j < P.length := by rw [HPM.out]; exact hjk
                    have hgd : P.getD j [] = P[j] := by simp [hjP]
                    have hbl := bitsOf_lt (HLT.out _ (List.getElem_mem hjP))
                    rw [hgd] at HO1
                    obtain ⟨bS, oS, rfl, hbS, hcS⟩ := (Rds.ext HSR.out HE2.out).2 (by omega)
                    have cS := hcS j (.int .i64 ((bitsOf P[j] : Nat) : Int)) (by simp [encI, castZ, hjP])
                    obtain ⟨z, hz⟩ : ∃ z, bitsOf P[j] = z := ⟨_, rfl⟩
                    rw [hz] at cS hbl HO1
                    obtain ⟨u, hu⟩ : ∃ u, orB P s j = u := ⟨_, rfl⟩
                    rw [hu] at hol HO1 ⊢
                    obtain ⟨t, htt⟩ : ∃ t, (memN s j).length = t := ⟨_, rfl⟩
                    rw [htt] at hml HM1 ⊢
                    have hor := i64_or u z (Nat.lt_of_lt_of_le hol (by decide)) (Nat.lt_of_lt_of_le hbl (by decide))
                    clear hms ht hz hu htt hcS hgd hjP
                    go_wp2_with fail
                    go_roundw
                    case rel => exact ⟨j + 1, by omega, by go_num, by rw [HO1.out], by rw [HM1.out]; push_cast; rfl, HE2⟩
                    case measure => simp [intOf]; omega
                  | false =>
                    rw [ht] at hb
                    simp only [Bool.false_eq_true, if_false] at hb
                    have HO1 := hide (HON.out j ht)
                    have HM1 := hide (show (memN s (j + 1)).length = (memN s j).length from by rw [hms, ht]; simp)
                    clear hms ht
                    go_wp2_with fail
                    go_roundw
                    case rel => exact ⟨j + 1, by omega, by go_num, by rw [HO1.out], by rw [HM1.out], HE2⟩
                    case measure => simp [intOf]; omega
                · obtain rfl : j = k := by omega
                  have hu40 := HOL.out j
                  have hcnt := HML.out j
                  obtain ⟨u, hu⟩ : ∃ u, orB P s j = u := ⟨_, rfl⟩
                  rw [hu] at hu40 HFEW ⊢
                  obtain ⟨t, htt⟩ : ∃ t, (memN s j).length = t := ⟨_, rfl⟩
                  rw [htt] at hcnt HFEW ⊢
                  have hpu := memN_length u 40
                  clear hu htt
                  go_wp2_with fail
                  go_loopw [12, 13] (fun a z wz => ∃ (x : Nat) (y : Int), a = .int .i64 x ∧ z = .int .i64 y ∧ x < 2 ^ 40 ∧ Hid (y + (memN u 40).length = (t : Int) + (memN x 40).length) ∧ Hid (Ext wx wz)) (fun a _ _ => (intOf a).toNat)
                  case atStart => exact ⟨u, _, rfl, rfl, hu40, hide rfl, HE2⟩
                  case round =>
                    clear HE2
                    obtain ⟨x, y, rfl, rfl, hx40, HY, HE2⟩ := hrel
                    have hpx := memN_length x 40
                    have hy := HY.out
                    by_cases hx0 : 0 < x
                    · have hxz : (0 : Int) < (x : Int) := by omega
                      have hps := pop_step 40 x hx0 hx40
                      have hle : x &&& (x - 1) ≤ x - 1 := Nat.and_le_right
                      have hcast : ((x : Int) - 1) = ((x - 1 : Nat) : Int) := by omega
                      have hx62 : x < 2 ^ 62 := Nat.lt_of_lt_of_le hx40 (by decide)
                      have hand := i64_and x (x - 1) hx62 (by omega)
                      rw [← hcast] at hand
                      have HQ := hide (show y - 1 + ((memN u 40).length : Int) = (t : Int) + (memN (x &&& (x - 1)) 40).length from by omega)
                      have hyb : -1000 ≤ y ∧ y ≤ 1000 := by omega
                      have hx40' : x ≤ 1099511627776 := by omega
                      have HQ2 := hide (show x &&& (x - 1) < 2 ^ 40 from by omega)
                      have HQ3 := hide hle
                      have hx1 : 1 ≤ x := hx0
                      clear hpx hy hps hcast HY hle hx62 hx40
                      go_wp2_with fail
                      go_roundw
                      case rel => exact ⟨x &&& (x - 1), y - 1, by first | rfl | rw [hand], rfl, HQ2.out, HQ, HE2⟩
                      case measure => have := HQ3.out; simp [intOf]; omega
                    · have hxz : ¬ (0 : Int) < (x : Int) := by omega
                      have hx1 : x = 0 := by omega
                      rw [show memN x 40 = memN 0 40 by rw [hx1], memN_zero] at hy
                      clear hx1
                      have hyv : y = (t : Int) - (memN u 40).length := by omega
                      clear hpx HY hx40 hx0
                      by_cases hy0 : 0 < y
                      · have hV : V = memI s j := HFY.out (by rw [HFEW.out]; exact decide_eq_true (by omega))
                        have HVM := hide hV
                        clear HFEW HFN HFY hyv hy
                        have HYS := hide (fun i (h : s.testBit i = true) => memI_yes h)
                        have HNS := hide (fun i (h : s.testBit i = false) => memI_no h)
                        have HOA := hide (own_ext HOU.out HE2.out)
                        have HOR2 := hide (OutR.start HOA.out (fun k e => by have e : some (w.heap.size + 1) = some k := e; injection e with e; exact e.symm))
                        have HEA := hide (HXE.out.trans HE2.out)
                        have hszA := HE2.out.size
                        clear HOA
                        go_wp2_with fail
                        go_loopw [5, 15] (fun v i wy => ∃ i' : Nat, i' ≤ j ∧ i = .int .i64 i' ∧ Hid (OutR wr wy (w.heap.size + 1) 3 1 v (memI s i').length (encI (memI s i')))) (fun _ i _ => j - (intOf i).toNat)
                        case atStart => exact ⟨0, Nat.zero_le _, rfl, hide HOR2.out⟩
                        case round =>
                          clear HOR2
                          obtain ⟨i', hi', rfl, HO⟩ := hrel
                          have hmi := memI_length s i'
                          have hml := HML.out i'
                          have hszO := HO.out.2.1.size
                          by_cases hik : i' < j
                          · have hiz : (i' : Int) < (j : Int) := by omega
                            have hb := HB.out i'
                            cases ht : s.testBit i' with
                            | true =>
                              rw [ht] at hb
                              simp only [if_true] at hb
                              have HYY := hide (HYS.out i' ht)
                              clear ht
                              go_wp2_with (at_builtin; refine wpList_append_own_at _ rfl _ _ 31 rfl (w.heap.size + 1) 3 i0 (.int .i64 0) 1 8 Tryz.underlying31 hi hz0 hz1 hz2 rfl (by decide) u5 (memI s i').length (encI (memI s i')) rfl (own_ext HO.out.1 ((Ext.refl _).alloc _)) ⟨wr.heap.size, 0, none⟩ 1 1 [.int .i64 (i' : Int)] rfl rfl (news_new wr #[.int .i64 (i' : Int)] 3) (enc_one _) (by unfold maxLen; omega) (by omega) (by first | (simp; done) | (simp; omega)) ?_; intro v' w7 hown7 hgrow7 hnil hloc)
                              have ho7 : w7.ownsRow (w.heap.size + 1) 3 1 v' (memI s (i' + 1)).length (encI (memI s (i' + 1))) := by
                                rw [HYY.out, encI_append, List.length_append]
                                exact hown7
                              have HO7 := hide (HO.out.app ho7 hgrow7 hloc)
                              clear ho7 hown7 hgrow7 hnil hloc
                              go_roundw
                              case rel => exact ⟨i' + 1, by omega, by go_num, by first | exact HO7 | exact hide HO7.out⟩
                              case measure => simp [intOf]; omega
                            | false =>
                              rw [ht] at hb
                              simp only [Bool.false_eq_true, if_false] at hb
                              have HNN := hide (HNS.out i' ht)
                              clear ht
                              go_wp2_with fail
                              go_roundw
                              case rel => exact ⟨i' + 1, by omega, by go_num, hide (by rw [HNN.out]; exact HO.out)⟩
                              case measure => simp [intOf]; omega
                          · obtain rfl : i' = j := by omega
                            have HXF := hide (HO.out.ext0 HEA.out (by omega))
                            have ho := HO.out.1
                            rw [← HVM.out] at ho
                            have HO9 := hide ho
                            clear ho HO
                            obtain ⟨Ar, cr, rfl, _⟩ := own_slice HO9.out
                            go_wp2_with fail
                            go_ret
                            exact ⟨Ar, cr, rfl, own_mono HO9.out (by omega), HXF.out⟩
                      · have hyz : ¬ (0 : Int) < y := hy0
                        have HFX := hide (HFN.out (by rw [HFEW.out]; exact decide_eq_false (by omega)))
                        clear HFEW HFN HFY hyv hy
                        go_wp2_with fail
                        go_roundw
                        case rel => exact ⟨s + 1, by omega, by omega, by go_num, rfl, HFX, HE2⟩
                        case measure => simp [intOf]; omega
            · obtain rfl : s = M := by omega
              have hV := HF.out
              rw [Nat.sub_self, lackF] at hV
              subst hV
              have HX := hide (HXE.out.trans HE.out)
              have HO9 := hide (own_ext HOU.out HE.out)
              go_wp2_with fail
              go_ret
              exact ⟨_, _, rfl, own_mono HO9.out (by omega), HX.out⟩
end Go.Proofs.YtabgcpoaepafjaaGreat
