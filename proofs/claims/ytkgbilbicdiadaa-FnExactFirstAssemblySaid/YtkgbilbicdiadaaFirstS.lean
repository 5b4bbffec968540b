/- The walk of the reference's FirstAssembly. No condition but that a list has at most 1048576 elements. -/
import Derived.Test.YtkgbilbicdiadaaFirst
import Derived.Test.YtkgbilbicdiadaaHas
set_option linter.unusedSimpArgs false
set_option linter.unusedVariables false
namespace Go.Proofs.Ytkgbilbicdiadaa
open Go.RowKit

theorem any_step {b : Nat → Nat → Bool} {l : List Nat} {j i : Nat} (hi : i < l.length) : ((l.take (i + 1)).any fun a => b a j) = ((l.take i).any (fun a => b a j) || b l[i] j) := by
  rw [List.take_succ_eq_append_getElem hi, List.any_append]
  simp
theorem dn_no {b : Nat → Nat → Bool} {o : Nat} {l : List Nat} {n d j : Nat} (e : n - 1 - d = j) (h : canG b o l j = false) : bestDn b o l n (d + 1) = bestDn b o l n d := by
  simp only [bestDn, e, h]
  rfl
theorem dn_yes {b : Nat → Nat → Bool} {o : Nat} {l : List Nat} {n d j : Nat} (e : n - 1 - d = j) (h : canG b o l j = true) : bestDn b o l n (d + 1) = (j : Nat) := by
  simp only [bestDn, e, h]
  rfl
theorem can_or {b : Nat → Nat → Bool} {o : Nat} {l : List Nat} {j : Nat} : canG b o l j = (decide (j ≠ o) && (!l.contains j && l.any fun i => b i j)) := rfl
set_option maxRecDepth 20000 in
set_option maxHeartbeats 4000000 in
theorem sFirstAssembly_any (N E : List P2) (A B : Option Addr) (c c' : Nat) (x1 : Int) (w : World) (hw : WR w N E A B c c') :
    Calls Try.prog 78 #[.agg #[.slice A N.length c, .slice B E.length c'], .int .i64 x1] w fun e w' => ∃ A2 c2, e = .returned (.tuple #[.slice A2 (firstV N E x1).length c2, .bool (firstOk N E x1)]) ∧ w'.ownsRow w.heap.size 3 1 (.slice A2 (firstV N E x1).length c2) (firstV N E x1).length (encI (firstV N E x1)) ∧ Ext w w' := by
  obtain ⟨i0, hi, hz0, hz1, hz2⟩ := info_parts int_info
  have HW := hide hw
  have HVN := hide (fun h => firstV_no (N := N) (E := E) (x := x1) h)
  have HVY := hide (fun h => firstV_ok (N := N) (E := E) (x := x1) h)
  obtain ⟨v, hv⟩ : ∃ v, firstV N E x1 = v := ⟨_, rfl⟩
  obtain ⟨ok, hok⟩ : ∃ ok, firstOk N E x1 = ok := ⟨_, rfl⟩
  have HOK := hide hok
  rw [hv, hok] at HVN HVY
  rw [hv, hok]
  clear hw hv hok
  
  go_enter Try.func78, Try.ntmps78
  go_wp2_with fail
  obtain ⟨w0, hw⟩ : ∃ w1, w1 = w.alloc (Obj.cells #[Value.slice A N.length c, Value.slice B E.length c'] 27) := ⟨_, rfl⟩; rw [← hw]; have kT : Tr [(w.heap.size, [.slice A N.length c, .slice B E.length c'])] w w0 := (by rw [hw]; exact ⟨by (first | (simp [Bx, CellsAt, go_sem, *]; done) | (simp [Bx, CellsAt, go_sem, *]; omega)), by (repeat (first | exact kE | exact Ext.refl _ | apply Ext.alloc | apply Ext.drewN | apply Ext.drew | apply Ext.set0 | apply Ext.set1 | apply Ext.set2 | apply Ext.set3 | (refine Ext.setk ?_ (by omega) _) | (apply Ext.snoc; assumption)))⟩); have HT := hide kT; clear hw kT; have kT := HT.out; simp only [Tr, Bx, CellsAt, Nat.reduceAdd, Nat.zero_add, and_true] at kT; obtain ⟨⟨kz0, kf0, kc0_0, kc0_1⟩, kE⟩ := kT
  have HC := sIsWhole_any N E A B c c' w0 (HW.out.ext kE)
  refine HC.mono ?_
  rintro e w2 ⟨rfl, hb2⟩
  have HT' := hide (HT.out.ext hb2)
  clear hb2 HT
  have HT := HT'
  clear HT'
  clear kz0 kf0 kc0_0 kc0_1 kE
  have kT := HT.out; simp only [Tr, Bx, CellsAt, Nat.reduceAdd, Nat.zero_add, and_true] at kT; obtain ⟨⟨kz0, kf0, kc0_0, kc0_1⟩, kE⟩ := kT
  have HW2 := hide kE
  cases hwh : wholeB N E with
  | false =>
    have HOF := hide (show ok = false by rw [← HOK.out]; unfold firstOk; rw [hwh]; rfl)
    clear hwh
    go_wp2_with fail
    refine bodyPost_ret (v := .tuple #[.slice (some ⟨w2.heap.size, 0, none⟩) 0 0, .bool false]) (by simp only [results, Try.results78]; go_simp) rfl ⟨some ⟨w2.heap.size, 0, none⟩, 0, by rw [HVN.out HOF.out, HOF.out]; rfl, by rw [HVN.out HOF.out]; exact own_mono (lit_own w2 _ 1) HW2.out.size, HW2.out.alloc _⟩
  | true =>
    have hon := (outer_nat hwh).2
    have hoe := (outer_nat hwh).1
    have hl40 := fcs_len (N := N) (E := E)
    have HOK2 := hide (show ok = (inR x1 0 (((fcs N E).length : Int) - 1) && asmB N E (firstL N E x1.toNat)) by rw [← HOK.out]; unfold firstOk; rw [hwh]; rfl)
    have HFO := hide ((sFacesOf_any N E A B c c' w2 (HW.out.ext kE)).mono (R' := fun e w' => ∃ A2 c2, e = .returned (.slice A2 (fcs N E).length c2) ∧ Ext w2 w') (by rintro e w' ⟨A2, c2, h1, _, _, h2⟩; exact ⟨A2, c2, h1, h2⟩))
    have HN := hide (fun (W : World) (hE : Ext w W) => l13Beside_any N E A B c c' W (HW.out.ext hE) hwh)
    have HP := hide (fun (W : World) (hE : Ext w W) => sOuterFace_any N E A B c c' W (HW.out.ext hE))
    have HAS := hide (fun (l : List Int) (C : Option Addr) (c3 : Nat) (W : World) (hE : Ext w W) (hl : l.length ≤ 1048576) (hr : RI W C l) => sIsAssembly_any N E l A B C c c' c3 W (HW.out.ext hE) hl hr)
    have HWI := hide (fun (W : World) => l01In_any x1 0 (((fcs N E).length : Int) - 1) W)
    rw [hoe] at HP
    have hFL : ∀ f, firstL N E f = castN (growL (besTo (sd N E) E.length) (fcs N E).length (oN N E) (fcs N E).length [f]) := fun f => rfl
    rw [hFL] at HOK2
    simp only [hFL] at HVY
    obtain ⟨n, hn⟩ : ∃ n, (fcs N E).length = n := ⟨_, rfl⟩
    obtain ⟨o, ho⟩ : ∃ o, oN N E = o := ⟨_, rfl⟩
    obtain ⟨b, hbb⟩ : ∃ b, besTo (sd N E) E.length = b := ⟨_, rfl⟩
    rw [hn, ho, hbb] at HOK2 HVY
    rw [hbb] at HN
    rw [hn] at hon hl40 HN HFO HWI
    rw [ho] at hon HP
    clear hwh hn ho hbb hFL hoe HOK
    go_wp2_with fail
    refine HFO.out.mono ?_
    rintro e w3 ⟨A2, c2, rfl, hb3⟩
    have HT' := hide (HT.out.ext hb3)
    clear hb3 HT HFO
    have HT := HT'
    clear HT'
    clear kz0 kf0 kc0_0 kc0_1 kE
    have kT := HT.out; simp only [Tr, Bx, CellsAt, Nat.reduceAdd, Nat.zero_add, and_true] at kT; obtain ⟨⟨kz0, kf0, kc0_0, kc0_1⟩, kE⟩ := kT
    cases hin : inR x1 0 ((n : Int) - 1) with
    | false =>
      have HOF := hide (show ok = false by rw [HOK2.out, hin]; rfl)
      rw [hin] at HWI
      have HE3 := hide kE
      clear hin HOK2
      go_wp2_with (go_at_call 95; refine (HWI.out _).mono ?_; rintro e w' ⟨rfl, rfl⟩)
      refine bodyPost_ret (v := .tuple #[.slice (some ⟨w3.heap.size, 0, none⟩) 0 0, .bool false]) (by simp only [results, Try.results78]; go_simp) rfl ⟨some ⟨w3.heap.size, 0, none⟩, 0, by rw [HVN.out HOF.out, HOF.out]; rfl, by rw [HVN.out HOF.out]; exact own_mono (lit_own w3 _ 1) HE3.out.size, HE3.out.alloc _⟩
    | true =>
      obtain ⟨f0, rfl, hf0⟩ := in_face hin
      rw [hin] at HWI HOK2
      rw [Int.toNat_natCast] at HOK2 HVY
      obtain ⟨R, hR⟩ : ∃ R, growL b n o n [f0] = R := ⟨_, rfl⟩
      have HST := hide (OnWay.start (b := b) (o := o) hf0)
      rw [hR] at HOK2 HVY HST
      have HOKR := hide (show ok = asmB N E (castN R) by rw [HOK2.out]; rfl)
      clear hR hin HOK2
      go_wp2_with (go_at_call 95; refine (HWI.out _).mono ?_; rintro e w' ⟨rfl, rfl⟩)
      refine (HN.out _ kE).mono ?_
      rintro e w4 ⟨hd, c4, U, rfl, hM, hb4⟩
      have HM4 := hide hM
      have HT' := hide (HT.out.ext hb4)
      clear HT HN hM hb4
      have HT := HT'
      clear HT'
      clear kz0 kf0 kc0_0 kc0_1 kE
      have kT := HT.out; simp only [Tr, Bx, CellsAt, Nat.reduceAdd, Nat.zero_add, and_true] at kT; obtain ⟨⟨kz0, kf0, kc0_0, kc0_1⟩, kE⟩ := kT
      go_wp2_with fail
      refine (HP.out _ kE).mono ?_
      rintro e w5 ⟨rfl, hb5⟩
      have HM5 := hide (HM4.out.ext hb5)
      have HT' := hide (HT.out.ext hb5)
      clear HM4 HP hb5 HT
      have HT := HT'
      clear HT'
      clear kz0 kf0 kc0_0 kc0_1 kE
      have kT := HT.out; simp only [Tr, Bx, CellsAt, Nat.reduceAdd, Nat.zero_add, and_true] at kT; obtain ⟨⟨kz0, kf0, kc0_0, kc0_1⟩, kE⟩ := kT
      have HE5 := hide kE
      have HTZ := HT
      go_wp2_with fail
      clear kz0 kf0 kc0_0 kc0_1 kE
      clear HT
      have hown0 := World.ownsRow_lit (base := w5.heap.size) (e := 3) (size := 1) w5 #[.int .i64 (f0 : Int)] 1 (Nat.le_refl _) (by decide) rfl
      go_loopw [8] (fun v wr => ∃ l : List Nat, Hid (OnWay b n o R l) ∧ Hid (wr.ownsRow w5.heap.size 3 1 v l.length (encI (castN l))) ∧ Hid (Ext w5 wr)) (fun v _ => n - lenV v)
      case atStart => exact ⟨[f0], HST, hown0, hide ((Ext.refl w5).alloc _)⟩
      case round =>
        clear hown0
        obtain ⟨l, HON, HO, HG⟩ := hrel
        have hlen := HON.out.len
        obtain ⟨wo, rfl⟩ : ∃ wo : World, wo = wr := ⟨_, rfl⟩
        obtain ⟨A', c5, e1, _⟩ := own_slice HO.out
        subst e1
        have hRL := Rds.of_own HO.out
        have HRL := hide hRL
        have hri : RI wo A' (castN l) := by have h := hRL; rw [← castN_length l] at h; exact h
        have hhas := fun x => l06Has_any (castN l) A' c5 x wo (by rw [castN_length]; omega) hri
        simp only [castN_length] at hhas
        have HHAS := hide (fun j : Nat => (show _ from by have h := hhas (j : Int); rw [show hasL (castN l) (j : Int) = l.contains j from hasL_nat] at h; exact h))
        have HMR := hide (HM5.out.ext HG.out)
        have HRI := hide hri
        clear hRL hhas hri
        go_wp2_with fail
        go_loopw [9, 10] (fun bs i wi => ∃ d : Nat, d ≤ n ∧ i = .int .i64 ((n : Int) - 1 - d) ∧ bs = .int .i64 (bestDn b o l n d) ∧ Hid (wi = wo)) (fun _ i _ => (intOf i + 1).toNat)
        case atStart => exact ⟨0, Nat.zero_le _, by simp, rfl, hide rfl⟩
        case round =>
          obtain ⟨d, hdn, rfl, rfl, HWW⟩ := hrel
          obtain rfl := HWW.out
          clear HWW
          by_cases hlt : d < n
          · obtain ⟨j, hj⟩ : ∃ j, n - 1 - d = j := ⟨_, rfl⟩
            have hjz : (n : Int) - 1 - d = (j : Int) := by omega
            have hjn : j < n := by omega
            have HDN := hide (fun h => dn_no (b := b) (o := o) (l := l) hj h)
            have HDY := hide (fun h => dn_yes (b := b) (o := o) (l := l) hj h)
            have hsub : IntKind.i64.wrap ((j : Int) - 1) = (j : Int) - 1 := by rw [IntKind.wrap_i64]; omega
            have hnx : (j : Int) - 1 = (n : Int) - 1 - ((d + 1 : Nat) : Int) := by omega
            have HNX := hide hnx
            clear hnx
            have hge : decide ((j : Int) ≥ 0) = true := decide_eq_true (by omega)
            have HCO := hide (can_or (b := b) (o := o) (l := l) (j := j))
            have HHJ := hide (HHAS.out j)
            obtain ⟨bd, hbd⟩ : ∃ bd, bestDn b o l n d = bd := ⟨_, rfl⟩
            rw [hbd] at HDN ⊢
            rw [hjz]
            clear hbd hjz hj
            by_cases hjo : j = o
            · have HC0 := hide (HDN.out (by rw [HCO.out, decide_eq_false (by simp [hjo])]; rfl))
              have q1 : ((j : Int) == (o : Int)) = true := by simp [hjo]
              have q2 : (j == o) = true := by simp [hjo]
              clear hjo HDN HDY HCO HHJ
              go_wp2_with fail
              go_roundw
              case rel => exact ⟨d + 1, by omega, by rw [HNX.out], by rw [HC0.out], by first | exact hide rfl | exact hide trivial⟩
              case measure => (simp only [intOf]; simp; try omega)
            · have q1 : ((j : Int) == (o : Int)) = false := by simp; omega
              have q2 : (j == o) = false := by simp [hjo]
              obtain ⟨hs, hhs⟩ : ∃ hs, l.contains j = hs := ⟨_, rfl⟩
              rw [hhs] at HHJ HCO
              clear hhs
              cases hs with
              | true =>
                have HC0 := hide (HDN.out (by rw [HCO.out]; simp))
                clear hjo HDN HDY HCO
                go_wp2_with (go_at_call 132; refine HHJ.out.mono ?_; rintro e w' ⟨rfl, rfl⟩)
                go_roundw
                case rel => exact ⟨d + 1, by omega, by rw [HNX.out], by rw [HC0.out], by first | exact hide rfl | exact hide trivial⟩
                case measure => (simp only [intOf]; simp; try omega)
              | false =>
                have HCA := hide (show canG b o l j = l.any fun i => b i j by rw [HCO.out, decide_eq_true hjo]; simp)
                clear hjo HCO
                go_wp2_with (go_at_call 132; refine HHJ.out.mono ?_; rintro e w' ⟨rfl, rfl⟩)
                obtain ⟨wp, rfl⟩ : ∃ wp : World, wp = wr := ⟨_, rfl⟩
                go_loopw [9, 11] (fun bs i wn => ∃ k : Nat, k ≤ l.length ∧ i = .int .i64 k ∧ bs = .int .i64 (if (l.take k).any (fun a => b a j) = true then (j : Int) else bd) ∧ Hid (wn = wp)) (fun _ i _ => l.length - (intOf i).toNat)
                case atStart => exact ⟨0, Nat.zero_le _, rfl, by simp, hide rfl⟩
                case round =>
                  obtain ⟨k, hk, rfl, rfl, HWW⟩ := hrel
                  obtain rfl := HWW.out
                  clear HWW
                  by_cases hltk : k < l.length
                  · have hlz : (k : Int) < (l.length : Int) := by omega
                    obtain ⟨gb, off, rfl, hgb, hc⟩ := HRL.out.2 (by omega)
                    have ck := hc k _ (castN_get l hltk)
                    clear hc
                    have HAN := hide (any_step (b := b) (j := j) hltk)
                    have hgl := HON.out.lt l[k] (List.getElem_mem hltk)
                    obtain ⟨g, hg⟩ : ∃ g, l[k] = g := ⟨_, rfl⟩
                    rw [hg] at ck HAN hgl
                    clear hg
                    have hgz : (g : Int) < (n : Int) := by omega
                    have hjz2 : (j : Int) < (n : Int) := by omega
                    obtain ⟨g1, m1, m2, _⟩ := HMR.out.at_ hgl hjn
                    obtain ⟨x, hx⟩ : ∃ x, b g j = x := ⟨_, rfl⟩
                    obtain ⟨y, hy⟩ : ∃ y, (l.take k).any (fun a => b a j) = y := ⟨_, rfl⟩
                    rw [hx] at m2 HAN
                    rw [hy] at HAN ⊢
                    clear hx hy
                    cases x with
                    | false =>
                      rw [Bool.or_false] at HAN
                      go_wp2_with fail
                      clear m1 m2 ck
                      go_roundw
                      case rel => exact ⟨k + 1, by omega, by go_num, by rw [HAN.out], by first | exact hide rfl | exact hide trivial⟩
                      case measure => simp [intOf]; omega
                    | true =>
                      rw [Bool.or_true] at HAN
                      go_wp2_with fail
                      clear m1 m2 ck
                      go_roundw
                      case rel => exact ⟨k + 1, by omega, by go_num, by rw [HAN.out, if_pos rfl], by first | exact hide rfl | exact hide trivial⟩
                      case measure => simp [intOf]; omega
                  · have hkl : k = l.length := by omega
                    have HC1 := hide (show (if (l.take k).any (fun a => b a j) = true then (j : Int) else bd) = bestDn b o l n (d + 1) by
                      rw [hkl, List.take_length]
                      cases q : l.any fun a => b a j with
                      | true => rw [if_pos rfl, HDY.out (by rw [HCA.out, q])]
                      | false => rw [if_neg (by simp), HDN.out (by rw [HCA.out, q])])
                    obtain ⟨z, hz⟩ : ∃ z, (if (l.take k).any (fun a => b a j) = true then (j : Int) else bd) = z := ⟨_, rfl⟩
                    rw [hz] at HC1 ⊢
                    rw [hkl]
                    clear hz hkl HDN HDY HCA
                    go_wp2_with fail
                    go_roundw
                    case rel => exact ⟨d + 1, by omega, by rw [HNX.out], by rw [HC1.out], by first | exact hide rfl | exact hide trivial⟩
                    case measure => (simp only [intOf]; simp; try omega)
          · obtain rfl : d = n := by omega
            have HBN := hide (bestDn_next (b := b) (o := o) (l := l) (n := d))
            have hz : (d : Int) - 1 - d = -1 := by omega
            rw [hz]
            clear hz
            cases hnx : nextTo b o l d with
            | some f =>
              rw [hnx] at HBN
              have HON2 := hide (HON.out.next hnx)
              have hroom := HON.out.room hnx
              have hfz : ¬ (f : Int) < 0 := by omega
              have HBV := hide (show bestDn b o l d d = (f : Nat) from HBN.out)
              obtain ⟨bv, hbv⟩ : ∃ bv, bestDn b o l d d = bv := ⟨_, rfl⟩
              rw [hbv] at HBV ⊢
              clear hbv hnx HBN
              obtain rfl := HBV.out
              have hsz := HG.out.size
              go_wp2_with (at_builtin; refine wpList_append_own _ rfl _ _ 29 rfl w5.heap.size 3 i0 (.int .i64 0) 1 8 Try.underlying29 hi hz0 hz1 hz2 rfl (by decide) (.slice A' l.length c5) l.length (encI (castN l)) rfl (own_ext HO.out ((Ext.refl _).alloc _)) ⟨wr.heap.size, 0, none⟩ 1 1 [.int .i64 (f : Int)] rfl rfl (news_new wr #[.int .i64 (f : Int)] 3) (enc_one _) (by unfold maxLen; omega) (by omega) (by first | (simp; done) | (simp; omega)) ?_; intro v' w6 hown6 hgrow6 hnil)
              have E6 := hide (Ext.grown (HG.out.alloc _) hgrow6 (own_base HO.out (Nat.le_refl _)))
              have ho6 := hide (show w6.ownsRow w5.heap.size 3 1 v' (l ++ [f]).length (encI (castN (l ++ [f]))) from by
                rw [castN_snoc, encI_append, List.length_append]
                exact hown6)
              have HLV := hide (show lenV v' = l.length + 1 from by
                obtain ⟨A9, c9, e9, _⟩ := own_slice hown6
                rw [e9]
                rfl)
              clear hown6 hgrow6 hnil
              go_roundw
              case rel => exact ⟨l ++ [f], HON2, ho6, E6⟩
              case measure =>
                have h9 := HLV.out
                simp [lenV] at h9 ⊢
                omega
            | none =>
              rw [hnx] at HBN
              have HLR := hide (HON.out.done hnx)
              have HBV := hide (show bestDn b o l d d = -1 from HBN.out)
              obtain ⟨bv, hbv⟩ : ∃ bv, bestDn b o l d d = bv := ⟨_, rfl⟩
              rw [hbv] at HBV ⊢
              clear hbv hnx HBN
              obtain rfl := HBV.out
              have HT := hide (HTZ.out.ext HG.out)
              have kT := HT.out; simp only [Tr, Bx, CellsAt, Nat.reduceAdd, Nat.zero_add, and_true] at kT; obtain ⟨⟨kz0, kf0, kc0_0, kc0_1⟩, kE⟩ := kT
              have HX := hide kE
              have hal := HAS.out (castN l) A' c5 wr kE (by rw [castN_length]; omega) HRI.out
              rw [castN_length] at hal
              have HAL := hide hal
              clear hal
              have HOK3 := hide (show ok = asmB N E (castN l) by rw [HLR.out]; exact HOKR.out)
              obtain ⟨v9, hv9⟩ : ∃ v9, asmB N E (castN l) = v9 := ⟨_, rfl⟩
              rw [hv9] at HAL HOK3
              clear hv9
              cases v9 with
              | false =>
                go_wp2_with fail
                refine HAL.out.mono ?_
                rintro e w6 ⟨rfl, hb6⟩
                have HE6 := hide (HX.out.trans hb6)
                clear hb6
                go_wp2_with fail
                refine bodyPost_ret (v := .tuple #[.slice (some ⟨w6.heap.size, 0, none⟩) 0 0, .bool false]) (by simp only [results, Try.results78]; go_simp) rfl ⟨some ⟨w6.heap.size, 0, none⟩, 0, by rw [HVN.out HOK3.out, HOK3.out]; rfl, by rw [HVN.out HOK3.out]; exact own_mono (lit_own w6 _ 1) HE6.out.size, HE6.out.alloc _⟩
              | true =>
                have HVV := hide (show v = castN l by rw [HLR.out]; exact HVY.out HOK3.out)
                go_wp2_with fail
                refine HAL.out.mono ?_
                rintro e w6 ⟨rfl, hb6⟩
                have HE6 := hide (HX.out.trans hb6)
                have HO6 := hide (own_ext HO.out hb6)
                clear hb6
                go_wp2_with fail
                refine bodyPost_ret (v := .tuple #[.slice A' l.length c5, .bool true]) (by simp only [results, Try.results78]; go_simp) rfl ⟨A', c5, by rw [HVV.out, HOK3.out, castN_length], ?_, HE6.out⟩
                rw [HVV.out, castN_length]
                exact own_mono HO6.out HE5.out.size
end Go.Proofs.Ytkgbilbicdiadaa
