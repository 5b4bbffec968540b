/- The walks of CountAssemblies (both forms). No condition but that a list has at most 1048576 elements. -/
import Derived.Test.YtkgbilbicdiadaaJoined
import Derived.Test.YtkgbilbicdiadaaCount
set_option linter.unusedSimpArgs false
set_option linter.unusedVariables false
namespace Go.Proofs.Ytkgbilbicdiadaa
open Go.RowKit

noncomputable def countA (N E : List P2) : Int := if 1 ≤ (fcs N E).length ∧ (fcs N E).length ≤ 10 then (ways (besTo (sd N E) E.length) (panesN (fcs N E).length (oN N E)) (fcs N E).length (panesN (fcs N E).length (oN N E)) : Nat) else -1
theorem countA_no {N E : List P2} (h : ¬ (1 ≤ (fcs N E).length ∧ (fcs N E).length ≤ 10)) : countA N E = -1 := by unfold countA; rw [if_neg h]
theorem countA_yes {N E : List P2} (h : 1 ≤ (fcs N E).length ∧ (fcs N E).length ≤ 10) : countA N E = (ways (besTo (sd N E) E.length) (panesN (fcs N E).length (oN N E)) (fcs N E).length (panesN (fcs N E).length (oN N E)) : Nat) := by unfold countA; rw [if_pos h]
theorem row_same {n : Nat} {f g : Nat → Nat} (h : ∀ t, f t = g t) : rowOf n (fun t => ((f t : Nat) : Int)) = rowOf n (fun t => ((g t : Nat) : Int)) := by
  congr 1
  funext t
  rw [h t]
set_option maxRecDepth 20000 in
set_option maxHeartbeats 4000000 in
theorem CountAssemblies_any (N E : List P2) (A B : Option Addr) (c c' : Nat) (w : World) (hw : WR w N E A B c c') :
    Calls Try.prog 38 #[.agg #[.slice A N.length c, .slice B E.length c']] w fun e w' => e = .returned (.int .i64 (countA N E)) ∧ Ext w w' := by
  obtain ⟨i0, hi, hz0, hz1, hz2⟩ := info_parts int_info
  have HW := hide hw
  obtain ⟨v, hv⟩ : ∃ v, countA N E = v := ⟨_, rfl⟩
  have HVV := hide hv
  rw [hv]
  clear hw hv
  
  go_enter Try.func38, Try.ntmps38
  go_wp2_with fail
  obtain ⟨w0, hw⟩ : ∃ w1, w1 = w.alloc (Obj.cells #[Value.slice A N.length c, Value.slice B E.length c'] 27) := ⟨_, rfl⟩; rw [← hw]; have kT : Tr [(w.heap.size, [.slice A N.length c, .slice B E.length c'])] w w0 := (by rw [hw]; exact ⟨by (first | (simp [Bx, CellsAt, go_sem, *]; done) | (simp [Bx, CellsAt, go_sem, *]; omega)), by (repeat (first | exact kE | exact Ext.refl _ | apply Ext.alloc | apply Ext.drewN | apply Ext.drew | apply Ext.set0 | apply Ext.set1 | apply Ext.set2 | apply Ext.set3 | (refine Ext.setk ?_ (by omega) _) | (apply Ext.snoc; assumption)))⟩); have HT := hide kT; clear hw kT; have kT := HT.out; simp only [Tr, Bx, CellsAt, Nat.reduceAdd, Nat.zero_add, and_true] at kT; obtain ⟨⟨kz0, kf0, kc0_0, kc0_1⟩, kE⟩ := kT
  refine (IsWhole_any N E A B c c' w0 (HW.out.ext kE)).mono ?_
  rintro e w2 ⟨rfl, hb2⟩
  have HT' := hide (HT.out.ext hb2)
  clear hb2 HT
  have HT := HT'
  clear HT'
  clear kz0 kf0 kc0_0 kc0_1 kE
  have kT := HT.out; simp only [Tr, Bx, CellsAt, Nat.reduceAdd, Nat.zero_add, and_true] at kT; obtain ⟨⟨kz0, kf0, kc0_0, kc0_1⟩, kE⟩ := kT
  have HW2 := hide kE
  cases hwh : wholeB N E with
  | false =>
    have HV := hide (show v = -1 by rw [← HVV.out]; exact countA_no (by rw [fcs_no hwh]; simp))
    clear hwh
    go_wp2_with fail
    go_ret
    exact ⟨ret_int HV.out.symm, HW2.out⟩
  | true =>
    have hon := (outer_nat hwh).2
    have hl40 := fcs_len (N := N) (E := E)
    have HFO := hide ((FacesOf_any N E A B c c' w2 (HW.out.ext kE)).mono (R' := fun e w' => ∃ A2 c2, e = .returned (.slice A2 (fcs N E).length c2) ∧ Ext w2 w') (by rintro e w' ⟨A2, c2, h1, _, _, _, _, h2⟩; exact ⟨A2, c2, h1, h2⟩))
    have HN := hide (fun (W : World) (hE : Ext w W) => neighbors_any N E A B c c' W (HW.out.ext hE) hwh)
    have HP := hide (fun (W : World) (hE : Ext w W) => paneSet_any N E A B c c' W (HW.out.ext hE) hwh)
    have hnb : ∀ f g, (nearV N E f).testBit g = besTo (sd N E) E.length f g := near_bit (sd N E) E.length
    have hnl : ∀ f, nearV N E f < 2 ^ (fcs N E).length := near_lt (sd_lt hwh) E.length
    have HBC := hide (bes_comm (sd N E) E.length)
    have hy := countA_yes (N := N) (E := E)
    have hno := countA_no (N := N) (E := E)
    rw [HVV.out] at hy hno
    obtain ⟨n, hn⟩ : ∃ n, (fcs N E).length = n := ⟨_, rfl⟩
    obtain ⟨o, ho⟩ : ∃ o, oN N E = o := ⟨_, rfl⟩
    obtain ⟨nf, hnf⟩ : ∃ nf, nearV N E = nf := ⟨_, rfl⟩
    obtain ⟨b, hbb⟩ : ∃ b, besTo (sd N E) E.length = b := ⟨_, rfl⟩
    rw [hn] at hon hl40 HN HP HFO hnl hy hno
    rw [ho] at hon HP hy
    rw [hnf] at hnl hnb
    rw [hbb] at hnb HBC hy
    rw [show (fun f => ((nearV N E f : Nat) : Int)) = fun f => ((nf f : Nat) : Int) from by rw [hnf]] at HN
    clear hwh hn ho hnf hbb
    by_cases h10 : 10 < n
    · have HV := hide (show v = -1 from hno (by omega))
      have t2 : decide ((n : Int) > 10) = true := decide_eq_true (by omega)
      have t3 : decide (n > 10) = true := decide_eq_true (by omega)
      clear hno hy hnb hnl
      go_wp2_with fail
      refine HFO.out.mono ?_
      rintro e w3 ⟨A2, c2, rfl, hb3⟩
      have HE3 := hide (HW2.out.trans hb3)
      clear hb3
      go_wp2_with fail
      go_ret
      exact ⟨ret_int HV.out.symm, HE3.out⟩
    have t2 : decide ((n : Int) > 10) = false := decide_eq_false (by omega)
    have t3 : decide (n > 10) = false := decide_eq_false (by omega)
    have h10' : n ≤ 10 := by omega
    have hpl := panes_lt n o
    obtain ⟨p, hp⟩ : ∃ p, panesN n o = p := ⟨_, rfl⟩
    rw [hp] at HP hy hpl
    have HV := hide (show v = (ways b p n p : Nat) from hy (by omega))
    have h1024 : 2 ^ n ≤ 2 ^ 10 := Nat.pow_le_pow_right (by decide) h10'
    have HMS := hide (fun S j t (ht : t < 2 ^ n) => mid_small (b := b) (P := p) (S := S) (j := j) h10' ht)
    have HWS := hide (fun t (ht : t < 2 ^ n) => ways_small (b := b) (P := p) h10' ht)
    have HNI := hide (fun S j (hS : S < 2 ^ n) => nearB_iff (n := n) (S := S) (j := j) HBC.out hnb hS)
    have HLT := hide (fun S j (hS : S < 2 ^ n) (hj : j < n) => sub_set_lt hS hj)
    have sh := shl_one (show n < 62 by omega)
    rw [← wrap64_eq] at sh
    have HMR := hide (fun S t => mid_row b p n S t)
    obtain ⟨M, hM⟩ : ∃ M, 2 ^ n = M := ⟨_, rfl⟩
    have hMz : 0 < M := by rw [← hM]; exact Nat.two_pow_pos n
    rw [hM] at hnl hpl h1024 HMS HWS HNI HLT sh
    have hM10 : M ≤ 1024 := by omega
    have HNL := hide hnl
    clear hno hy hnb hnl hM h1024 hp h10 HVV HBC
    go_wp2_with fail
    refine HFO.out.mono ?_
    rintro e w3 ⟨A2, c2, rfl, hb3⟩
    have HT' := hide (HT.out.ext hb3)
    clear hb3 HT HFO
    have HT := HT'
    clear HT'
    clear kz0 kf0 kc0_0 kc0_1 kE
    have kT := HT.out; simp only [Tr, Bx, CellsAt, Nat.reduceAdd, Nat.zero_add, and_true] at kT; obtain ⟨⟨kz0, kf0, kc0_0, kc0_1⟩, kE⟩ := kT
    go_wp2_with fail
    refine (HN.out _ kE).mono ?_
    rintro e w4 ⟨g, c4, rfl, hown, hb4⟩
    have HT' := hide (HT.out.ext hb4)
    clear HT HN
    have HO4 := hide hown
    have HT := HT'
    clear HT' hown hb4
    clear kz0 kf0 kc0_0 kc0_1 kE
    have kT := HT.out; simp only [Tr, Bx, CellsAt, Nat.reduceAdd, Nat.zero_add, and_true] at kT; obtain ⟨⟨kz0, kf0, kc0_0, kc0_1⟩, kE⟩ := kT
    go_wp2_with fail
    refine (HP.out _ kE).mono ?_
    rintro e w5 ⟨rfl, hb5⟩
    have HO5 := hide (own_ext HO4.out hb5)
    have HE5 := hide (kE.trans hb5)
    clear HO4 HP hb5
    clear kz0 kf0 kc0_0 kc0_1 kE
    clear HT
    go_wp2_with (at_make; refine wpList_make_full _ rfl _ _ 29 rfl w5.heap.size 3 i0 (.int .i64 0) 1 Try.underlying29 hi hz0 hz1 .i64 .i64 (wrap64 ((2 : Int) ^ n)) (wrap64 ((2 : Int) ^ n)) M rfl rfl sh sh (by rw [hz2]; omega) (by unfold maxLen; omega) (Nat.le_refl _) ?_; intro w6 hown hgrow; rw [made_zeros'] at hown; have HG6 := hide (grown_ext hgrow); have HO6 := hide hown; have c0 := own_cellR hown hMz; have f0 := hown.frozenAt 0; clear hown hgrow)
    have hst := (HO6.out.stored 0 (.int .i64 1)).1
    rw [rowOf_set _ _ hMz] at hst
    have HO := hide (show (w6.setCell ⟨w5.heap.size, 0, none⟩ (.int .i64 1)).ownsRow w5.heap.size 3 1 (.slice (some ⟨w5.heap.size, 0, none⟩) M M) M (rowOf M (fun t => ((midT b p n 0 0 t : Nat) : Int))) from by
      refine (congrArg (fun l => World.ownsRow _ _ _ 1 _ M (rowOf M l)) ?_).mp hst
      funext t
      rw [mid_start]
      by_cases h : t = 0 <;> simp [h])
    have HG := hide (HG6.out.setk (k := w5.heap.size) (o := 0) (s := none) (Nat.le_refl _) (.int .i64 1))
    clear hst HO6 HG6 c0 f0
    obtain ⟨w7, hw7⟩ : ∃ w7, w7 = w6.setCell ⟨w5.heap.size, 0, none⟩ (.int .i64 1) := ⟨_, rfl⟩
    rw [← hw7] at HO HG ⊢
    clear hw7
    go_loopw [30] (fun i wr => ∃ S : Nat, S ≤ M ∧ i = .int .i64 S ∧ Hid (wr.ownsRow w5.heap.size 3 1 (.slice (some ⟨w5.heap.size, 0, none⟩) M M) M (rowOf M (fun t => ((midT b p n S 0 t : Nat) : Int)))) ∧ Hid (Ext w5 wr)) (fun i _ => M - (intOf i).toNat)
    case atStart => exact ⟨0, Nat.zero_le _, rfl, HO, HG⟩
    case round =>
      clear HO HG
      obtain ⟨S, hS, rfl, HO, HG⟩ := hrel
      by_cases hlt : S < M
      · have hlz : (S : Int) < (M : Int) := by omega
        have cS := own_cellR HO.out hlt
        rw [mid_all (Nat.le_refl S)] at cS
        have HWV := hide (HWS.out S hlt)
        have HNX := hide (fun j (hj : j < n) t => mid_next (b := b) (P := p) (S := S) hj t)
        have HNIS := hide (fun j => HNI.out S j hlt)
        have HROW := hide (HMR.out S)
        obtain ⟨x, hx⟩ : ∃ x, ways b p n S = x := ⟨_, rfl⟩
        rw [hx] at cS HWV HNX
        clear hx
        obtain ⟨wo, rfl⟩ : ∃ wo : World, wo = wr := ⟨_, rfl⟩
        go_wp2_with fail
        clear cS
        go_loopw [37] (fun i wi => ∃ j : Nat, j ≤ n ∧ i = .int .i64 j ∧ Hid (wi.ownsRow w5.heap.size 3 1 (.slice (some ⟨w5.heap.size, 0, none⟩) M M) M (rowOf M (fun t => ((midT b p n S j t : Nat) : Int)))) ∧ Hid (Ext w5 wi)) (fun i _ => n - (intOf i).toNat)
        case atStart => exact ⟨0, Nat.zero_le _, rfl, HO, HG⟩
        case round =>
          clear HO HG
          obtain ⟨j, hj, rfl, HO, HG⟩ := hrel
          by_cases hltj : j < n
          · have hlj : (j : Int) < (n : Int) := by omega
            have HNJ := hide (HNX.out j hltj)
            have HNB := hide (HNIS.out j)
            have hn5 := own_ext HO5.out HG.out
            have cn := own_cellR hn5 hltj
            have hnl := HNL.out j
            have bp := bit_at p j (by omega)
            have bS := bit_at S j (by omega)
            have b2 := i64_and (nf j) S (by omega) (by omega)
            have b3 := or_shl (u := S) (f := j) (by omega) (by omega)
            rw [← wrap64_eq] at b3
            have hzl := HLT.out S j hlt hltj
            obtain ⟨y, hy⟩ : ∃ y, nf j &&& S = y := ⟨_, rfl⟩
            obtain ⟨q, hq⟩ : ∃ q, nf j = q := ⟨_, rfl⟩
            obtain ⟨z, hz⟩ : ∃ z, S ||| 2 ^ j = z := ⟨_, rfl⟩
            rw [hy] at b2 HNB
            rw [hq] at b2 cn
            rw [hz] at b3 hzl HNJ
            clear hn5 hy hq hz hnl

            by_cases hx0 : 0 < x
            · have HX0 := hide hx0
              have q1 : decide ((x : Int) > 0) = true := decide_eq_true (by omega)
              have q2 : decide (x > 0) = true := decide_eq_true (by omega)
              have q3 : decide ((0 : Int) < (x : Int)) = true := decide_eq_true (by omega)
              have q4 : decide (0 < x) = true := decide_eq_true (by omega)
              cases hbp : p.testBit j with
              | false =>
                have bp' : bits .and .i64 ((p : Int) / 2 ^ j) 1 = 0 := by rw [bp, hbp]; rfl
                clear bp
                have HROWJ := hide (row_same (n := M) (f := midT b p n S (j + 1)) (g := midT b p n S j) (fun t => by rw [HNJ.out t, if_neg (fun h => by rw [hbp] at h; exact absurd h.2.1 (by simp))]))
                clear hbp
                go_wp2_with fail
                go_roundw
                case rel => exact ⟨j + 1, by omega, by go_num, hide (by rw [HROWJ.out]; exact HO.out), HG⟩
                case measure => simp [intOf]; omega
              | true =>
                rw [hbp, if_pos rfl] at bp
                have HBP := hide hbp
                clear hbp
                cases hbS : S.testBit j with
                | true =>
                  rw [hbS, if_pos rfl] at bS
                  have HROWJ := hide (row_same (n := M) (f := midT b p n S (j + 1)) (g := midT b p n S j) (fun t => by rw [HNJ.out t, if_neg (fun h => by rw [hbS] at h; exact absurd h.2.2.1 (by simp))]))
                  clear hbS
                  go_wp2_with fail
                  go_roundw
                  case rel => exact ⟨j + 1, by omega, by go_num, hide (by rw [HROWJ.out]; exact HO.out), HG⟩
                  case measure => simp [intOf]; omega
                | false =>
                  have bS' : bits .and .i64 ((S : Int) / 2 ^ j) 1 = 0 := by rw [bS, hbS]; rfl
                  have HBS := hide hbS
                  clear bS hbS
                  by_cases hok : nearB b n S j = true
                  · have HOK := hide hok
                    have hcz : midT b p n S j z ≤ 10 ^ 10 := HMS.out S j z hzl
                    have cz := own_cellR HO.out hzl
                    have fz := HO.out.frozenAt z
                    have hxs := HWV.out
                    have HST := hide (fun u : Int => (HO.out.stored z (.int .i64 u)).1)
                    have HNW := hide (show (fun t => if t = z then ((midT b p n S j z : Nat) : Int) + (x : Int) else ((midT b p n S j t : Nat) : Int)) = fun t => ((midT b p n S (j + 1) t : Nat) : Int) from by
                      funext t
                      rw [HNJ.out t]
                      by_cases ht : t = z
                      · rw [if_pos ht, if_pos ⟨HX0.out, HBP.out, HBS.out, HOK.out, ht⟩, ht]
                        omega
                      · rw [if_neg ht, if_neg (fun h => ht h.2.2.2.2)])
                    have hzM : (z : Int) < (M : Int) := by omega
                    obtain ⟨d, hd⟩ : ∃ d, midT b p n S j z = d := ⟨_, rfl⟩
                    rw [hd] at hcz cz HNW
                    clear hd hok
                    have hd10 : d ≤ 10000000000 := hcz
                    have hx10 : x ≤ 10000000000 := hxs
                    have aw : wrap64 ((d : Int) + (x : Int)) = (d : Int) + (x : Int) := by rw [wrap64_eq, IntKind.wrap_i64]; omega
                    clear hcz hxs
                    by_cases hS0 : S = 0
                    · have s1 : ((S : Int) == 0) = true := by simp [hS0]
                      have s2 : (S == 0) = true := by simp [hS0]
                      have HS0 := hide hS0
                      clear hS0
                      go_wp2_with fail
                      have hst := HST.out ((d : Int) + (x : Int))
                      rw [rowOf_set _ _ hzl, HNW.out] at hst
                      have HOJ := hide hst
                      have HGJ := hide (HG.out.setk (k := w5.heap.size) (o := z) (s := none) (Nat.le_refl _) (.int .i64 ((d : Int) + (x : Int))))
                      clear hst cz fz cn HO HG HST
                      obtain ⟨w8, hw8⟩ : ∃ w8, w8 = wr.setCell ⟨w5.heap.size, z, none⟩ (.int .i64 ((d : Int) + (x : Int))) := ⟨_, rfl⟩
                      rw [← hw8] at HOJ HGJ ⊢
                      clear hw8
                      go_roundw
                      case rel => exact ⟨j + 1, by omega, by go_num, HOJ, HGJ⟩
                      case measure => simp [intOf]; omega
                    · have s1 : ((S : Int) == 0) = false := by simp; omega
                      have s2 : (S == 0) = false := by simp [hS0]
                      have hy0 : y ≠ 0 := (HNB.out.1 HOK.out).resolve_left hS0
                      have s3 : ((y : Int) != 0) = true := by simp; omega
                      have s4 : (y != 0) = true := by simp; omega
                      have s5 : ((y : Int) == 0) = false := by simp; omega
                      have HS0 := hide hS0
                      clear hS0 hy0
                      go_wp2_with fail
                      have hst := HST.out ((d : Int) + (x : Int))
                      rw [rowOf_set _ _ hzl, HNW.out] at hst
                      have HOJ := hide hst
                      have HGJ := hide (HG.out.setk (k := w5.heap.size) (o := z) (s := none) (Nat.le_refl _) (.int .i64 ((d : Int) + (x : Int))))
                      clear hst cz fz cn HO HG HST
                      obtain ⟨w8, hw8⟩ : ∃ w8, w8 = wr.setCell ⟨w5.heap.size, z, none⟩ (.int .i64 ((d : Int) + (x : Int))) := ⟨_, rfl⟩
                      rw [← hw8] at HOJ HGJ ⊢
                      clear hw8
                      go_roundw
                      case rel => exact ⟨j + 1, by omega, by go_num, HOJ, HGJ⟩
                      case measure => simp [intOf]; omega
                  · have hS0 : S ≠ 0 := fun e => hok (HNB.out.2 (.inl e))
                    have hy0 : y = 0 := by
                      rcases Nat.eq_zero_or_pos y with e | e
                      · exact e
                      · exact absurd (HNB.out.2 (.inr (by omega))) hok
                    have s1 : ((S : Int) == 0) = false := by simp; omega
                    have s2 : (S == 0) = false := by simp [hS0]
                    subst hy0
                    have b2' : bits .and .i64 (q : Int) (S : Int) = 0 := b2
                    have HROWJ := hide (row_same (n := M) (f := midT b p n S (j + 1)) (g := midT b p n S j) (fun t => by rw [HNJ.out t, if_neg (fun h => hok h.2.2.2.1)]))
                    clear hok hS0 b2
                    go_wp2_with fail
                    go_roundw
                    case rel => exact ⟨j + 1, by omega, by go_num, hide (by rw [HROWJ.out]; exact HO.out), HG⟩
                    case measure => simp [intOf]; omega
            · have HX0 := hide hx0
              have hxe : x = 0 := by omega
              subst hxe
              have HROWJ := hide (row_same (n := M) (f := midT b p n S (j + 1)) (g := midT b p n S j) (fun t => by rw [HNJ.out t, if_neg (fun h => absurd h.1 (by omega))]))
              clear hx0
              go_wp2_with fail
              go_roundw
              case rel => exact ⟨j + 1, by omega, by go_num, hide (by rw [HROWJ.out]; exact HO.out), HG⟩
              case measure => simp [intOf]; omega
          · obtain rfl : j = n := by omega
            go_wp2_with fail
            go_roundw
            case rel => exact ⟨S + 1, by omega, by go_num, hide (by rw [← row_same HROW.out]; exact HO.out), HG⟩
            case measure => simp [intOf]; omega
      · obtain rfl : S = M := by omega
        have cp := own_cellR HO.out hpl
        rw [mid_all (Nat.le_of_lt hpl)] at cp
        have hpz : (p : Int) < (S : Int) := by omega
        go_wp2_with fail
        go_ret
        exact ⟨ret_int (by rw [HV.out]), HE5.out.trans HG.out⟩
end Go.Proofs.Ytkgbilbicdiadaa
