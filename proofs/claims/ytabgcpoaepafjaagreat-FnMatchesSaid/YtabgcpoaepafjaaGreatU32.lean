/- Words and walks for the law FnMatches, a part of them. No condition but that the arguments lie in memory. -/
import Derived.Test.YtabgcpoaepafjaaGreatU28
import Derived.Test.YtabgcpoaepafjaaGreatU30
import Derived.Test.YtabgcpoaepafjaaGreatU31
import Derived.Deep.CutRange
import Derived.Maps.AppendAt
set_option linter.unusedVariables false
set_option linter.unusedSimpArgs false
namespace Go.Proofs.YtabgcpoaepafjaaGreat
open Go.RowKit
/-- The count of two picks laid in a new row. -/
theorem count_two (w : World) : Calls Tryz.prog 12 #[.slice (some ⟨w.heap.size, 0, none⟩) 2 2] (w.alloc (Obj.cells #[.int .i64 0, .int .i64 (-1)] 3)) fun e w' => e = .returned (.int .i64 1) ∧ Ext w w' := by
  obtain ⟨w1, h1⟩ : ∃ W, W = w.alloc (Obj.cells #[.int .i64 0, .int .i64 (-1)] 3) := ⟨_, rfl⟩
  have hz : w.heap.size < w1.heap.size := by rw [h1]; simp
  have hE : Ext w w1 := by rw [h1]; exact (Ext.refl w).alloc _
  have hc : ∀ j u, (encI [0, -1])[j]? = some u → w1.cell? ⟨w.heap.size, j, none⟩ = some u := fun j u hj => by
    rw [h1, World.cell?_alloc_new]
    simpa [encI] using hj
  rw [← h1]
  have hR : RI w1 (some ⟨w.heap.size, 0, none⟩) [0, -1] := ⟨rfl, fun _ => ⟨w.heap.size, 0, rfl, hz, fun j u hj => by
    rw [Nat.zero_add]
    exact hc j u hj⟩⟩
  refine (CountMatched_any [0, -1] (some ⟨w.heap.size, 0, none⟩) 2 w1 (by simp) hR).mono ?_
  rintro e w' ⟨he, rfl⟩
  exact ⟨he, hE⟩
theorem own_place2 {N E : List P2} {PN : List Nat} (h : wholeB N E = true) (hP : pansN N E = PN) (hk : 0 < PN.length) : ((PN[0] : Nat) : Int) ∈ castZ (placesN N E (shapeV N E (PN[0] : Nat))) := by
  subst hP
  exact own_place h hk
theorem kept_apart {w w' : World} {base n sz : Nat} {e : TypeId} {v : Value} {xs : List Value} {row : Option Nat} (h : w.ownsRow base e sz v n xs) (hg : w.grownBy w' row) (hap : ∀ q, row = some q → v.ownBlock ≠ some q) : w'.ownsRow base e sz v n xs := by
  refine h.kept hg ?_
  cases hv : v.ownBlock with
  | none => exact .inl rfl
  | some g =>
    refine .inr fun e => ?_
    exact hap g e.symm hv
set_option maxRecDepth 20000 in
set_option maxHeartbeats 16000000 in
theorem FnMatches_walk (l : List Int) (A0 : Option Addr) (cc : Nat) (w : World) (hl : l.length ≤ maxLen) (hr : RB w A0 l) :
    Calls Tryz.prog 3 #[.slice A0 l.length cc] w fun e w' => e = .returned (.bool true) ∧ Ext w w' := by
  by_cases hb : (1048576 : Int) < l.length
  · go_enter Tryz.func3, Tryz.ntmps3
    go_wp2_with fail
    refine (big_any l A0 cc _ hl).mono ?_; rintro e w1 ⟨rfl, rfl⟩
    rw [decide_eq_true (by omega)]
    go_wp2_with fail
    go_ret
    exact ⟨rfl, by repeat (first | exact kE | exact Ext.refl _ | apply Ext.alloc | apply Ext.drewN | apply Ext.drew | apply Ext.set0 | apply Ext.set1 | apply Ext.set2 | apply Ext.set3 | (refine Ext.setk ?_ (by omega) _) | (apply Ext.snoc; assumption))⟩
  · have HR := hide hr
    clear hr
    have hm : l.length ≤ 1048576 := by omega
    go_enter Tryz.func3, Tryz.ntmps3
    go_wp2_with fail
    refine (big_any l A0 cc _ hl).mono ?_; rintro e w1 ⟨rfl, rfl⟩
    rw [decide_eq_false (by omega)]
    go_wp2_with fail
    refine (DrawMatchPanes_any l A0 cc _ hm HR.out).mono ?_
    rintro e wD ⟨N, E, A, B, c, c', L, A3, c3, rfl, hN14, hE22, hL9, hL40, hWR, hSS, kE⟩
    have HEW := hide kE
    have HWR := hide (fun (W : World) (hE : Ext wD W) => hWR.ext hE)
    have HSS := hide (fun (W : World) (hE : Ext wD W) => hSS.ext hE)
    have hLs : ∀ S ∈ L, S.length ≤ 1048576 := fun S hS => Nat.le_trans (hL40 S hS) (by decide)
    have HLS := hide hLs
    obtain ⟨M, hM⟩ : ∃ M, matchV N E L = M := ⟨_, rfl⟩
    obtain ⟨K, hK⟩ : ∃ K, lackV N E L = K := ⟨_, rfl⟩
    have HMP := hide (fun (W : World) (hE : Ext wD W) => (MatchPanes_any N E L A B A3 c c' c3 W (HWR.out W hE) (by omega) hLs (HSS.out W hE)).mono (R' := fun e w' => ∃ A2 c2, e = .returned (.slice A2 M.length c2) ∧ RI w' A2 M ∧ Ext W w') (by rintro e w' ⟨A2, c2, h1, h2, h3⟩; rw [hM] at h1 h2; exact ⟨A2, c2, h1, Rds.of_own h2, h3⟩))
    have HLA := hide (fun (W : World) (hE : Ext wD W) => (LackingShapes_any N E L A B A3 c c' c3 W (HWR.out W hE) (by omega) hLs (HSS.out W hE)).mono (R' := fun e w' => ∃ A2 c2, e = .returned (.slice A2 K.length c2) ∧ RI w' A2 K ∧ Ext W w') (by rintro e w' ⟨A2, c2, h1, h2, h3⟩; rw [hK] at h1 h2; exact ⟨A2, c2, h1, Rds.of_own h2, h3⟩))
    have HIW := hide (fun (W : World) (hE : Ext wD W) => sIsWhole_any N E A B c c' W (HWR.out W hE))
    have HPA := hide (fun (W : World) (hE : Ext wD W) => (sPanesOf_any N E A B c c' W (HWR.out W hE)).mono (R' := fun e w' => ∃ A2 c2, e = .returned (.slice A2 (pansN N E).length c2) ∧ Rds w' 1 A2 (pansN N E).length (encI (castZ (pansN N E))) ∧ Ext W w') (by rintro e w' ⟨A2, c2, h1, h2, h3⟩; exact ⟨A2, c2, h1, Rds.of_own h2, h3⟩))
    have HCF := hide (fun (f : Int) (S : List P2) (C : Option Addr) (cz : Nat) (W : World) (hE : Ext wD W) (hl : S.length ≤ 1048576) (hR : R2 W C S) => CanFill_any N E S A B C c c' cz f W (HWR.out W hE) hl hR)
    have HPF := hide (fun (S : List P2) (C : Option Addr) (cz : Nat) (W : World) (hE : Ext wD W) (hl : S.length ≤ 1048576) (hR : R2 W C S) => PlacesFor_anyv N E S A B C c c' cz W (HWR.out W hE) hl hR)
    have HSH := hide (fun (f : Int) (W : World) (hE : Ext wD W) => sShapeOf_any N E A B c c' f W (HWR.out W hE))
    have HNO := hide (show askB N E L = false → M = [] ∧ K = [] from fun h => ⟨by rw [← hM]; exact matchV_no h, by rw [← hK]; exact lackV_no h⟩)
    have HML := hide (fun h : askB N E L = true => match_length h)
    have HMC := hide (fun h : askB N E L = true => match_lack h)
    have HMF := hide (fun h : askB N E L = true => match_few h)
    have HMA := hide (fun (h : askB N E L = true) (k : Nat) (x : Int) (hk : k < L.length) (hx : (matchV N E L)[k]? = some x) => match_at h hk hx)
    have HMD := hide (fun (h : askB N E L = true) (i k : Nat) (x y : Int) (hik : i < k) (hx : (matchV N E L)[i]? = some x) (hy : (matchV N E L)[k]? = some y) (h0 : 0 ≤ y) => match_apart h hik hx hy h0)
    have HKM := hide (fun (h : askB N E L = true) (x : Int) (hx : x ∈ lackV N E L) => lack_mem h hx)
    have HKF := hide (fun (Q : List Int) (hq : Laid N E L Q) (h : askB N E L = true) (hne : (lackV N E L).length ≠ 0) => hq.few h hne)
    have hM8 : M.length ≤ 8 := by rw [← hM]; exact matchV_len N E L
    have hK8 : K.length ≤ 8 := by rw [← hK]; exact lackV_len N E L
    have hcm := countNN_le M
    rw [hM] at HML HMC HMF HMA HMD
    rw [hK] at HMC HKM HKF
    have HKE := hide hK
    obtain ⟨m, hm'⟩ : ∃ m, M.length = m := ⟨_, rfl⟩
    obtain ⟨kk, hk'⟩ : ∃ kk, K.length = kk := ⟨_, rfl⟩
    obtain ⟨nn, hn'⟩ : ∃ nn, countNN M = nn := ⟨_, rfl⟩
    have HLM := hide hm'
    have HLK := hide hk'
    have HLN := hide hn'
    rw [hm'] at HMP HML hM8 hcm
    rw [hn'] at HMC HMF hcm
    rw [hk'] at HLA HMC HKF hK8
    obtain ⟨ab, hab⟩ : ∃ ab, askB N E L = ab := ⟨_, rfl⟩
    have HAW := hide (show ab = (wholeB N E && decide (L.length ≤ 8)) from hab.symm)
    have HAB := hide hab
    clear hM hK hWR hSS hLs hm' hk' hn' hab hb HR
    
    go_upto_region 4 with fail
    have HX := hide ((Ext.refl wD).alloc (Obj.cells #[Value.slice A N.length c, Value.slice B E.length c'] 27))
    obtain ⟨w2, hw⟩ : ∃ w1, w1 = wD.alloc (Obj.cells #[Value.slice A N.length c, Value.slice B E.length c'] 27) := ⟨_, rfl⟩; rw [← hw]; have kT : Tr [(wD.heap.size, [.slice A N.length c, .slice B E.length c'])] w w2 := (by rw [hw]; exact ⟨by (first | (simp [Bx, CellsAt, go_sem, *]; done) | (simp [Bx, CellsAt, go_sem, *]; omega)), by (repeat (first | exact kE | exact Ext.refl _ | apply Ext.alloc | apply Ext.drewN | apply Ext.drew | apply Ext.set0 | apply Ext.set1 | apply Ext.set2 | apply Ext.set3 | (refine Ext.setk ?_ (by omega) _) | (apply Ext.snoc; assumption)))⟩); have HT := hide kT; clear kT; have kT := HT.out; simp only [Tr, Bx, CellsAt, Nat.reduceAdd, Nat.zero_add, and_true] at kT; obtain ⟨⟨kz0, kf0, kc0_0, kc0_1⟩, kE⟩ := kT
    rw [← hw] at HX
    clear hw
    go_wp2_with fail
    refine (HMP.out _ HX.out).mono ?_; rintro e w3 ⟨A4, c4, rfl, hr4, hb⟩; have HT := hide (HT.out.ext hb); have Hw3 := hide hb; clear hb; clear kz0 kf0 kc0_0 kc0_1 kE; have kT := HT.out; simp only [Tr, Bx, CellsAt, Nat.reduceAdd, Nat.zero_add, and_true] at kT; obtain ⟨⟨kz0, kf0, kc0_0, kc0_1⟩, kE⟩ := kT
    have HRM := hide (fun (W : World) (hE : Ext w3 W) => Rds.ext hr4 hE)
    clear hr4
    have HX := hide (HX.out.trans Hw3.out)
    go_wp2_with fail
    refine (HLA.out _ HX.out).mono ?_; rintro e w4 ⟨A5, c5, rfl, hr5, hb⟩; have HT := hide (HT.out.ext hb); have Hw4 := hide hb; clear hb; clear kz0 kf0 kc0_0 kc0_1 kE; have kT := HT.out; simp only [Tr, Bx, CellsAt, Nat.reduceAdd, Nat.zero_add, and_true] at kT; obtain ⟨⟨kz0, kf0, kc0_0, kc0_1⟩, kE⟩ := kT
    have HRM := hide (fun (W : World) (hE : Ext w4 W) => HRM.out W (Hw4.out.trans hE))
    have HRK := hide (fun (W : World) (hE : Ext w4 W) => Rds.ext hr5 hE)
    clear hr5
    have HX := hide (HX.out.trans Hw4.out)
    clear Hw3 Hw4 HMP HLA
    obtain ⟨wb, hwb⟩ : ∃ wb, wholeB N E = wb := ⟨_, rfl⟩
    have HWB := hide hwb
    rw [hwb] at HAW HIW
    clear hwb
    go_upto_region 6 with fail
    go_cut [35] from 28 to 35 (fun x wx => x = .bool (!ab) ∧ Hid (Tr [(wD.heap.size, [.slice A N.length c, .slice B E.length c'])] w wx) ∧ Hid (Ext wD wx) ∧ Hid (Ext w4 wx))
    case first =>
      go_wp2_with fail
      refine (HIW.out _ HX.out).mono ?_; rintro e w7 ⟨rfl, hb⟩; have HT := hide (HT.out.ext hb); have Hw7 := hide hb; clear hb; clear kz0 kf0 kc0_0 kc0_1 kE; have kT := HT.out; simp only [Tr, Bx, CellsAt, Nat.reduceAdd, Nat.zero_add, and_true] at kT; obtain ⟨⟨kz0, kf0, kc0_0, kc0_1⟩, kE⟩ := kT
      have HX := hide (HX.out.trans Hw7.out)
      have HX4 := hide Hw7.out
      cases wb with
      | false =>
        have h9 : ab = false := HAW.out
        subst h9
        go_wp2_with fail
        go_meet
        exact ⟨rfl, HT, HX, HX4⟩
      | true =>
        by_cases hS8 : L.length ≤ 8
        · have h9 : ab = true := by rw [HAW.out, decide_eq_true hS8]; rfl
          subst h9
          have hSz : decide ((8 : Int) < (L.length : Int)) = false := decide_eq_false (by omega)
          clear hS8
          go_wp2_with fail
          go_meet
          exact ⟨by simp [hSz], HT, HX, HX4⟩
        · have h9 : ab = false := by rw [HAW.out, decide_eq_false hS8]; rfl
          subst h9
          have hSz : decide ((8 : Int) < (L.length : Int)) = true := decide_eq_true (by omega)
          clear hS8
          go_wp2_with fail
          go_meet
          exact ⟨by simp [hSz], HT, HX, HX4⟩
    case rest =>
      clear HT HX HIW
      obtain ⟨rfl, HT, HX, HX4⟩ := hcut
      have HRM := hide (fun (W : World) (hE : Ext w4 W) => HRM.out W hE)
      clear kz0 kf0 kc0_0 kc0_1 kE
      have kT := HT.out; simp only [Tr, Bx, CellsAt, Nat.reduceAdd, Nat.zero_add, and_true] at kT; obtain ⟨⟨kz0, kf0, kc0_0, kc0_1⟩, kE⟩ := kT
      cases ab with
      | false =>
        obtain ⟨hm0, hk0⟩ := HNO.out HAB.out
        have em : m = 0 := by rw [← HLM.out, hm0]; rfl
        have ek : kk = 0 := by rw [← HLK.out, hk0]; rfl
        subst em ek
        go_wp2_with fail
        refine (count_two _).mono ?_
        rintro e w8 ⟨rfl, hE8⟩
        go_wp2_with fail
        go_ret
        exact ⟨rfl, HEW.out.trans (HX.out.trans hE8)⟩
      | true =>
        have hmL := HML.out HAB.out
        subst hmL
        have HCM := hide (fun (W : World) (hE : Ext w4 W) => (show Calls Tryz.prog 12 #[.slice A4 L.length c4] W fun e w' => e = .returned (.int .i64 (nn : Nat)) ∧ Ext W w' from by
          have h := CountMatched_any M A4 c4 W (by rw [HLM.out]; omega) (HRM.out W hE)
          rw [HLM.out, HLN.out] at h
          exact h.mono (by rintro e w' ⟨h1, rfl⟩; exact ⟨h1, Ext.refl _⟩)))
        go_wp2_with fail
        refine (HCM.out _ HX4.out).mono ?_; rintro e w8 ⟨rfl, hb⟩; have HT := hide (HT.out.ext hb); have Hw8 := hide hb; clear hb; clear kz0 kf0 kc0_0 kc0_1 kE; have kT := HT.out; simp only [Tr, Bx, CellsAt, Nat.reduceAdd, Nat.zero_add, and_true] at kT; obtain ⟨⟨kz0, kf0, kc0_0, kc0_1⟩, kE⟩ := kT
        have HX := hide (HX.out.trans Hw8.out)
        have HX4 := hide (HX4.out.trans Hw8.out)
        clear HCM HNO HML
        have HMC := hide (HMC.out HAB.out)
        have HMF := hide (HMF.out HAB.out)
        go_upto_region 9 with fail
        go_cut [63] from 49 to 63 (fun x wx => x = .bool false ∧ Hid (Tr [(wD.heap.size, [.slice A N.length c, .slice B E.length c'])] w wx) ∧ Hid (Ext wD wx) ∧ Hid (Ext w4 wx))
        case first =>
          by_cases hk0 : kk = 0
          · have hnL := HMC.out.2 hk0
            subst hk0 hnL
            go_wp2_with fail
            go_meet
            exact ⟨by simp, HT, HX, HX4⟩
          · have hnL : ¬ nn = L.length := fun h => hk0 (HMC.out.1 h)
            have h1 : ((nn : Int) == (L.length : Int)) = false := by rw [beq_eq_false_iff_ne]; omega
            have h2 : ((kk : Int) == 0) = false := by rw [beq_eq_false_iff_ne]; omega
            clear hk0 hnL
            go_wp2_with fail
            go_meet
            exact ⟨by simp [h1, h2], HT, HX, HX4⟩
        case rest =>
          clear HT HX HX4
          obtain ⟨rfl, HT, HX, HX4⟩ := hcut
          clear kz0 kf0 kc0_0 kc0_1 kE
          have kT := HT.out; simp only [Tr, Bx, CellsAt, Nat.reduceAdd, Nat.zero_add, and_true] at kT; obtain ⟨⟨kz0, kf0, kc0_0, kc0_1⟩, kE⟩ := kT
          go_wp2_with fail
          go_loopw [8, 9] (fun i _ wr => ∃ k : Nat, k ≤ L.length ∧ i = .int .i64 k ∧ Hid (Tr [(wD.heap.size, [.slice A N.length c, .slice B E.length c'])] w wr) ∧ Hid (Ext wD wr) ∧ Hid (Ext w4 wr)) (fun i _ _ => L.length - (intOf i).toNat)
          case atStart => exact ⟨0, Nat.zero_le _, rfl, HT, HX, HX4⟩
          case round =>
            clear HT HX HX4
            obtain ⟨k, hk, rfl, HT, HX, HX4⟩ := hrel
            by_cases hlt : k < L.length
            · have hlz : (k : Int) < (L.length : Int) := by omega
              have hkM : k < M.length := by rw [HLM.out]; exact hlt
              obtain ⟨b4, o4, rfl, hb4, d4⟩ := RI.at_ (HRM.out _ HX4.out) hkM
              obtain ⟨b3, o3, rfl, hb3, Bk, ck, d3, hck, hcm3, hRk⟩ := RSS.at_ (HSS.out _ HX.out) hlt
              obtain ⟨x, hx⟩ : ∃ x, M[k] = x := ⟨_, rfl⟩
              have hxq : M[k]? = some x := by rw [List.getElem?_eq_getElem hkM, hx]
              rw [hx] at d4
              have hma := HMA.out HAB.out k x hlt hxq
              have hS40 : L[k].length ≤ 1048576 := HLS.out _ (List.getElem_mem hlt)
              have HXQ := hide hxq
              obtain ⟨S, hS⟩ : ∃ S, L[k] = S := ⟨_, rfl⟩
              rw [hS] at d3 hck hRk hma hS40
              clear hx hxq hS hkM
              have HRS := hide (fun (W : World) (hE : Ext wr W) => Rds.ext hRk hE)
              clear hRk
              obtain ⟨sl, hsl⟩ : ∃ n, S.length = n := ⟨_, rfl⟩
              have g2 : decide (x < -1) = false := decide_eq_false (by omega)
              have HCX := hide (fun (h0 : 0 ≤ x) (W : World) (hE : Ext wr W) => (show Calls Tryz.prog 13 #[.agg #[.slice A N.length c, .slice B E.length c'], .int .i64 x, .slice Bk sl ck] W fun e w' => e = .returned (.bool true) ∧ Ext W w' from by
                have h := HCF.out x S Bk ck W (HX.out.trans hE) hS40 (HRS.out W hE)
                rw [hma.2 h0, hsl] at h
                exact h))
              rw [hsl] at d3 hck
              have hx1 := hma.1
              clear hma HRS hS40 hsl
              
              clear kz0 kf0 kc0_0 kc0_1 kE
              have kT := HT.out; simp only [Tr, Bx, CellsAt, Nat.reduceAdd, Nat.zero_add, and_true] at kT; obtain ⟨⟨kz0, kf0, kc0_0, kc0_1⟩, kE⟩ := kT
              go_upto_region 14 with fail
              go_cut [94] from 70 to 94 (fun v wx => v = .bool false ∧ Hid (Tr [(wD.heap.size, [.slice A N.length c, .slice B E.length c'])] w wx) ∧ Hid (Ext wr wx))
              case first =>
                have m0 := ExtBy.cell (W := wr) hb4 d4
                have m1 := ExtBy.cell (W := wr) hb3 d3
                by_cases h0 : 0 ≤ x
                · have g1 : decide (0 ≤ x) = true := decide_eq_true h0
                  have HCX := hide (HCX.out h0)
                  clear h0 hx1
                  
                  have kq0_0 := ExtBy.cell (W := wr) kz0 kc0_0; have kq0_1 := ExtBy.cell (W := wr) kz0 kc0_1; refine wp_region_quietE (by kernel_rfl) (by kernel_rfl) ?_; (repeat (refine WQ.step (fun K hK => ?_); have HK := hide hK; clear hK; go_simp; refine HK.out _ ?_; clear HK K)); (refine WQ.step (fun K hK => ?_); have HK := hide hK; clear hK; go_simp; apply Exists.intro; refine ⟨fun _ => ?_, HK.out _ ?_⟩; (go_at_call 13; refine extby_of (HCX.out _ (ExtBy.h _))); clear HK K); (repeat (refine WQ.step (fun K hK => ?_); have HK := hide hK; clear hK; go_simp; refine HK.out _ ?_; clear HK K)); refine WQ.done ?_; intro wq hw'; obtain ⟨⟨_, hwq⟩, hw''⟩ := hw'; subst hw''; clear kq0_0 kq0_1; have HT := hide (HT.out.ext hwq); have Hwq := hide hwq; clear hwq kz0 kf0 kc0_0 kc0_1 kE; have kT := HT.out; simp only [Tr, Bx, CellsAt, Nat.reduceAdd, Nat.zero_add, and_true] at kT; obtain ⟨⟨kz0, kf0, kc0_0, kc0_1⟩, kE⟩ := kT
                  go_wp2_with fail
                  go_meet
                  exact ⟨by simp [g2], HT, Hwq⟩
                · have g1 : decide (0 ≤ x) = false := decide_eq_false h0
                  clear h0 hx1 HCX
                  
                  have kq0_0 := ExtBy.cell (W := wr) kz0 kc0_0; have kq0_1 := ExtBy.cell (W := wr) kz0 kc0_1; refine wp_region_quietE (by kernel_rfl) (by kernel_rfl) ?_; (repeat (refine WQ.step (fun K hK => ?_); have HK := hide hK; clear hK; go_simp; refine HK.out _ ?_; clear HK K)); refine WQ.done ?_; intro wq hw'; obtain ⟨⟨_, hwq⟩, hw''⟩ := hw'; subst hw''; clear kq0_0 kq0_1; have HT := hide (HT.out.ext hwq); have Hwq := hide hwq; clear hwq kz0 kf0 kc0_0 kc0_1 kE; have kT := HT.out; simp only [Tr, Bx, CellsAt, Nat.reduceAdd, Nat.zero_add, and_true] at kT; obtain ⟨⟨kz0, kf0, kc0_0, kc0_1⟩, kE⟩ := kT
                  go_wp2_with fail
                  go_meet
                  exact ⟨by simp [g2], HT, Hwq⟩
              case rest =>
                clear HT HCX g2 d3 hb3 hck hcm3
                obtain ⟨rfl, HT, HE1⟩ := hcut
                clear kz0 kf0 kc0_0 kc0_1 kE
                have kT := HT.out; simp only [Tr, Bx, CellsAt, Nat.reduceAdd, Nat.zero_add, and_true] at kT; obtain ⟨⟨kz0, kf0, kc0_0, kc0_1⟩, kE⟩ := kT
                go_wp2_with fail
                go_loopw [9] (fun j wz => ∃ i : Nat, i ≤ k ∧ j = .int .i64 i ∧ Hid (Tr [(wD.heap.size, [.slice A N.length c, .slice B E.length c'])] w wz) ∧ Hid (Ext wr wz)) (fun j _ => k - (intOf j).toNat)
                case atStart => exact ⟨0, Nat.zero_le _, rfl, HT, HE1⟩
                case round =>
                  clear HT HE1
                  obtain ⟨i, hi, rfl, HT, HE1⟩ := hrel
                  clear kz0 kf0 kc0_0 kc0_1 kE
                  have kT := HT.out; simp only [Tr, Bx, CellsAt, Nat.reduceAdd, Nat.zero_add, and_true] at kT; obtain ⟨⟨kz0, kf0, kc0_0, kc0_1⟩, kE⟩ := kT
                  by_cases hik : i < k
                  · have hiz : (i : Int) < (k : Int) := by omega
                    have hiL : (i : Int) < (L.length : Int) := by omega
                    have hiM : i < M.length := by rw [HLM.out]; omega
                    obtain ⟨b5, o5, e5, hb5, d5⟩ := RI.at_ (HRM.out _ (HX4.out.trans HE1.out)) hiM
                    cases e5
                    have d6 := (HE1.out.facts.1 _ _ hb4).trans d4
                    have hne : 0 ≤ x → M[i] ≠ x := fun h0 => HMD.out HAB.out i k _ _ hik (List.getElem?_eq_getElem hiM) HXQ.out h0
                    obtain ⟨y, hy⟩ : ∃ y, M[i] = y := ⟨_, rfl⟩
                    rw [hy] at d5 hne
                    clear hy hiM hik
                    go_upto_region 19 with fail
                    go_cut [115] from 100 to 115 (fun v wx => v = .bool false ∧ Hid (Tr [(wD.heap.size, [.slice A N.length c, .slice B E.length c'])] w wx) ∧ Hid (Ext wr wx))
                    case first =>
                      have m0 := ExtBy.cell (W := wr) hb5 d5
                      have m1 := ExtBy.cell (W := wr) hb5 d6
                      by_cases h0 : 0 ≤ x
                      · have g1 : decide (0 ≤ x) = true := decide_eq_true h0
                        have g3 : (y == x) = false := beq_eq_false_iff_ne.2 (hne h0)
                        clear h0 hne
                        have kq0_0 := ExtBy.cell (W := wr) kz0 kc0_0; have kq0_1 := ExtBy.cell (W := wr) kz0 kc0_1; refine wp_region_quietE (by kernel_rfl) (by kernel_rfl) ?_; (repeat (refine WQ.step (fun K hK => ?_); have HK := hide hK; clear hK; go_simp; refine HK.out _ ?_; clear HK K)); refine WQ.done ?_; intro wq hw'; obtain ⟨⟨_, hwq⟩, hw''⟩ := hw'; subst hw''; clear kq0_0 kq0_1; have HT := hide (HT.out.ext hwq); have Hwq := hide hwq; clear hwq kz0 kf0 kc0_0 kc0_1 kE; have kT := HT.out; simp only [Tr, Bx, CellsAt, Nat.reduceAdd, Nat.zero_add, and_true] at kT; obtain ⟨⟨kz0, kf0, kc0_0, kc0_1⟩, kE⟩ := kT
                        go_wp2_with fail
                        go_meet
                        exact ⟨by simp [g3], HT, Hwq⟩
                      · have g1 : decide (0 ≤ x) = false := decide_eq_false h0
                        clear h0 hne
                        have kq0_0 := ExtBy.cell (W := wr) kz0 kc0_0; have kq0_1 := ExtBy.cell (W := wr) kz0 kc0_1; refine wp_region_quietE (by kernel_rfl) (by kernel_rfl) ?_; (repeat (refine WQ.step (fun K hK => ?_); have HK := hide hK; clear hK; go_simp; refine HK.out _ ?_; clear HK K)); refine WQ.done ?_; intro wq hw'; obtain ⟨⟨_, hwq⟩, hw''⟩ := hw'; subst hw''; clear kq0_0 kq0_1; have HT := hide (HT.out.ext hwq); have Hwq := hide hwq; clear hwq kz0 kf0 kc0_0 kc0_1 kE; have kT := HT.out; simp only [Tr, Bx, CellsAt, Nat.reduceAdd, Nat.zero_add, and_true] at kT; obtain ⟨⟨kz0, kf0, kc0_0, kc0_1⟩, kE⟩ := kT
                        go_wp2_with fail
                        go_meet
                        exact ⟨rfl, HT, Hwq⟩
                    case rest =>
                      have HE0 := hide HE1.out
                      clear HT HE1
                      obtain ⟨rfl, HT, HE1⟩ := hcut
                      go_wp2_with fail
                      go_roundw
                      case rel => exact ⟨i + 1, by omega, by go_num, HT, hide (HE0.out.trans HE1.out)⟩
                      case measure => simp [intOf]; omega
                  · obtain rfl : i = k := by omega
                    have HX' := hide (HX.out.trans HE1.out)
                    have HX4' := hide (HX4.out.trans HE1.out)
                    go_wp2_with fail
                    go_roundw
                    case rel => exact ⟨i + 1, by omega, by go_num, HT, HX', HX4'⟩
                    case measure => simp [intOf]; omega
            · obtain rfl : k = L.length := by omega
              clear kz0 kf0 kc0_0 kc0_1 kE
              have kT := HT.out; simp only [Tr, Bx, CellsAt, Nat.reduceAdd, Nat.zero_add, and_true] at kT; obtain ⟨⟨kz0, kf0, kc0_0, kc0_1⟩, kE⟩ := kT
              obtain ⟨wP, rfl⟩ : ∃ wP : World, wP = wr := ⟨_, rfl⟩
              have HO := hide (lit_own wP 3 1)
              have HE0 := hide ((Ext.refl wP).alloc (Obj.cells #[] 3))
              have HTP := HT
              clear HMA HMD HMC HCF HRM
              go_wp2_with fail
              go_loopw [10, 11, 13] (fun v i _ wr => ∃ (k : Nat) (Q : List Int), k ≤ kk ∧ i = .int .i64 k ∧ Hid (Laid N E L Q) ∧ Hid (wr.ownsRow wP.heap.size 3 1 v Q.length (encI Q)) ∧ Hid (Ext wP wr)) (fun _ i _ _ => kk - (intOf i).toNat)
              case atStart => exact ⟨0, [], Nat.zero_le _, rfl, hide Laid.nil, HO, HE0⟩
              case round =>
                clear HO HE0
                obtain ⟨k, Q, hk, rfl, HQ, HO, HE⟩ := hrel
                have HT := hide (HTP.out.ext HE.out)
                clear kz0 kf0 kc0_0 kc0_1 kE
                have kT := HT.out; simp only [Tr, Bx, CellsAt, Nat.reduceAdd, Nat.zero_add, and_true] at kT; obtain ⟨⟨kz0, kf0, kc0_0, kc0_1⟩, kE⟩ := kT
                by_cases hlt : k < kk
                · have hlz : (k : Int) < (kk : Int) := by omega
                  have hkK : k < K.length := by rw [HLK.out]; exact hlt
                  obtain ⟨b5, o5, rfl, hb5, d5⟩ := RI.at_ (HRK.out _ (HX4.out.trans HE.out)) hkK
                  have hmem : K[k] ∈ K := List.getElem_mem hkK
                  obtain ⟨x, hx⟩ : ∃ x, K[k] = x := ⟨_, rfl⟩
                  rw [hx] at d5 hmem
                  obtain ⟨h0, h1⟩ := HKM.out HAB.out x hmem
                  obtain ⟨j, rfl⟩ := Int.eq_ofNat_of_zero_le h0
                  have hjL : j < L.length := by omega
                  obtain ⟨b3, o3, rfl, hb3, Bk, ck, d3, hck, hcm3, hRk⟩ := RSS.at_ (HSS.out _ (HX.out.trans HE.out)) hjL
                  have hS40 : L[j].length ≤ 1048576 := HLS.out _ (List.getElem_mem hjL)
                  obtain ⟨S, hS⟩ : ∃ S, L[j] = S := ⟨_, rfl⟩
                  have HAP := hide (fun (Q : List Int) (hq : Laid N E L Q) (x : Int) (h : x ∈ placesV N E S) (hn : x ∉ Q) => hq.app hjL (by rw [HKE.out]; exact hmem) (by rw [hS]; exact h) hn)
                  rw [hS] at d3 hck hRk hS40
                  have hp40 := placesV_len N E S
                  obtain ⟨PL, hPL⟩ : ∃ PL, placesV N E S = PL := ⟨_, rfl⟩
                  obtain ⟨pn, hpn⟩ : ∃ pn, PL.length = pn := ⟨_, rfl⟩
                  have HPN := hide hpn
                  have HPC := hide (fun (W : World) (hE : Ext wr W) => (show Calls Tryz.prog 14 #[.agg #[.slice A N.length c, .slice B E.length c'], .slice Bk S.length ck] W fun e w' => ∃ A2 c2, e = .returned (.slice A2 pn c2) ∧ w'.ownsRow W.heap.size 3 1 (.slice A2 pn c2) pn (encI PL) ∧ Ext W w' from by
                    have h := HPF.out S Bk ck W (HX.out.trans (HE.out.trans hE)) hS40 (Rds.ext hRk hE)
                    rw [hPL, hpn] at h
                    exact h))
                  rw [hPL] at HAP hp40
                  rw [hpn] at hp40
                  have g1 : decide ((j : Int) < 0) = false := decide_eq_false (by omega)
                  have g2 : decide ((L.length : Int) ≤ (j : Int)) = false := decide_eq_false (by omega)
                  have g3 : (j : Int) < (L.length : Int) := by omega
                  obtain ⟨sl, hsl⟩ : ∃ n, S.length = n := ⟨_, rfl⟩
                  rw [hsl] at d3 hck HPC
                  clear hx hS hRk hS40 hPL hpn hsl hmem hkK h0 h1
                  have HEA := HE
                  go_upto_region 27 with fail
                  go_region_held3 (fun w' => (∀ (q o : Nat), q < wr.heap.size → w'.cell? ⟨q, o, none⟩ = wr.cell? ⟨q, o, none⟩) ∧ Ext wr w') ((apply ExtS; repeat (first | exact kE | exact Ext.refl _ | apply Ext.alloc | apply Ext.drewN | apply Ext.drew | apply Ext.set0 | apply Ext.set1 | apply Ext.set2 | apply Ext.set3 | (refine Ext.setk ?_ (by omega) _) | (apply Ext.snoc; assumption)))) ((first | (go_at_call 14; refine (HPC.out _ (by clear kE; repeat (first | exact kE | exact Ext.refl _ | apply Ext.alloc | apply Ext.drewN | apply Ext.drew | apply Ext.set0 | apply Ext.set1 | apply Ext.set2 | apply Ext.set3 | (refine Ext.setk ?_ (by omega) _) | (apply Ext.snoc; assumption)))).mono ?_; rintro e w7 ⟨A7, c7, rfl, ho7, hb7⟩)))
                  have hE7 : Ext wr w7 := ((Ext.refl wr).drew).trans hb7
                  have HE7 := hide (HE.out.trans hE7)
                  have HO7 := hide (own_ext HO.out hE7)
                  have HPL := hide ho7
                  have HA7 := hide (show ∀ q, u10.ownBlock = some q → (Value.slice A7 pn c7).ownBlock ≠ some q from fun q h1 h2 => by
                    have := (HO.out.lt q h1).2
                    have := (ho7.lt q h2).1
                    simp at this
                    omega)
                  have HT := hide (HT.out.ext hE7)
                  clear hb7 hE7 ho7 g1 g2 g3 d3 d5 hck hcm3 hb3 hb5 HPC
                  clear kz0 kf0 kc0_0 kc0_1 kE
                  have kT := HT.out; simp only [Tr, Bx, CellsAt, Nat.reduceAdd, Nat.zero_add, and_true] at kT; obtain ⟨⟨kz0, kf0, kc0_0, kc0_1⟩, kE⟩ := kT
                  go_wp2_with fail
                  go_loopw [10, 13] (fun v i wz => ∃ (a : Nat) (Q : List Int), a ≤ pn ∧ i = .int .i64 a ∧ Hid (Laid N E L Q) ∧ Hid (wz.ownsRow wP.heap.size 3 1 v Q.length (encI Q)) ∧ Hid (wz.ownsRow wP.heap.size 3 1 (.slice A7 pn c7) pn (encI PL)) ∧ Hid (∀ q, v.ownBlock = some q → (Value.slice A7 pn c7).ownBlock ≠ some q) ∧ Hid (Ext wP wz)) (fun _ i _ => pn - (intOf i).toNat)
                  case atStart => exact ⟨0, Q, Nat.zero_le _, rfl, HQ, HO7, hide (own_mono HPL.out (by have := HE.out.size; simp; omega)), HA7, HE7⟩
                  case round =>
                    clear HQ HO HO7 HPL HA7 HE7
                    obtain ⟨a, Q, ha, rfl, HQ, HO, HPL, HA7, HE7⟩ := hrel
                    by_cases hla : a < pn
                    · have haz : (a : Int) < (pn : Int) := by omega
                      obtain ⟨i0, hi, hz0, hz1, hz2⟩ := info_parts int_info
                      obtain ⟨Aq, cq, rfl, _⟩ := own_slice HO.out
                      have haP : a < PL.length := by rw [HPN.out]; exact hla
                      obtain ⟨b8, o8, rfl, hb8, d8⟩ := RI.at_ (show RI wr A7 PL by have h := Rds.of_own HPL.out; rw [← HPN.out] at h; exact h) haP
                      have hxm : PL[a] ∈ PL := List.getElem_mem haP
                      obtain ⟨x, hx⟩ : ∃ x, PL[a] = x := ⟨_, rfl⟩
                      rw [hx] at d8 hxm
                      have hq40 := HQ.out.len
                      have HXM := hide hxm
                      have HHA := hide (lhas_any Q Aq cq x wr (by omega) (Rds.of_own HO.out))
                      clear hx hxm haP
                      cases hh : hasL Q x with
                      | true =>
                        rw [hh] at HHA
                        clear hh hi hz0 hz1 hz2
                        go_wp2_with (go_at_call 15; refine HHA.out.mono ?_; rintro e w' ⟨rfl, rfl⟩)
                        go_roundw
                        case rel => exact ⟨a + 1, Q, by omega, by go_num, HQ, HO, HPL, HA7, HE7⟩
                        case measure => simp [intOf]; omega
                      | false =>
                        rw [hh] at HHA
                        have HQ9 := hide (HAP.out Q HQ.out x HXM.out (fun h => by rw [hasL_iff.2 h] at hh; cases hh))
                        have hs9 := HE7.out.size
                        clear hh
                        go_wp2_with (first | (go_at_call 15; refine HHA.out.mono ?_; rintro e w' ⟨rfl, rfl⟩) | (at_builtin; refine wpList_append_own_at _ rfl _ _ 31 rfl wP.heap.size 3 i0 (.int .i64 0) 1 8 Tryz.underlying31 hi hz0 hz1 hz2 rfl (by decide) (.slice Aq Q.length cq) Q.length (encI Q) rfl (own_ext HO.out ((Ext.refl _).alloc _)) ⟨wr.heap.size, 0, none⟩ 1 1 [.int .i64 x] rfl rfl (news_new wr #[.int .i64 x] 3) (enc_one _) (by unfold maxLen; omega) (by omega) (by simp; omega) ?_; intro v' w9 hown9 hgrow9 hnil hloc))
                        have E9 := hide (Ext.grown (HE7.out.alloc _) hgrow9 (own_base HO.out (Nat.le_refl _)))
                        have HO9 := hide (show w9.ownsRow wP.heap.size 3 1 v' (Q ++ [x]).length (encI (Q ++ [x])) from by
                          rw [encI_append, List.length_append]
                          exact hown9)
                        have HPL9 := hide (kept_apart (own_ext HPL.out ((Ext.refl wr).alloc _)) hgrow9 (fun q e => HA7.out q e))
                        have HA9 := hide (show ∀ q, v'.ownBlock = some q → (Value.slice (some ⟨b8, o8, none⟩) pn c7).ownBlock ≠ some q from fun q h1 h2 => by
                          rcases hloc with e | e
                          · exact HA7.out q (by rw [← e]; exact h1) h2
                          · rw [e] at h1
                            have q1 := (HPL.out.lt q h2).2
                            have q2 := Option.some.inj h1
                            simp at q2
                            omega)
                        clear hown9 hgrow9 hnil hloc hi hz0 hz1 hz2
                        go_roundw
                        case rel => exact ⟨a + 1, Q ++ [x], by omega, by go_num, HQ9, HO9, HPL9, HA9, E9⟩
                        case measure => simp [intOf]; omega
                    · obtain rfl : a = pn := by omega
                      go_wp2_with fail
                      go_roundw
                      case rel => exact ⟨k + 1, Q, by omega, by go_num, HQ, HO, HE7⟩
                      case measure => simp [intOf]; omega
                · obtain rfl : k = kk := by omega
                  have HXE := hide (HX.out.trans HE.out)
                  obtain ⟨Aq, cq, rfl, _⟩ := own_slice HO.out
                  have hq40 := HQ.out.len
                  have hwhl := (ask_whole HAB.out).1
                  obtain ⟨PN, hPN⟩ : ∃ PN, pansN N E = PN := ⟨_, rfl⟩
                  have HOWN := hide (fun (h0 : 0 < PN.length) => own_place2 hwhl hPN h0)
                  have hpl40 : PN.length ≤ 40 := by rw [← hPN]; exact pansN_len N E
                  rw [hPN] at HPA HMF
                  obtain ⟨pf, hpf⟩ : ∃ pf, PN.length = pf := ⟨_, rfl⟩
                  have HPF2 := hide hpf
                  rw [hpf] at HPA HMF hpl40
                  have hmf := HMF.out
                  have HKQ := hide (fun (h : k ≠ 0) => HKF.out Q HQ.out HAB.out h)
                  clear hwhl hPN hpf
                  go_wp2_with fail
                  refine (HPA.out _ HXE.out).mono ?_; rintro e w33 ⟨A8, c8, rfl, hr8, hb⟩; have HT := hide (HT.out.ext hb); have Hw33 := hide hb; clear hb; clear kz0 kf0 kc0_0 kc0_1 kE; have kT := HT.out; simp only [Tr, Bx, CellsAt, Nat.reduceAdd, Nat.zero_add, and_true] at kT; obtain ⟨⟨kz0, kf0, kc0_0, kc0_1⟩, kE⟩ := kT
                  have HX9 := hide (HXE.out.trans Hw33.out)
                  have HR8 := hide hr8
                  clear hr8
                  go_upto_region 34 with fail
                  have b2 : decide ((nn : Int) ≤ (pf : Int)) = true := decide_eq_true (by omega)
                  have b5 : decide (nn ≤ pf) = true := decide_eq_true hmf
                  have HMH := hide hmf
                  clear hmf
                  by_cases hp0 : pf = 0
                  · subst hp0
                    obtain rfl : nn = 0 := by have := HMH.out; omega
                    by_cases hk0 : k = 0
                    · subst hk0
                      have kq0_0 := ExtBy.cell (W := w33) kz0 kc0_0; have kq0_1 := ExtBy.cell (W := w33) kz0 kc0_1; refine wp_region_quietE (by kernel_rfl) (by kernel_rfl) ?_; (repeat (refine WQ.step (fun K hK => ?_); have HK := hide hK; clear hK; go_simp; refine HK.out _ ?_; clear HK K)); refine WQ.done ?_; intro w34 hw'; obtain ⟨⟨_, hw34⟩, hw''⟩ := hw'; subst hw''; clear kq0_0 kq0_1; have HT := hide (HT.out.ext hw34); have Hw34 := hide hw34; clear hw34 kz0 kf0 kc0_0 kc0_1 kE; have kT := HT.out; simp only [Tr, Bx, CellsAt, Nat.reduceAdd, Nat.zero_add, and_true] at kT; obtain ⟨⟨kz0, kf0, kc0_0, kc0_1⟩, kE⟩ := kT
                      go_wp2_with fail
                      go_ret
                      exact ⟨by simp, HEW.out.trans (HX9.out.trans Hw34.out)⟩
                    · have b1 : decide ((Q.length : Int) < (k : Int)) = true := decide_eq_true (by have := HKQ.out hk0; omega)
                      have b6 : decide (Q.length < k) = true := decide_eq_true (HKQ.out hk0)
                      have b3 : ((k : Int) == 0) = false := by simp; omega
                      clear hk0
                      have kq0_0 := ExtBy.cell (W := w33) kz0 kc0_0; have kq0_1 := ExtBy.cell (W := w33) kz0 kc0_1; refine wp_region_quietE (by kernel_rfl) (by kernel_rfl) ?_; (repeat (refine WQ.step (fun K hK => ?_); have HK := hide hK; clear hK; go_simp; refine HK.out _ ?_; clear HK K)); refine WQ.done ?_; intro w34 hw'; obtain ⟨⟨_, hw34⟩, hw''⟩ := hw'; subst hw''; clear kq0_0 kq0_1; have HT := hide (HT.out.ext hw34); have Hw34 := hide hw34; clear hw34 kz0 kf0 kc0_0 kc0_1 kE; have kT := HT.out; simp only [Tr, Bx, CellsAt, Nat.reduceAdd, Nat.zero_add, and_true] at kT; obtain ⟨⟨kz0, kf0, kc0_0, kc0_1⟩, kE⟩ := kT
                      go_wp2_with fail
                      go_ret
                      exact ⟨by simp, HEW.out.trans (HX9.out.trans Hw34.out)⟩
                  · have b4 : ((pf : Int) == 0) = false := by simp; omega
                    have hp1 : 0 < PN.length := by rw [HPF2.out]; omega
                    have hp2 : (0 : Int) < (pf : Int) := by omega
                    have hp3 : 0 < pf := by omega
                    obtain ⟨b8, o8, hA8, hb8, hc8⟩ := HR8.out.2 (by omega)
                    subst hA8
                    have d8 := hc8 0 _ (encI_castZ_get hp1)
                    rw [Nat.add_zero] at d8
                    have hown := HOWN.out hp1
                    obtain ⟨f0, hf0⟩ : ∃ f0, PN[0] = f0 := ⟨_, rfl⟩
                    rw [hf0] at d8 hown
                    have hs40 : (shapeV N E (f0 : Nat)).length ≤ 40 := shapeV_len
                    have HSH0 := HSH.out ((f0 : Nat) : Int)
                    obtain ⟨S0, hS0⟩ : ∃ S0, shapeV N E (f0 : Nat) = S0 := ⟨_, rfl⟩
                    obtain ⟨sl, hsl⟩ : ∃ sl, S0.length = sl := ⟨_, rfl⟩
                    rw [hS0] at hown hs40 HSH0
                    have hp40 := placesV_len N E S0
                    have HPF0 := fun (C : Option Addr) (cz : Nat) (W : World) (hE : Ext wD W) (h : R2 W C S0) => HPF.out S0 C cz W hE (by omega) h
                    have hpv : placesV N E S0 = castZ (placesN N E S0) := rfl
                    rw [← hpv] at hown
                    obtain ⟨P0, hP0⟩ : ∃ P0, placesV N E S0 = P0 := ⟨_, rfl⟩
                    obtain ⟨pl, hpl⟩ : ∃ pl, P0.length = pl := ⟨_, rfl⟩
                    rw [hP0] at hown hp40
                    have HA1 := hide (fun (W : World) (hE : Ext w33 W) => (show Calls Tryz.prog 17 #[.agg #[.slice A N.length c, .slice B E.length c'], .int .i64 (f0 : Nat)] W fun e w' => ∃ A2 c2, e = .returned (.slice A2 sl c2) ∧ R2 w' A2 S0 ∧ Ext W w' from (HSH0 W (HX9.out.trans hE)).mono (by
                      rintro e w' ⟨A2, c2, h1, h2, h3⟩
                      exact ⟨A2, c2, by rw [h1, hsl], Rds.of_own h2, h3⟩)))
                    have HA2 := hide (fun (C : Option Addr) (cz : Nat) (W : World) (hE : Ext w33 W) (h : R2 W C S0) => (show Calls Tryz.prog 14 #[.agg #[.slice A N.length c, .slice B E.length c'], .slice C sl cz] W fun e w' => ∃ A2 c2, e = .returned (.slice A2 pl c2) ∧ RI w' A2 P0 ∧ Ext W w' from by
                      have q := HPF0 C cz W (HX9.out.trans hE) h
                      rw [hP0, hpl, hsl] at q
                      refine q.mono ?_
                      rintro e w' ⟨A2, c2, h1, h2, h3⟩
                      refine ⟨A2, c2, h1, ?_, h3⟩
                      have h4 := Rds.of_own h2
                      rw [← hpl] at h4
                      exact h4))
                    have HA3 := hide (fun (C : Option Addr) (cz : Nat) (W : World) (h : RI W C P0) => (show Calls Tryz.prog 15 #[.slice C pl cz, .int .i64 (f0 : Nat)] W fun e w' => e = .returned (.bool true) ∧ W = w' from by
                      have q := lhas_any P0 C cz ((f0 : Nat) : Int) W (by omega) h
                      rw [hasL_iff.2 hown, hpl] at q
                      exact q))
                    clear hc8 hown hf0 hs40 HSH0 hS0 hsl hp40 HPF0 hpv hP0 hpl hp0 hp1
                    by_cases hk0 : k = 0
                    · subst hk0
                      refine wp_region_held_drew (S := fun w' => (∀ (q o : Nat), q < w33.heap.size → w'.cell? ⟨q, o, none⟩ = w33.cell? ⟨q, o, none⟩) ∧ Ext w33 w') (by kernel_rfl) (by apply ExtS; repeat (first | exact kE | exact Ext.refl _ | apply Ext.alloc | apply Ext.drewN | apply Ext.drew | apply Ext.set0 | apply Ext.set1 | apply Ext.set2 | apply Ext.set3 | (refine Ext.setk ?_ (by omega) _) | (apply Ext.snoc; assumption))) (fun hHeld => ?_)
                      refine takeOn 0 (v := ?_) rfl (by kernel_rfl) (by kernel_rfl) (by kernel_rfl) (fun _ _ _ h => h) (by rfl) ?_ (by assumption) ?_
                      rotate_left
                      · (intro w hSw; (try dsimp only at hSw); go_simp; (try with_reducible rfl))
                      try simp only [Act.put, List.setIfInBounds_toArray, List.set_cons_zero, List.set_cons_succ]
                      refine takeOn 1 (v := ?_) rfl (by kernel_rfl) (by kernel_rfl) (by kernel_rfl) (fun _ _ _ h => h) (by rfl) ?_ (by assumption) ?_
                      rotate_left
                      · (intro w hSw; (try dsimp only at hSw); go_simp; (try with_reducible rfl))
                      try simp only [Act.put, List.setIfInBounds_toArray, List.set_cons_zero, List.set_cons_succ]
                      refine takeOn 2 (v := ?_) rfl (by kernel_rfl) (by kernel_rfl) (by kernel_rfl) (fun _ _ _ h => h) (by rfl) ?_ (by assumption) ?_
                      rotate_left
                      · (intro w hSw; (try dsimp only at hSw); go_simp; (try with_reducible rfl))
                      try simp only [Act.put, List.setIfInBounds_toArray, List.set_cons_zero, List.set_cons_succ]
                      refine takeOn 3 (v := ?_) rfl (by kernel_rfl) (by kernel_rfl) (by kernel_rfl) (fun _ _ _ h => h) (by rfl) ?_ (by assumption) ?_
                      rotate_left
                      · (intro w hSw; (try dsimp only at hSw); go_simp; (try with_reducible rfl))
                      try simp only [Act.put, List.setIfInBounds_toArray, List.set_cons_zero, List.set_cons_succ]
                      refine takeOff 4 rfl (by kernel_rfl) (by kernel_rfl) (by kernel_rfl) (fun _ _ _ h => h) (by rfl) (by assumption) ?_
                      try simp only [Act.put, List.setIfInBounds_toArray, List.set_cons_zero, List.set_cons_succ]
                      refine takeOff 5 rfl (by kernel_rfl) (by kernel_rfl) (by kernel_rfl) (fun _ _ _ h => h) (by rfl) (by assumption) ?_
                      try simp only [Act.put, List.setIfInBounds_toArray, List.set_cons_zero, List.set_cons_succ]
                      refine takeOff 6 rfl (by kernel_rfl) (by kernel_rfl) (by kernel_rfl) (fun _ _ _ h => h) (by rfl) (by assumption) ?_
                      try simp only [Act.put, List.setIfInBounds_toArray, List.set_cons_zero, List.set_cons_succ]
                      refine takeOff 7 rfl (by kernel_rfl) (by kernel_rfl) (by kernel_rfl) (fun _ _ _ h => h) (by rfl) (by assumption) ?_
                      try simp only [Act.put, List.setIfInBounds_toArray, List.set_cons_zero, List.set_cons_succ]
                      refine takeOff 8 rfl (by kernel_rfl) (by kernel_rfl) (by kernel_rfl) (fun _ _ _ h => h) (by rfl) (by assumption) ?_
                      try simp only [Act.put, List.setIfInBounds_toArray, List.set_cons_zero, List.set_cons_succ]
                      refine takeOn 9 (v := ?_) rfl (by kernel_rfl) (by kernel_rfl) (by kernel_rfl) (fun _ _ _ h => h) (by rfl) ?_ (by assumption) ?_
                      rotate_left
                      · (intro w hSw; (try dsimp only at hSw); go_simp; (try with_reducible rfl))
                      try simp only [Act.put, List.setIfInBounds_toArray, List.set_cons_zero, List.set_cons_succ]
                      refine takeOn 10 (v := ?_) rfl (by kernel_rfl) (by kernel_rfl) (by kernel_rfl) (fun _ _ _ h => h) (by rfl) ?_ (by assumption) ?_
                      rotate_left
                      · (intro w hSw; (try dsimp only at hSw); go_simp; (try with_reducible rfl))
                      try simp only [Act.put, List.setIfInBounds_toArray, List.set_cons_zero, List.set_cons_succ]
                      refine takeOn 11 (v := ?_) rfl (by kernel_rfl) (by kernel_rfl) (by kernel_rfl) (fun _ _ _ h => h) (by rfl) ?_ (by assumption) ?_
                      rotate_left
                      · (intro w hSw; (try dsimp only at hSw); go_simp; (try with_reducible rfl))
                      try simp only [Act.put, List.setIfInBounds_toArray, List.set_cons_zero, List.set_cons_succ]
                      refine takeOn 12 (v := ?_) rfl (by kernel_rfl) (by kernel_rfl) (by kernel_rfl) (fun _ _ _ h => h) (by rfl) ?_ (by assumption) ?_
                      rotate_left
                      · (intro w hSw; (try dsimp only at hSw); go_simp; (try with_reducible rfl))
                      try simp only [Act.put, List.setIfInBounds_toArray, List.set_cons_zero, List.set_cons_succ]
                      refine takeOn 13 (v := ?_) rfl (by kernel_rfl) (by kernel_rfl) (by kernel_rfl) (fun _ _ _ h => h) (by rfl) ?_ (by assumption) ?_
                      rotate_left
                      · (intro w hSw; (try dsimp only at hSw); go_simp; (try with_reducible rfl))
                      try simp only [Act.put, List.setIfInBounds_toArray, List.set_cons_zero, List.set_cons_succ]
                      refine takeOn 14 (v := ?_) rfl (by kernel_rfl) (by kernel_rfl) (by kernel_rfl) (fun _ _ _ h => h) (by rfl) ?_ (by assumption) ?_
                      rotate_left
                      · (intro w hSw; (try dsimp only at hSw); go_simp; (try with_reducible rfl))
                      try simp only [Act.put, List.setIfInBounds_toArray, List.set_cons_zero, List.set_cons_succ]
                      refine takeOn 15 (v := ?_) rfl (by kernel_rfl) (by kernel_rfl) (by kernel_rfl) (fun _ _ _ h => h) (by rfl) ?_ (by assumption) ?_
                      rotate_left
                      · (intro w hSw; (try dsimp only at hSw); go_simp; (try with_reducible rfl))
                      try simp only [Act.put, List.setIfInBounds_toArray, List.set_cons_zero, List.set_cons_succ]
                      refine takeOn 16 (v := ?_) rfl (by kernel_rfl) (by kernel_rfl) (by kernel_rfl) (fun _ _ _ h => h) (by rfl) ?_ (by assumption) ?_
                      rotate_left
                      · (intro w hSw; (try dsimp only at hSw); go_simp; (try with_reducible rfl))
                      try simp only [Act.put, List.setIfInBounds_toArray, List.set_cons_zero, List.set_cons_succ]
                      refine takeOn 17 (v := ?_) rfl (by kernel_rfl) (by kernel_rfl) (by kernel_rfl) (fun _ _ _ h => h) (by rfl) ?_ (by assumption) ?_
                      rotate_left
                      · (intro w hSw; (try dsimp only at hSw); go_simp; (try with_reducible rfl))
                      try simp only [Act.put, List.setIfInBounds_toArray, List.set_cons_zero, List.set_cons_succ]
                      refine takeOn 18 (v := ?_) rfl (by kernel_rfl) (by kernel_rfl) (by kernel_rfl) (fun _ _ _ h => h) (by rfl) ?_ (by assumption) ?_
                      rotate_left
                      · (intro w hSw; (try dsimp only at hSw); go_simp; (try with_reducible rfl))
                      try simp only [Act.put, List.setIfInBounds_toArray, List.set_cons_zero, List.set_cons_succ]
                      refine takeOn 19 (v := ?_) rfl (by kernel_rfl) (by kernel_rfl) (by kernel_rfl) (fun _ _ _ h => h) (by rfl) ?_ (by assumption) ?_
                      rotate_left
                      · (intro w hSw; (try dsimp only at hSw); go_simp; (try with_reducible rfl))
                      try simp only [Act.put, List.setIfInBounds_toArray, List.set_cons_zero, List.set_cons_succ]
                      refine takeOn 20 (v := ?_) rfl (by kernel_rfl) (by kernel_rfl) (by kernel_rfl) (fun _ _ _ h => h) (by rfl) ?_ (by assumption) ?_
                      rotate_left
                      · (intro w hSw; (try dsimp only at hSw); go_simp; (try with_reducible rfl))
                      try simp only [Act.put, List.setIfInBounds_toArray, List.set_cons_zero, List.set_cons_succ]
                      refine takeOn 21 (v := ?_) rfl (by kernel_rfl) (by kernel_rfl) (by kernel_rfl) (fun _ _ _ h => h) (by rfl) ?_ (by assumption) ?_
                      rotate_left
                      · (intro w hSw; (try dsimp only at hSw); go_simp; (try with_reducible rfl))
                      try simp only [Act.put, List.setIfInBounds_toArray, List.set_cons_zero, List.set_cons_succ]
                      refine takeOn 22 (v := ?_) rfl (by kernel_rfl) (by kernel_rfl) (by kernel_rfl) (fun _ _ _ h => h) (by rfl) ?_ (by assumption) ?_
                      rotate_left
                      · (intro w hSw; (try dsimp only at hSw); go_simp; (try with_reducible rfl))
                      try simp only [Act.put, List.setIfInBounds_toArray, List.set_cons_zero, List.set_cons_succ]
                      refine takeOn 23 (v := ?_) rfl (by kernel_rfl) (by kernel_rfl) (by kernel_rfl) (fun _ _ _ h => h) (by rfl) ?_ (by assumption) ?_
                      rotate_left
                      · (intro w hSw; (try dsimp only at hSw); go_simp; (try with_reducible rfl))
                      try simp only [Act.put, List.setIfInBounds_toArray, List.set_cons_zero, List.set_cons_succ]
                      refine takeOn 24 (v := ?_) rfl (by kernel_rfl) (by kernel_rfl) (by kernel_rfl) (fun _ _ _ h => h) (by rfl) ?_ (by assumption) ?_
                      rotate_left
                      · (intro w hSw; (try dsimp only at hSw); go_simp; (try with_reducible rfl))
                      try simp only [Act.put, List.setIfInBounds_toArray, List.set_cons_zero, List.set_cons_succ]
                      refine takeOn 25 (v := ?_) rfl (by kernel_rfl) (by kernel_rfl) (by kernel_rfl) (fun _ _ _ h => h) (by rfl) ?_ (by assumption) ?_
                      rotate_left
                      · (intro w hSw; (try dsimp only at hSw); go_simp; (try with_reducible rfl))
                      try simp only [Act.put, List.setIfInBounds_toArray, List.set_cons_zero, List.set_cons_succ]
                      refine takeOn 28 (v := ?_) rfl (by kernel_rfl) (by kernel_rfl) (by kernel_rfl) (fun _ _ _ h => h) (by rfl) ?_ (by assumption) ?_
                      rotate_left
                      · (intro w hSw; (try dsimp only at hSw); go_simp; (try with_reducible rfl))
                      try simp only [Act.put, List.setIfInBounds_toArray, List.set_cons_zero, List.set_cons_succ]
                      refine takeOn 29 (v := ?_) rfl (by kernel_rfl) (by kernel_rfl) (by kernel_rfl) (fun _ _ _ h => h) (by rfl) ?_ (by assumption) ?_
                      rotate_left
                      · (intro w hSw; (try dsimp only at hSw); go_simp; (try with_reducible rfl))
                      try simp only [Act.put, List.setIfInBounds_toArray, List.set_cons_zero, List.set_cons_succ]
                      refine takeOn 30 (v := ?_) rfl (by kernel_rfl) (by kernel_rfl) (by kernel_rfl) (fun _ _ _ h => h) (by rfl) ?_ (by assumption) ?_
                      rotate_left
                      · (intro w hSw; (try dsimp only at hSw); go_simp; (try with_reducible rfl))
                      try simp only [Act.put, List.setIfInBounds_toArray, List.set_cons_zero, List.set_cons_succ]
                      refine takeOne 26 rfl (by kernel_rfl) (by rfl) (fun K hK => ?_)
                      have HK9 := hide hK; clear hK; go_simp
                      refine (HA1.out _ hHeld.2).mono ?_; rintro e w41 ⟨A9, c9, rfl, hr9, hb9⟩
                      (try go_wp2_with fail)
                      refine HK9.out.out _ _ (by (try dsimp only at hHeld ⊢); exact ExtS (by (have kE := hHeld.2; repeat (first | exact kE | exact Ext.refl _ | apply Ext.alloc | apply Ext.drewN | apply Ext.drew | apply Ext.set0 | apply Ext.set1 | apply Ext.set2 | apply Ext.set3 | (refine Ext.setk ?_ (by omega) _) | (apply Ext.snoc; assumption))))) (fun hHeld2 => ?_)
                      clear hHeld HK9 K; have hHeld := hHeld2; clear hHeld2
                      try simp only [Act.put, List.setIfInBounds_toArray, List.set_cons_zero, List.set_cons_succ]
                      refine takeOne 27 rfl (by kernel_rfl) (by rfl) (fun K hK => ?_)
                      have HK9 := hide hK; clear hK; go_simp
                      refine (HA2.out _ _ _ hHeld.2 hr9).mono ?_; rintro e w42 ⟨A10, c10, rfl, hr10, hb10⟩
                      (try go_wp2_with fail)
                      refine HK9.out.out _ _ (by (try dsimp only at hHeld ⊢); exact ExtS (by (have kE := hHeld.2; repeat (first | exact kE | exact Ext.refl _ | apply Ext.alloc | apply Ext.drewN | apply Ext.drew | apply Ext.set0 | apply Ext.set1 | apply Ext.set2 | apply Ext.set3 | (refine Ext.setk ?_ (by omega) _) | (apply Ext.snoc; assumption))))) (fun hHeld2 => ?_)
                      clear hHeld HK9 K; have hHeld := hHeld2; clear hHeld2
                      try simp only [Act.put, List.setIfInBounds_toArray, List.set_cons_zero, List.set_cons_succ]
                      refine takeOne 31 rfl (by kernel_rfl) (by rfl) (fun K hK => ?_)
                      have HK9 := hide hK; clear hK; go_simp
                      refine (HA3.out _ _ _ hr10).mono ?_; rintro e w43 ⟨rfl, rfl⟩
                      (try go_wp2_with fail)
                      refine HK9.out.out _ _ (by (try dsimp only at hHeld ⊢); exact ExtS (by (have kE := hHeld.2; repeat (first | exact kE | exact Ext.refl _ | apply Ext.alloc | apply Ext.drewN | apply Ext.drew | apply Ext.set0 | apply Ext.set1 | apply Ext.set2 | apply Ext.set3 | (refine Ext.setk ?_ (by omega) _) | (apply Ext.snoc; assumption))))) (fun hHeld2 => ?_)
                      clear hHeld HK9 K; have hHeld := hHeld2; clear hHeld2
                      try simp only [Act.put, List.setIfInBounds_toArray, List.set_cons_zero, List.set_cons_succ]
                      refine takeOn 32 (v := ?_) rfl (by kernel_rfl) (by kernel_rfl) (by kernel_rfl) (fun _ _ _ h => h) (by rfl) ?_ (by assumption) ?_
                      rotate_left
                      · (intro w hSw; (try dsimp only at hSw); go_simp; (try with_reducible rfl))
                      try simp only [Act.put, List.setIfInBounds_toArray, List.set_cons_zero, List.set_cons_succ]
                      refine takeOn 33 (v := ?_) rfl (by kernel_rfl) (by kernel_rfl) (by kernel_rfl) (fun _ _ _ h => h) (by rfl) ?_ (by assumption) ?_
                      rotate_left
                      · (intro w hSw; (try dsimp only at hSw); go_simp; (try with_reducible rfl))
                      try simp only [Act.put, List.setIfInBounds_toArray, List.set_cons_zero, List.set_cons_succ]
                      refine takeOn 34 (v := ?_) rfl (by kernel_rfl) (by kernel_rfl) (by kernel_rfl) (fun _ _ _ h => h) (by rfl) ?_ (by assumption) ?_
                      rotate_left
                      · (intro w hSw; (try dsimp only at hSw); go_simp; (try with_reducible rfl))
                      try simp only [Act.put, List.setIfInBounds_toArray, List.set_cons_zero, List.set_cons_succ]
                      refine wpAnyH_done (by kernel_rfl) ?_ _
                      go_wp2_with fail
                      go_ret
                      exact ⟨by simp, HEW.out.trans (HX9.out.trans hHeld.2)⟩
                    · have b1 : decide ((Q.length : Int) < (k : Int)) = true := decide_eq_true (by have := HKQ.out hk0; omega)
                      have b6 : decide (Q.length < k) = true := decide_eq_true (HKQ.out hk0)
                      have b3 : ((k : Int) == 0) = false := by simp; omega
                      clear hk0
                      refine wp_region_held_drew (S := fun w' => (∀ (q o : Nat), q < w33.heap.size → w'.cell? ⟨q, o, none⟩ = w33.cell? ⟨q, o, none⟩) ∧ Ext w33 w') (by kernel_rfl) (by apply ExtS; repeat (first | exact kE | exact Ext.refl _ | apply Ext.alloc | apply Ext.drewN | apply Ext.drew | apply Ext.set0 | apply Ext.set1 | apply Ext.set2 | apply Ext.set3 | (refine Ext.setk ?_ (by omega) _) | (apply Ext.snoc; assumption))) (fun hHeld => ?_)
                      refine takeOn 0 (v := ?_) rfl (by kernel_rfl) (by kernel_rfl) (by kernel_rfl) (fun _ _ _ h => h) (by rfl) ?_ (by assumption) ?_
                      rotate_left
                      · (intro w hSw; (try dsimp only at hSw); go_simp; (try with_reducible rfl))
                      try simp only [Act.put, List.setIfInBounds_toArray, List.set_cons_zero, List.set_cons_succ]
                      refine takeOn 1 (v := ?_) rfl (by kernel_rfl) (by kernel_rfl) (by kernel_rfl) (fun _ _ _ h => h) (by rfl) ?_ (by assumption) ?_
                      rotate_left
                      · (intro w hSw; (try dsimp only at hSw); go_simp; (try with_reducible rfl))
                      try simp only [Act.put, List.setIfInBounds_toArray, List.set_cons_zero, List.set_cons_succ]
                      refine takeOn 2 (v := ?_) rfl (by kernel_rfl) (by kernel_rfl) (by kernel_rfl) (fun _ _ _ h => h) (by rfl) ?_ (by assumption) ?_
                      rotate_left
                      · (intro w hSw; (try dsimp only at hSw); go_simp; (try with_reducible rfl))
                      try simp only [Act.put, List.setIfInBounds_toArray, List.set_cons_zero, List.set_cons_succ]
                      refine takeOn 3 (v := ?_) rfl (by kernel_rfl) (by kernel_rfl) (by kernel_rfl) (fun _ _ _ h => h) (by rfl) ?_ (by assumption) ?_
                      rotate_left
                      · (intro w hSw; (try dsimp only at hSw); go_simp; (try with_reducible rfl))
                      try simp only [Act.put, List.setIfInBounds_toArray, List.set_cons_zero, List.set_cons_succ]
                      refine takeOn 4 (v := ?_) rfl (by kernel_rfl) (by kernel_rfl) (by kernel_rfl) (fun _ _ _ h => h) (by rfl) ?_ (by assumption) ?_
                      rotate_left
                      · (intro w hSw; (try dsimp only at hSw); go_simp; (try with_reducible rfl))
                      try simp only [Act.put, List.setIfInBounds_toArray, List.set_cons_zero, List.set_cons_succ]
                      refine takeOn 5 (v := ?_) rfl (by kernel_rfl) (by kernel_rfl) (by kernel_rfl) (fun _ _ _ h => h) (by rfl) ?_ (by assumption) ?_
                      rotate_left
                      · (intro w hSw; (try dsimp only at hSw); go_simp; (try with_reducible rfl))
                      try simp only [Act.put, List.setIfInBounds_toArray, List.set_cons_zero, List.set_cons_succ]
                      refine takeOn 6 (v := ?_) rfl (by kernel_rfl) (by kernel_rfl) (by kernel_rfl) (fun _ _ _ h => h) (by rfl) ?_ (by assumption) ?_
                      rotate_left
                      · (intro w hSw; (try dsimp only at hSw); go_simp; (try with_reducible rfl))
                      try simp only [Act.put, List.setIfInBounds_toArray, List.set_cons_zero, List.set_cons_succ]
                      refine takeOn 7 (v := ?_) rfl (by kernel_rfl) (by kernel_rfl) (by kernel_rfl) (fun _ _ _ h => h) (by rfl) ?_ (by assumption) ?_
                      rotate_left
                      · (intro w hSw; (try dsimp only at hSw); go_simp; (try with_reducible rfl))
                      try simp only [Act.put, List.setIfInBounds_toArray, List.set_cons_zero, List.set_cons_succ]
                      refine takeOn 8 (v := ?_) rfl (by kernel_rfl) (by kernel_rfl) (by kernel_rfl) (fun _ _ _ h => h) (by rfl) ?_ (by assumption) ?_
                      rotate_left
                      · (intro w hSw; (try dsimp only at hSw); go_simp; (try with_reducible rfl))
                      try simp only [Act.put, List.setIfInBounds_toArray, List.set_cons_zero, List.set_cons_succ]
                      refine takeOn 9 (v := ?_) rfl (by kernel_rfl) (by kernel_rfl) (by kernel_rfl) (fun _ _ _ h => h) (by rfl) ?_ (by assumption) ?_
                      rotate_left
                      · (intro w hSw; (try dsimp only at hSw); go_simp; (try with_reducible rfl))
                      try simp only [Act.put, List.setIfInBounds_toArray, List.set_cons_zero, List.set_cons_succ]
                      refine takeOn 10 (v := ?_) rfl (by kernel_rfl) (by kernel_rfl) (by kernel_rfl) (fun _ _ _ h => h) (by rfl) ?_ (by assumption) ?_
                      rotate_left
                      · (intro w hSw; (try dsimp only at hSw); go_simp; (try with_reducible rfl))
                      try simp only [Act.put, List.setIfInBounds_toArray, List.set_cons_zero, List.set_cons_succ]
                      refine takeOn 11 (v := ?_) rfl (by kernel_rfl) (by kernel_rfl) (by kernel_rfl) (fun _ _ _ h => h) (by rfl) ?_ (by assumption) ?_
                      rotate_left
                      · (intro w hSw; (try dsimp only at hSw); go_simp; (try with_reducible rfl))
                      try simp only [Act.put, List.setIfInBounds_toArray, List.set_cons_zero, List.set_cons_succ]
                      refine takeOn 12 (v := ?_) rfl (by kernel_rfl) (by kernel_rfl) (by kernel_rfl) (fun _ _ _ h => h) (by rfl) ?_ (by assumption) ?_
                      rotate_left
                      · (intro w hSw; (try dsimp only at hSw); go_simp; (try with_reducible rfl))
                      try simp only [Act.put, List.setIfInBounds_toArray, List.set_cons_zero, List.set_cons_succ]
                      refine takeOn 13 (v := ?_) rfl (by kernel_rfl) (by kernel_rfl) (by kernel_rfl) (fun _ _ _ h => h) (by rfl) ?_ (by assumption) ?_
                      rotate_left
                      · (intro w hSw; (try dsimp only at hSw); go_simp; (try with_reducible rfl))
                      try simp only [Act.put, List.setIfInBounds_toArray, List.set_cons_zero, List.set_cons_succ]
                      refine takeOn 14 (v := ?_) rfl (by kernel_rfl) (by kernel_rfl) (by kernel_rfl) (fun _ _ _ h => h) (by rfl) ?_ (by assumption) ?_
                      rotate_left
                      · (intro w hSw; (try dsimp only at hSw); go_simp; (try with_reducible rfl))
                      try simp only [Act.put, List.setIfInBounds_toArray, List.set_cons_zero, List.set_cons_succ]
                      refine takeOn 15 (v := ?_) rfl (by kernel_rfl) (by kernel_rfl) (by kernel_rfl) (fun _ _ _ h => h) (by rfl) ?_ (by assumption) ?_
                      rotate_left
                      · (intro w hSw; (try dsimp only at hSw); go_simp; (try with_reducible rfl))
                      try simp only [Act.put, List.setIfInBounds_toArray, List.set_cons_zero, List.set_cons_succ]
                      refine takeOn 16 (v := ?_) rfl (by kernel_rfl) (by kernel_rfl) (by kernel_rfl) (fun _ _ _ h => h) (by rfl) ?_ (by assumption) ?_
                      rotate_left
                      · (intro w hSw; (try dsimp only at hSw); go_simp; (try with_reducible rfl))
                      try simp only [Act.put, List.setIfInBounds_toArray, List.set_cons_zero, List.set_cons_succ]
                      refine takeOn 17 (v := ?_) rfl (by kernel_rfl) (by kernel_rfl) (by kernel_rfl) (fun _ _ _ h => h) (by rfl) ?_ (by assumption) ?_
                      rotate_left
                      · (intro w hSw; (try dsimp only at hSw); go_simp; (try with_reducible rfl))
                      try simp only [Act.put, List.setIfInBounds_toArray, List.set_cons_zero, List.set_cons_succ]
                      refine takeOn 18 (v := ?_) rfl (by kernel_rfl) (by kernel_rfl) (by kernel_rfl) (fun _ _ _ h => h) (by rfl) ?_ (by assumption) ?_
                      rotate_left
                      · (intro w hSw; (try dsimp only at hSw); go_simp; (try with_reducible rfl))
                      try simp only [Act.put, List.setIfInBounds_toArray, List.set_cons_zero, List.set_cons_succ]
                      refine takeOn 19 (v := ?_) rfl (by kernel_rfl) (by kernel_rfl) (by kernel_rfl) (fun _ _ _ h => h) (by rfl) ?_ (by assumption) ?_
                      rotate_left
                      · (intro w hSw; (try dsimp only at hSw); go_simp; (try with_reducible rfl))
                      try simp only [Act.put, List.setIfInBounds_toArray, List.set_cons_zero, List.set_cons_succ]
                      refine takeOn 20 (v := ?_) rfl (by kernel_rfl) (by kernel_rfl) (by kernel_rfl) (fun _ _ _ h => h) (by rfl) ?_ (by assumption) ?_
                      rotate_left
                      · (intro w hSw; (try dsimp only at hSw); go_simp; (try with_reducible rfl))
                      try simp only [Act.put, List.setIfInBounds_toArray, List.set_cons_zero, List.set_cons_succ]
                      refine takeOn 21 (v := ?_) rfl (by kernel_rfl) (by kernel_rfl) (by kernel_rfl) (fun _ _ _ h => h) (by rfl) ?_ (by assumption) ?_
                      rotate_left
                      · (intro w hSw; (try dsimp only at hSw); go_simp; (try with_reducible rfl))
                      try simp only [Act.put, List.setIfInBounds_toArray, List.set_cons_zero, List.set_cons_succ]
                      refine takeOn 22 (v := ?_) rfl (by kernel_rfl) (by kernel_rfl) (by kernel_rfl) (fun _ _ _ h => h) (by rfl) ?_ (by assumption) ?_
                      rotate_left
                      · (intro w hSw; (try dsimp only at hSw); go_simp; (try with_reducible rfl))
                      try simp only [Act.put, List.setIfInBounds_toArray, List.set_cons_zero, List.set_cons_succ]
                      refine takeOn 23 (v := ?_) rfl (by kernel_rfl) (by kernel_rfl) (by kernel_rfl) (fun _ _ _ h => h) (by rfl) ?_ (by assumption) ?_
                      rotate_left
                      · (intro w hSw; (try dsimp only at hSw); go_simp; (try with_reducible rfl))
                      try simp only [Act.put, List.setIfInBounds_toArray, List.set_cons_zero, List.set_cons_succ]
                      refine takeOn 24 (v := ?_) rfl (by kernel_rfl) (by kernel_rfl) (by kernel_rfl) (fun _ _ _ h => h) (by rfl) ?_ (by assumption) ?_
                      rotate_left
                      · (intro w hSw; (try dsimp only at hSw); go_simp; (try with_reducible rfl))
                      try simp only [Act.put, List.setIfInBounds_toArray, List.set_cons_zero, List.set_cons_succ]
                      refine takeOn 25 (v := ?_) rfl (by kernel_rfl) (by kernel_rfl) (by kernel_rfl) (fun _ _ _ h => h) (by rfl) ?_ (by assumption) ?_
                      rotate_left
                      · (intro w hSw; (try dsimp only at hSw); go_simp; (try with_reducible rfl))
                      try simp only [Act.put, List.setIfInBounds_toArray, List.set_cons_zero, List.set_cons_succ]
                      refine takeOn 28 (v := ?_) rfl (by kernel_rfl) (by kernel_rfl) (by kernel_rfl) (fun _ _ _ h => h) (by rfl) ?_ (by assumption) ?_
                      rotate_left
                      · (intro w hSw; (try dsimp only at hSw); go_simp; (try with_reducible rfl))
                      try simp only [Act.put, List.setIfInBounds_toArray, List.set_cons_zero, List.set_cons_succ]
                      refine takeOn 29 (v := ?_) rfl (by kernel_rfl) (by kernel_rfl) (by kernel_rfl) (fun _ _ _ h => h) (by rfl) ?_ (by assumption) ?_
                      rotate_left
                      · (intro w hSw; (try dsimp only at hSw); go_simp; (try with_reducible rfl))
                      try simp only [Act.put, List.setIfInBounds_toArray, List.set_cons_zero, List.set_cons_succ]
                      refine takeOn 30 (v := ?_) rfl (by kernel_rfl) (by kernel_rfl) (by kernel_rfl) (fun _ _ _ h => h) (by rfl) ?_ (by assumption) ?_
                      rotate_left
                      · (intro w hSw; (try dsimp only at hSw); go_simp; (try with_reducible rfl))
                      try simp only [Act.put, List.setIfInBounds_toArray, List.set_cons_zero, List.set_cons_succ]
                      refine takeOne 26 rfl (by kernel_rfl) (by rfl) (fun K hK => ?_)
                      have HK9 := hide hK; clear hK; go_simp
                      refine (HA1.out _ hHeld.2).mono ?_; rintro e w41 ⟨A9, c9, rfl, hr9, hb9⟩
                      (try go_wp2_with fail)
                      refine HK9.out.out _ _ (by (try dsimp only at hHeld ⊢); exact ExtS (by (have kE := hHeld.2; repeat (first | exact kE | exact Ext.refl _ | apply Ext.alloc | apply Ext.drewN | apply Ext.drew | apply Ext.set0 | apply Ext.set1 | apply Ext.set2 | apply Ext.set3 | (refine Ext.setk ?_ (by omega) _) | (apply Ext.snoc; assumption))))) (fun hHeld2 => ?_)
                      clear hHeld HK9 K; have hHeld := hHeld2; clear hHeld2
                      try simp only [Act.put, List.setIfInBounds_toArray, List.set_cons_zero, List.set_cons_succ]
                      refine takeOne 27 rfl (by kernel_rfl) (by rfl) (fun K hK => ?_)
                      have HK9 := hide hK; clear hK; go_simp
                      refine (HA2.out _ _ _ hHeld.2 hr9).mono ?_; rintro e w42 ⟨A10, c10, rfl, hr10, hb10⟩
                      (try go_wp2_with fail)
                      refine HK9.out.out _ _ (by (try dsimp only at hHeld ⊢); exact ExtS (by (have kE := hHeld.2; repeat (first | exact kE | exact Ext.refl _ | apply Ext.alloc | apply Ext.drewN | apply Ext.drew | apply Ext.set0 | apply Ext.set1 | apply Ext.set2 | apply Ext.set3 | (refine Ext.setk ?_ (by omega) _) | (apply Ext.snoc; assumption))))) (fun hHeld2 => ?_)
                      clear hHeld HK9 K; have hHeld := hHeld2; clear hHeld2
                      try simp only [Act.put, List.setIfInBounds_toArray, List.set_cons_zero, List.set_cons_succ]
                      refine takeOne 31 rfl (by kernel_rfl) (by rfl) (fun K hK => ?_)
                      have HK9 := hide hK; clear hK; go_simp
                      refine (HA3.out _ _ _ hr10).mono ?_; rintro e w43 ⟨rfl, rfl⟩
                      (try go_wp2_with fail)
                      refine HK9.out.out _ _ (by (try dsimp only at hHeld ⊢); exact ExtS (by (have kE := hHeld.2; repeat (first | exact kE | exact Ext.refl _ | apply Ext.alloc | apply Ext.drewN | apply Ext.drew | apply Ext.set0 | apply Ext.set1 | apply Ext.set2 | apply Ext.set3 | (refine Ext.setk ?_ (by omega) _) | (apply Ext.snoc; assumption))))) (fun hHeld2 => ?_)
                      clear hHeld HK9 K; have hHeld := hHeld2; clear hHeld2
                      try simp only [Act.put, List.setIfInBounds_toArray, List.set_cons_zero, List.set_cons_succ]
                      refine takeOn 32 (v := ?_) rfl (by kernel_rfl) (by kernel_rfl) (by kernel_rfl) (fun _ _ _ h => h) (by rfl) ?_ (by assumption) ?_
                      rotate_left
                      · (intro w hSw; (try dsimp only at hSw); go_simp; (try with_reducible rfl))
                      try simp only [Act.put, List.setIfInBounds_toArray, List.set_cons_zero, List.set_cons_succ]
                      refine takeOn 33 (v := ?_) rfl (by kernel_rfl) (by kernel_rfl) (by kernel_rfl) (fun _ _ _ h => h) (by rfl) ?_ (by assumption) ?_
                      rotate_left
                      · (intro w hSw; (try dsimp only at hSw); go_simp; (try with_reducible rfl))
                      try simp only [Act.put, List.setIfInBounds_toArray, List.set_cons_zero, List.set_cons_succ]
                      refine takeOn 34 (v := ?_) rfl (by kernel_rfl) (by kernel_rfl) (by kernel_rfl) (fun _ _ _ h => h) (by rfl) ?_ (by assumption) ?_
                      rotate_left
                      · (intro w hSw; (try dsimp only at hSw); go_simp; (try with_reducible rfl))
                      try simp only [Act.put, List.setIfInBounds_toArray, List.set_cons_zero, List.set_cons_succ]
                      refine wpAnyH_done (by kernel_rfl) ?_ _
                      go_wp2_with fail
                      go_ret
                      exact ⟨by simp, HEW.out.trans (HX9.out.trans hHeld.2)⟩
end Go.Proofs.YtabgcpoaepafjaaGreat
