/- The walk of the law on kilns. Condition: the bytes lie in memory. -/
import Derived.Test.YtndbbdbnimmcoaaDrawA
import Derived.Test.YtndbbdbnimmcoaaDrawK
import Derived.Test.YtndbbdbnimmcoaaKilnK
import Derived.Test.YtndbbdbnimmcoaaFireP
import Derived.Test.YtndbbdbnimmcoaaRegR
import Derived.BigQuiet
set_option linter.unusedSimpArgs false
set_option linter.unusedVariables false
namespace Go.Proofs.Ytndbbdbnimmcoaa
open Go.RowKit

theorem firingIn_ok {s : P3} (h : firingIn s) : firingOk s.1 s.2.1 s.2.2 = true := by
  obtain ⟨h1, h2, h3, h4⟩ := h
  have e : (inR s.1 400 900 = true ∧ inR s.2.1 1 24 = true) ∧ inR s.2.2 1 100 = true := by
    simp only [inR, Bool.and_eq_true, decide_eq_true_eq]
    omega
  simp only [firingOk, Bool.and_eq_true]
  exact e
theorem firings_more {L : List P3} {x : P3} (h : L.length ≤ 9) (hl : ∀ s ∈ L, firingIn s) (h1 : x.1 = 600 ∧ x.2.1 = 4) (h2 : 1 ≤ x.2.2 ∧ x.2.2 ≤ 100) : firingsB (L ++ [x]) = true := by
  simp only [firingsB, Bool.and_eq_true, decide_eq_true_eq, List.all_eq_true]
  refine ⟨by simp; omega, fun s hs => ?_⟩
  rcases List.mem_append.1 hs with hs | hs
  · exact firingIn_ok (hl s hs)
  · have e : s = x := by simpa using hs
    subst e
    simp only [okF, firingOk, inR, Bool.and_eq_true, decide_eq_true_eq]
    omega
theorem news_rds {w : World} {sz n : Nat} {a : Addr} {xs : List Value} (h : Rds w sz (some a) n xs) : ∀ (j : Nat) u, xs[j]? = some u → w.cell? (Addr.add a j) = some u := by
  intro j u hu
  have hj : j < xs.length := (List.getElem?_eq_some_iff.1 hu).1
  have hn : 0 < n := by
    rcases Nat.eq_zero_or_pos n with e | e
    · rw [h.1, e, Nat.zero_mul] at hj
      omega
    · exact e
  obtain ⟨b, off, e, hb, hc⟩ := h.2 hn
  injection e with e
  subst e
  have ha : Addr.add ⟨b, off, none⟩ j = ⟨b, off + j, none⟩ := by unfold Addr.add; split <;> simp_all
  rw [ha]
  exact hc j u hu
theorem sum_take_room {L : List P3} {k : Nat} (h : k < L.length) : ((L.take (k + 1)).map (·.2.2)).sum = ((L.take k).map (·.2.2)).sum + L[k].2.2 := by
  rw [List.take_succ_eq_append_getElem h, List.map_append, List.sum_append]
  simp

set_option maxRecDepth 100000 in
set_option maxHeartbeats 16000000 in
theorem FnKilns_walk (l : List Int) (A : Option Addr) (cc : Nat) (w : World) (hl : l.length ≤ maxLen) (hr : RB w A l) :
    Calls Try.prog 3 #[.slice A l.length cc] w fun e w' => e = .returned (.bool true) ∧ Ext w w' := by
  by_cases hb : (1048576 : Int) < l.length
  · go_enter Try.func3, Try.ntmps3
    go_wp2_with fail
    refine (big_any l A cc _ hl).mono ?_; rintro e w1 ⟨rfl, rfl⟩
    rw [decide_eq_true (by omega)]
    go_wp2_with fail
    go_ret
    exact ⟨rfl, by repeat (first | exact kE | exact Ext.refl _ | apply Ext.alloc | apply Ext.drewN | apply Ext.drew | apply Ext.set0 | apply Ext.set1 | apply Ext.set2 | apply Ext.set3 | (refine Ext.setk ?_ (by omega) _) | (apply Ext.snoc; assumption))⟩
  · obtain ⟨i0, hi, hz0, hz1, hz2⟩ := info_parts firing_info
    have HR := hide hr
    clear hr
    have hm : l.length ≤ 1048576 := by omega
    go_enter Try.func3, Try.ntmps3
    go_wp2_with fail
    refine (big_any l A cc _ hl).mono ?_; rintro e w1 ⟨rfl, rfl⟩
    rw [decide_eq_false (by omega)]
    go_wp2_with fail
    refine (DrawFirings_any l A cc _ hm HR.out).mono ?_; rintro e v1 ⟨L, gr, cr, rfl, h7, hL, ho, hE⟩
    have hok : firingsB L = true := firingsB_in (by omega) hL
    have HOK := hide hok
    have HL := hide hL
    have HO := hide ho
    have HBO := hide ho
    have kE := hide hE
    have hl10 : L.length ≤ 1048576 := by omega
    obtain ⟨n, hn⟩ : ∃ q, fewV costOne L = q := ⟨_, rfl⟩
    obtain ⟨h, hh⟩ : ∃ q, fewV costHours L = q := ⟨_, rfl⟩
    have K := kilns_law hok
    rw [hn, hh] at K
    obtain ⟨k1, k2, k3, k4, k5, k6⟩ := K
    have K6 := hide k6
    clear k6 hL ho hE hok
    go_wp2_with fail
    refine (FewestFirings_any L _ _ _ hl10 (Rds.of_own HO.out)).mono ?_; rintro e v2 ⟨rfl, hb⟩
    have HO := hide (own_ext HO.out hb)
    have kE := hide (kE.out.trans hb)
    clear hb
    rw [hn]
    go_wp2_with fail
    refine (HoursOf_any L _ _ _ hl10 (Rds.of_own HO.out)).mono ?_; rintro e v3 ⟨rfl, hb⟩
    have HO := hide (own_ext HO.out hb)
    have kE := hide (kE.out.trans hb)
    clear hb
    rw [hh]
    go_wp2_with fail
    refine (FireOrder_any L _ _ _ hl10 (Rds.of_own HO.out)).mono ?_; rintro e v4 ⟨Ao, co, rfl, ho2, hb⟩
    have e4 : fireV L = orderI L L.length := fireV_yes HOK.out
    have HE4 := hide e4
    have hle : (fireV L).length = L.length := by rw [e4, orderI_length]
    have HP := hide ho2
    have HO := hide (own_ext HO.out hb)
    have kE := hide (kE.out.trans hb)
    rw [e4] at ho2
    rw [hle]
    have HP := hide (Rds.of_own ho2)
    clear hb hle e4 ho2
    obtain ⟨bz, hz1', hz2'⟩ : ∃ bz, (n == 0) = bz ∧ ((L.length : Int) == 0) = bz := ⟨_, rfl, by rw [Bool.eq_iff_iff]; simpa using k3.symm⟩
    go_wp2_with fail
    go_loopw [7, 8] (fun r i wr => ∃ k : Nat, k ≤ L.length ∧ i = .int .i64 k ∧ r = .int .i64 ((L.take k).map (·.2.2)).sum ∧ Ext v4 wr) (fun _ i _ => L.length - (intOf i).toNat)
    case atStart => exact ⟨0, Nat.zero_le _, rfl, by simp, Ext.refl _⟩
    case round =>
      obtain ⟨k, hk, rfl, rfl, hEr⟩ := hrel
      have HEr := hide hEr
      have HOr := hide (own_ext HO.out hEr)
      have HPr := hide (HP.out.ext hEr)
      clear hEr
      by_cases hlt : k < L.length
      · obtain ⟨b, off, hA, hb, c0, c1, c2⟩ := R3.at_ (Rds.of_own HOr.out) hlt
        have hs := sum_rooms HL.out k (by omega)
        have hin := HL.out _ (List.getElem_mem hlt)
        obtain ⟨x0, hx0⟩ : ∃ q, L[k] = q := ⟨_, rfl⟩
        obtain ⟨sm, hsm⟩ : ∃ q, ((L.take k).map (·.2.2)).sum = q := ⟨_, rfl⟩
        rw [hx0] at c0 c1 c2 hin
        rw [hsm] at hs ⊢
        injection hA with hA
        injection hA with hA1 hA2 _
        subst hA1 hA2
        simp only [Nat.zero_add] at c0 c1 c2
        obtain ⟨y1, y2, y3, y4⟩ := hin
        go_wp2_with fail
        rcases Nat.eq_zero_or_pos k with hk0 | hk0
        · subst hk0
          obtain ⟨ob, ooff, hAo, hob, co0⟩ := RI.at_ HPr.out (show 0 < (orderI L L.length).length by rw [orderI_length]; omega)
          rw [order_get (show 0 < L.length by omega)] at co0
          obtain ⟨pp, hpp⟩ : ∃ q, (order L L.length)[0]'(by rw [order_length]; omega) = q := ⟨_, rfl⟩
          have hpl : pp < L.length := by rw [← hpp]; exact order_lt (List.getElem_mem _)
          rw [hpp] at co0
          subst hAo
          obtain ⟨bp, offp, hAp, hbp, d0, _, _⟩ := R3.at_ (Rds.of_own HOr.out) hpl
          injection hAp with hAp
          injection hAp with hAp1 hAp2 _
          subst hAp1 hAp2
          simp only [Nat.zero_add] at d0
          obtain ⟨hp0, hhp0⟩ : ∃ q, L[pp].1 = q := ⟨_, rfl⟩
          rw [hhp0] at d0
          have t1 : ((pp : Int) < 0) = False := by simp
          have t2 : decide ((L.length : Int) ≤ pp) = false := decide_eq_false (by omega)
          have t2n : decide (L.length ≤ pp) = false := decide_eq_false (by omega)
          simp only [Nat.add_zero] at co0
          have t6 : 0 < (L.length : Int) := by omega
          have t7 : ((0 : Nat) : Int) < (L.length : Int) := by omega
          replace k1 := hide k1
          replace k2 := hide k2
          replace k3 := hide k3
          replace k4 := hide k4
          replace k5 := hide k5
          replace hl := hide hl
          replace hm := hide hm
          replace hi := hide hi
          replace hz0 := hide hz0
          replace hz1 := hide hz1
          replace hz2 := hide hz2
          replace h7 := hide h7
          replace hn := hide hn
          replace hh := hide hh
          replace hz1' := hide hz1'
          replace hz2' := hide hz2'
          replace c0 := hide c0
          replace c1 := hide c1
          replace c2 := hide c2
          replace y1 := hide y1
          replace y2 := hide y2
          replace y3 := hide y3
          replace y4 := hide y4
          replace hs := hide hs
          replace hsm := hide hsm
          replace hx0 := hide hx0
          replace hpp := hide hpp
          replace hhp0 := hide hhp0
          go_quiet (fail)
          replace k1 := k1.out
          replace k2 := k2.out
          replace k3 := k3.out
          replace k4 := k4.out
          replace k5 := k5.out
          replace hl := hl.out
          replace hm := hm.out
          replace hi := hi.out
          replace hz0 := hz0.out
          replace hz1 := hz1.out
          replace hz2 := hz2.out
          replace h7 := h7.out
          replace hn := hn.out
          replace hh := hh.out
          replace hz1' := hz1'.out
          replace hz2' := hz2'.out
          replace c0 := c0.out
          replace c1 := c1.out
          replace c2 := c2.out
          replace y1 := y1.out
          replace y2 := y2.out
          replace y3 := y3.out
          replace y4 := y4.out
          replace hs := hs.out
          replace hsm := hsm.out
          replace hx0 := hx0.out
          replace hpp := hpp.out
          replace hhp0 := hhp0.out
          obtain ⟨wb, hwb⟩ : ∃ q, wr.drewN nq = q := ⟨_, rfl⟩
          have hEb : Ext v4 wb := by rw [← hwb]; have kE := HEr.out; repeat (first | exact kE | exact Ext.refl _ | apply Ext.alloc | apply Ext.drewN | apply Ext.drew | apply Ext.set0 | apply Ext.set1 | apply Ext.set2 | apply Ext.set3 | (refine Ext.setk ?_ (by omega) _) | (apply Ext.snoc; assumption))
          have HEb := hide hEb
          rw [hwb]
          clear hwb hEb co0 d0 c0 c1 c2 t1 t2 t2n hpp hhp0
          go_wp2_with fail
          go_loopw [9] (fun i wi => i = .int .i64 0 ∧ Ext v4 wi) (fun _ _ => 0)
          case atStart => exact ⟨rfl, HEb.out⟩
          case round =>
            obtain ⟨rfl, hEi⟩ := hrel
            have HEi := hide hEi
            clear hEi
            have t8 : decide ((0 : Int) < ((0 : Nat) : Int)) = false := by simp
            go_wp2_with fail
            go_roundw
            case rel => exact ⟨1, by omega, by go_num, by rw [sum_take_room (by omega), hsm, hx0], HEi.out⟩
            case measure => simp [intOf]; omega
        · obtain ⟨j, rfl⟩ : ∃ j, k = j + 1 := ⟨k - 1, by omega⟩
          obtain ⟨ob, ooff, hAo, hob, co0⟩ := RI.at_ HPr.out (show (j + 1) < (orderI L L.length).length by rw [orderI_length]; omega)
          rw [order_get (show (j + 1) < L.length by omega)] at co0
          obtain ⟨pp, hpp⟩ : ∃ q, (order L L.length)[(j + 1)]'(by rw [order_length]; omega) = q := ⟨_, rfl⟩
          have hpl : pp < L.length := by rw [← hpp]; exact order_lt (List.getElem_mem _)
          rw [hpp] at co0
          subst hAo
          obtain ⟨bp, offp, hAp, hbp, d0, _, _⟩ := R3.at_ (Rds.of_own HOr.out) hpl
          injection hAp with hAp
          injection hAp with hAp1 hAp2 _
          subst hAp1 hAp2
          simp only [Nat.zero_add] at d0
          obtain ⟨hp0, hhp0⟩ : ∃ q, L[pp].1 = q := ⟨_, rfl⟩
          rw [hhp0] at d0
          have t1 : ((pp : Int) < 0) = False := by simp
          have t2 : decide ((L.length : Int) ≤ pp) = false := decide_eq_false (by omega)
          have t2n : decide (L.length ≤ pp) = false := decide_eq_false (by omega)
          obtain ⟨_, _, hAo2, _, co1⟩ := RI.at_ HPr.out (show j < (orderI L L.length).length by rw [orderI_length]; omega)
          injection hAo2 with hAo2
          injection hAo2 with hAo3 hAo4 _
          subst hAo3 hAo4
          rw [order_get (show j < L.length by omega)] at co1
          obtain ⟨qq, hqq⟩ : ∃ q, (order L L.length)[j]'(by rw [order_length]; omega) = q := ⟨_, rfl⟩
          have hql : qq < L.length := by rw [← hqq]; exact order_lt (List.getElem_mem _)
          rw [hqq] at co1
          obtain ⟨bq, offq, hAq, hbq, f0, _, _⟩ := R3.at_ (Rds.of_own HOr.out) hql
          injection hAq with hAq
          injection hAq with hAq1 hAq2 _
          subst hAq1 hAq2
          simp only [Nat.zero_add] at f0
          have hnx := order_next (L := L) (n := L.length) (k := j) (by rw [order_length]; omega)
          rw [hpp, hqq, paneAt_eq hpl, paneAt_eq hql, hhp0] at hnx
          obtain ⟨hq0, hhq0⟩ : ∃ q, L[qq].1 = q := ⟨_, rfl⟩
          rw [hhq0] at f0 hnx
          have t3 : ((qq : Int) == (pp : Int)) = false := by
            rw [beq_eq_false_iff_ne]
            have := hnx.1
            omega
          have t3n : (qq == pp) = false := by
            rw [beq_eq_false_iff_ne]
            have := hnx.1
            omega
          have t4 : decide (hq0 < hp0) = false := decide_eq_false (by have := hnx.2; omega)
          have t5 : decide ((0 : Int) < ((j + 1 : Nat) : Int)) = true := decide_eq_true (by omega)
          have t6 : 0 < (L.length : Int) := by omega
          have t7 : ((j + 1 : Nat) : Int) < (L.length : Int) := by omega
          replace k1 := hide k1
          replace k2 := hide k2
          replace k3 := hide k3
          replace k4 := hide k4
          replace k5 := hide k5
          replace hl := hide hl
          replace hm := hide hm
          replace hi := hide hi
          replace hz0 := hide hz0
          replace hz1 := hide hz1
          replace hz2 := hide hz2
          replace h7 := hide h7
          replace hn := hide hn
          replace hh := hide hh
          replace hz1' := hide hz1'
          replace hz2' := hide hz2'
          replace c0 := hide c0
          replace c1 := hide c1
          replace c2 := hide c2
          replace y1 := hide y1
          replace y2 := hide y2
          replace y3 := hide y3
          replace y4 := hide y4
          replace hs := hide hs
          replace hsm := hide hsm
          replace hx0 := hide hx0
          replace hpp := hide hpp
          replace hhp0 := hide hhp0
          go_quiet (fail)
          replace k1 := k1.out
          replace k2 := k2.out
          replace k3 := k3.out
          replace k4 := k4.out
          replace k5 := k5.out
          replace hl := hl.out
          replace hm := hm.out
          replace hi := hi.out
          replace hz0 := hz0.out
          replace hz1 := hz1.out
          replace hz2 := hz2.out
          replace h7 := h7.out
          replace hn := hn.out
          replace hh := hh.out
          replace hz1' := hz1'.out
          replace hz2' := hz2'.out
          replace c0 := c0.out
          replace c1 := c1.out
          replace c2 := c2.out
          replace y1 := y1.out
          replace y2 := y2.out
          replace y3 := y3.out
          replace y4 := y4.out
          replace hs := hs.out
          replace hsm := hsm.out
          replace hx0 := hx0.out
          replace hpp := hpp.out
          replace hhp0 := hhp0.out
          obtain ⟨wb, hwb⟩ : ∃ q, wr.drewN nq = q := ⟨_, rfl⟩
          have hEb : Ext v4 wb := by rw [← hwb]; have kE := HEr.out; repeat (first | exact kE | exact Ext.refl _ | apply Ext.alloc | apply Ext.drewN | apply Ext.drew | apply Ext.set0 | apply Ext.set1 | apply Ext.set2 | apply Ext.set3 | (refine Ext.setk ?_ (by omega) _) | (apply Ext.snoc; assumption))
          have HEb := hide hEb
          rw [hwb]
          clear hwb hEb co0 d0 c0 c1 c2 t1 t2 t2n hpp hhp0
          go_wp2_with fail
          clear co1 f0 hqq hhq0 hnx t3 t3n t4 t5
          go_loopw [9] (fun i wi => ∃ q : Nat, q ≤ j + 1 ∧ i = .int .i64 q ∧ Ext v4 wi) (fun i _ => (j + 1) - (intOf i).toNat)
          case atStart => exact ⟨0, by omega, rfl, HEb.out⟩
          case round =>
            obtain ⟨q, hq, rfl, hEi⟩ := hrel
            have HEi := hide hEi
            have HOi := hide (own_ext HO.out hEi)
            clear hEi
            by_cases hqk : q < j + 1
            · obtain ⟨b1, o1, hA1, hb1, d0, d1, d2⟩ := R3.at_ (Rds.of_own HOi.out) (show q < L.length by omega)
              obtain ⟨_, _, hA2, _, e0, e1, e2⟩ := R3.at_ (Rds.of_own HOi.out) (show j + 1 < L.length by omega)
              injection hA1 with hA1
              injection hA1 with hA11 hA12 _
              subst hA11 hA12
              injection hA2 with hA2
              injection hA2 with hA21 hA22 _
              subst hA21 hA22
              simp only [Nat.zero_add] at d0 d1 d2 e0 e1 e2
              have hxin := HL.out _ (List.getElem_mem (show q < L.length by omega))
              have hyin := HL.out _ (List.getElem_mem (show j + 1 < L.length by omega))
              have hcs := can_share (firingIn_ok hxin) (firingIn_ok hyin)
              obtain ⟨⟨xa, xb, xc⟩, hx⟩ : ∃ z : P3, L[q] = z := ⟨_, rfl⟩
              obtain ⟨⟨ya, yb, yc⟩, hy⟩ : ∃ z : P3, L[j + 1] = z := ⟨_, rfl⟩
              rw [hx] at d0 d1 d2 hxin hcs
              rw [hy] at e0 e1 e2 hyin hcs
              dsimp only at d0 d1 d2 e0 e1 e2 hcs
              have r1 : 10 ≤ xc ∧ xc ≤ 69 := hxin.2.2
              have r2 : 10 ≤ yc ∧ yc ≤ 69 := hyin.2.2
              obtain ⟨r3, r4⟩ := r1
              obtain ⟨r5, r6⟩ := r2
              have t7 : (q : Int) < (L.length : Int) := by omega
              have t8 : ((j + 1 : Nat) : Int) < (L.length : Int) := by omega
              clear hx hy hxin hyin
              go_wp2_with fail
              replace k1 := hide k1
              replace k2 := hide k2
              replace k3 := hide k3
              replace k4 := hide k4
              replace k5 := hide k5
              replace hl := hide hl
              replace hm := hide hm
              replace hi := hide hi
              replace hz0 := hide hz0
              replace hz1 := hide hz1
              replace hz2 := hide hz2
              replace h7 := hide h7
              replace hn := hide hn
              replace hh := hide hh
              replace hz1' := hide hz1'
              replace hz2' := hide hz2'
              replace y1 := hide y1
              replace y2 := hide y2
              replace y3 := hide y3
              replace y4 := hide y4
              replace hs := hide hs
              replace hsm := hide hsm
              replace hx0 := hide hx0
              by_cases g1 : xa = ya
              · subst g1
                by_cases g2 : xb = yb
                · subst g2
                  obtain ⟨bs, u1⟩ : ∃ bs, decide (xc + yc ≤ 100) = bs := ⟨_, rfl⟩
                  replace hcs : canShare xa xb xc xa xb yc = bs := by rw [hcs, ← u1]; simp
                  have u2 : (bs != bs) = false := by simp
                  apply wp_region_RL 48 220 (by kernel_rfl) (by kernel_rfl) (by kernel_rfl) (by kernel_rfl) (by kernel_rfl) (by kernel_rfl) rfl [fun v _ => v = _, fun v _ => v = _, fun v _ => v = _, fun v _ => v = _, fun v _ => v = _, fun v _ => v = _, fun v _ => v = _, fun v _ => v = _, fun v _ => v = _, fun v _ => v = _, fun v _ => v = _, fun v _ => v = _, fun v _ => v = _, fun v _ => v = _, fun v _ => v = _, fun v _ => v = _, fun v _ => v = _, fun v _ => v = _, fun v _ => v = _, fun v _ => v = _, fun v _ => v = _, fun v _ => v = _, fun v _ => v = _, fun v _ => v = _, fun v _ => v = _, fun v _ => v = _, fun v _ => v = _, fun v _ => v = _, fun v _ => v = _, fun v _ => v = _, fun v _ => v = _, fun v _ => v = _, fun v _ => v = _, fun v _ => v = _, fun v _ => v = _, fun v _ => v = _, fun v _ => v = _, fun v _ => v = _, fun v _ => v = _, fun v _ => v = _, fun v _ => v = _, fun v _ => v = _, fun v _ => v = _, fun v _ => v = _, fun v _ => v = _, fun v _ => v = _, fun v _ => v = _, fun v _ => v = _] rfl ⟨stab_eq _, stab_eq _, stab_eq _, stab_eq _, stab_eq _, stab_eq _, stab_eq _, stab_eq _, stab_eq _, stab_eq _, stab_eq _, stab_eq _, stab_eq _, stab_eq _, stab_eq _, stab_eq _, stab_eq _, stab_eq _, stab_eq _, stab_eq _, stab_eq _, stab_eq _, stab_eq _, stab_eq _, stab_eq _, stab_eq _, stab_eq _, stab_eq _, stab_eq _, stab_eq _, stab_eq _, stab_eq _, stab_eq _, stab_eq _, stab_eq _, stab_eq _, stab_eq _, stab_eq _, stab_eq _, stab_eq _, stab_eq _, stab_eq _, stab_eq _, stab_eq _, stab_eq _, stab_eq _, stab_eq _, stab_eq _, trivial⟩ ?QAhop ?QAfin
                  case QAhop =>
                    intro a w' hE hA
                    have hc := hE.facts.1
                    have hz := hE.facts.2.2
                    refine ⟨⟨⟨⟨⟨⟨⟨⟨⟨⟨⟨⟨⟨⟨⟨⟨⟨⟨⟨⟨⟨⟨⟨⟨⟨⟨⟨⟨⟨⟨⟨⟨⟨⟨⟨⟨⟨⟨⟨⟨⟨⟨⟨⟨⟨⟨⟨⟨trivial, ?_⟩, ?_⟩, ?_⟩, ?_⟩, ?_⟩, ?_⟩, ?_⟩, ?_⟩, ?_⟩, ?_⟩, ?_⟩, ?_⟩, ?_⟩, ?_⟩, ?_⟩, ?_⟩, ?_⟩, ?_⟩, ?_⟩, ?_⟩, ?_⟩, ?_⟩, ?_⟩, ?_⟩, ?_⟩, ?_⟩, ?_⟩, ?_⟩, ?_⟩, ?_⟩, ?_⟩, ?_⟩, ?_⟩, ?_⟩, ?_⟩, ?_⟩, ?_⟩, ?_⟩, ?_⟩, ?_⟩, ?_⟩, ?_⟩, ?_⟩, ?_⟩, ?_⟩, ?_⟩, ?_⟩, ?_⟩
                    · intro hp
                      have s3 := hA 3 (by rfl)
                      simp [sl] at s3
                      clear hp
                      refine wpOp_of_list rfl rfl ?_
                      go_wp2_with (first | (go_at_call 9; refine (CanShare_any _ _ _ _ _ _ _).mono ?_; rintro e w1 ⟨rfl, hb1⟩))
                      exact ⟨_, rfl, rfl, (by repeat (first | exact kE | exact Ext.refl _ | apply Ext.alloc | apply Ext.drewN | apply Ext.drew | apply Ext.set0 | apply Ext.set1 | apply Ext.set2 | apply Ext.set3 | (refine Ext.setk ?_ (by omega) _) | (apply Ext.snoc; assumption)))⟩
                    · intro hp
                      have s9 := hA 9 (by rfl)
                      simp [sl] at s9
                      clear hp
                      refine wpOp_of_list rfl rfl ?_
                      go_wp2_with (first | (go_at_call 9; refine (CanShare_any _ _ _ _ _ _ _).mono ?_; rintro e w1 ⟨rfl, hb1⟩))
                      exact ⟨_, rfl, rfl, (by repeat (first | exact kE | exact Ext.refl _ | apply Ext.alloc | apply Ext.drewN | apply Ext.drew | apply Ext.set0 | apply Ext.set1 | apply Ext.set2 | apply Ext.set3 | (refine Ext.setk ?_ (by omega) _) | (apply Ext.snoc; assumption)))⟩
                    · intro hp
                      have s124 := hp 0 (by rfl)
                      change a.tmps.getD 124 undef = _ at s124
                      simp at s124
                      have s125 := hp 1 (by rfl)
                      change a.tmps.getD 125 undef = _ at s125
                      simp at s125
                      clear hp
                      refine wpOp_of_list rfl rfl ?_
                      go_wp2_with (first | (go_at_call 9; refine (CanShare_any _ _ _ _ _ _ _).mono ?_; rintro e w1 ⟨rfl, hb1⟩))
                      exact ⟨_, rfl, rfl, (by repeat (first | exact kE | exact Ext.refl _ | apply Ext.alloc | apply Ext.drewN | apply Ext.drew | apply Ext.set0 | apply Ext.set1 | apply Ext.set2 | apply Ext.set3 | (refine Ext.setk ?_ (by omega) _) | (apply Ext.snoc; assumption)))⟩
                    · intro hp
                      have s126 := hp 2 (by rfl)
                      change a.tmps.getD 126 undef = _ at s126
                      simp at s126
                      clear hp
                      refine wpOp_of_list rfl rfl ?_
                      go_wp2_with (first | (go_at_call 9; refine (CanShare_any _ _ _ _ _ _ _).mono ?_; rintro e w1 ⟨rfl, hb1⟩))
                      exact ⟨_, rfl, rfl, (by repeat (first | exact kE | exact Ext.refl _ | apply Ext.alloc | apply Ext.drewN | apply Ext.drew | apply Ext.set0 | apply Ext.set1 | apply Ext.set2 | apply Ext.set3 | (refine Ext.setk ?_ (by omega) _) | (apply Ext.snoc; assumption)))⟩
                    · intro hp
                      have s3 := hA 3 (by rfl)
                      simp [sl] at s3
                      clear hp
                      refine wpOp_of_list rfl rfl ?_
                      go_wp2_with (first | (go_at_call 9; refine (CanShare_any _ _ _ _ _ _ _).mono ?_; rintro e w1 ⟨rfl, hb1⟩))
                      exact ⟨_, rfl, rfl, (by repeat (first | exact kE | exact Ext.refl _ | apply Ext.alloc | apply Ext.drewN | apply Ext.drew | apply Ext.set0 | apply Ext.set1 | apply Ext.set2 | apply Ext.set3 | (refine Ext.setk ?_ (by omega) _) | (apply Ext.snoc; assumption)))⟩
                    · intro hp
                      have s8 := hA 8 (by rfl)
                      simp [sl] at s8
                      clear hp
                      refine wpOp_of_list rfl rfl ?_
                      go_wp2_with (first | (go_at_call 9; refine (CanShare_any _ _ _ _ _ _ _).mono ?_; rintro e w1 ⟨rfl, hb1⟩))
                      exact ⟨_, rfl, rfl, (by repeat (first | exact kE | exact Ext.refl _ | apply Ext.alloc | apply Ext.drewN | apply Ext.drew | apply Ext.set0 | apply Ext.set1 | apply Ext.set2 | apply Ext.set3 | (refine Ext.setk ?_ (by omega) _) | (apply Ext.snoc; assumption)))⟩
                    · intro hp
                      have s128 := hp 4 (by rfl)
                      change a.tmps.getD 128 undef = _ at s128
                      simp at s128
                      have s129 := hp 5 (by rfl)
                      change a.tmps.getD 129 undef = _ at s129
                      simp at s129
                      clear hp
                      refine wpOp_of_list rfl rfl ?_
                      go_wp2_with (first | (go_at_call 9; refine (CanShare_any _ _ _ _ _ _ _).mono ?_; rintro e w1 ⟨rfl, hb1⟩))
                      exact ⟨_, rfl, rfl, (by repeat (first | exact kE | exact Ext.refl _ | apply Ext.alloc | apply Ext.drewN | apply Ext.drew | apply Ext.set0 | apply Ext.set1 | apply Ext.set2 | apply Ext.set3 | (refine Ext.setk ?_ (by omega) _) | (apply Ext.snoc; assumption)))⟩
                    · intro hp
                      have s130 := hp 6 (by rfl)
                      change a.tmps.getD 130 undef = _ at s130
                      simp at s130
                      clear hp
                      refine wpOp_of_list rfl rfl ?_
                      go_wp2_with (first | (go_at_call 9; refine (CanShare_any _ _ _ _ _ _ _).mono ?_; rintro e w1 ⟨rfl, hb1⟩))
                      exact ⟨_, rfl, rfl, (by repeat (first | exact kE | exact Ext.refl _ | apply Ext.alloc | apply Ext.drewN | apply Ext.drew | apply Ext.set0 | apply Ext.set1 | apply Ext.set2 | apply Ext.set3 | (refine Ext.setk ?_ (by omega) _) | (apply Ext.snoc; assumption)))⟩
                    · intro hp
                      have s127 := hp 3 (by rfl)
                      change a.tmps.getD 127 undef = _ at s127
                      simp at s127
                      have s131 := hp 7 (by rfl)
                      change a.tmps.getD 131 undef = _ at s131
                      simp at s131
                      clear hp
                      refine wpOp_of_list rfl rfl ?_
                      go_wp2_with (first | (go_at_call 9; refine (CanShare_any _ _ _ _ _ _ _).mono ?_; rintro e w1 ⟨rfl, hb1⟩))
                      exact ⟨_, rfl, rfl, (by repeat (first | exact kE | exact Ext.refl _ | apply Ext.alloc | apply Ext.drewN | apply Ext.drew | apply Ext.set0 | apply Ext.set1 | apply Ext.set2 | apply Ext.set3 | (refine Ext.setk ?_ (by omega) _) | (apply Ext.snoc; assumption)))⟩
                    · intro hp
                      have s3 := hA 3 (by rfl)
                      simp [sl] at s3
                      clear hp
                      refine wpOp_of_list rfl rfl ?_
                      go_wp2_with (first | (go_at_call 9; refine (CanShare_any _ _ _ _ _ _ _).mono ?_; rintro e w1 ⟨rfl, hb1⟩))
                      exact ⟨_, rfl, rfl, (by repeat (first | exact kE | exact Ext.refl _ | apply Ext.alloc | apply Ext.drewN | apply Ext.drew | apply Ext.set0 | apply Ext.set1 | apply Ext.set2 | apply Ext.set3 | (refine Ext.setk ?_ (by omega) _) | (apply Ext.snoc; assumption)))⟩
                    · intro hp
                      have s9 := hA 9 (by rfl)
                      simp [sl] at s9
                      clear hp
                      refine wpOp_of_list rfl rfl ?_
                      go_wp2_with (first | (go_at_call 9; refine (CanShare_any _ _ _ _ _ _ _).mono ?_; rintro e w1 ⟨rfl, hb1⟩))
                      exact ⟨_, rfl, rfl, (by repeat (first | exact kE | exact Ext.refl _ | apply Ext.alloc | apply Ext.drewN | apply Ext.drew | apply Ext.set0 | apply Ext.set1 | apply Ext.set2 | apply Ext.set3 | (refine Ext.setk ?_ (by omega) _) | (apply Ext.snoc; assumption)))⟩
                    · intro hp
                      have s133 := hp 9 (by rfl)
                      change a.tmps.getD 133 undef = _ at s133
                      simp at s133
                      have s134 := hp 10 (by rfl)
                      change a.tmps.getD 134 undef = _ at s134
                      simp at s134
                      clear hp
                      refine wpOp_of_list rfl rfl ?_
                      go_wp2_with (first | (go_at_call 9; refine (CanShare_any _ _ _ _ _ _ _).mono ?_; rintro e w1 ⟨rfl, hb1⟩))
                      exact ⟨_, rfl, rfl, (by repeat (first | exact kE | exact Ext.refl _ | apply Ext.alloc | apply Ext.drewN | apply Ext.drew | apply Ext.set0 | apply Ext.set1 | apply Ext.set2 | apply Ext.set3 | (refine Ext.setk ?_ (by omega) _) | (apply Ext.snoc; assumption)))⟩
                    · intro hp
                      have s135 := hp 11 (by rfl)
                      change a.tmps.getD 135 undef = _ at s135
                      simp at s135
                      clear hp
                      refine wpOp_of_list rfl rfl ?_
                      go_wp2_with (first | (go_at_call 9; refine (CanShare_any _ _ _ _ _ _ _).mono ?_; rintro e w1 ⟨rfl, hb1⟩))
                      exact ⟨_, rfl, rfl, (by repeat (first | exact kE | exact Ext.refl _ | apply Ext.alloc | apply Ext.drewN | apply Ext.drew | apply Ext.set0 | apply Ext.set1 | apply Ext.set2 | apply Ext.set3 | (refine Ext.setk ?_ (by omega) _) | (apply Ext.snoc; assumption)))⟩
                    · intro hp
                      have s136 := hp 12 (by rfl)
                      change a.tmps.getD 136 undef = _ at s136
                      simp at s136
                      clear hp
                      refine wpOp_of_list rfl rfl ?_
                      go_wp2_with (first | (go_at_call 9; refine (CanShare_any _ _ _ _ _ _ _).mono ?_; rintro e w1 ⟨rfl, hb1⟩))
                      exact ⟨_, rfl, rfl, (by repeat (first | exact kE | exact Ext.refl _ | apply Ext.alloc | apply Ext.drewN | apply Ext.drew | apply Ext.set0 | apply Ext.set1 | apply Ext.set2 | apply Ext.set3 | (refine Ext.setk ?_ (by omega) _) | (apply Ext.snoc; assumption)))⟩
                    · intro hp
                      have s3 := hA 3 (by rfl)
                      simp [sl] at s3
                      clear hp
                      refine wpOp_of_list rfl rfl ?_
                      go_wp2_with (first | (go_at_call 9; refine (CanShare_any _ _ _ _ _ _ _).mono ?_; rintro e w1 ⟨rfl, hb1⟩))
                      exact ⟨_, rfl, rfl, (by repeat (first | exact kE | exact Ext.refl _ | apply Ext.alloc | apply Ext.drewN | apply Ext.drew | apply Ext.set0 | apply Ext.set1 | apply Ext.set2 | apply Ext.set3 | (refine Ext.setk ?_ (by omega) _) | (apply Ext.snoc; assumption)))⟩
                    · intro hp
                      have s8 := hA 8 (by rfl)
                      simp [sl] at s8
                      clear hp
                      refine wpOp_of_list rfl rfl ?_
                      go_wp2_with (first | (go_at_call 9; refine (CanShare_any _ _ _ _ _ _ _).mono ?_; rintro e w1 ⟨rfl, hb1⟩))
                      exact ⟨_, rfl, rfl, (by repeat (first | exact kE | exact Ext.refl _ | apply Ext.alloc | apply Ext.drewN | apply Ext.drew | apply Ext.set0 | apply Ext.set1 | apply Ext.set2 | apply Ext.set3 | (refine Ext.setk ?_ (by omega) _) | (apply Ext.snoc; assumption)))⟩
                    · intro hp
                      have s138 := hp 14 (by rfl)
                      change a.tmps.getD 138 undef = _ at s138
                      simp at s138
                      have s139 := hp 15 (by rfl)
                      change a.tmps.getD 139 undef = _ at s139
                      simp at s139
                      clear hp
                      refine wpOp_of_list rfl rfl ?_
                      go_wp2_with (first | (go_at_call 9; refine (CanShare_any _ _ _ _ _ _ _).mono ?_; rintro e w1 ⟨rfl, hb1⟩))
                      exact ⟨_, rfl, rfl, (by repeat (first | exact kE | exact Ext.refl _ | apply Ext.alloc | apply Ext.drewN | apply Ext.drew | apply Ext.set0 | apply Ext.set1 | apply Ext.set2 | apply Ext.set3 | (refine Ext.setk ?_ (by omega) _) | (apply Ext.snoc; assumption)))⟩
                    · intro hp
                      have s140 := hp 16 (by rfl)
                      change a.tmps.getD 140 undef = _ at s140
                      simp at s140
                      clear hp
                      refine wpOp_of_list rfl rfl ?_
                      go_wp2_with (first | (go_at_call 9; refine (CanShare_any _ _ _ _ _ _ _).mono ?_; rintro e w1 ⟨rfl, hb1⟩))
                      exact ⟨_, rfl, rfl, (by repeat (first | exact kE | exact Ext.refl _ | apply Ext.alloc | apply Ext.drewN | apply Ext.drew | apply Ext.set0 | apply Ext.set1 | apply Ext.set2 | apply Ext.set3 | (refine Ext.setk ?_ (by omega) _) | (apply Ext.snoc; assumption)))⟩
                    · intro hp
                      have s141 := hp 17 (by rfl)
                      change a.tmps.getD 141 undef = _ at s141
                      simp at s141
                      clear hp
                      refine wpOp_of_list rfl rfl ?_
                      go_wp2_with (first | (go_at_call 9; refine (CanShare_any _ _ _ _ _ _ _).mono ?_; rintro e w1 ⟨rfl, hb1⟩))
                      exact ⟨_, rfl, rfl, (by repeat (first | exact kE | exact Ext.refl _ | apply Ext.alloc | apply Ext.drewN | apply Ext.drew | apply Ext.set0 | apply Ext.set1 | apply Ext.set2 | apply Ext.set3 | (refine Ext.setk ?_ (by omega) _) | (apply Ext.snoc; assumption)))⟩
                    · intro hp
                      have s137 := hp 13 (by rfl)
                      change a.tmps.getD 137 undef = _ at s137
                      simp at s137
                      have s142 := hp 18 (by rfl)
                      change a.tmps.getD 142 undef = _ at s142
                      simp at s142
                      clear hp
                      refine wpOp_of_list rfl rfl ?_
                      go_wp2_with (first | (go_at_call 9; refine (CanShare_any _ _ _ _ _ _ _).mono ?_; rintro e w1 ⟨rfl, hb1⟩))
                      exact ⟨_, rfl, rfl, (by repeat (first | exact kE | exact Ext.refl _ | apply Ext.alloc | apply Ext.drewN | apply Ext.drew | apply Ext.set0 | apply Ext.set1 | apply Ext.set2 | apply Ext.set3 | (refine Ext.setk ?_ (by omega) _) | (apply Ext.snoc; assumption)))⟩
                    · intro hp
                      have s143 := hp 19 (by rfl)
                      change a.tmps.getD 143 undef = _ at s143
                      simp at s143
                      clear hp
                      refine wpOp_of_list rfl rfl ?_
                      go_wp2_with (first | (go_at_call 9; refine (CanShare_any _ _ _ _ _ _ _).mono ?_; rintro e w1 ⟨rfl, hb1⟩))
                      exact ⟨_, rfl, rfl, (by repeat (first | exact kE | exact Ext.refl _ | apply Ext.alloc | apply Ext.drewN | apply Ext.drew | apply Ext.set0 | apply Ext.set1 | apply Ext.set2 | apply Ext.set3 | (refine Ext.setk ?_ (by omega) _) | (apply Ext.snoc; assumption)))⟩
                    · intro hp
                      have s3 := hA 3 (by rfl)
                      simp [sl] at s3
                      have s144 := hp 20 (by rfl)
                      change a.tmps.getD 144 undef = _ at s144
                      simp at s144
                      have sg := hp 20 (by rfl)
                      clear hp
                      refine wpOp_on rfl (wanted_yes rfl (yielded_at rfl sg) rfl) ?_
                      clear sg
                      dsimp only
                      go_wp2_with (first | (go_at_call 9; refine (CanShare_any _ _ _ _ _ _ _).mono ?_; rintro e w1 ⟨rfl, hb1⟩))
                      exact ⟨_, rfl, rfl, (by repeat (first | exact kE | exact Ext.refl _ | apply Ext.alloc | apply Ext.drewN | apply Ext.drew | apply Ext.set0 | apply Ext.set1 | apply Ext.set2 | apply Ext.set3 | (refine Ext.setk ?_ (by omega) _) | (apply Ext.snoc; assumption)))⟩
                    · intro hp
                      have s9 := hA 9 (by rfl)
                      simp [sl] at s9
                      have s144 := hp 20 (by rfl)
                      change a.tmps.getD 144 undef = _ at s144
                      simp at s144
                      have sg := hp 20 (by rfl)
                      clear hp
                      refine wpOp_on rfl (wanted_yes rfl (yielded_at rfl sg) rfl) ?_
                      clear sg
                      dsimp only
                      go_wp2_with (first | (go_at_call 9; refine (CanShare_any _ _ _ _ _ _ _).mono ?_; rintro e w1 ⟨rfl, hb1⟩))
                      exact ⟨_, rfl, rfl, (by repeat (first | exact kE | exact Ext.refl _ | apply Ext.alloc | apply Ext.drewN | apply Ext.drew | apply Ext.set0 | apply Ext.set1 | apply Ext.set2 | apply Ext.set3 | (refine Ext.setk ?_ (by omega) _) | (apply Ext.snoc; assumption)))⟩
                    · intro hp
                      have s144 := hp 20 (by rfl)
                      change a.tmps.getD 144 undef = _ at s144
                      simp at s144
                      have s145 := hp 21 (by rfl)
                      change a.tmps.getD 145 undef = _ at s145
                      simp at s145
                      have s146 := hp 22 (by rfl)
                      change a.tmps.getD 146 undef = _ at s146
                      simp at s146
                      have sg := hp 20 (by rfl)
                      clear hp
                      refine wpOp_on rfl (wanted_yes rfl (yielded_at rfl sg) rfl) ?_
                      clear sg
                      dsimp only
                      go_wp2_with (first | (go_at_call 9; refine (CanShare_any _ _ _ _ _ _ _).mono ?_; rintro e w1 ⟨rfl, hb1⟩))
                      exact ⟨_, rfl, rfl, (by repeat (first | exact kE | exact Ext.refl _ | apply Ext.alloc | apply Ext.drewN | apply Ext.drew | apply Ext.set0 | apply Ext.set1 | apply Ext.set2 | apply Ext.set3 | (refine Ext.setk ?_ (by omega) _) | (apply Ext.snoc; assumption)))⟩
                    · intro hp
                      have s144 := hp 20 (by rfl)
                      change a.tmps.getD 144 undef = _ at s144
                      simp at s144
                      have s147 := hp 23 (by rfl)
                      change a.tmps.getD 147 undef = _ at s147
                      simp at s147
                      have sg := hp 20 (by rfl)
                      clear hp
                      refine wpOp_on rfl (wanted_yes rfl (yielded_at rfl sg) rfl) ?_
                      clear sg
                      dsimp only
                      go_wp2_with (first | (go_at_call 9; refine (CanShare_any _ _ _ _ _ _ _).mono ?_; rintro e w1 ⟨rfl, hb1⟩))
                      exact ⟨_, rfl, rfl, (by repeat (first | exact kE | exact Ext.refl _ | apply Ext.alloc | apply Ext.drewN | apply Ext.drew | apply Ext.set0 | apply Ext.set1 | apply Ext.set2 | apply Ext.set3 | (refine Ext.setk ?_ (by omega) _) | (apply Ext.snoc; assumption)))⟩
                    · intro hp
                      have s144 := hp 20 (by rfl)
                      change a.tmps.getD 144 undef = _ at s144
                      simp at s144
                      have s148 := hp 24 (by rfl)
                      change a.tmps.getD 148 undef = _ at s148
                      simp at s148
                      have sg := hp 20 (by rfl)
                      clear hp
                      refine wpOp_on rfl (wanted_yes rfl (yielded_at rfl sg) rfl) ?_
                      clear sg
                      dsimp only
                      go_wp2_with (first | (go_at_call 9; refine (CanShare_any _ _ _ _ _ _ _).mono ?_; rintro e w1 ⟨rfl, hb1⟩))
                      exact ⟨_, rfl, rfl, (by repeat (first | exact kE | exact Ext.refl _ | apply Ext.alloc | apply Ext.drewN | apply Ext.drew | apply Ext.set0 | apply Ext.set1 | apply Ext.set2 | apply Ext.set3 | (refine Ext.setk ?_ (by omega) _) | (apply Ext.snoc; assumption)))⟩
                    · intro hp
                      have s3 := hA 3 (by rfl)
                      simp [sl] at s3
                      have s144 := hp 20 (by rfl)
                      change a.tmps.getD 144 undef = _ at s144
                      simp at s144
                      have sg := hp 20 (by rfl)
                      clear hp
                      refine wpOp_on rfl (wanted_yes rfl (yielded_at rfl sg) rfl) ?_
                      clear sg
                      dsimp only
                      go_wp2_with (first | (go_at_call 9; refine (CanShare_any _ _ _ _ _ _ _).mono ?_; rintro e w1 ⟨rfl, hb1⟩))
                      exact ⟨_, rfl, rfl, (by repeat (first | exact kE | exact Ext.refl _ | apply Ext.alloc | apply Ext.drewN | apply Ext.drew | apply Ext.set0 | apply Ext.set1 | apply Ext.set2 | apply Ext.set3 | (refine Ext.setk ?_ (by omega) _) | (apply Ext.snoc; assumption)))⟩
                    · intro hp
                      have s8 := hA 8 (by rfl)
                      simp [sl] at s8
                      have s144 := hp 20 (by rfl)
                      change a.tmps.getD 144 undef = _ at s144
                      simp at s144
                      have sg := hp 20 (by rfl)
                      clear hp
                      refine wpOp_on rfl (wanted_yes rfl (yielded_at rfl sg) rfl) ?_
                      clear sg
                      dsimp only
                      go_wp2_with (first | (go_at_call 9; refine (CanShare_any _ _ _ _ _ _ _).mono ?_; rintro e w1 ⟨rfl, hb1⟩))
                      exact ⟨_, rfl, rfl, (by repeat (first | exact kE | exact Ext.refl _ | apply Ext.alloc | apply Ext.drewN | apply Ext.drew | apply Ext.set0 | apply Ext.set1 | apply Ext.set2 | apply Ext.set3 | (refine Ext.setk ?_ (by omega) _) | (apply Ext.snoc; assumption)))⟩
                    · intro hp
                      have s144 := hp 20 (by rfl)
                      change a.tmps.getD 144 undef = _ at s144
                      simp at s144
                      have s150 := hp 26 (by rfl)
                      change a.tmps.getD 150 undef = _ at s150
                      simp at s150
                      have s151 := hp 27 (by rfl)
                      change a.tmps.getD 151 undef = _ at s151
                      simp at s151
                      have sg := hp 20 (by rfl)
                      clear hp
                      refine wpOp_on rfl (wanted_yes rfl (yielded_at rfl sg) rfl) ?_
                      clear sg
                      dsimp only
                      go_wp2_with (first | (go_at_call 9; refine (CanShare_any _ _ _ _ _ _ _).mono ?_; rintro e w1 ⟨rfl, hb1⟩))
                      exact ⟨_, rfl, rfl, (by repeat (first | exact kE | exact Ext.refl _ | apply Ext.alloc | apply Ext.drewN | apply Ext.drew | apply Ext.set0 | apply Ext.set1 | apply Ext.set2 | apply Ext.set3 | (refine Ext.setk ?_ (by omega) _) | (apply Ext.snoc; assumption)))⟩
                    · intro hp
                      have s144 := hp 20 (by rfl)
                      change a.tmps.getD 144 undef = _ at s144
                      simp at s144
                      have s152 := hp 28 (by rfl)
                      change a.tmps.getD 152 undef = _ at s152
                      simp at s152
                      have sg := hp 20 (by rfl)
                      clear hp
                      refine wpOp_on rfl (wanted_yes rfl (yielded_at rfl sg) rfl) ?_
                      clear sg
                      dsimp only
                      go_wp2_with (first | (go_at_call 9; refine (CanShare_any _ _ _ _ _ _ _).mono ?_; rintro e w1 ⟨rfl, hb1⟩))
                      exact ⟨_, rfl, rfl, (by repeat (first | exact kE | exact Ext.refl _ | apply Ext.alloc | apply Ext.drewN | apply Ext.drew | apply Ext.set0 | apply Ext.set1 | apply Ext.set2 | apply Ext.set3 | (refine Ext.setk ?_ (by omega) _) | (apply Ext.snoc; assumption)))⟩
                    · intro hp
                      have s144 := hp 20 (by rfl)
                      change a.tmps.getD 144 undef = _ at s144
                      simp at s144
                      have s153 := hp 29 (by rfl)
                      change a.tmps.getD 153 undef = _ at s153
                      simp at s153
                      have sg := hp 20 (by rfl)
                      clear hp
                      refine wpOp_on rfl (wanted_yes rfl (yielded_at rfl sg) rfl) ?_
                      clear sg
                      dsimp only
                      go_wp2_with (first | (go_at_call 9; refine (CanShare_any _ _ _ _ _ _ _).mono ?_; rintro e w1 ⟨rfl, hb1⟩))
                      exact ⟨_, rfl, rfl, (by repeat (first | exact kE | exact Ext.refl _ | apply Ext.alloc | apply Ext.drewN | apply Ext.drew | apply Ext.set0 | apply Ext.set1 | apply Ext.set2 | apply Ext.set3 | (refine Ext.setk ?_ (by omega) _) | (apply Ext.snoc; assumption)))⟩
                    · intro hp
                      have s144 := hp 20 (by rfl)
                      change a.tmps.getD 144 undef = _ at s144
                      simp at s144
                      have s149 := hp 25 (by rfl)
                      change a.tmps.getD 149 undef = _ at s149
                      simp at s149
                      have s154 := hp 30 (by rfl)
                      change a.tmps.getD 154 undef = _ at s154
                      simp at s154
                      have sg := hp 20 (by rfl)
                      clear hp
                      refine wpOp_on rfl (wanted_yes rfl (yielded_at rfl sg) rfl) ?_
                      clear sg
                      dsimp only
                      go_wp2_with (first | (go_at_call 9; refine (CanShare_any _ _ _ _ _ _ _).mono ?_; rintro e w1 ⟨rfl, hb1⟩))
                      exact ⟨_, rfl, rfl, (by repeat (first | exact kE | exact Ext.refl _ | apply Ext.alloc | apply Ext.drewN | apply Ext.drew | apply Ext.set0 | apply Ext.set1 | apply Ext.set2 | apply Ext.set3 | (refine Ext.setk ?_ (by omega) _) | (apply Ext.snoc; assumption)))⟩
                    · intro hp
                      have s144 := hp 20 (by rfl)
                      change a.tmps.getD 144 undef = _ at s144
                      simp at s144
                      have s155 := hp 31 (by rfl)
                      change a.tmps.getD 155 undef = _ at s155
                      simp at s155
                      clear hp
                      refine wpOp_of_list rfl rfl ?_
                      go_wp2_with (first | (go_at_call 9; refine (CanShare_any _ _ _ _ _ _ _).mono ?_; rintro e w1 ⟨rfl, hb1⟩))
                      exact ⟨_, rfl, rfl, (by repeat (first | exact kE | exact Ext.refl _ | apply Ext.alloc | apply Ext.drewN | apply Ext.drew | apply Ext.set0 | apply Ext.set1 | apply Ext.set2 | apply Ext.set3 | (refine Ext.setk ?_ (by omega) _) | (apply Ext.snoc; assumption)))⟩
                    · intro hp
                      have s156 := hp 32 (by rfl)
                      change a.tmps.getD 156 undef = _ at s156
                      simp at s156
                      clear hp
                      refine wpOp_of_list rfl rfl ?_
                      go_wp2_with (first | (go_at_call 9; refine (CanShare_any _ _ _ _ _ _ _).mono ?_; rintro e w1 ⟨rfl, hb1⟩))
                      exact ⟨_, rfl, rfl, (by repeat (first | exact kE | exact Ext.refl _ | apply Ext.alloc | apply Ext.drewN | apply Ext.drew | apply Ext.set0 | apply Ext.set1 | apply Ext.set2 | apply Ext.set3 | (refine Ext.setk ?_ (by omega) _) | (apply Ext.snoc; assumption)))⟩
                    · intro hp
                      have s3 := hA 3 (by rfl)
                      simp [sl] at s3
                      have s157 := hp 33 (by rfl)
                      change a.tmps.getD 157 undef = _ at s157
                      simp at s157
                      have sg := hp 33 (by rfl)
                      clear hp
                      refine wpOp_on rfl (wanted_yes rfl (yielded_at rfl sg) rfl) ?_
                      clear sg
                      dsimp only
                      go_wp2_with (first | (go_at_call 9; refine (CanShare_any _ _ _ _ _ _ _).mono ?_; rintro e w1 ⟨rfl, hb1⟩))
                      exact ⟨_, rfl, rfl, (by repeat (first | exact kE | exact Ext.refl _ | apply Ext.alloc | apply Ext.drewN | apply Ext.drew | apply Ext.set0 | apply Ext.set1 | apply Ext.set2 | apply Ext.set3 | (refine Ext.setk ?_ (by omega) _) | (apply Ext.snoc; assumption)))⟩
                    · intro hp
                      have s9 := hA 9 (by rfl)
                      simp [sl] at s9
                      have s157 := hp 33 (by rfl)
                      change a.tmps.getD 157 undef = _ at s157
                      simp at s157
                      have sg := hp 33 (by rfl)
                      clear hp
                      refine wpOp_on rfl (wanted_yes rfl (yielded_at rfl sg) rfl) ?_
                      clear sg
                      dsimp only
                      go_wp2_with (first | (go_at_call 9; refine (CanShare_any _ _ _ _ _ _ _).mono ?_; rintro e w1 ⟨rfl, hb1⟩))
                      exact ⟨_, rfl, rfl, (by repeat (first | exact kE | exact Ext.refl _ | apply Ext.alloc | apply Ext.drewN | apply Ext.drew | apply Ext.set0 | apply Ext.set1 | apply Ext.set2 | apply Ext.set3 | (refine Ext.setk ?_ (by omega) _) | (apply Ext.snoc; assumption)))⟩
                    · intro hp
                      have s157 := hp 33 (by rfl)
                      change a.tmps.getD 157 undef = _ at s157
                      simp at s157
                      have s158 := hp 34 (by rfl)
                      change a.tmps.getD 158 undef = _ at s158
                      simp at s158
                      have s159 := hp 35 (by rfl)
                      change a.tmps.getD 159 undef = _ at s159
                      simp at s159
                      have sg := hp 33 (by rfl)
                      clear hp
                      refine wpOp_on rfl (wanted_yes rfl (yielded_at rfl sg) rfl) ?_
                      clear sg
                      dsimp only
                      go_wp2_with (first | (go_at_call 9; refine (CanShare_any _ _ _ _ _ _ _).mono ?_; rintro e w1 ⟨rfl, hb1⟩))
                      exact ⟨_, rfl, rfl, (by repeat (first | exact kE | exact Ext.refl _ | apply Ext.alloc | apply Ext.drewN | apply Ext.drew | apply Ext.set0 | apply Ext.set1 | apply Ext.set2 | apply Ext.set3 | (refine Ext.setk ?_ (by omega) _) | (apply Ext.snoc; assumption)))⟩
                    · intro hp
                      have s157 := hp 33 (by rfl)
                      change a.tmps.getD 157 undef = _ at s157
                      simp at s157
                      have s160 := hp 36 (by rfl)
                      change a.tmps.getD 160 undef = _ at s160
                      simp at s160
                      have sg := hp 33 (by rfl)
                      clear hp
                      refine wpOp_on rfl (wanted_yes rfl (yielded_at rfl sg) rfl) ?_
                      clear sg
                      dsimp only
                      go_wp2_with (first | (go_at_call 9; refine (CanShare_any _ _ _ _ _ _ _).mono ?_; rintro e w1 ⟨rfl, hb1⟩))
                      exact ⟨_, rfl, rfl, (by repeat (first | exact kE | exact Ext.refl _ | apply Ext.alloc | apply Ext.drewN | apply Ext.drew | apply Ext.set0 | apply Ext.set1 | apply Ext.set2 | apply Ext.set3 | (refine Ext.setk ?_ (by omega) _) | (apply Ext.snoc; assumption)))⟩
                    · intro hp
                      have s157 := hp 33 (by rfl)
                      change a.tmps.getD 157 undef = _ at s157
                      simp at s157
                      have s161 := hp 37 (by rfl)
                      change a.tmps.getD 161 undef = _ at s161
                      simp at s161
                      have sg := hp 33 (by rfl)
                      clear hp
                      refine wpOp_on rfl (wanted_yes rfl (yielded_at rfl sg) rfl) ?_
                      clear sg
                      dsimp only
                      go_wp2_with (first | (go_at_call 9; refine (CanShare_any _ _ _ _ _ _ _).mono ?_; rintro e w1 ⟨rfl, hb1⟩))
                      exact ⟨_, rfl, rfl, (by repeat (first | exact kE | exact Ext.refl _ | apply Ext.alloc | apply Ext.drewN | apply Ext.drew | apply Ext.set0 | apply Ext.set1 | apply Ext.set2 | apply Ext.set3 | (refine Ext.setk ?_ (by omega) _) | (apply Ext.snoc; assumption)))⟩
                    · intro hp
                      have s3 := hA 3 (by rfl)
                      simp [sl] at s3
                      have s157 := hp 33 (by rfl)
                      change a.tmps.getD 157 undef = _ at s157
                      simp at s157
                      have sg := hp 33 (by rfl)
                      clear hp
                      refine wpOp_on rfl (wanted_yes rfl (yielded_at rfl sg) rfl) ?_
                      clear sg
                      dsimp only
                      go_wp2_with (first | (go_at_call 9; refine (CanShare_any _ _ _ _ _ _ _).mono ?_; rintro e w1 ⟨rfl, hb1⟩))
                      exact ⟨_, rfl, rfl, (by repeat (first | exact kE | exact Ext.refl _ | apply Ext.alloc | apply Ext.drewN | apply Ext.drew | apply Ext.set0 | apply Ext.set1 | apply Ext.set2 | apply Ext.set3 | (refine Ext.setk ?_ (by omega) _) | (apply Ext.snoc; assumption)))⟩
                    · intro hp
                      have s8 := hA 8 (by rfl)
                      simp [sl] at s8
                      have s157 := hp 33 (by rfl)
                      change a.tmps.getD 157 undef = _ at s157
                      simp at s157
                      have sg := hp 33 (by rfl)
                      clear hp
                      refine wpOp_on rfl (wanted_yes rfl (yielded_at rfl sg) rfl) ?_
                      clear sg
                      dsimp only
                      go_wp2_with (first | (go_at_call 9; refine (CanShare_any _ _ _ _ _ _ _).mono ?_; rintro e w1 ⟨rfl, hb1⟩))
                      exact ⟨_, rfl, rfl, (by repeat (first | exact kE | exact Ext.refl _ | apply Ext.alloc | apply Ext.drewN | apply Ext.drew | apply Ext.set0 | apply Ext.set1 | apply Ext.set2 | apply Ext.set3 | (refine Ext.setk ?_ (by omega) _) | (apply Ext.snoc; assumption)))⟩
                    · intro hp
                      have s157 := hp 33 (by rfl)
                      change a.tmps.getD 157 undef = _ at s157
                      simp at s157
                      have s163 := hp 39 (by rfl)
                      change a.tmps.getD 163 undef = _ at s163
                      simp at s163
                      have s164 := hp 40 (by rfl)
                      change a.tmps.getD 164 undef = _ at s164
                      simp at s164
                      have sg := hp 33 (by rfl)
                      clear hp
                      refine wpOp_on rfl (wanted_yes rfl (yielded_at rfl sg) rfl) ?_
                      clear sg
                      dsimp only
                      go_wp2_with (first | (go_at_call 9; refine (CanShare_any _ _ _ _ _ _ _).mono ?_; rintro e w1 ⟨rfl, hb1⟩))
                      exact ⟨_, rfl, rfl, (by repeat (first | exact kE | exact Ext.refl _ | apply Ext.alloc | apply Ext.drewN | apply Ext.drew | apply Ext.set0 | apply Ext.set1 | apply Ext.set2 | apply Ext.set3 | (refine Ext.setk ?_ (by omega) _) | (apply Ext.snoc; assumption)))⟩
                    · intro hp
                      have s157 := hp 33 (by rfl)
                      change a.tmps.getD 157 undef = _ at s157
                      simp at s157
                      have s165 := hp 41 (by rfl)
                      change a.tmps.getD 165 undef = _ at s165
                      simp at s165
                      have sg := hp 33 (by rfl)
                      clear hp
                      refine wpOp_on rfl (wanted_yes rfl (yielded_at rfl sg) rfl) ?_
                      clear sg
                      dsimp only
                      go_wp2_with (first | (go_at_call 9; refine (CanShare_any _ _ _ _ _ _ _).mono ?_; rintro e w1 ⟨rfl, hb1⟩))
                      exact ⟨_, rfl, rfl, (by repeat (first | exact kE | exact Ext.refl _ | apply Ext.alloc | apply Ext.drewN | apply Ext.drew | apply Ext.set0 | apply Ext.set1 | apply Ext.set2 | apply Ext.set3 | (refine Ext.setk ?_ (by omega) _) | (apply Ext.snoc; assumption)))⟩
                    · intro hp
                      have s157 := hp 33 (by rfl)
                      change a.tmps.getD 157 undef = _ at s157
                      simp at s157
                      have s166 := hp 42 (by rfl)
                      change a.tmps.getD 166 undef = _ at s166
                      simp at s166
                      have sg := hp 33 (by rfl)
                      clear hp
                      refine wpOp_on rfl (wanted_yes rfl (yielded_at rfl sg) rfl) ?_
                      clear sg
                      dsimp only
                      go_wp2_with (first | (go_at_call 9; refine (CanShare_any _ _ _ _ _ _ _).mono ?_; rintro e w1 ⟨rfl, hb1⟩))
                      exact ⟨_, rfl, rfl, (by repeat (first | exact kE | exact Ext.refl _ | apply Ext.alloc | apply Ext.drewN | apply Ext.drew | apply Ext.set0 | apply Ext.set1 | apply Ext.set2 | apply Ext.set3 | (refine Ext.setk ?_ (by omega) _) | (apply Ext.snoc; assumption)))⟩
                    · intro hp
                      have s157 := hp 33 (by rfl)
                      change a.tmps.getD 157 undef = _ at s157
                      simp at s157
                      have s162 := hp 38 (by rfl)
                      change a.tmps.getD 162 undef = _ at s162
                      simp at s162
                      have s167 := hp 43 (by rfl)
                      change a.tmps.getD 167 undef = _ at s167
                      simp at s167
                      have sg := hp 33 (by rfl)
                      clear hp
                      refine wpOp_on rfl (wanted_yes rfl (yielded_at rfl sg) rfl) ?_
                      clear sg
                      dsimp only
                      go_wp2_with (first | (go_at_call 9; refine (CanShare_any _ _ _ _ _ _ _).mono ?_; rintro e w1 ⟨rfl, hb1⟩))
                      exact ⟨_, rfl, rfl, (by repeat (first | exact kE | exact Ext.refl _ | apply Ext.alloc | apply Ext.drewN | apply Ext.drew | apply Ext.set0 | apply Ext.set1 | apply Ext.set2 | apply Ext.set3 | (refine Ext.setk ?_ (by omega) _) | (apply Ext.snoc; assumption)))⟩
                    · intro hp
                      have s157 := hp 33 (by rfl)
                      change a.tmps.getD 157 undef = _ at s157
                      simp at s157
                      have s168 := hp 44 (by rfl)
                      change a.tmps.getD 168 undef = _ at s168
                      simp at s168
                      have sg := hp 33 (by rfl)
                      clear hp
                      refine wpOp_on rfl (wanted_yes rfl (yielded_at rfl sg) rfl) ?_
                      clear sg
                      dsimp only
                      go_wp2_with (first | (go_at_call 9; refine (CanShare_any _ _ _ _ _ _ _).mono ?_; rintro e w1 ⟨rfl, hb1⟩))
                      exact ⟨_, rfl, rfl, (by repeat (first | exact kE | exact Ext.refl _ | apply Ext.alloc | apply Ext.drewN | apply Ext.drew | apply Ext.set0 | apply Ext.set1 | apply Ext.set2 | apply Ext.set3 | (refine Ext.setk ?_ (by omega) _) | (apply Ext.snoc; assumption)))⟩
                    · intro hp
                      have s157 := hp 33 (by rfl)
                      change a.tmps.getD 157 undef = _ at s157
                      simp at s157
                      have s169 := hp 45 (by rfl)
                      change a.tmps.getD 169 undef = _ at s169
                      simp at s169
                      clear hp
                      refine wpOp_of_list rfl rfl ?_
                      go_wp2_with (first | (go_at_call 9; refine (CanShare_any _ _ _ _ _ _ _).mono ?_; rintro e w1 ⟨rfl, hb1⟩))
                      exact ⟨_, rfl, rfl, (by repeat (first | exact kE | exact Ext.refl _ | apply Ext.alloc | apply Ext.drewN | apply Ext.drew | apply Ext.set0 | apply Ext.set1 | apply Ext.set2 | apply Ext.set3 | (refine Ext.setk ?_ (by omega) _) | (apply Ext.snoc; assumption)))⟩
                    · intro hp
                      have s132 := hp 8 (by rfl)
                      change a.tmps.getD 132 undef = _ at s132
                      simp at s132
                      have s170 := hp 46 (by rfl)
                      change a.tmps.getD 170 undef = _ at s170
                      simp at s170
                      clear hp
                      refine wpOp_of_list rfl rfl ?_
                      go_wp2_with (first | (go_at_call 9; refine (CanShare_any _ _ _ _ _ _ _).mono ?_; rintro e w1 ⟨rfl, hb1⟩))
                      exact ⟨_, rfl, rfl, (by repeat (first | exact kE | exact Ext.refl _ | apply Ext.alloc | apply Ext.drewN | apply Ext.drew | apply Ext.set0 | apply Ext.set1 | apply Ext.set2 | apply Ext.set3 | (refine Ext.setk ?_ (by omega) _) | (apply Ext.snoc; assumption)))⟩
                  case QAfin =>
                    intro X w' hE hp
                    obtain ⟨⟨⟨⟨⟨⟨⟨⟨⟨⟨⟨⟨⟨⟨⟨⟨⟨⟨⟨⟨⟨⟨⟨⟨⟨⟨⟨⟨⟨⟨⟨⟨⟨⟨⟨⟨⟨⟨⟨⟨⟨⟨⟨⟨⟨⟨⟨⟨_, h0⟩, h1⟩, h2⟩, h3⟩, h4⟩, h5⟩, h6⟩, h7⟩, h8⟩, h9⟩, h10⟩, h11⟩, h12⟩, h13⟩, h14⟩, h15⟩, h16⟩, h17⟩, h18⟩, h19⟩, h20⟩, h21⟩, h22⟩, h23⟩, h24⟩, h25⟩, h26⟩, h27⟩, h28⟩, h29⟩, h30⟩, h31⟩, h32⟩, h33⟩, h34⟩, h35⟩, h36⟩, h37⟩, h38⟩, h39⟩, h40⟩, h41⟩, h42⟩, h43⟩, h44⟩, h45⟩, h46⟩, h47⟩ := hp
                    change X 0 = _ at h0
                    change X 1 = _ at h1
                    change X 2 = _ at h2
                    change X 3 = _ at h3
                    change X 4 = _ at h4
                    change X 5 = _ at h5
                    change X 6 = _ at h6
                    change X 7 = _ at h7
                    change X 8 = _ at h8
                    change X 9 = _ at h9
                    change X 10 = _ at h10
                    change X 11 = _ at h11
                    change X 12 = _ at h12
                    change X 13 = _ at h13
                    change X 14 = _ at h14
                    change X 15 = _ at h15
                    change X 16 = _ at h16
                    change X 17 = _ at h17
                    change X 18 = _ at h18
                    change X 19 = _ at h19
                    change X 20 = _ at h20
                    change X 21 = _ at h21
                    change X 22 = _ at h22
                    change X 23 = _ at h23
                    change X 24 = _ at h24
                    change X 25 = _ at h25
                    change X 26 = _ at h26
                    change X 27 = _ at h27
                    change X 28 = _ at h28
                    change X 29 = _ at h29
                    change X 30 = _ at h30
                    change X 31 = _ at h31
                    change X 32 = _ at h32
                    change X 33 = _ at h33
                    change X 34 = _ at h34
                    change X 35 = _ at h35
                    change X 36 = _ at h36
                    change X 37 = _ at h37
                    change X 38 = _ at h38
                    change X 39 = _ at h39
                    change X 40 = _ at h40
                    change X 41 = _ at h41
                    change X 42 = _ at h42
                    change X 43 = _ at h43
                    change X 44 = _ at h44
                    change X 45 = _ at h45
                    change X 46 = _ at h46
                    change X 47 = _ at h47
                    simp only [List.drop_succ_cons, List.drop_nil]
                    refine wpList_nil ?_
                    go_simp
                    clear h0 h1 h2 h3 h4 h5 h6 h7 h8 h9 h10 h11 h12 h13 h14 h15 h16 h17 h18 h19 h20 h21 h22 h23 h24 h25 h26 h27 h28 h29 h30 h31 h32 h33 h34 h35 h36 h37 h38 h39 h40 h41 h42 h43 h44 h45 h46 h47
                    repeat (first | go_values | go_skip | go_guarded | go_step | go_upon)
                    go_roundw
                    case rel => exact ⟨q + 1, by omega, by go_num, by have kE := (HEi.out).trans hE; exact kE⟩
                    case measure => simp [intOf]; omega
                · skip
                  replace hcs : canShare xa xb xc xa yb yc = false := by rw [hcs]; simp [g2]
                  have u1 : (xb == yb) = false := by simpa using g2
                  have u2 : decide (xb = yb) = false := decide_eq_false g2
                  apply wp_region_RL 48 220 (by kernel_rfl) (by kernel_rfl) (by kernel_rfl) (by kernel_rfl) (by kernel_rfl) (by kernel_rfl) rfl [fun v _ => v = _, fun v _ => v = _, fun v _ => v = _, fun v _ => v = _, fun v _ => v = _, fun v _ => v = _, fun v _ => v = _, fun v _ => v = _, fun v _ => v = _, fun v _ => v = _, fun v _ => v = _, fun v _ => v = _, fun v _ => v = _, fun v _ => v = _, fun v _ => v = _, fun v _ => v = _, fun v _ => v = _, fun v _ => v = _, fun v _ => v = _, fun v _ => v = _, fun v _ => v = _, fun v _ => v = _, fun v _ => v = _, fun v _ => v = _, fun v _ => v = _, fun v _ => v = _, fun v _ => v = _, fun v _ => v = _, fun v _ => v = _, fun v _ => v = _, fun v _ => v = _, fun v _ => v = _, fun v _ => v = _, fun v _ => v = _, fun v _ => v = _, fun v _ => v = _, fun v _ => v = _, fun v _ => v = _, fun v _ => v = _, fun v _ => v = _, fun v _ => v = _, fun v _ => v = _, fun v _ => v = _, fun v _ => v = _, fun v _ => v = _, fun v _ => v = _, fun v _ => v = _, fun v _ => v = _] rfl ⟨stab_eq _, stab_eq _, stab_eq _, stab_eq _, stab_eq _, stab_eq _, stab_eq _, stab_eq _, stab_eq _, stab_eq _, stab_eq _, stab_eq _, stab_eq _, stab_eq _, stab_eq _, stab_eq _, stab_eq _, stab_eq _, stab_eq _, stab_eq _, stab_eq _, stab_eq _, stab_eq _, stab_eq _, stab_eq _, stab_eq _, stab_eq _, stab_eq _, stab_eq _, stab_eq _, stab_eq _, stab_eq _, stab_eq _, stab_eq _, stab_eq _, stab_eq _, stab_eq _, stab_eq _, stab_eq _, stab_eq _, stab_eq _, stab_eq _, stab_eq _, stab_eq _, stab_eq _, stab_eq _, stab_eq _, stab_eq _, trivial⟩ ?QChop ?QCfin
                  case QChop =>
                    intro a w' hE hA
                    have hc := hE.facts.1
                    have hz := hE.facts.2.2
                    refine ⟨⟨⟨⟨⟨⟨⟨⟨⟨⟨⟨⟨⟨⟨⟨⟨⟨⟨⟨⟨⟨⟨⟨⟨⟨⟨⟨⟨⟨⟨⟨⟨⟨⟨⟨⟨⟨⟨⟨⟨⟨⟨⟨⟨⟨⟨⟨⟨trivial, ?_⟩, ?_⟩, ?_⟩, ?_⟩, ?_⟩, ?_⟩, ?_⟩, ?_⟩, ?_⟩, ?_⟩, ?_⟩, ?_⟩, ?_⟩, ?_⟩, ?_⟩, ?_⟩, ?_⟩, ?_⟩, ?_⟩, ?_⟩, ?_⟩, ?_⟩, ?_⟩, ?_⟩, ?_⟩, ?_⟩, ?_⟩, ?_⟩, ?_⟩, ?_⟩, ?_⟩, ?_⟩, ?_⟩, ?_⟩, ?_⟩, ?_⟩, ?_⟩, ?_⟩, ?_⟩, ?_⟩, ?_⟩, ?_⟩, ?_⟩, ?_⟩, ?_⟩, ?_⟩, ?_⟩, ?_⟩
                    · intro hp
                      have s3 := hA 3 (by rfl)
                      simp [sl] at s3
                      clear hp
                      refine wpOp_of_list rfl rfl ?_
                      go_wp2_with (first | (go_at_call 9; refine (CanShare_any _ _ _ _ _ _ _).mono ?_; rintro e w1 ⟨rfl, hb1⟩))
                      exact ⟨_, rfl, rfl, (by repeat (first | exact kE | exact Ext.refl _ | apply Ext.alloc | apply Ext.drewN | apply Ext.drew | apply Ext.set0 | apply Ext.set1 | apply Ext.set2 | apply Ext.set3 | (refine Ext.setk ?_ (by omega) _) | (apply Ext.snoc; assumption)))⟩
                    · intro hp
                      have s9 := hA 9 (by rfl)
                      simp [sl] at s9
                      clear hp
                      refine wpOp_of_list rfl rfl ?_
                      go_wp2_with (first | (go_at_call 9; refine (CanShare_any _ _ _ _ _ _ _).mono ?_; rintro e w1 ⟨rfl, hb1⟩))
                      exact ⟨_, rfl, rfl, (by repeat (first | exact kE | exact Ext.refl _ | apply Ext.alloc | apply Ext.drewN | apply Ext.drew | apply Ext.set0 | apply Ext.set1 | apply Ext.set2 | apply Ext.set3 | (refine Ext.setk ?_ (by omega) _) | (apply Ext.snoc; assumption)))⟩
                    · intro hp
                      have s124 := hp 0 (by rfl)
                      change a.tmps.getD 124 undef = _ at s124
                      simp at s124
                      have s125 := hp 1 (by rfl)
                      change a.tmps.getD 125 undef = _ at s125
                      simp at s125
                      clear hp
                      refine wpOp_of_list rfl rfl ?_
                      go_wp2_with (first | (go_at_call 9; refine (CanShare_any _ _ _ _ _ _ _).mono ?_; rintro e w1 ⟨rfl, hb1⟩))
                      exact ⟨_, rfl, rfl, (by repeat (first | exact kE | exact Ext.refl _ | apply Ext.alloc | apply Ext.drewN | apply Ext.drew | apply Ext.set0 | apply Ext.set1 | apply Ext.set2 | apply Ext.set3 | (refine Ext.setk ?_ (by omega) _) | (apply Ext.snoc; assumption)))⟩
                    · intro hp
                      have s126 := hp 2 (by rfl)
                      change a.tmps.getD 126 undef = _ at s126
                      simp at s126
                      clear hp
                      refine wpOp_of_list rfl rfl ?_
                      go_wp2_with (first | (go_at_call 9; refine (CanShare_any _ _ _ _ _ _ _).mono ?_; rintro e w1 ⟨rfl, hb1⟩))
                      exact ⟨_, rfl, rfl, (by repeat (first | exact kE | exact Ext.refl _ | apply Ext.alloc | apply Ext.drewN | apply Ext.drew | apply Ext.set0 | apply Ext.set1 | apply Ext.set2 | apply Ext.set3 | (refine Ext.setk ?_ (by omega) _) | (apply Ext.snoc; assumption)))⟩
                    · intro hp
                      have s3 := hA 3 (by rfl)
                      simp [sl] at s3
                      clear hp
                      refine wpOp_of_list rfl rfl ?_
                      go_wp2_with (first | (go_at_call 9; refine (CanShare_any _ _ _ _ _ _ _).mono ?_; rintro e w1 ⟨rfl, hb1⟩))
                      exact ⟨_, rfl, rfl, (by repeat (first | exact kE | exact Ext.refl _ | apply Ext.alloc | apply Ext.drewN | apply Ext.drew | apply Ext.set0 | apply Ext.set1 | apply Ext.set2 | apply Ext.set3 | (refine Ext.setk ?_ (by omega) _) | (apply Ext.snoc; assumption)))⟩
                    · intro hp
                      have s8 := hA 8 (by rfl)
                      simp [sl] at s8
                      clear hp
                      refine wpOp_of_list rfl rfl ?_
                      go_wp2_with (first | (go_at_call 9; refine (CanShare_any _ _ _ _ _ _ _).mono ?_; rintro e w1 ⟨rfl, hb1⟩))
                      exact ⟨_, rfl, rfl, (by repeat (first | exact kE | exact Ext.refl _ | apply Ext.alloc | apply Ext.drewN | apply Ext.drew | apply Ext.set0 | apply Ext.set1 | apply Ext.set2 | apply Ext.set3 | (refine Ext.setk ?_ (by omega) _) | (apply Ext.snoc; assumption)))⟩
                    · intro hp
                      have s128 := hp 4 (by rfl)
                      change a.tmps.getD 128 undef = _ at s128
                      simp at s128
                      have s129 := hp 5 (by rfl)
                      change a.tmps.getD 129 undef = _ at s129
                      simp at s129
                      clear hp
                      refine wpOp_of_list rfl rfl ?_
                      go_wp2_with (first | (go_at_call 9; refine (CanShare_any _ _ _ _ _ _ _).mono ?_; rintro e w1 ⟨rfl, hb1⟩))
                      exact ⟨_, rfl, rfl, (by repeat (first | exact kE | exact Ext.refl _ | apply Ext.alloc | apply Ext.drewN | apply Ext.drew | apply Ext.set0 | apply Ext.set1 | apply Ext.set2 | apply Ext.set3 | (refine Ext.setk ?_ (by omega) _) | (apply Ext.snoc; assumption)))⟩
                    · intro hp
                      have s130 := hp 6 (by rfl)
                      change a.tmps.getD 130 undef = _ at s130
                      simp at s130
                      clear hp
                      refine wpOp_of_list rfl rfl ?_
                      go_wp2_with (first | (go_at_call 9; refine (CanShare_any _ _ _ _ _ _ _).mono ?_; rintro e w1 ⟨rfl, hb1⟩))
                      exact ⟨_, rfl, rfl, (by repeat (first | exact kE | exact Ext.refl _ | apply Ext.alloc | apply Ext.drewN | apply Ext.drew | apply Ext.set0 | apply Ext.set1 | apply Ext.set2 | apply Ext.set3 | (refine Ext.setk ?_ (by omega) _) | (apply Ext.snoc; assumption)))⟩
                    · intro hp
                      have s127 := hp 3 (by rfl)
                      change a.tmps.getD 127 undef = _ at s127
                      simp at s127
                      have s131 := hp 7 (by rfl)
                      change a.tmps.getD 131 undef = _ at s131
                      simp at s131
                      clear hp
                      refine wpOp_of_list rfl rfl ?_
                      go_wp2_with (first | (go_at_call 9; refine (CanShare_any _ _ _ _ _ _ _).mono ?_; rintro e w1 ⟨rfl, hb1⟩))
                      exact ⟨_, rfl, rfl, (by repeat (first | exact kE | exact Ext.refl _ | apply Ext.alloc | apply Ext.drewN | apply Ext.drew | apply Ext.set0 | apply Ext.set1 | apply Ext.set2 | apply Ext.set3 | (refine Ext.setk ?_ (by omega) _) | (apply Ext.snoc; assumption)))⟩
                    · intro hp
                      have s3 := hA 3 (by rfl)
                      simp [sl] at s3
                      clear hp
                      refine wpOp_of_list rfl rfl ?_
                      go_wp2_with (first | (go_at_call 9; refine (CanShare_any _ _ _ _ _ _ _).mono ?_; rintro e w1 ⟨rfl, hb1⟩))
                      exact ⟨_, rfl, rfl, (by repeat (first | exact kE | exact Ext.refl _ | apply Ext.alloc | apply Ext.drewN | apply Ext.drew | apply Ext.set0 | apply Ext.set1 | apply Ext.set2 | apply Ext.set3 | (refine Ext.setk ?_ (by omega) _) | (apply Ext.snoc; assumption)))⟩
                    · intro hp
                      have s9 := hA 9 (by rfl)
                      simp [sl] at s9
                      clear hp
                      refine wpOp_of_list rfl rfl ?_
                      go_wp2_with (first | (go_at_call 9; refine (CanShare_any _ _ _ _ _ _ _).mono ?_; rintro e w1 ⟨rfl, hb1⟩))
                      exact ⟨_, rfl, rfl, (by repeat (first | exact kE | exact Ext.refl _ | apply Ext.alloc | apply Ext.drewN | apply Ext.drew | apply Ext.set0 | apply Ext.set1 | apply Ext.set2 | apply Ext.set3 | (refine Ext.setk ?_ (by omega) _) | (apply Ext.snoc; assumption)))⟩
                    · intro hp
                      have s133 := hp 9 (by rfl)
                      change a.tmps.getD 133 undef = _ at s133
                      simp at s133
                      have s134 := hp 10 (by rfl)
                      change a.tmps.getD 134 undef = _ at s134
                      simp at s134
                      clear hp
                      refine wpOp_of_list rfl rfl ?_
                      go_wp2_with (first | (go_at_call 9; refine (CanShare_any _ _ _ _ _ _ _).mono ?_; rintro e w1 ⟨rfl, hb1⟩))
                      exact ⟨_, rfl, rfl, (by repeat (first | exact kE | exact Ext.refl _ | apply Ext.alloc | apply Ext.drewN | apply Ext.drew | apply Ext.set0 | apply Ext.set1 | apply Ext.set2 | apply Ext.set3 | (refine Ext.setk ?_ (by omega) _) | (apply Ext.snoc; assumption)))⟩
                    · intro hp
                      have s135 := hp 11 (by rfl)
                      change a.tmps.getD 135 undef = _ at s135
                      simp at s135
                      clear hp
                      refine wpOp_of_list rfl rfl ?_
                      go_wp2_with (first | (go_at_call 9; refine (CanShare_any _ _ _ _ _ _ _).mono ?_; rintro e w1 ⟨rfl, hb1⟩))
                      exact ⟨_, rfl, rfl, (by repeat (first | exact kE | exact Ext.refl _ | apply Ext.alloc | apply Ext.drewN | apply Ext.drew | apply Ext.set0 | apply Ext.set1 | apply Ext.set2 | apply Ext.set3 | (refine Ext.setk ?_ (by omega) _) | (apply Ext.snoc; assumption)))⟩
                    · intro hp
                      have s136 := hp 12 (by rfl)
                      change a.tmps.getD 136 undef = _ at s136
                      simp at s136
                      clear hp
                      refine wpOp_of_list rfl rfl ?_
                      go_wp2_with (first | (go_at_call 9; refine (CanShare_any _ _ _ _ _ _ _).mono ?_; rintro e w1 ⟨rfl, hb1⟩))
                      exact ⟨_, rfl, rfl, (by repeat (first | exact kE | exact Ext.refl _ | apply Ext.alloc | apply Ext.drewN | apply Ext.drew | apply Ext.set0 | apply Ext.set1 | apply Ext.set2 | apply Ext.set3 | (refine Ext.setk ?_ (by omega) _) | (apply Ext.snoc; assumption)))⟩
                    · intro hp
                      have s3 := hA 3 (by rfl)
                      simp [sl] at s3
                      clear hp
                      refine wpOp_of_list rfl rfl ?_
                      go_wp2_with (first | (go_at_call 9; refine (CanShare_any _ _ _ _ _ _ _).mono ?_; rintro e w1 ⟨rfl, hb1⟩))
                      exact ⟨_, rfl, rfl, (by repeat (first | exact kE | exact Ext.refl _ | apply Ext.alloc | apply Ext.drewN | apply Ext.drew | apply Ext.set0 | apply Ext.set1 | apply Ext.set2 | apply Ext.set3 | (refine Ext.setk ?_ (by omega) _) | (apply Ext.snoc; assumption)))⟩
                    · intro hp
                      have s8 := hA 8 (by rfl)
                      simp [sl] at s8
                      clear hp
                      refine wpOp_of_list rfl rfl ?_
                      go_wp2_with (first | (go_at_call 9; refine (CanShare_any _ _ _ _ _ _ _).mono ?_; rintro e w1 ⟨rfl, hb1⟩))
                      exact ⟨_, rfl, rfl, (by repeat (first | exact kE | exact Ext.refl _ | apply Ext.alloc | apply Ext.drewN | apply Ext.drew | apply Ext.set0 | apply Ext.set1 | apply Ext.set2 | apply Ext.set3 | (refine Ext.setk ?_ (by omega) _) | (apply Ext.snoc; assumption)))⟩
                    · intro hp
                      have s138 := hp 14 (by rfl)
                      change a.tmps.getD 138 undef = _ at s138
                      simp at s138
                      have s139 := hp 15 (by rfl)
                      change a.tmps.getD 139 undef = _ at s139
                      simp at s139
                      clear hp
                      refine wpOp_of_list rfl rfl ?_
                      go_wp2_with (first | (go_at_call 9; refine (CanShare_any _ _ _ _ _ _ _).mono ?_; rintro e w1 ⟨rfl, hb1⟩))
                      exact ⟨_, rfl, rfl, (by repeat (first | exact kE | exact Ext.refl _ | apply Ext.alloc | apply Ext.drewN | apply Ext.drew | apply Ext.set0 | apply Ext.set1 | apply Ext.set2 | apply Ext.set3 | (refine Ext.setk ?_ (by omega) _) | (apply Ext.snoc; assumption)))⟩
                    · intro hp
                      have s140 := hp 16 (by rfl)
                      change a.tmps.getD 140 undef = _ at s140
                      simp at s140
                      clear hp
                      refine wpOp_of_list rfl rfl ?_
                      go_wp2_with (first | (go_at_call 9; refine (CanShare_any _ _ _ _ _ _ _).mono ?_; rintro e w1 ⟨rfl, hb1⟩))
                      exact ⟨_, rfl, rfl, (by repeat (first | exact kE | exact Ext.refl _ | apply Ext.alloc | apply Ext.drewN | apply Ext.drew | apply Ext.set0 | apply Ext.set1 | apply Ext.set2 | apply Ext.set3 | (refine Ext.setk ?_ (by omega) _) | (apply Ext.snoc; assumption)))⟩
                    · intro hp
                      have s141 := hp 17 (by rfl)
                      change a.tmps.getD 141 undef = _ at s141
                      simp at s141
                      clear hp
                      refine wpOp_of_list rfl rfl ?_
                      go_wp2_with (first | (go_at_call 9; refine (CanShare_any _ _ _ _ _ _ _).mono ?_; rintro e w1 ⟨rfl, hb1⟩))
                      exact ⟨_, rfl, rfl, (by repeat (first | exact kE | exact Ext.refl _ | apply Ext.alloc | apply Ext.drewN | apply Ext.drew | apply Ext.set0 | apply Ext.set1 | apply Ext.set2 | apply Ext.set3 | (refine Ext.setk ?_ (by omega) _) | (apply Ext.snoc; assumption)))⟩
                    · intro hp
                      have s137 := hp 13 (by rfl)
                      change a.tmps.getD 137 undef = _ at s137
                      simp at s137
                      have s142 := hp 18 (by rfl)
                      change a.tmps.getD 142 undef = _ at s142
                      simp at s142
                      clear hp
                      refine wpOp_of_list rfl rfl ?_
                      go_wp2_with (first | (go_at_call 9; refine (CanShare_any _ _ _ _ _ _ _).mono ?_; rintro e w1 ⟨rfl, hb1⟩))
                      exact ⟨_, rfl, rfl, (by repeat (first | exact kE | exact Ext.refl _ | apply Ext.alloc | apply Ext.drewN | apply Ext.drew | apply Ext.set0 | apply Ext.set1 | apply Ext.set2 | apply Ext.set3 | (refine Ext.setk ?_ (by omega) _) | (apply Ext.snoc; assumption)))⟩
                    · intro hp
                      have s143 := hp 19 (by rfl)
                      change a.tmps.getD 143 undef = _ at s143
                      simp at s143
                      clear hp
                      refine wpOp_of_list rfl rfl ?_
                      go_wp2_with (first | (go_at_call 9; refine (CanShare_any _ _ _ _ _ _ _).mono ?_; rintro e w1 ⟨rfl, hb1⟩))
                      exact ⟨_, rfl, rfl, (by repeat (first | exact kE | exact Ext.refl _ | apply Ext.alloc | apply Ext.drewN | apply Ext.drew | apply Ext.set0 | apply Ext.set1 | apply Ext.set2 | apply Ext.set3 | (refine Ext.setk ?_ (by omega) _) | (apply Ext.snoc; assumption)))⟩
                    · intro hp
                      have s3 := hA 3 (by rfl)
                      simp [sl] at s3
                      have s144 := hp 20 (by rfl)
                      change a.tmps.getD 144 undef = _ at s144
                      simp at s144
                      have sg := hp 20 (by rfl)
                      clear hp
                      refine wpOp_on rfl (wanted_yes rfl (yielded_at rfl sg) rfl) ?_
                      clear sg
                      dsimp only
                      go_wp2_with (first | (go_at_call 9; refine (CanShare_any _ _ _ _ _ _ _).mono ?_; rintro e w1 ⟨rfl, hb1⟩))
                      exact ⟨_, rfl, rfl, (by repeat (first | exact kE | exact Ext.refl _ | apply Ext.alloc | apply Ext.drewN | apply Ext.drew | apply Ext.set0 | apply Ext.set1 | apply Ext.set2 | apply Ext.set3 | (refine Ext.setk ?_ (by omega) _) | (apply Ext.snoc; assumption)))⟩
                    · intro hp
                      have s9 := hA 9 (by rfl)
                      simp [sl] at s9
                      have s144 := hp 20 (by rfl)
                      change a.tmps.getD 144 undef = _ at s144
                      simp at s144
                      have sg := hp 20 (by rfl)
                      clear hp
                      refine wpOp_on rfl (wanted_yes rfl (yielded_at rfl sg) rfl) ?_
                      clear sg
                      dsimp only
                      go_wp2_with (first | (go_at_call 9; refine (CanShare_any _ _ _ _ _ _ _).mono ?_; rintro e w1 ⟨rfl, hb1⟩))
                      exact ⟨_, rfl, rfl, (by repeat (first | exact kE | exact Ext.refl _ | apply Ext.alloc | apply Ext.drewN | apply Ext.drew | apply Ext.set0 | apply Ext.set1 | apply Ext.set2 | apply Ext.set3 | (refine Ext.setk ?_ (by omega) _) | (apply Ext.snoc; assumption)))⟩
                    · intro hp
                      have s144 := hp 20 (by rfl)
                      change a.tmps.getD 144 undef = _ at s144
                      simp at s144
                      have s145 := hp 21 (by rfl)
                      change a.tmps.getD 145 undef = _ at s145
                      simp at s145
                      have s146 := hp 22 (by rfl)
                      change a.tmps.getD 146 undef = _ at s146
                      simp at s146
                      have sg := hp 20 (by rfl)
                      clear hp
                      refine wpOp_on rfl (wanted_yes rfl (yielded_at rfl sg) rfl) ?_
                      clear sg
                      dsimp only
                      go_wp2_with (first | (go_at_call 9; refine (CanShare_any _ _ _ _ _ _ _).mono ?_; rintro e w1 ⟨rfl, hb1⟩))
                      exact ⟨_, rfl, rfl, (by repeat (first | exact kE | exact Ext.refl _ | apply Ext.alloc | apply Ext.drewN | apply Ext.drew | apply Ext.set0 | apply Ext.set1 | apply Ext.set2 | apply Ext.set3 | (refine Ext.setk ?_ (by omega) _) | (apply Ext.snoc; assumption)))⟩
                    · intro hp
                      have s144 := hp 20 (by rfl)
                      change a.tmps.getD 144 undef = _ at s144
                      simp at s144
                      have s147 := hp 23 (by rfl)
                      change a.tmps.getD 147 undef = _ at s147
                      simp at s147
                      have sg := hp 20 (by rfl)
                      clear hp
                      refine wpOp_on rfl (wanted_yes rfl (yielded_at rfl sg) rfl) ?_
                      clear sg
                      dsimp only
                      go_wp2_with (first | (go_at_call 9; refine (CanShare_any _ _ _ _ _ _ _).mono ?_; rintro e w1 ⟨rfl, hb1⟩))
                      exact ⟨_, rfl, rfl, (by repeat (first | exact kE | exact Ext.refl _ | apply Ext.alloc | apply Ext.drewN | apply Ext.drew | apply Ext.set0 | apply Ext.set1 | apply Ext.set2 | apply Ext.set3 | (refine Ext.setk ?_ (by omega) _) | (apply Ext.snoc; assumption)))⟩
                    · intro hp
                      have s144 := hp 20 (by rfl)
                      change a.tmps.getD 144 undef = _ at s144
                      simp at s144
                      have s148 := hp 24 (by rfl)
                      change a.tmps.getD 148 undef = _ at s148
                      simp at s148
                      have sg := hp 20 (by rfl)
                      clear hp
                      refine wpOp_on rfl (wanted_yes rfl (yielded_at rfl sg) rfl) ?_
                      clear sg
                      dsimp only
                      go_wp2_with (first | (go_at_call 9; refine (CanShare_any _ _ _ _ _ _ _).mono ?_; rintro e w1 ⟨rfl, hb1⟩))
                      exact ⟨_, rfl, rfl, (by repeat (first | exact kE | exact Ext.refl _ | apply Ext.alloc | apply Ext.drewN | apply Ext.drew | apply Ext.set0 | apply Ext.set1 | apply Ext.set2 | apply Ext.set3 | (refine Ext.setk ?_ (by omega) _) | (apply Ext.snoc; assumption)))⟩
                    · intro hp
                      have s3 := hA 3 (by rfl)
                      simp [sl] at s3
                      have s144 := hp 20 (by rfl)
                      change a.tmps.getD 144 undef = _ at s144
                      simp at s144
                      have sg := hp 20 (by rfl)
                      clear hp
                      refine wpOp_on rfl (wanted_yes rfl (yielded_at rfl sg) rfl) ?_
                      clear sg
                      dsimp only
                      go_wp2_with (first | (go_at_call 9; refine (CanShare_any _ _ _ _ _ _ _).mono ?_; rintro e w1 ⟨rfl, hb1⟩))
                      exact ⟨_, rfl, rfl, (by repeat (first | exact kE | exact Ext.refl _ | apply Ext.alloc | apply Ext.drewN | apply Ext.drew | apply Ext.set0 | apply Ext.set1 | apply Ext.set2 | apply Ext.set3 | (refine Ext.setk ?_ (by omega) _) | (apply Ext.snoc; assumption)))⟩
                    · intro hp
                      have s8 := hA 8 (by rfl)
                      simp [sl] at s8
                      have s144 := hp 20 (by rfl)
                      change a.tmps.getD 144 undef = _ at s144
                      simp at s144
                      have sg := hp 20 (by rfl)
                      clear hp
                      refine wpOp_on rfl (wanted_yes rfl (yielded_at rfl sg) rfl) ?_
                      clear sg
                      dsimp only
                      go_wp2_with (first | (go_at_call 9; refine (CanShare_any _ _ _ _ _ _ _).mono ?_; rintro e w1 ⟨rfl, hb1⟩))
                      exact ⟨_, rfl, rfl, (by repeat (first | exact kE | exact Ext.refl _ | apply Ext.alloc | apply Ext.drewN | apply Ext.drew | apply Ext.set0 | apply Ext.set1 | apply Ext.set2 | apply Ext.set3 | (refine Ext.setk ?_ (by omega) _) | (apply Ext.snoc; assumption)))⟩
                    · intro hp
                      have s144 := hp 20 (by rfl)
                      change a.tmps.getD 144 undef = _ at s144
                      simp at s144
                      have s150 := hp 26 (by rfl)
                      change a.tmps.getD 150 undef = _ at s150
                      simp at s150
                      have s151 := hp 27 (by rfl)
                      change a.tmps.getD 151 undef = _ at s151
                      simp at s151
                      have sg := hp 20 (by rfl)
                      clear hp
                      refine wpOp_on rfl (wanted_yes rfl (yielded_at rfl sg) rfl) ?_
                      clear sg
                      dsimp only
                      go_wp2_with (first | (go_at_call 9; refine (CanShare_any _ _ _ _ _ _ _).mono ?_; rintro e w1 ⟨rfl, hb1⟩))
                      exact ⟨_, rfl, rfl, (by repeat (first | exact kE | exact Ext.refl _ | apply Ext.alloc | apply Ext.drewN | apply Ext.drew | apply Ext.set0 | apply Ext.set1 | apply Ext.set2 | apply Ext.set3 | (refine Ext.setk ?_ (by omega) _) | (apply Ext.snoc; assumption)))⟩
                    · intro hp
                      have s144 := hp 20 (by rfl)
                      change a.tmps.getD 144 undef = _ at s144
                      simp at s144
                      have s152 := hp 28 (by rfl)
                      change a.tmps.getD 152 undef = _ at s152
                      simp at s152
                      have sg := hp 20 (by rfl)
                      clear hp
                      refine wpOp_on rfl (wanted_yes rfl (yielded_at rfl sg) rfl) ?_
                      clear sg
                      dsimp only
                      go_wp2_with (first | (go_at_call 9; refine (CanShare_any _ _ _ _ _ _ _).mono ?_; rintro e w1 ⟨rfl, hb1⟩))
                      exact ⟨_, rfl, rfl, (by repeat (first | exact kE | exact Ext.refl _ | apply Ext.alloc | apply Ext.drewN | apply Ext.drew | apply Ext.set0 | apply Ext.set1 | apply Ext.set2 | apply Ext.set3 | (refine Ext.setk ?_ (by omega) _) | (apply Ext.snoc; assumption)))⟩
                    · intro hp
                      have s144 := hp 20 (by rfl)
                      change a.tmps.getD 144 undef = _ at s144
                      simp at s144
                      have s153 := hp 29 (by rfl)
                      change a.tmps.getD 153 undef = _ at s153
                      simp at s153
                      have sg := hp 20 (by rfl)
                      clear hp
                      refine wpOp_on rfl (wanted_yes rfl (yielded_at rfl sg) rfl) ?_
                      clear sg
                      dsimp only
                      go_wp2_with (first | (go_at_call 9; refine (CanShare_any _ _ _ _ _ _ _).mono ?_; rintro e w1 ⟨rfl, hb1⟩))
                      exact ⟨_, rfl, rfl, (by repeat (first | exact kE | exact Ext.refl _ | apply Ext.alloc | apply Ext.drewN | apply Ext.drew | apply Ext.set0 | apply Ext.set1 | apply Ext.set2 | apply Ext.set3 | (refine Ext.setk ?_ (by omega) _) | (apply Ext.snoc; assumption)))⟩
                    · intro hp
                      have s144 := hp 20 (by rfl)
                      change a.tmps.getD 144 undef = _ at s144
                      simp at s144
                      have s149 := hp 25 (by rfl)
                      change a.tmps.getD 149 undef = _ at s149
                      simp at s149
                      have s154 := hp 30 (by rfl)
                      change a.tmps.getD 154 undef = _ at s154
                      simp at s154
                      have sg := hp 20 (by rfl)
                      clear hp
                      refine wpOp_on rfl (wanted_yes rfl (yielded_at rfl sg) rfl) ?_
                      clear sg
                      dsimp only
                      go_wp2_with (first | (go_at_call 9; refine (CanShare_any _ _ _ _ _ _ _).mono ?_; rintro e w1 ⟨rfl, hb1⟩))
                      exact ⟨_, rfl, rfl, (by repeat (first | exact kE | exact Ext.refl _ | apply Ext.alloc | apply Ext.drewN | apply Ext.drew | apply Ext.set0 | apply Ext.set1 | apply Ext.set2 | apply Ext.set3 | (refine Ext.setk ?_ (by omega) _) | (apply Ext.snoc; assumption)))⟩
                    · intro hp
                      have s144 := hp 20 (by rfl)
                      change a.tmps.getD 144 undef = _ at s144
                      simp at s144
                      have s155 := hp 31 (by rfl)
                      change a.tmps.getD 155 undef = _ at s155
                      simp at s155
                      clear hp
                      refine wpOp_of_list rfl rfl ?_
                      go_wp2_with (first | (go_at_call 9; refine (CanShare_any _ _ _ _ _ _ _).mono ?_; rintro e w1 ⟨rfl, hb1⟩))
                      exact ⟨_, rfl, rfl, (by repeat (first | exact kE | exact Ext.refl _ | apply Ext.alloc | apply Ext.drewN | apply Ext.drew | apply Ext.set0 | apply Ext.set1 | apply Ext.set2 | apply Ext.set3 | (refine Ext.setk ?_ (by omega) _) | (apply Ext.snoc; assumption)))⟩
                    · intro hp
                      have s156 := hp 32 (by rfl)
                      change a.tmps.getD 156 undef = _ at s156
                      simp at s156
                      clear hp
                      refine wpOp_of_list rfl rfl ?_
                      go_wp2_with (first | (go_at_call 9; refine (CanShare_any _ _ _ _ _ _ _).mono ?_; rintro e w1 ⟨rfl, hb1⟩))
                      exact ⟨_, rfl, rfl, (by repeat (first | exact kE | exact Ext.refl _ | apply Ext.alloc | apply Ext.drewN | apply Ext.drew | apply Ext.set0 | apply Ext.set1 | apply Ext.set2 | apply Ext.set3 | (refine Ext.setk ?_ (by omega) _) | (apply Ext.snoc; assumption)))⟩
                    · intro hp
                      have sg := hp 33 (by rfl)
                      exact wpOp_skipR rfl (wanted_no rfl (yielded_at rfl sg) rfl) rfl
                    · intro hp
                      have sg := hp 33 (by rfl)
                      exact wpOp_skipR rfl (wanted_no rfl (yielded_at rfl sg) rfl) rfl
                    · intro hp
                      have sg := hp 33 (by rfl)
                      exact wpOp_skipR rfl (wanted_no rfl (yielded_at rfl sg) rfl) rfl
                    · intro hp
                      have sg := hp 33 (by rfl)
                      exact wpOp_skipR rfl (wanted_no rfl (yielded_at rfl sg) rfl) rfl
                    · intro hp
                      have sg := hp 33 (by rfl)
                      exact wpOp_skipR rfl (wanted_no rfl (yielded_at rfl sg) rfl) rfl
                    · intro hp
                      have sg := hp 33 (by rfl)
                      exact wpOp_skipR rfl (wanted_no rfl (yielded_at rfl sg) rfl) rfl
                    · intro hp
                      have sg := hp 33 (by rfl)
                      exact wpOp_skipR rfl (wanted_no rfl (yielded_at rfl sg) rfl) rfl
                    · intro hp
                      have sg := hp 33 (by rfl)
                      exact wpOp_skipR rfl (wanted_no rfl (yielded_at rfl sg) rfl) rfl
                    · intro hp
                      have sg := hp 33 (by rfl)
                      exact wpOp_skipR rfl (wanted_no rfl (yielded_at rfl sg) rfl) rfl
                    · intro hp
                      have sg := hp 33 (by rfl)
                      exact wpOp_skipR rfl (wanted_no rfl (yielded_at rfl sg) rfl) rfl
                    · intro hp
                      have sg := hp 33 (by rfl)
                      exact wpOp_skipR rfl (wanted_no rfl (yielded_at rfl sg) rfl) rfl
                    · intro hp
                      have sg := hp 33 (by rfl)
                      exact wpOp_skipR rfl (wanted_no rfl (yielded_at rfl sg) rfl) rfl
                    · intro hp
                      have s157 := hp 33 (by rfl)
                      change a.tmps.getD 157 undef = _ at s157
                      simp at s157
                      have s169 := hp 45 (by rfl)
                      change a.tmps.getD 169 undef = _ at s169
                      simp at s169
                      clear hp
                      refine wpOp_of_list rfl rfl ?_
                      go_wp2_with (first | (go_at_call 9; refine (CanShare_any _ _ _ _ _ _ _).mono ?_; rintro e w1 ⟨rfl, hb1⟩))
                      exact ⟨_, rfl, rfl, (by repeat (first | exact kE | exact Ext.refl _ | apply Ext.alloc | apply Ext.drewN | apply Ext.drew | apply Ext.set0 | apply Ext.set1 | apply Ext.set2 | apply Ext.set3 | (refine Ext.setk ?_ (by omega) _) | (apply Ext.snoc; assumption)))⟩
                    · intro hp
                      have s132 := hp 8 (by rfl)
                      change a.tmps.getD 132 undef = _ at s132
                      simp at s132
                      have s170 := hp 46 (by rfl)
                      change a.tmps.getD 170 undef = _ at s170
                      simp at s170
                      clear hp
                      refine wpOp_of_list rfl rfl ?_
                      go_wp2_with (first | (go_at_call 9; refine (CanShare_any _ _ _ _ _ _ _).mono ?_; rintro e w1 ⟨rfl, hb1⟩))
                      exact ⟨_, rfl, rfl, (by repeat (first | exact kE | exact Ext.refl _ | apply Ext.alloc | apply Ext.drewN | apply Ext.drew | apply Ext.set0 | apply Ext.set1 | apply Ext.set2 | apply Ext.set3 | (refine Ext.setk ?_ (by omega) _) | (apply Ext.snoc; assumption)))⟩
                  case QCfin =>
                    intro X w' hE hp
                    obtain ⟨⟨⟨⟨⟨⟨⟨⟨⟨⟨⟨⟨⟨⟨⟨⟨⟨⟨⟨⟨⟨⟨⟨⟨⟨⟨⟨⟨⟨⟨⟨⟨⟨⟨⟨⟨⟨⟨⟨⟨⟨⟨⟨⟨⟨⟨⟨⟨_, h0⟩, h1⟩, h2⟩, h3⟩, h4⟩, h5⟩, h6⟩, h7⟩, h8⟩, h9⟩, h10⟩, h11⟩, h12⟩, h13⟩, h14⟩, h15⟩, h16⟩, h17⟩, h18⟩, h19⟩, h20⟩, h21⟩, h22⟩, h23⟩, h24⟩, h25⟩, h26⟩, h27⟩, h28⟩, h29⟩, h30⟩, h31⟩, h32⟩, h33⟩, h34⟩, h35⟩, h36⟩, h37⟩, h38⟩, h39⟩, h40⟩, h41⟩, h42⟩, h43⟩, h44⟩, h45⟩, h46⟩, h47⟩ := hp
                    change X 0 = _ at h0
                    change X 1 = _ at h1
                    change X 2 = _ at h2
                    change X 3 = _ at h3
                    change X 4 = _ at h4
                    change X 5 = _ at h5
                    change X 6 = _ at h6
                    change X 7 = _ at h7
                    change X 8 = _ at h8
                    change X 9 = _ at h9
                    change X 10 = _ at h10
                    change X 11 = _ at h11
                    change X 12 = _ at h12
                    change X 13 = _ at h13
                    change X 14 = _ at h14
                    change X 15 = _ at h15
                    change X 16 = _ at h16
                    change X 17 = _ at h17
                    change X 18 = _ at h18
                    change X 19 = _ at h19
                    change X 20 = _ at h20
                    change X 21 = _ at h21
                    change X 22 = _ at h22
                    change X 23 = _ at h23
                    change X 24 = _ at h24
                    change X 25 = _ at h25
                    change X 26 = _ at h26
                    change X 27 = _ at h27
                    change X 28 = _ at h28
                    change X 29 = _ at h29
                    change X 30 = _ at h30
                    change X 31 = _ at h31
                    change X 32 = _ at h32
                    change X 33 = _ at h33
                    change X 34 = _ at h34
                    change X 35 = _ at h35
                    change X 36 = _ at h36
                    change X 37 = _ at h37
                    change X 38 = _ at h38
                    change X 39 = _ at h39
                    change X 40 = _ at h40
                    change X 41 = _ at h41
                    change X 42 = _ at h42
                    change X 43 = _ at h43
                    change X 44 = _ at h44
                    change X 45 = _ at h45
                    change X 46 = _ at h46
                    change X 47 = _ at h47
                    simp only [List.drop_succ_cons, List.drop_nil]
                    refine wpList_nil ?_
                    go_simp
                    clear h0 h1 h2 h3 h4 h5 h6 h7 h8 h9 h10 h11 h12 h13 h14 h15 h16 h17 h18 h19 h20 h21 h22 h23 h24 h25 h26 h27 h28 h29 h30 h31 h32 h33 h34 h35 h36 h37 h38 h39 h40 h41 h42 h43 h44 h45 h46 h47
                    repeat (first | go_values | go_skip | go_guarded | go_step | go_upon)
                    go_roundw
                    case rel => exact ⟨q + 1, by omega, by go_num, by have kE := (HEi.out).trans hE; exact kE⟩
                    case measure => simp [intOf]; omega
              · skip
                replace hcs : canShare xa xb xc ya yb yc = false := by rw [hcs]; simp [g1]
                have u1 : (xa == ya) = false := by simpa using g1
                have u2 : decide (xa = ya) = false := decide_eq_false g1
                apply wp_region_RL 48 220 (by kernel_rfl) (by kernel_rfl) (by kernel_rfl) (by kernel_rfl) (by kernel_rfl) (by kernel_rfl) rfl [fun v _ => v = _, fun v _ => v = _, fun v _ => v = _, fun v _ => v = _, fun v _ => v = _, fun v _ => v = _, fun v _ => v = _, fun v _ => v = _, fun v _ => v = _, fun v _ => v = _, fun v _ => v = _, fun v _ => v = _, fun v _ => v = _, fun v _ => v = _, fun v _ => v = _, fun v _ => v = _, fun v _ => v = _, fun v _ => v = _, fun v _ => v = _, fun v _ => v = _, fun v _ => v = _, fun v _ => v = _, fun v _ => v = _, fun v _ => v = _, fun v _ => v = _, fun v _ => v = _, fun v _ => v = _, fun v _ => v = _, fun v _ => v = _, fun v _ => v = _, fun v _ => v = _, fun v _ => v = _, fun v _ => v = _, fun v _ => v = _, fun v _ => v = _, fun v _ => v = _, fun v _ => v = _, fun v _ => v = _, fun v _ => v = _, fun v _ => v = _, fun v _ => v = _, fun v _ => v = _, fun v _ => v = _, fun v _ => v = _, fun v _ => v = _, fun v _ => v = _, fun v _ => v = _, fun v _ => v = _] rfl ⟨stab_eq _, stab_eq _, stab_eq _, stab_eq _, stab_eq _, stab_eq _, stab_eq _, stab_eq _, stab_eq _, stab_eq _, stab_eq _, stab_eq _, stab_eq _, stab_eq _, stab_eq _, stab_eq _, stab_eq _, stab_eq _, stab_eq _, stab_eq _, stab_eq _, stab_eq _, stab_eq _, stab_eq _, stab_eq _, stab_eq _, stab_eq _, stab_eq _, stab_eq _, stab_eq _, stab_eq _, stab_eq _, stab_eq _, stab_eq _, stab_eq _, stab_eq _, stab_eq _, stab_eq _, stab_eq _, stab_eq _, stab_eq _, stab_eq _, stab_eq _, stab_eq _, stab_eq _, stab_eq _, stab_eq _, stab_eq _, trivial⟩ ?QDhop ?QDfin
                case QDhop =>
                  intro a w' hE hA
                  have hc := hE.facts.1
                  have hz := hE.facts.2.2
                  refine ⟨⟨⟨⟨⟨⟨⟨⟨⟨⟨⟨⟨⟨⟨⟨⟨⟨⟨⟨⟨⟨⟨⟨⟨⟨⟨⟨⟨⟨⟨⟨⟨⟨⟨⟨⟨⟨⟨⟨⟨⟨⟨⟨⟨⟨⟨⟨⟨trivial, ?_⟩, ?_⟩, ?_⟩, ?_⟩, ?_⟩, ?_⟩, ?_⟩, ?_⟩, ?_⟩, ?_⟩, ?_⟩, ?_⟩, ?_⟩, ?_⟩, ?_⟩, ?_⟩, ?_⟩, ?_⟩, ?_⟩, ?_⟩, ?_⟩, ?_⟩, ?_⟩, ?_⟩, ?_⟩, ?_⟩, ?_⟩, ?_⟩, ?_⟩, ?_⟩, ?_⟩, ?_⟩, ?_⟩, ?_⟩, ?_⟩, ?_⟩, ?_⟩, ?_⟩, ?_⟩, ?_⟩, ?_⟩, ?_⟩, ?_⟩, ?_⟩, ?_⟩, ?_⟩, ?_⟩, ?_⟩
                  · intro hp
                    have s3 := hA 3 (by rfl)
                    simp [sl] at s3
                    clear hp
                    refine wpOp_of_list rfl rfl ?_
                    go_wp2_with (first | (go_at_call 9; refine (CanShare_any _ _ _ _ _ _ _).mono ?_; rintro e w1 ⟨rfl, hb1⟩))
                    exact ⟨_, rfl, rfl, (by repeat (first | exact kE | exact Ext.refl _ | apply Ext.alloc | apply Ext.drewN | apply Ext.drew | apply Ext.set0 | apply Ext.set1 | apply Ext.set2 | apply Ext.set3 | (refine Ext.setk ?_ (by omega) _) | (apply Ext.snoc; assumption)))⟩
                  · intro hp
                    have s9 := hA 9 (by rfl)
                    simp [sl] at s9
                    clear hp
                    refine wpOp_of_list rfl rfl ?_
                    go_wp2_with (first | (go_at_call 9; refine (CanShare_any _ _ _ _ _ _ _).mono ?_; rintro e w1 ⟨rfl, hb1⟩))
                    exact ⟨_, rfl, rfl, (by repeat (first | exact kE | exact Ext.refl _ | apply Ext.alloc | apply Ext.drewN | apply Ext.drew | apply Ext.set0 | apply Ext.set1 | apply Ext.set2 | apply Ext.set3 | (refine Ext.setk ?_ (by omega) _) | (apply Ext.snoc; assumption)))⟩
                  · intro hp
                    have s124 := hp 0 (by rfl)
                    change a.tmps.getD 124 undef = _ at s124
                    simp at s124
                    have s125 := hp 1 (by rfl)
                    change a.tmps.getD 125 undef = _ at s125
                    simp at s125
                    clear hp
                    refine wpOp_of_list rfl rfl ?_
                    go_wp2_with (first | (go_at_call 9; refine (CanShare_any _ _ _ _ _ _ _).mono ?_; rintro e w1 ⟨rfl, hb1⟩))
                    exact ⟨_, rfl, rfl, (by repeat (first | exact kE | exact Ext.refl _ | apply Ext.alloc | apply Ext.drewN | apply Ext.drew | apply Ext.set0 | apply Ext.set1 | apply Ext.set2 | apply Ext.set3 | (refine Ext.setk ?_ (by omega) _) | (apply Ext.snoc; assumption)))⟩
                  · intro hp
                    have s126 := hp 2 (by rfl)
                    change a.tmps.getD 126 undef = _ at s126
                    simp at s126
                    clear hp
                    refine wpOp_of_list rfl rfl ?_
                    go_wp2_with (first | (go_at_call 9; refine (CanShare_any _ _ _ _ _ _ _).mono ?_; rintro e w1 ⟨rfl, hb1⟩))
                    exact ⟨_, rfl, rfl, (by repeat (first | exact kE | exact Ext.refl _ | apply Ext.alloc | apply Ext.drewN | apply Ext.drew | apply Ext.set0 | apply Ext.set1 | apply Ext.set2 | apply Ext.set3 | (refine Ext.setk ?_ (by omega) _) | (apply Ext.snoc; assumption)))⟩
                  · intro hp
                    have s3 := hA 3 (by rfl)
                    simp [sl] at s3
                    clear hp
                    refine wpOp_of_list rfl rfl ?_
                    go_wp2_with (first | (go_at_call 9; refine (CanShare_any _ _ _ _ _ _ _).mono ?_; rintro e w1 ⟨rfl, hb1⟩))
                    exact ⟨_, rfl, rfl, (by repeat (first | exact kE | exact Ext.refl _ | apply Ext.alloc | apply Ext.drewN | apply Ext.drew | apply Ext.set0 | apply Ext.set1 | apply Ext.set2 | apply Ext.set3 | (refine Ext.setk ?_ (by omega) _) | (apply Ext.snoc; assumption)))⟩
                  · intro hp
                    have s8 := hA 8 (by rfl)
                    simp [sl] at s8
                    clear hp
                    refine wpOp_of_list rfl rfl ?_
                    go_wp2_with (first | (go_at_call 9; refine (CanShare_any _ _ _ _ _ _ _).mono ?_; rintro e w1 ⟨rfl, hb1⟩))
                    exact ⟨_, rfl, rfl, (by repeat (first | exact kE | exact Ext.refl _ | apply Ext.alloc | apply Ext.drewN | apply Ext.drew | apply Ext.set0 | apply Ext.set1 | apply Ext.set2 | apply Ext.set3 | (refine Ext.setk ?_ (by omega) _) | (apply Ext.snoc; assumption)))⟩
                  · intro hp
                    have s128 := hp 4 (by rfl)
                    change a.tmps.getD 128 undef = _ at s128
                    simp at s128
                    have s129 := hp 5 (by rfl)
                    change a.tmps.getD 129 undef = _ at s129
                    simp at s129
                    clear hp
                    refine wpOp_of_list rfl rfl ?_
                    go_wp2_with (first | (go_at_call 9; refine (CanShare_any _ _ _ _ _ _ _).mono ?_; rintro e w1 ⟨rfl, hb1⟩))
                    exact ⟨_, rfl, rfl, (by repeat (first | exact kE | exact Ext.refl _ | apply Ext.alloc | apply Ext.drewN | apply Ext.drew | apply Ext.set0 | apply Ext.set1 | apply Ext.set2 | apply Ext.set3 | (refine Ext.setk ?_ (by omega) _) | (apply Ext.snoc; assumption)))⟩
                  · intro hp
                    have s130 := hp 6 (by rfl)
                    change a.tmps.getD 130 undef = _ at s130
                    simp at s130
                    clear hp
                    refine wpOp_of_list rfl rfl ?_
                    go_wp2_with (first | (go_at_call 9; refine (CanShare_any _ _ _ _ _ _ _).mono ?_; rintro e w1 ⟨rfl, hb1⟩))
                    exact ⟨_, rfl, rfl, (by repeat (first | exact kE | exact Ext.refl _ | apply Ext.alloc | apply Ext.drewN | apply Ext.drew | apply Ext.set0 | apply Ext.set1 | apply Ext.set2 | apply Ext.set3 | (refine Ext.setk ?_ (by omega) _) | (apply Ext.snoc; assumption)))⟩
                  · intro hp
                    have s127 := hp 3 (by rfl)
                    change a.tmps.getD 127 undef = _ at s127
                    simp at s127
                    have s131 := hp 7 (by rfl)
                    change a.tmps.getD 131 undef = _ at s131
                    simp at s131
                    clear hp
                    refine wpOp_of_list rfl rfl ?_
                    go_wp2_with (first | (go_at_call 9; refine (CanShare_any _ _ _ _ _ _ _).mono ?_; rintro e w1 ⟨rfl, hb1⟩))
                    exact ⟨_, rfl, rfl, (by repeat (first | exact kE | exact Ext.refl _ | apply Ext.alloc | apply Ext.drewN | apply Ext.drew | apply Ext.set0 | apply Ext.set1 | apply Ext.set2 | apply Ext.set3 | (refine Ext.setk ?_ (by omega) _) | (apply Ext.snoc; assumption)))⟩
                  · intro hp
                    have s3 := hA 3 (by rfl)
                    simp [sl] at s3
                    clear hp
                    refine wpOp_of_list rfl rfl ?_
                    go_wp2_with (first | (go_at_call 9; refine (CanShare_any _ _ _ _ _ _ _).mono ?_; rintro e w1 ⟨rfl, hb1⟩))
                    exact ⟨_, rfl, rfl, (by repeat (first | exact kE | exact Ext.refl _ | apply Ext.alloc | apply Ext.drewN | apply Ext.drew | apply Ext.set0 | apply Ext.set1 | apply Ext.set2 | apply Ext.set3 | (refine Ext.setk ?_ (by omega) _) | (apply Ext.snoc; assumption)))⟩
                  · intro hp
                    have s9 := hA 9 (by rfl)
                    simp [sl] at s9
                    clear hp
                    refine wpOp_of_list rfl rfl ?_
                    go_wp2_with (first | (go_at_call 9; refine (CanShare_any _ _ _ _ _ _ _).mono ?_; rintro e w1 ⟨rfl, hb1⟩))
                    exact ⟨_, rfl, rfl, (by repeat (first | exact kE | exact Ext.refl _ | apply Ext.alloc | apply Ext.drewN | apply Ext.drew | apply Ext.set0 | apply Ext.set1 | apply Ext.set2 | apply Ext.set3 | (refine Ext.setk ?_ (by omega) _) | (apply Ext.snoc; assumption)))⟩
                  · intro hp
                    have s133 := hp 9 (by rfl)
                    change a.tmps.getD 133 undef = _ at s133
                    simp at s133
                    have s134 := hp 10 (by rfl)
                    change a.tmps.getD 134 undef = _ at s134
                    simp at s134
                    clear hp
                    refine wpOp_of_list rfl rfl ?_
                    go_wp2_with (first | (go_at_call 9; refine (CanShare_any _ _ _ _ _ _ _).mono ?_; rintro e w1 ⟨rfl, hb1⟩))
                    exact ⟨_, rfl, rfl, (by repeat (first | exact kE | exact Ext.refl _ | apply Ext.alloc | apply Ext.drewN | apply Ext.drew | apply Ext.set0 | apply Ext.set1 | apply Ext.set2 | apply Ext.set3 | (refine Ext.setk ?_ (by omega) _) | (apply Ext.snoc; assumption)))⟩
                  · intro hp
                    have s135 := hp 11 (by rfl)
                    change a.tmps.getD 135 undef = _ at s135
                    simp at s135
                    clear hp
                    refine wpOp_of_list rfl rfl ?_
                    go_wp2_with (first | (go_at_call 9; refine (CanShare_any _ _ _ _ _ _ _).mono ?_; rintro e w1 ⟨rfl, hb1⟩))
                    exact ⟨_, rfl, rfl, (by repeat (first | exact kE | exact Ext.refl _ | apply Ext.alloc | apply Ext.drewN | apply Ext.drew | apply Ext.set0 | apply Ext.set1 | apply Ext.set2 | apply Ext.set3 | (refine Ext.setk ?_ (by omega) _) | (apply Ext.snoc; assumption)))⟩
                  · intro hp
                    have s136 := hp 12 (by rfl)
                    change a.tmps.getD 136 undef = _ at s136
                    simp at s136
                    clear hp
                    refine wpOp_of_list rfl rfl ?_
                    go_wp2_with (first | (go_at_call 9; refine (CanShare_any _ _ _ _ _ _ _).mono ?_; rintro e w1 ⟨rfl, hb1⟩))
                    exact ⟨_, rfl, rfl, (by repeat (first | exact kE | exact Ext.refl _ | apply Ext.alloc | apply Ext.drewN | apply Ext.drew | apply Ext.set0 | apply Ext.set1 | apply Ext.set2 | apply Ext.set3 | (refine Ext.setk ?_ (by omega) _) | (apply Ext.snoc; assumption)))⟩
                  · intro hp
                    have s3 := hA 3 (by rfl)
                    simp [sl] at s3
                    clear hp
                    refine wpOp_of_list rfl rfl ?_
                    go_wp2_with (first | (go_at_call 9; refine (CanShare_any _ _ _ _ _ _ _).mono ?_; rintro e w1 ⟨rfl, hb1⟩))
                    exact ⟨_, rfl, rfl, (by repeat (first | exact kE | exact Ext.refl _ | apply Ext.alloc | apply Ext.drewN | apply Ext.drew | apply Ext.set0 | apply Ext.set1 | apply Ext.set2 | apply Ext.set3 | (refine Ext.setk ?_ (by omega) _) | (apply Ext.snoc; assumption)))⟩
                  · intro hp
                    have s8 := hA 8 (by rfl)
                    simp [sl] at s8
                    clear hp
                    refine wpOp_of_list rfl rfl ?_
                    go_wp2_with (first | (go_at_call 9; refine (CanShare_any _ _ _ _ _ _ _).mono ?_; rintro e w1 ⟨rfl, hb1⟩))
                    exact ⟨_, rfl, rfl, (by repeat (first | exact kE | exact Ext.refl _ | apply Ext.alloc | apply Ext.drewN | apply Ext.drew | apply Ext.set0 | apply Ext.set1 | apply Ext.set2 | apply Ext.set3 | (refine Ext.setk ?_ (by omega) _) | (apply Ext.snoc; assumption)))⟩
                  · intro hp
                    have s138 := hp 14 (by rfl)
                    change a.tmps.getD 138 undef = _ at s138
                    simp at s138
                    have s139 := hp 15 (by rfl)
                    change a.tmps.getD 139 undef = _ at s139
                    simp at s139
                    clear hp
                    refine wpOp_of_list rfl rfl ?_
                    go_wp2_with (first | (go_at_call 9; refine (CanShare_any _ _ _ _ _ _ _).mono ?_; rintro e w1 ⟨rfl, hb1⟩))
                    exact ⟨_, rfl, rfl, (by repeat (first | exact kE | exact Ext.refl _ | apply Ext.alloc | apply Ext.drewN | apply Ext.drew | apply Ext.set0 | apply Ext.set1 | apply Ext.set2 | apply Ext.set3 | (refine Ext.setk ?_ (by omega) _) | (apply Ext.snoc; assumption)))⟩
                  · intro hp
                    have s140 := hp 16 (by rfl)
                    change a.tmps.getD 140 undef = _ at s140
                    simp at s140
                    clear hp
                    refine wpOp_of_list rfl rfl ?_
                    go_wp2_with (first | (go_at_call 9; refine (CanShare_any _ _ _ _ _ _ _).mono ?_; rintro e w1 ⟨rfl, hb1⟩))
                    exact ⟨_, rfl, rfl, (by repeat (first | exact kE | exact Ext.refl _ | apply Ext.alloc | apply Ext.drewN | apply Ext.drew | apply Ext.set0 | apply Ext.set1 | apply Ext.set2 | apply Ext.set3 | (refine Ext.setk ?_ (by omega) _) | (apply Ext.snoc; assumption)))⟩
                  · intro hp
                    have s141 := hp 17 (by rfl)
                    change a.tmps.getD 141 undef = _ at s141
                    simp at s141
                    clear hp
                    refine wpOp_of_list rfl rfl ?_
                    go_wp2_with (first | (go_at_call 9; refine (CanShare_any _ _ _ _ _ _ _).mono ?_; rintro e w1 ⟨rfl, hb1⟩))
                    exact ⟨_, rfl, rfl, (by repeat (first | exact kE | exact Ext.refl _ | apply Ext.alloc | apply Ext.drewN | apply Ext.drew | apply Ext.set0 | apply Ext.set1 | apply Ext.set2 | apply Ext.set3 | (refine Ext.setk ?_ (by omega) _) | (apply Ext.snoc; assumption)))⟩
                  · intro hp
                    have s137 := hp 13 (by rfl)
                    change a.tmps.getD 137 undef = _ at s137
                    simp at s137
                    have s142 := hp 18 (by rfl)
                    change a.tmps.getD 142 undef = _ at s142
                    simp at s142
                    clear hp
                    refine wpOp_of_list rfl rfl ?_
                    go_wp2_with (first | (go_at_call 9; refine (CanShare_any _ _ _ _ _ _ _).mono ?_; rintro e w1 ⟨rfl, hb1⟩))
                    exact ⟨_, rfl, rfl, (by repeat (first | exact kE | exact Ext.refl _ | apply Ext.alloc | apply Ext.drewN | apply Ext.drew | apply Ext.set0 | apply Ext.set1 | apply Ext.set2 | apply Ext.set3 | (refine Ext.setk ?_ (by omega) _) | (apply Ext.snoc; assumption)))⟩
                  · intro hp
                    have s143 := hp 19 (by rfl)
                    change a.tmps.getD 143 undef = _ at s143
                    simp at s143
                    clear hp
                    refine wpOp_of_list rfl rfl ?_
                    go_wp2_with (first | (go_at_call 9; refine (CanShare_any _ _ _ _ _ _ _).mono ?_; rintro e w1 ⟨rfl, hb1⟩))
                    exact ⟨_, rfl, rfl, (by repeat (first | exact kE | exact Ext.refl _ | apply Ext.alloc | apply Ext.drewN | apply Ext.drew | apply Ext.set0 | apply Ext.set1 | apply Ext.set2 | apply Ext.set3 | (refine Ext.setk ?_ (by omega) _) | (apply Ext.snoc; assumption)))⟩
                  · intro hp
                    have sg := hp 20 (by rfl)
                    exact wpOp_skipR rfl (wanted_no rfl (yielded_at rfl sg) rfl) rfl
                  · intro hp
                    have sg := hp 20 (by rfl)
                    exact wpOp_skipR rfl (wanted_no rfl (yielded_at rfl sg) rfl) rfl
                  · intro hp
                    have sg := hp 20 (by rfl)
                    exact wpOp_skipR rfl (wanted_no rfl (yielded_at rfl sg) rfl) rfl
                  · intro hp
                    have sg := hp 20 (by rfl)
                    exact wpOp_skipR rfl (wanted_no rfl (yielded_at rfl sg) rfl) rfl
                  · intro hp
                    have sg := hp 20 (by rfl)
                    exact wpOp_skipR rfl (wanted_no rfl (yielded_at rfl sg) rfl) rfl
                  · intro hp
                    have sg := hp 20 (by rfl)
                    exact wpOp_skipR rfl (wanted_no rfl (yielded_at rfl sg) rfl) rfl
                  · intro hp
                    have sg := hp 20 (by rfl)
                    exact wpOp_skipR rfl (wanted_no rfl (yielded_at rfl sg) rfl) rfl
                  · intro hp
                    have sg := hp 20 (by rfl)
                    exact wpOp_skipR rfl (wanted_no rfl (yielded_at rfl sg) rfl) rfl
                  · intro hp
                    have sg := hp 20 (by rfl)
                    exact wpOp_skipR rfl (wanted_no rfl (yielded_at rfl sg) rfl) rfl
                  · intro hp
                    have sg := hp 20 (by rfl)
                    exact wpOp_skipR rfl (wanted_no rfl (yielded_at rfl sg) rfl) rfl
                  · intro hp
                    have sg := hp 20 (by rfl)
                    exact wpOp_skipR rfl (wanted_no rfl (yielded_at rfl sg) rfl) rfl
                  · intro hp
                    have s144 := hp 20 (by rfl)
                    change a.tmps.getD 144 undef = _ at s144
                    simp at s144
                    have s155 := hp 31 (by rfl)
                    change a.tmps.getD 155 undef = _ at s155
                    simp at s155
                    clear hp
                    refine wpOp_of_list rfl rfl ?_
                    go_wp2_with (first | (go_at_call 9; refine (CanShare_any _ _ _ _ _ _ _).mono ?_; rintro e w1 ⟨rfl, hb1⟩))
                    exact ⟨_, rfl, rfl, (by repeat (first | exact kE | exact Ext.refl _ | apply Ext.alloc | apply Ext.drewN | apply Ext.drew | apply Ext.set0 | apply Ext.set1 | apply Ext.set2 | apply Ext.set3 | (refine Ext.setk ?_ (by omega) _) | (apply Ext.snoc; assumption)))⟩
                  · intro hp
                    have s156 := hp 32 (by rfl)
                    change a.tmps.getD 156 undef = _ at s156
                    simp at s156
                    clear hp
                    refine wpOp_of_list rfl rfl ?_
                    go_wp2_with (first | (go_at_call 9; refine (CanShare_any _ _ _ _ _ _ _).mono ?_; rintro e w1 ⟨rfl, hb1⟩))
                    exact ⟨_, rfl, rfl, (by repeat (first | exact kE | exact Ext.refl _ | apply Ext.alloc | apply Ext.drewN | apply Ext.drew | apply Ext.set0 | apply Ext.set1 | apply Ext.set2 | apply Ext.set3 | (refine Ext.setk ?_ (by omega) _) | (apply Ext.snoc; assumption)))⟩
                  · intro hp
                    have sg := hp 33 (by rfl)
                    exact wpOp_skipR rfl (wanted_no rfl (yielded_at rfl sg) rfl) rfl
                  · intro hp
                    have sg := hp 33 (by rfl)
                    exact wpOp_skipR rfl (wanted_no rfl (yielded_at rfl sg) rfl) rfl
                  · intro hp
                    have sg := hp 33 (by rfl)
                    exact wpOp_skipR rfl (wanted_no rfl (yielded_at rfl sg) rfl) rfl
                  · intro hp
                    have sg := hp 33 (by rfl)
                    exact wpOp_skipR rfl (wanted_no rfl (yielded_at rfl sg) rfl) rfl
                  · intro hp
                    have sg := hp 33 (by rfl)
                    exact wpOp_skipR rfl (wanted_no rfl (yielded_at rfl sg) rfl) rfl
                  · intro hp
                    have sg := hp 33 (by rfl)
                    exact wpOp_skipR rfl (wanted_no rfl (yielded_at rfl sg) rfl) rfl
                  · intro hp
                    have sg := hp 33 (by rfl)
                    exact wpOp_skipR rfl (wanted_no rfl (yielded_at rfl sg) rfl) rfl
                  · intro hp
                    have sg := hp 33 (by rfl)
                    exact wpOp_skipR rfl (wanted_no rfl (yielded_at rfl sg) rfl) rfl
                  · intro hp
                    have sg := hp 33 (by rfl)
                    exact wpOp_skipR rfl (wanted_no rfl (yielded_at rfl sg) rfl) rfl
                  · intro hp
                    have sg := hp 33 (by rfl)
                    exact wpOp_skipR rfl (wanted_no rfl (yielded_at rfl sg) rfl) rfl
                  · intro hp
                    have sg := hp 33 (by rfl)
                    exact wpOp_skipR rfl (wanted_no rfl (yielded_at rfl sg) rfl) rfl
                  · intro hp
                    have sg := hp 33 (by rfl)
                    exact wpOp_skipR rfl (wanted_no rfl (yielded_at rfl sg) rfl) rfl
                  · intro hp
                    have s157 := hp 33 (by rfl)
                    change a.tmps.getD 157 undef = _ at s157
                    simp at s157
                    have s169 := hp 45 (by rfl)
                    change a.tmps.getD 169 undef = _ at s169
                    simp at s169
                    clear hp
                    refine wpOp_of_list rfl rfl ?_
                    go_wp2_with (first | (go_at_call 9; refine (CanShare_any _ _ _ _ _ _ _).mono ?_; rintro e w1 ⟨rfl, hb1⟩))
                    exact ⟨_, rfl, rfl, (by repeat (first | exact kE | exact Ext.refl _ | apply Ext.alloc | apply Ext.drewN | apply Ext.drew | apply Ext.set0 | apply Ext.set1 | apply Ext.set2 | apply Ext.set3 | (refine Ext.setk ?_ (by omega) _) | (apply Ext.snoc; assumption)))⟩
                  · intro hp
                    have s132 := hp 8 (by rfl)
                    change a.tmps.getD 132 undef = _ at s132
                    simp at s132
                    have s170 := hp 46 (by rfl)
                    change a.tmps.getD 170 undef = _ at s170
                    simp at s170
                    clear hp
                    refine wpOp_of_list rfl rfl ?_
                    go_wp2_with (first | (go_at_call 9; refine (CanShare_any _ _ _ _ _ _ _).mono ?_; rintro e w1 ⟨rfl, hb1⟩))
                    exact ⟨_, rfl, rfl, (by repeat (first | exact kE | exact Ext.refl _ | apply Ext.alloc | apply Ext.drewN | apply Ext.drew | apply Ext.set0 | apply Ext.set1 | apply Ext.set2 | apply Ext.set3 | (refine Ext.setk ?_ (by omega) _) | (apply Ext.snoc; assumption)))⟩
                case QDfin =>
                  intro X w' hE hp
                  obtain ⟨⟨⟨⟨⟨⟨⟨⟨⟨⟨⟨⟨⟨⟨⟨⟨⟨⟨⟨⟨⟨⟨⟨⟨⟨⟨⟨⟨⟨⟨⟨⟨⟨⟨⟨⟨⟨⟨⟨⟨⟨⟨⟨⟨⟨⟨⟨⟨_, h0⟩, h1⟩, h2⟩, h3⟩, h4⟩, h5⟩, h6⟩, h7⟩, h8⟩, h9⟩, h10⟩, h11⟩, h12⟩, h13⟩, h14⟩, h15⟩, h16⟩, h17⟩, h18⟩, h19⟩, h20⟩, h21⟩, h22⟩, h23⟩, h24⟩, h25⟩, h26⟩, h27⟩, h28⟩, h29⟩, h30⟩, h31⟩, h32⟩, h33⟩, h34⟩, h35⟩, h36⟩, h37⟩, h38⟩, h39⟩, h40⟩, h41⟩, h42⟩, h43⟩, h44⟩, h45⟩, h46⟩, h47⟩ := hp
                  change X 0 = _ at h0
                  change X 1 = _ at h1
                  change X 2 = _ at h2
                  change X 3 = _ at h3
                  change X 4 = _ at h4
                  change X 5 = _ at h5
                  change X 6 = _ at h6
                  change X 7 = _ at h7
                  change X 8 = _ at h8
                  change X 9 = _ at h9
                  change X 10 = _ at h10
                  change X 11 = _ at h11
                  change X 12 = _ at h12
                  change X 13 = _ at h13
                  change X 14 = _ at h14
                  change X 15 = _ at h15
                  change X 16 = _ at h16
                  change X 17 = _ at h17
                  change X 18 = _ at h18
                  change X 19 = _ at h19
                  change X 20 = _ at h20
                  change X 21 = _ at h21
                  change X 22 = _ at h22
                  change X 23 = _ at h23
                  change X 24 = _ at h24
                  change X 25 = _ at h25
                  change X 26 = _ at h26
                  change X 27 = _ at h27
                  change X 28 = _ at h28
                  change X 29 = _ at h29
                  change X 30 = _ at h30
                  change X 31 = _ at h31
                  change X 32 = _ at h32
                  change X 33 = _ at h33
                  change X 34 = _ at h34
                  change X 35 = _ at h35
                  change X 36 = _ at h36
                  change X 37 = _ at h37
                  change X 38 = _ at h38
                  change X 39 = _ at h39
                  change X 40 = _ at h40
                  change X 41 = _ at h41
                  change X 42 = _ at h42
                  change X 43 = _ at h43
                  change X 44 = _ at h44
                  change X 45 = _ at h45
                  change X 46 = _ at h46
                  change X 47 = _ at h47
                  simp only [List.drop_succ_cons, List.drop_nil]
                  refine wpList_nil ?_
                  go_simp
                  clear h0 h1 h2 h3 h4 h5 h6 h7 h8 h9 h10 h11 h12 h13 h14 h15 h16 h17 h18 h19 h20 h21 h22 h23 h24 h25 h26 h27 h28 h29 h30 h31 h32 h33 h34 h35 h36 h37 h38 h39 h40 h41 h42 h43 h44 h45 h46 h47
                  repeat (first | go_values | go_skip | go_guarded | go_step | go_upon)
                  go_roundw
                  case rel => exact ⟨q + 1, by omega, by go_num, by have kE := (HEi.out).trans hE; exact kE⟩
                  case measure => simp [intOf]; omega
            · obtain rfl : q = j + 1 := by omega
              go_wp2_with fail
              go_roundw
              case rel => exact ⟨j + 2, by omega, by go_num, by rw [sum_take_room (by omega), hsm, hx0], HEi.out⟩
              case measure => simp [intOf]; omega
      · obtain rfl : k = L.length := by omega
        obtain ⟨sm, hsm⟩ : ∃ q, ((L.take L.length).map (·.2.2)).sum = q := ⟨_, rfl⟩
        have hs := sum_rooms HL.out L.length (by omega)
        have k6 := K6.out
        rw [← List.take_length (l := L), hsm] at k6
        rw [hsm] at hs ⊢
        clear hsm
        have E0 := hide ((HEr.out).alloc (.cells #[] 30))
        have ho0 : (wr.alloc (.cells #[] 30)).ownsRow wr.heap.size 30 3 (.slice (some ⟨wr.heap.size, 0, none⟩) 0 0) 0 [] := World.ownsRow_lit (base := wr.heap.size) (e := 30) (size := 3) wr #[] 0 (Nat.le_refl _) (Nat.zero_le _) rfl
        have HO0 := hide ho0
        clear ho0
        have g0 : decide (sm ≤ 100 * n) = true := decide_eq_true k6
        go_wp2_with (at_builtin; refine wpList_append_own _ rfl _ _ 24 rfl wr.heap.size 30 i0 (.agg #[.int .i64 0, .int .i64 0, .int .i64 0]) 3 24 Try.underlying24 hi hz0 hz1 hz2 rfl (by decide) (.slice (some ⟨wr.heap.size, 0, none⟩) 0 0) 0 [] rfl HO0.out ⟨gr, 0, none⟩ L.length cr (enc3 L) rfl (enc3_length L) (news_rds (Rds.of_own (own_ext HOr.out ((Ext.refl _).alloc _)))) (enc3_one _) (by unfold maxLen; omega) (by omega) (by first | (simp; done) | (simp; omega)) ?_; intro v5 w5 hown5 hgrow5 hnil5)
        have E5 := hide (Ext.grown E0.out hgrow5 (fun k e => Nat.le_trans (HEr.out).size (own_base HO0.out (Nat.le_refl _) k e)))
        have ho5 : w5.ownsRow wr.heap.size 30 3 v5 L.length (enc3 L) := by simpa using hown5
        have HO5 := hide ho5
        have hsz5 : wr.heap.size ≤ w5.heap.size := by have := hgrow5.size; simp at this; omega
        clear hown5 hgrow5 hnil5 ho5
        go_wp2_with fail
        refine (at_any l A cc 0 _ hm (by omega) (HR.out.ext (kE.out.trans E5.out))).mono ?_; rintro e w' ⟨q0, rfl, hq0, hq0', rfl⟩
        have m0 : 0 ≤ q0 % 100 := Int.emod_nonneg _ (by omega)
        have m0' : q0 % 100 < 100 := Int.emod_lt_of_pos _ (by omega)
        go_wp2_with (at_builtin; refine wpList_append_own _ rfl _ _ 24 rfl wr.heap.size 30 i0 (.agg #[.int .i64 0, .int .i64 0, .int .i64 0]) 3 24 Try.underlying24 hi hz0 hz1 hz2 rfl (by decide) v5 L.length (enc3 L) rfl (own_ext HO5.out ((Ext.refl _).alloc _)) ⟨w5.heap.size, 0, none⟩ 1 1 [.int .i64 600, .int .i64 4, .int .i64 (1 + q0 % 100)] rfl rfl (news_new w5 #[.int .i64 600, .int .i64 4, .int .i64 (1 + q0 % 100)] 30) (enc3_one [(600, 4, 1 + q0 % 100)]) (by unfold maxLen; omega) (by omega) (by first | (simp; done) | (simp; omega)) ?_; intro v6 w6 hown6 hgrow6 hnil6)
        have E6 := hide (Ext.grown (E5.out.alloc _) hgrow6 (own_base HO5.out (HEr.out).size))
        obtain ⟨X, hX⟩ : ∃ X, X = L ++ [((600 : Int), (4 : Int), 1 + q0 % 100)] := ⟨_, rfl⟩
        have hXl0 : X.length = L.length + 1 := by rw [hX]; simp
        have HXL := hide hXl0
        have hXg : ∀ hlt : L.length < X.length, X[L.length]'hlt = (600, 4, 1 + q0 % 100) := fun _ => by simp [hX]
        have ho6 : w6.ownsRow wr.heap.size 30 3 v6 X.length (enc3 X) := by rw [hXl0, hX, enc3_append]; exact hown6
        have HO6 := hide ho6
        have hXb : firingsB X = true := by rw [hX]; exact firings_more (by omega) HL.out ⟨rfl, rfl⟩ ⟨by dsimp only; omega, by dsimp only; omega⟩
        have KM := kilns_more HOK.out (hX ▸ hXb) rfl
        rw [← hX, hn, hh] at KM
        clear hX
        obtain ⟨m, hm2⟩ : ∃ q, fewV costOne X = q := ⟨_, rfl⟩
        obtain ⟨h', hh2⟩ : ∃ q, fewV costHours X = q := ⟨_, rfl⟩
        rw [hm2, hh2] at KM
        obtain ⟨n1, n2, n3, n4⟩ := KM
        have hX10 : X.length ≤ 1048576 := by omega
        have g5 : (L.length : Int) < (X.length : Int) := by omega
        clear hown6 hgrow6 hnil6 ho6 hXb hXl0
        obtain ⟨Av, cv, hv, _, _, _⟩ := own_slice HO6.out
        subst hv
        go_wp2_with fail
        refine (FewestFirings_any X _ _ _ hX10 (Rds.of_own HO6.out)).mono ?_; rintro e w7 ⟨rfl, hb7⟩
        have HO7 := hide (own_ext HO6.out hb7)
        have E7 := hide (E6.out.trans hb7)
        clear hb7
        rw [hm2]
        have g1 : decide (n ≤ m) = true := decide_eq_true n1
        have g2 : decide (m ≤ n + 1) = true := decide_eq_true n2
        have g3 : decide (h ≤ h') = true := decide_eq_true n3
        have g4 : decide (h' ≤ h + 4) = true := decide_eq_true n4
        dsimp only
        repeat (first | go_values | go_skip | go_guarded | go_step | go_upon)
        refine (HoursOf_any X _ _ _ hX10 (Rds.of_own HO7.out)).mono ?_; rintro e w8 ⟨rfl, hb8⟩
        have HO8 := hide (own_ext HO7.out hb8)
        have E8 := hide (E7.out.trans hb8)
        clear hb8
        rw [hh2]
        dsimp only
        repeat (first | go_values | go_skip | go_guarded | go_step | go_upon)
        refine (HoursOf_any X _ _ _ hX10 (Rds.of_own HO8.out)).mono ?_; rintro e w9 ⟨rfl, hb9⟩
        have HO9 := hide (own_ext HO8.out hb9)
        have E9 := hide (E8.out.trans hb9)
        clear hb9
        rw [hh2]
        obtain ⟨b1, o1, hA1, hb1, d0, d1, d2⟩ := R3.at_ (Rds.of_own HO9.out) (show L.length < X.length by have := HXL.out; omega)
        rw [hXg] at d0 d1 d2
        subst hA1
        dsimp only
        repeat (first | go_values | go_skip | go_guarded | go_step | go_upon)
        refine (FiringOk_any _ _ _ _).mono ?_; rintro e wA ⟨rfl, hbA⟩
        have hok : firingOk 600 4 (1 + q0 % 100) = true := by
          simp only [firingOk, inR, Bool.and_eq_true, decide_eq_true_eq]
          omega
        rw [hok]
        have EA := hide (E9.out.trans hbA)
        clear hbA
        dsimp only
        repeat (first | go_values | go_skip | go_guarded | go_step | go_upon)
        go_ret
        exact ⟨rfl, kE.out.trans EA.out⟩
end Go.Proofs.Ytndbbdbnimmcoaa
