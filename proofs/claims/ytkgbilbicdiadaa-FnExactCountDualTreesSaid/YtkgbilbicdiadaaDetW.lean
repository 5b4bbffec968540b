/- The walks of the determinant of a small table (both forms): elimination without rests. No condition but that the table is a graph's. -/
import Derived.Test.YtkgbilbicdiadaaDetP
import Derived.Test.YtkgbilbicdiadaaQuietT
set_option linter.unusedSimpArgs false
set_option linter.unusedVariables false
namespace Go.Proofs.Ytkgbilbicdiadaa
open Go.RowKit

theorem elimP_ekk {n k : Nat} {last : Int} {g : Nat → Nat → Int} : elimD n k last g k k = g k k := by
  unfold elimD
  rw [if_neg (by omega)]
theorem below_of {w w1 w2 : World} {B : Nat} (h : Below B w w1) (hE : Ext w1 w2) (hB : B ≤ w1.heap.size) : Below B w w2 := Below.trans h (Below.mono hE hB)

set_option maxRecDepth 20000 in
set_option maxHeartbeats 4000000 in
theorem l16Det_any (n hd c B : Nat) (f : Nat → Nat → Int) (w : World) (hn : n ≤ 40) (hc : n ≤ c) (hs : Sml n f) (hM : Mat w B hd n n n 29 3 f) :
    Calls Try.prog 105 #[.slice (some ⟨hd, 0, none⟩) n c] w fun e w' => e = .returned (.int .i64 (detD n f)) ∧ Below B w w' := by
  have HM0 := hide hM
  have HS := hide hs
  obtain ⟨D, hD⟩ : ∃ D, detD n f = D := ⟨_, rfl⟩
  have HST := hide (fun k (hk : k < n) (h : (stD n f k).1 k k = 0) => hD.symm.trans (det_stop hk h))
  have HEN := hide (fun (h : detTo n f n ≠ 0) => (show D = (stD n f n).2 from by rw [detTo_last h, ← hD]; rfl))
  have hhd := hM.lt
  rw [hD]
  clear hM hs hD
  
  go_enter Try.func105, Try.ntmps105
  go_wp2_with fail
  go_loopw [3, 4] (fun ls i wr => ∃ k : Nat, k ≤ n ∧ i = .int .i64 k ∧ ls = .int .i64 (stD n f k).2 ∧ Hid (StD n f k) ∧ Hid (detTo n f k ≠ 0) ∧ Hid (Mat wr B hd n n n 29 3 (stD n f k).1) ∧ Hid (Below B w wr)) (fun _ i _ => n - (intOf i).toNat)
  case atStart => exact ⟨0, Nat.zero_le _, rfl, rfl, hide (StD.start HS.out.dom), hide (show (1 : Int) ≠ 0 by decide), HM0, hide (Below.refl _ _)⟩
  case round =>
    obtain ⟨k, hk, rfl, rfl, HK, HD0, HM, HB⟩ := hrel
    by_cases hlt : k < n
    · have hlz : (k : Int) < (n : Int) := by omega
      have HLS := hide (HS.out.last hk HK.out)
      have HEB := hide (fun i j h1 h2 h3 h4 => HS.out.entry (i := i) (j := j) hk HK.out h1 h2 h3 h4)
      have HNX := hide (fun h => HK.out.next (fun i hi => (HS.out.diag hi).1) hlt h)
      have HGO := hide (fun h => det_go (n := n) (f := f) (k := k) h HD0.out)
      have HSTK := hide (HST.out k hlt)
      have HZC := hide (fun h => HK.out.dom.zero hlt h)
      have HN1 := hide (show (stD n f (k + 1)).2 = (stD n f k).1 k k from rfl)
      have HN2 := hide (show (stD n f (k + 1)).1 = elimD n k (stD n f k).2 (stD n f k).1 from rfl)
      obtain ⟨g, hg⟩ : ∃ g, (stD n f k).1 = g := ⟨_, rfl⟩
      obtain ⟨l, hl⟩ : ∃ l, (stD n f k).2 = l := ⟨_, rfl⟩
      rw [hg] at HM HEB HNX HGO HSTK HZC HN1 HN2
      rw [hl] at HLS HN2 ⊢
      clear hg hl
      obtain ⟨g0, p1, p2, _⟩ := HM.out.at_ hlt hlt
      obtain ⟨wo, rfl⟩ : ∃ wo : World, wo = wr := ⟨_, rfl⟩
      by_cases hp : g k k = 0
      · have HV := hide (HSTK.out hp)
        rw [hp] at p2
        clear hp
        go_wp2_with fail
        go_ret
        exact ⟨ret_int HV.out.symm, HB.out⟩
      · have HNX2 := hide (HNX.out hp)
        have HGO2 := hide (HGO.out hp)
        have hp2 : (g k k == 0) = false := by simp [hp]
        have HP := hide hp
        clear hp
        go_wp2_with fail
        clear p1 p2 hp2
        have HSTP := hide (elimP_start n k l g)
        go_loopw [5] (fun i wi => ∃ a : Nat, k + 1 ≤ a ∧ a ≤ n ∧ i = .int .i64 a ∧ Hid (Mat wi B hd n n n 29 3 (elimP n k l g a (k + 1))) ∧ Hid (Below B w wi)) (fun i _ => n - (intOf i).toNat)
        case atStart => exact ⟨k + 1, Nat.le_refl _, by omega, rfl, hide (by rw [HSTP.out]; exact HM.out), HB⟩
        case round =>
          clear HM HB
          obtain ⟨a, ha1, ha2, rfl, HM, HB⟩ := hrel
          by_cases hal : a < n
          · have haz : (a : Int) < (n : Int) := by omega
            go_wp2_with fail
            go_loopw [6] (fun i wi => ∃ b : Nat, k + 1 ≤ b ∧ b ≤ n ∧ i = .int .i64 b ∧ Hid (Mat wi B hd n n n 29 3 (elimP n k l g a b)) ∧ Hid (Below B w wi)) (fun i _ => n - (intOf i).toNat)
            case atStart => exact ⟨k + 1, Nat.le_refl _, by omega, rfl, HM, HB⟩
            case round =>
              clear HM HB
              obtain ⟨b, hb1, hb2, rfl, HM, HB⟩ := hrel
              by_cases hbl : b < n
              · have hbz : (b : Int) < (n : Int) := by omega
                obtain ⟨e1, e2, e3, e4⟩ := elimP_at (n := n) (last := l) (g := g) (i0 := a) (j0 := b) (show k < a by omega) (show k < b by omega)
                have hnext := elimP_next (last := l) (g := g) (show k < a by omega) hal (show k < b by omega) hbl
                obtain ⟨z1, z2, z3, z4⟩ := step_small (HEB.out a b (by omega) hal (by omega) hbl) (HEB.out k k (Nat.le_refl _) hlt (Nat.le_refl _) hlt) (HEB.out a k (by omega) hal (Nat.le_refl _) hlt) (HEB.out k b (Nat.le_refl _) hlt (by omega) hbl) HLS.out.1
                have hl0 : l ≠ 0 := by have := HLS.out.1; omega
                obtain ⟨g1, a1, a2, _, a4, a5, _⟩ := HM.out.at_ hal hbl
                have HA1 := hide a1
                have HHW := hide HM.out.lt
                obtain ⟨g2, b1, b2, _, _, b5, _⟩ := HM.out.at_ hlt hlt
                obtain ⟨g3, c1, c2, _⟩ := HM.out.at_ hal hlt
                obtain ⟨g4, d1, d2, _⟩ := HM.out.at_ hlt hbl
                have e13 : g3 = g1 := by
                  rw [a1] at c1
                  injection c1 with c1
                  injection c1 with c1
                  injection c1 with c1
                  injection c1 with c1
                  exact c1.symm
                have e24 : g4 = g2 := by
                  rw [b1] at d1
                  injection d1 with d1
                  injection d1 with d1
                  injection d1 with d1
                  injection d1 with d1
                  exact d1.symm
                subst e13 e24
                rw [e1] at a2
                rw [e2] at b2
                rw [e3] at c2
                rw [e4] at d2
                clear e1 e2 e3 e4 c1 d1
                have hhw := HM.out.lt.2
                have k1 := ExtBy.cell (W := wr) hhw a1
                have k2 := ExtBy.cell (W := wr) hhw b1
                have k3 := ExtBy.cell (W := wr) a5 a2
                have k4 := ExtBy.cell (W := wr) b5 b2
                have k5 := ExtBy.cell (W := wr) a5 c2
                have k6 := ExtBy.cell (W := wr) b5 d2
                obtain ⟨A1, hA1⟩ : ∃ A1, g a b = A1 := ⟨_, rfl⟩
                obtain ⟨A2, hA2⟩ : ∃ A2, g k k = A2 := ⟨_, rfl⟩
                obtain ⟨A3, hA3⟩ : ∃ A3, g a k = A3 := ⟨_, rfl⟩
                obtain ⟨A4, hA4⟩ : ∃ A4, g k b = A4 := ⟨_, rfl⟩
                rw [hA1] at z1 z3 z4 hnext k3
                rw [hA2] at z1 z3 z4 hnext k4
                rw [hA3] at z2 z3 z4 hnext k5
                rw [hA4] at z2 z3 z4 hnext k6
                have HNE := hide hnext
                clear hnext hA1 hA2 hA3 hA4 a1 a2 b1 b2 c2 d2
                go_wp2_with fail
                refine wp_region_tailE 39 (by kernel_rfl) (by kernel_rfl) ?_; simp only [List.take_succ_cons, List.take_zero, List.drop_succ_cons, List.drop_zero]; (repeat (refine WQ.step (fun K hK => ?_); have HK := hide hK; clear hK; go_simp; refine HK.out _ ?_; clear HK K)); refine WQ.done ?_; intro w6 hw'; obtain ⟨⟨_, hw6⟩, hw''⟩ := hw'; subst hw''
                have HM6 := hide (HM.out.ext hw6)
                have HB6 := hide (below_of HB.out hw6 (by omega))
                clear k1 k2 k3 k4 k5 k6
                obtain ⟨g9, f1, f2, f3, f4, f5, f6⟩ := HM6.out.at_ hal hbl
                have e9 : g3 = g9 := by
                  have e := (Ext.facts hw6).1 hd a HHW.out.2
                  rw [f1, HA1.out] at e
                  injection e with e
                  injection e with e
                  injection e with e
                  injection e with e
                  exact e.symm
                subst e9
                have HM7 := hide (HNE.out ▸ f6 ((A1 * A2 - A3 * A4).tdiv l))
                have HB7 := hide (Below.setCell HB6.out (p := ⟨g3, b, none⟩) f4 (.int .i64 ((A1 * A2 - A3 * A4).tdiv l)))
                clear HA1 HHW f1 f6 f4 HNE HM6 HB6
                go_wp2_with fail
                clear f2 f3 f5 z1 z2 z3 z4
                go_roundw
                case rel => exact ⟨b + 1, by omega, by omega, by go_num, by first | exact HM7 | exact hide HM7.out, by first | exact HB7 | exact hide HB7.out⟩
                case measure => simp [intOf]; omega
              · obtain rfl : b = n := by omega
                have HM8 := hide (HM.out.congr fun i j _ hj => elimP_row (last := l) (g := g) (k := k) (i0 := a) i j hj)
                go_wp2_with fail
                go_roundw
                case rel => exact ⟨a + 1, by omega, by omega, by go_num, by first | exact HM8 | exact hide HM8.out, by first | exact HB | exact hide HB.out⟩
                case measure => simp [intOf]; omega
          · obtain rfl : a = n := by omega
            have HM8 := hide (HM.out.congr fun i j hi _ => elimP_end (last := l) (g := g) (k := k) i j hi)
            have HM9 := hide (show Mat _ B hd a a a 29 3 (stD a f (k + 1)).1 from HN2.out ▸ HM8.out)
            obtain ⟨g1, q1, q2, _⟩ := HM8.out.at_ hlt hlt
            rw [elimP_ekk] at q2
            go_wp2_with fail
            clear q1 q2
            go_roundw
            case rel => exact ⟨k + 1, by omega, by go_num, by first | exact congrArg _ HN1.out.symm | (rw [HN1.out]), by first | exact HNX2 | exact hide HNX2.out, by first | exact HGO2 | exact hide HGO2.out, by first | exact HM9 | exact hide HM9.out, by first | exact HB | exact hide HB.out⟩
            case measure => simp [intOf]; omega
    · obtain rfl : k = n := by omega
      have HR := hide (HEN.out HD0.out)
      skip
      go_wp2_with fail
      go_ret
      exact ⟨ret_int HR.out.symm, HB.out⟩
set_option maxRecDepth 20000 in
set_option maxHeartbeats 4000000 in
theorem determinant_any (n hd c B : Nat) (f : Nat → Nat → Int) (w : World) (hn : n ≤ 40) (hc : n ≤ c) (hs : Sml n f) (hM : Mat w B hd n n n 29 3 f) :
    Calls Try.prog 84 #[.slice (some ⟨hd, 0, none⟩) n c] w fun e w' => e = .returned (.int .i64 (detD n f)) ∧ Below B w w' := by
  have HM0 := hide hM
  have HS := hide hs
  obtain ⟨D, hD⟩ : ∃ D, detD n f = D := ⟨_, rfl⟩
  have HST := hide (fun k (hk : k < n) (h : (stD n f k).1 k k = 0) => hD.symm.trans (det_stop hk h))
  have HEN := hide (fun (h : detTo n f n ≠ 0) => (show D = (stD n f n).2 from by rw [detTo_last h, ← hD]; rfl))
  have hhd := hM.lt
  rw [hD]
  clear hM hs hD
  
  go_enter Try.func84, Try.ntmps84
  go_wp2_with fail
  go_loopw [3, 4, 11] (fun sg ls i wr => ∃ k : Nat, k ≤ n ∧ sg = .int .i64 1 ∧ i = .int .i64 k ∧ ls = .int .i64 (stD n f k).2 ∧ Hid (StD n f k) ∧ Hid (detTo n f k ≠ 0) ∧ Hid (Mat wr B hd n n n 29 3 (stD n f k).1) ∧ Hid (Below B w wr)) (fun _ _ i _ => n - (intOf i).toNat)
  case atStart => exact ⟨0, Nat.zero_le _, rfl, rfl, rfl, hide (StD.start HS.out.dom), hide (show (1 : Int) ≠ 0 by decide), HM0, hide (Below.refl _ _)⟩
  case round =>
    obtain ⟨k, hk, rfl, rfl, rfl, HK, HD0, HM, HB⟩ := hrel
    by_cases hlt : k < n
    · have hlz : (k : Int) < (n : Int) := by omega
      have HLS := hide (HS.out.last hk HK.out)
      have HEB := hide (fun i j h1 h2 h3 h4 => HS.out.entry (i := i) (j := j) hk HK.out h1 h2 h3 h4)
      have HNX := hide (fun h => HK.out.next (fun i hi => (HS.out.diag hi).1) hlt h)
      have HGO := hide (fun h => det_go (n := n) (f := f) (k := k) h HD0.out)
      have HSTK := hide (HST.out k hlt)
      have HZC := hide (fun h => HK.out.dom.zero hlt h)
      have HN1 := hide (show (stD n f (k + 1)).2 = (stD n f k).1 k k from rfl)
      have HN2 := hide (show (stD n f (k + 1)).1 = elimD n k (stD n f k).2 (stD n f k).1 from rfl)
      obtain ⟨g, hg⟩ : ∃ g, (stD n f k).1 = g := ⟨_, rfl⟩
      obtain ⟨l, hl⟩ : ∃ l, (stD n f k).2 = l := ⟨_, rfl⟩
      rw [hg] at HM HEB HNX HGO HSTK HZC HN1 HN2
      rw [hl] at HLS HN2 ⊢
      clear hg hl
      obtain ⟨g0, p1, p2, _⟩ := HM.out.at_ hlt hlt
      obtain ⟨wo, rfl⟩ : ∃ wo : World, wo = wr := ⟨_, rfl⟩
      by_cases hp : g k k = 0
      · have HV := hide (HSTK.out hp)
        have HZ := hide (HZC.out hp)
        clear hp p1 p2
        go_wp2_with fail
        go_loopw [6] (fun i wi => ∃ j : Nat, k ≤ j ∧ j ≤ n ∧ i = .int .i64 j ∧ Hid (wi = wo)) (fun i _ => n - (intOf i).toNat)
        case atStart => exact ⟨k, Nat.le_refl _, hk, rfl, hide rfl⟩
        case round =>
          obtain ⟨j, hj1, hj2, rfl, HW⟩ := hrel
          obtain rfl := HW.out
          by_cases hjl : j < n
          · have hjz : (j : Int) < (n : Int) := by omega
            obtain ⟨g1, q1, q2, _⟩ := HM.out.at_ hjl hlt
            rw [HZ.out j hj1 hjl] at q2
            go_wp2_with fail
            clear q1 q2
            go_roundw
            case rel => exact ⟨j + 1, by omega, by omega, by go_num, by first | exact hide rfl | exact hide trivial⟩
            case measure => simp [intOf]; omega
          · obtain rfl : j = n := by omega
            go_wp2_with fail
            go_ret
            exact ⟨ret_int HV.out.symm, HB.out⟩
      · have HNX2 := hide (HNX.out hp)
        have HGO2 := hide (HGO.out hp)
        have hp2 : (g k k == 0) = false := by simp [hp]
        have HP := hide hp
        clear hp
        go_wp2_with fail
        go_loopw [6] (fun i wi => i = .int .i64 k ∧ Hid (wi = wo)) (fun _ _ => 0)
        case atStart => exact ⟨rfl, hide rfl⟩
        case round =>
          obtain ⟨rfl, HW⟩ := hrel
          obtain rfl := HW.out
          go_wp2_with fail
          clear p1 p2 hp2
          have HSTP := hide (elimP_start n k l g)
          go_loopw [7] (fun i wi => ∃ a : Nat, k + 1 ≤ a ∧ a ≤ n ∧ i = .int .i64 a ∧ Hid (Mat wi B hd n n n 29 3 (elimP n k l g a (k + 1))) ∧ Hid (Below B w wi)) (fun i _ => n - (intOf i).toNat)
          case atStart => exact ⟨k + 1, Nat.le_refl _, by omega, rfl, hide (by rw [HSTP.out]; exact HM.out), HB⟩
          case round =>
            clear HM HB
            obtain ⟨a, ha1, ha2, rfl, HM, HB⟩ := hrel
            by_cases hal : a < n
            · have haz : (a : Int) < (n : Int) := by omega
              go_wp2_with fail
              go_loopw [8] (fun i wi => ∃ b : Nat, k + 1 ≤ b ∧ b ≤ n ∧ i = .int .i64 b ∧ Hid (Mat wi B hd n n n 29 3 (elimP n k l g a b)) ∧ Hid (Below B w wi)) (fun i _ => n - (intOf i).toNat)
              case atStart => exact ⟨k + 1, Nat.le_refl _, by omega, rfl, HM, HB⟩
              case round =>
                clear HM HB
                obtain ⟨b, hb1, hb2, rfl, HM, HB⟩ := hrel
                by_cases hbl : b < n
                · have hbz : (b : Int) < (n : Int) := by omega
                  obtain ⟨e1, e2, e3, e4⟩ := elimP_at (n := n) (last := l) (g := g) (i0 := a) (j0 := b) (show k < a by omega) (show k < b by omega)
                  have hnext := elimP_next (last := l) (g := g) (show k < a by omega) hal (show k < b by omega) hbl
                  obtain ⟨z1, z2, z3, z4⟩ := step_small (HEB.out a b (by omega) hal (by omega) hbl) (HEB.out k k (Nat.le_refl _) hlt (Nat.le_refl _) hlt) (HEB.out a k (by omega) hal (Nat.le_refl _) hlt) (HEB.out k b (Nat.le_refl _) hlt (by omega) hbl) HLS.out.1
                  have hl0 : l ≠ 0 := by have := HLS.out.1; omega
                  obtain ⟨g1, a1, a2, _, a4, a5, _⟩ := HM.out.at_ hal hbl
                  have HA1 := hide a1
                  have HHW := hide HM.out.lt
                  obtain ⟨g2, b1, b2, _, _, b5, _⟩ := HM.out.at_ hlt hlt
                  obtain ⟨g3, c1, c2, _⟩ := HM.out.at_ hal hlt
                  obtain ⟨g4, d1, d2, _⟩ := HM.out.at_ hlt hbl
                  have e13 : g3 = g1 := by
                    rw [a1] at c1
                    injection c1 with c1
                    injection c1 with c1
                    injection c1 with c1
                    injection c1 with c1
                    exact c1.symm
                  have e24 : g4 = g2 := by
                    rw [b1] at d1
                    injection d1 with d1
                    injection d1 with d1
                    injection d1 with d1
                    injection d1 with d1
                    exact d1.symm
                  subst e13 e24
                  rw [e1] at a2
                  rw [e2] at b2
                  rw [e3] at c2
                  rw [e4] at d2
                  clear e1 e2 e3 e4 c1 d1
                  have hhw := HM.out.lt.2
                  have k1 := ExtBy.cell (W := wr) hhw a1
                  have k2 := ExtBy.cell (W := wr) hhw b1
                  have k3 := ExtBy.cell (W := wr) a5 a2
                  have k4 := ExtBy.cell (W := wr) b5 b2
                  have k5 := ExtBy.cell (W := wr) a5 c2
                  have k6 := ExtBy.cell (W := wr) b5 d2
                  obtain ⟨A1, hA1⟩ : ∃ A1, g a b = A1 := ⟨_, rfl⟩
                  obtain ⟨A2, hA2⟩ : ∃ A2, g k k = A2 := ⟨_, rfl⟩
                  obtain ⟨A3, hA3⟩ : ∃ A3, g a k = A3 := ⟨_, rfl⟩
                  obtain ⟨A4, hA4⟩ : ∃ A4, g k b = A4 := ⟨_, rfl⟩
                  rw [hA1] at z1 z3 z4 hnext k3
                  rw [hA2] at z1 z3 z4 hnext k4
                  rw [hA3] at z2 z3 z4 hnext k5
                  rw [hA4] at z2 z3 z4 hnext k6
                  have HNE := hide hnext
                  clear hnext hA1 hA2 hA3 hA4 a1 a2 b1 b2 c2 d2
                  go_wp2_with fail
                  refine wp_region_tailE 39 (by kernel_rfl) (by kernel_rfl) ?_; simp only [List.take_succ_cons, List.take_zero, List.drop_succ_cons, List.drop_zero]; (repeat (refine WQ.step (fun K hK => ?_); have HK := hide hK; clear hK; go_simp; refine HK.out _ ?_; clear HK K)); refine WQ.done ?_; intro w6 hw'; obtain ⟨⟨_, hw6⟩, hw''⟩ := hw'; subst hw''
                  have HM6 := hide (HM.out.ext hw6)
                  have HB6 := hide (below_of HB.out hw6 (by omega))
                  clear k1 k2 k3 k4 k5 k6
                  obtain ⟨g9, f1, f2, f3, f4, f5, f6⟩ := HM6.out.at_ hal hbl
                  have e9 : g3 = g9 := by
                    have e := (Ext.facts hw6).1 hd a HHW.out.2
                    rw [f1, HA1.out] at e
                    injection e with e
                    injection e with e
                    injection e with e
                    injection e with e
                    exact e.symm
                  subst e9
                  have HM7 := hide (HNE.out ▸ f6 ((A1 * A2 - A3 * A4).tdiv l))
                  have HB7 := hide (Below.setCell HB6.out (p := ⟨g3, b, none⟩) f4 (.int .i64 ((A1 * A2 - A3 * A4).tdiv l)))
                  clear HA1 HHW f1 f6 f4 HNE HM6 HB6
                  go_wp2_with fail
                  clear f2 f3 f5 z1 z2 z3 z4
                  go_roundw
                  case rel => exact ⟨b + 1, by omega, by omega, by go_num, by first | exact HM7 | exact hide HM7.out, by first | exact HB7 | exact hide HB7.out⟩
                  case measure => simp [intOf]; omega
                · obtain rfl : b = n := by omega
                  have HM8 := hide (HM.out.congr fun i j _ hj => elimP_row (last := l) (g := g) (k := k) (i0 := a) i j hj)
                  go_wp2_with fail
                  go_roundw
                  case rel => exact ⟨a + 1, by omega, by omega, by go_num, by first | exact HM8 | exact hide HM8.out, by first | exact HB | exact hide HB.out⟩
                  case measure => simp [intOf]; omega
            · obtain rfl : a = n := by omega
              have HM8 := hide (HM.out.congr fun i j hi _ => elimP_end (last := l) (g := g) (k := k) i j hi)
              have HM9 := hide (show Mat _ B hd a a a 29 3 (stD a f (k + 1)).1 from HN2.out ▸ HM8.out)
              obtain ⟨g1, q1, q2, _⟩ := HM8.out.at_ hlt hlt
              rw [elimP_ekk] at q2
              go_wp2_with fail
              clear q1 q2
              go_roundw
              case rel => exact ⟨k + 1, by omega, by first | rfl | go_num, by go_num, by first | exact congrArg _ HN1.out.symm | (rw [HN1.out]), by first | exact HNX2 | exact hide HNX2.out, by first | exact HGO2 | exact hide HGO2.out, by first | exact HM9 | exact hide HM9.out, by first | exact HB | exact hide HB.out⟩
              case measure => simp [intOf]; omega
    · obtain rfl : k = n := by omega
      have HR := hide (HEN.out HD0.out)
      have hw1 := (HS.out.last (Nat.le_refl k) HK.out); obtain ⟨L, hL⟩ : ∃ L, (stD k f k).2 = L := ⟨_, rfl⟩; rw [hL] at hw1 HR; have hwl : IntKind.i64.wrap (1 * L) = L := (by rw [Int.one_mul, IntKind.wrap_i64] <;> omega)
      go_wp2_with fail
      go_ret
      exact ⟨ret_int (by first | exact HR.out.symm | (simp [go_sem, *]; exact HR.out.symm)), HB.out⟩
end Go.Proofs.Ytkgbilbicdiadaa
