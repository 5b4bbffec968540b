/- Walks of BrightestFace (both forms). No condition but that a list has at most 1048576 elements. -/
import Derived.Test.YtabgcpoaepafjaaGreatLightV
set_option linter.unusedSimpArgs false
set_option linter.unusedVariables false
namespace Go.Proofs.YtabgcpoaepafjaaGreat
open Go.RowKit

noncomputable def brightV (N E : List P2) (S : List P3) : Int := if litOk N E S = true then (brightTo N E S S.length).1 else -1
set_option maxRecDepth 20000 in
set_option maxHeartbeats 4000000 in
theorem BrightestFace_any (N E : List P2) (S : List P3) (A B C : Option Addr) (c c' c3 : Nat) (w : World) (hw : WR w N E A B c c') (hS : S.length ≤ 1048576) (hrs : R3 w C S) :
    Calls Tryz.prog 21 #[.agg #[.slice A N.length c, .slice B E.length c'], .slice C S.length c3] w fun e w' => e = .returned (.int .i64 (brightV N E S)) ∧ Ext w w' := by
  have HW := hide hw
  have HR := hide hrs
  clear hw hrs
  
  go_enter Tryz.func21, Tryz.ntmps21
  go_wp2_with fail
  obtain ⟨w0, hw⟩ : ∃ w1, w1 = w.alloc (Obj.cells #[Value.slice A N.length c, Value.slice B E.length c'] 27) := ⟨_, rfl⟩; rw [← hw]; have kT : Tr [(w.heap.size, [.slice A N.length c, .slice B E.length c'])] w w0 := (by rw [hw]; exact ⟨by (first | (simp [Bx, CellsAt, go_sem, *]; done) | (simp [Bx, CellsAt, go_sem, *]; omega)), by (repeat (first | exact kE | exact Ext.refl _ | apply Ext.alloc | apply Ext.drewN | apply Ext.drew | apply Ext.set0 | apply Ext.set1 | apply Ext.set2 | apply Ext.set3 | (refine Ext.setk ?_ (by omega) _) | (apply Ext.snoc; assumption)))⟩); have HT := hide kT; clear hw kT; have kT := HT.out; simp only [Tr, Bx, CellsAt, Nat.reduceAdd, Nat.zero_add, and_true] at kT; obtain ⟨⟨kz0, kf0, kc0_0, kc0_1⟩, kE⟩ := kT
  obtain ⟨v, hv⟩ : ∃ v, litOk N E S = v := ⟨_, rfl⟩
  have HC := stainsOk_any N E S A B C c c' c3 w0 (HW.out.ext kE) hS (HR.out.ext kE)
  rw [hv] at HC
  have HV := hide hv
  clear hv
  refine (HC).mono ?_; rintro e w1 ⟨rfl, hb⟩; have HT := hide (HT.out.ext hb); have Hw1 := hide hb; clear hb; clear kz0 kf0 kc0_0 kc0_1 kE; have kT := HT.out; simp only [Tr, Bx, CellsAt, Nat.reduceAdd, Nat.zero_add, and_true] at kT; obtain ⟨⟨kz0, kf0, kc0_0, kc0_1⟩, kE⟩ := kT
  cases v with
  | false =>
    have HL := hide (show brightV N E S = -1 by unfold brightV; rw [HV.out]; rfl)
    go_wp2_with fail
    go_ret
    exact ⟨ret_int HL.out.symm, kE⟩
  | true =>
    have HL := hide (show brightV N E S = (brightTo N E S S.length).1 by unfold brightV; rw [HV.out]; rfl)
    have hl40 := fcs_lit_len HV.out
    have HLT := hide (litOk_iff.1 HV.out)
    have HC2 := OuterFace_any N E A B c c' _ (HW.out.ext kE)
    obtain ⟨o, ho⟩ : ∃ o, outerI N E = o := ⟨_, rfl⟩
    rw [ho] at HC2
    have HOO := hide ho
    clear ho
    go_wp2_with fail
    refine (HC2).mono ?_; rintro e w2 ⟨rfl, hb⟩; have HT := hide (HT.out.ext hb); have Hw2 := hide hb; clear hb; clear kz0 kf0 kc0_0 kc0_1 kE; have kT := HT.out; simp only [Tr, Bx, CellsAt, Nat.reduceAdd, Nat.zero_add, and_true] at kT; obtain ⟨⟨kz0, kf0, kc0_0, kc0_1⟩, kE⟩ := kT
    have HT2 := HT
    clear HT
    go_wp2_with fail
    clear kz0 kf0 kc0_0 kc0_1 kE
    go_loopw [6, 7, 19] (fun be mo i wi => ∃ k : Nat, k ≤ S.length ∧ i = .int .i64 k ∧ be = .int .i64 (brightTo N E S k).1 ∧ mo = .int .i64 (brightTo N E S k).2 ∧ Hid (Ext w2 wi)) (fun _ _ i _ => S.length - (intOf i).toNat)
    case atStart => exact ⟨0, Nat.zero_le _, rfl, rfl, rfl, hide (Ext.refl _)⟩
    case round =>
      obtain ⟨k, hk, rfl, rfl, rfl, HE⟩ := hrel
      have HT := hide (HT2.out.ext HE.out)
      have kT := HT.out; simp only [Tr, Bx, CellsAt, Nat.reduceAdd, Nat.zero_add, and_true] at kT; obtain ⟨⟨kz0, kf0, kc0_0, kc0_1⟩, kE⟩ := kT
      by_cases hlt : k < S.length
      · have hlz : (k : Int) < (S.length : Int) := by omega
        obtain ⟨b, off, rfl, hb, e0, e1, e2⟩ := R3.at_ (HR.out.ext kE) hlt
        have hst := stain_at HLT.out.2.2 hlt
        have har := area_range (N := N) (E := E) (k := k) (by have := HLT.out.2.1; omega)
        have HA := hide (AreaOf_any N E A B c c' (k : Int))
        have HN := hide (show brightTo N E S (k + 1) = if (k : Int) ≠ o ∧ (brightTo N E S k).2 < areaAt N E k * (S[k].1 + S[k].2.1 + S[k].2.2) then ((k : Int), areaAt N E k * (S[k].1 + S[k].2.1 + S[k].2.2)) else brightTo N E S k by
          have e : S.getD k (0, 0, 0) = S[k] := by simp [hlt]
          simp only [brightTo]
          rw [HOO.out, e])
        obtain ⟨⟨x, y, z⟩, hxyz⟩ : ∃ q : P3, S[k] = q := ⟨_, rfl⟩
        rw [hxyz] at HN hst e0 e1 e2
        dsimp only at HN hst e0 e1 e2
        clear hxyz
        obtain ⟨Be, hBe⟩ : ∃ q, (brightTo N E S k).1 = q := ⟨_, rfl⟩
        obtain ⟨Mo, hMo⟩ : ∃ q, (brightTo N E S k).2 = q := ⟨_, rfl⟩
        have HP := hide (show brightTo N E S k = (Be, Mo) by rw [← hBe, ← hMo])
        rw [hMo] at HN
        rw [hBe, hMo]
        clear hBe hMo
        obtain ⟨a, ha⟩ : ∃ a, areaAt N E (k : Int) = a := ⟨_, rfl⟩
        rw [ha] at HN HA har
        clear ha
        have p1 := prod_in har.1 har.2 (s := x + y + z) (m := 3000) (by omega) (by omega) (by omega)
        have v1 : IntKind.i64.wrap (x + y) = x + y := by rw [IntKind.wrap_i64]; omega
        have v2 : IntKind.i64.wrap (x + y + z) = x + y + z := by rw [IntKind.wrap_i64]; omega
        have v3 : IntKind.i64.wrap (a * (x + y + z)) = a * (x + y + z) := by rw [IntKind.wrap_i64]; omega
        clear hst har p1
        go_upto_region 8 with fail
        obtain ⟨w6, hw⟩ : ∃ w1, w1 = wr.alloc (Obj.cells #[Value.int IntKind.i64 x, Value.int IntKind.i64 y, Value.int IntKind.i64 z] 50) := ⟨_, rfl⟩; rw [← hw]; have Hw6 := hide (show Ext wr w6 from (by (rw [hw]; (try clear kE); repeat (first | exact kE | exact Ext.refl _ | apply Ext.alloc | apply Ext.drewN | apply Ext.drew | apply Ext.set0 | apply Ext.set1 | apply Ext.set2 | apply Ext.set3 | (refine Ext.setk ?_ (by omega) _) | (apply Ext.snoc; assumption))))); have HT := hide (HT.out.more Hw6.out (wr.heap.size) [.int .i64 x, .int .i64 y, .int .i64 z] (by (rw [hw]; first | (simp [CellsAt, go_sem, *]; done) | (simp [CellsAt, go_sem, *]; omega)))); have Zw6 := hide (congrArg (fun z : World => z.heap.size) hw); clear hw kz0 kf0 kc0_0 kc0_1 kE; have kT := HT.out; simp only [Tr, Bx, CellsAt, Nat.reduceAdd, Nat.zero_add, and_true] at kT; obtain ⟨⟨⟨kz0, kf0, kc0_0, kc0_1, kc0_2⟩, ⟨kz1, kf1, kc1_0, kc1_1⟩⟩, kE⟩ := kT
        clear e0 e1 e2
        have HQ := hide (fun p : ExtBy w6 => HA.out p.w (HW.out.ext (kE.trans p.h)))
        have kq0_0 := ExtBy.cell (W := w6) kz0 kc0_0; have kq0_1 := ExtBy.cell (W := w6) kz0 kc0_1; have kq0_2 := ExtBy.cell (W := w6) kz0 kc0_2; have kq1_0 := ExtBy.cell (W := w6) kz1 kc1_0; have kq1_1 := ExtBy.cell (W := w6) kz1 kc1_1; refine wp_region_quietE (by kernel_rfl) (by kernel_rfl) ?_; (repeat (refine WQ.step (fun K hK => ?_); have HK := hide hK; clear hK; go_simp; refine HK.out _ ?_; clear HK K)); (refine WQ.step (fun K hK => ?_); have HK := hide hK; clear hK; go_simp; apply Exists.intro; refine ⟨fun _ => ?_, HK.out _ ?_⟩; (go_at_call 62; refine extby_of (HQ.out _)); clear HK K); (repeat (refine WQ.step (fun K hK => ?_); have HK := hide hK; clear hK; go_simp; refine HK.out _ ?_; clear HK K)); refine WQ.done ?_; intro w7 hw'; obtain ⟨⟨_, hw7⟩, hw''⟩ := hw'; subst hw''; clear kq0_0 kq0_1 kq0_2 kq1_0 kq1_1; have HT := hide (HT.out.ext hw7); have Hw7 := hide hw7; clear hw7 kz0 kf0 kc0_0 kc0_1 kc0_2 kz1 kf1 kc1_0 kc1_1 kE; have kT := HT.out; simp only [Tr, Bx, CellsAt, Nat.reduceAdd, Nat.zero_add, and_true] at kT; obtain ⟨⟨⟨kz0, kf0, kc0_0, kc0_1, kc0_2⟩, ⟨kz1, kf1, kc1_0, kc1_1⟩⟩, kE⟩ := kT
        have HE6 := hide (HE.out.trans (Hw6.out.trans Hw7.out))
        clear v1 v2 v3 HQ HA
        obtain ⟨pr, hpr⟩ : ∃ pr, a * (x + y + z) = pr := ⟨_, rfl⟩
        rw [hpr] at HN ⊢
        clear hpr
        by_cases hko : (k : Int) = o
        · have h1 : ((k : Int) != o) = false := by simp; exact hko
          have HKO := hide hko
          clear hko
          go_wp2_with fail
          clear h1
          go_roundw
          case rel => exact ⟨k + 1, by omega, by go_num, by rw [HN.out, if_neg (fun h => h.1 HKO.out), HP.out], by rw [HN.out, if_neg (fun h => h.1 HKO.out), HP.out], HE6⟩
          case measure => simp [intOf]; omega
        · have h1 : ((k : Int) != o) = true := by simp; exact hko
          have HKO := hide hko
          clear hko
          by_cases hgt : Mo < pr
          · have h2 : decide (pr > Mo) = true := decide_eq_true hgt
            have h3 : decide (Mo < pr) = true := decide_eq_true hgt
            have HGT := hide hgt
            go_wp2_with fail
            clear h1 h2 h3 hgt
            go_roundw
            case rel => exact ⟨k + 1, by omega, by go_num, by rw [HN.out, if_pos ⟨HKO.out, HGT.out⟩], by rw [HN.out, if_pos ⟨HKO.out, HGT.out⟩], HE6⟩
            case measure => simp [intOf]; omega
          · have h2 : decide (pr > Mo) = false := decide_eq_false hgt
            have h3 : decide (Mo < pr) = false := decide_eq_false hgt
            have HGT := hide hgt
            clear hgt
            go_wp2_with fail
            clear h1 h2 h3
            go_roundw
            case rel => exact ⟨k + 1, by omega, by go_num, by rw [HN.out, if_neg (fun h => HGT.out h.2), HP.out], by rw [HN.out, if_neg (fun h => HGT.out h.2), HP.out], HE6⟩
            case measure => simp [intOf]; omega
      · obtain rfl : k = S.length := by omega
        
        go_wp2_with fail
        go_ret
        exact ⟨ret_int HL.out.symm, kE⟩
end Go.Proofs.YtabgcpoaepafjaaGreat
