/- The walk of CountDualTrees (program). No condition. -/
import Derived.Test.YtkgbilbicdiadaaDualA
import Derived.Test.YtkgbilbicdiadaaDetW
import Derived.Test.YtkgbilbicdiadaaHdrI
set_option linter.unusedSimpArgs false
set_option linter.unusedVariables false
namespace Go.Proofs.Ytkgbilbicdiadaa
open Go.RowKit

noncomputable def dualI (N E : List P2) : Int := if wholeB N E = true then detD ((fcs N E).length - 1) (tabD (sd N E) E.length) else 0
theorem dualI_yes {N E : List P2} (h : wholeB N E = true) : dualI N E = detD ((fcs N E).length - 1) (tabD (sd N E) E.length) := by unfold dualI; rw [if_pos h]
theorem dualI_no {N E : List P2} (h : wholeB N E = false) : dualI N E = 0 := by unfold dualI; rw [h]; rfl
theorem made_zeros (n : Nat) : (madeCells (Value.int .i64 0).cells (n * 1)).toList = List.replicate n (Value.int .i64 0) := by
  rw [Nat.mul_one]
  exact toList_madeCells_one _ _
set_option maxRecDepth 20000 in
set_option maxHeartbeats 8000000 in
theorem CountDualTrees_any (N E : List P2) (A B : Option Addr) (c c' : Nat) (w : World) (hw : WR w N E A B c c') :
    Calls Try.prog 24 #[.agg #[.slice A N.length c, .slice B E.length c']] w fun e w' => e = .returned (.int .i64 (dualI N E)) ∧ Ext w w' := by
  obtain ⟨i0, hi, hz0, hz1, hz2⟩ := info_parts rows_info
  obtain ⟨j0, hj, hy0, hy1, hy2⟩ := info_parts int_info
  have HI := hide (fun (W : World) (hE : Ext w W) => IsWhole_any N E A B c c' W (hw.ext hE))
  cases hwh : wholeB N E with
  | false =>
    have HV := hide (dualI_no hwh)
    have HC := hide (fun (W : World) (hE : Ext w W) => by have h := HI.out W hE; rw [hwh] at h; exact h)
    obtain ⟨V, hV⟩ : ∃ V, dualI N E = V := ⟨_, rfl⟩
    rw [hV] at HV ⊢
    clear hw hwh HI hV
    
    go_enter Try.func24, Try.ntmps24
    go_wp2_with fail
    obtain ⟨w0, hw⟩ : ∃ w1, w1 = w.alloc (Obj.cells #[Value.slice A N.length c, Value.slice B E.length c'] 27) := ⟨_, rfl⟩; rw [← hw]; have kT : Tr [(w.heap.size, [.slice A N.length c, .slice B E.length c'])] w w0 := (by rw [hw]; exact ⟨by (first | (simp [Bx, CellsAt, go_sem, *]; done) | (simp [Bx, CellsAt, go_sem, *]; omega)), by (repeat (first | exact kE | exact Ext.refl _ | apply Ext.alloc | apply Ext.drewN | apply Ext.drew | apply Ext.set0 | apply Ext.set1 | apply Ext.set2 | apply Ext.set3 | (refine Ext.setk ?_ (by omega) _) | (apply Ext.snoc; assumption)))⟩); have HT := hide kT; clear hw kT; have kT := HT.out; simp only [Tr, Bx, CellsAt, Nat.reduceAdd, Nat.zero_add, and_true] at kT; obtain ⟨⟨kz0, kf0, kc0_0, kc0_1⟩, kE⟩ := kT
    refine (HC.out _ kE).mono ?_
    rintro e w2 ⟨rfl, hb2⟩
    have HE2 := hide (kE.trans hb2)
    clear hb2
    go_wp2_with fail
    go_ret
    exact ⟨ret_int HV.out.symm, HE2.out⟩
  | true =>
    have HC := hide (fun (W : World) (hE : Ext w W) => by have h := HI.out W hE; rw [hwh] at h; exact h)
    have HV := hide (dualI_yes hwh)
    have hm := (wholeB_iff.1 hwh).1.m
    have hpos := (fcs_facts hwh).1
    have hl40 := fcs_len (N := N) (E := E)
    have HFO := hide (fun (W : World) (hE : Ext w W) => (FacesOf_any N E A B c c' W (hw.ext hE)).mono (R' := fun e w' => ∃ A2 c2, e = .returned (.slice A2 (fcs N E).length c2) ∧ Ext W w') (by rintro e w' ⟨A2, c2, h1, _, _, _, _, h2⟩; exact ⟨A2, c2, h1, h2⟩))
    have HSL := hide (fun (a b : Nat) (ha : a < (fcs N E).length) (hb : b < (fcs N E).length) (W : World) (hE : Ext w W) => (SharedLeads_any N E A B c c' a b W (hw.ext hE) ha hb).mono (R' := fun e w' => ∃ A2 c2, e = .returned (.slice A2 (shL (sd N E) a b E.length).length c2) ∧ Ext W w') (by rintro e w' ⟨A2, c2, h1, _, h2⟩; exact ⟨A2, c2, h1, h2⟩))
    have HDD := hide (fun (a : Nat) (ha : a < (fcs N E).length) (W : World) (hE : Ext w W) => DualDegree_any N E A B c c' a W (hw.ext hE) ha)
    have HSM := hide (tab_sml (sd N E) ((fcs N E).length - 1) hm)
    have HTD := hide (fun i => tab_diag (sd N E) i E.length)
    have HTO := hide (fun i j (h : i ≠ j) => tab_off (sd N E) h E.length)
    have HSHL := hide (fun a b => shL_le (sd N E) a b E.length)
    obtain ⟨V, hV⟩ : ∃ V, dualI N E = V := ⟨_, rfl⟩
    rw [hV] at HV ⊢
    obtain ⟨n, hn⟩ : ∃ n, (fcs N E).length = n := ⟨_, rfl⟩
    rw [hn] at hpos hl40 HFO HSL HDD HSM HV
    obtain ⟨q, hq⟩ : ∃ q, n = q + 1 := ⟨n - 1, by omega⟩
    subst hq
    rw [Nat.add_sub_cancel] at HV HSM
    obtain ⟨s, hs⟩ : ∃ s, sd N E = s := ⟨_, rfl⟩
    rw [hs] at HSL HDD HSM HV HTD HTO HSHL
    obtain ⟨T, hT⟩ : ∃ T, tabD s E.length = T := ⟨_, rfl⟩
    rw [hT] at HSM HV HTD HTO
    have HW := hide hw
    clear hw hwh HI hV hn hs hT hpos
    
    go_enter Try.func24, Try.ntmps24
    go_wp2_with fail
    obtain ⟨w0, hw⟩ : ∃ w1, w1 = w.alloc (Obj.cells #[Value.slice A N.length c, Value.slice B E.length c'] 27) := ⟨_, rfl⟩; rw [← hw]; have kT : Tr [(w.heap.size, [.slice A N.length c, .slice B E.length c'])] w w0 := (by rw [hw]; exact ⟨by (first | (simp [Bx, CellsAt, go_sem, *]; done) | (simp [Bx, CellsAt, go_sem, *]; omega)), by (repeat (first | exact kE | exact Ext.refl _ | apply Ext.alloc | apply Ext.drewN | apply Ext.drew | apply Ext.set0 | apply Ext.set1 | apply Ext.set2 | apply Ext.set3 | (refine Ext.setk ?_ (by omega) _) | (apply Ext.snoc; assumption)))⟩); have HT := hide kT; clear hw kT; have kT := HT.out; simp only [Tr, Bx, CellsAt, Nat.reduceAdd, Nat.zero_add, and_true] at kT; obtain ⟨⟨kz0, kf0, kc0_0, kc0_1⟩, kE⟩ := kT
    refine (HC.out w0 kE).mono ?_; rintro e w1 ⟨rfl, hb⟩; have HT := hide (HT.out.ext hb); have Hw1 := hide hb; clear hb; clear kz0 kf0 kc0_0 kc0_1 kE; have kT := HT.out; simp only [Tr, Bx, CellsAt, Nat.reduceAdd, Nat.zero_add, and_true] at kT; obtain ⟨⟨kz0, kf0, kc0_0, kc0_1⟩, kE⟩ := kT
    go_wp2_with fail
    refine (HFO.out _ kE).mono ?_
    rintro e w2 ⟨A2, c2, rfl, hb2⟩
    have HT' := hide (HT.out.ext hb2)
    clear hb2 HT
    have HT := HT'
    clear HT'
    clear kz0 kf0 kc0_0 kc0_1 kE
    have kT := HT.out; simp only [Tr, Bx, CellsAt, Nat.reduceAdd, Nat.zero_add, and_true] at kT; obtain ⟨⟨kz0, kf0, kc0_0, kc0_1⟩, kE⟩ := kT
    have hq1 : IntKind.i64.wrap (((q + 1 : Nat) : Int) - 1) = (q : Int) := by rw [IntKind.wrap_i64]; omega
    have hq2 : ((q + 1 : Nat) : Int) - 1 = (q : Int) := by omega
    have HTZ := HT
    have HZ2 := hide kz0
    go_wp2_with (at_make; refine wpList_make_full _ rfl _ _ 66 rfl w2.heap.size 29 i0 (.slice none 0 0) 1 Try.underlying66 hi hz0 hz1 .i64 .i64 q q q rfl rfl (by omega) (by omega) (by rw [hz2]; omega) (by unfold maxLen; omega) (Nat.le_refl _) ?_; intro w3 hown hgrow)
    obtain ⟨hs, hb1, hb2, hb3, hb4⟩ := Blk.of_own hown
    have HM0 : Hid (Mat w3 w2.heap.size w2.heap.size q 0 q 29 3 T) := hide (Mat.start hs (Nat.le_refl _) hb1 (by omega))
    have HE3 := hide (show Ext w2 w3 from grown_ext hgrow)
    have hsz3 := hb1.lt
    clear hown hgrow hb1 hb2 hb3 hb4 HT hq1 hq2
    clear kz0 kf0 kc0_0 kc0_1 kE
    go_loopw [18] (fun i wr => ∃ a : Nat, a ≤ q ∧ i = .int .i64 a ∧ Hid (Mat wr w2.heap.size w2.heap.size q a q 29 3 T) ∧ Hid (Ext w2 wr)) (fun i _ => q - (intOf i).toNat)
    case atStart => exact ⟨0, Nat.zero_le _, rfl, HM0, HE3⟩
    case round =>
      clear HM0 HE3
      obtain ⟨a, ha, rfl, HM, HE⟩ := hrel
      have HB := hide (HE.out.size)
      by_cases hlt : a < q
      · have haz : (a : Int) < (q : Int) := by omega
        obtain ⟨⟨hv0, hh0⟩, hh1⟩ := HM.out.header hlt
        have hml := HM.out.lt.2
        have hsz := HB.out
        go_wp2_with (at_make; refine wpList_make_full _ rfl _ _ 29 rfl w2.heap.size 3 j0 (.int .i64 0) 1 Try.underlying29 hj hy0 hy1 .i64 .i64 q q q rfl rfl (by omega) (by omega) (by rw [hy2]; omega) (by unfold maxLen; omega) (by omega) ?_; intro w5 hown hgrow; have hX2 := grown_ext hgrow; have HX2 := hide hX2; obtain ⟨⟨hv2, hh2⟩, hh3⟩ := (HM.out.ext hX2).header hlt; clear hX2)
        rw [made_zeros] at hown
        have hm3 := HM.out.row (f' := fun i j => if i = a then 0 else T i j) hlt HB.out HX2.out (Blk.of_full hown) (fun i j hij => by show (if i = a then 0 else T i j) = _; rw [if_neg (by omega)]) (fun j => by simp)
        have he3 := (HE.out.trans HX2.out).set (p := ⟨w2.heap.size, a, none⟩) (Nat.le_refl _) (.slice (some ⟨wr.heap.size, 0, none⟩) q q)
        obtain ⟨w6, hw6⟩ : ∃ w6, w6 = w5.setCell ⟨w2.heap.size, a, none⟩ (.slice (some ⟨wr.heap.size, 0, none⟩) q q) := ⟨_, rfl⟩
        rw [← hw6] at hm3 he3 ⊢
        have HM6 := hide hm3
        have HE6 := hide he3
        obtain ⟨⟨hv6, hh6⟩, hh7⟩ := hm3.header hlt
        clear hown hgrow hm3 he3 hw6 hh0 hh1 hh2 hh3 HX2 HM HE hml hsz
        go_loopw [31] (fun i wi => ∃ b : Nat, b ≤ q ∧ i = .int .i64 b ∧ (∃ f, Hid (Mat wi w2.heap.size w2.heap.size q (a + 1) q 29 3 f) ∧ Hid (∀ i j, i < a → j < q → f i j = T i j) ∧ Hid (∀ j, j < b → j ≠ a → f a j = T a j)) ∧ Hid (Ext w2 wi)) (fun i _ => q - (intOf i).toNat)
        case atStart => exact ⟨0, Nat.zero_le _, rfl, ⟨_, HM6, hide (fun i j hi hj => by show (if i = a then 0 else T i j) = _; rw [if_neg (by omega)]), hide (fun j hj => absurd hj (Nat.not_lt_zero j))⟩, HE6⟩
        case round =>
          clear HM6 HE6 hh6 hh7
          obtain ⟨b, hb, rfl, ⟨f, HM, HF1, HF2⟩, HE⟩ := hrel
          by_cases hltb : b < q
          · have hbz : (b : Int) < (q : Int) := by omega
            obtain ⟨g, a1, a2, a3, a4, a5, a6⟩ := HM.out.at_ (Nat.lt_succ_self a) hltb
            have HA6 := hide a6
            have HGC := hide (And.intro a2 a5)
            have n1 := HM.out.ne (Nat.lt_succ_self a) a1
            have n2 : ¬ w.heap.size = g := by have := HZ2.out; omega
            have hhw := HM.out.lt.2
            have HSLW := hide (fun (W : World) (hE : Ext w W) => HSL.out (a + 1) (b + 1) (by omega) (by omega) W hE)
            have HSHW := hide (HSHL.out (a + 1) (b + 1))
            have HTOW := hide (fun (h : a ≠ b) => HTO.out a b h)
            obtain ⟨L, hL⟩ : ∃ L, (shL s (a + 1) (b + 1) E.length).length = L := ⟨_, rfl⟩
            rw [hL] at HSLW HSHW HTOW
            have hLm := HSHW.out
            have hT2 := HTZ.out.ext HE.out
            have HT := hide hT2
            have kT := HT.out; simp only [Tr, Bx, CellsAt, Nat.reduceAdd, Nat.zero_add, and_true] at kT; obtain ⟨⟨kz0, kf0, kc0_0, kc0_1⟩, kE⟩ := kT
            clear hL hT2 a6
            have HX := hide kE
            go_wp2_with fail
            have p1 : IntKind.i64.wrap ((a : Int) + 1) = ((a + 1 : Nat) : Int) := by rw [IntKind.wrap_i64]; omega
            have p2 : IntKind.i64.wrap ((b : Int) + 1) = ((b + 1 : Nat) : Int) := by rw [IntKind.wrap_i64]; omega
            have p3 : IntKind.i64.wrap (-(L : Int)) = -(L : Int) := by rw [IntKind.wrap_i64]; omega
            go_region_held3 (fun w' => (∀ (q o : Nat), q < wr.heap.size → ¬ q = g → w'.cell? ⟨q, o, none⟩ = wr.cell? ⟨q, o, none⟩) ∧ w'.cell? ⟨g, b, none⟩ = some (cellV w' ⟨g, b, none⟩) ∧ (∀ (q o : Nat), q < wr.heap.size → w'.frozen? ⟨q, o, none⟩ = wr.frozen? ⟨q, o, none⟩) ∧ wr.grownBy w' (some g)) ((first | (apply GrSet _ HGC.out.1 HGC.out.2; repeat (first | exact kE | exact Ext.refl _ | apply Ext.alloc | apply Ext.drewN | apply Ext.drew | apply Ext.set0 | apply Ext.set1 | apply Ext.set2 | apply Ext.set3 | (refine Ext.setk ?_ (by omega) _) | (apply Ext.snoc; assumption))) | (apply GrS HGC.out.1 HGC.out.2; repeat (first | exact kE | exact Ext.refl _ | apply Ext.alloc | apply Ext.drewN | apply Ext.drew | apply Ext.set0 | apply Ext.set1 | apply Ext.set2 | apply Ext.set3 | (refine Ext.setk ?_ (by omega) _) | (apply Ext.snoc; assumption))))) ((first | (go_at_call 89; refine (HSLW.out _ (HX.out.trans (by clear kE; repeat (first | exact kE | exact Ext.refl _ | apply Ext.alloc | apply Ext.drewN | apply Ext.drew | apply Ext.set0 | apply Ext.set1 | apply Ext.set2 | apply Ext.set3 | (refine Ext.setk ?_ (by omega) _) | (apply Ext.snoc; assumption))))).mono ?_; rintro e w7 ⟨A7, c7, rfl, hb7⟩)))
            clear p1 p2 p3 hLm
            have hb8 : Ext wr w7 := ((Ext.refl wr).drew).trans hb7
            have HE9 := hide ((HE.out.trans hb8).set (p := ⟨g, b, none⟩) a4 (.int .i64 (-(L : Int))))
            obtain ⟨g9, f1, f2, f3, f4, f5, f6⟩ := (HM.out.ext hb8).at_ (Nat.lt_succ_self a) hltb
            have e9 : g = g9 := by
              have e := (Ext.facts hb8).1 w2.heap.size a hhw
              rw [f1, a1] at e
              injection e with e
              injection e with e
              injection e with e
              injection e with e
              exact e.symm
            subst e9
            have HM9 := hide (f6 (-(L : Int)))
            have HF3 := hide (fun i j (h1 : i < a) (h2 : j < q) => (show upd f a b (-(L : Int)) i j = T i j by rw [upd_ne _ _ _ _ (.inl (by omega)), HF1.out i j h1 h2]))
            have HF4 := hide (fun j (h1 : j < b + 1) (h2 : j ≠ a) => (show upd f a b (-(L : Int)) a j = T a j by
              by_cases hj : j = b
              · subst hj
                rw [upd_same, HTOW.out (fun e => h2 e.symm)]
              · rw [upd_ne _ _ _ _ (.inr hj), HF2.out j (by omega) h2]))
            clear f1 f2 f3 f4 f5 f6 HA6 HX hb7 hb8 HM HF1 HF2 HTOW HGC a1 a2 a3 n1 n2 HT kE kc0_0 kc0_1 kf0 kz0 HE HSLW
            obtain ⟨w8, hw8⟩ : ∃ w8, w8 = w7.setCell ⟨g, b, none⟩ (.int .i64 (-(L : Int))) := ⟨_, rfl⟩
            rw [← hw8] at HM9 HE9 ⊢
            clear hw8
            go_wp2_with fail
            go_roundw
            case rel => exact ⟨b + 1, by omega, by go_num, ⟨_, by first | exact HM9 | exact hide HM9.out, by first | exact HF3 | exact hide HF3.out, by first | exact HF4 | exact hide HF4.out⟩, by first | exact HE9 | exact hide HE9.out⟩
            case measure => simp [intOf]; omega
          · obtain rfl : b = q := by omega
            obtain ⟨g, a1, a2, a3, a4, a5, a6⟩ := HM.out.at_ (Nat.lt_succ_self a) hlt
            have HGC := hide (And.intro a2 a5)
            have n1 := HM.out.ne (Nat.lt_succ_self a) a1
            have n2 : ¬ w.heap.size = g := by have := HZ2.out; omega
            have hhw := HM.out.lt.2
            have HDW := hide (fun (W : World) (hE : Ext w W) => HDD.out (a + 1) (by omega) W hE)
            have HTA := hide (HTD.out a)
            obtain ⟨L, hL⟩ : ∃ L, dgD s (a + 1) (2 * E.length) = L := ⟨_, rfl⟩
            rw [hL] at HDW HTA
            have hT2 := HTZ.out.ext HE.out
            have HT := hide hT2
            have kT := HT.out; simp only [Tr, Bx, CellsAt, Nat.reduceAdd, Nat.zero_add, and_true] at kT; obtain ⟨⟨kz0, kf0, kc0_0, kc0_1⟩, kE⟩ := kT
            clear hL hT2 a6
            have HX := hide kE
            go_wp2_with fail
            have p1 : IntKind.i64.wrap ((a : Int) + 1) = ((a + 1 : Nat) : Int) := by rw [IntKind.wrap_i64]; omega
            go_region_held3 (fun w' => (∀ (q o : Nat), q < wr.heap.size → ¬ q = g → w'.cell? ⟨q, o, none⟩ = wr.cell? ⟨q, o, none⟩) ∧ w'.cell? ⟨g, a, none⟩ = some (cellV w' ⟨g, a, none⟩) ∧ (∀ (q o : Nat), q < wr.heap.size → w'.frozen? ⟨q, o, none⟩ = wr.frozen? ⟨q, o, none⟩) ∧ wr.grownBy w' (some g)) ((first | (apply GrSet _ HGC.out.1 HGC.out.2; repeat (first | exact kE | exact Ext.refl _ | apply Ext.alloc | apply Ext.drewN | apply Ext.drew | apply Ext.set0 | apply Ext.set1 | apply Ext.set2 | apply Ext.set3 | (refine Ext.setk ?_ (by omega) _) | (apply Ext.snoc; assumption))) | (apply GrS HGC.out.1 HGC.out.2; repeat (first | exact kE | exact Ext.refl _ | apply Ext.alloc | apply Ext.drewN | apply Ext.drew | apply Ext.set0 | apply Ext.set1 | apply Ext.set2 | apply Ext.set3 | (refine Ext.setk ?_ (by omega) _) | (apply Ext.snoc; assumption))))) ((first | (go_at_call 90; refine (HDW.out _ (HX.out.trans (by clear kE; repeat (first | exact kE | exact Ext.refl _ | apply Ext.alloc | apply Ext.drewN | apply Ext.drew | apply Ext.set0 | apply Ext.set1 | apply Ext.set2 | apply Ext.set3 | (refine Ext.setk ?_ (by omega) _) | (apply Ext.snoc; assumption))))).mono ?_; rintro e w7 ⟨rfl, hb7⟩)))
            clear p1
            have hb8 : Ext wr w7 := ((Ext.refl wr).drew).trans hb7
            have HE9 := hide ((HE.out.trans hb8).set (p := ⟨g, a, none⟩) a4 (.int .i64 (L : Int)))
            obtain ⟨g9, f1, f2, f3, f4, f5, f6⟩ := (HM.out.ext hb8).at_ (Nat.lt_succ_self a) hlt
            have e9 : g = g9 := by
              have e := (Ext.facts hb8).1 w2.heap.size a hhw
              rw [f1, a1] at e
              injection e with e
              injection e with e
              injection e with e
              injection e with e
              exact e.symm
            subst e9
            have HM9 := hide ((f6 (L : Int)).congr (f' := T) fun i j hi hj => by
              by_cases hia : i = a
              · subst hia
                by_cases hja : j = i
                · subst hja
                  rw [upd_same, HTA.out]
                · rw [upd_ne _ _ _ _ (.inr hja), HF2.out j hj hja]
              · rw [upd_ne _ _ _ _ (.inl hia), HF1.out i j (by omega) hj])
            clear f1 f2 f3 f4 f5 f6 HX hb7 hb8 HM HF1 HF2 HTA HGC a1 a2 a3 n1 n2 HT kE kc0_0 kc0_1 kf0 kz0 HE HDW
            obtain ⟨w8, hw8⟩ : ∃ w8, w8 = w7.setCell ⟨g, a, none⟩ (.int .i64 (L : Int)) := ⟨_, rfl⟩
            rw [← hw8] at HM9 HE9 ⊢
            clear hw8
            go_wp2_with fail
            go_roundw
            case rel => exact ⟨a + 1, by omega, by go_num, by first | exact HM9 | exact hide HM9.out, by first | exact HE9 | exact hide HE9.out⟩
            case measure => simp [intOf]; omega
      · obtain rfl : a = q := by omega
        have HX := hide (Ext.trans (HTZ.out.2) HE.out)
        have HBB := HZ2
        go_wp2_with fail
        refine (determinant_any a w2.heap.size a w2.heap.size T _ (by omega) (Nat.le_refl _) HSM.out HM.out).mono ?_
        rintro e w9 ⟨rfl, hb9⟩
        have HE9 := hide (show Ext w w9 from Below.trans HX.out (Below.mono hb9 (Nat.le_of_lt HBB.out)))
        clear hb9
        go_wp2_with fail
        go_ret
        exact ⟨ret_int HV.out.symm, HE9.out⟩
end Go.Proofs.Ytkgbilbicdiadaa
