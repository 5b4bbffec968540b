/- The walk of the reference's CountDualTrees. No condition. -/
import Derived.Test.YtkgbilbicdiadaaDualC
import Derived.Deep.AppendLies
set_option linter.unusedSimpArgs false
set_option linter.unusedVariables false
namespace Go.Proofs.Ytkgbilbicdiadaa
open Go.RowKit

set_option maxRecDepth 20000 in
set_option maxHeartbeats 8000000 in
theorem sCountDualTrees_any (N E : List P2) (A B : Option Addr) (c c' : Nat) (w : World) (hw : WR w N E A B c c') :
    Calls Try.prog 39 #[.agg #[.slice A N.length c, .slice B E.length c']] w fun e w' => e = .returned (.int .i64 (dualI N E)) ∧ Ext w w' := by
  obtain ⟨i0, hi, hz0, hz1, hz2⟩ := info_parts rows_info
  have HI := hide (fun (W : World) (hE : Ext w W) => sIsWhole_any N E A B c c' W (hw.ext hE))
  cases hwh : wholeB N E with
  | false =>
    have HV := hide (dualI_no hwh)
    have HC := hide (fun (W : World) (hE : Ext w W) => by have h := HI.out W hE; rw [hwh] at h; exact h)
    obtain ⟨V, hV⟩ : ∃ V, dualI N E = V := ⟨_, rfl⟩
    rw [hV] at HV ⊢
    clear hw hwh HI hV
    
    go_enter Try.func39, Try.ntmps39
    go_wp2_with fail
    obtain ⟨w0, hw⟩ : ∃ w1, w1 = w.alloc (Obj.cells #[Value.slice A N.length c, Value.slice B E.length c'] 27) := ⟨_, rfl⟩; rw [← hw]; have kT : Tr [(w.heap.size, [.slice A N.length c, .slice B E.length c'])] w w0 := (by rw [hw]; exact ⟨by (first | (simp [Bx, CellsAt, go_sem, *]; done) | (simp [Bx, CellsAt, go_sem, *]; omega)), by (repeat (first | exact kE | exact Ext.refl _ | apply Ext.alloc | apply Ext.drewN | apply Ext.drew | apply Ext.set0 | apply Ext.set1 | apply Ext.set2 | apply Ext.set3 | (refine Ext.setk ?_ (by omega) _) | (apply Ext.snoc; assumption)))⟩); have HT := hide kT; clear hw kT; have kT := HT.out; simp only [Tr, Bx, CellsAt, Nat.reduceAdd, Nat.zero_add, and_true] at kT; obtain ⟨⟨kz0, kf0, kc0_0, kc0_1⟩, kE⟩ := kT
    refine (HC.out _ kE).mono ?_
    rintro e w2 ⟨rfl, hb2⟩
    have HE2 := hide (kE.trans hb2)
    clear hb2
    go_wp2_with fail
    go_ret
    exact ⟨ret_int HV.out.symm, HE2.out⟩
  | true =>
    have HC := hide (fun (W : World) (hE : Ext w W) => by have h := HI.out W hE; rw [hwh] at h; exact h)
    have HV := hide (dualI_yes hwh)
    have hm := (wholeB_iff.1 hwh).1.m
    have hpos := (fcs_facts hwh).1
    have hl40 := fcs_len (N := N) (E := E)
    have HFO := hide (fun (W : World) (hE : Ext w W) => (sFacesOf_any N E A B c c' W (hw.ext hE)).mono (R' := fun e w' => ∃ A2 c2, e = .returned (.slice A2 (fcs N E).length c2) ∧ Ext W w') (by rintro e w' ⟨A2, c2, h1, _, _, h2⟩; exact ⟨A2, c2, h1, h2⟩))
    have HFA := hide (fun (W : World) (hE : Ext w W) => l09Sides_any N E A B c c' W (hw.ext hE) hwh)
    have HSD := hide (sd_lt hwh)
    have HSM := hide (tab_sml (sd N E) ((fcs N E).length - 1) hm)
    obtain ⟨V, hV⟩ : ∃ V, dualI N E = V := ⟨_, rfl⟩
    rw [hV] at HV ⊢
    obtain ⟨n, hn⟩ : ∃ n, (fcs N E).length = n := ⟨_, rfl⟩
    rw [hn] at hpos hl40 HFO HSM HV HSD
    obtain ⟨q, hq⟩ : ∃ q, n = q + 1 := ⟨n - 1, by omega⟩
    subst hq
    rw [Nat.add_sub_cancel] at HV HSM
    obtain ⟨s, hs⟩ : ∃ s, sd N E = s := ⟨_, rfl⟩
    rw [hs] at HSM HV HFA HSD
    have HMX := hide (fun (W : World) (A9 : Option Addr) (c9 : Nat) (h : RT W A9 (pairsTo s E.length)) => l16Matrix_any q E.length c9 A9 s W (by omega) hm (fun d => by have := HSD.out d; omega) h)
    have HP0 := hide (pairs_len s)
    have HPN := hide (pairs_next s)
    obtain ⟨Fp, hFp⟩ : ∃ Fp, pairsTo s = Fp := ⟨_, rfl⟩
    have HPZ := hide (show Fp 0 = [] by rw [← hFp]; rfl)
    rw [hFp] at HMX HP0 HPN
    clear hw hwh HI hV hn hs hpos hFp
    
    go_enter Try.func39, Try.ntmps39
    go_wp2_with fail
    obtain ⟨w0, hw⟩ : ∃ w1, w1 = w.alloc (Obj.cells #[Value.slice A N.length c, Value.slice B E.length c'] 27) := ⟨_, rfl⟩; rw [← hw]; have kT : Tr [(w.heap.size, [.slice A N.length c, .slice B E.length c'])] w w0 := (by rw [hw]; exact ⟨by (first | (simp [Bx, CellsAt, go_sem, *]; done) | (simp [Bx, CellsAt, go_sem, *]; omega)), by (repeat (first | exact kE | exact Ext.refl _ | apply Ext.alloc | apply Ext.drewN | apply Ext.drew | apply Ext.set0 | apply Ext.set1 | apply Ext.set2 | apply Ext.set3 | (refine Ext.setk ?_ (by omega) _) | (apply Ext.snoc; assumption)))⟩); have HT := hide kT; clear hw kT; have kT := HT.out; simp only [Tr, Bx, CellsAt, Nat.reduceAdd, Nat.zero_add, and_true] at kT; obtain ⟨⟨kz0, kf0, kc0_0, kc0_1⟩, kE⟩ := kT
    refine (HC.out w0 kE).mono ?_; rintro e w1 ⟨rfl, hb⟩; have HT := hide (HT.out.ext hb); have Hw1 := hide hb; clear hb; clear kz0 kf0 kc0_0 kc0_1 kE; have kT := HT.out; simp only [Tr, Bx, CellsAt, Nat.reduceAdd, Nat.zero_add, and_true] at kT; obtain ⟨⟨kz0, kf0, kc0_0, kc0_1⟩, kE⟩ := kT
    go_wp2_with fail
    refine (HFA.out _ kE).mono ?_
    rintro e w3 ⟨ga, ca, rfl, hat, hb1⟩
    have HAT := hide hat
    have HT' := hide (HT.out.ext hb1)
    clear hat hb1 HT
    have HT := HT'
    clear HT'
    clear kz0 kf0 kc0_0 kc0_1 kE
    have kT := HT.out; simp only [Tr, Bx, CellsAt, Nat.reduceAdd, Nat.zero_add, and_true] at kT; obtain ⟨⟨kz0, kf0, kc0_0, kc0_1⟩, kE⟩ := kT
    have HTZ := HT
    have HZ3 := hide kz0
    go_wp2_with fail
    have HG0 := hide (show GT (w3.alloc (.cells #[] 29)) w3.heap.size 29 (.slice (some ⟨w3.heap.size, 0, none⟩) 0 0) [] [] from ⟨lit_own w3 29 1, fun i l h => by simp at h⟩)
    clear HT
    clear kz0 kf0 kc0_0 kc0_1 kE
    go_loopw [4, 5] (fun v i wr => ∃ k : Nat, k ≤ E.length ∧ i = .int .i64 k ∧ Hid (∃ hs, GT wr w3.heap.size 29 v (Fp k) hs) ∧ Hid (Ext w3 wr)) (fun _ i _ => E.length - (intOf i).toNat)
    case atStart => exact ⟨0, Nat.zero_le _, rfl, hide ⟨[], by rw [HPZ.out]; exact HG0.out⟩, hide ((Ext.refl _).alloc _)⟩
    case round =>
      clear HG0
      obtain ⟨k, hk, rfl, HG, HE⟩ := hrel
      have hsz := HE.out.size
      have hT2 := HTZ.out.ext HE.out
      have HT := hide hT2
      have kT := HT.out; simp only [Tr, Bx, CellsAt, Nat.reduceAdd, Nat.zero_add, and_true] at kT; obtain ⟨⟨kz0, kf0, kc0_0, kc0_1⟩, kE⟩ := kT
      clear hT2
      have HX := hide kE
      by_cases hlt : k < E.length
      · have hlz : 2 * (k : Int) < 2 * (E.length : Int) := by omega
        have hlz2 : (k : Int) < (E.length : Int) := by omega
        have hat := own_ext HAT.out HE.out
        have HN := hide (HPN.out k)
        have hlen := HP0.out k
        obtain ⟨i1, hi1⟩ : ∃ i1, i1 = 2 * k := ⟨_, rfl⟩
        obtain ⟨i2, hi2⟩ : ∃ i2, i2 = 2 * k + 1 := ⟨_, rfl⟩
        have ca1 := own_cellR hat (k := i1) (by omega)
        have ca2 := own_cellR hat (k := i2) (by omega)
        have hag := (own_ltg hat).2
        have y1 : (2 * (k : Int)).toNat = i1 := by omega
        have y2 : (2 * (k : Int) + 1).toNat = i2 := by omega
        have y3 : (0 : Int) ≤ 2 * (k : Int) := by omega
        have y4 : (0 : Int) ≤ 2 * (k : Int) + 1 := by omega
        have y5 : 2 * (k : Int) + 1 < 2 * (E.length : Int) := by omega
        have y6 : IntKind.i64.wrap (2 * (k : Int)) = 2 * (k : Int) := by rw [IntKind.wrap_i64]; omega
        have y7 : IntKind.i64.wrap (2 * (k : Int) + 1) = 2 * (k : Int) + 1 := by rw [IntKind.wrap_i64]; omega
        rw [← hi2, ← hi1] at HN
        obtain ⟨x, hx⟩ : ∃ x, s i1 = x := ⟨_, rfl⟩
        obtain ⟨y, hy⟩ : ∃ y, s i2 = y := ⟨_, rfl⟩
        rw [hx] at ca1 HN
        rw [hy] at ca2 HN
        have HC1 := hide ca1
        have HC2 := hide ca2
        have HGA := hide (own_ltg HAT.out).2
        clear hi1 hi2 hat hx hy ca1 ca2
        obtain ⟨hs, hg⟩ := HG.out
        have HGk := hide hg
        clear hg HG
        go_wp2_with fail
        clear kz0 kf0 kc0_0 kc0_1 kE
        
        have HNE : Hid (u4.ownBlock ≠ some ga) := hide (fun e => by have := (HGk.out.own.lt ga e).1; have := HGA.out; omega)
        have HGV := hide (show ∀ g, u4.ownBlock = some g → g < wr.heap.size from fun g e => (HGk.out.own.lt g e).2)
        have HGA1 := hide (HGk.out.ext (((Ext.refl wr).drew).alloc (.cells #[.int .i64 (x : Int), .int .i64 (y : Int)] 3)))
        have HOWN := hide (own_ext HGk.out.own ((((Ext.refl wr).drew).alloc (.cells #[.int .i64 (x : Int), .int .i64 (y : Int)] 3)).alloc (.cells #[Value.slice (some ⟨wr.heap.size, 0, none⟩) 2 2] 29)))
        have HNB := hide (show ((wr.drew.alloc (.cells #[.int .i64 (x : Int), .int .i64 (y : Int)] 3)).alloc (.cells #[Value.slice (some ⟨wr.heap.size, 0, none⟩) 2 2] 29)).heap[wr.heap.size + 1]? = some (.cells #[Value.slice (some ⟨wr.heap.size, 0, none⟩) 2 2] 29) from by
          have h := heap_alloc_new (wr.drew.alloc (.cells #[.int .i64 (x : Int), .int .i64 (y : Int)] 3)) (.cells #[Value.slice (some ⟨wr.heap.size, 0, none⟩) 2 2] 29)
          simpa using h)
        have cg1 : wr.cell? ⟨ga, i1, none⟩ = some (.int .i64 (x : Int)) := HC1.out
        have cg2 : wr.cell? ⟨ga, i2, none⟩ = some (.int .i64 (y : Int)) := HC2.out
        go_region_held3 (fun w' => w'.cell? ⟨ga, i1, none⟩ = some (.int .i64 (x : Int)) ∧ w'.cell? ⟨ga, i2, none⟩ = some (.int .i64 (y : Int)))
          (first | go_keep | (go_split_ands; refine ⟨?_, ?_⟩ <;> (rw [hgrow.cell_far _ (by simp; omega) (by first | exact fun e => HNE.out e.symm | exact HNE.out)]; assumption)))
          ((refine step_append_lies _ (by rfl) _ _ _ (by rfl) w3.heap.size 29 i0 (.slice none 0 0) 1 24 Try.underlying66 hi hz0 hz1 hz2 rfl (by omega) u4 (Fp k).length hs (by rfl) HOWN.out ⟨wr.heap.size + 1, 0, none⟩ 1 1 [Value.slice (some ⟨wr.heap.size, 0, none⟩) 2 2] (by rfl) (by rfl) (World.news_of_block (cs := #[Value.slice (some ⟨wr.heap.size, 0, none⟩) 2 2]) (t := 29) (fr := (0, 0)) HNB.out) (by intro u hu; simp at hu; subst hu; rfl) (by omega) (by unfold maxLen; omega) (by omega) (by simp; omega) (wr.heap.size + 2) (by simp) ?_; intro gg cap w6 hown6 hgrow hat6 hlt6))
        have HR6 := hide (show ∃ hs, GT w6 w3.heap.size 29 (.slice (some ⟨gg, 0, none⟩) ((Fp k).length + 1) cap) (Fp (k + 1)) hs from by
          rw [HN.out]
          refine ⟨_, HGA1.out.more (g := wr.heap.size) (l := [x, y]) (ci := 2) hsz (by simp) (fun e => by have := HGV.out _ e; omega) (Nat.le_refl _) (by
            have h := World.ownsRow_lit (base := wr.heap.size) (e := 3) (size := 1) wr.drew #[.int .i64 (x : Int), .int .i64 (y : Int)] 2 (Nat.le_refl _) (by unfold maxLen; omega) rfl
            exact Rds.of_own h) hgrow (by
            rcases hat6 with h | h
            · exact .inl (by rw [h]; rfl)
            · exact .inr (by rw [h]; simp [Value.ownBlock])) hown6⟩)
        have E6 := hide (Ext.grown (show Ext w3 _ from ((HE.out.drew.alloc _)).alloc _) hgrow (own_base HGk.out.own (Nat.le_refl _)))
        go_wp2_with fail
        clear hown6 hgrow hat6 hlt6 cg1 cg2
        go_roundw
        case rel => exact ⟨k + 1, by omega, by go_num, hide (by have h := HR6.out; rw [hlen] at h; exact h), by first | exact E6 | exact hide E6.out⟩
        case measure => simp [intOf]; omega
      · obtain rfl : k = E.length := by omega
        obtain ⟨hs, hg⟩ := HG.out
        obtain ⟨A5, c5, rfl, h1, _, h3⟩ := hg.done
        have HRT := hide h3
        have hlen := HP0.out E.length
        rw [hlen]
        clear hg h1 h3 HG
        have hlz : ¬ (E.length : Int) < (E.length : Int) := by omega
        go_wp2_with fail
        refine (HFO.out _ kE).mono ?_
        rintro e w6 ⟨A6, c6, rfl, hb6⟩
        have HRT6 := hide (HRT.out.ext hb6)
        have HX6 := hide (HX.out.trans hb6)
        clear hb6
        clear kE
        go_wp2_with fail
        refine (HMX.out _ A5 c5 HRT6.out).mono ?_
        rintro e w7 ⟨A7, c7, rfl, hc7, hmat, hb7⟩
        have HX7 := hide (HX6.out.trans hb7)
        have hsz7 := HX6.out.size
        have HM7 := hide hmat
        clear hb7 hmat
        go_wp2_with fail
        rcases Nat.eq_zero_or_pos q with h0 | h0
        · subst h0
          refine (l16Det_zero c7 A7 _).mono ?_
          rintro e w8 ⟨rfl, hb8⟩
          have HX8 := hide (HX7.out.trans hb8)
          clear hb8
          go_wp2_with fail
          go_ret
          exact ⟨ret_int (by rw [HV.out]; rfl), HX8.out⟩
        · obtain ⟨hd, rfl, hM⟩ := HM7.out h0
          refine (l16Det_any q hd c7 w6.heap.size _ _ (by omega) hc7 HSM.out hM).mono ?_
          rintro e w8 ⟨rfl, hb8⟩
          have HX8 := hide (show Ext w w8 from Below.trans HX7.out (Below.mono hb8 hsz7))
          clear hb8 hM
          go_wp2_with fail
          go_ret
          exact ⟨ret_int HV.out.symm, HX8.out⟩
end Go.Proofs.Ytkgbilbicdiadaa