/- Words and walks for the law FnMatches, a part of them. No condition but that the arguments lie in memory. -/
import Derived.Test.YtabgcpoaepafjaaGreatU21
import Derived.Test.YtabgcpoaepafjaaGreatU23
import Derived.Test.YtabgcpoaepafjaaGreatU24
set_option linter.unusedVariables false
set_option linter.unusedSimpArgs false
namespace Go.Proofs.YtabgcpoaepafjaaGreat
open Go.RowKit
/-- The nodes with their numbers. -/
def ptsL (N : List P2) (V : List Int) : List P2 := V.map (at2 N)
theorem ptsL_length (N : List P2) (V : List Int) : (ptsL N V).length = V.length := by simp [ptsL]
theorem ptsL_take {N : List P2} {V : List Int} {k : Nat} (hk : k < V.length) : ptsL N (V.take (k + 1)) = ptsL N (V.take k) ++ [at2 N V[k]] := by
  unfold ptsL
  rw [List.take_succ_eq_append_getElem hk, List.map_append]
  rfl
noncomputable def shapeV (N E : List P2) (f : Int) : List P2 := if isPaneB N E f = true then Shp.fit (ptsL N (paneV N E f)) else []
theorem shapeV_no {N E : List P2} {f : Int} (h : isPaneB N E f = false) : shapeV N E f = [] := by unfold shapeV; rw [if_neg (by simp [h])]
theorem shapeV_yes {N E : List P2} {f : Int} (h : isPaneB N E f = true) : shapeV N E f = Shp.fit (ptsL N (paneV N E f)) := by unfold shapeV; rw [if_pos h]
theorem isPane_pos {N E : List P2} {f : Int} (h : isPaneB N E f = true) : 0 < (paneV N E f).length := by
  unfold isPaneB at h
  simp only [Bool.and_eq_true, decide_eq_true_eq] at h
  exact h.1
theorem paneV_node {N E : List P2} {f : Int} {k : Nat} (hk : k < (paneV N E f).length) : ∃ j : Nat, (paneV N E f)[k]? = some ((j : Nat) : Int) ∧ j < N.length ∧ nodeOk (at2 N (j : Nat)) = true := by
  have hin : inR f 0 (((fcs N E).length : Int) - 1) = true := by
    cases h : inR f 0 (((fcs N E).length : Int) - 1) with
    | true => rfl
    | false => rw [paneV_no h] at hk; exact absurd hk (by simp)
  obtain ⟨m, rfl, hm⟩ := in_face hin
  have hok := (fcs_at hm).1
  have hld := (fcs_at hm).2.1
  have hk2 : k < ((fcs N E)[m]).length := by rw [paneV_yes hm, nodesL_length] at hk; exact hk
  have e : (paneV N E (m : Nat))[k] = fromN E ((fcs N E)[m])[k] := by
    have := paneV_yes hm
    simp only [this]
    simp [nodesL]
  obtain ⟨h1, h2, h3⟩ := hok.ends (hld _ (List.getElem_mem hk2))
  rw [List.getElem?_eq_getElem hk, e]
  obtain ⟨j, hj⟩ := Int.eq_ofNat_of_zero_le h1
  rw [hj] at h2 h3
  rw [hj]
  exact ⟨j, rfl, by omega, h3⟩
theorem ptsL_small {N E : List P2} {f : Int} : Shp.small (ptsL N (paneV N E f)) := by
  intro p hp
  obtain ⟨x, hx, rfl⟩ := List.mem_map.1 hp
  obtain ⟨k, hk, rfl⟩ := List.getElem_of_mem hx
  obtain ⟨j, e, _, h⟩ := paneV_node hk
  rw [List.getElem?_eq_getElem hk] at e
  rw [Option.some.inj e]
  have := nodeOk_iff.1 h
  omega
theorem shapeV_len {N E : List P2} {f : Int} : (shapeV N E f).length ≤ 40 := by
  unfold shapeV
  split
  · rw [Shp.fit_length, ptsL_length]
    exact paneV_len
  · simp
theorem one_node (a b : Int) : ∀ u ∈ [Value.int .i64 a, Value.int .i64 b], u.oneCell' = true := Shp.one2 a b
set_option maxRecDepth 20000 in
set_option maxHeartbeats 4000000 in
theorem ShapeOf_any (N E : List P2) (A B : Option Addr) (c c' : Nat) (f : Int) (w : World) (hw : WR w N E A B c c') :
    Calls Tryz.prog 52 #[.agg #[.slice A N.length c, .slice B E.length c'], .int .i64 f] w fun e w' => ∃ A2 c2, e = .returned (.slice A2 (shapeV N E f).length c2) ∧ w'.ownsRow w.heap.size 84 2 (.slice A2 (shapeV N E f).length c2) (shapeV N E f).length (enc2 (shapeV N E f)) ∧ Ext w w' := by
  obtain ⟨i0, hi, hz0, hz1, hz2⟩ := info_parts Shp.append_info
  have HW := hide hw
  have HI := hide (fun (W : World) (hE : Ext w W) => IsPane_any N E A B c c' f W (hw.ext hE))
  have HP := hide (fun (W : World) (hE : Ext w W) => PaneNodes_any N E A B c c' f W (hw.ext hE))
  have hvl := paneV_len (N := N) (E := E) (f := f)
  have HSN := hide (fun h => shapeV_no (N := N) (E := E) (f := f) h)
  have HSY := hide (fun h => shapeV_yes (N := N) (E := E) (f := f) h)
  have HPO := hide (fun h => isPane_pos (N := N) (E := E) (f := f) h)
  have HND := hide (fun k hk => paneV_node (N := N) (E := E) (f := f) (k := k) hk)
  have HSM := hide (ptsL_small (N := N) (E := E) (f := f))
  have hN := hw.hN
  have hNc := hw.hc
  obtain ⟨V, hV⟩ : ∃ V, paneV N E f = V := ⟨_, rfl⟩
  obtain ⟨p, hp⟩ : ∃ p, isPaneB N E f = p := ⟨_, rfl⟩
  obtain ⟨S, hS⟩ : ∃ S, shapeV N E f = S := ⟨_, rfl⟩
  rw [hS, hp] at HSN HSY
  rw [hV] at HSY HPO HSM HP hvl HND
  rw [hp] at HI HPO
  rw [hS]
  clear hw hV hp hS
  
  go_enter Tryz.func52, Tryz.ntmps52
  go_wp2_with fail
  obtain ⟨w0, hw⟩ : ∃ w1, w1 = w.alloc (Obj.cells #[Value.slice A N.length c, Value.slice B E.length c'] 27) := ⟨_, rfl⟩; rw [← hw]; have kT : Tr [(w.heap.size, [.slice A N.length c, .slice B E.length c'])] w w0 := (by rw [hw]; exact ⟨by (first | (simp [Bx, CellsAt, go_sem, *]; done) | (simp [Bx, CellsAt, go_sem, *]; omega)), by (repeat (first | exact kE | exact Ext.refl _ | apply Ext.alloc | apply Ext.drewN | apply Ext.drew | apply Ext.set0 | apply Ext.set1 | apply Ext.set2 | apply Ext.set3 | (refine Ext.setk ?_ (by omega) _) | (apply Ext.snoc; assumption)))⟩); have HT := hide kT; clear hw kT; have kT := HT.out; simp only [Tr, Bx, CellsAt, Nat.reduceAdd, Nat.zero_add, and_true] at kT; obtain ⟨⟨kz0, kf0, kc0_0, kc0_1⟩, kE⟩ := kT
  refine (HI.out _ kE).mono ?_
  rintro e w4 ⟨rfl, hb4⟩
  have HT' := hide (HT.out.ext hb4)
  clear hb4 HT
  have HT := HT'
  clear HT'
  clear kz0 kf0 kc0_0 kc0_1 kE
  have kT := HT.out; simp only [Tr, Bx, CellsAt, Nat.reduceAdd, Nat.zero_add, and_true] at kT; obtain ⟨⟨kz0, kf0, kc0_0, kc0_1⟩, kE⟩ := kT
  have HE4 := hide kE
  cases p with
  | false =>
    have HS0 := hide (HSN.out rfl)
    go_wp2_with fail
    go_ret
    rw [HS0.out]
    exact ⟨none, 0, rfl, World.ownsRow_nil _ _ _ _, HE4.out⟩
  | true =>
    have HS1 := hide (HSY.out rfl)
    have hpos := HPO.out rfl
    clear HSN HSY HPO HI
    go_wp2_with fail
    refine (HP.out _ kE).mono ?_
    rintro e w5 ⟨A2, c2, rfl, _, _, hown, hb5⟩
    have HRV := hide (Rds.of_own hown)
    have HT' := hide (HT.out.ext hb5)
    clear hown hb5 HT
    have HT := HT'
    clear HT'
    clear kz0 kf0 kc0_0 kc0_1 kE
    have kT := HT.out; simp only [Tr, Bx, CellsAt, Nat.reduceAdd, Nat.zero_add, and_true] at kT; obtain ⟨⟨kz0, kf0, kc0_0, kc0_1⟩, kE⟩ := kT
    have HE5 := hide kE
    have HTZ := HT
    go_wp2_with fail
    clear kz0 kf0 kc0_0 kc0_1 kE
    clear HT
    go_loopw [5, 16] (fun v i wr => ∃ k : Nat, k ≤ V.length ∧ i = .int .i64 k ∧ Hid (wr.ownsRow w5.heap.size 84 2 v k (enc2 (ptsL N (V.take k)))) ∧ Hid (Ext w5 wr)) (fun _ i _ => V.length - (intOf i).toNat)
    case atStart => exact ⟨0, Nat.zero_le _, rfl, hide (World.ownsRow_nil _ _ _ _), hide (Ext.refl _)⟩
    case round =>
      obtain ⟨k, hk, rfl, HO, HE⟩ := hrel
      by_cases hkl : k < V.length
      · have HT := hide (HTZ.out.ext HE.out)
        have kT := HT.out; simp only [Tr, Bx, CellsAt, Nat.reduceAdd, Nat.zero_add, and_true] at kT; obtain ⟨⟨kz0, kf0, kc0_0, kc0_1⟩, kE⟩ := kT
        have hkz : (k : Int) < (V.length : Int) := by omega
        obtain ⟨b3, off3, rfl, hb3, cj⟩ := RI.at_ (HRV.out.ext HE.out) hkl
        have HTK := hide (ptsL_take (N := N) hkl)
        obtain ⟨j, hj, hjN, hjo⟩ := HND.out k hkl
        rw [List.getElem?_eq_getElem hkl] at hj
        have hj := Option.some.inj hj
        have hxy := nodeOk_iff.1 hjo
        rw [hj] at cj HTK
        rw [at2_eq hjN] at HTK hxy
        obtain ⟨b4, off4, hA4, hb4, e0, e1⟩ := R2.at_ (HW.out.hr.ext kE) hjN
        subst hA4
        obtain ⟨x, hx⟩ : ∃ x, N[j].1 = x := ⟨_, rfl⟩
        obtain ⟨y, hy⟩ : ∃ y, N[j].2 = y := ⟨_, rfl⟩
        have hN2 : N[j] = (x, y) := by rw [← hx, ← hy]
        rw [hN2] at HTK
        rw [hx] at e0
        rw [hy] at e1
        have hjz : (j : Int) < (N.length : Int) := by omega
        have hsz := HE.out.size
        clear hj hjo hx hy hN2
        go_wp2_with (at_builtin; refine wpList_append_own _ rfl _ _ 24 rfl w5.heap.size 84 i0 (.agg #[.int .i64 0, .int .i64 0]) 2 16 Tryz.underlying24 hi hz0 hz1 hz2 rfl (by decide) u5 k (enc2 (ptsL N (V.take k))) rfl (own_ext HO.out ((Ext.refl _).alloc _)) ⟨wr.heap.size, 0, none⟩ 1 1 [.int .i64 x, .int .i64 y] rfl rfl (by simpa using news_new wr #[.int .i64 x, .int .i64 y] 84) (one_node _ _) (by unfold maxLen; omega) (by omega) (by simp; omega) ?_; intro v' w6 hown6 hgrow6 hnil)
        have E6 := hide (Ext.grown (HE.out.alloc _) hgrow6 (own_base HO.out (Nat.le_refl _)))
        have HO6 := hide (show w6.ownsRow w5.heap.size 84 2 v' (k + 1) (enc2 (ptsL N (V.take (k + 1)))) from by
          rw [HTK.out, Shp.enc2_snoc]
          exact hown6)
        clear hown6 hgrow6 hnil cj e0 e1
        go_roundw
        case rel => exact ⟨k + 1, by omega, by go_num, HO6, E6⟩
        case measure => simp [intOf]; omega
      · obtain rfl : k = V.length := by omega
        have ho := HO.out
        rw [List.take_length] at ho
        have hpl := ptsL_length N V
        rw [← hpl] at ho
        obtain ⟨A', c4, e1, _⟩ := own_slice ho
        subst e1
        have HF := hide (Shp.begun_any (ptsL N V) A' c4 wr (by rw [hpl]; omega) (by rw [hpl]; exact hpos) HSM.out (Rds.of_own ho))
        have HEQ := hide hpl
        clear ho hpl
        go_wp2_with fail
        refine HF.out.mono ?_
        rintro e w7 ⟨A7, c7, rfl, ho7, hb7⟩
        have HO7 := hide ho7
        have HE7 := hide (HE5.out.trans (HE.out.trans hb7))
        have hsz7 := (HE5.out.trans HE.out).size
        clear ho7 hb7
        go_wp2_with fail
        go_ret
        rw [HS1.out]
        exact ⟨A7, c7, rfl, own_mono HO7.out hsz7, HE7.out⟩
set_option maxRecDepth 20000 in
set_option maxHeartbeats 4000000 in
theorem sShapeOf_any (N E : List P2) (A B : Option Addr) (c c' : Nat) (f : Int) (w : World) (hw : WR w N E A B c c') :
    Calls Tryz.prog 17 #[.agg #[.slice A N.length c, .slice B E.length c'], .int .i64 f] w fun e w' => ∃ A2 c2, e = .returned (.slice A2 (shapeV N E f).length c2) ∧ w'.ownsRow w.heap.size 84 2 (.slice A2 (shapeV N E f).length c2) (shapeV N E f).length (enc2 (shapeV N E f)) ∧ Ext w w' := by
  obtain ⟨i0, hi, hz0, hz1, hz2⟩ := info_parts Shp.append_info
  have HW := hide hw
  have HI := hide (fun (W : World) (hE : Ext w W) => sIsPane_any N E A B c c' f W (hw.ext hE))
  have HP := hide (fun (W : World) (hE : Ext w W) => sPaneNodes_any N E A B c c' f W (hw.ext hE))
  have hvl := paneV_len (N := N) (E := E) (f := f)
  have HSN := hide (fun h => shapeV_no (N := N) (E := E) (f := f) h)
  have HSY := hide (fun h => shapeV_yes (N := N) (E := E) (f := f) h)
  have HPO := hide (fun h => isPane_pos (N := N) (E := E) (f := f) h)
  have HND := hide (fun k hk => paneV_node (N := N) (E := E) (f := f) (k := k) hk)
  have HSM := hide (ptsL_small (N := N) (E := E) (f := f))
  have hN := hw.hN
  have hNc := hw.hc
  obtain ⟨V, hV⟩ : ∃ V, paneV N E f = V := ⟨_, rfl⟩
  obtain ⟨p, hp⟩ : ∃ p, isPaneB N E f = p := ⟨_, rfl⟩
  obtain ⟨S, hS⟩ : ∃ S, shapeV N E f = S := ⟨_, rfl⟩
  rw [hS, hp] at HSN HSY
  rw [hV] at HSY HPO HSM HP hvl HND
  rw [hp] at HI HPO
  rw [hS]
  clear hw hV hp hS
  
  go_enter Tryz.func17, Tryz.ntmps17
  go_wp2_with fail
  obtain ⟨w0, hw⟩ : ∃ w1, w1 = (w.alloc (Obj.cells #[Value.slice A N.length c, Value.slice B E.length c'] 27)).alloc (Obj.cells #[] 84) := ⟨_, rfl⟩; rw [← hw]; have kT : Tr [(w.heap.size, [.slice A N.length c, .slice B E.length c'])] w w0 := (by rw [hw]; exact ⟨by (first | (simp [Bx, CellsAt, go_sem, *]; done) | (simp [Bx, CellsAt, go_sem, *]; omega)), by (repeat (first | exact kE | exact Ext.refl _ | apply Ext.alloc | apply Ext.drewN | apply Ext.drew | apply Ext.set0 | apply Ext.set1 | apply Ext.set2 | apply Ext.set3 | (refine Ext.setk ?_ (by omega) _) | (apply Ext.snoc; assumption)))⟩); have HT := hide kT; clear kT; have kT := HT.out; simp only [Tr, Bx, CellsAt, Nat.reduceAdd, Nat.zero_add, and_true] at kT; obtain ⟨⟨kz0, kf0, kc0_0, kc0_1⟩, kE⟩ := kT
  have HO0 := hide (show w0.ownsRow (w.heap.size + 1) 84 2 (.slice (some ⟨w.heap.size + 1, 0, none⟩) 0 0) 0 [] from by
    rw [hw]
    have h := lit_own (w.alloc (Obj.cells #[Value.slice A N.length c, Value.slice B E.length c'] 27)) 84 2
    simpa using h)
  have hsz0 : w.heap.size + 1 < w0.heap.size := by rw [hw]; simp
  clear hw
  refine (HI.out _ kE).mono ?_
  rintro e w4 ⟨rfl, hb4⟩
  have HO4 := hide (own_ext HO0.out hb4)
  have hsz4 := Nat.lt_of_lt_of_le hsz0 hb4.size
  have HT' := hide (HT.out.ext hb4)
  clear hb4 HT HO0 hsz0
  have HT := HT'
  clear HT'
  clear kz0 kf0 kc0_0 kc0_1 kE
  have kT := HT.out; simp only [Tr, Bx, CellsAt, Nat.reduceAdd, Nat.zero_add, and_true] at kT; obtain ⟨⟨kz0, kf0, kc0_0, kc0_1⟩, kE⟩ := kT
  have HE4 := hide kE
  cases p with
  | false =>
    have HS0 := hide (HSN.out rfl)
    go_wp2_with fail
    go_ret
    rw [HS0.out]
    exact ⟨some ⟨w.heap.size + 1, 0, none⟩, 0, rfl, own_mono HO4.out (by omega), HE4.out⟩
  | true =>
    have HS1 := hide (HSY.out rfl)
    have hpos := HPO.out rfl
    clear HSN HSY HPO HI
    go_wp2_with fail
    refine (HP.out _ kE).mono ?_
    rintro e w5 ⟨A2, c2, rfl, hown, hb5⟩
    have HRV := hide (Rds.of_own hown)
    have HBV := hide (fun a (e : A2 = some a) => (hown.lt a.block (by rw [e]; rfl)).1)
    have HO5 := hide (own_ext HO4.out hb5)
    have HOR := hide (OutR.start HO5.out (fun k e => by injection e with e; exact e.symm))
    have hsz5 := Nat.lt_of_lt_of_le hsz4 hb5.size
    have HT' := hide (HT.out.ext hb5)
    clear hown hb5 HT HO4
    have HT := HT'
    clear HT'
    clear kz0 kf0 kc0_0 kc0_1 kE
    have kT := HT.out; simp only [Tr, Bx, CellsAt, Nat.reduceAdd, Nat.zero_add, and_true] at kT; obtain ⟨⟨kz0, kf0, kc0_0, kc0_1⟩, kE⟩ := kT
    have HE5 := hide kE
    have HTZ := HT
    go_wp2_with fail
    clear kz0 kf0 kc0_0 kc0_1 kE
    clear HT
    go_loopw [5, 7] (fun v i wr => ∃ k : Nat, k ≤ V.length ∧ i = .int .i64 k ∧ Hid (OutR w5 wr (w.heap.size + 1) 84 2 v k (enc2 (ptsL N (V.take k))))) (fun _ i _ => V.length - (intOf i).toNat)
    case atStart => exact ⟨0, Nat.zero_le _, rfl, HOR⟩
    case round =>
      clear HOR
      obtain ⟨k, hk, rfl, HO⟩ := hrel
      by_cases hkl : k < V.length
      · have hkz : (k : Int) < (V.length : Int) := by omega
        obtain ⟨b3, off3, rfl, hb3, cj5⟩ := RI.at_ HRV.out hkl
        have hbv : w4.heap.size ≤ b3 := HBV.out _ rfl
        have cj := HO.out.cell hb3 (by omega) cj5
        have HTK := hide (ptsL_take (N := N) hkl)
        obtain ⟨j, hj, hjN, hjo⟩ := HND.out k hkl
        rw [List.getElem?_eq_getElem hkl] at hj
        have hj := Option.some.inj hj
        rw [hj] at cj HTK
        rw [at2_eq hjN] at HTK
        obtain ⟨b4, off4, hA4, hb4, e05, e15⟩ := R2.at_ HW.out.hr hjN
        subst hA4
        have hb4' := Nat.lt_of_lt_of_le hb4 HE5.out.size
        have e0 := HO.out.cell hb4' (by omega) ((HE5.out.facts.1 _ _ hb4).trans e05)
        have e1 := HO.out.cell hb4' (by omega) ((HE5.out.facts.1 _ _ hb4).trans e15)
        have kz0 := HTZ.out.1.1.1
        have kc0_0 := HO.out.cell kz0 (by omega) HTZ.out.1.1.2.2.1
        have kc0_1 := HO.out.cell kz0 (by omega) HTZ.out.1.1.2.2.2.1
        obtain ⟨x, hx⟩ : ∃ x, N[j].1 = x := ⟨_, rfl⟩
        obtain ⟨y, hy⟩ : ∃ y, N[j].2 = y := ⟨_, rfl⟩
        have hN2 : N[j] = (x, y) := by rw [← hx, ← hy]
        rw [hN2] at HTK
        rw [hx] at e0
        rw [hy] at e1
        have hjz : (j : Int) < (N.length : Int) := by omega
        have hsz := HO.out.2.1.size
        have HN1 := hide (show u5.ownBlock ≠ some w.heap.size from fun e => by have := HO.out.2.2 _ e; omega)
        have HN2 := hide (show u5.ownBlock ≠ some b3 from fun e => by have := HO.out.2.2 _ e; omega)
        have HN3 := hide (show u5.ownBlock ≠ some b4 from fun e => by have := HO.out.2.2 _ e; omega)
        have hz1' : w.heap.size < wr.heap.size := by omega
        have hz2' : b3 < wr.heap.size := by omega
        have hz3' : b4 < wr.heap.size := by omega
        clear hj hjo hx hy hN2 e05 e15 cj5
        go_wp2_with fail
        go_region_held3 (fun w' => w'.cell? ⟨w.heap.size, 0, none⟩ = some (.slice (some ⟨b4, off4, none⟩) N.length c) ∧ w'.cell? ⟨w.heap.size, 1, none⟩ = some (.slice B E.length c') ∧ w'.cell? ⟨b3, off3 + k, none⟩ = some (.int .i64 (j : Nat)) ∧ w'.cell? ⟨b4, off4 + j * 2, none⟩ = some (.int .i64 x) ∧ w'.cell? ⟨b4, off4 + j * 2 + 1, none⟩ = some (.int .i64 y))
          (first | go_keep | (go_split_ands; refine ⟨?_, ?_, ?_, ?_, ?_⟩ <;> (rw [hgrow.cell_far _ (by simp; omega) (by first | exact fun e => HN1.out e.symm | exact HN1.out | exact fun e => HN2.out e.symm | exact HN2.out | exact fun e => HN3.out e.symm | exact HN3.out)]; assumption)))
          ((refine step_append_lies _ (by rfl) _ _ _ (by rfl) (w.heap.size + 1) 84 i0 (.agg #[.int .i64 0, .int .i64 0]) 2 16 Tryz.underlying24 hi hz0 hz1 hz2 rfl (by omega) u5 k (enc2 (ptsL N (V.take k))) (by rfl) ((own_ext HO.out.1 ((Ext.refl _).alloc _)).drew) ⟨wr.heap.size, 0, none⟩ 1 1 [.int .i64 x, .int .i64 y] (by rfl) (by rfl) (World.news_of_block (cs := #[.int .i64 x, .int .i64 y]) (t := 84) (fr := (0, 0)) (heap_alloc_new wr _)) (one_node _ _) (by omega) (by unfold maxLen; omega) (by omega) (by simp; omega) (wr.heap.size + 1) (by simp) ?_; intro gg cap w6 hown6 hgrow hat hlt4))
        go_wp2
        have ho6 : w6.ownsRow (w.heap.size + 1) 84 2 (.slice (some ⟨gg, 0, none⟩) (k + 1) cap) (k + 1) (enc2 (ptsL N (V.take (k + 1)))) := by
          rw [HTK.out, Shp.enc2_snoc]
          exact hown6
        have HO6 := hide (HO.out.app2 (((Ext.refl wr).alloc _).drew) ho6 hgrow hat (Nat.le_succ _))
        clear ho6
        clear hown6 hgrow hat hlt4
        go_roundw
        case rel => exact ⟨k + 1, by omega, by go_num, HO6⟩
        case measure => simp [intOf]; omega
      · obtain rfl : k = V.length := by omega
        have ho := HO.out
        rw [List.take_length] at ho
        have hpl := ptsL_length N V
        rw [← hpl] at ho
        obtain ⟨A', c4, e1, _⟩ := own_slice ho.1
        subst e1
        have HF := hide (Shp.l18Fit_any (ptsL N V) A' c4 wr (by rw [hpl]; omega) (by rw [hpl]; exact hpos) HSM.out (Rds.of_own ho.1))
        have HE9 := hide (ho.ext0 HE5.out (by omega))
        clear ho hpl
        go_wp2_with fail
        refine HF.out.mono ?_
        rintro e w7 ⟨A7, c7, rfl, ho7, hb7⟩
        have HO7 := hide ho7
        have HE7 := hide (HE9.out.trans hb7)
        have hsz7 := HE9.out.size
        clear ho7 hb7
        go_wp2_with fail
        go_ret
        rw [HS1.out]
        exact ⟨A7, c7, rfl, own_mono HO7.out hsz7, HE7.out⟩
end Go.Proofs.YtabgcpoaepafjaaGreat
namespace Go.Proofs.YtabgcpoaepafjaaGreat
open Shp
theorem faces_walk {f : Nat → Nat} {m : Nat} : ∀ n, ∀ l ∈ facesTo f m n, ∃ d, d < n ∧ l = walkL f m d
  | 0, l, h => by simp [facesTo] at h
  | n + 1, l, h => by
    simp only [facesTo] at h
    split at h
    · obtain ⟨d, h1, h2⟩ := faces_walk n l h
      exact ⟨d, by omega, h2⟩
    · rcases List.mem_append.1 h with h | h
      · obtain ⟨d, h1, h2⟩ := faces_walk n l h
        exact ⟨d, by omega, h2⟩
      · simp at h
        exact ⟨n, by omega, h⟩
theorem next_from {N E : List P2} {d : Nat} (hd : d < 2 * E.length) : fromN E (nextN N E d) = fromN E (twin d) := (around_mem.1 (beside_mem (N := N) (twin_lt hd) (-1))).2
theorem pane_shape {N E : List P2} {m : Nat} (h : wholeB N E = true) (hm : m < (fcs N E).length) (hp : isPaneB N E (m : Nat) = true) : NS (shapeV N E (m : Nat)) ∧ 0 < arS (shapeV N E (m : Nat)) ∧ (shapeV N E (m : Nat)).length = (paneV N E (m : Nat)).length := by
  obtain ⟨hW, hm0, hwh⟩ := wholeB_iff.1 h
  rw [shapeV_yes hp]
  have hpos := isPane_pos hp
  have hout : ((m : Nat) : Int) ≠ outerI N E ∧ (paneV N E (m : Nat)).Nodup := by
    unfold isPaneB at hp
    simp only [Bool.and_eq_true, Bool.not_eq_true', decide_eq_true_eq, decide_eq_false_iff_not] at hp
    exact hp.2
  obtain ⟨k0, q1, q2, q3, _⟩ := outer_whole h
  have har : 0 < areaL N E (fcs N E)[m] := by
    have := q3 m hm (fun e => hout.1 (by rw [q2, e]))
    rw [List.getD_eq_getElem?_getD, List.getElem?_eq_getElem hm] at this
    exact this
  have hmem : (fcs N E)[m] ∈ facesL N E := by
    have hx : ∀ l, l ∈ fcs N E → l ∈ facesL N E := fun l hl => fcs_faces h ▸ hl
    exact hx _ (List.getElem_mem hm)
  obtain ⟨d, hd, hF⟩ := faces_walk _ _ hmem
  obtain ⟨p, hp1, _, hp2, _, hp3⟩ := (next_inj N E).walk hd
  rw [hp3] at hF
  have hpv : paneV N E (m : Nat) = (List.range p).map fun k => fromN E (it (nextN N E) k d) := by
    rw [paneV_yes hm, hF]
    simp [nodesL]
  have hpts : ptsL N (paneV N E (m : Nat)) = (List.range p).map fun k => ptN N E (it (nextN N E) k d) := by
    rw [hpv]
    simp [ptsL, ptN]
  have hlen : (ptsL N (paneV N E (m : Nat))).length = p := by rw [hpts]; simp
  have hit := fun k => (next_inj N E).it_lt hd k
  have hgp : ∀ i, i < p → gp (ptsL N (paneV N E (m : Nat))) i = ptN N E (it (nextN N E) i d) := fun i hi => by
    rw [gp_at (by rw [hlen]; exact hi)]
    simp [hpts]
  have hgn : ∀ i, i < p → gp (ptsL N (paneV N E (m : Nat))) (i + 1) = ptN N E (it (nextN N E) (i + 1) d) := fun i hi => by
    rcases Nat.lt_or_ge (i + 1) p with q | q
    · exact hgp _ q
    · obtain rfl : p = i + 1 := by omega
      rw [hp2]
      have := hgp 0 (by omega)
      rw [show it (nextN N E) 0 d = d from rfl] at this
      rw [← this]
      exact gp_mod (by rw [hlen]; simp)
  have h0 : 0 < (ptsL N (paneV N E (m : Nat))).length := by rw [hlen]; omega
  have hnd : Nd (ptsL N (paneV N E (m : Nat))) := by
    refine Nd.of_nodup (List.pairwise_iff_getElem.2 fun i j hi hj hij e => ?_) h0
    rw [hlen] at hi hj
    have e1 := hgp i hi
    have e2 := hgp j hj
    rw [gp_at (by rw [hlen]; exact hi)] at e1
    rw [gp_at (by rw [hlen]; exact hj)] at e2
    rw [e1, e2] at e
    have e3 := hW.pt_inj (hit i) (hit j) e
    have h2 := List.pairwise_iff_getElem.1 hout.2 i j (by rw [hpv]; simpa using hi) (by rw [hpv]; simpa using hj) hij
    apply h2
    simp only [hpv]
    simpa using e3
  have he20 : E20 (ptsL N (paneV N E (m : Nat))) := fun i k => by
    have hs : ∀ i, nodeOk (gp (ptsL N (paneV N E (m : Nat))) i) = true := fun i => by
      have hi := Nat.mod_lt i h0
      rw [gp_mod (L := ptsL N (paneV N E (m : Nat))) (i := i) (j := i % (ptsL N (paneV N E (m : Nat))).length) (by rw [Nat.mod_mod]), hgp _ (by rw [hlen] at hi ⊢; exact hi)]
      exact hW.pt_ok (hit _)
    have a := nodeOk_iff.1 (hs i)
    have b := nodeOk_iff.1 (hs k)
    omega
  refine ⟨NS.of_fit h0 hnd he20, ?_, by rw [fit_length, ptsL_length]⟩
  rw [ar_eqv (Eqv.fit h0)]
  have e : arS (ptsL N (paneV N E (m : Nat))) = areaL N E (fcs N E)[m] := by
    unfold arS areaL
    rw [hlen, hF, List.map_map, sumI_range]
    apply sumI_congr
    intro k hk
    rw [hgp k hk, hgn k hk]
    unfold crossP cross2 ptN
    simp only [Function.comp]
    have hf : fromN E (it (nextN N E) (k + 1) d) = fromN E (twin (it (nextN N E) k d)) := next_from (hit k)
    rw [hf]
  rw [e]
  exact har
end Go.Proofs.YtabgcpoaepafjaaGreat
namespace Go.Proofs.YtabgcpoaepafjaaGreat
open Go.RowKit
noncomputable def fillB (N E : List P2) (f : Int) (S : List P2) : Bool := isPaneB N E f && Shp.alikeB S (shapeV N E f)
set_option maxRecDepth 20000 in
set_option maxHeartbeats 4000000 in
theorem CanFill_any (N E S : List P2) (A B C : Option Addr) (c c' c3 : Nat) (f : Int) (w : World) (hw : WR w N E A B c c') (hl : S.length ≤ 1048576) (hr : R2 w C S) :
    Calls Tryz.prog 13 #[.agg #[.slice A N.length c, .slice B E.length c'], .int .i64 f, .slice C S.length c3] w fun e w' => e = .returned (.bool (fillB N E f S)) ∧ Ext w w' := by
  have HI := hide (fun (W : World) (hE : Ext w W) => IsPane_any N E A B c c' f W (hw.ext hE))
  have HS := hide (fun (W : World) (hE : Ext w W) => ShapeOf_any N E A B c c' f W (hw.ext hE))
  have HV := hide (show fillB N E f S = (isPaneB N E f && Shp.alikeB S (shapeV N E f)) from rfl)
  have hsl := shapeV_len (N := N) (E := E) (f := f)
  have HR := hide hr
  obtain ⟨v, hv⟩ : ∃ v, fillB N E f S = v := ⟨_, rfl⟩
  obtain ⟨p, hp⟩ : ∃ p, isPaneB N E f = p := ⟨_, rfl⟩
  obtain ⟨V, hV⟩ : ∃ V, shapeV N E f = V := ⟨_, rfl⟩
  rw [hv, hp, hV] at HV
  rw [hp] at HI
  rw [hV] at HS hsl
  rw [hv]
  clear hw hr hv hp hV
  
  go_enter Tryz.func13, Tryz.ntmps13
  go_wp2_with fail
  obtain ⟨w0, hw⟩ : ∃ w1, w1 = w.alloc (Obj.cells #[Value.slice A N.length c, Value.slice B E.length c'] 27) := ⟨_, rfl⟩; rw [← hw]; have kT : Tr [(w.heap.size, [.slice A N.length c, .slice B E.length c'])] w w0 := (by rw [hw]; exact ⟨by (first | (simp [Bx, CellsAt, go_sem, *]; done) | (simp [Bx, CellsAt, go_sem, *]; omega)), by (repeat (first | exact kE | exact Ext.refl _ | apply Ext.alloc | apply Ext.drewN | apply Ext.drew | apply Ext.set0 | apply Ext.set1 | apply Ext.set2 | apply Ext.set3 | (refine Ext.setk ?_ (by omega) _) | (apply Ext.snoc; assumption)))⟩); have HT := hide kT; clear hw kT; have kT := HT.out; simp only [Tr, Bx, CellsAt, Nat.reduceAdd, Nat.zero_add, and_true] at kT; obtain ⟨⟨kz0, kf0, kc0_0, kc0_1⟩, kE⟩ := kT
  refine (HI.out _ kE).mono ?_
  rintro e w4 ⟨rfl, hb4⟩
  have HT' := hide (HT.out.ext hb4)
  clear hb4 HT
  have HT := HT'
  clear HT'
  clear kz0 kf0 kc0_0 kc0_1 kE
  have kT := HT.out; simp only [Tr, Bx, CellsAt, Nat.reduceAdd, Nat.zero_add, and_true] at kT; obtain ⟨⟨kz0, kf0, kc0_0, kc0_1⟩, kE⟩ := kT
  have HE4 := hide kE
  cases p with
  | false =>
    have HVF := hide (show v = false from HV.out)
    go_wp2_with fail
    go_ret
    exact ⟨ret_bool HVF.out.symm, HE4.out⟩
  | true =>
    have HVA := hide (show v = Shp.alikeB S V from HV.out)
    go_wp2_with fail
    refine (HS.out _ kE).mono ?_
    rintro e w5 ⟨A5, c5, rfl, ho5, hb5⟩
    have HE5 := hide (HE4.out.trans hb5)
    have HA := hide (Shp.AreAlike_any S C c3 V A5 c5 w5 hl (by omega) (HR.out.ext HE5.out) (Rds.of_own ho5))
    clear ho5 hb5
    go_wp2_with fail
    refine HA.out.mono ?_
    rintro e w6 ⟨rfl, hb6⟩
    have HE6 := hide (HE5.out.trans hb6)
    clear hb6
    go_wp2_with fail
    go_ret
    exact ⟨ret_bool HVA.out.symm, HE6.out⟩
end Go.Proofs.YtabgcpoaepafjaaGreat
