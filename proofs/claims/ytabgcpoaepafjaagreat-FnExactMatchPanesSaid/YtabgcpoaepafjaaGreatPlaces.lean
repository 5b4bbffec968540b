/- The walks of PanesOf and PlacesFor (both forms). No condition but that a list has at most 1048576 elements. -/
import Derived.Test.YtabgcpoaepafjaaGreatFill
import Derived.Test.YtabgcpoaepafjaaGreatOut
set_option linter.unusedSimpArgs false
set_option linter.unusedVariables false
namespace Go.Proofs.YtabgcpoaepafjaaGreat
open Go.RowKit

def castZ (l : List Nat) : List Int := l.map fun x : Nat => (x : Int)
theorem castZ_length (l : List Nat) : (castZ l).length = l.length := by simp [castZ]
noncomputable def pansN (N E : List P2) : List Nat := (List.range (fcs N E).length).filter fun k => isPaneB N E (k : Nat)
noncomputable def placesN (N E S : List P2) : List Nat := (pansN N E).filter fun k => fillB N E (k : Nat) S
theorem pansN_len (N E : List P2) : (pansN N E).length ≤ 40 := Nat.le_trans (List.length_filter_le _ _) (by rw [List.length_range]; exact fcs_len)
theorem placesN_len (N E S : List P2) : (placesN N E S).length ≤ 40 := Nat.le_trans (List.length_filter_le _ _) (pansN_len N E)
theorem pansN_mem {N E : List P2} {k : Nat} (hk : k < (pansN N E).length) : (pansN N E)[k] < (fcs N E).length ∧ isPaneB N E ((pansN N E)[k] : Nat) = true := by
  have h := List.getElem_mem hk
  unfold pansN at h
  rw [List.mem_filter] at h
  exact ⟨List.mem_range.1 h.1, h.2⟩
theorem fr_yes {p : Nat → Bool} {k : Nat} (h : p k = true) : castZ ((List.range (k + 1)).filter p) = castZ ((List.range k).filter p) ++ [(k : Int)] := by
  rw [List.range_succ, List.filter_append]
  simp [h, castZ]
theorem fr_no {p : Nat → Bool} {k : Nat} (h : p k = false) : castZ ((List.range (k + 1)).filter p) = castZ ((List.range k).filter p) := by
  rw [List.range_succ, List.filter_append]
  simp [h, castZ]
theorem ft_yes {l : List Nat} {p : Nat → Bool} {k : Nat} (hk : k < l.length) (h : p l[k] = true) : castZ ((l.take (k + 1)).filter p) = castZ ((l.take k).filter p) ++ [(l[k] : Int)] := by
  rw [List.take_succ_eq_append_getElem hk, List.filter_append]
  simp [h, castZ]
theorem ft_no {l : List Nat} {p : Nat → Bool} {k : Nat} (hk : k < l.length) (h : p l[k] = false) : castZ ((l.take (k + 1)).filter p) = castZ ((l.take k).filter p) := by
  rw [List.take_succ_eq_append_getElem hk, List.filter_append]
  simp [h, castZ]
theorem encI_castZ_get {l : List Nat} {k : Nat} (hk : k < l.length) : (encI (castZ l))[k]? = some (.int .i64 ((l[k] : Nat) : Int)) := by simp [encI, castZ, hk]
set_option maxRecDepth 20000 in
set_option maxHeartbeats 8000000 in
theorem PanesOf_any (N E : List P2) (A B : Option Addr) (c c' : Nat) (w : World) (hw : WR w N E A B c c') :
    Calls Tryz.prog 53 #[.agg #[.slice A N.length c, .slice B E.length c']] w fun e w' => ∃ A2 c2, e = .returned (.slice A2 (pansN N E).length c2) ∧ w'.ownsRow w.heap.size 3 1 (.slice A2 (pansN N E).length c2) (pansN N E).length (encI (castZ (pansN N E))) ∧ Ext w w' := by
  obtain ⟨i0, hi, hz0, hz1, hz2⟩ := info_parts int_info
  have HIP := hide (fun (k : Nat) (W : World) (hE : Ext w W) => IsPane_any N E A B c c' (k : Int) W (hw.ext hE))
  have HFO := hide (fun (W : World) (hE : Ext w W) => (FacesOf_any N E A B c c' W (hw.ext hE)).mono (R' := fun e w' => ∃ A2 c2, e = .returned (.slice A2 (fcs N E).length c2) ∧ Ext W w') (by rintro e w' ⟨A2, c2, h1, _, _, _, _, h2⟩; exact ⟨A2, c2, h1, h2⟩))
  have hl40 := fcs_len (N := N) (E := E)
  obtain ⟨V, hV⟩ : ∃ V, pansN N E = V := ⟨_, rfl⟩
  have HV := hide (show V = (List.range (fcs N E).length).filter (fun k => isPaneB N E (k : Nat)) from hV.symm)
  rw [hV]
  obtain ⟨n, hn⟩ : ∃ n, (fcs N E).length = n := ⟨_, rfl⟩
  rw [hn] at hl40 HFO HV
  obtain ⟨p, hp⟩ : ∃ p : Nat → Bool, (fun k => isPaneB N E (k : Nat)) = p := ⟨_, rfl⟩
  have hpk : ∀ k : Nat, isPaneB N E (k : Nat) = p k := fun k => congrFun hp k
  rw [hp] at HV
  simp only [hpk] at HIP
  have HFY := hide (fun k h => fr_yes (p := p) (k := k) h)
  have HFN := hide (fun k h => fr_no (p := p) (k := k) h)
  obtain ⟨F, hF⟩ : ∃ F : Nat → List Int, (fun k => castZ ((List.range k).filter p)) = F := ⟨_, rfl⟩
  have hFk : ∀ k, castZ ((List.range k).filter p) = F k := fun k => congrFun hF k
  have HFL := hide (fun k => (show (F k).length ≤ k by rw [← hFk, castZ_length]; exact Nat.le_trans (List.length_filter_le _ _) (by simp)))
  have HF0 := hide (show F 0 = [] from by rw [← hFk]; rfl)
  have HFV := hide (show castZ V = F n ∧ V.length = (F n).length from by
    have h : castZ V = F n := by rw [HV.out]; exact hFk _
    exact ⟨h, by rw [← h, castZ_length]⟩)
  simp only [hFk] at HFY HFN
  clear hw hV hn hp hpk hF hFk HV
  
  go_enter Tryz.func53, Tryz.ntmps53
  go_wp2_with fail
  obtain ⟨w0, hw⟩ : ∃ w1, w1 = w.alloc (Obj.cells #[Value.slice A N.length c, Value.slice B E.length c'] 27) := ⟨_, rfl⟩; rw [← hw]; have kT : Tr [(w.heap.size, [.slice A N.length c, .slice B E.length c'])] w w0 := (by rw [hw]; exact ⟨by (first | (simp [Bx, CellsAt, go_sem, *]; done) | (simp [Bx, CellsAt, go_sem, *]; omega)), by (repeat (first | exact kE | exact Ext.refl _ | apply Ext.alloc | apply Ext.drewN | apply Ext.drew | apply Ext.set0 | apply Ext.set1 | apply Ext.set2 | apply Ext.set3 | (refine Ext.setk ?_ (by omega) _) | (apply Ext.snoc; assumption)))⟩); have HT := hide kT; clear hw kT; have kT := HT.out; simp only [Tr, Bx, CellsAt, Nat.reduceAdd, Nat.zero_add, and_true] at kT; obtain ⟨⟨kz0, kf0, kc0_0, kc0_1⟩, kE⟩ := kT
  refine (HFO.out _ kE).mono ?_
  rintro e w3 ⟨A2, c2, rfl, hb3⟩
  have HT' := hide (HT.out.ext hb3)
  have HE3 := hide (kE.trans hb3)
  clear hb3 HT
  have HT := HT'
  clear HT'
  clear kz0 kf0 kc0_0 kc0_1 kE
  have kT := HT.out; simp only [Tr, Bx, CellsAt, Nat.reduceAdd, Nat.zero_add, and_true] at kT; obtain ⟨⟨kz0, kf0, kc0_0, kc0_1⟩, kE⟩ := kT
  have HTZ := HT
  go_wp2_with fail
  clear kz0 kf0 kc0_0 kc0_1 kE
  clear HT
  go_loopw [3, 8] (fun v i wr => ∃ k : Nat, k ≤ n ∧ i = .int .i64 k ∧ Hid (wr.ownsRow w3.heap.size 3 1 v (F k).length (encI (F k))) ∧ Hid (Ext w3 wr)) (fun _ i _ => n - (intOf i).toNat)
  case atStart => exact ⟨0, Nat.zero_le _, rfl, hide (by rw [HF0.out]; exact World.ownsRow_nil _ _ _ _), hide (Ext.refl _)⟩
  case round =>
    obtain ⟨k, hk, rfl, HO, HE⟩ := hrel
    by_cases hlt : k < n
    · have hlz : (k : Int) < (n : Int) := by omega
      have hFl := HFL.out k
      have HY := hide (HFY.out k)
      have HN := hide (HFN.out k)
      have hT2 := HTZ.out.ext HE.out
      have HT := hide hT2
      have kT := HT.out; simp only [Tr, Bx, CellsAt, Nat.reduceAdd, Nat.zero_add, and_true] at kT; obtain ⟨⟨kz0, kf0, kc0_0, kc0_1⟩, kE⟩ := kT
      clear hT2
      have HX := hide kE
      have hsz := HE.out.size
      go_wp2_with fail
      refine (HIP.out k _ HX.out).mono ?_
      rintro e w4 ⟨rfl, hb4⟩
      have HO4 := hide (own_ext HO.out hb4)
      have HE4 := hide (HE.out.trans hb4)
      have hs4 := HE4.out.size
      clear hb4 HO HE HX HT
      clear kz0 kf0 kc0_0 kc0_1 kE
      cases hp : p k with
      | false =>
        rw [hp] at HY HN
        clear hp
        go_wp2_with fail
        go_roundw
        case rel => exact ⟨k + 1, by omega, by go_num, hide (by rw [HN.out (by trivial)]; exact HO4.out), by first | exact HE4 | exact hide HE4.out⟩
        case measure => simp [intOf]; omega
      | true =>
        rw [hp] at HY HN
        clear hp
        go_wp2_with (at_builtin; refine wpList_append_own _ rfl _ _ 31 rfl w3.heap.size 3 i0 (.int .i64 0) 1 8 Tryz.underlying31 hi hz0 hz1 hz2 rfl (by decide) u3 (F k).length (encI (F k)) rfl (own_ext HO4.out ((Ext.refl _).alloc _)) ⟨w4.heap.size, 0, none⟩ 1 1 [.int .i64 (k : Int)] rfl rfl (news_new w4 #[.int .i64 (k : Int)] 3) (enc_one _) (by unfold maxLen; omega) (by omega) (by first | (simp; done) | (simp; omega)) ?_; intro v' w5 hown5 hgrow5 hnil)
        have E5 := hide (Ext.grown (HE4.out.alloc _) hgrow5 (own_base HO4.out (Nat.le_refl _)))
        have HO5 := hide (show w5.ownsRow w3.heap.size 3 1 v' (F (k + 1)).length (encI (F (k + 1))) from by
          rw [HY.out (by trivial), encI_append, List.length_append]
          exact hown5)
        clear hown5 hgrow5 hnil
        go_roundw
        case rel => exact ⟨k + 1, by omega, by go_num, by first | exact HO5 | exact hide HO5.out, by first | exact E5 | exact hide E5.out⟩
        case measure => simp [intOf]; omega
    · obtain rfl : k = n := by omega
      have HXE := hide (HE3.out.trans HE.out)
      have hsz := HE3.out.size
      have ho := HO.out
      rw [← HFV.out.2, ← HFV.out.1] at ho
      have HO9 := hide ho
      clear ho HO
      obtain ⟨Ar, cr, rfl, _⟩ := own_slice HO9.out
      go_wp2_with fail
      go_ret
      exact ⟨Ar, cr, rfl, own_mono HO9.out hsz, HXE.out⟩
set_option maxRecDepth 20000 in
set_option maxHeartbeats 8000000 in
theorem sPanesOf_any (N E : List P2) (A B : Option Addr) (c c' : Nat) (w : World) (hw : WR w N E A B c c') :
    Calls Tryz.prog 16 #[.agg #[.slice A N.length c, .slice B E.length c']] w fun e w' => ∃ A2 c2, e = .returned (.slice A2 (pansN N E).length c2) ∧ w'.ownsRow w.heap.size 3 1 (.slice A2 (pansN N E).length c2) (pansN N E).length (encI (castZ (pansN N E))) ∧ Ext w w' := by
  obtain ⟨i0, hi, hz0, hz1, hz2⟩ := info_parts int_info
  have HIP := hide (fun (k : Nat) (W : World) (hE : Ext w W) => sIsPane_any N E A B c c' (k : Int) W (hw.ext hE))
  have HFO := hide (fun (W : World) (hE : Ext w W) => (sFacesOf_any N E A B c c' W (hw.ext hE)).mono (R' := fun e w' => ∃ A2 c2, e = .returned (.slice A2 (fcs N E).length c2) ∧ Ext W w') (by rintro e w' ⟨A2, c2, h1, _, _, h2⟩; exact ⟨A2, c2, h1, h2⟩))
  have hl40 := fcs_len (N := N) (E := E)
  obtain ⟨V, hV⟩ : ∃ V, pansN N E = V := ⟨_, rfl⟩
  have HV := hide (show V = (List.range (fcs N E).length).filter (fun k => isPaneB N E (k : Nat)) from hV.symm)
  rw [hV]
  obtain ⟨n, hn⟩ : ∃ n, (fcs N E).length = n := ⟨_, rfl⟩
  rw [hn] at hl40 HFO HV
  obtain ⟨p, hp⟩ : ∃ p : Nat → Bool, (fun k => isPaneB N E (k : Nat)) = p := ⟨_, rfl⟩
  have hpk : ∀ k : Nat, isPaneB N E (k : Nat) = p k := fun k => congrFun hp k
  rw [hp] at HV
  simp only [hpk] at HIP
  have HFY := hide (fun k h => fr_yes (p := p) (k := k) h)
  have HFN := hide (fun k h => fr_no (p := p) (k := k) h)
  obtain ⟨F, hF⟩ : ∃ F : Nat → List Int, (fun k => castZ ((List.range k).filter p)) = F := ⟨_, rfl⟩
  have hFk : ∀ k, castZ ((List.range k).filter p) = F k := fun k => congrFun hF k
  have HFL := hide (fun k => (show (F k).length ≤ k by rw [← hFk, castZ_length]; exact Nat.le_trans (List.length_filter_le _ _) (by simp)))
  have HF0 := hide (show F 0 = [] from by rw [← hFk]; rfl)
  have HFV := hide (show castZ V = F n ∧ V.length = (F n).length from by
    have h : castZ V = F n := by rw [HV.out]; exact hFk _
    exact ⟨h, by rw [← h, castZ_length]⟩)
  simp only [hFk] at HFY HFN
  clear hw hV hn hp hpk hF hFk HV
  
  go_enter Tryz.func16, Tryz.ntmps16
  go_wp2_with fail
  obtain ⟨w0, hw⟩ : ∃ w1, w1 = (w.alloc (Obj.cells #[Value.slice A N.length c, Value.slice B E.length c'] 27)).alloc (Obj.cells #[] 3) := ⟨_, rfl⟩; rw [← hw]; have kT : Tr [(w.heap.size, [.slice A N.length c, .slice B E.length c'])] w w0 := (by rw [hw]; exact ⟨by (first | (simp [Bx, CellsAt, go_sem, *]; done) | (simp [Bx, CellsAt, go_sem, *]; omega)), by (repeat (first | exact kE | exact Ext.refl _ | apply Ext.alloc | apply Ext.drewN | apply Ext.drew | apply Ext.set0 | apply Ext.set1 | apply Ext.set2 | apply Ext.set3 | (refine Ext.setk ?_ (by omega) _) | (apply Ext.snoc; assumption)))⟩); have HT := hide kT; clear kT; have kT := HT.out; simp only [Tr, Bx, CellsAt, Nat.reduceAdd, Nat.zero_add, and_true] at kT; obtain ⟨⟨kz0, kf0, kc0_0, kc0_1⟩, kE⟩ := kT
  have HO0 := hide (show w0.ownsRow (w.heap.size + 1) 3 1 (.slice (some ⟨w.heap.size + 1, 0, none⟩) 0 0) 0 [] from by
    rw [hw]
    have h := World.ownsRow_lit (base := w.heap.size + 1) (e := 3) (size := 1) (w.alloc (Obj.cells #[Value.slice A N.length c, Value.slice B E.length c'] 27)) #[] 0 (by simp) (Nat.zero_le _) rfl
    simpa using h)
  have hsz0 : w.heap.size + 1 < w0.heap.size := by rw [hw]; simp
  clear hw
  refine (HFO.out _ kE).mono ?_
  rintro e w3 ⟨A2, c2, rfl, hb3⟩
  have HO3 := hide (own_ext HO0.out hb3)
  have HOR := hide (OutR.start (own_ext HO0.out hb3) (fun k e => by injection e with e; exact e.symm))
  have hsz3 := Nat.lt_of_lt_of_le hsz0 hb3.size
  have HSZ3 := hide hsz3
  clear HO0 hsz0 hsz3
  have HT' := hide (HT.out.ext hb3)
  have HE3 := hide (kE.trans hb3)
  clear hb3 HT
  have HT := HT'
  clear HT'
  clear kz0 kf0 kc0_0 kc0_1 kE
  have kT := HT.out; simp only [Tr, Bx, CellsAt, Nat.reduceAdd, Nat.zero_add, and_true] at kT; obtain ⟨⟨kz0, kf0, kc0_0, kc0_1⟩, kE⟩ := kT
  have HTZ := HT
  go_wp2_with fail
  clear kz0 kf0 kc0_0 kc0_1 kE
  clear HT
  go_loopw [3, 5] (fun v i wr => ∃ k : Nat, k ≤ n ∧ i = .int .i64 k ∧ Hid (OutR w3 wr (w.heap.size + 1) 3 1 v (F k).length (encI (F k)))) (fun _ i _ => n - (intOf i).toNat)
  case atStart => exact ⟨0, Nat.zero_le _, rfl, hide (by rw [HF0.out]; exact HOR.out)⟩
  case round =>
    clear HOR
    obtain ⟨k, hk, rfl, HO⟩ := hrel
    by_cases hlt : k < n
    · have hlz : (k : Int) < (n : Int) := by omega
      have hFl := HFL.out k
      have HY := hide (HFY.out k)
      have HN := hide (HFN.out k)
      have hE := HO.out.ext0 HE3.out (by omega)
      have HX := hide hE
      have kz0 := Nat.lt_of_lt_of_le HTZ.out.1.1.1 HO.out.2.1.size
      have kc0_0 := HO.out.cell HTZ.out.1.1.1 (by omega) HTZ.out.1.1.2.2.1
      have kc0_1 := HO.out.cell HTZ.out.1.1.1 (by omega) HTZ.out.1.1.2.2.2.1
      have kf0 : ∀ i, wr.frozen? ⟨w.heap.size, i, none⟩ = false := fun i => by rw [HO.out.frozen HTZ.out.1.1.1 (by omega)]; exact HTZ.out.1.1.2.1 i
      have hsz := HO.out.2.1.size
      clear hE
      go_wp2_with fail
      refine (HIP.out k _ HX.out).mono ?_
      rintro e w4 ⟨rfl, hb4⟩
      have HO4 := hide (HO.out.ext hb4)
      have hs4 := HO4.out.2.1.size
      have hsz3 := HSZ3.out
      clear hb4 HO HX kz0 kc0_0 kc0_1 kf0
      cases hp : p k with
      | false =>
        rw [hp] at HY HN
        clear hp
        go_wp2_with fail
        go_roundw
        case rel => exact ⟨k + 1, by omega, by go_num, hide (by rw [HN.out (by trivial)]; exact HO4.out)⟩
        case measure => simp [intOf]; omega
      | true =>
        rw [hp] at HY HN
        clear hp
        go_wp2_with (at_builtin; refine wpList_append_own_at _ rfl _ _ 31 rfl (w.heap.size + 1) 3 i0 (.int .i64 0) 1 8 Tryz.underlying31 hi hz0 hz1 hz2 rfl (by decide) u3 (F k).length (encI (F k)) rfl (own_ext HO4.out.1 ((Ext.refl _).alloc _)) ⟨w4.heap.size, 0, none⟩ 1 1 [.int .i64 (k : Int)] rfl rfl (news_new w4 #[.int .i64 (k : Int)] 3) (enc_one _) (by unfold maxLen; omega) (by omega) (by first | (simp; done) | (simp; omega)) ?_; intro v' w5 hown5 hgrow5 hnil hloc)
        have ho5 : w5.ownsRow (w.heap.size + 1) 3 1 v' (F (k + 1)).length (encI (F (k + 1))) := by
          rw [HY.out (by trivial), encI_append, List.length_append]
          exact hown5
        have HO5 := hide (HO4.out.app ho5 hgrow5 hloc)
        clear ho5 hown5 hgrow5 hnil hloc
        go_roundw
        case rel => exact ⟨k + 1, by omega, by go_num, by first | exact HO5 | exact hide HO5.out⟩
        case measure => simp [intOf]; omega
    · obtain rfl : k = n := by omega
      have HXE := hide (HO.out.ext0 HE3.out (by omega))
      have ho := HO.out.1
      rw [← HFV.out.2, ← HFV.out.1] at ho
      have HO9 := hide ho
      clear ho HO
      obtain ⟨Ar, cr, rfl, _⟩ := own_slice HO9.out
      go_wp2_with fail
      go_ret
      exact ⟨Ar, cr, rfl, own_mono HO9.out (by omega), HXE.out⟩
set_option maxRecDepth 20000 in
set_option maxHeartbeats 8000000 in
theorem PlacesFor_any (N E S : List P2) (A B C : Option Addr) (c c' c3 : Nat) (w : World) (hw : WR w N E A B c c') (hl : S.length ≤ 1048576) (hr : R2 w C S) :
    Calls Tryz.prog 14 #[.agg #[.slice A N.length c, .slice B E.length c'], .slice C S.length c3] w fun e w' => ∃ A2 c2, e = .returned (.slice A2 (placesN N E S).length c2) ∧ w'.ownsRow w.heap.size 3 1 (.slice A2 (placesN N E S).length c2) (placesN N E S).length (encI (castZ (placesN N E S))) ∧ Ext w w' := by
  obtain ⟨i0, hi, hz0, hz1, hz2⟩ := info_parts int_info
  have HCF := hide (fun (k : Nat) (W : World) (hE : Ext w W) => CanFill_any N E S A B C c c' c3 (k : Int) W (hw.ext hE) hl (hr.ext hE))
  have HPA := hide (fun (W : World) (hE : Ext w W) => PanesOf_any N E A B c c' W (hw.ext hE))
  have hl40 := pansN_len N E
  have HMEM := hide (fun k hk => pansN_mem (N := N) (E := E) (k := k) hk)
  obtain ⟨V, hV⟩ : ∃ V, placesN N E S = V := ⟨_, rfl⟩
  have HV := hide (show V = (pansN N E).filter (fun k => fillB N E (k : Nat) S) from hV.symm)
  rw [hV]
  obtain ⟨L, hL⟩ : ∃ L, pansN N E = L := ⟨_, rfl⟩
  rw [hL] at hl40 HPA HV
  have HMEM := hide (fun k (hk : k < L.length) => (show isPaneB N E ((L[k] : Nat) : Int) = true by subst hL; exact (HMEM.out k hk).2))
  obtain ⟨p, hp⟩ : ∃ p : Nat → Bool, (fun k => fillB N E (k : Nat) S) = p := ⟨_, rfl⟩
  have hpk : ∀ k : Nat, fillB N E (k : Nat) S = p k := fun k => congrFun hp k
  rw [hp] at HV
  simp only [hpk] at HCF
  have HFY := hide (fun k (hk : k < L.length) h => ft_yes (p := p) hk h)
  have HFN := hide (fun k (hk : k < L.length) h => ft_no (p := p) hk h)
  obtain ⟨F, hF⟩ : ∃ F : Nat → List Int, (fun k => castZ ((L.take k).filter p)) = F := ⟨_, rfl⟩
  have hFk : ∀ k, castZ ((L.take k).filter p) = F k := fun k => congrFun hF k
  have HFL := hide (fun k => (show (F k).length ≤ 40 by rw [← hFk, castZ_length]; exact Nat.le_trans (List.length_filter_le _ _) (Nat.le_trans (by simp; omega) hl40)))
  have HF0 := hide (show F 0 = [] from by rw [← hFk]; rfl)
  have HFV := hide (show castZ V = F L.length ∧ V.length = (F L.length).length from by
    have h : castZ V = F L.length := by rw [HV.out, ← hFk, List.take_length]
    exact ⟨h, by rw [← h, castZ_length]⟩)
  simp only [hFk] at HFY HFN
  have HGET := hide (fun k (hk : k < L.length) => encI_castZ_get hk)
  clear hw hr hV hL hp hpk hF hFk HV
  
  go_enter Tryz.func14, Tryz.ntmps14
  go_wp2_with fail
  obtain ⟨w0, hw⟩ : ∃ w1, w1 = w.alloc (Obj.cells #[Value.slice A N.length c, Value.slice B E.length c'] 27) := ⟨_, rfl⟩; rw [← hw]; have kT : Tr [(w.heap.size, [.slice A N.length c, .slice B E.length c'])] w w0 := (by rw [hw]; exact ⟨by (first | (simp [Bx, CellsAt, go_sem, *]; done) | (simp [Bx, CellsAt, go_sem, *]; omega)), by (repeat (first | exact kE | exact Ext.refl _ | apply Ext.alloc | apply Ext.drewN | apply Ext.drew | apply Ext.set0 | apply Ext.set1 | apply Ext.set2 | apply Ext.set3 | (refine Ext.setk ?_ (by omega) _) | (apply Ext.snoc; assumption)))⟩); have HT := hide kT; clear hw kT; have kT := HT.out; simp only [Tr, Bx, CellsAt, Nat.reduceAdd, Nat.zero_add, and_true] at kT; obtain ⟨⟨kz0, kf0, kc0_0, kc0_1⟩, kE⟩ := kT
  refine (HPA.out _ kE).mono ?_
  rintro e w3 ⟨A2, c2, rfl, hrow, hb3⟩
  have HROW := hide (Rds.of_own hrow)
  have HOW := hide hrow
  clear hrow
  have HT' := hide (HT.out.ext hb3)
  have HE3 := hide (kE.trans hb3)
  clear hb3 HT
  have HT := HT'
  clear HT'
  clear kz0 kf0 kc0_0 kc0_1 kE
  have kT := HT.out; simp only [Tr, Bx, CellsAt, Nat.reduceAdd, Nat.zero_add, and_true] at kT; obtain ⟨⟨kz0, kf0, kc0_0, kc0_1⟩, kE⟩ := kT
  have HTZ := HT
  go_wp2_with fail
  clear kz0 kf0 kc0_0 kc0_1 kE
  clear HT
  go_loopw [5, 11] (fun v i wr => ∃ k : Nat, k ≤ L.length ∧ i = .int .i64 k ∧ Hid (wr.ownsRow w3.heap.size 3 1 v (F k).length (encI (F k))) ∧ Hid (Ext w3 wr)) (fun _ i _ => L.length - (intOf i).toNat)
  case atStart => exact ⟨0, Nat.zero_le _, rfl, hide (by rw [HF0.out]; exact World.ownsRow_nil _ _ _ _), hide (Ext.refl _)⟩
  case round =>
    obtain ⟨k, hk, rfl, HO, HE⟩ := hrel
    by_cases hlt : k < L.length
    · have hlz : (k : Int) < (L.length : Int) := by omega
      have hFl := HFL.out k
      have HY := hide (HFY.out k hlt)
      have HN := hide (HFN.out k hlt)
      have hT2 := HTZ.out.ext HE.out
      have HT := hide hT2
      have kT := HT.out; simp only [Tr, Bx, CellsAt, Nat.reduceAdd, Nat.zero_add, and_true] at kT; obtain ⟨⟨kz0, kf0, kc0_0, kc0_1⟩, kE⟩ := kT
      clear hT2
      have HX := hide kE
      have hsz := HE.out.size
      obtain ⟨b3, off3, rfl, hb3, hc3⟩ := (HROW.out.ext HE.out).2 (by omega)
      have cj := hc3 k _ (HGET.out k hlt)
      have HPN := hide (HMEM.out k hlt)
      obtain ⟨f, hf⟩ : ∃ f, L[k] = f := ⟨_, rfl⟩
      rw [hf] at cj HY HN HPN
      clear hf hc3
      go_wp2_with fail
      refine (HCF.out f _ HX.out).mono ?_
      rintro e w4 ⟨rfl, hb4⟩
      clear cj
      have HO4 := hide (own_ext HO.out hb4)
      have HE4 := hide (HE.out.trans hb4)
      have hs4 := HE4.out.size
      clear hb4 HO HE HX HT
      clear kz0 kf0 kc0_0 kc0_1 kE
      cases hp : p f with
      | false =>
        rw [hp] at HY HN
        clear hp
        go_wp2_with fail
        go_roundw
        case rel => exact ⟨k + 1, by omega, by go_num, hide (by rw [HN.out (by trivial)]; exact HO4.out), by first | exact HE4 | exact hide HE4.out⟩
        case measure => simp [intOf]; omega
      | true =>
        rw [hp] at HY HN
        clear hp
        go_wp2_with (at_builtin; refine wpList_append_own _ rfl _ _ 31 rfl w3.heap.size 3 i0 (.int .i64 0) 1 8 Tryz.underlying31 hi hz0 hz1 hz2 rfl (by decide) u5 (F k).length (encI (F k)) rfl (own_ext HO4.out ((Ext.refl _).alloc _)) ⟨w4.heap.size, 0, none⟩ 1 1 [.int .i64 (f : Int)] rfl rfl (news_new w4 #[.int .i64 (f : Int)] 3) (enc_one _) (by unfold maxLen; omega) (by omega) (by first | (simp; done) | (simp; omega)) ?_; intro v' w5 hown5 hgrow5 hnil)
        have E5 := hide (Ext.grown (HE4.out.alloc _) hgrow5 (own_base HO4.out (Nat.le_refl _)))
        have HO5 := hide (show w5.ownsRow w3.heap.size 3 1 v' (F (k + 1)).length (encI (F (k + 1))) from by
          rw [HY.out (by trivial), encI_append, List.length_append]
          exact hown5)
        clear hown5 hgrow5 hnil
        go_roundw
        case rel => exact ⟨k + 1, by omega, by go_num, by first | exact HO5 | exact hide HO5.out, by first | exact E5 | exact hide E5.out⟩
        case measure => simp [intOf]; omega
    · obtain rfl : k = L.length := by omega
      have HXE := hide (HE3.out.trans HE.out)
      have hsz := HE3.out.size
      have ho := HO.out
      rw [← HFV.out.2, ← HFV.out.1] at ho
      have HO9 := hide ho
      clear ho HO
      obtain ⟨Ar, cr, rfl, _⟩ := own_slice HO9.out
      go_wp2_with fail
      go_ret
      exact ⟨Ar, cr, rfl, own_mono HO9.out hsz, HXE.out⟩
set_option maxRecDepth 20000 in
set_option maxHeartbeats 8000000 in
theorem sPlacesFor_any (N E S : List P2) (A B C : Option Addr) (c c' c3 : Nat) (w : World) (hw : WR w N E A B c c') (hl : S.length ≤ 1048576) (hr : R2 w C S) :
    Calls Tryz.prog 71 #[.agg #[.slice A N.length c, .slice B E.length c'], .slice C S.length c3] w fun e w' => ∃ A2 c2, e = .returned (.slice A2 (placesN N E S).length c2) ∧ w'.ownsRow w.heap.size 3 1 (.slice A2 (placesN N E S).length c2) (placesN N E S).length (encI (castZ (placesN N E S))) ∧ Ext w w' := by
  obtain ⟨i0, hi, hz0, hz1, hz2⟩ := info_parts int_info
  have HSH := hide (fun (k : Nat) (W : World) (hE : Ext w W) => sShapeOf_any N E A B c c' (k : Int) W (hw.ext hE))
  have HAL := hide (fun (k : Nat) (A5 : Option Addr) (c5 : Nat) (W : World) (hE : Ext w W) (h5 : R2 W A5 (shapeV N E (k : Int))) => Shp.sAreAlike_any S C c3 (shapeV N E (k : Int)) A5 c5 W hl (by have := shapeV_len (N := N) (E := E) (f := (k : Int)); omega) (hr.ext hE) h5)
  have HFB := hide (fun (k : Nat) (h : isPaneB N E (k : Int) = true) => (show Shp.alikeB S (shapeV N E (k : Int)) = fillB N E (k : Int) S by unfold fillB; rw [h]; rfl))
  have HPA := hide (fun (W : World) (hE : Ext w W) => sPanesOf_any N E A B c c' W (hw.ext hE))
  have hl40 := pansN_len N E
  have HMEM := hide (fun k hk => pansN_mem (N := N) (E := E) (k := k) hk)
  obtain ⟨V, hV⟩ : ∃ V, placesN N E S = V := ⟨_, rfl⟩
  have HV := hide (show V = (pansN N E).filter (fun k => fillB N E (k : Nat) S) from hV.symm)
  rw [hV]
  obtain ⟨L, hL⟩ : ∃ L, pansN N E = L := ⟨_, rfl⟩
  rw [hL] at hl40 HPA HV
  have HMEM := hide (fun k (hk : k < L.length) => (show isPaneB N E ((L[k] : Nat) : Int) = true by subst hL; exact (HMEM.out k hk).2))
  obtain ⟨p, hp⟩ : ∃ p : Nat → Bool, (fun k => fillB N E (k : Nat) S) = p := ⟨_, rfl⟩
  have hpk : ∀ k : Nat, fillB N E (k : Nat) S = p k := fun k => congrFun hp k
  rw [hp] at HV
  simp only [hpk] at HFB
  have HFY := hide (fun k (hk : k < L.length) h => ft_yes (p := p) hk h)
  have HFN := hide (fun k (hk : k < L.length) h => ft_no (p := p) hk h)
  obtain ⟨F, hF⟩ : ∃ F : Nat → List Int, (fun k => castZ ((L.take k).filter p)) = F := ⟨_, rfl⟩
  have hFk : ∀ k, castZ ((L.take k).filter p) = F k := fun k => congrFun hF k
  have HFL := hide (fun k => (show (F k).length ≤ 40 by rw [← hFk, castZ_length]; exact Nat.le_trans (List.length_filter_le _ _) (Nat.le_trans (by simp; omega) hl40)))
  have HF0 := hide (show F 0 = [] from by rw [← hFk]; rfl)
  have HFV := hide (show castZ V = F L.length ∧ V.length = (F L.length).length from by
    have h : castZ V = F L.length := by rw [HV.out, ← hFk, List.take_length]
    exact ⟨h, by rw [← h, castZ_length]⟩)
  simp only [hFk] at HFY HFN
  have HGET := hide (fun k (hk : k < L.length) => encI_castZ_get hk)
  clear hw hr hV hL hp hpk hF hFk HV
  
  go_enter Tryz.func71, Tryz.ntmps71
  go_wp2_with fail
  obtain ⟨w0, hw⟩ : ∃ w1, w1 = (w.alloc (Obj.cells #[Value.slice A N.length c, Value.slice B E.length c'] 27)).alloc (Obj.cells #[] 3) := ⟨_, rfl⟩; rw [← hw]; have kT : Tr [(w.heap.size, [.slice A N.length c, .slice B E.length c'])] w w0 := (by rw [hw]; exact ⟨by (first | (simp [Bx, CellsAt, go_sem, *]; done) | (simp [Bx, CellsAt, go_sem, *]; omega)), by (repeat (first | exact kE | exact Ext.refl _ | apply Ext.alloc | apply Ext.drewN | apply Ext.drew | apply Ext.set0 | apply Ext.set1 | apply Ext.set2 | apply Ext.set3 | (refine Ext.setk ?_ (by omega) _) | (apply Ext.snoc; assumption)))⟩); have HT := hide kT; clear kT; have kT := HT.out; simp only [Tr, Bx, CellsAt, Nat.reduceAdd, Nat.zero_add, and_true] at kT; obtain ⟨⟨kz0, kf0, kc0_0, kc0_1⟩, kE⟩ := kT
  have HO0 := hide (show w0.ownsRow (w.heap.size + 1) 3 1 (.slice (some ⟨w.heap.size + 1, 0, none⟩) 0 0) 0 [] from by
    rw [hw]
    have h := World.ownsRow_lit (base := w.heap.size + 1) (e := 3) (size := 1) (w.alloc (Obj.cells #[Value.slice A N.length c, Value.slice B E.length c'] 27)) #[] 0 (by simp) (Nat.zero_le _) rfl
    simpa using h)
  have hsz0 : w.heap.size + 1 < w0.heap.size := by rw [hw]; simp
  clear hw
  refine (HPA.out _ kE).mono ?_
  rintro e w3 ⟨A2, c2, rfl, hrow, hb3⟩
  have HROW := hide (Rds.of_own hrow)
  have HOW := hide hrow
  clear hrow
  have HO3 := hide (own_ext HO0.out hb3)
  have HOR := hide (OutR.start (own_ext HO0.out hb3) (fun k e => by injection e with e; exact e.symm))
  have hsz3 := Nat.lt_of_lt_of_le hsz0 hb3.size
  have HSZ3 := hide hsz3
  clear HO0 hsz0 hsz3
  have HT' := hide (HT.out.ext hb3)
  have HE3 := hide (kE.trans hb3)
  clear hb3 HT
  have HT := HT'
  clear HT'
  clear kz0 kf0 kc0_0 kc0_1 kE
  have kT := HT.out; simp only [Tr, Bx, CellsAt, Nat.reduceAdd, Nat.zero_add, and_true] at kT; obtain ⟨⟨kz0, kf0, kc0_0, kc0_1⟩, kE⟩ := kT
  have HTZ := HT
  go_wp2_with fail
  clear kz0 kf0 kc0_0 kc0_1 kE
  clear HT
  have HNR := hide (fun (h : 0 < L.length) => ne_empty_rds HO3.out HROW.out h (by decide))
  go_loopw [5, 7] (fun v i wr => ∃ k : Nat, k ≤ L.length ∧ i = .int .i64 k ∧ Hid (OutR w3 wr (w.heap.size + 1) 3 1 v (F k).length (encI (F k)))) (fun _ i _ => L.length - (intOf i).toNat)
  case atStart => exact ⟨0, Nat.zero_le _, rfl, hide (by rw [HF0.out]; exact HOR.out)⟩
  case round =>
    clear HOR
    obtain ⟨k, hk, rfl, HO⟩ := hrel
    by_cases hlt : k < L.length
    · have hlz : (k : Int) < (L.length : Int) := by omega
      have hFl := HFL.out k
      have HY := hide (HFY.out k hlt)
      have HN := hide (HFN.out k hlt)
      have hE := HO.out.ext0 HE3.out (by omega)
      have HX := hide hE
      have kz0 := Nat.lt_of_lt_of_le HTZ.out.1.1.1 HO.out.2.1.size
      have kc0_0 := HO.out.cell HTZ.out.1.1.1 (by omega) HTZ.out.1.1.2.2.1
      have kc0_1 := HO.out.cell HTZ.out.1.1.1 (by omega) HTZ.out.1.1.2.2.2.1
      have kf0 : ∀ i, wr.frozen? ⟨w.heap.size, i, none⟩ = false := fun i => by rw [HO.out.frozen HTZ.out.1.1.1 (by omega)]; exact HTZ.out.1.1.2.1 i
      have hsz := HO.out.2.1.size
      clear hE
      obtain ⟨b3, off3, rfl, hb3, hc3⟩ := (HO.out.rds HROW.out (HNR.out (by omega))).2 (by omega)
      have cj := hc3 k _ (HGET.out k hlt)
      have HPN := hide (HMEM.out k hlt)
      obtain ⟨f, hf⟩ : ∃ f, L[k] = f := ⟨_, rfl⟩
      rw [hf] at cj HY HN HPN
      clear hf hc3
      have HFBf := hide (HFB.out f HPN.out)
      go_wp2_with fail
      go_region_held3 (fun w' => (∀ (q o : Nat), q < wr.heap.size → w'.cell? ⟨q, o, none⟩ = wr.cell? ⟨q, o, none⟩) ∧ Ext wr w') ((apply ExtS; repeat (first | exact kE | exact Ext.refl _ | apply Ext.alloc | apply Ext.drewN | apply Ext.drew | apply Ext.set0 | apply Ext.set1 | apply Ext.set2 | apply Ext.set3 | (refine Ext.setk ?_ (by omega) _) | (apply Ext.snoc; assumption)))) ((first | (go_at_call 17; refine (HSH.out f _ (HX.out.trans (by repeat (first | exact kE | exact Ext.refl _ | apply Ext.alloc | apply Ext.drewN | apply Ext.drew | apply Ext.set0 | apply Ext.set1 | apply Ext.set2 | apply Ext.set3 | (refine Ext.setk ?_ (by omega) _) | (apply Ext.snoc; assumption))))).mono ?_; rintro e w8 ⟨A8, c8, rfl, ho8, hb8⟩; have HA8 := hide (Rds.of_own ho8); clear ho8)  |  (go_at_call 105; refine (HAL.out f A8 c8 _ (HX.out.trans (by repeat (first | exact kE | exact Ext.refl _ | apply Ext.alloc | apply Ext.drewN | apply Ext.drew | apply Ext.set0 | apply Ext.set1 | apply Ext.set2 | apply Ext.set3 | (refine Ext.setk ?_ (by omega) _) | (apply Ext.snoc; assumption)))) HA8.out).mono ?_; rintro e w4 ⟨rfl, hb9⟩)))
      have hb4 : Ext wr w4 := (((Ext.refl wr).drew).trans hb8).trans hb9
      rw [HFBf.out]
      clear hb8 hb9
      have HO4 := hide (HO.out.ext hb4)
      have hs4 := HO4.out.2.1.size
      have hsz3 := HSZ3.out
      clear hb4 HO HX kz0 kc0_0 kc0_1 kf0
      cases hp : p f with
      | false =>
        rw [hp] at HY HN
        clear hp
        go_wp2_with fail
        go_roundw
        case rel => exact ⟨k + 1, by omega, by go_num, hide (by rw [HN.out (by trivial)]; exact HO4.out)⟩
        case measure => simp [intOf]; omega
      | true =>
        rw [hp] at HY HN
        clear hp
        go_wp2_with (at_builtin; refine wpList_append_own_at _ rfl _ _ 31 rfl (w.heap.size + 1) 3 i0 (.int .i64 0) 1 8 Tryz.underlying31 hi hz0 hz1 hz2 rfl (by decide) u5 (F k).length (encI (F k)) rfl (own_ext HO4.out.1 ((Ext.refl _).alloc _)) ⟨w4.heap.size, 0, none⟩ 1 1 [.int .i64 (f : Int)] rfl rfl (news_new w4 #[.int .i64 (f : Int)] 3) (enc_one _) (by unfold maxLen; omega) (by omega) (by first | (simp; done) | (simp; omega)) ?_; intro v' w5 hown5 hgrow5 hnil hloc)
        have ho5 : w5.ownsRow (w.heap.size + 1) 3 1 v' (F (k + 1)).length (encI (F (k + 1))) := by
          rw [HY.out (by trivial), encI_append, List.length_append]
          exact hown5
        have HO5 := hide (HO4.out.app ho5 hgrow5 hloc)
        clear ho5 hown5 hgrow5 hnil hloc
        go_roundw
        case rel => exact ⟨k + 1, by omega, by go_num, by first | exact HO5 | exact hide HO5.out⟩
        case measure => simp [intOf]; omega
    · obtain rfl : k = L.length := by omega
      have HXE := hide (HO.out.ext0 HE3.out (by omega))
      have ho := HO.out.1
      rw [← HFV.out.2, ← HFV.out.1] at ho
      have HO9 := hide ho
      clear ho HO
      obtain ⟨Ar, cr, rfl, _⟩ := own_slice HO9.out
      go_wp2_with fail
      go_ret
      exact ⟨Ar, cr, rfl, own_mono HO9.out (by omega), HXE.out⟩
noncomputable def placesV (N E S : List P2) : List Int := castZ (placesN N E S)
theorem placesV_length (N E S : List P2) : (placesV N E S).length = (placesN N E S).length := castZ_length _
theorem placesV_len (N E S : List P2) : (placesV N E S).length ≤ 40 := by rw [placesV_length]; exact placesN_len N E S
theorem PlacesFor_anyv (N E S : List P2) (A B C : Option Addr) (c c' c3 : Nat) (w : World) (hw : WR w N E A B c c') (hl : S.length ≤ 1048576) (hr : R2 w C S) :
    Calls Tryz.prog 14 #[.agg #[.slice A N.length c, .slice B E.length c'], .slice C S.length c3] w fun e w' => ∃ A2 c2, e = .returned (.slice A2 (placesV N E S).length c2) ∧ w'.ownsRow w.heap.size 3 1 (.slice A2 (placesV N E S).length c2) (placesV N E S).length (encI (placesV N E S)) ∧ Ext w w' := by
  rw [placesV_length]
  exact PlacesFor_any N E S A B C c c' c3 w hw hl hr
theorem sPlacesFor_anyv (N E S : List P2) (A B C : Option Addr) (c c' c3 : Nat) (w : World) (hw : WR w N E A B c c') (hl : S.length ≤ 1048576) (hr : R2 w C S) :
    Calls Tryz.prog 71 #[.agg #[.slice A N.length c, .slice B E.length c'], .slice C S.length c3] w fun e w' => ∃ A2 c2, e = .returned (.slice A2 (placesV N E S).length c2) ∧ w'.ownsRow w.heap.size 3 1 (.slice A2 (placesV N E S).length c2) (placesV N E S).length (encI (placesV N E S)) ∧ Ext w w' := by
  rw [placesV_length]
  exact sPlacesFor_any N E S A B C c c' c3 w hw hl hr
end Go.Proofs.YtabgcpoaepafjaaGreat
