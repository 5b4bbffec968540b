/- Words and walks for the law FnMatches, a part of them. No condition but that the arguments lie in memory. -/
import Derived.Test.YtabgcpoaepafjaaGreatU2
import Derived.Test.YtabgcpoaepafjaaGreatU19
import Derived.Test.YtabgcpoaepafjaaGreatU23
import Derived.Test.YtabgcpoaepafjaaGreatU25
set_option linter.unusedVariables false
set_option linter.unusedSimpArgs false
namespace Go.Proofs.YtabgcpoaepafjaaGreat
open Go.RowKit
def castZ (l : List Nat) : List Int := l.map fun x : Nat => (x : Int)
theorem castZ_length (l : List Nat) : (castZ l).length = l.length := by simp [castZ]
noncomputable def pansN (N E : List P2) : List Nat := (List.range (fcs N E).length).filter fun k => isPaneB N E (k : Nat)
noncomputable def placesN (N E S : List P2) : List Nat := (pansN N E).filter fun k => fillB N E (k : Nat) S
theorem pansN_len (N E : List P2) : (pansN N E).length ≤ 40 := Nat.le_trans (List.length_filter_le _ _) (by rw [List.length_range]; exact fcs_len)
theorem placesN_len (N E S : List P2) : (placesN N E S).length ≤ 40 := Nat.le_trans (List.length_filter_le _ _) (pansN_len N E)
theorem pansN_mem {N E : List P2} {k : Nat} (hk : k < (pansN N E).length) : (pansN N E)[k] < (fcs N E).length ∧ isPaneB N E ((pansN N E)[k] : Nat) = true := by
  have h := List.getElem_mem hk
  unfold pansN at h
  rw [List.mem_filter] at h
  exact ⟨List.mem_range.1 h.1, h.2⟩
theorem fr_yes {p : Nat → Bool} {k : Nat} (h : p k = true) : castZ ((List.range (k + 1)).filter p) = castZ ((List.range k).filter p) ++ [(k : Int)] := by
  rw [List.range_succ, List.filter_append]
  simp [h, castZ]
theorem fr_no {p : Nat → Bool} {k : Nat} (h : p k = false) : castZ ((List.range (k + 1)).filter p) = castZ ((List.range k).filter p) := by
  rw [List.range_succ, List.filter_append]
  simp [h, castZ]
theorem ft_yes {l : List Nat} {p : Nat → Bool} {k : Nat} (hk : k < l.length) (h : p l[k] = true) : castZ ((l.take (k + 1)).filter p) = castZ ((l.take k).filter p) ++ [(l[k] : Int)] := by
  rw [List.take_succ_eq_append_getElem hk, List.filter_append]
  simp [h, castZ]
theorem ft_no {l : List Nat} {p : Nat → Bool} {k : Nat} (hk : k < l.length) (h : p l[k] = false) : castZ ((l.take (k + 1)).filter p) = castZ ((l.take k).filter p) := by
  rw [List.take_succ_eq_append_getElem hk, List.filter_append]
  simp [h, castZ]
theorem encI_castZ_get {l : List Nat} {k : Nat} (hk : k < l.length) : (encI (castZ l))[k]? = some (.int .i64 ((l[k] : Nat) : Int)) := by simp [encI, castZ, hk]
set_option maxRecDepth 20000 in
set_option maxHeartbeats 8000000 in
theorem PanesOf_any (N E : List P2) (A B : Option Addr) (c c' : Nat) (w : World) (hw : WR w N E A B c c') :
    Calls Tryz.prog 53 #[.agg #[.slice A N.length c, .slice B E.length c']] w fun e w' => ∃ A2 c2, e = .returned (.slice A2 (pansN N E).length c2) ∧ w'.ownsRow w.heap.size 3 1 (.slice A2 (pansN N E).length c2) (pansN N E).length (encI (castZ (pansN N E))) ∧ Ext w w' := by
  obtain ⟨i0, hi, hz0, hz1, hz2⟩ := info_parts int_info
  have HIP := hide (fun (k : Nat) (W : World) (hE : Ext w W) => IsPane_any N E A B c c' (k : Int) W (hw.ext hE))
  have HFO := hide (fun (W : World) (hE : Ext w W) => (FacesOf_any N E A B c c' W (hw.ext hE)).mono (R' := fun e w' => ∃ A2 c2, e = .returned (.slice A2 (fcs N E).length c2) ∧ Ext W w') (by rintro e w' ⟨A2, c2, h1, _, _, _, _, h2⟩; exact ⟨A2, c2, h1, h2⟩))
  have hl40 := fcs_len (N := N) (E := E)
  obtain ⟨V, hV⟩ : ∃ V, pansN N E = V := ⟨_, rfl⟩
  have HV := hide (show V = (List.range (fcs N E).length).filter (fun k => isPaneB N E (k : Nat)) from hV.symm)
  rw [hV]
  obtain ⟨n, hn⟩ : ∃ n, (fcs N E).length = n := ⟨_, rfl⟩
  rw [hn] at hl40 HFO HV
  obtain ⟨p, hp⟩ : ∃ p : Nat → Bool, (fun k => isPaneB N E (k : Nat)) = p := ⟨_, rfl⟩
  have hpk : ∀ k : Nat, isPaneB N E (k : Nat) = p k := fun k => congrFun hp k
  rw [hp] at HV
  simp only [hpk] at HIP
  have HFY := hide (fun k h => fr_yes (p := p) (k := k) h)
  have HFN := hide (fun k h => fr_no (p := p) (k := k) h)
  obtain ⟨F, hF⟩ : ∃ F : Nat → List Int, (fun k => castZ ((List.range k).filter p)) = F := ⟨_, rfl⟩
  have hFk : ∀ k, castZ ((List.range k).filter p) = F k := fun k => congrFun hF k
  have HFL := hide (fun k => (show (F k).length ≤ k by rw [← hFk, castZ_length]; exact Nat.le_trans (List.length_filter_le _ _) (by simp)))
  have HF0 := hide (show F 0 = [] from by rw [← hFk]; rfl)
  have HFV := hide (show castZ V = F n ∧ V.length = (F n).length from by
    have h : castZ V = F n := by rw [HV.out]; exact hFk _
    exact ⟨h, by rw [← h, castZ_length]⟩)
  simp only [hFk] at HFY HFN
  clear hw hV hn hp hpk hF hFk HV
  
  go_enter Tryz.func53, Tryz.ntmps53
  go_wp2_with fail
  obtain ⟨w0, hw⟩ : ∃ w1, w1 = w.alloc (Obj.cells #[Value.slice A N.length c, Value.slice B E.length c'] 27) := ⟨_, rfl⟩; rw [← hw]; have kT : Tr [(w.heap.size, [.slice A N.length c, .slice B E.length c'])] w w0 := (by rw [hw]; exact ⟨by (first | (simp [Bx, CellsAt, go_sem, *]; done) | (simp [Bx, CellsAt, go_sem, *]; omega)), by (repeat (first | exact kE | exact Ext.refl _ | apply Ext.alloc | apply Ext.drewN | apply Ext.drew | apply Ext.set0 | apply Ext.set1 | apply Ext.set2 | apply Ext.set3 | (refine Ext.setk ?_ (by omega) _) | (apply Ext.snoc; assumption)))⟩); have HT := hide kT; clear hw kT; have kT := HT.out; simp only [Tr, Bx, CellsAt, Nat.reduceAdd, Nat.zero_add, and_true] at kT; obtain ⟨⟨kz0, kf0, kc0_0, kc0_1⟩, kE⟩ := kT
  refine (HFO.out _ kE).mono ?_
  rintro e w3 ⟨A2, c2, rfl, hb3⟩
  have HT' := hide (HT.out.ext hb3)
  have HE3 := hide (kE.trans hb3)
  clear hb3 HT
  have HT := HT'
  clear HT'
  clear kz0 kf0 kc0_0 kc0_1 kE
  have kT := HT.out; simp only [Tr, Bx, CellsAt, Nat.reduceAdd, Nat.zero_add, and_true] at kT; obtain ⟨⟨kz0, kf0, kc0_0, kc0_1⟩, kE⟩ := kT
  have HTZ := HT
  go_wp2_with fail
  clear kz0 kf0 kc0_0 kc0_1 kE
  clear HT
  go_loopw [3, 8] (fun v i wr => ∃ k : Nat, k ≤ n ∧ i = .int .i64 k ∧ Hid (wr.ownsRow w3.heap.size 3 1 v (F k).length (encI (F k))) ∧ Hid (Ext w3 wr)) (fun _ i _ => n - (intOf i).toNat)
  case atStart => exact ⟨0, Nat.zero_le _, rfl, hide (by rw [HF0.out]; exact World.ownsRow_nil _ _ _ _), hide (Ext.refl _)⟩
  case round =>
    obtain ⟨k, hk, rfl, HO, HE⟩ := hrel
    by_cases hlt : k < n
    · have hlz : (k : Int) < (n : Int) := by omega
      have hFl := HFL.out k
      have HY := hide (HFY.out k)
      have HN := hide (HFN.out k)
      have hT2 := HTZ.out.ext HE.out
      have HT := hide hT2
      have kT := HT.out; simp only [Tr, Bx, CellsAt, Nat.reduceAdd, Nat.zero_add, and_true] at kT; obtain ⟨⟨kz0, kf0, kc0_0, kc0_1⟩, kE⟩ := kT
      clear hT2
      have HX := hide kE
      have hsz := HE.out.size
      go_wp2_with fail
      refine (HIP.out k _ HX.out).mono ?_
      rintro e w4 ⟨rfl, hb4⟩
      have HO4 := hide (own_ext HO.out hb4)
      have HE4 := hide (HE.out.trans hb4)
      have hs4 := HE4.out.size
      clear hb4 HO HE HX HT
      clear kz0 kf0 kc0_0 kc0_1 kE
      cases hp : p k with
      | false =>
        rw [hp] at HY HN
        clear hp
        go_wp2_with fail
        go_roundw
        case rel => exact ⟨k + 1, by omega, by go_num, hide (by rw [HN.out (by trivial)]; exact HO4.out), by first | exact HE4 | exact hide HE4.out⟩
        case measure => simp [intOf]; omega
      | true =>
        rw [hp] at HY HN
        clear hp
        go_wp2_with (at_builtin; refine wpList_append_own _ rfl _ _ 31 rfl w3.heap.size 3 i0 (.int .i64 0) 1 8 Tryz.underlying31 hi hz0 hz1 hz2 rfl (by decide) u3 (F k).length (encI (F k)) rfl (own_ext HO4.out ((Ext.refl _).alloc _)) ⟨w4.heap.size, 0, none⟩ 1 1 [.int .i64 (k : Int)] rfl rfl (news_new w4 #[.int .i64 (k : Int)] 3) (enc_one _) (by unfold maxLen; omega) (by omega) (by first | (simp; done) | (simp; omega)) ?_; intro v' w5 hown5 hgrow5 hnil)
        have E5 := hide (Ext.grown (HE4.out.alloc _) hgrow5 (own_base HO4.out (Nat.le_refl _)))
        have HO5 := hide (show w5.ownsRow w3.heap.size 3 1 v' (F (k + 1)).length (encI (F (k + 1))) from by
          rw [HY.out (by trivial), encI_append, List.length_append]
          exact hown5)
        clear hown5 hgrow5 hnil
        go_roundw
        case rel => exact ⟨k + 1, by omega, by go_num, by first | exact HO5 | exact hide HO5.out, by first | exact E5 | exact hide E5.out⟩
        case measure => simp [intOf]; omega
    · obtain rfl : k = n := by omega
      have HXE := hide (HE3.out.trans HE.out)
      have hsz := HE3.out.size
      have ho := HO.out
      rw [← HFV.out.2, ← HFV.out.1] at ho
      have HO9 := hide ho
      clear ho HO
      obtain ⟨Ar, cr, rfl, _⟩ := own_slice HO9.out
      go_wp2_with fail
      go_ret
      exact ⟨Ar, cr, rfl, own_mono HO9.out hsz, HXE.out⟩
set_option maxRecDepth 20000 in
set_option maxHeartbeats 8000000 in
theorem sPanesOf_any (N E : List P2) (A B : Option Addr) (c c' : Nat) (w : World) (hw : WR w N E A B c c') :
    Calls Tryz.prog 16 #[.agg #[.slice A N.length c, .slice B E.length c']] w fun e w' => ∃ A2 c2, e = .returned (.slice A2 (pansN N E).length c2) ∧ w'.ownsRow w.heap.size 3 1 (.slice A2 (pansN N E).length c2) (pansN N E).length (encI (castZ (pansN N E))) ∧ Ext w w' := by
  obtain ⟨i0, hi, hz0, hz1, hz2⟩ := info_parts int_info
  have HIP := hide (fun (k : Nat) (W : World) (hE : Ext w W) => sIsPane_any N E A B c c' (k : Int) W (hw.ext hE))
  have HFO := hide (fun (W : World) (hE : Ext w W) => (sFacesOf_any N E A B c c' W (hw.ext hE)).mono (R' := fun e w' => ∃ A2 c2, e = .returned (.slice A2 (fcs N E).length c2) ∧ Ext W w') (by rintro e w' ⟨A2, c2, h1, _, _, h2⟩; exact ⟨A2, c2, h1, h2⟩))
  have hl40 := fcs_len (N := N) (E := E)
  obtain ⟨V, hV⟩ : ∃ V, pansN N E = V := ⟨_, rfl⟩
  have HV := hide (show V = (List.range (fcs N E).length).filter (fun k => isPaneB N E (k : Nat)) from hV.symm)
  rw [hV]
  obtain ⟨n, hn⟩ : ∃ n, (fcs N E).length = n := ⟨_, rfl⟩
  rw [hn] at hl40 HFO HV
  obtain ⟨p, hp⟩ : ∃ p : Nat → Bool, (fun k => isPaneB N E (k : Nat)) = p := ⟨_, rfl⟩
  have hpk : ∀ k : Nat, isPaneB N E (k : Nat) = p k := fun k => congrFun hp k
  rw [hp] at HV
  simp only [hpk] at HIP
  have HFY := hide (fun k h => fr_yes (p := p) (k := k) h)
  have HFN := hide (fun k h => fr_no (p := p) (k := k) h)
  obtain ⟨F, hF⟩ : ∃ F : Nat → List Int, (fun k => castZ ((List.range k).filter p)) = F := ⟨_, rfl⟩
  have hFk : ∀ k, castZ ((List.range k).filter p) = F k := fun k => congrFun hF k
  have HFL := hide (fun k => (show (F k).length ≤ k by rw [← hFk, castZ_length]; exact Nat.le_trans (List.length_filter_le _ _) (by simp)))
  have HF0 := hide (show F 0 = [] from by rw [← hFk]; rfl)
  have HFV := hide (show castZ V = F n ∧ V.length = (F n).length from by
    have h : castZ V = F n := by rw [HV.out]; exact hFk _
    exact ⟨h, by rw [← h, castZ_length]⟩)
  simp only [hFk] at HFY HFN
  clear hw hV hn hp hpk hF hFk HV
  
  go_enter Tryz.func16, Tryz.ntmps16
  go_wp2_with fail
  obtain ⟨w0, hw⟩ : ∃ w1, w1 = (w.alloc (Obj.cells #[Value.slice A N.length c, Value.slice B E.length c'] 27)).alloc (Obj.cells #[] 3) := ⟨_, rfl⟩; rw [← hw]; have kT : Tr [(w.heap.size, [.slice A N.length c, .slice B E.length c'])] w w0 := (by rw [hw]; exact ⟨by (first | (simp [Bx, CellsAt, go_sem, *]; done) | (simp [Bx, CellsAt, go_sem, *]; omega)), by (repeat (first | exact kE | exact Ext.refl _ | apply Ext.alloc | apply Ext.drewN | apply Ext.drew | apply Ext.set0 | apply Ext.set1 | apply Ext.set2 | apply Ext.set3 | (refine Ext.setk ?_ (by omega) _) | (apply Ext.snoc; assumption)))⟩); have HT := hide kT; clear kT; have kT := HT.out; simp only [Tr, Bx, CellsAt, Nat.reduceAdd, Nat.zero_add, and_true] at kT; obtain ⟨⟨kz0, kf0, kc0_0, kc0_1⟩, kE⟩ := kT
  have HO0 := hide (show w0.ownsRow (w.heap.size + 1) 3 1 (.slice (some ⟨w.heap.size + 1, 0, none⟩) 0 0) 0 [] from by
    rw [hw]
    have h := World.ownsRow_lit (base := w.heap.size + 1) (e := 3) (size := 1) (w.alloc (Obj.cells #[Value.slice A N.length c, Value.slice B E.length c'] 27)) #[] 0 (by simp) (Nat.zero_le _) rfl
    simpa using h)
  have hsz0 : w.heap.size + 1 < w0.heap.size := by rw [hw]; simp
  clear hw
  refine (HFO.out _ kE).mono ?_
  rintro e w3 ⟨A2, c2, rfl, hb3⟩
  have HO3 := hide (own_ext HO0.out hb3)
  have HOR := hide (OutR.start (own_ext HO0.out hb3) (fun k e => by injection e with e; exact e.symm))
  have hsz3 := Nat.lt_of_lt_of_le hsz0 hb3.size
  have HSZ3 := hide hsz3
  clear HO0 hsz0 hsz3
  have HT' := hide (HT.out.ext hb3)
  have HE3 := hide (kE.trans hb3)
  clear hb3 HT
  have HT := HT'
  clear HT'
  clear kz0 kf0 kc0_0 kc0_1 kE
  have kT := HT.out; simp only [Tr, Bx, CellsAt, Nat.reduceAdd, Nat.zero_add, and_true] at kT; obtain ⟨⟨kz0, kf0, kc0_0, kc0_1⟩, kE⟩ := kT
  have HTZ := HT
  go_wp2_with fail
  clear kz0 kf0 kc0_0 kc0_1 kE
  clear HT
  go_loopw [3, 5] (fun v i wr => ∃ k : Nat, k ≤ n ∧ i = .int .i64 k ∧ Hid (OutR w3 wr (w.heap.size + 1) 3 1 v (F k).length (encI (F k)))) (fun _ i _ => n - (intOf i).toNat)
  case atStart => exact ⟨0, Nat.zero_le _, rfl, hide (by rw [HF0.out]; exact HOR.out)⟩
  case round =>
    clear HOR
    obtain ⟨k, hk, rfl, HO⟩ := hrel
    by_cases hlt : k < n
    · have hlz : (k : Int) < (n : Int) := by omega
      have hFl := HFL.out k
      have HY := hide (HFY.out k)
      have HN := hide (HFN.out k)
      have hE := HO.out.ext0 HE3.out (by omega)
      have HX := hide hE
      have kz0 := Nat.lt_of_lt_of_le HTZ.out.1.1.1 HO.out.2.1.size
      have kc0_0 := HO.out.cell HTZ.out.1.1.1 (by omega) HTZ.out.1.1.2.2.1
      have kc0_1 := HO.out.cell HTZ.out.1.1.1 (by omega) HTZ.out.1.1.2.2.2.1
      have kf0 : ∀ i, wr.frozen? ⟨w.heap.size, i, none⟩ = false := fun i => by rw [HO.out.frozen HTZ.out.1.1.1 (by omega)]; exact HTZ.out.1.1.2.1 i
      have hsz := HO.out.2.1.size
      clear hE
      go_wp2_with fail
      refine (HIP.out k _ HX.out).mono ?_
      rintro e w4 ⟨rfl, hb4⟩
      have HO4 := hide (HO.out.ext hb4)
      have hs4 := HO4.out.2.1.size
      have hsz3 := HSZ3.out
      clear hb4 HO HX kz0 kc0_0 kc0_1 kf0
      cases hp : p k with
      | false =>
        rw [hp] at HY HN
        clear hp
        go_wp2_with fail
        go_roundw
        case rel => exact ⟨k + 1, by omega, by go_num, hide (by rw [HN.out (by trivial)]; exact HO4.out)⟩
        case measure => simp [intOf]; omega
      | true =>
        rw [hp] at HY HN
        clear hp
        go_wp2_with (at_builtin; refine wpList_append_own_at _ rfl _ _ 31 rfl (w.heap.size + 1) 3 i0 (.int .i64 0) 1 8 Tryz.underlying31 hi hz0 hz1 hz2 rfl (by decide) u3 (F k).length (encI (F k)) rfl (own_ext HO4.out.1 ((Ext.refl _).alloc _)) ⟨w4.heap.size, 0, none⟩ 1 1 [.int .i64 (k : Int)] rfl rfl (news_new w4 #[.int .i64 (k : Int)] 3) (enc_one _) (by unfold maxLen; omega) (by omega) (by first | (simp; done) | (simp; omega)) ?_; intro v' w5 hown5 hgrow5 hnil hloc)
        have ho5 : w5.ownsRow (w.heap.size + 1) 3 1 v' (F (k + 1)).length (encI (F (k + 1))) := by
          rw [HY.out (by trivial), encI_append, List.length_append]
          exact hown5
        have HO5 := hide (HO4.out.app ho5 hgrow5 hloc)
        clear ho5 hown5 hgrow5 hnil hloc
        go_roundw
        case rel => exact ⟨k + 1, by omega, by go_num, by first | exact HO5 | exact hide HO5.out⟩
        case measure => simp [intOf]; omega
    · obtain rfl : k = n := by omega
      have HXE := hide (HO.out.ext0 HE3.out (by omega))
      have ho := HO.out.1
      rw [← HFV.out.2, ← HFV.out.1] at ho
      have HO9 := hide ho
      clear ho HO
      obtain ⟨Ar, cr, rfl, _⟩ := own_slice HO9.out
      go_wp2_with fail
      go_ret
      exact ⟨Ar, cr, rfl, own_mono HO9.out (by omega), HXE.out⟩
set_option maxRecDepth 20000 in
set_option maxHeartbeats 8000000 in
theorem PlacesFor_any (N E S : List P2) (A B C : Option Addr) (c c' c3 : Nat) (w : World) (hw : WR w N E A B c c') (hl : S.length ≤ 1048576) (hr : R2 w C S) :
    Calls Tryz.prog 14 #[.agg #[.slice A N.length c, .slice B E.length c'], .slice C S.length c3] w fun e w' => ∃ A2 c2, e = .returned (.slice A2 (placesN N E S).length c2) ∧ w'.ownsRow w.heap.size 3 1 (.slice A2 (placesN N E S).length c2) (placesN N E S).length (encI (castZ (placesN N E S))) ∧ Ext w w' := by
  obtain ⟨i0, hi, hz0, hz1, hz2⟩ := info_parts int_info
  have HCF := hide (fun (k : Nat) (W : World) (hE : Ext w W) => CanFill_any N E S A B C c c' c3 (k : Int) W (hw.ext hE) hl (hr.ext hE))
  have HPA := hide (fun (W : World) (hE : Ext w W) => PanesOf_any N E A B c c' W (hw.ext hE))
  have hl40 := pansN_len N E
  have HMEM := hide (fun k hk => pansN_mem (N := N) (E := E) (k := k) hk)
  obtain ⟨V, hV⟩ : ∃ V, placesN N E S = V := ⟨_, rfl⟩
  have HV := hide (show V = (pansN N E).filter (fun k => fillB N E (k : Nat) S) from hV.symm)
  rw [hV]
  obtain ⟨L, hL⟩ : ∃ L, pansN N E = L := ⟨_, rfl⟩
  rw [hL] at hl40 HPA HV
  have HMEM := hide (fun k (hk : k < L.length) => (show isPaneB N E ((L[k] : Nat) : Int) = true by subst hL; exact (HMEM.out k hk).2))
  obtain ⟨p, hp⟩ : ∃ p : Nat → Bool, (fun k => fillB N E (k : Nat) S) = p := ⟨_, rfl⟩
  have hpk : ∀ k : Nat, fillB N E (k : Nat) S = p k := fun k => congrFun hp k
  rw [hp] at HV
  simp only [hpk] at HCF
  have HFY := hide (fun k (hk : k < L.length) h => ft_yes (p := p) hk h)
  have HFN := hide (fun k (hk : k < L.length) h => ft_no (p := p) hk h)
  obtain ⟨F, hF⟩ : ∃ F : Nat → List Int, (fun k => castZ ((L.take k).filter p)) = F := ⟨_, rfl⟩
  have hFk : ∀ k, castZ ((L.take k).filter p) = F k := fun k => congrFun hF k
  have HFL := hide (fun k => (show (F k).length ≤ 40 by rw [← hFk, castZ_length]; exact Nat.le_trans (List.length_filter_le _ _) (Nat.le_trans (by simp; omega) hl40)))
  have HF0 := hide (show F 0 = [] from by rw [← hFk]; rfl)
  have HFV := hide (show castZ V = F L.length ∧ V.length = (F L.length).length from by
    have h : castZ V = F L.length := by rw [HV.out, ← hFk, List.take_length]
    exact ⟨h, by rw [← h, castZ_length]⟩)
  simp only [hFk] at HFY HFN
  have HGET := hide (fun k (hk : k < L.length) => encI_castZ_get hk)
  clear hw hr hV hL hp hpk hF hFk HV
  
  go_enter Tryz.func14, Tryz.ntmps14
  go_wp2_with fail
  obtain ⟨w0, hw⟩ : ∃ w1, w1 = w.alloc (Obj.cells #[Value.slice A N.length c, Value.slice B E.length c'] 27) := ⟨_, rfl⟩; rw [← hw]; have kT : Tr [(w.heap.size, [.slice A N.length c, .slice B E.length c'])] w w0 := (by rw [hw]; exact ⟨by (first | (simp [Bx, CellsAt, go_sem, *]; done) | (simp [Bx, CellsAt, go_sem, *]; omega)), by (repeat (first | exact kE | exact Ext.refl _ | apply Ext.alloc | apply Ext.drewN | apply Ext.drew | apply Ext.set0 | apply Ext.set1 | apply Ext.set2 | apply Ext.set3 | (refine Ext.setk ?_ (by omega) _) | (apply Ext.snoc; assumption)))⟩); have HT := hide kT; clear hw kT; have kT := HT.out; simp only [Tr, Bx, CellsAt, Nat.reduceAdd, Nat.zero_add, and_true] at kT; obtain ⟨⟨kz0, kf0, kc0_0, kc0_1⟩, kE⟩ := kT
  refine (HPA.out _ kE).mono ?_
  rintro e w3 ⟨A2, c2, rfl, hrow, hb3⟩
  have HROW := hide (Rds.of_own hrow)
  have HOW := hide hrow
  clear hrow
  have HT' := hide (HT.out.ext hb3)
  have HE3 := hide (kE.trans hb3)
  clear hb3 HT
  have HT := HT'
  clear HT'
  clear kz0 kf0 kc0_0 kc0_1 kE
  have kT := HT.out; simp only [Tr, Bx, CellsAt, Nat.reduceAdd, Nat.zero_add, and_true] at kT; obtain ⟨⟨kz0, kf0, kc0_0, kc0_1⟩, kE⟩ := kT
  have HTZ := HT
  go_wp2_with fail
  clear kz0 kf0 kc0_0 kc0_1 kE
  clear HT
  go_loopw [5, 11] (fun v i wr => ∃ k : Nat, k ≤ L.length ∧ i = .int .i64 k ∧ Hid (wr.ownsRow w3.heap.size 3 1 v (F k).length (encI (F k))) ∧ Hid (Ext w3 wr)) (fun _ i _ => L.length - (intOf i).toNat)
  case atStart => exact ⟨0, Nat.zero_le _, rfl, hide (by rw [HF0.out]; exact World.ownsRow_nil _ _ _ _), hide (Ext.refl _)⟩
  case round =>
    obtain ⟨k, hk, rfl, HO, HE⟩ := hrel
    by_cases hlt : k < L.length
    · have hlz : (k : Int) < (L.length : Int) := by omega
      have hFl := HFL.out k
      have HY := hide (HFY.out k hlt)
      have HN := hide (HFN.out k hlt)
      have hT2 := HTZ.out.ext HE.out
      have HT := hide hT2
      have kT := HT.out; simp only [Tr, Bx, CellsAt, Nat.reduceAdd, Nat.zero_add, and_true] at kT; obtain ⟨⟨kz0, kf0, kc0_0, kc0_1⟩, kE⟩ := kT
      clear hT2
      have HX := hide kE
      have hsz := HE.out.size
      obtain ⟨b3, off3, rfl, hb3, hc3⟩ := (HROW.out.ext HE.out).2 (by omega)
      have cj := hc3 k _ (HGET.out k hlt)
      have HPN := hide (HMEM.out k hlt)
      obtain ⟨f, hf⟩ : ∃ f, L[k] = f := ⟨_, rfl⟩
      rw [hf] at cj HY HN HPN
      clear hf hc3
      go_wp2_with fail
      refine (HCF.out f _ HX.out).mono ?_
      rintro e w4 ⟨rfl, hb4⟩
      clear cj
      have HO4 := hide (own_ext HO.out hb4)
      have HE4 := hide (HE.out.trans hb4)
      have hs4 := HE4.out.size
      clear hb4 HO HE HX HT
      clear kz0 kf0 kc0_0 kc0_1 kE
      cases hp : p f with
      | false =>
        rw [hp] at HY HN
        clear hp
        go_wp2_with fail
        go_roundw
        case rel => exact ⟨k + 1, by omega, by go_num, hide (by rw [HN.out (by trivial)]; exact HO4.out), by first | exact HE4 | exact hide HE4.out⟩
        case measure => simp [intOf]; omega
      | true =>
        rw [hp] at HY HN
        clear hp
        go_wp2_with (at_builtin; refine wpList_append_own _ rfl _ _ 31 rfl w3.heap.size 3 i0 (.int .i64 0) 1 8 Tryz.underlying31 hi hz0 hz1 hz2 rfl (by decide) u5 (F k).length (encI (F k)) rfl (own_ext HO4.out ((Ext.refl _).alloc _)) ⟨w4.heap.size, 0, none⟩ 1 1 [.int .i64 (f : Int)] rfl rfl (news_new w4 #[.int .i64 (f : Int)] 3) (enc_one _) (by unfold maxLen; omega) (by omega) (by first | (simp; done) | (simp; omega)) ?_; intro v' w5 hown5 hgrow5 hnil)
        have E5 := hide (Ext.grown (HE4.out.alloc _) hgrow5 (own_base HO4.out (Nat.le_refl _)))
        have HO5 := hide (show w5.ownsRow w3.heap.size 3 1 v' (F (k + 1)).length (encI (F (k + 1))) from by
          rw [HY.out (by trivial), encI_append, List.length_append]
          exact hown5)
        clear hown5 hgrow5 hnil
        go_roundw
        case rel => exact ⟨k + 1, by omega, by go_num, by first | exact HO5 | exact hide HO5.out, by first | exact E5 | exact hide E5.out⟩
        case measure => simp [intOf]; omega
    · obtain rfl : k = L.length := by omega
      have HXE := hide (HE3.out.trans HE.out)
      have hsz := HE3.out.size
      have ho := HO.out
      rw [← HFV.out.2, ← HFV.out.1] at ho
      have HO9 := hide ho
      clear ho HO
      obtain ⟨Ar, cr, rfl, _⟩ := own_slice HO9.out
      go_wp2_with fail
      go_ret
      exact ⟨Ar, cr, rfl, own_mono HO9.out hsz, HXE.out⟩
noncomputable def placesV (N E S : List P2) : List Int := castZ (placesN N E S)
theorem placesV_length (N E S : List P2) : (placesV N E S).length = (placesN N E S).length := castZ_length _
theorem placesV_len (N E S : List P2) : (placesV N E S).length ≤ 40 := by rw [placesV_length]; exact placesN_len N E S
theorem PlacesFor_anyv (N E S : List P2) (A B C : Option Addr) (c c' c3 : Nat) (w : World) (hw : WR w N E A B c c') (hl : S.length ≤ 1048576) (hr : R2 w C S) :
    Calls Tryz.prog 14 #[.agg #[.slice A N.length c, .slice B E.length c'], .slice C S.length c3] w fun e w' => ∃ A2 c2, e = .returned (.slice A2 (placesV N E S).length c2) ∧ w'.ownsRow w.heap.size 3 1 (.slice A2 (placesV N E S).length c2) (placesV N E S).length (encI (placesV N E S)) ∧ Ext w w' := by
  rw [placesV_length]
  exact PlacesFor_any N E S A B C c c' c3 w hw hl hr
end Go.Proofs.YtabgcpoaepafjaaGreat
namespace Go.Proofs.YtabgcpoaepafjaaGreat
open Go.RowKit
/-- A drawn shape: normal, with an area. -/
structure DS (S : List P2) : Prop where
  ns : NS S
  ar : 0 < arS S
  len : S.length ≤ 40
  ok : ∀ p ∈ S, nodeOk p = true
theorem DS.of {S : List P2} (h : NS S) (k : 0 < arS S) (l : S.length ≤ 40) : DS S := ⟨h, k, l, fun p hp => by
  obtain ⟨i, hi, rfl⟩ := List.getElem_of_mem hp
  have := Shp.nodesOkB_at h.ok hi
  exact nodeOk_iff.2 ⟨⟨this.1, this.2.1⟩, this.2.2⟩⟩
theorem ds_three : DS [(0, 0), (3, 1), (0, 2)] := DS.of ⟨by decide, Nd.of_nodup (by decide) (by decide), by decide, by decide +kernel⟩ (by decide +kernel) (by decide)
theorem ds_pane {N E : List P2} (h : wholeB N E = true) {k : Nat} (hk : k < (pansN N E).length) : DS (shapeV N E ((pansN N E)[k] : Nat)) := by
  obtain ⟨h1, h2⟩ := pansN_mem hk
  obtain ⟨a, b, _⟩ := pane_shape h h1 h2
  exact DS.of a b shapeV_len
theorem own_gx {g base n sz : Nat} {l : List Int} {w w' : World} {T : TypeId} {v : Value} {xs : List Value} (h : w.ownsRow base T sz v n xs) (hg : Gx g l w w') (hb : g < base) : w'.ownsRow base T sz v n xs :=
  h.kept hg.gr (.inr fun e => by have := (h.lt g e).1; omega)
set_option maxRecDepth 20000 in
set_option maxHeartbeats 8000000 in
theorem l18Shape_any (g : Nat) (l : List Int) (w : World) (hl : l.length ≤ 1048576) (hc : Cur w g l) :
    Calls Tryz.prog 83 #[.pointer (some ⟨g, 0, none⟩)] w fun e w' => ∃ S A c, e = .returned (.slice A S.length c) ∧ DS S ∧ w'.ownsRow w.heap.size 84 2 (.slice A S.length c) S.length (enc2 S) ∧ Gx g l w w' := by
  have HC := hide hc
  have hgl := hc.lt
  clear hc
  
  go_enter Tryz.func83, Tryz.ntmps83
  go_wp2_with fail
  refine (l07Whole_any g l _ hl HC.out).mono ?_
  rintro e w2 ⟨N, E, A, B, c, c', rfl, ⟨hwh, hn5, hn13, he8⟩, hwn, hgx⟩
  have HN2 := hide hwn
  have HG2 := hide hgx
  have hz2 := hgx.size
  clear hwn hgx
  go_wp2_with fail
  obtain ⟨w3, hw3⟩ : ∃ w3, w3 = w2.alloc (Obj.cells #[Value.slice A N.length c, Value.slice B E.length c'] 27) := ⟨_, rfl⟩
  have kz0 : w2.heap.size < w3.heap.size := by rw [hw3]; simp
  have kf0 : ∀ i, w3.frozen? ⟨w2.heap.size, i, none⟩ = false := by intro i; rw [hw3]; simp [go_sem]
  have kc0_0 : w3.cell? ⟨w2.heap.size, 0, none⟩ = some (.slice A N.length c) := by rw [hw3]; simp [go_sem]
  have kc0_1 : w3.cell? ⟨w2.heap.size, 1, none⟩ = some (.slice B E.length c') := by rw [hw3]; simp [go_sem]
  have hE3 : Ext w2 w3 := by rw [hw3]; exact (Ext.refl _).alloc _
  rw [← hw3]
  have HN3 := hide (HN2.out.ext hE3)
  have HG3 := hide (HG2.out.trans (Gx.ext HG2.out.cur hE3))
  obtain ⟨b3, hb3e⟩ : ∃ b, b = w2.heap.size := ⟨_, rfl⟩
  rw [← hb3e] at kz0 kf0 kc0_0 kc0_1 hz2 ⊢
  clear HN2 HG2 hw3 hE3 hb3e
  refine (sPanesOf_any N E A B c c' _ (HN3.out.wr (by omega) (by omega))).mono ?_
  rintro e w4 ⟨A4, c4, rfl, ho, hb⟩
  have HP4 := hide ho
  have HN4 := hide (HN3.out.ext hb)
  have HG4 := hide (HG3.out.trans (Gx.ext HG3.out.cur hb))
  have hz4 := hb.size
  have hf4 := hb.facts
  have kc0 := (hf4.1 b3 0 kz0).trans kc0_0
  have kc1 := (hf4.1 b3 1 kz0).trans kc0_1
  have kf := fun i => (hf4.2.1 b3 i kz0).trans (kf0 i)
  have kz := hf4.2.2 b3 kz0
  clear ho hb HN3 HG3 kc0_0 kc0_1 kf0 hf4
  have hp40 := pansN_len N E
  have HDP := hide (fun (k : Nat) (hk : k < (pansN N E).length) => ds_pane hwh hk)
  obtain ⟨P, hP⟩ : ∃ P, pansN N E = P := ⟨_, rfl⟩
  rw [hP] at HP4 hp40 HDP ⊢
  clear hP
  by_cases h0 : P.length = 0
  · go_wp2_with fail
    go_ret
    have HT := World.ownsRow_lit (base := w.heap.size) (e := 84) (size := 2) w4 #[Value.int .i64 0, Value.int .i64 0, Value.int .i64 3, Value.int .i64 1, Value.int .i64 0, Value.int .i64 2] 3 (by omega) (by unfold maxLen; omega) (by simp)
    exact ⟨[(0, 0), (3, 1), (0, 2)], _, _, rfl, ds_three, HT, HG4.out.trans (Gx.ext HG4.out.cur ((Ext.refl _).alloc _))⟩
  · have h0' : 0 < P.length := by omega
    have HC4 := hide HG4.out.cur
    have hgb3 : ¬ b3 = g := by omega
    have HRP := hide (Rds.of_own HP4.out)
    go_upto_region 5 with fail
    apply wp_region_GRL (K := Gx g l) 9 25 (by kernel_rfl) (Gx.drew HC4.out) (fun h1 h2 => h1.trans h2) (by kernel_rfl) (by kernel_rfl) (by kernel_rfl) (by kernel_rfl) (by kernel_rfl) rfl [fun v _ => v = _, fun v _ => v = .slice A4 P.length c4, fun v _ => v = _, fun v _ => v = _, fun v _ => v = _, fun v _ => ∃ x : Nat, v = .int .i64 (x : Int) ∧ x < P.length, fun v _ => ∃ (x : Nat) (q o : Nat), v = .pointer (some ⟨q, o + x, none⟩) ∧ x < P.length ∧ A4 = some ⟨q, o, none⟩, fun v _ => ∃ (x : Nat) (hx : x < P.length), v = .int .i64 ((P[x] : Nat) : Int), fun v w' => ∃ (S : List P2) (A : Option Addr) (c : Nat), v = .slice A S.length c ∧ DS S ∧ w'.ownsRow w4.heap.size 84 2 (.slice A S.length c) S.length (enc2 S)] rfl ⟨stabk_eq _ _, stabk_eq _ _, stabk_eq _ _, stabk_eq _ _, stabk_eq _ _, stabk_any _ _, stabk_any _ _, stabk_any _ _, (fun v W W' ⟨S, A, c, h1, h2, h3⟩ hG => ⟨S, A, c, h1, h2, own_gx h3 hG (by omega)⟩), trivial⟩ ?R5hop ?R5fin
    case R5hop =>
      intro a w' hE hA
      have c0 := hE.cell kz (by omega) kc0
      have c1 := hE.cell kz (by omega) kc1
      have f0 := hE.frz kz (by omega) kf
      have z0 : b3 < w'.heap.size := Nat.lt_of_lt_of_le kz hE.size
      have hcu := hide hE.cur
      have HPP := hide (own_gx HP4.out hE (by omega))
      have HE := hide hE
      refine ⟨⟨⟨⟨⟨⟨⟨⟨⟨trivial, ?_⟩, ?_⟩, ?_⟩, ?_⟩, ?_⟩, ?_⟩, ?_⟩, ?_⟩, ?_⟩
      · intro hp
        have s3 := hA 3 (by rfl)
        simp [sl] at s3
        clear hp
        refine wpOp_of_list rfl rfl ?_
        go_wp2_with (fail)
        exact ⟨_, rfl, rfl, Gx.refl hcu.out⟩
      · intro hp
        have s4 := hA 4 (by rfl)
        simp [sl] at s4
        clear hp
        refine wpOp_of_list rfl rfl ?_
        go_wp2_with (fail)
        exact ⟨_, rfl, rfl, Gx.refl hcu.out⟩
      · intro hp
        have s0 := hA 0 (by rfl)
        simp [sl] at s0
        clear hp
        refine wpOp_of_list rfl rfl ?_
        go_wp2_with (fail)
        exact ⟨_, rfl, rfl, Gx.refl hcu.out⟩
      · intro hp
        have s4 := hA 4 (by rfl)
        simp [sl] at s4
        clear hp
        refine wpOp_of_list rfl rfl ?_
        go_wp2_with (fail)
        exact ⟨_, rfl, rfl, Gx.refl hcu.out⟩
      · intro hp
        have s19 := hp 3 (by rfl)
        change a.tmps.getD 19 undef = _ at s19
        simp at s19
        clear hp
        refine wpOp_of_list rfl rfl ?_
        go_wp2_with (fail)
        exact ⟨_, rfl, rfl, Gx.refl hcu.out⟩
      · intro hp
        have s18 := hp 2 (by rfl)
        change a.tmps.getD 18 undef = _ at s18
        simp at s18
        have s20 := hp 4 (by rfl)
        change a.tmps.getD 20 undef = _ at s20
        simp at s20
        clear hp
        refine wpOp_of_list rfl rfl ?_
        go_wp2_with (go_at_call 58; refine (l01Below_any g P.length l _ hl (by omega) (by omega) hcu.out).mono ?_; rintro e wq ⟨x, rfl, hx0, hx1, hcq, hgq⟩; obtain ⟨x, rfl⟩ := Int.eq_ofNat_of_zero_le hx0)
        exact ⟨_, rfl, ⟨x, rfl, by omega⟩, ⟨hgq, hcq⟩⟩
      · intro hp
        have s17 := hp 1 (by rfl)
        obtain s17 := s17
        change a.tmps.getD 17 undef = _ at s17
        simp at s17
        have s21 := hp 5 (by rfl)
        obtain ⟨x, s21, hx⟩ := s21
        change a.tmps.getD 21 undef = _ at s21
        simp at s21
        clear hp
        refine wpOp_of_list rfl rfl ?_
        obtain ⟨q, o, rfl, hq, hqc⟩ := HRP.out.2 h0'
        go_wp2_with (fail)
        exact ⟨_, rfl, ⟨x, q, o, rfl, hx, rfl⟩, Gx.refl hcu.out⟩
      · intro hp
        have s22 := hp 6 (by rfl)
        obtain ⟨x, q, o, s22, hx, rfl⟩ := s22
        change a.tmps.getD 22 undef = _ at s22
        simp at s22
        clear hp
        refine wpOp_of_list rfl rfl ?_
        obtain ⟨q', o', eq, hq, hqc⟩ := (Rds.of_own HPP.out).2 h0'
        injection eq with eq
        injection eq with eq1 eq2 _
        subst eq1 eq2
        have hqx := hqc x _ (encI_castZ_get hx)
        go_wp2_with (fail)
        exact ⟨_, rfl, ⟨x, hx, rfl⟩, Gx.refl hcu.out⟩
      · intro hp
        have s16 := hp 0 (by rfl)
        change a.tmps.getD 16 undef = _ at s16
        simp at s16
        have s23 := hp 7 (by rfl)
        obtain ⟨x, hx, s23⟩ := s23
        change a.tmps.getD 23 undef = _ at s23
        simp at s23
        clear hp
        refine wpOp_of_list rfl rfl ?_
        go_wp2_with (go_at_call 17; refine (sShapeOf_any N E A B c c' ((P[x] : Nat) : Int) _ ((HN4.out.gx HE.out (by omega)).wr (by omega) (by omega))).mono ?_; rintro e wq ⟨A5, c5, rfl, hoq, hbq⟩)
        exact ⟨_, rfl, ⟨_, A5, c5, rfl, HDP.out x hx, own_mono hoq (by have := HE.out.size; omega)⟩, Gx.ext hcu.out hbq⟩
    case R5fin =>
      intro X w' hE hp
      obtain ⟨⟨⟨⟨⟨⟨⟨⟨⟨-, h0⟩, h1⟩, h2⟩, h3⟩, h4⟩, h5⟩, h6⟩, h7⟩, h8⟩ := hp
      change X 0 = _ at h0
      obtain h1 := h1
      change X 1 = _ at h1
      change X 2 = _ at h2
      change X 3 = _ at h3
      change X 4 = _ at h4
      obtain ⟨x, h5, hx⟩ := h5
      change X 5 = _ at h5
      obtain ⟨x, q, o, h6, hx, rfl⟩ := h6
      change X 6 = _ at h6
      obtain ⟨x, hx, h7⟩ := h7
      change X 7 = _ at h7
      obtain ⟨S, AS, cS, h8, hds, hos⟩ := h8
      change X 8 = _ at h8
      simp only [List.drop_succ_cons, List.drop_zero]
      go_simp
      have HGF := hide (HG4.out.trans hE)
      have HOS := hide hos
      clear hos hE
      go_wp2_with fail
      go_ret
      exact ⟨S, _, _, rfl, hds, own_mono HOS.out (by omega), HGF.out⟩
end Go.Proofs.YtabgcpoaepafjaaGreat
namespace Go.Proofs.YtabgcpoaepafjaaGreat
open Go.ChangeShapes Go.WideShapes Go.RowKit Go.Joins Go.Deep
/-- The slice of address A reads as headers of the rows L. -/
def RSS (w : World) (A : Option Addr) (L : List (List P2)) : Prop :=
  ∃ hs : List Value, Rds w 1 A L.length hs ∧ ∀ (i : Nat) (hi : i < L.length), ∃ (B : Option Addr) (c : Nat), hs[i]? = some (.slice B L[i].length c) ∧ L[i].length ≤ c ∧ c ≤ maxLen ∧ R2 w B L[i]
theorem RSS.ext {w w' : World} {A : Option Addr} {L : List (List P2)} (h : RSS w A L) (hE : Ext w w') : RSS w' A L := by
  obtain ⟨hs, h1, h2⟩ := h
  refine ⟨hs, h1.ext hE, fun i hi => ?_⟩
  obtain ⟨B, c, e1, e2, e3, e4⟩ := h2 i hi
  exact ⟨B, c, e1, e2, e3, Rds.ext e4 hE⟩
theorem RSS.at_ {w : World} {A : Option Addr} {L : List (List P2)} (h : RSS w A L) {k : Nat} (hk : k < L.length) : ∃ b off, A = some ⟨b, off, none⟩ ∧ b < w.heap.size ∧ ∃ (B : Option Addr) (c : Nat), w.cell? ⟨b, off + k, none⟩ = some (.slice B L[k].length c) ∧ L[k].length ≤ c ∧ c ≤ maxLen ∧ R2 w B L[k] := by
  obtain ⟨hs, h1, h2⟩ := h
  obtain ⟨b, off, e, hb, hc⟩ := h1.2 (by omega)
  obtain ⟨B, c, e1, e2, e3, e4⟩ := h2 k hk
  exact ⟨b, off, e, hb, B, c, hc _ _ e1, e2, e3, e4⟩
section
variable {H : Type} {enc : TypeId × Value → H} {P : Program} {w : World}
end
/-- Blocks below lo and from hi on are as they were. -/
structure Rng (lo hi : Nat) (w w' : World) : Prop where
  os : w'.os = w.os
  tape : w'.tape = w.tape
  output : w'.output = w.output
  size : w.heap.size ≤ w'.heap.size
  block : ∀ k, k < w.heap.size → (k < lo ∨ hi ≤ k) → w'.heap[k]? = w.heap[k]?
theorem Rng.refl (lo hi : Nat) (w : World) : Rng lo hi w w := ⟨rfl, rfl, rfl, Nat.le_refl _, fun _ _ _ => rfl⟩
theorem Rng.trans {lo hi : Nat} {a b c : World} (h : Rng lo hi a b) (k : Rng lo hi b c) : Rng lo hi a c :=
  ⟨k.os.trans h.os, k.tape.trans h.tape, k.output.trans h.output, Nat.le_trans h.size k.size, fun i hi hr => (k.block i (Nat.lt_of_lt_of_le hi h.size) hr).trans (h.block i hi hr)⟩
theorem Rng.below {lo hi : Nat} {w w' a : World} (h : Rng lo hi w w') (hE : Ext a w) (hl : a.heap.size ≤ lo) : Ext a w' :=
  ⟨h.os.trans hE.os, h.tape.trans hE.tape, h.output.trans hE.output, Nat.le_trans hE.size h.size, fun k hk => (h.block k (Nat.lt_of_lt_of_le hk hE.size) (.inl (by omega))).trans (hE.block k hk)⟩
theorem Rng.own {lo hi : Nat} {w w' : World} (h : Rng lo hi w w') {base n sz : Nat} {T : TypeId} {v : Value} {xs : List Value} (ho : w.ownsRow base T sz v n xs) (hr : ∀ k, v.ownBlock = some k → k < lo ∨ hi ≤ k) : w'.ownsRow base T sz v n xs := by
  cases hv : v.ownBlock with
  | none =>
    rcases ho.2 with ⟨rfl, h0⟩ | ⟨g, c, cur, rfl, _⟩
    · exact ⟨ho.1, .inl ⟨rfl, h0⟩⟩
    · cases hv
  | some k =>
    have hk := ho.lt k hv
    have hs := h.size
    -- a world that differs from w in no block but those that turned
    rcases ho.2 with ⟨rfl, h0⟩ | ⟨g, c, cur, rfl, h1, h2, h3⟩
    · cases hv
    · have e : some g = some k := hv
      injection e with e
      subst e
      exact ⟨ho.1, .inr ⟨g, c, cur, rfl, h1, (h.block g hk.2 (hr g hv)).trans h2, h3⟩⟩
theorem Rng.rds {lo hi : Nat} {w w' : World} (h : Rng lo hi w w') {A : Option Addr} {k s : Nat} {zs : List Value} (hr : Rds w s A k zs) (hne : ∀ b off, A = some ⟨b, off, none⟩ → b < lo ∨ hi ≤ b) : Rds w' s A k zs :=
  hr.keep h.size fun b off e _ hb => h.block b hb (hne b off e)
theorem Rng.tr {lo hi : Nat} {w w' a : World} {bs : List (Nat × List Value)} (h : Rng lo hi w w') (hT : Tr bs a w) (hl : a.heap.size ≤ lo) (hb : ∀ p ∈ bs, p.1 < lo ∨ hi ≤ p.1) : Tr bs a w' := by
  refine ⟨?_, h.below hT.2 hl⟩
  have hT1 := hT.1
  clear hT
  induction bs with
  | nil => trivial
  | cons p bs ih =>
    obtain ⟨b, vs⟩ := p
    have hblk := h.block b hT1.1.1 (hb (b, vs) (by simp))
    refine ⟨⟨Nat.lt_of_lt_of_le hT1.1.1 h.size, fun i => ?_, ?_⟩, ih (fun q hq => hb q (by simp [hq])) hT1.2⟩
    · rw [← hT1.1.2.1 i]
      exact World.frozen?_of_block hblk
    · have hc := hT1.1.2.2
      clear ih hT1 hb
      generalize 0 = j at hc ⊢
      induction vs generalizing j with
      | nil => trivial
      | cons v vs ih2 => exact ⟨by rw [← hc.1]; exact World.cell?_of_block hblk, ih2 _ hc.2⟩
end Go.Proofs.YtabgcpoaepafjaaGreat
