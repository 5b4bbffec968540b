/- Words and walks for the law FnMatches, a part of them. No condition but that the arguments lie in memory. -/
import Derived.Test.YtabgcpoaepafjaaGreatU2
import Derived.Test.YtabgcpoaepafjaaGreatU13
import Derived.Test.YtabgcpoaepafjaaGreatU23
set_option linter.unusedVariables false
set_option linter.unusedSimpArgs false
namespace Go.Proofs.YtabgcpoaepafjaaGreat
open Go.RowKit
/-- The nodes of a walk. -/
def nodesL (E : List P2) (l : List Nat) : List Int := l.map (fromN E)
theorem nodesL_length (E : List P2) (l : List Nat) : (nodesL E l).length = l.length := by simp [nodesL]
noncomputable def paneV (N E : List P2) (f : Int) : List Int := if inR f 0 (((fcs N E).length : Int) - 1) = true then nodesL E ((fcs N E).getD f.toNat []) else []
theorem paneV_no {N E : List P2} {f : Int} (h : inR f 0 (((fcs N E).length : Int) - 1) = false) : paneV N E f = [] := by unfold paneV; rw [if_neg (by simp [h])]
theorem paneV_yes {N E : List P2} {k : Nat} (hk : k < (fcs N E).length) : paneV N E (k : Nat) = nodesL E (fcs N E)[k] := by
  unfold paneV
  rw [if_pos (by simp [inR]; omega)]
  simp [hk]
theorem paneV_len {N E : List P2} {f : Int} : (paneV N E f).length ≤ 40 := by
  unfold paneV
  split
  · rename_i h
    obtain ⟨k, rfl, hk⟩ := in_face h
    rw [nodesL_length]
    have := (fcs_at hk).2.2.1
    simpa [hk] using this
  · simp
theorem paneV_pos {N E : List P2} {k : Nat} (hk : k < (fcs N E).length) : 0 < (paneV N E (k : Nat)).length := by
  rw [paneV_yes hk, nodesL_length]
  have hwh := fcs_whole (show 0 < (fcs N E).length by omega)
  have := ((fcs_facts hwh).2.2.1 (fcs N E)[k] (List.getElem_mem hk)).1
  exact List.length_pos_iff.2 this
theorem nodesL_take {E : List P2} {l : List Nat} {k : Nat} (hk : k < l.length) : nodesL E (l.take (k + 1)) = nodesL E (l.take k) ++ [fromN E l[k]] := by
  unfold nodesL
  rw [List.take_succ_eq_append_getElem hk, List.map_append]
  rfl
set_option maxRecDepth 20000 in
set_option maxHeartbeats 4000000 in
theorem PaneNodes_any (N E : List P2) (A B : Option Addr) (c c' : Nat) (f : Int) (w : World) (hw : WR w N E A B c c') :
    Calls Tryz.prog 91 #[.agg #[.slice A N.length c, .slice B E.length c'], .int .i64 f] w fun e w' => ∃ A2 c2, e = .returned (.slice A2 (paneV N E f).length c2) ∧ (A2 = none ↔ (paneV N E f).length = 0) ∧ (A2 = none → c2 = 0) ∧ w'.ownsRow w.heap.size 3 1 (.slice A2 (paneV N E f).length c2) (paneV N E f).length (encI (paneV N E f)) ∧ Ext w w' := by
  obtain ⟨i0, hi, hz0, hz1, hz2⟩ := info_parts int_info
  have HW := hide hw
  clear hw
  have hvl := paneV_len (N := N) (E := E) (f := f)
  have HVN := hide (fun h => paneV_no (N := N) (E := E) (f := f) h)
  have HVP := hide (fun k hk => paneV_pos (N := N) (E := E) (k := k) hk)
  have HVY := hide (fun k hk => paneV_yes (N := N) (E := E) (k := k) hk)
  obtain ⟨V, hV⟩ : ∃ V, paneV N E f = V := ⟨_, rfl⟩
  have HVD := hide hV
  rw [hV] at hvl ⊢
  clear hV
  
  go_enter Tryz.func91, Tryz.ntmps91
  go_wp2_with fail
  obtain ⟨w0, hw⟩ : ∃ w1, w1 = w.alloc (Obj.cells #[Value.slice A N.length c, Value.slice B E.length c'] 27) := ⟨_, rfl⟩; rw [← hw]; have kT : Tr [(w.heap.size, [.slice A N.length c, .slice B E.length c'])] w w0 := (by rw [hw]; exact ⟨by (first | (simp [Bx, CellsAt, go_sem, *]; done) | (simp [Bx, CellsAt, go_sem, *]; omega)), by (repeat (first | exact kE | exact Ext.refl _ | apply Ext.alloc | apply Ext.drewN | apply Ext.drew | apply Ext.set0 | apply Ext.set1 | apply Ext.set2 | apply Ext.set3 | (refine Ext.setk ?_ (by omega) _) | (apply Ext.snoc; assumption)))⟩); have HT := hide kT; clear hw kT; have kT := HT.out; simp only [Tr, Bx, CellsAt, Nat.reduceAdd, Nat.zero_add, and_true] at kT; obtain ⟨⟨kz0, kf0, kc0_0, kc0_1⟩, kE⟩ := kT
  refine (FacesOf_any N E A B c c' _ (HW.out.ext kE)).mono ?_
  rintro e w5 ⟨A2, c2, rfl, _, _, hRT, hc2, hb5⟩
  have HR := hide hRT
  have hl40 := fcs_len (N := N) (E := E)
  have HF := hide (fun k hk => fcs_at (N := N) (E := E) (k := k) hk)
  have HT' := hide (HT.out.ext hb5)
  clear hRT hb5 HT
  have HT := HT'
  clear HT'
  clear kz0 kf0 kc0_0 kc0_1 kE
  have kT := HT.out; simp only [Tr, Bx, CellsAt, Nat.reduceAdd, Nat.zero_add, and_true] at kT; obtain ⟨⟨kz0, kf0, kc0_0, kc0_1⟩, kE⟩ := kT
  obtain ⟨F, hF⟩ : ∃ F, fcs N E = F := ⟨_, rfl⟩
  rw [hF] at HR hl40 HF HVN HVP HVY hc2 ⊢
  clear hF
  have HE5 := hide kE
  have HTZ := HT
  by_cases hf : 0 ≤ f ∧ f < (F.length : Int)
  · obtain ⟨k, rfl⟩ := Int.eq_ofNat_of_zero_le hf.1
    have hlt : k < F.length := by omega
    have hin : inR (k : Int) 0 ((F.length : Int) - 1) = true := by simp [inR]; omega
    have hlz : (k : Int) < (F.length : Int) := by omega
    obtain ⟨b, off, Ai, ci, rfl, hb, ch, hci, hri⟩ := HR.out.at_ hlt
    obtain ⟨hok, hld, hl4, ha1, ha2⟩ := HF.out k hlt
    have HV := hide (HVY.out k hlt)
    have hpos := HVP.out k hlt
    have HRI := hide hri
    obtain ⟨l, hl⟩ : ∃ l, F[k] = l := ⟨_, rfl⟩
    rw [hl] at HV ch hld hl4 HRI
    have HLD := hide hld
    have HDF := hide (fun (d : Nat) (W : World) (hE : Ext w W) (hd : d < 2 * E.length) => dartFrom_any N E A B c c' d W (HW.out.ext hE) hd)
    have hV := HVD.out
    rw [hV] at HV hpos
    clear hl hok hri hci hf ha1 ha2 hld hV HVN HVP HVY HVD
    go_wp2_with (first | (go_at_call 67; refine (within_any _ _ _ _).mono ?_; rintro e w' ⟨rfl, rfl⟩))
    clear kz0 kf0 kc0_0 kc0_1 kE
    clear HT ch hb
    go_loopw [6, 22] (fun v i wr => ∃ j : Nat, j ≤ l.length ∧ i = .int .i64 j ∧ Hid (wr.ownsRow w5.heap.size 3 1 v (l.take j).length (encI (nodesL E (l.take j)))) ∧ Hid (Ext w5 wr)) (fun _ i _ => l.length - (intOf i).toNat)
    case atStart => exact ⟨0, Nat.zero_le _, rfl, hide (World.ownsRow_nil _ _ _ _), hide (Ext.refl _)⟩
    case round =>
      obtain ⟨j, hj, rfl, HO, HE⟩ := hrel
      by_cases hjl : j < l.length
      · have HT := hide (HTZ.out.ext HE.out)
        have kT := HT.out; simp only [Tr, Bx, CellsAt, Nat.reduceAdd, Nat.zero_add, and_true] at kT; obtain ⟨⟨kz0, kf0, kc0_0, kc0_1⟩, kE⟩ := kT
        have hjz : (j : Int) < (l.length : Int) := by omega
        obtain ⟨b3, off3, rfl, hb3, hc3⟩ := (HRI.out.ext HE.out).2 (by omega)
        have cj := hc3 j _ (show (encN l)[j]? = some (.int .i64 ((l[j] : Nat) : Int)) by simp [encN, hjl])
        clear hc3
        have HTK := hide (nodesL_take (E := E) hjl)
        have hd := HLD.out l[j] (List.getElem_mem hjl)
        have hlt2 : (l.take j).length = j := by simp; omega
        rw [hlt2] at HO
        obtain ⟨d, hdd⟩ : ∃ d, l[j] = d := ⟨_, rfl⟩
        rw [hdd] at cj HTK hd
        clear hdd hlt2
        have HC := hide (fun (W : World) (hE : Ext wr W) => HDF.out d W (kE.trans hE) hd)
        obtain ⟨x, hx⟩ : ∃ x, fromN E d = x := ⟨_, rfl⟩
        rw [hx] at HC HTK
        clear hx
        have hsz := HE.out.size
        go_wp2_with (first | (go_at_call 120; refine (HC.out _ (Ext.refl _)).mono ?_; rintro e w6 ⟨rfl, hb6⟩; have HE6 := hide (HE.out.trans hb6); have HO6 := hide (own_ext HO.out hb6); have hsz6 := HE6.out.size; clear hb6) | (at_builtin; refine wpList_append_own _ rfl _ _ 31 rfl w5.heap.size 3 i0 (.int .i64 0) 1 8 Tryz.underlying31 hi hz0 hz1 hz2 rfl (by decide) u6 j (encI (nodesL E (l.take j))) rfl (own_ext HO6.out ((Ext.refl _).alloc _)) ⟨w6.heap.size, 0, none⟩ 1 1 [.int .i64 x] rfl rfl (news_new w6 #[.int .i64 x] 3) (enc_one _) (by unfold maxLen; omega) (by omega) (by first | (simp; done) | (simp; omega)) ?_; intro v' w4 hown4 hgrow4 hnil))
        have E4 := hide (Ext.grown (HE6.out.alloc _) hgrow4 (own_base HO6.out (Nat.le_refl _)))
        have HO4 := hide (show w4.ownsRow w5.heap.size 3 1 v' (l.take (j + 1)).length (encI (nodesL E (l.take (j + 1)))) from by
          rw [HTK.out, encI_append, show (l.take (j + 1)).length = j + 1 by simp; omega]
          exact hown4)
        clear hown4 hgrow4 hnil cj
        go_roundw
        case rel => exact ⟨j + 1, by omega, by go_num, HO4, E4⟩
        case measure => simp [intOf]; omega
      · obtain rfl : j = l.length := by omega
        have ho := HO.out
        rw [List.take_length, ← HV.out] at ho
        have hVl : V.length = l.length := by rw [HV.out, nodesL_length]
        rw [← hVl] at ho
        obtain ⟨A', c4, e1, _, hA0, hA1⟩ := own_slice ho
        subst e1
        have HO9 := hide ho
        clear ho
        go_wp2_with fail
        go_ret
        refine ⟨A', c4, rfl, ⟨fun h => hA0 h, fun h => by omega⟩, fun h => by have := hA0 h; omega, own_mono HO9.out HE5.out.size, HE5.out.trans HE.out⟩
  · have hin : inR f 0 ((F.length : Int) - 1) = false := by simp [inR]; omega
    have HV := hide (HVD.out.symm.trans (HVN.out hin))
    clear hf HVN HVP HVY HVD
    go_wp2_with (first | (go_at_call 67; refine (within_any _ _ _ _).mono ?_; rintro e w' ⟨rfl, rfl⟩))
    go_ret
    rw [HV.out]
    exact ⟨none, 0, rfl, by simp, fun _ => rfl, World.ownsRow_nil _ _ _ _, HE5.out⟩
set_option maxRecDepth 20000 in
set_option maxHeartbeats 4000000 in
theorem sPaneNodes_any (N E : List P2) (A B : Option Addr) (c c' : Nat) (f : Int) (w : World) (hw : WR w N E A B c c') :
    Calls Tryz.prog 55 #[.agg #[.slice A N.length c, .slice B E.length c'], .int .i64 f] w fun e w' => ∃ A2 c2, e = .returned (.slice A2 (paneV N E f).length c2) ∧ w'.ownsRow w.heap.size 3 1 (.slice A2 (paneV N E f).length c2) (paneV N E f).length (encI (paneV N E f)) ∧ Ext w w' := by
  obtain ⟨i0, hi, hz0, hz1, hz2⟩ := info_parts int_info
  have HW := hide hw
  clear hw
  have hvl := paneV_len (N := N) (E := E) (f := f)
  have HVN := hide (fun h => paneV_no (N := N) (E := E) (f := f) h)
  have HVP := hide (fun k hk => paneV_pos (N := N) (E := E) (k := k) hk)
  have HVY := hide (fun k hk => paneV_yes (N := N) (E := E) (k := k) hk)
  obtain ⟨V, hV⟩ : ∃ V, paneV N E f = V := ⟨_, rfl⟩
  have HVD := hide hV
  rw [hV] at hvl ⊢
  clear hV
  
  go_enter Tryz.func55, Tryz.ntmps55
  go_wp2_with fail
  obtain ⟨w0, hw⟩ : ∃ w1, w1 = (w.alloc (Obj.cells #[Value.slice A N.length c, Value.slice B E.length c'] 27)).alloc (Obj.cells #[] 3) := ⟨_, rfl⟩; rw [← hw]; have kT : Tr [(w.heap.size, [.slice A N.length c, .slice B E.length c'])] w w0 := (by rw [hw]; exact ⟨by (first | (simp [Bx, CellsAt, go_sem, *]; done) | (simp [Bx, CellsAt, go_sem, *]; omega)), by (repeat (first | exact kE | exact Ext.refl _ | apply Ext.alloc | apply Ext.drewN | apply Ext.drew | apply Ext.set0 | apply Ext.set1 | apply Ext.set2 | apply Ext.set3 | (refine Ext.setk ?_ (by omega) _) | (apply Ext.snoc; assumption)))⟩); have HT := hide kT; clear kT; have kT := HT.out; simp only [Tr, Bx, CellsAt, Nat.reduceAdd, Nat.zero_add, and_true] at kT; obtain ⟨⟨kz0, kf0, kc0_0, kc0_1⟩, kE⟩ := kT
  have HO0 := hide (show w0.ownsRow (w.heap.size + 1) 3 1 (.slice (some ⟨w.heap.size + 1, 0, none⟩) 0 0) 0 [] from by
    rw [hw]
    have h := lit_own (w.alloc (Obj.cells #[Value.slice A N.length c, Value.slice B E.length c'] 27)) 3 1
    simpa using h)
  have hsz0 : w.heap.size + 1 < w0.heap.size := by rw [hw]; simp
  clear hw
  refine (sFacesOf_any N E A B c c' _ (HW.out.ext kE)).mono ?_
  rintro e w5 ⟨A2, c2, rfl, hRT, hc2, hb5⟩
  have HR := hide hRT
  have HO5 := hide (own_ext HO0.out hb5)
  have hsz5 := Nat.lt_of_lt_of_le hsz0 hb5.size
  have hl40 := fcs_len (N := N) (E := E)
  have HF := hide (fun k hk => fcs_at (N := N) (E := E) (k := k) hk)
  have HT' := hide (HT.out.ext hb5)
  clear hRT hb5 HT HO0 hsz0
  have HT := HT'
  clear HT'
  clear kz0 kf0 kc0_0 kc0_1 kE
  have kT := HT.out; simp only [Tr, Bx, CellsAt, Nat.reduceAdd, Nat.zero_add, and_true] at kT; obtain ⟨⟨kz0, kf0, kc0_0, kc0_1⟩, kE⟩ := kT
  obtain ⟨F, hF⟩ : ∃ F, fcs N E = F := ⟨_, rfl⟩
  rw [hF] at HR hl40 HF HVN HVP HVY hc2 ⊢
  clear hF
  have HE5 := hide kE
  have HTZ := HT
  by_cases hf : 0 ≤ f ∧ f < (F.length : Int)
  · obtain ⟨k, rfl⟩ := Int.eq_ofNat_of_zero_le hf.1
    have hlt : k < F.length := by omega
    have hin : inR (k : Int) 0 ((F.length : Int) - 1) = true := by simp [inR]; omega
    have hlz : (k : Int) < (F.length : Int) := by omega
    obtain ⟨b, off, Ai, ci, rfl, hb, ch, hci, hri⟩ := HR.out.at_ hlt
    obtain ⟨hok, hld, hl4, ha1, ha2⟩ := HF.out k hlt
    have HV := hide (HVY.out k hlt)
    have hpos := HVP.out k hlt
    have HRI := hide hri
    obtain ⟨l, hl⟩ : ∃ l, F[k] = l := ⟨_, rfl⟩
    rw [hl] at HV ch hld hl4 HRI
    have HLD := hide hld
    have HDF := hide (fun (d : Nat) (W : World) (hE : Ext w W) (hd : d < 2 * E.length) => l05Ends_any N E A B c c' d W (HW.out.ext hE) hd)
    have hV := HVD.out
    rw [hV] at HV hpos
    have hVl : V.length = l.length := by rw [HV.out, nodesL_length]
    have HNE := hide (ne_empty HO5.out ch)
    have HNR := hide (ne_empty_rds HO5.out HRI.out (by omega) (by decide))
    have HCH := hide ch
    have HOR := hide (OutR.start HO5.out (fun k e => by injection e with e; exact e.symm))
    clear hl hok hri hci hf ha1 ha2 hld hV HVN HVP HVY HVD HO5 ch
    go_wp2_with (first | (go_at_call 65; refine (l01In_any _ _ _ _).mono ?_; rintro e w' ⟨rfl, rfl⟩))
    clear kz0 kf0 kc0_0 kc0_1 kE
    clear HT
    go_loopw [5, 7] (fun v i wr => ∃ j : Nat, j ≤ l.length ∧ i = .int .i64 j ∧ Hid (OutR w5 wr (w.heap.size + 1) 3 1 v (l.take j).length (encI (nodesL E (l.take j))))) (fun _ i _ => l.length - (intOf i).toNat)
    case atStart => exact ⟨0, Nat.zero_le _, rfl, HOR⟩
    case round =>
      clear HOR
      obtain ⟨j, hj, rfl, HO⟩ := hrel
      have ch := HO.out.cell hb HNE.out HCH.out
      have hbr := Nat.lt_of_lt_of_le hb HO.out.2.1.size
      by_cases hjl : j < l.length
      · have hjz : (j : Int) < (l.length : Int) := by omega
        obtain ⟨b3, off3, rfl, hb3, hc3⟩ := (HO.out.rds HRI.out HNR.out).2 (by omega)
        have cj := hc3 j _ (show (encN l)[j]? = some (.int .i64 ((l[j] : Nat) : Int)) by simp [encN, hjl])
        clear hc3
        have HTK := hide (nodesL_take (E := E) hjl)
        have hd := HLD.out l[j] (List.getElem_mem hjl)
        have hlt2 : (l.take j).length = j := by simp; omega
        rw [hlt2] at HO
        have hE := HO.out.ext0 HE5.out (by omega)
        have kz0 := Nat.lt_of_lt_of_le HTZ.out.1.1.1 HO.out.2.1.size
        have kc0_0 := HO.out.cell HTZ.out.1.1.1 (by omega) HTZ.out.1.1.2.2.1
        have kc0_1 := HO.out.cell HTZ.out.1.1.1 (by omega) HTZ.out.1.1.2.2.2.1
        have kf0 : ∀ i, wr.frozen? ⟨w.heap.size, i, none⟩ = false := fun i => by rw [HO.out.frozen HTZ.out.1.1.1 (by omega)]; exact HTZ.out.1.1.2.1 i
        obtain ⟨d, hdd⟩ : ∃ d, l[j] = d := ⟨_, rfl⟩
        rw [hdd] at cj HTK hd
        clear hdd hlt2
        have HC := hide (fun (W : World) (hE2 : Ext wr W) => HDF.out d W (hE.trans hE2) hd)
        clear hE
        obtain ⟨x, hx⟩ : ∃ x, fromN E d = x := ⟨_, rfl⟩
        rw [hx] at HC HTK
        obtain ⟨y, hy⟩ : ∃ y, fromN E (twin d) = y := ⟨_, rfl⟩
        rw [hy] at HC
        clear hx hy
        have qh := ExtBy.cell (W := wr) hbr ch
        have qj := ExtBy.cell (W := wr) hb3 cj
        have qa := ExtBy.cell (W := wr) kz0 kc0_0
        have qb := ExtBy.cell (W := wr) kz0 kc0_1
        have hws := HO.out.2.1.size
        
        go_wp2_with fail
        refine wp_region_quietE (by kernel_rfl) (by kernel_rfl) ?_; (repeat (refine WQ.step (fun K hK => ?_); have HK := hide hK; clear hK; go_simp; refine HK.out _ ?_; clear HK K)); (refine WQ.step (fun K hK => ?_); have HK := hide hK; clear hK; go_simp; apply Exists.intro; refine ⟨fun _ => ?_, HK.out _ ?_⟩; (go_at_call 97; refine extby_of (HC.out _ (ExtBy.h _))); clear HK K); (repeat (refine WQ.step (fun K hK => ?_); have HK := hide hK; clear hK; go_simp; refine HK.out _ ?_; clear HK K)); refine WQ.done ?_; intro w6 hw'; obtain ⟨⟨_, hw6⟩, hw''⟩ := hw'; subst hw''
        have HO6 := hide (HO.out.ext hw6)
        have hws6 := HO6.out.2.1.size
        clear qh qj qa qb ch cj kz0 kc0_0 kc0_1 kf0 hw6
        go_wp2_with (at_builtin; refine wpList_append_own_at _ rfl _ _ 31 rfl (w.heap.size + 1) 3 i0 (.int .i64 0) 1 8 Tryz.underlying31 hi hz0 hz1 hz2 rfl (by decide) u5 j (encI (nodesL E (l.take j))) rfl (own_ext HO6.out.1 ((Ext.refl _).alloc _)) ⟨w6.heap.size, 0, none⟩ 1 1 [.int .i64 x] rfl rfl (news_new w6 #[.int .i64 x] 3) (enc_one _) (by unfold maxLen; omega) (by omega) (by first | (simp; done) | (simp; omega)) ?_; intro v' w4 hown4 hgrow4 hnil hloc)
        have ho4 : w4.ownsRow (w.heap.size + 1) 3 1 v' (l.take (j + 1)).length (encI (nodesL E (l.take (j + 1)))) := by
          rw [HTK.out, encI_append, show (l.take (j + 1)).length = j + 1 by simp; omega]
          exact hown4
        have HO4 := hide (HO6.out.app ho4 hgrow4 hloc)
        clear ho4 hown4 hgrow4 hnil hloc
        go_roundw
        case rel => exact ⟨j + 1, by omega, by go_num, HO4⟩
        case measure => simp [intOf]; omega
      · obtain rfl : j = l.length := by omega
        have ho := HO.out
        rw [List.take_length, ← HV.out, ← hVl] at ho
        obtain ⟨A', c4, e1, _⟩ := own_slice ho.1
        subst e1
        have HO9 := hide ho
        clear ho
        go_wp2_with fail
        go_ret
        exact ⟨A', c4, rfl, own_mono HO9.out.1 (by omega), HO9.out.ext0 HE5.out (by omega)⟩
  · have hin : inR f 0 ((F.length : Int) - 1) = false := by simp [inR]; omega
    have HV := hide (HVD.out.symm.trans (HVN.out hin))
    clear hf HVN HVP HVY HVD
    go_wp2_with (first | (go_at_call 65; refine (l01In_any _ _ _ _).mono ?_; rintro e w' ⟨rfl, rfl⟩))
    go_ret
    rw [HV.out]
    exact ⟨some ⟨w.heap.size + 1, 0, none⟩, 0, rfl, own_mono HO5.out (by omega), HE5.out⟩
end Go.Proofs.YtabgcpoaepafjaaGreat
namespace Go.Proofs.YtabgcpoaepafjaaGreat
open Go.RowKit
def hasL (xs : List Int) (x : Int) : Bool := xs.contains x
theorem hasL_iff {xs : List Int} {x : Int} : hasL xs x = true ↔ x ∈ xs := by simp [hasL]
theorem has_step {xs : List Int} {x : Int} {k : Nat} (hk : k < xs.length) (h : (xs.take k).contains x = false) (hne : xs[k] ≠ x) : (xs.take (k + 1)).contains x = false := by
  rw [List.take_succ_eq_append_getElem hk]
  simp only [List.contains_eq_mem, decide_eq_false_iff_not, List.mem_append, List.mem_singleton] at h ⊢
  rintro (q | q)
  · exact h q
  · exact hne q.symm
theorem has_hit {xs : List Int} {x : Int} {k : Nat} (hk : k < xs.length) (he : xs[k] = x) : hasL xs x = true := by
  simp only [hasL, List.contains_eq_mem, decide_eq_true_eq]
  rw [← he]
  exact List.getElem_mem hk
theorem has_end {xs : List Int} {x : Int} {k : Nat} (hk : ¬ k < xs.length) (h : (xs.take k).contains x = false) : hasL xs x = false := by
  unfold hasL
  rw [List.take_of_length_le (by omega)] at h
  exact h
theorem l06Has_any (xs : List Int) (A : Option Addr) (c : Nat) (x : Int) (w : World) (hl : xs.length ≤ 1048576) (hr : RI w A xs) :
    Calls Tryz.prog 79 #[.slice A xs.length c, .int .i64 x] w fun e w' => e = .returned (.bool (hasL xs x)) ∧ w = w' := by
  have HR := hide hr
  clear hr
  go_enter Tryz.func79, Tryz.ntmps79
  go_wp2_with fail
  go_loopw [5] (fun i wr => ∃ k : Nat, k ≤ xs.length ∧ i = .int .i64 k ∧ Hid ((xs.take k).contains x = false) ∧ Hid (wr = w)) (fun i _ => xs.length - (intOf i).toNat)
  case atStart => exact ⟨0, Nat.zero_le _, rfl, hide (by simp), hide rfl⟩
  case round =>
    obtain ⟨k, hk, rfl, HN, HW⟩ := hrel
    obtain rfl := HW.out
    by_cases hlt : k < xs.length
    · have hlz : (k : Int) < (xs.length : Int) := by omega
      obtain ⟨b, off, rfl, hb, hc⟩ := RI.at_ HR.out hlt
      have HST := hide (fun h => has_step hlt HN.out h)
      have HHI := hide (fun (h : xs[k] = x) => has_hit hlt h)
      obtain ⟨y, hy⟩ : ∃ y, xs[k] = y := ⟨_, rfl⟩
      rw [hy] at hc
      have HST := hide (fun h => HST.out (by rw [hy]; exact h))
      have HHI := hide (fun h => HHI.out (by rw [hy]; exact h))
      clear hy
      by_cases he : y = x
      · have HV := hide (HHI.out he)
        have q1 : (y == x) = true := by simp [he]
        clear he
        go_wp2_with fail
        go_ret
        exact ⟨ret_bool HV.out.symm, rfl⟩
      · have HV := hide (HST.out he)
        have q1 : (y == x) = false := by simp [he]
        clear he
        go_wp2_with fail
        go_roundw
        case rel => exact ⟨k + 1, by omega, by go_num, HV, by first | exact hide rfl | exact hide trivial⟩
        case measure => simp [intOf]; omega
    · have HV := hide (has_end hlt HN.out)
      obtain rfl : k = xs.length := by omega
      go_wp2_with fail
      go_ret
      exact ⟨ret_bool HV.out.symm, rfl⟩
theorem hasInt_any (xs : List Int) (A : Option Addr) (c : Nat) (x : Int) (w : World) (hl : xs.length ≤ 1048576) (hr : RI w A xs) :
    Calls Tryz.prog 92 #[.slice A xs.length c, .int .i64 x] w fun e w' => e = .returned (.bool (hasL xs x)) ∧ w = w' := by
  have HR := hide hr
  clear hr
  go_enter Tryz.func92, Tryz.ntmps92
  go_wp2_with fail
  go_loopw [9] (fun i wr => ∃ k : Nat, k ≤ xs.length ∧ i = .int .i64 k ∧ Hid ((xs.take k).contains x = false) ∧ Hid (wr = w)) (fun i _ => xs.length - (intOf i).toNat)
  case atStart => exact ⟨0, Nat.zero_le _, rfl, hide (by simp), hide rfl⟩
  case round =>
    obtain ⟨k, hk, rfl, HN, HW⟩ := hrel
    obtain rfl := HW.out
    by_cases hlt : k < xs.length
    · have hlz : (k : Int) < (xs.length : Int) := by omega
      obtain ⟨b, off, rfl, hb, hc⟩ := RI.at_ HR.out hlt
      have HST := hide (fun h => has_step hlt HN.out h)
      have HHI := hide (fun (h : xs[k] = x) => has_hit hlt h)
      obtain ⟨y, hy⟩ : ∃ y, xs[k] = y := ⟨_, rfl⟩
      rw [hy] at hc
      have HST := hide (fun h => HST.out (by rw [hy]; exact h))
      have HHI := hide (fun h => HHI.out (by rw [hy]; exact h))
      clear hy
      by_cases he : y = x
      · have HV := hide (HHI.out he)
        have q1 : (y == x) = true := by simp [he]
        clear he
        go_wp2_with fail
        go_ret
        exact ⟨ret_bool HV.out.symm, rfl⟩
      · have HV := hide (HST.out he)
        have q1 : (y == x) = false := by simp [he]
        clear he
        go_wp2_with fail
        go_roundw
        case rel => exact ⟨k + 1, by omega, by go_num, HV, by first | exact hide rfl | exact hide trivial⟩
        case measure => simp [intOf]; omega
    · have HV := hide (has_end hlt HN.out)
      obtain rfl : k = xs.length := by omega
      go_wp2_with fail
      go_ret
      exact ⟨ret_bool HV.out.symm, rfl⟩
end Go.Proofs.YtabgcpoaepafjaaGreat
namespace Go.Proofs.YtabgcpoaepafjaaGreat
open Go.RowKit
noncomputable def isPaneB (N E : List P2) (f : Int) : Bool := decide (0 < (paneV N E f).length) && (!decide (f = outerI N E) && decide (paneV N E f).Nodup)
theorem nodup_step {V : List Int} {k : Nat} (hk : k < V.length) (h : (V.take k).Nodup) (hn : hasL (V.take k) V[k] = false) : (V.take (k + 1)).Nodup := by
  rw [List.take_succ_eq_append_getElem hk, List.nodup_append]
  refine ⟨h, by simp, fun a ha b hb => ?_⟩
  simp only [List.mem_singleton] at hb
  subst hb
  rintro rfl
  rw [hasL_iff.2 ha] at hn
  cases hn
theorem nodup_no {V : List Int} {k : Nat} (hk : k < V.length) (hn : hasL (V.take k) V[k] = true) : ¬ V.Nodup := by
  intro h
  have h2 : (V.take (k + 1)).Nodup := h.sublist (List.take_sublist _ _)
  rw [List.take_succ_eq_append_getElem hk, List.nodup_append] at h2
  exact h2.2.2 _ (hasL_iff.1 hn) _ (by simp) rfl
theorem nodup_pair {V : List Int} {i k : Nat} (hk : k < V.length) (hi : i < k) (he : V[i]'(by omega) = V[k]) : ¬ V.Nodup := by
  exact fun h => (List.pairwise_iff_getElem.1 h) i k (by omega) hk hi he
theorem nodup_all {V : List Int} {k : Nat} (hk : k < V.length) (h : (V.take k).Nodup) (hn : ∀ i (hi : i < k), V[i]'(by omega) ≠ V[k]) : (V.take (k + 1)).Nodup := by
  refine nodup_step hk h ?_
  cases q : hasL (V.take k) V[k] with
  | false => rfl
  | true =>
    have := hasL_iff.1 q
    rw [List.mem_take_iff_getElem] at this
    obtain ⟨i, hi, e⟩ := this
    exact absurd e (hn i (by omega))
set_option maxRecDepth 20000 in
set_option maxHeartbeats 4000000 in
theorem IsPane_any (N E : List P2) (A B : Option Addr) (c c' : Nat) (f : Int) (w : World) (hw : WR w N E A B c c') :
    Calls Tryz.prog 50 #[.agg #[.slice A N.length c, .slice B E.length c'], .int .i64 f] w fun e w' => e = .returned (.bool (isPaneB N E f)) ∧ Ext w w' := by
  have HW := hide hw
  have HP := hide (fun (W : World) (hE : Ext w W) => PaneNodes_any N E A B c c' f W (hw.ext hE))
  have HOU := hide (fun (W : World) (hE : Ext w W) => OuterFace_any N E A B c c' W (hw.ext hE))
  have hvl := paneV_len (N := N) (E := E) (f := f)
  have HV := hide (show isPaneB N E f = (decide (0 < (paneV N E f).length) && (!decide (f = outerI N E) && decide (paneV N E f).Nodup)) from rfl)
  obtain ⟨V, hV⟩ : ∃ V, paneV N E f = V := ⟨_, rfl⟩
  obtain ⟨o, ho⟩ : ∃ o, outerI N E = o := ⟨_, rfl⟩
  obtain ⟨v, hv⟩ : ∃ v, isPaneB N E f = v := ⟨_, rfl⟩
  rw [hV, ho, hv] at HV
  rw [hV] at HP hvl
  rw [ho] at HOU
  rw [hv]
  clear hw hV ho hv
  
  have hnil : ∀ (w : World) (a : Option Addr) (n c : Nat), (binOp .eql 31 (.slice a n c) (.slice none 0 0)).run Tryz.prog w = .ok (.bool a.isNone) w := fun w a n c => Go.Lib.run_eql_slice_nil w _ _ a n c 0 0 Tryz.underlying31
  go_enter Tryz.func50, Tryz.ntmps50
  go_wp2_with fail
  obtain ⟨w0, hw⟩ : ∃ w1, w1 = w.alloc (Obj.cells #[Value.slice A N.length c, Value.slice B E.length c'] 27) := ⟨_, rfl⟩; rw [← hw]; have kT : Tr [(w.heap.size, [.slice A N.length c, .slice B E.length c'])] w w0 := (by rw [hw]; exact ⟨by (first | (simp [Bx, CellsAt, go_sem, *]; done) | (simp [Bx, CellsAt, go_sem, *]; omega)), by (repeat (first | exact kE | exact Ext.refl _ | apply Ext.alloc | apply Ext.drewN | apply Ext.drew | apply Ext.set0 | apply Ext.set1 | apply Ext.set2 | apply Ext.set3 | (refine Ext.setk ?_ (by omega) _) | (apply Ext.snoc; assumption)))⟩); have HT := hide kT; clear hw kT; have kT := HT.out; simp only [Tr, Bx, CellsAt, Nat.reduceAdd, Nat.zero_add, and_true] at kT; obtain ⟨⟨kz0, kf0, kc0_0, kc0_1⟩, kE⟩ := kT
  refine (HP.out _ kE).mono ?_
  rintro e w5 ⟨A2, c2, rfl, hn1, hn2, hown, hb5⟩
  have HO := hide hown
  have HT' := hide (HT.out.ext hb5)
  clear hown hb5 HT
  have HT := HT'
  clear HT'
  clear kz0 kf0 kc0_0 kc0_1 kE
  have kT := HT.out; simp only [Tr, Bx, CellsAt, Nat.reduceAdd, Nat.zero_add, and_true] at kT; obtain ⟨⟨kz0, kf0, kc0_0, kc0_1⟩, kE⟩ := kT
  have HE5 := hide kE
  cases A2 with
  | none =>
    have hl0 : V.length = 0 := hn1.1 rfl
    have hc0 := hn2 rfl
    subst hc0
    have HVF := hide (show v = false by rw [HV.out, hl0]; rfl)
    rw [hl0]
    clear hn1 hn2
    go_wp2_with fail
    go_ret
    exact ⟨ret_bool HVF.out.symm, HE5.out⟩
  | some a =>
    have hl0 : V.length ≠ 0 := fun h => by have := hn1.2 h; cases this
    obtain ⟨A', c9, e9, hcl, _, hA1⟩ := own_slice HO.out
    injection e9 with e9 _ e10
    subst e9 e10
    obtain ⟨g, rfl, _, _, _⟩ := hA1 a rfl
    clear hA1 hn1 hn2
    by_cases hfo : f = o
    · have HVF := hide (show v = false by rw [HV.out, decide_eq_true hfo]; simp)
      have q1 : (f == o) = true := by simp [hfo]
      clear hfo
      go_wp2_with fail
      refine (HOU.out _ kE).mono ?_
      rintro e w6 ⟨rfl, hb6⟩
      have HE6 := hide (HE5.out.trans hb6)
      clear hb6
      go_wp2_with fail
      go_ret
      exact ⟨ret_bool HVF.out.symm, HE6.out⟩
    · have HVN := hide (show v = decide V.Nodup by rw [HV.out, decide_eq_false hfo, decide_eq_true (show 0 < V.length by omega)]; simp)
      have q1 : (f == o) = false := by simp [hfo]
      clear hfo
      go_wp2_with fail
      refine (HOU.out _ kE).mono ?_
      rintro e w6 ⟨rfl, hb6⟩
      have HE6 := hide (HE5.out.trans hb6)
      have HO6 := hide (own_ext HO.out hb6)
      clear hb6
      clear kz0 kf0 kc0_0 kc0_1 kE
      clear HT
      go_wp2_with fail
      clear q1
      go_loopw [21] (fun i wr => ∃ k : Nat, k ≤ V.length ∧ i = .int .i64 k ∧ Hid ((V.take k).Nodup) ∧ Hid (wr = w6)) (fun i _ => V.length - (intOf i).toNat)
      case atStart => exact ⟨0, Nat.zero_le _, rfl, hide (by simp), hide rfl⟩
      case round =>
        obtain ⟨k, hk, rfl, HND, HWW⟩ := hrel
        obtain rfl := HWW.out
        clear HWW
        by_cases hlt : k < V.length
        · have hlz : (k : Int) < (V.length : Int) := by omega
          have hkc : (k : Int) ≤ (c2 : Int) := by omega
          have hkc2 : k ≤ c2 := by omega
          have hr := Rds.of_own HO6.out
          obtain ⟨b, off, e2, hb, hc⟩ := RI.at_ hr hlt
          injection e2 with e2
          injection e2 with e3 e4 _
          subst e3 e4
          have hrt := hr.take (k := k) (by omega)
          have hlen : (V.take k).length = k := by simp; omega
          have hri : RI wr (some ⟨g, 0, none⟩) (V.take k) := by
            have e : encI (V.take k) = (encI V).take (k * 1) := by simp [encI]
            unfold RI
            rw [hlen, e]
            exact hrt
          have hhas := hasInt_any (V.take k) (some ⟨g, 0, none⟩) c2 V[k] wr (by rw [hlen]; omega) hri
          rw [hlen] at hhas
          have HHAS := hide hhas
          have HST := hide (nodup_step hlt HND.out)
          have HNO := hide (nodup_no hlt)
          obtain ⟨x, hx⟩ : ∃ x, V[k] = x := ⟨_, rfl⟩
          rw [hx] at hc HHAS HST HNO
          obtain ⟨y, hy⟩ : ∃ y, hasL (V.take k) x = y := ⟨_, rfl⟩
          rw [hy] at HHAS HST HNO
          have hc' : wr.cell? ⟨g, k, none⟩ = some (.int .i64 x) := by rw [← hc]; simp
          clear hx hy hr hrt hri hhas hlen hc
          cases y with
          | true =>
            have HVF := hide (show v = false by rw [HVN.out]; exact decide_eq_false (HNO.out rfl))
            go_wp2_with (go_at_call 92; refine HHAS.out.mono ?_; rintro e w' ⟨rfl, rfl⟩)
            go_ret
            exact ⟨ret_bool HVF.out.symm, HE6.out⟩
          | false =>
            have HN2 := hide (HST.out rfl)
            go_wp2_with (go_at_call 92; refine HHAS.out.mono ?_; rintro e w' ⟨rfl, rfl⟩)
            clear hc'
            go_roundw
            case rel => exact ⟨k + 1, by omega, by go_num, HN2, by first | exact hide rfl | exact hide trivial⟩
            case measure => simp [intOf]; omega
        · obtain rfl : k = V.length := by omega
          have HVT := hide (show v = true by rw [HVN.out]; exact decide_eq_true (by have := HND.out; rw [List.take_length] at this; exact this))
          go_wp2_with fail
          go_ret
          exact ⟨ret_bool HVT.out.symm, HE6.out⟩
set_option maxRecDepth 20000 in
set_option maxHeartbeats 4000000 in
theorem sIsPane_any (N E : List P2) (A B : Option Addr) (c c' : Nat) (f : Int) (w : World) (hw : WR w N E A B c c') :
    Calls Tryz.prog 54 #[.agg #[.slice A N.length c, .slice B E.length c'], .int .i64 f] w fun e w' => e = .returned (.bool (isPaneB N E f)) ∧ Ext w w' := by
  have HW := hide hw
  have HP := hide (fun (W : World) (hE : Ext w W) => sPaneNodes_any N E A B c c' f W (hw.ext hE))
  have HOU := hide (fun (W : World) (hE : Ext w W) => sOuterFace_any N E A B c c' W (hw.ext hE))
  have hvl := paneV_len (N := N) (E := E) (f := f)
  have HV := hide (show isPaneB N E f = (decide (0 < (paneV N E f).length) && (!decide (f = outerI N E) && decide (paneV N E f).Nodup)) from rfl)
  obtain ⟨V, hV⟩ : ∃ V, paneV N E f = V := ⟨_, rfl⟩
  obtain ⟨o, ho⟩ : ∃ o, outerI N E = o := ⟨_, rfl⟩
  obtain ⟨v, hv⟩ : ∃ v, isPaneB N E f = v := ⟨_, rfl⟩
  rw [hV, ho, hv] at HV
  rw [hV] at HP hvl
  rw [ho] at HOU
  rw [hv]
  clear hw hV ho hv
  
  go_enter Tryz.func54, Tryz.ntmps54
  go_wp2_with fail
  obtain ⟨w0, hw⟩ : ∃ w1, w1 = w.alloc (Obj.cells #[Value.slice A N.length c, Value.slice B E.length c'] 27) := ⟨_, rfl⟩; rw [← hw]; have kT : Tr [(w.heap.size, [.slice A N.length c, .slice B E.length c'])] w w0 := (by rw [hw]; exact ⟨by (first | (simp [Bx, CellsAt, go_sem, *]; done) | (simp [Bx, CellsAt, go_sem, *]; omega)), by (repeat (first | exact kE | exact Ext.refl _ | apply Ext.alloc | apply Ext.drewN | apply Ext.drew | apply Ext.set0 | apply Ext.set1 | apply Ext.set2 | apply Ext.set3 | (refine Ext.setk ?_ (by omega) _) | (apply Ext.snoc; assumption)))⟩); have HT := hide kT; clear hw kT; have kT := HT.out; simp only [Tr, Bx, CellsAt, Nat.reduceAdd, Nat.zero_add, and_true] at kT; obtain ⟨⟨kz0, kf0, kc0_0, kc0_1⟩, kE⟩ := kT
  refine (HP.out _ kE).mono ?_
  rintro e w5 ⟨A2, c2, rfl, hown, hb5⟩
  have HO := hide hown
  have HT' := hide (HT.out.ext hb5)
  clear hown hb5 HT
  have HT := HT'
  clear HT'
  clear kz0 kf0 kc0_0 kc0_1 kE
  have kT := HT.out; simp only [Tr, Bx, CellsAt, Nat.reduceAdd, Nat.zero_add, and_true] at kT; obtain ⟨⟨kz0, kf0, kc0_0, kc0_1⟩, kE⟩ := kT
  have HE5 := hide kE
  have HTZ := HT
  go_wp2_with fail
  clear kz0 kf0 kc0_0 kc0_1 kE
  clear HT
  go_loopw [6] (fun i wr => ∃ k : Nat, k ≤ V.length ∧ i = .int .i64 k ∧ Hid ((V.take k).Nodup) ∧ Hid (Ext w5 wr)) (fun i _ => V.length - (intOf i).toNat)
  case atStart => exact ⟨0, Nat.zero_le _, rfl, hide (by simp), hide (Ext.refl _)⟩
  case round =>
    obtain ⟨k, hk, rfl, HND, HG⟩ := hrel
    by_cases hlt : k < V.length
    · have hlz : (k : Int) < (V.length : Int) := by omega
      have hr := Rds.of_own (own_ext HO.out HG.out)
      have HRR := hide (Rds.of_own HO.out)
      obtain ⟨b, off, rfl, hb, hc⟩ := RI.at_ hr hlt
      have HNA := hide (nodup_all hlt HND.out)
      have HNP := hide (fun i hi he => nodup_pair (i := i) hlt hi he)
      have HCK := hide hc
      obtain ⟨wo, rfl⟩ : ∃ wo : World, wo = wr := ⟨_, rfl⟩
      clear hr hc
      go_wp2_with fail
      go_loopw [7] (fun i wi => ∃ j : Nat, j ≤ k ∧ i = .int .i64 j ∧ Hid (∀ a (ha : a < k), a < j → V[a]'(by omega) ≠ V[k]) ∧ Hid (Ext wo wi)) (fun i _ => k - (intOf i).toNat)
      case atStart => exact ⟨0, Nat.zero_le _, rfl, hide (fun a _ h => absurd h (Nat.not_lt_zero a)), hide (Ext.refl _)⟩
      case round =>
        obtain ⟨j, hj, rfl, HJ, HG2⟩ := hrel
        by_cases hltj : j < k
        · have hlj : (j : Int) < (k : Int) := by omega
          have hjl : (j : Int) < (V.length : Int) := by omega
          have hjV : j < V.length := by omega
          have ck := (HG2.out.facts.1 _ _ hb).trans HCK.out
          obtain ⟨b2, off2, e2, hb2, cj⟩ := RI.at_ (HRR.out.ext (HG.out.trans HG2.out)) hjV
          injection e2 with e2
          injection e2 with e3 e4 _
          subst e3 e4
          have HJN := hide (fun (hne : V[j] ≠ V[k]) => (show ∀ a (ha : a < k), a < j + 1 → V[a]'(by omega) ≠ V[k] from fun a ha haj => by
            by_cases e : a = j
            · subst e; exact hne
            · exact HJ.out a ha (by omega)))
          have HJP := hide (HNP.out j hltj)
          have HNX := hide (show ∀ x y, V[j] = x → V[k] = y → wr.cell? ⟨b, off + j, none⟩ = some (.int .i64 x) ∧ wr.cell? ⟨b, off + k, none⟩ = some (.int .i64 y) from fun x y h1 h2 => by rw [← h1, ← h2]; exact ⟨cj, ck⟩)
          by_cases he : V[j] = V[k]
          · have HVF := hide (show v = false by rw [HV.out, decide_eq_false (HJP.out he)]; simp)
            obtain ⟨x, hx⟩ : ∃ x, V[k] = x := ⟨_, rfl⟩
            obtain ⟨q1, q2⟩ := HNX.out x x (he.trans hx) hx
            have qj := ExtBy.cell (W := wr) hb2 q1
            have qk := ExtBy.cell (W := wr) hb2 q2
            clear hx he cj ck HNX
            
            go_wp2_with fail
            refine wp_region_quietE (by kernel_rfl) (by kernel_rfl) ?_; (repeat (refine WQ.step (fun K hK => ?_); have HK := hide hK; clear hK; go_simp; refine HK.out _ ?_; clear HK K)); refine WQ.done ?_; intro w9 hw'; obtain ⟨⟨_, hw9⟩, hw''⟩ := hw'; subst hw''
            have HE9 := hide (HE5.out.trans (HG.out.trans (HG2.out.trans hw9)))
            clear hw9 qj qk q1 q2
            go_wp2_with fail
            go_ret
            exact ⟨ret_bool HVF.out.symm, HE9.out⟩
          · have HJJ := hide (HJN.out he)
            obtain ⟨x, hx⟩ : ∃ x, V[j] = x := ⟨_, rfl⟩
            obtain ⟨y, hy⟩ : ∃ y, V[k] = y := ⟨_, rfl⟩
            obtain ⟨q1, q2⟩ := HNX.out x y hx hy
            have hxy : (x == y) = false := by rw [← hx, ← hy]; simp [he]
            have qj := ExtBy.cell (W := wr) hb2 q1
            have qk := ExtBy.cell (W := wr) hb2 q2
            clear hx hy he cj ck HNX
            
            go_wp2_with fail
            refine wp_region_quietE (by kernel_rfl) (by kernel_rfl) ?_; (repeat (refine WQ.step (fun K hK => ?_); have HK := hide hK; clear hK; go_simp; refine HK.out _ ?_; clear HK K)); refine WQ.done ?_; intro w9 hw'; obtain ⟨⟨_, hw9⟩, hw''⟩ := hw'; subst hw''
            have HE9 := hide (HG2.out.trans hw9)
            clear hw9 qj qk q1 q2
            go_wp2_with fail
            clear hxy
            go_roundw
            case rel => exact ⟨j + 1, by omega, by go_num, HJJ, HE9⟩
            case measure => simp [intOf]; omega
        · obtain rfl : k = j := by omega
          have HN2 := hide (HNA.out fun i hi => HJ.out i hi hi)
          have HE9 := hide (HG.out.trans HG2.out)
          go_wp2_with fail
          go_roundw
          case rel => exact ⟨k + 1, by omega, by go_num, HN2, HE9⟩
          case measure => simp [intOf]; omega
    · obtain rfl : k = V.length := by omega
      have HVV := hide (show v = (decide (0 < V.length) && !decide (f = o)) by
        have := HND.out
        rw [List.take_length] at this
        rw [HV.out, decide_eq_true this, Bool.and_true])
      have HT := hide (HTZ.out.ext HG.out)
      have kT := HT.out; simp only [Tr, Bx, CellsAt, Nat.reduceAdd, Nat.zero_add, and_true] at kT; obtain ⟨⟨⟩, kE⟩ := kT
      have HX := hide kE
      by_cases hl0 : 0 < V.length
      · have hlz : decide ((V.length : Int) > 0) = true := decide_eq_true (by omega)
        have hlz2 : decide (V.length > 0) = true := decide_eq_true (by omega)
        have hlz3 : decide (0 < V.length) = true := decide_eq_true hl0
        have HV2 := hide (show v = !decide (f = o) by rw [HVV.out, hlz3, Bool.true_and])
        have HOUC := hide (HOU.out _ kE)
        by_cases hfo : f = o
        · have q1 : (f != o) = false := by simp [hfo]
          have HV3 := hide (show v = false by rw [HV2.out, decide_eq_true hfo]; rfl)
          clear hfo hl0
          go_wp2_with fail
          refine HOUC.out.mono ?_
          rintro e w6 ⟨rfl, hb6⟩
          have HE6 := hide (HX.out.trans hb6)
          clear hb6
          go_wp2_with fail
          go_ret
          exact ⟨ret_bool HV3.out.symm, HE6.out⟩
        · have q1 : (f != o) = true := by simp [hfo]
          have HV3 := hide (show v = true by rw [HV2.out, decide_eq_false hfo]; rfl)
          clear hfo hl0
          go_wp2_with fail
          refine HOUC.out.mono ?_
          rintro e w6 ⟨rfl, hb6⟩
          have HE6 := hide (HX.out.trans hb6)
          clear hb6
          go_wp2_with fail
          go_ret
          exact ⟨ret_bool HV3.out.symm, HE6.out⟩
      · have hlz : decide ((V.length : Int) > 0) = false := decide_eq_false (by omega)
        have hlz2 : decide (V.length > 0) = false := decide_eq_false (by omega)
        have HV3 := hide (show v = false by rw [HVV.out, decide_eq_false hl0]; rfl)
        clear hl0
        go_wp2_with fail
        go_ret
        exact ⟨ret_bool HV3.out.symm, HX.out⟩
end Go.Proofs.YtabgcpoaepafjaaGreat
