/- Walks of the faces of the darts (both forms). No condition but a whole window. -/
import Derived.Test.YtkgbilbicdiadaaOuter
import Derived.Test.YtkgbilbicdiadaaDual
import Derived.Lib.SliceRun
set_option linter.unusedSimpArgs false
set_option linter.unusedVariables false
namespace Go.Proofs.Ytkgbilbicdiadaa
open Go.RowKit

/-- The face of a dart. -/
noncomputable def sd (N E : List P2) (d : Nat) : Nat := sideTo (fcs N E) d (fcs N E).length
theorem rowOf_congr {n : Nat} {f g : Nat → Int} (h : ∀ i, i < n → f i = g i) : rowOf n f = rowOf n g := by
  unfold rowOf
  exact List.map_congr_left fun i hi => by rw [h i (List.mem_range.1 hi)]
theorem made_zeros' (n : Nat) : (madeCells (Value.int .i64 0).cells (n * 1)).toList = rowOf n (fun _ => 0) := by
  rw [Nat.mul_one, ← rowOf_zero]
  exact toList_madeCells_one _ _
theorem rowOf_one (n : Nat) (f : Nat → Int) : ∀ u ∈ rowOf n f, u.oneCell' = true := by
  intro u hu
  simp only [rowOf, List.mem_map] at hu
  obtain ⟨d, _, rfl⟩ := hu
  rfl
/-- In the middle of face f, of which the first j darts l are done. -/
def sideMid (F : List (List Nat)) (l : List Nat) (f j : Nat) : Nat → Int := fun d => ((if d ∈ l.take j then f else sideTo F d f : Nat) : Int)
theorem sideMid_zero (F : List (List Nat)) (l : List Nat) (f : Nat) : sideMid F l f 0 = fun d => ((sideTo F d f : Nat) : Int) := by
  funext d
  simp [sideMid]
theorem take_mem {l : List Nat} {j d : Nat} (hj : j < l.length) : d ∈ l.take (j + 1) ↔ d ∈ l.take j ∨ d = l[j] := by
  rw [List.take_succ_eq_append_getElem hj, List.mem_append, List.mem_singleton]
theorem sideMid_next {F : List (List Nat)} {l : List Nat} {f j : Nat} (hj : j < l.length) : (fun k => if k = l[j] then (f : Int) else sideMid F l f j k) = sideMid F l f (j + 1) := by
  funext d
  unfold sideMid
  by_cases h : d = l[j]
  · rw [if_pos h, if_pos ((take_mem hj).2 (.inr h))]
  · rw [if_neg h]
    by_cases h2 : d ∈ l.take j
    · rw [if_pos h2, if_pos ((take_mem hj).2 (.inl h2))]
    · rw [if_neg h2, if_neg (fun h3 => ((take_mem hj).1 h3).elim h2 h)]
theorem sideMid_end {F : List (List Nat)} {l : List Nat} {f : Nat} (hf : F[f]? = some l) : sideMid F l f l.length = fun d => ((sideTo F d (f + 1) : Nat) : Int) := by
  funext d
  unfold sideMid
  have e : F.getD f [] = l := by simp [List.getD, hf]
  rw [List.take_length]
  simp only [sideTo]
  rw [e]
theorem own_cellR {w : World} {B g n c k : Nat} {T : TypeId} {f : Nat → Int} (h : w.ownsRow B T 1 (.slice (some ⟨g, 0, none⟩) n c) n (rowOf n f)) (hk : k < n) : w.cell? ⟨g, k, none⟩ = some (.int .i64 (f k)) := by
  rw [h.cellAt k (by omega)]
  exact rowOf_get f hk
set_option maxRecDepth 20000 in
set_option maxHeartbeats 4000000 in
theorem facesAt_any (N E : List P2) (A B : Option Addr) (c c' : Nat) (w : World) (hw : WR w N E A B c c') (hwh : wholeB N E = true) :
    Calls Try.prog 88 #[.agg #[.slice A N.length c, .slice B E.length c']] w fun e w' => ∃ g c2, e = .returned (.slice (some ⟨g, 0, none⟩) (2 * E.length) c2) ∧ w'.ownsRow w.heap.size 3 1 (.slice (some ⟨g, 0, none⟩) (2 * E.length) c2) (2 * E.length) (rowOf (2 * E.length) (fun d => ((sd N E d : Nat) : Int))) ∧ Ext w w' := by
  obtain ⟨i0, hi, hz0, hz1, hz2⟩ := info_parts int_info
  have HW := hide hw
  have HP := hide (fcs_facts hwh)
  have hm := (wholeB_iff.1 hwh).1.m
  clear hw hwh
  
  have hnil : ∀ (w : World) (a : Option Addr) (n c : Nat), (binOp .eql 66 (.slice a n c) (.slice none 0 0)).run Try.prog w = .ok (.bool a.isNone) w := fun w a n c => Go.Lib.run_eql_slice_nil w _ _ a n c 0 0 Try.underlying66
  go_enter Try.func88, Try.ntmps88
  go_wp2_with fail
  obtain ⟨w0, hw⟩ : ∃ w1, w1 = w.alloc (Obj.cells #[Value.slice A N.length c, Value.slice B E.length c'] 27) := ⟨_, rfl⟩; rw [← hw]; have kT : Tr [(w.heap.size, [.slice A N.length c, .slice B E.length c'])] w w0 := (by rw [hw]; exact ⟨by (first | (simp [Bx, CellsAt, go_sem, *]; done) | (simp [Bx, CellsAt, go_sem, *]; omega)), by (repeat (first | exact kE | exact Ext.refl _ | apply Ext.alloc | apply Ext.drewN | apply Ext.drew | apply Ext.set0 | apply Ext.set1 | apply Ext.set2 | apply Ext.set3 | (refine Ext.setk ?_ (by omega) _) | (apply Ext.snoc; assumption)))⟩); have HT := hide kT; clear hw kT; have kT := HT.out; simp only [Tr, Bx, CellsAt, Nat.reduceAdd, Nat.zero_add, and_true] at kT; obtain ⟨⟨kz0, kf0, kc0_0, kc0_1⟩, kE⟩ := kT
  refine (FacesOf_any N E A B c c' _ (HW.out.ext kE)).mono ?_
  rintro e w5 ⟨A2, c2, rfl, _, _, hRT, hc2, hb5⟩
  have HSD := hide (show (fun d => ((sd N E d : Nat) : Int)) = fun d => ((sideTo (fcs N E) d (fcs N E).length : Nat) : Int) from rfl)
  have hl40 := fcs_len (N := N) (E := E)
  have HT' := hide (HT.out.ext hb5)
  clear hb5 HT
  have HT := HT'
  clear HT'
  clear kz0 kf0 kc0_0 kc0_1 kE
  have kT := HT.out; simp only [Tr, Bx, CellsAt, Nat.reduceAdd, Nat.zero_add, and_true] at kT; obtain ⟨⟨kz0, kf0, kc0_0, kc0_1⟩, kE⟩ := kT
  obtain ⟨F, hF⟩ : ∃ F, fcs N E = F := ⟨_, rfl⟩
  rw [hF] at hRT hc2 HP HSD hl40 ⊢
  clear hF
  have HR := hide hRT
  obtain ⟨b, off, Ai0, ci0, rfl, hb, _⟩ := hRT.at_ HP.out.1
  clear hRT
  have HE5 := hide kE
  go_wp2_with (at_make; refine wpList_make_full _ rfl _ _ 29 rfl w5.heap.size 3 i0 (.int .i64 0) 1 Try.underlying29 hi hz0 hz1 .i64 .i64 (2 * E.length) (2 * E.length) (2 * E.length) rfl rfl (by first | rfl | omega) (by first | rfl | omega) (by rw [hz2]; omega) (by unfold maxLen; omega) (Nat.le_refl _) ?_; intro w6 hown hgrow)
  rw [made_zeros'] at hown
  have HE6 := hide (grown_ext hgrow)
  have HO := hide (show w6.ownsRow w5.heap.size 3 1 (.slice (some ⟨w5.heap.size, 0, none⟩) (2 * E.length) (2 * E.length)) (2 * E.length) (rowOf (2 * E.length) (fun d => ((sideTo F d 0 : Nat) : Int))) from by simpa [sideTo] using hown)
  clear hown hgrow HT
  clear kz0 kf0 kc0_0 kc0_1 kE
  go_loopw [20] (fun i wi => ∃ f : Nat, f ≤ F.length ∧ i = .int .i64 f ∧ Hid (wi.ownsRow w5.heap.size 3 1 (.slice (some ⟨w5.heap.size, 0, none⟩) (2 * E.length) (2 * E.length)) (2 * E.length) (rowOf (2 * E.length) (fun d => ((sideTo F d f : Nat) : Int)))) ∧ Hid (Ext w5 wi)) (fun i _ => F.length - (intOf i).toNat)
  case atStart => exact ⟨0, Nat.zero_le _, rfl, HO, HE6⟩
  case round =>
    clear HO HE6
    obtain ⟨f, hf, rfl, HO, HE⟩ := hrel
    by_cases hlt : f < F.length
    · have hlz : (f : Int) < (F.length : Int) := by omega
      obtain ⟨b', off', Ai, ci, hA', hb', ch0, hci, hri⟩ := HR.out.at_ hlt
      have ch := (HE.out.facts.1 b' _ hb').trans ch0
      clear ch0
      injection hA' with hA'
      injection hA' with hA1 hA2 _
      subst hA1 hA2
      have hlf := HP.out.2.2.1 _ (List.getElem_mem hlt)
      have HFF := hide (show F[f]? = some F[f] by simp [hlt])
      obtain ⟨l, hl⟩ : ∃ l, F[f] = l := ⟨_, rfl⟩
      rw [hl] at ch hci hri hlf HFF
      clear hl
      have HRI := hide hri
      have HLF := hide hlf.2.2
      have hln := hlf.2.1
      clear hri hlf
      obtain ⟨wo, rfl⟩ : ∃ wo : World, wo = wr := ⟨_, rfl⟩
      go_wp2_with fail
      clear ch
      go_loopw [27] (fun i wi => ∃ j : Nat, j ≤ l.length ∧ i = .int .i64 j ∧ Hid (wi.ownsRow w5.heap.size 3 1 (.slice (some ⟨w5.heap.size, 0, none⟩) (2 * E.length) (2 * E.length)) (2 * E.length) (rowOf (2 * E.length) (sideMid F l f j))) ∧ Hid (Ext w5 wi)) (fun i _ => l.length - (intOf i).toNat)
      case atStart => exact ⟨0, Nat.zero_le _, rfl, hide (by rw [sideMid_zero]; exact HO.out), HE⟩
      case round =>
        clear HO HE
        obtain ⟨j, hj, rfl, HO, HE⟩ := hrel
        by_cases hlt2 : j < l.length
        · have hlz2 : (j : Int) < (l.length : Int) := by omega
          obtain ⟨bl, ol, rfl, hbl, cj⟩ := RN.at_ (HRI.out.ext HE.out) rfl hlt2
          have hu := HLF.out _ (List.getElem_mem hlt2)
          have HN := hide (sideMid_next (F := F) (f := f) hlt2)
          obtain ⟨u, hu'⟩ : ∃ u, l[j] = u := ⟨_, rfl⟩
          rw [hu'] at cj hu HN
          clear hu'
          have huz : (u : Int) < 2 * (E.length : Int) := by omega
          have cu := own_cellR HO.out hu
          have fu := HO.out.frozenAt u
          go_wp2_with fail
          have hst := (HO.out.stored u (.int .i64 (f : Nat))).1
          rw [rowOf_set _ _ hu, HN.out] at hst
          have HO5 := hide hst
          have HE5' := hide (HE.out.setk (k := w5.heap.size) (o := u) (s := none) (Nat.le_refl _) (.int .i64 (f : Nat)))
          clear hst cu fu cj
          obtain ⟨w8, hw8⟩ : ∃ w8, w8 = wr.setCell ⟨w5.heap.size, u, none⟩ (.int .i64 (f : Nat)) := ⟨_, rfl⟩
          rw [← hw8] at HO5 HE5' ⊢
          clear hw8
          go_roundw
          case rel => exact ⟨j + 1, by omega, by go_num, HO5, HE5'⟩
          case measure => simp [intOf]; omega
        · obtain rfl : j = l.length := by omega
          have HO5 := hide (show wr.ownsRow w5.heap.size 3 1 (.slice (some ⟨w5.heap.size, 0, none⟩) (2 * E.length) (2 * E.length)) (2 * E.length) (rowOf (2 * E.length) (fun d => ((sideTo F d (f + 1) : Nat) : Int))) from by
            have h := HO.out
            rw [sideMid_end HFF.out] at h
            exact h)
          go_wp2_with fail
          go_roundw
          case rel => exact ⟨f + 1, by omega, by go_num, HO5, HE⟩
          case measure => simp [intOf]; omega
    · obtain rfl : f = F.length := by omega
      go_wp2_with fail
      go_ret
      exact ⟨w5.heap.size, 2 * E.length, rfl, by rw [HSD.out]; exact own_mono HO.out HE5.out.size, HE5.out.trans HE.out⟩
set_option maxRecDepth 20000 in
set_option maxHeartbeats 4000000 in
theorem l09Sides_any (N E : List P2) (A B : Option Addr) (c c' : Nat) (w : World) (hw : WR w N E A B c c') (hwh : wholeB N E = true) :
    Calls Try.prog 93 #[.agg #[.slice A N.length c, .slice B E.length c']] w fun e w' => ∃ g c2, e = .returned (.slice (some ⟨g, 0, none⟩) (2 * E.length) c2) ∧ w'.ownsRow w.heap.size 3 1 (.slice (some ⟨g, 0, none⟩) (2 * E.length) c2) (2 * E.length) (rowOf (2 * E.length) (fun d => ((sd N E d : Nat) : Int))) ∧ Ext w w' := by
  obtain ⟨i0, hi, hz0, hz1, hz2⟩ := info_parts int_info
  have HW := hide hw
  have HP := hide (fcs_facts hwh)
  have hm := (wholeB_iff.1 hwh).1.m
  clear hw hwh
  
  go_enter Try.func93, Try.ntmps93
  go_upto_region 2 with (at_make; refine wpList_make_full _ rfl _ _ 29 rfl (w.heap.size + 1) 3 i0 (.int .i64 0) 1 Try.underlying29 hi hz0 hz1 .i64 .i64 (2 * E.length) (2 * E.length) (2 * E.length) rfl rfl (by first | rfl | omega) (by first | rfl | omega) (by rw [hz2]; omega) (by unfold maxLen; omega) (by simp) ?_; intro w1 hown hgrow)
  obtain ⟨w0, hw⟩ : ∃ w0, w0 = w.alloc (Obj.cells #[Value.slice A N.length c, Value.slice B E.length c'] 27) := ⟨_, rfl⟩
  have hg1 : Ext w0 w1 := by rw [hw]; exact grown_ext hgrow
  have HT0 : Hid (Tr [(w.heap.size, [.slice A N.length c, .slice B E.length c'])] w w0) := hide (by rw [hw]; exact ⟨by simp [Bx, CellsAt, go_sem, *], by repeat (first | exact kE | exact Ext.refl _ | apply Ext.alloc | apply Ext.drewN | apply Ext.drew | apply Ext.set0 | apply Ext.set1 | apply Ext.set2 | apply Ext.set3 | (refine Ext.setk ?_ (by omega) _) | (apply Ext.snoc; assumption))⟩)
  have hsz : w0.heap.size = w.heap.size + 1 := by rw [hw]; simp
  rw [made_zeros'] at hown
  simp only [World.size_alloc] at hown
  rw [← hsz] at hown ⊢
  have HSZ := hide hsz
  have HW0 := hide HT0.out.2
  have HO0 := hide hown
  have hgl := (own_ltg hown).2
  have HGL := hide hgl
  have HE1 := hide hg1
  have HT := hide (HT0.out.ext hg1)
  clear hgrow hw hsz hown hg1 hgl
  have kT := HT.out; simp only [Tr, Bx, CellsAt, Nat.reduceAdd, Nat.zero_add, and_true] at kT; obtain ⟨⟨kz0, kf0, kc0_0, kc0_1⟩, kE⟩ := kT
  go_wp2_with fail
  refine (sFacesOf_gt N E A B c c' _ (HW.out.ext kE)).mono ?_
  rintro e w5 ⟨A2, c2, rfl, ⟨hs, hG⟩, hc2, hb5⟩
  have HSD := hide (show (fun d => ((sd N E d : Nat) : Int)) = fun d => ((sideTo (fcs N E) d (fcs N E).length : Nat) : Int) from rfl)
  have hl40 := fcs_len (N := N) (E := E)
  obtain ⟨F, hF⟩ : ∃ F, fcs N E = F := ⟨_, rfl⟩
  rw [hF] at hG hc2 HP HSD hl40 ⊢
  clear hF
  obtain ⟨A3, c3, e3, _, hA0, hA1⟩ := own_slice hG.own
  injection e3 with e31 e32 e33
  subst e31 e33
  cases A2 with
  | none => exact absurd (hA0 rfl) (by have := HP.out.1; omega)
  | some a2 =>
  obtain ⟨b, rfl, hbB, hbl, _⟩ := hA1 a2 rfl
  clear hA0 hA1
  have HO := hide (show w5.ownsRow w0.heap.size 3 1 (.slice (some ⟨w0.heap.size, 0, none⟩) (2 * E.length) (2 * E.length)) (2 * E.length) (rowOf (2 * E.length) (fun d => ((sideTo F d 0 : Nat) : Int))) from by
    have h := own_ext HO0.out hb5
    simpa [sideTo] using h)
  have HG := hide hG
  have HE := hide (HE1.out.trans hb5)
  clear hG hb5 HT
  clear kz0 kf0 kc0_0 kc0_1 kE
  go_wp2_with fail
  go_loopw [5] (fun i wi => ∃ f : Nat, f ≤ F.length ∧ i = .int .i64 f ∧ Hid (wi.ownsRow w0.heap.size 3 1 (.slice (some ⟨w0.heap.size, 0, none⟩) (2 * E.length) (2 * E.length)) (2 * E.length) (rowOf (2 * E.length) (fun d => ((sideTo F d f : Nat) : Int)))) ∧ Hid (GT wi w1.heap.size 29 (.slice (some ⟨b, 0, none⟩) F.length c2) F hs) ∧ Hid (Ext w0 wi)) (fun i _ => F.length - (intOf i).toNat)
  case atStart => exact ⟨0, Nat.zero_le _, rfl, HO, HG, HE⟩
  case round =>
    clear HO HG HE
    obtain ⟨f, hf, rfl, HO, HG, HE⟩ := hrel
    by_cases hlt : f < F.length
    · have hlz : (f : Int) < (F.length : Int) := by omega
      have hlf := HP.out.2.2.1 _ (List.getElem_mem hlt)
      have HFF := hide (show F[f]? = some F[f] by simp [hlt])
      have HAT := hide (fun (W : World) (h : GT W w1.heap.size 29 (.slice (some ⟨b, 0, none⟩) F.length c2) F hs) => h.at_ hlt)
      obtain ⟨l, hl⟩ : ∃ l, F[f] = l := ⟨_, rfl⟩
      rw [hl] at hlf HFF HAT
      clear hl
      have HLF := hide hlf.2.2
      have hln := hlf.2.1
      clear hlf
      go_wp2_with fail
      go_loopw [6] (fun i wi => ∃ j : Nat, j ≤ l.length ∧ i = .int .i64 j ∧ Hid (wi.ownsRow w0.heap.size 3 1 (.slice (some ⟨w0.heap.size, 0, none⟩) (2 * E.length) (2 * E.length)) (2 * E.length) (rowOf (2 * E.length) (sideMid F l f j))) ∧ Hid (GT wi w1.heap.size 29 (.slice (some ⟨b, 0, none⟩) F.length c2) F hs) ∧ Hid (Ext w0 wi)) (fun i _ => l.length - (intOf i).toNat)
      case atStart => exact ⟨0, Nat.zero_le _, rfl, hide (by rw [sideMid_zero]; exact HO.out), HG, HE⟩
      case round =>
        clear HO HG HE
        obtain ⟨j, hj, rfl, HO, HG, HE⟩ := hrel
        obtain ⟨g, ci, ch, hbl', hci, hri⟩ := HAT.out _ HG.out
        by_cases hlt2 : j < l.length
        · have hlz2 : (j : Int) < (l.length : Int) := by omega
          obtain ⟨bl, ol, hA', hbl2, cj⟩ := RN.at_ hri rfl hlt2
          injection hA' with hA'
          injection hA' with hA1 hA2 _
          subst hA1 hA2
          have hu := HLF.out _ (List.getElem_mem hlt2)
          have HN := hide (sideMid_next (F := F) (f := f) hlt2)
          obtain ⟨u, hu'⟩ : ∃ u, l[j] = u := ⟨_, rfl⟩
          rw [hu', Nat.zero_add] at cj
          rw [hu'] at hu HN
          clear hu'
          have huz : (u : Int) < 2 * (E.length : Int) := by omega
          have cu := own_cellR HO.out hu
          have fu := HO.out.frozenAt u
          clear hri
          go_wp2_with fail
          have hst := (HO.out.stored u (.int .i64 (f : Nat))).1
          rw [rowOf_set _ _ hu, HN.out] at hst
          have HO5 := hide hst
          have HG5 := hide (HG.out.setk (k := w0.heap.size) (i := u) (u := .int .i64 (f : Nat)) HGL.out)
          have HE5' := hide (HE.out.setk (k := w0.heap.size) (o := u) (s := none) (Nat.le_refl _) (.int .i64 (f : Nat)))
          clear hst cu fu cj ch hbl' hbl2
          obtain ⟨w8, hw8⟩ : ∃ w8, w8 = wr.setCell ⟨w0.heap.size, u, none⟩ (.int .i64 (f : Nat)) := ⟨_, rfl⟩
          rw [← hw8] at HO5 HG5 HE5' ⊢
          clear hw8
          go_roundw
          case rel => exact ⟨j + 1, by omega, by go_num, HO5, HG5, HE5'⟩
          case measure => simp [intOf]; omega
        · obtain rfl : j = l.length := by omega
          have HO5 := hide (show wr.ownsRow w0.heap.size 3 1 (.slice (some ⟨w0.heap.size, 0, none⟩) (2 * E.length) (2 * E.length)) (2 * E.length) (rowOf (2 * E.length) (fun d => ((sideTo F d (f + 1) : Nat) : Int))) from by
            have h := HO.out
            rw [sideMid_end HFF.out] at h
            exact h)
          clear hri
          go_wp2_with fail
          clear ch hbl'
          go_roundw
          case rel => exact ⟨f + 1, by omega, by go_num, HO5, HG, HE⟩
          case measure => simp [intOf]; omega
    · obtain rfl : f = F.length := by omega
      go_wp2_with fail
      go_ret
      exact ⟨w0.heap.size, 2 * E.length, rfl, by rw [HSD.out]; exact own_mono HO.out HW0.out.size, HW0.out.trans HE.out⟩
end Go.Proofs.Ytkgbilbicdiadaa
