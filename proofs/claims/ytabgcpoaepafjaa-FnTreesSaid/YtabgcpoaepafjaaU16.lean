/- Words and walks for the law FnTrees, a part of them. No condition but that the arguments lie in memory. -/
import Derived.Test.YtabgcpoaepafjaaU1
import Derived.Test.YtabgcpoaepafjaaU2
import Derived.Test.YtabgcpoaepafjaaU10
import Derived.Test.YtabgcpoaepafjaaU11
import Derived.Lib.SliceRun
import Derived.BigRegion
set_option linter.unusedVariables false
set_option linter.unusedSimpArgs false
namespace Go.Proofs.Ytabgcpoaepafjaa
open Go.RowKit
end Go.Proofs.Ytabgcpoaepafjaa
namespace Go.Proofs.Ytabgcpoaepafjaa
open Go.RowKit
theorem fcs_whole {N E : List P2} (h : 0 < (fcs N E).length) : wholeB N E = true := by
  cases e : wholeB N E with
  | true => rfl
  | false => rw [fcs_no e] at h; simp at h
theorem fcs_len {N E : List P2} : (fcs N E).length ≤ 40 := by
  cases e : wholeB N E with
  | true => have := (fcs_facts e).2.1; have := (wholeB_iff.1 e).1.m; omega
  | false => rw [fcs_no e]; simp
end Go.Proofs.Ytabgcpoaepafjaa
namespace Go.Proofs.Ytabgcpoaepafjaa
open Go.RowKit
/-- The face of a dart. -/
noncomputable def sd (N E : List P2) (d : Nat) : Nat := sideTo (fcs N E) d (fcs N E).length
theorem rowOf_congr {n : Nat} {f g : Nat → Int} (h : ∀ i, i < n → f i = g i) : rowOf n f = rowOf n g := by
  unfold rowOf
  exact List.map_congr_left fun i hi => by rw [h i (List.mem_range.1 hi)]
theorem made_zeros' (n : Nat) : (madeCells (Value.int .i64 0).cells (n * 1)).toList = rowOf n (fun _ => 0) := by
  rw [Nat.mul_one, ← rowOf_zero]
  exact toList_madeCells_one _ _
/-- In the middle of face f, of which the first j darts l are done. -/
def sideMid (F : List (List Nat)) (l : List Nat) (f j : Nat) : Nat → Int := fun d => ((if d ∈ l.take j then f else sideTo F d f : Nat) : Int)
theorem sideMid_zero (F : List (List Nat)) (l : List Nat) (f : Nat) : sideMid F l f 0 = fun d => ((sideTo F d f : Nat) : Int) := by
  funext d
  simp [sideMid]
theorem take_mem {l : List Nat} {j d : Nat} (hj : j < l.length) : d ∈ l.take (j + 1) ↔ d ∈ l.take j ∨ d = l[j] := by
  rw [List.take_succ_eq_append_getElem hj, List.mem_append, List.mem_singleton]
theorem sideMid_next {F : List (List Nat)} {l : List Nat} {f j : Nat} (hj : j < l.length) : (fun k => if k = l[j] then (f : Int) else sideMid F l f j k) = sideMid F l f (j + 1) := by
  funext d
  unfold sideMid
  by_cases h : d = l[j]
  · rw [if_pos h, if_pos ((take_mem hj).2 (.inr h))]
  · rw [if_neg h]
    by_cases h2 : d ∈ l.take j
    · rw [if_pos h2, if_pos ((take_mem hj).2 (.inl h2))]
    · rw [if_neg h2, if_neg (fun h3 => ((take_mem hj).1 h3).elim h2 h)]
theorem sideMid_end {F : List (List Nat)} {l : List Nat} {f : Nat} (hf : F[f]? = some l) : sideMid F l f l.length = fun d => ((sideTo F d (f + 1) : Nat) : Int) := by
  funext d
  unfold sideMid
  have e : F.getD f [] = l := by simp [List.getD, hf]
  rw [List.take_length]
  simp only [sideTo]
  rw [e]
theorem own_cellR {w : World} {B g n c k : Nat} {T : TypeId} {f : Nat → Int} (h : w.ownsRow B T 1 (.slice (some ⟨g, 0, none⟩) n c) n (rowOf n f)) (hk : k < n) : w.cell? ⟨g, k, none⟩ = some (.int .i64 (f k)) := by
  rw [h.cellAt k (by omega)]
  exact rowOf_get f hk
set_option maxRecDepth 20000 in
set_option maxHeartbeats 4000000 in
theorem facesAt_any (N E : List P2) (A B : Option Addr) (c c' : Nat) (w : World) (hw : WR w N E A B c c') (hwh : wholeB N E = true) :
    Calls Try.prog 48 #[.agg #[.slice A N.length c, .slice B E.length c']] w fun e w' => ∃ g c2, e = .returned (.slice (some ⟨g, 0, none⟩) (2 * E.length) c2) ∧ w'.ownsRow w.heap.size 3 1 (.slice (some ⟨g, 0, none⟩) (2 * E.length) c2) (2 * E.length) (rowOf (2 * E.length) (fun d => ((sd N E d : Nat) : Int))) ∧ Ext w w' := by
  obtain ⟨i0, hi, hz0, hz1, hz2⟩ := info_parts int_info
  have HW := hide hw
  have HP := hide (fcs_facts hwh)
  have hm := (wholeB_iff.1 hwh).1.m
  clear hw hwh
  
  have hnil : ∀ (w : World) (a : Option Addr) (n c : Nat), (binOp .eql 40 (.slice a n c) (.slice none 0 0)).run Try.prog w = .ok (.bool a.isNone) w := fun w a n c => Go.Lib.run_eql_slice_nil w _ _ a n c 0 0 Try.underlying40
  go_enter Try.func48, Try.ntmps48
  go_wp2_with fail
  obtain ⟨w0, hw⟩ : ∃ w1, w1 = w.alloc (Obj.cells #[Value.slice A N.length c, Value.slice B E.length c'] 27) := ⟨_, rfl⟩; rw [← hw]; have kT : Tr [(w.heap.size, [.slice A N.length c, .slice B E.length c'])] w w0 := (by rw [hw]; exact ⟨by (first | (simp [Bx, CellsAt, go_sem, *]; done) | (simp [Bx, CellsAt, go_sem, *]; omega)), by (repeat (first | exact kE | exact Ext.refl _ | apply Ext.alloc | apply Ext.drewN | apply Ext.drew | apply Ext.set0 | apply Ext.set1 | apply Ext.set2 | apply Ext.set3 | (refine Ext.setk ?_ (by omega) _) | (apply Ext.snoc; assumption)))⟩); have HT := hide kT; clear hw kT; have kT := HT.out; simp only [Tr, Bx, CellsAt, Nat.reduceAdd, Nat.zero_add, and_true] at kT; obtain ⟨⟨kz0, kf0, kc0_0, kc0_1⟩, kE⟩ := kT
  refine (FacesOf_any N E A B c c' _ (HW.out.ext kE)).mono ?_
  rintro e w5 ⟨A2, c2, rfl, _, _, hRT, hc2, hb5⟩
  have HSD := hide (show (fun d => ((sd N E d : Nat) : Int)) = fun d => ((sideTo (fcs N E) d (fcs N E).length : Nat) : Int) from rfl)
  have hl40 := fcs_len (N := N) (E := E)
  have HT' := hide (HT.out.ext hb5)
  clear hb5 HT
  have HT := HT'
  clear HT'
  clear kz0 kf0 kc0_0 kc0_1 kE
  have kT := HT.out; simp only [Tr, Bx, CellsAt, Nat.reduceAdd, Nat.zero_add, and_true] at kT; obtain ⟨⟨kz0, kf0, kc0_0, kc0_1⟩, kE⟩ := kT
  obtain ⟨F, hF⟩ : ∃ F, fcs N E = F := ⟨_, rfl⟩
  rw [hF] at hRT hc2 HP HSD hl40 ⊢
  clear hF
  have HR := hide hRT
  obtain ⟨b, off, Ai0, ci0, rfl, hb, _⟩ := hRT.at_ HP.out.1
  clear hRT
  have HE5 := hide kE
  go_wp2_with (at_make; refine wpList_make_full _ rfl _ _ 29 rfl w5.heap.size 3 i0 (.int .i64 0) 1 Try.underlying29 hi hz0 hz1 .i64 .i64 (2 * E.length) (2 * E.length) (2 * E.length) rfl rfl (by first | rfl | omega) (by first | rfl | omega) (by rw [hz2]; omega) (by unfold maxLen; omega) (Nat.le_refl _) ?_; intro w6 hown hgrow)
  rw [made_zeros'] at hown
  have HE6 := hide (grown_ext hgrow)
  have HO := hide (show w6.ownsRow w5.heap.size 3 1 (.slice (some ⟨w5.heap.size, 0, none⟩) (2 * E.length) (2 * E.length)) (2 * E.length) (rowOf (2 * E.length) (fun d => ((sideTo F d 0 : Nat) : Int))) from by simpa [sideTo] using hown)
  clear hown hgrow HT
  clear kz0 kf0 kc0_0 kc0_1 kE
  go_loopw [20] (fun i wi => ∃ f : Nat, f ≤ F.length ∧ i = .int .i64 f ∧ Hid (wi.ownsRow w5.heap.size 3 1 (.slice (some ⟨w5.heap.size, 0, none⟩) (2 * E.length) (2 * E.length)) (2 * E.length) (rowOf (2 * E.length) (fun d => ((sideTo F d f : Nat) : Int)))) ∧ Hid (Ext w5 wi)) (fun i _ => F.length - (intOf i).toNat)
  case atStart => exact ⟨0, Nat.zero_le _, rfl, HO, HE6⟩
  case round =>
    clear HO HE6
    obtain ⟨f, hf, rfl, HO, HE⟩ := hrel
    by_cases hlt : f < F.length
    · have hlz : (f : Int) < (F.length : Int) := by omega
      obtain ⟨b', off', Ai, ci, hA', hb', ch0, hci, hri⟩ := HR.out.at_ hlt
      have ch := (HE.out.facts.1 b' _ hb').trans ch0
      clear ch0
      injection hA' with hA'
      injection hA' with hA1 hA2 _
      subst hA1 hA2
      have hlf := HP.out.2.2.1 _ (List.getElem_mem hlt)
      have HFF := hide (show F[f]? = some F[f] by simp [hlt])
      obtain ⟨l, hl⟩ : ∃ l, F[f] = l := ⟨_, rfl⟩
      rw [hl] at ch hci hri hlf HFF
      clear hl
      have HRI := hide hri
      have HLF := hide hlf.2.2
      have hln := hlf.2.1
      clear hri hlf
      obtain ⟨wo, rfl⟩ : ∃ wo : World, wo = wr := ⟨_, rfl⟩
      go_wp2_with fail
      clear ch
      go_loopw [27] (fun i wi => ∃ j : Nat, j ≤ l.length ∧ i = .int .i64 j ∧ Hid (wi.ownsRow w5.heap.size 3 1 (.slice (some ⟨w5.heap.size, 0, none⟩) (2 * E.length) (2 * E.length)) (2 * E.length) (rowOf (2 * E.length) (sideMid F l f j))) ∧ Hid (Ext w5 wi)) (fun i _ => l.length - (intOf i).toNat)
      case atStart => exact ⟨0, Nat.zero_le _, rfl, hide (by rw [sideMid_zero]; exact HO.out), HE⟩
      case round =>
        clear HO HE
        obtain ⟨j, hj, rfl, HO, HE⟩ := hrel
        by_cases hlt2 : j < l.length
        · have hlz2 : (j : Int) < (l.length : Int) := by omega
          obtain ⟨bl, ol, rfl, hbl, cj⟩ := RN.at_ (HRI.out.ext HE.out) rfl hlt2
          have hu := HLF.out _ (List.getElem_mem hlt2)
          have HN := hide (sideMid_next (F := F) (f := f) hlt2)
          obtain ⟨u, hu'⟩ : ∃ u, l[j] = u := ⟨_, rfl⟩
          rw [hu'] at cj hu HN
          clear hu'
          have huz : (u : Int) < 2 * (E.length : Int) := by omega
          have cu := own_cellR HO.out hu
          have fu := HO.out.frozenAt u
          go_wp2_with fail
          have hst := (HO.out.stored u (.int .i64 (f : Nat))).1
          rw [rowOf_set _ _ hu, HN.out] at hst
          have HO5 := hide hst
          have HE5' := hide (HE.out.setk (k := w5.heap.size) (o := u) (s := none) (Nat.le_refl _) (.int .i64 (f : Nat)))
          clear hst cu fu cj
          obtain ⟨w8, hw8⟩ : ∃ w8, w8 = wr.setCell ⟨w5.heap.size, u, none⟩ (.int .i64 (f : Nat)) := ⟨_, rfl⟩
          rw [← hw8] at HO5 HE5' ⊢
          clear hw8
          go_roundw
          case rel => exact ⟨j + 1, by omega, by go_num, HO5, HE5'⟩
          case measure => simp [intOf]; omega
        · obtain rfl : j = l.length := by omega
          have HO5 := hide (show wr.ownsRow w5.heap.size 3 1 (.slice (some ⟨w5.heap.size, 0, none⟩) (2 * E.length) (2 * E.length)) (2 * E.length) (rowOf (2 * E.length) (fun d => ((sideTo F d (f + 1) : Nat) : Int))) from by
            have h := HO.out
            rw [sideMid_end HFF.out] at h
            exact h)
          go_wp2_with fail
          go_roundw
          case rel => exact ⟨f + 1, by omega, by go_num, HO5, HE⟩
          case measure => simp [intOf]; omega
    · obtain rfl : f = F.length := by omega
      go_wp2_with fail
      go_ret
      exact ⟨w5.heap.size, 2 * E.length, rfl, by rw [HSD.out]; exact own_mono HO.out HE5.out.size, HE5.out.trans HE.out⟩
set_option maxRecDepth 20000 in
set_option maxHeartbeats 4000000 in
theorem l09Sides_any (N E : List P2) (A B : Option Addr) (c c' : Nat) (w : World) (hw : WR w N E A B c c') (hwh : wholeB N E = true) :
    Calls Try.prog 53 #[.agg #[.slice A N.length c, .slice B E.length c']] w fun e w' => ∃ g c2, e = .returned (.slice (some ⟨g, 0, none⟩) (2 * E.length) c2) ∧ w'.ownsRow w.heap.size 3 1 (.slice (some ⟨g, 0, none⟩) (2 * E.length) c2) (2 * E.length) (rowOf (2 * E.length) (fun d => ((sd N E d : Nat) : Int))) ∧ Ext w w' := by
  obtain ⟨i0, hi, hz0, hz1, hz2⟩ := info_parts int_info
  have HW := hide hw
  have HP := hide (fcs_facts hwh)
  have hm := (wholeB_iff.1 hwh).1.m
  clear hw hwh
  
  go_enter Try.func53, Try.ntmps53
  go_upto_region 2 with (at_make; refine wpList_make_full _ rfl _ _ 29 rfl (w.heap.size + 1) 3 i0 (.int .i64 0) 1 Try.underlying29 hi hz0 hz1 .i64 .i64 (2 * E.length) (2 * E.length) (2 * E.length) rfl rfl (by first | rfl | omega) (by first | rfl | omega) (by rw [hz2]; omega) (by unfold maxLen; omega) (by simp) ?_; intro w1 hown hgrow)
  obtain ⟨w0, hw⟩ : ∃ w0, w0 = w.alloc (Obj.cells #[Value.slice A N.length c, Value.slice B E.length c'] 27) := ⟨_, rfl⟩
  have hg1 : Ext w0 w1 := by rw [hw]; exact grown_ext hgrow
  have HT0 : Hid (Tr [(w.heap.size, [.slice A N.length c, .slice B E.length c'])] w w0) := hide (by rw [hw]; exact ⟨by simp [Bx, CellsAt, go_sem, *], by repeat (first | exact kE | exact Ext.refl _ | apply Ext.alloc | apply Ext.drewN | apply Ext.drew | apply Ext.set0 | apply Ext.set1 | apply Ext.set2 | apply Ext.set3 | (refine Ext.setk ?_ (by omega) _) | (apply Ext.snoc; assumption))⟩)
  have hsz : w0.heap.size = w.heap.size + 1 := by rw [hw]; simp
  rw [made_zeros'] at hown
  simp only [World.size_alloc] at hown
  rw [← hsz] at hown ⊢
  have HSZ := hide hsz
  have HW0 := hide HT0.out.2
  have HO0 := hide hown
  have hgl := (own_ltg hown).2
  have HGL := hide hgl
  have HE1 := hide hg1
  have HT := hide (HT0.out.ext hg1)
  clear hgrow hw hsz hown hg1 hgl
  have kT := HT.out; simp only [Tr, Bx, CellsAt, Nat.reduceAdd, Nat.zero_add, and_true] at kT; obtain ⟨⟨kz0, kf0, kc0_0, kc0_1⟩, kE⟩ := kT
  go_wp2_with fail
  refine (sFacesOf_gt N E A B c c' _ (HW.out.ext kE)).mono ?_
  rintro e w5 ⟨A2, c2, rfl, ⟨hs, hG⟩, hc2, hb5⟩
  have HSD := hide (show (fun d => ((sd N E d : Nat) : Int)) = fun d => ((sideTo (fcs N E) d (fcs N E).length : Nat) : Int) from rfl)
  have hl40 := fcs_len (N := N) (E := E)
  obtain ⟨F, hF⟩ : ∃ F, fcs N E = F := ⟨_, rfl⟩
  rw [hF] at hG hc2 HP HSD hl40 ⊢
  clear hF
  obtain ⟨A3, c3, e3, _, hA0, hA1⟩ := own_slice hG.own
  injection e3 with e31 e32 e33
  subst e31 e33
  cases A2 with
  | none => exact absurd (hA0 rfl) (by have := HP.out.1; omega)
  | some a2 =>
  obtain ⟨b, rfl, hbB, hbl, _⟩ := hA1 a2 rfl
  clear hA0 hA1
  have HO := hide (show w5.ownsRow w0.heap.size 3 1 (.slice (some ⟨w0.heap.size, 0, none⟩) (2 * E.length) (2 * E.length)) (2 * E.length) (rowOf (2 * E.length) (fun d => ((sideTo F d 0 : Nat) : Int))) from by
    have h := own_ext HO0.out hb5
    simpa [sideTo] using h)
  have HG := hide hG
  have HE := hide (HE1.out.trans hb5)
  clear hG hb5 HT
  clear kz0 kf0 kc0_0 kc0_1 kE
  go_wp2_with fail
  go_loopw [5] (fun i wi => ∃ f : Nat, f ≤ F.length ∧ i = .int .i64 f ∧ Hid (wi.ownsRow w0.heap.size 3 1 (.slice (some ⟨w0.heap.size, 0, none⟩) (2 * E.length) (2 * E.length)) (2 * E.length) (rowOf (2 * E.length) (fun d => ((sideTo F d f : Nat) : Int)))) ∧ Hid (GT wi w1.heap.size 29 (.slice (some ⟨b, 0, none⟩) F.length c2) F hs) ∧ Hid (Ext w0 wi)) (fun i _ => F.length - (intOf i).toNat)
  case atStart => exact ⟨0, Nat.zero_le _, rfl, HO, HG, HE⟩
  case round =>
    clear HO HG HE
    obtain ⟨f, hf, rfl, HO, HG, HE⟩ := hrel
    by_cases hlt : f < F.length
    · have hlz : (f : Int) < (F.length : Int) := by omega
      have hlf := HP.out.2.2.1 _ (List.getElem_mem hlt)
      have HFF := hide (show F[f]? = some F[f] by simp [hlt])
      have HAT := hide (fun (W : World) (h : GT W w1.heap.size 29 (.slice (some ⟨b, 0, none⟩) F.length c2) F hs) => h.at_ hlt)
      obtain ⟨l, hl⟩ : ∃ l, F[f] = l := ⟨_, rfl⟩
      rw [hl] at hlf HFF HAT
      clear hl
      have HLF := hide hlf.2.2
      have hln := hlf.2.1
      clear hlf
      go_wp2_with fail
      go_loopw [6] (fun i wi => ∃ j : Nat, j ≤ l.length ∧ i = .int .i64 j ∧ Hid (wi.ownsRow w0.heap.size 3 1 (.slice (some ⟨w0.heap.size, 0, none⟩) (2 * E.length) (2 * E.length)) (2 * E.length) (rowOf (2 * E.length) (sideMid F l f j))) ∧ Hid (GT wi w1.heap.size 29 (.slice (some ⟨b, 0, none⟩) F.length c2) F hs) ∧ Hid (Ext w0 wi)) (fun i _ => l.length - (intOf i).toNat)
      case atStart => exact ⟨0, Nat.zero_le _, rfl, hide (by rw [sideMid_zero]; exact HO.out), HG, HE⟩
      case round =>
        clear HO HG HE
        obtain ⟨j, hj, rfl, HO, HG, HE⟩ := hrel
        obtain ⟨g, ci, ch, hbl', hci, hri⟩ := HAT.out _ HG.out
        by_cases hlt2 : j < l.length
        · have hlz2 : (j : Int) < (l.length : Int) := by omega
          obtain ⟨bl, ol, hA', hbl2, cj⟩ := RN.at_ hri rfl hlt2
          injection hA' with hA'
          injection hA' with hA1 hA2 _
          subst hA1 hA2
          have hu := HLF.out _ (List.getElem_mem hlt2)
          have HN := hide (sideMid_next (F := F) (f := f) hlt2)
          obtain ⟨u, hu'⟩ : ∃ u, l[j] = u := ⟨_, rfl⟩
          rw [hu', Nat.zero_add] at cj
          rw [hu'] at hu HN
          clear hu'
          have huz : (u : Int) < 2 * (E.length : Int) := by omega
          have cu := own_cellR HO.out hu
          have fu := HO.out.frozenAt u
          clear hri
          go_wp2_with fail
          have hst := (HO.out.stored u (.int .i64 (f : Nat))).1
          rw [rowOf_set _ _ hu, HN.out] at hst
          have HO5 := hide hst
          have HG5 := hide (HG.out.setk (k := w0.heap.size) (i := u) (u := .int .i64 (f : Nat)) HGL.out)
          have HE5' := hide (HE.out.setk (k := w0.heap.size) (o := u) (s := none) (Nat.le_refl _) (.int .i64 (f : Nat)))
          clear hst cu fu cj ch hbl' hbl2
          obtain ⟨w8, hw8⟩ : ∃ w8, w8 = wr.setCell ⟨w0.heap.size, u, none⟩ (.int .i64 (f : Nat)) := ⟨_, rfl⟩
          rw [← hw8] at HO5 HG5 HE5' ⊢
          clear hw8
          go_roundw
          case rel => exact ⟨j + 1, by omega, by go_num, HO5, HG5, HE5'⟩
          case measure => simp [intOf]; omega
        · obtain rfl : j = l.length := by omega
          have HO5 := hide (show wr.ownsRow w0.heap.size 3 1 (.slice (some ⟨w0.heap.size, 0, none⟩) (2 * E.length) (2 * E.length)) (2 * E.length) (rowOf (2 * E.length) (fun d => ((sideTo F d (f + 1) : Nat) : Int))) from by
            have h := HO.out
            rw [sideMid_end HFF.out] at h
            exact h)
          clear hri
          go_wp2_with fail
          clear ch hbl'
          go_roundw
          case rel => exact ⟨f + 1, by omega, by go_num, HO5, HG, HE⟩
          case measure => simp [intOf]; omega
    · obtain rfl : f = F.length := by omega
      go_wp2_with fail
      go_ret
      exact ⟨w0.heap.size, 2 * E.length, rfl, by rw [HSD.out]; exact own_mono HO.out HW0.out.size, HW0.out.trans HE.out⟩
end Go.Proofs.Ytabgcpoaepafjaa
namespace Go.Proofs.Ytabgcpoaepafjaa
open Go.RowKit
end Go.Proofs.Ytabgcpoaepafjaa
namespace Go.Proofs.Ytabgcpoaepafjaa
open Go.RowKit
/-- The outer face of a whole window. -/
noncomputable def oN (N E : List P2) : Nat := (fcs N E).findIdx (fun l => decide (areaL N E l ≤ 0))
end Go.Proofs.Ytabgcpoaepafjaa
namespace Go.Proofs.Ytabgcpoaepafjaa
/-- The set of the first k of the numbers F. -/
def setTo (F : Nat → Nat) : Nat → Nat
  | 0 => 0
  | k + 1 => setTo F k ||| 2 ^ F k
theorem setTo_bit {F : Nat → Nat} {j : Nat} : ∀ k, (setTo F k).testBit j = true ↔ ∃ i, i < k ∧ F i = j
  | 0 => by simp [setTo]
  | k + 1 => by
    simp only [setTo]
    rw [or_bit, setTo_bit k]
    constructor
    · rintro (⟨i, h1, h2⟩ | h)
      · exact ⟨i, by omega, h2⟩
      · exact ⟨k, by omega, h⟩
    · rintro ⟨i, h1, h2⟩
      rcases Nat.lt_or_ge i k with h | h
      · exact .inl ⟨i, h, h2⟩
      · have : i = k := by omega
        subst this
        exact .inr h2
/-- The first k numbers are set one by one: each a face, each new, each beside one before it. -/
def StepI (b : Nat → Nat → Bool) (R : Nat → Bool) (F : Nat → Nat) (k : Nat) : Prop := ∀ j, j < k → R j = true ∧ (∀ i, i < j → F i ≠ F j) ∧ (j = 0 ∨ ∃ i, i < j ∧ b (F i) (F j) = true)
theorem StepI.next {b : Nat → Nat → Bool} {R : Nat → Bool} {F : Nat → Nat} {k : Nat} (h : StepI b R F k) (h1 : R k = true) (h2 : (setTo F k).testBit (F k) = false) (h3 : k = 0 ∨ ∃ i, i < k ∧ b (F i) (F k) = true) : StepI b R F (k + 1) := by
  intro j hj
  rcases Nat.lt_or_ge j k with hlt | hge
  · exact h j hlt
  · have : j = k := by omega
    subst this
    refine ⟨h1, fun i hi e => ?_, h3⟩
    have : (setTo F j).testBit (F j) = true := (setTo_bit j).2 ⟨i, hi, e⟩
    rw [h2] at this
    cases this
end Go.Proofs.Ytabgcpoaepafjaa
namespace Go.Proofs.Ytabgcpoaepafjaa
open Go.RowKit
/-- The table f with one place changed. -/
def updB (f : Nat → Nat → Bool) (i j : Nat) (v : Bool) : Nat → Nat → Bool := fun a b => if a = i ∧ b = j then v else f a b
theorem updB_ne (f : Nat → Nat → Bool) (i j : Nat) (v : Bool) {a b : Nat} (h : a ≠ i ∨ b ≠ j) : updB f i j v a b = f a b := by
  unfold updB
  rw [if_neg (by omega)]
/-- A row of bools. -/
def rowB (n : Nat) (f : Nat → Bool) : List Value := (List.range n).map fun j => Value.bool (f j)
theorem rowB_get {n j : Nat} (f : Nat → Bool) (h : j < n) : (rowB n f)[j]? = some (.bool (f j)) := by simp [rowB, h]
theorem rowB_length (n : Nat) (f : Nat → Bool) : (rowB n f).length = n := by simp [rowB]
theorem rowB_set {n j : Nat} (f : Nat → Bool) (v : Bool) (h : j < n) : (rowB n f).set j (.bool v) = rowB n (fun k => if k = j then v else f k) := by
  apply List.ext_getElem?
  intro k
  by_cases hk : k = j
  · subst hk
    rw [List.getElem?_set_self (by rw [rowB_length]; exact h), rowB_get _ h]
    simp
  · rw [List.getElem?_set_ne (fun e => hk e.symm)]
    by_cases hkn : k < n
    · rw [rowB_get _ hkn, rowB_get _ hkn]
      simp [hk]
    · rw [List.getElem?_eq_none (by rw [rowB_length]; omega), List.getElem?_eq_none (by rw [rowB_length]; omega)]
/-- Block hd holds n headers at least; the first n rows, of n bools each, read as f; all blocks lie below U. -/
def MatB (w : World) (B U hd n : Nat) (Th Te : TypeId) (f : Nat → Nat → Bool) : Prop :=
  ∃ (G : Nat → Nat) (hs : List Value), B ≤ hd ∧ hd < U ∧ Blk w hd Th hs ∧ n ≤ hs.length ∧ (∀ i, i < n → hs[i]? = some (.slice (some ⟨G i, 0, none⟩) n n) ∧ B ≤ G i ∧ G i < U ∧ G i ≠ hd ∧ Blk w (G i) Te (rowB n (f i))) ∧ (∀ i j, i < n → j < n → G i = G j → i = j)
section
variable {w w' : World} {B U hd n : Nat} {Th Te : TypeId} {f f' : Nat → Nat → Bool}
theorem MatB.ext (h : MatB w B U hd n Th Te f) (hE : Ext w w') : MatB w' B U hd n Th Te f := by
  obtain ⟨G, hs, h1, h0, h2, h3, h5, h6⟩ := h
  exact ⟨G, hs, h1, h0, h2.ext hE, h3, fun i hi => ⟨(h5 i hi).1, (h5 i hi).2.1, (h5 i hi).2.2.1, (h5 i hi).2.2.2.1, (h5 i hi).2.2.2.2.ext hE⟩, h6⟩
theorem MatB.mono {B' U' : Nat} (h : MatB w B U hd n Th Te f) (hB : B' ≤ B) (hU : U ≤ U') : MatB w B' U' hd n Th Te f := by
  obtain ⟨G, hs, h1, h0, h2, h3, h5, h6⟩ := h
  exact ⟨G, hs, by omega, by omega, h2, h3, fun i hi => ⟨(h5 i hi).1, Nat.le_trans hB (h5 i hi).2.1, Nat.lt_of_lt_of_le (h5 i hi).2.2.1 hU, (h5 i hi).2.2.2⟩, h6⟩
theorem MatB.lt (h : MatB w B U hd n Th Te f) : B ≤ hd ∧ hd < U ∧ hd < w.heap.size := by
  obtain ⟨G, hs, h1, h0, h2, _⟩ := h
  exact ⟨h1, h0, h2.lt⟩
/-- A place of the table: its header, its cell, and what a store there leaves. -/
theorem MatB.at_ (h : MatB w B U hd n Th Te f) {i j : Nat} (hi : i < n) (hj : j < n) : ∃ g, w.cell? ⟨hd, i, none⟩ = some (.slice (some ⟨g, 0, none⟩) n n) ∧ w.cell? ⟨g, j, none⟩ = some (.bool (f i j)) ∧ w.frozen? ⟨g, j, none⟩ = false ∧
    B ≤ g ∧ g < U ∧ g < w.heap.size ∧ ∀ v, MatB (w.setCell ⟨g, j, none⟩ (.bool v)) B U hd n Th Te (updB f i j v) := by
  obtain ⟨G, hs, h1, h0, h2, h3, h5, h6⟩ := h
  obtain ⟨e1, e2, e0, e3, e4⟩ := h5 i hi
  refine ⟨G i, by rw [h2.cell, e1], by rw [e4.cell, rowB_get _ hj], e4.free _, e2, e0, e4.lt, fun v => ?_⟩
  refine ⟨G, hs, h1, h0, h2.other (fun e => e3 e.symm) _, h3, fun k hk => ⟨(h5 k hk).1, (h5 k hk).2.1, (h5 k hk).2.2.1, (h5 k hk).2.2.2.1, ?_⟩, h6⟩
  by_cases hki : k = i
  · subst hki
    have := e4.set j (.bool v)
    rw [rowB_set _ _ hj] at this
    have e : (fun b => if b = j then v else f k b) = updB f k j v k := by
      funext b
      simp [updB]
    rw [← e]
    exact this
  · have e : f k = updB f i j v k := by
      funext b
      rw [updB_ne _ _ _ _ (.inl hki)]
    rw [← e]
    exact (h5 k hk).2.2.2.2.other (fun e => hki (h6 k i hk hi e)) _
end
/-- A row of k headers that grows, each header's row of n zeros in a block of its own. -/
def HdrB (w : World) (B : Nat) (v : Value) (k n : Nat) (Th Te : TypeId) : Prop :=
  ∃ G : Nat → Nat, w.ownsRow B Th 1 v k ((List.range k).map fun i => Value.slice (some ⟨G i, 0, none⟩) n n) ∧ (∀ i, i < k → B ≤ G i ∧ v.ownBlock ≠ some (G i) ∧ Blk w (G i) Te (List.replicate n (Value.bool false))) ∧ ∀ i j, i < k → j < k → G i = G j → i = j
theorem HdrB.step {w w2 w4 : World} {B k n g : Nat} {v v' : Value} {Th Te : TypeId} {G : Nat → Nat} (h1 : w.ownsRow B Th 1 v k ((List.range k).map fun i => Value.slice (some ⟨G i, 0, none⟩) n n)) (h2 : ∀ i, i < k → B ≤ G i ∧ v.ownBlock ≠ some (G i) ∧ Blk w (G i) Te (List.replicate n (Value.bool false))) (h3 : ∀ i j, i < k → j < k → G i = G j → i = j) (hE : Ext w w2) (hg : g = w.heap.size) (hB : B ≤ w.heap.size) (hb : Blk w2 g Te (List.replicate n (Value.bool false)))
    (hgr : (w2.alloc (.cells #[Value.slice (some ⟨g, 0, none⟩) n n] Th)).grownBy w4 v.ownBlock) (hv : v'.ownBlock = v.ownBlock ∨ v'.ownBlock = some (w2.alloc (.cells #[Value.slice (some ⟨g, 0, none⟩) n n] Th)).heap.size)
    (how : w4.ownsRow B Th 1 v' (k + 1) ((List.range k).map (fun i => Value.slice (some ⟨G i, 0, none⟩) n n) ++ [Value.slice (some ⟨g, 0, none⟩) n n])) : HdrB w4 B v' (k + 1) n Th Te := by
  have hlt : ∀ i, i < k → G i < w.heap.size := fun i hi => (h2 i hi).2.2.lt
  have hgl := hb.lt
  have hsz := hE.size
  have hne : ∀ x, x < w2.heap.size → v.ownBlock ≠ some x → v'.ownBlock ≠ some x := by
    intro x hx hn e
    rcases hv with e' | e'
    · rw [e'] at e
      exact hn e
    · rw [e'] at e
      injection e with e
      simp at e
      omega
  have hvg : v.ownBlock ≠ some g := by
    intro e
    have := (h1.lt g e).2
    omega
  refine ⟨fun i => if i = k then g else G i, ?_, fun i hi => ?_, fun i j hi hj e => ?_⟩
  · have := how
    have e : (List.range (k + 1)).map (fun i => Value.slice (some ⟨if i = k then g else G i, 0, none⟩) n n) = (List.range k).map (fun i => Value.slice (some ⟨G i, 0, none⟩) n n) ++ [Value.slice (some ⟨g, 0, none⟩) n n] := by
      rw [List.range_succ, List.map_append]
      congr 1
      · apply List.map_congr_left
        intro i hi
        have := List.mem_range.1 hi
        rw [if_neg (by omega)]
      · simp
    rw [e]
    exact this
  · by_cases hik : i = k
    · subst hik
      simp only [if_true]
      exact ⟨by omega, hne g hgl hvg, (hb.ext ((Ext.refl _).alloc _)).grown hgr hvg⟩
    · simp only [hik, if_false]
      obtain ⟨e1, e2, e3⟩ := h2 i (by omega)
      exact ⟨e1, hne _ (Nat.lt_of_lt_of_le e3.lt hsz) e2, ((e3.ext hE).ext ((Ext.refl _).alloc _)).grown hgr e2⟩
  · have a1 := hlt i
    have a2 := hlt j
    have a3 := h3 i j
    by_cases hik : i = k <;> by_cases hjk : j = k <;> simp [hik, hjk] at e <;> omega
end Go.Proofs.Ytabgcpoaepafjaa
namespace Go.Proofs.Ytabgcpoaepafjaa
open Go.RowKit
end Go.Proofs.Ytabgcpoaepafjaa
namespace Go.Proofs.Ytabgcpoaepafjaa
open Go.RowKit
end Go.Proofs.Ytabgcpoaepafjaa
namespace Go.Proofs.Ytabgcpoaepafjaa
open Go.RowKit
end Go.Proofs.Ytabgcpoaepafjaa
namespace Go.Proofs.Ytabgcpoaepafjaa
open Go.RowKit
def castL (l : List Nat) : List Int := l.map fun x : Nat => (x : Int)
theorem castL_length (l : List Nat) : (castL l).length = l.length := by simp [castL]
theorem castL_snoc (l : List Nat) (f : Nat) : castL (l ++ [f]) = castL l ++ [(f : Int)] := by simp [castL]
end Go.Proofs.Ytabgcpoaepafjaa
namespace Go.Proofs.Ytabgcpoaepafjaa
open Go.RowKit
theorem grow_carry {a b c : World} {g0 : Nat} {row : Option Nat} (h : a.grownBy b (some g0)) (k : b.grownBy c row) (hr : ∀ g, row = some g → g = g0 ∨ a.heap.size ≤ g) : a.grownBy c (some g0) where
  os := k.os.trans h.os
  tape := k.tape.trans h.tape
  output := k.output.trans h.output
  size := Nat.le_trans h.size k.size
  block i hi hne := by
    have hib : i < b.heap.size := Nat.lt_of_lt_of_le hi h.size
    rw [k.block i hib fun e => ?_, h.block i hi hne]
    rcases hr i e.symm with q | q
    · exact hne (by rw [q])
    · omega
/-- The list of a call: it lies in its first block g0 or in a block that is new since a; nothing else has turned since a. -/
def OutR (a w : World) (g0 : Nat) (T : TypeId) (sz : Nat) (v : Value) (n : Nat) (xs : List Value) : Prop :=
  w.ownsRow g0 T sz v n xs ∧ a.grownBy w (some g0) ∧ ∀ k, v.ownBlock = some k → k = g0 ∨ a.heap.size ≤ k
section
variable {a w w' : World} {g0 : Nat} {T : TypeId} {sz : Nat} {v v' : Value} {n m : Nat} {xs ys : List Value}
theorem OutR.start (h : a.ownsRow g0 T sz v n xs) (hk : ∀ k, v.ownBlock = some k → k = g0) : OutR a a g0 T sz v n xs := ⟨h, World.grownBy.refl _ _, fun k e => .inl (hk k e)⟩
theorem OutR.ext (h : OutR a w g0 T sz v n xs) (hE : Ext w w') : OutR a w' g0 T sz v n xs :=
  ⟨own_ext h.1 hE, grow_carry h.2.1 (row := none) ⟨hE.os, hE.tape, hE.output, hE.size, fun k hk _ => hE.block k hk⟩ (fun _ e => by cases e), h.2.2⟩
theorem OutR.app (h : OutR a w g0 T sz v n xs) {o : Obj} (hown : w'.ownsRow g0 T sz v' m ys) (hg : (w.alloc o).grownBy w' v.ownBlock) (hl : v'.ownBlock = v.ownBlock ∨ v'.ownBlock = some (w.alloc o).heap.size) : OutR a w' g0 T sz v' m ys := by
  have h1 : a.grownBy (w.alloc o) (some g0) := (h.ext ((Ext.refl w).alloc o)).2.1
  refine ⟨hown, grow_carry h1 hg h.2.2, fun k e => ?_⟩
  rcases hl with q | q
  · exact h.2.2 k (by rw [← q]; exact e)
  · rw [q] at e
    injection e with e
    exact .inr (by rw [← e]; exact h1.size)
theorem OutR.cell (h : OutR a w g0 T sz v n xs) {b o : Nat} {x : Value} (hb : b < a.heap.size) (hne : b ≠ g0) (hc : a.cell? ⟨b, o, none⟩ = some x) : w.cell? ⟨b, o, none⟩ = some x := by
  rw [← hc]
  exact World.cell?_of_block (h.2.1.block b hb fun e => hne (by injection e))
theorem OutR.frozen (h : OutR a w g0 T sz v n xs) {b o : Nat} (hb : b < a.heap.size) (hne : b ≠ g0) : w.frozen? ⟨b, o, none⟩ = a.frozen? ⟨b, o, none⟩ := World.frozen?_of_block (h.2.1.block b hb fun e => hne (by injection e))
end
end Go.Proofs.Ytabgcpoaepafjaa
namespace Go.Proofs.Ytabgcpoaepafjaa
open Go.RowKit
theorem filter_range_yes {p : Nat → Bool} {k : Nat} (h : p k = true) : castL ((List.range (k + 1)).filter p) = castL ((List.range k).filter p) ++ [(k : Int)] := by
  rw [List.range_succ, List.filter_append]
  simp [h, castL]
theorem filter_range_no {p : Nat → Bool} {k : Nat} (h : p k = false) : castL ((List.range (k + 1)).filter p) = castL ((List.range k).filter p) := by
  rw [List.range_succ, List.filter_append]
  simp [h, castL]
end Go.Proofs.Ytabgcpoaepafjaa
