/- Walks of OuterFace and AreaOf (both forms). No condition but that a list has at most 1048576 elements. -/
import Derived.Test.YtkgbilbicdiadaaFaces
import Derived.Test.YtkgbilbicdiadaaFacesS
import Derived.Test.YtkgbilbicdiadaaArea
set_option linter.unusedSimpArgs false
set_option linter.unusedVariables false
namespace Go.Proofs.Ytkgbilbicdiadaa
open Go.RowKit

noncomputable def outerI (N E : List P2) : Int := if (fcs N E).findIdx (fun l => decide (areaL N E l ≤ 0)) < (fcs N E).length then ((fcs N E).findIdx (fun l => decide (areaL N E l ≤ 0)) : Nat) else -1
theorem outer_at {N E : List P2} {k : Nat} (hk : k < (fcs N E).length) (h : areaL N E (fcs N E)[k] ≤ 0) (hn : ∀ j (hj : j < (fcs N E).length), j < k → 0 < areaL N E (fcs N E)[j]) : outerI N E = k := by
  have e : (fcs N E).findIdx (fun l => decide (areaL N E l ≤ 0)) = k := by
    rw [List.findIdx_eq hk]
    exact ⟨by simpa using h, fun j hj => by have := hn j (by omega) hj; simp; omega⟩
  unfold outerI
  rw [e, if_pos hk]
theorem outer_none {N E : List P2} (hn : ∀ j (hj : j < (fcs N E).length), 0 < areaL N E (fcs N E)[j]) : outerI N E = -1 := by
  unfold outerI
  rw [if_neg]
  intro h
  have := List.findIdx_getElem (w := h)
  have h2 := hn _ h
  simp at this
  omega
theorem fcs_whole {N E : List P2} (h : 0 < (fcs N E).length) : wholeB N E = true := by
  cases e : wholeB N E with
  | true => rfl
  | false => rw [fcs_no e] at h; simp at h
theorem fcs_at {N E : List P2} {k : Nat} (hk : k < (fcs N E).length) : WinOk N E ∧ (∀ d ∈ (fcs N E)[k], d < 2 * E.length) ∧ (fcs N E)[k].length ≤ 40 ∧ -16000 ≤ areaL N E (fcs N E)[k] ∧ areaL N E (fcs N E)[k] ≤ 16000 := by
  have hw := fcs_whole (by omega : 0 < (fcs N E).length)
  have hok := (wholeB_iff.1 hw).1
  have hf := (fcs_facts hw).2.2.1 _ (List.getElem_mem hk)
  have hm := hok.m
  have ha := area_in hok hf.2.2
  refine ⟨hok, hf.2.2, by omega, by omega, by omega⟩
theorem fcs_len {N E : List P2} : (fcs N E).length ≤ 40 := by
  cases e : wholeB N E with
  | true => have := (fcs_facts e).2.1; have := (wholeB_iff.1 e).1.m; omega
  | false => rw [fcs_no e]; simp
/-- The area of face f; -1 if there is none. -/
noncomputable def areaAt (N E : List P2) (f : Int) : Int := if 0 ≤ f ∧ f < (fcs N E).length then ((areaL N E ((fcs N E).getD f.toNat [])).natAbs : Int) else -1
theorem areaAt_yes {N E : List P2} {k : Nat} (hk : k < (fcs N E).length) : areaAt N E (k : Nat) = ((areaL N E (fcs N E)[k]).natAbs : Int) := by
  unfold areaAt
  rw [if_pos ⟨by omega, by omega⟩]
  simp [hk]
theorem areaAt_no {N E : List P2} {f : Int} (h : ¬ (0 ≤ f ∧ f < (fcs N E).length)) : areaAt N E f = -1 := by unfold areaAt; rw [if_neg h]
theorem size_any (n : Int) (w : World) (h : -1000000 ≤ n ∧ n ≤ 1000000) : Calls Try.prog 151 #[.int .i64 n] w fun e w' => e = .returned (.int .i64 (n.natAbs : Int)) ∧ Ext w w' := by
  have h1 : IntKind.i64.wrap (-n) = -n := by rw [IntKind.wrap_i64]; omega
  go_enter Try.func151, Try.ntmps151
  by_cases hn : n < 0
  · go_wp2
    go_ret
    exact ⟨ret_int (by omega), Ext.refl _⟩
  · go_wp2
    go_ret
    exact ⟨ret_int (by omega), Ext.refl _⟩
set_option maxRecDepth 20000 in
set_option maxHeartbeats 4000000 in
theorem OuterFace_any (N E : List P2) (A B : Option Addr) (c c' : Nat) (w : World) (hw : WR w N E A B c c') :
    Calls Try.prog 111 #[.agg #[.slice A N.length c, .slice B E.length c']] w fun e w' => e = .returned (.int .i64 (outerI N E)) ∧ Ext w w' := by
  have HW := hide hw
  clear hw
  
  go_enter Try.func111, Try.ntmps111
  go_wp2_with fail
  obtain ⟨w0, hw⟩ : ∃ w1, w1 = w.alloc (Obj.cells #[Value.slice A N.length c, Value.slice B E.length c'] 27) := ⟨_, rfl⟩; rw [← hw]; have kT : Tr [(w.heap.size, [.slice A N.length c, .slice B E.length c'])] w w0 := (by rw [hw]; exact ⟨by (first | (simp [Bx, CellsAt, go_sem, *]; done) | (simp [Bx, CellsAt, go_sem, *]; omega)), by (repeat (first | exact kE | exact Ext.refl _ | apply Ext.alloc | apply Ext.drewN | apply Ext.drew | apply Ext.set0 | apply Ext.set1 | apply Ext.set2 | apply Ext.set3 | (refine Ext.setk ?_ (by omega) _) | (apply Ext.snoc; assumption)))⟩); have HT := hide kT; clear hw kT; have kT := HT.out; simp only [Tr, Bx, CellsAt, Nat.reduceAdd, Nat.zero_add, and_true] at kT; obtain ⟨⟨kz0, kf0, kc0_0, kc0_1⟩, kE⟩ := kT
  have HT0 := HT
  refine (FacesOf_any N E A B c c' _ (HW.out.ext kE)).mono ?_
  rintro e w5 ⟨A2, c2, rfl, _, _, hRT, hc2, hb5⟩
  have HR := hide hRT
  have HE5 := hide (kE.trans hb5)
  have hl40 := fcs_len (N := N) (E := E)
  have HF := hide (fun k hk => fcs_at (N := N) (E := E) (k := k) hk)
  have HO1 := hide (fun k hk h hn => outer_at (N := N) (E := E) (k := k) hk h hn)
  have HO2 := hide (fun hn => outer_none (N := N) (E := E) hn)
  have HT := hide (HT0.out.ext hb5)
  clear hRT hb5
  clear kz0 kf0 kc0_0 kc0_1 kE
  have kT := HT.out; simp only [Tr, Bx, CellsAt, Nat.reduceAdd, Nat.zero_add, and_true] at kT; obtain ⟨⟨kz0, kf0, kc0_0, kc0_1⟩, kE⟩ := kT
  obtain ⟨F, hF⟩ : ∃ F, fcs N E = F := ⟨_, rfl⟩
  rw [hF] at HR hl40 HF HO1 HO2 hc2 ⊢
  clear hF
  go_wp2_with fail
  clear kz0 kf0 kc0_0 kc0_1 kE
  go_loopw [8] (fun i wi => ∃ k : Nat, k ≤ F.length ∧ i = .int .i64 k ∧ Hid (∀ j (hj : j < F.length), j < k → 0 < areaL N E F[j]) ∧ Hid (Ext w5 wi)) (fun i _ => F.length - (intOf i).toNat)
  case atStart => exact ⟨0, Nat.zero_le _, rfl, hide (fun j _ hj => absurd hj (by omega)), hide (Ext.refl _)⟩
  case round =>
    obtain ⟨k, hk, rfl, hz, HE⟩ := hrel
    have hE := HE.out
    have HT := hide (HT.out.ext hE); clear hE; have kT := HT.out; simp only [Tr, Bx, CellsAt, Nat.reduceAdd, Nat.zero_add, and_true] at kT; obtain ⟨⟨kz0, kf0, kc0_0, kc0_1⟩, kE⟩ := kT
    by_cases hlt : k < F.length
    · have hlz : (k : Int) < (F.length : Int) := by omega
      obtain ⟨b, off, Ai, ci, rfl, hb, ch, hci, hri⟩ := (HR.out.ext HE.out).at_ hlt
      obtain ⟨hok, hld, hl4, _, _⟩ := HF.out k hlt
      have HA1 := hide (show areaL N E F[k] ≤ 0 → outerI N E = k from fun h => HO1.out k hlt h hz.out)
      have HA2 := hide (show 0 < areaL N E F[k] → ∀ j (hj : j < F.length), j < k + 1 → 0 < areaL N E F[j] from fun h j hj hjk => by
        rcases Nat.lt_or_ge j k with a | a
        · exact hz.out j hj a
        · have e : j = k := by omega
          subst e
          exact h)
      have HC := hide (fun (W : World) (hE : Ext wr W) => areaOf_any N E A B Ai c c' ci F[k] W (HW.out.ext (kE.trans hE)) hok hld hl4 (hri.ext hE))
      obtain ⟨l, hl⟩ : ∃ l, F[k] = l := ⟨_, rfl⟩
      rw [hl] at HC HA1 HA2 ch
      clear hl hok hld hl4 hri hci
      obtain ⟨a, ha⟩ : ∃ a, areaL N E l = a := ⟨_, rfl⟩
      rw [ha] at HC HA1 HA2
      clear ha
      by_cases h0 : a ≤ 0
      · go_wp2_with (go_at_call 150; refine (HC.out _ (Ext.refl _)).mono ?_; rintro e w7 ⟨rfl, hb7⟩)
        have HB7 := hide hb7
        clear hb7
        go_wp2_with fail
        go_ret
        exact ⟨ret_int (HA1.out h0).symm, kE.trans HB7.out⟩
      · have H0 := hide (show 0 < a by omega)
        have h0' : ¬ a ≤ 0 := h0
        go_wp2_with (go_at_call 150; refine (HC.out _ (Ext.refl _)).mono ?_; rintro e w7 ⟨rfl, hb7⟩)
        have HE7 := hide (HE.out.trans hb7)
        clear hb7 h0 h0'
        go_wp2_with fail
        go_roundw
        case rel => exact ⟨k + 1, by omega, by go_num, hide (HA2.out H0.out), HE7⟩
        case measure => simp [intOf]; omega
    · obtain rfl : k = F.length := by omega
      go_wp2_with fail
      go_ret
      exact ⟨ret_int (HO2.out fun j hj => hz.out j hj hj).symm, kE⟩
set_option maxRecDepth 20000 in
set_option maxHeartbeats 4000000 in
theorem AreaOf_any (N E : List P2) (A B : Option Addr) (c c' : Nat) (f : Int) (w : World) (hw : WR w N E A B c c') :
    Calls Try.prog 112 #[.agg #[.slice A N.length c, .slice B E.length c'], .int .i64 f] w fun e w' => e = .returned (.int .i64 (areaAt N E f)) ∧ Ext w w' := by
  have HW := hide hw
  clear hw
  
  go_enter Try.func112, Try.ntmps112
  go_wp2_with fail
  obtain ⟨w0, hw⟩ : ∃ w1, w1 = w.alloc (Obj.cells #[Value.slice A N.length c, Value.slice B E.length c'] 27) := ⟨_, rfl⟩; rw [← hw]; have kT : Tr [(w.heap.size, [.slice A N.length c, .slice B E.length c'])] w w0 := (by rw [hw]; exact ⟨by (first | (simp [Bx, CellsAt, go_sem, *]; done) | (simp [Bx, CellsAt, go_sem, *]; omega)), by (repeat (first | exact kE | exact Ext.refl _ | apply Ext.alloc | apply Ext.drewN | apply Ext.drew | apply Ext.set0 | apply Ext.set1 | apply Ext.set2 | apply Ext.set3 | (refine Ext.setk ?_ (by omega) _) | (apply Ext.snoc; assumption)))⟩); have HT := hide kT; clear hw kT; have kT := HT.out; simp only [Tr, Bx, CellsAt, Nat.reduceAdd, Nat.zero_add, and_true] at kT; obtain ⟨⟨kz0, kf0, kc0_0, kc0_1⟩, kE⟩ := kT
  have HT0 := HT
  refine (FacesOf_any N E A B c c' _ (HW.out.ext kE)).mono ?_
  rintro e w5 ⟨A2, c2, rfl, _, _, hRT, hc2, hb5⟩
  have HR := hide hRT
  have HE5 := hide (kE.trans hb5)
  have hl40 := fcs_len (N := N) (E := E)
  have HF := hide (fun k hk => fcs_at (N := N) (E := E) (k := k) hk)
  have HA1 := hide (fun k hk => areaAt_yes (N := N) (E := E) (k := k) hk)
  have HA2 := hide (fun h => areaAt_no (N := N) (E := E) (f := f) h)
  have HT := hide (HT0.out.ext hb5)
  clear hRT hb5
  clear kz0 kf0 kc0_0 kc0_1 kE
  have kT := HT.out; simp only [Tr, Bx, CellsAt, Nat.reduceAdd, Nat.zero_add, and_true] at kT; obtain ⟨⟨kz0, kf0, kc0_0, kc0_1⟩, kE⟩ := kT
  obtain ⟨F, hF⟩ : ∃ F, fcs N E = F := ⟨_, rfl⟩
  rw [hF] at HR hl40 HF HA1 HA2 hc2 ⊢
  clear hF
  by_cases hf : 0 ≤ f ∧ f < (F.length : Int)
  · obtain ⟨k, rfl⟩ := Int.eq_ofNat_of_zero_le hf.1
    have hlt : k < F.length := by omega
    have hin : inR (k : Int) 0 ((F.length : Int) - 1) = true := by simp [inR]; omega
    have hlz : (k : Int) < (F.length : Int) := by omega
    obtain ⟨b, off, Ai, ci, rfl, hb, ch, hci, hri⟩ := HR.out.at_ hlt
    obtain ⟨hok, hld, hl4, ha1, ha2⟩ := HF.out k hlt
    have HV := hide (HA1.out k hlt)
    have HC := hide (fun (W : World) (hE : Ext w5 W) => areaOf_any N E A B Ai c c' ci F[k] W (HW.out.ext (kE.trans hE)) hok hld hl4 (hri.ext hE))
    obtain ⟨l, hl⟩ : ∃ l, F[k] = l := ⟨_, rfl⟩
    rw [hl] at HC HV ch ha1 ha2
    clear hl hok hld hl4 hri hci
    obtain ⟨a, ha⟩ : ∃ a, areaL N E l = a := ⟨_, rfl⟩
    rw [ha] at HC HV ha1 ha2
    clear ha hf
    have qh := ExtBy.cell (W := w5) hb ch
    go_wp2_with (first | (go_at_call 101; refine (within_any _ _ _ _).mono ?_; rintro e w' ⟨rfl, rfl⟩))
    have kq0_0 := ExtBy.cell (W := w5) kz0 kc0_0; have kq0_1 := ExtBy.cell (W := w5) kz0 kc0_1; refine wp_region_quietE (by kernel_rfl) (by kernel_rfl) ?_; (repeat (refine WQ.step (fun K hK => ?_); have HK := hide hK; clear hK; go_simp; refine HK.out _ ?_; clear HK K)); (refine WQ.step (fun K hK => ?_); have HK := hide hK; clear hK; go_simp; apply Exists.intro; refine ⟨fun _ => ?_, HK.out _ ?_⟩; (go_at_call 150; refine extby_of (HC.out _ (ExtBy.h _))); clear HK K); (repeat (refine WQ.step (fun K hK => ?_); have HK := hide hK; clear hK; go_simp; refine HK.out _ ?_; clear HK K)); (refine WQ.step (fun K hK => ?_); have HK := hide hK; clear hK; go_simp; apply Exists.intro; refine ⟨fun _ => ?_, HK.out _ ?_⟩; (go_at_call 151; refine extby_of (size_any _ _ (by omega))); clear HK K); (repeat (refine WQ.step (fun K hK => ?_); have HK := hide hK; clear hK; go_simp; refine HK.out _ ?_; clear HK K)); refine WQ.done ?_; intro w7 hw'; obtain ⟨⟨_, hw7⟩, hw''⟩ := hw'; subst hw''; clear kq0_0 kq0_1; have HT := hide (HT.out.ext hw7); have Hw7 := hide hw7; clear hw7 kz0 kf0 kc0_0 kc0_1 kE; have kT := HT.out; simp only [Tr, Bx, CellsAt, Nat.reduceAdd, Nat.zero_add, and_true] at kT; obtain ⟨⟨kz0, kf0, kc0_0, kc0_1⟩, kE⟩ := kT
    clear qh ch
    go_wp2_with fail
    go_ret
    exact ⟨ret_int HV.out.symm, kE⟩
  · have hin : inR f 0 ((F.length : Int) - 1) = false := by simp [inR]; omega
    have HV := hide (HA2.out hf)
    clear hf
    go_wp2_with (first | (go_at_call 101; refine (within_any _ _ _ _).mono ?_; rintro e w' ⟨rfl, rfl⟩))
    go_ret
    exact ⟨ret_int HV.out.symm, kE⟩
set_option maxRecDepth 20000 in
set_option maxHeartbeats 4000000 in
theorem sOuterFace_any (N E : List P2) (A B : Option Addr) (c c' : Nat) (w : World) (hw : WR w N E A B c c') :
    Calls Try.prog 60 #[.agg #[.slice A N.length c, .slice B E.length c']] w fun e w' => e = .returned (.int .i64 (outerI N E)) ∧ Ext w w' := by
  have HW := hide hw
  clear hw
  
  go_enter Try.func60, Try.ntmps60
  go_wp2_with fail
  obtain ⟨w0, hw⟩ : ∃ w1, w1 = w.alloc (Obj.cells #[Value.slice A N.length c, Value.slice B E.length c'] 27) := ⟨_, rfl⟩; rw [← hw]; have kT : Tr [(w.heap.size, [.slice A N.length c, .slice B E.length c'])] w w0 := (by rw [hw]; exact ⟨by (first | (simp [Bx, CellsAt, go_sem, *]; done) | (simp [Bx, CellsAt, go_sem, *]; omega)), by (repeat (first | exact kE | exact Ext.refl _ | apply Ext.alloc | apply Ext.drewN | apply Ext.drew | apply Ext.set0 | apply Ext.set1 | apply Ext.set2 | apply Ext.set3 | (refine Ext.setk ?_ (by omega) _) | (apply Ext.snoc; assumption)))⟩); have HT := hide kT; clear hw kT; have kT := HT.out; simp only [Tr, Bx, CellsAt, Nat.reduceAdd, Nat.zero_add, and_true] at kT; obtain ⟨⟨kz0, kf0, kc0_0, kc0_1⟩, kE⟩ := kT
  have HT0 := HT
  refine (sFacesOf_any N E A B c c' _ (HW.out.ext kE)).mono ?_
  rintro e w5 ⟨A2, c2, rfl, hRT, hc2, hb5⟩
  have HR := hide hRT
  have HE5 := hide (kE.trans hb5)
  have hl40 := fcs_len (N := N) (E := E)
  have HF := hide (fun k hk => fcs_at (N := N) (E := E) (k := k) hk)
  have HO1 := hide (fun k hk h hn => outer_at (N := N) (E := E) (k := k) hk h hn)
  have HO2 := hide (fun hn => outer_none (N := N) (E := E) hn)
  have HT := hide (HT0.out.ext hb5)
  clear hRT hb5
  clear kz0 kf0 kc0_0 kc0_1 kE
  have kT := HT.out; simp only [Tr, Bx, CellsAt, Nat.reduceAdd, Nat.zero_add, and_true] at kT; obtain ⟨⟨kz0, kf0, kc0_0, kc0_1⟩, kE⟩ := kT
  obtain ⟨F, hF⟩ : ∃ F, fcs N E = F := ⟨_, rfl⟩
  rw [hF] at HR hl40 HF HO1 HO2 hc2 ⊢
  clear hF
  go_wp2_with fail
  clear kz0 kf0 kc0_0 kc0_1 kE
  go_loopw [4] (fun i wi => ∃ k : Nat, k ≤ F.length ∧ i = .int .i64 k ∧ Hid (∀ j (hj : j < F.length), j < k → 0 < areaL N E F[j]) ∧ Hid (Ext w5 wi)) (fun i _ => F.length - (intOf i).toNat)
  case atStart => exact ⟨0, Nat.zero_le _, rfl, hide (fun j _ hj => absurd hj (by omega)), hide (Ext.refl _)⟩
  case round =>
    obtain ⟨k, hk, rfl, hz, HE⟩ := hrel
    have hE := HE.out
    have HT := hide (HT.out.ext hE); clear hE; have kT := HT.out; simp only [Tr, Bx, CellsAt, Nat.reduceAdd, Nat.zero_add, and_true] at kT; obtain ⟨⟨kz0, kf0, kc0_0, kc0_1⟩, kE⟩ := kT
    by_cases hlt : k < F.length
    · have hlz : (k : Int) < (F.length : Int) := by omega
      obtain ⟨b, off, Ai, ci, rfl, hb, ch, hci, hri⟩ := (HR.out.ext HE.out).at_ hlt
      obtain ⟨hok, hld, hl4, _, _⟩ := HF.out k hlt
      have HA1 := hide (show areaL N E F[k] ≤ 0 → outerI N E = k from fun h => HO1.out k hlt h hz.out)
      have HA2 := hide (show 0 < areaL N E F[k] → ∀ j (hj : j < F.length), j < k + 1 → 0 < areaL N E F[j] from fun h j hj hjk => by
        rcases Nat.lt_or_ge j k with a | a
        · exact hz.out j hj a
        · have e : j = k := by omega
          subst e
          exact h)
      have HC := hide (fun (W : World) (hE : Ext wr W) => l06Area_any N E A B Ai c c' ci F[k] W (HW.out.ext (kE.trans hE)) hok hld hl4 (hri.ext hE))
      obtain ⟨l, hl⟩ : ∃ l, F[k] = l := ⟨_, rfl⟩
      rw [hl] at HC HA1 HA2 ch
      clear hl hok hld hl4 hri hci
      obtain ⟨a, ha⟩ : ∃ a, areaL N E l = a := ⟨_, rfl⟩
      rw [ha] at HC HA1 HA2
      clear ha
      have qh := ExtBy.cell (W := wr) hb ch
      go_wp2_with fail
      have kq0_0 := ExtBy.cell (W := wr) kz0 kc0_0; have kq0_1 := ExtBy.cell (W := wr) kz0 kc0_1; refine wp_region_quietE (by kernel_rfl) (by kernel_rfl) ?_; (repeat (refine WQ.step (fun K hK => ?_); have HK := hide hK; clear hK; go_simp; refine HK.out _ ?_; clear HK K)); (refine WQ.step (fun K hK => ?_); have HK := hide hK; clear hK; go_simp; apply Exists.intro; refine ⟨fun _ => ?_, HK.out _ ?_⟩; (go_at_call 124; refine extby_of (HC.out _ (ExtBy.h _))); clear HK K); (repeat (refine WQ.step (fun K hK => ?_); have HK := hide hK; clear hK; go_simp; refine HK.out _ ?_; clear HK K)); refine WQ.done ?_; intro w7 hw'; obtain ⟨⟨_, hw7⟩, hw''⟩ := hw'; subst hw''; clear kq0_0 kq0_1; have HT := hide (HT.out.ext hw7); have Hw7 := hide hw7; clear hw7 kz0 kf0 kc0_0 kc0_1 kE; have kT := HT.out; simp only [Tr, Bx, CellsAt, Nat.reduceAdd, Nat.zero_add, and_true] at kT; obtain ⟨⟨kz0, kf0, kc0_0, kc0_1⟩, kE⟩ := kT
      clear qh ch
      have HE7 := hide (HE.out.trans Hw7.out)
      by_cases h0 : a ≤ 0
      · go_wp2_with fail
        go_ret
        exact ⟨ret_int (HA1.out h0).symm, kE⟩
      · have H0 := hide (show 0 < a by omega)
        go_wp2_with fail
        clear h0
        go_roundw
        case rel => exact ⟨k + 1, by omega, by go_num, hide (HA2.out H0.out), HE7⟩
        case measure => simp [intOf]; omega
    · obtain rfl : k = F.length := by omega
      go_wp2_with fail
      go_ret
      exact ⟨ret_int (HO2.out fun j hj => hz.out j hj hj).symm, kE⟩
set_option maxRecDepth 20000 in
set_option maxHeartbeats 4000000 in
theorem sAreaOf_any (N E : List P2) (A B : Option Addr) (c c' : Nat) (f : Int) (w : World) (hw : WR w N E A B c c') :
    Calls Try.prog 108 #[.agg #[.slice A N.length c, .slice B E.length c'], .int .i64 f] w fun e w' => e = .returned (.int .i64 (areaAt N E f)) ∧ Ext w w' := by
  have HW := hide hw
  clear hw
  
  go_enter Try.func108, Try.ntmps108
  go_wp2_with fail
  obtain ⟨w0, hw⟩ : ∃ w1, w1 = w.alloc (Obj.cells #[Value.slice A N.length c, Value.slice B E.length c'] 27) := ⟨_, rfl⟩; rw [← hw]; have kT : Tr [(w.heap.size, [.slice A N.length c, .slice B E.length c'])] w w0 := (by rw [hw]; exact ⟨by (first | (simp [Bx, CellsAt, go_sem, *]; done) | (simp [Bx, CellsAt, go_sem, *]; omega)), by (repeat (first | exact kE | exact Ext.refl _ | apply Ext.alloc | apply Ext.drewN | apply Ext.drew | apply Ext.set0 | apply Ext.set1 | apply Ext.set2 | apply Ext.set3 | (refine Ext.setk ?_ (by omega) _) | (apply Ext.snoc; assumption)))⟩); have HT := hide kT; clear hw kT; have kT := HT.out; simp only [Tr, Bx, CellsAt, Nat.reduceAdd, Nat.zero_add, and_true] at kT; obtain ⟨⟨kz0, kf0, kc0_0, kc0_1⟩, kE⟩ := kT
  have HT0 := HT
  refine (sFacesOf_any N E A B c c' _ (HW.out.ext kE)).mono ?_
  rintro e w5 ⟨A2, c2, rfl, hRT, hc2, hb5⟩
  have HR := hide hRT
  have HE5 := hide (kE.trans hb5)
  have hl40 := fcs_len (N := N) (E := E)
  have HF := hide (fun k hk => fcs_at (N := N) (E := E) (k := k) hk)
  have HA1 := hide (fun k hk => areaAt_yes (N := N) (E := E) (k := k) hk)
  have HA2 := hide (fun h => areaAt_no (N := N) (E := E) (f := f) h)
  have HT := hide (HT0.out.ext hb5)
  clear hRT hb5
  clear kz0 kf0 kc0_0 kc0_1 kE
  have kT := HT.out; simp only [Tr, Bx, CellsAt, Nat.reduceAdd, Nat.zero_add, and_true] at kT; obtain ⟨⟨kz0, kf0, kc0_0, kc0_1⟩, kE⟩ := kT
  obtain ⟨F, hF⟩ : ∃ F, fcs N E = F := ⟨_, rfl⟩
  rw [hF] at HR hl40 HF HA1 HA2 hc2 ⊢
  clear hF
  by_cases hf : 0 ≤ f ∧ f < (F.length : Int)
  · obtain ⟨k, rfl⟩ := Int.eq_ofNat_of_zero_le hf.1
    have hlt : k < F.length := by omega
    have hin : inR (k : Int) 0 ((F.length : Int) - 1) = true := by simp [inR]; omega
    have hlz : (k : Int) < (F.length : Int) := by omega
    obtain ⟨b, off, Ai, ci, rfl, hb, ch, hci, hri⟩ := HR.out.at_ hlt
    obtain ⟨hok, hld, hl4, ha1, ha2⟩ := HF.out k hlt
    have HV := hide (HA1.out k hlt)
    have HC := hide (fun (W : World) (hE : Ext w5 W) => l06Area_any N E A B Ai c c' ci F[k] W (HW.out.ext (kE.trans hE)) hok hld hl4 (hri.ext hE))
    obtain ⟨l, hl⟩ : ∃ l, F[k] = l := ⟨_, rfl⟩
    rw [hl] at HC HV ch ha1 ha2
    clear hl hok hld hl4 hri hci
    obtain ⟨a, ha⟩ : ∃ a, areaL N E l = a := ⟨_, rfl⟩
    rw [ha] at HC HV ha1 ha2
    clear ha hf
    have qh := ExtBy.cell (W := w5) hb ch
    go_wp2_with (first | (go_at_call 95; refine (l01In_any _ _ _ _).mono ?_; rintro e w' ⟨rfl, rfl⟩))
    have kq0_0 := ExtBy.cell (W := w5) kz0 kc0_0; have kq0_1 := ExtBy.cell (W := w5) kz0 kc0_1; refine wp_region_quietE (by kernel_rfl) (by kernel_rfl) ?_; (repeat (refine WQ.step (fun K hK => ?_); have HK := hide hK; clear hK; go_simp; refine HK.out _ ?_; clear HK K)); (refine WQ.step (fun K hK => ?_); have HK := hide hK; clear hK; go_simp; apply Exists.intro; refine ⟨fun _ => ?_, HK.out _ ?_⟩; (go_at_call 124; refine extby_of (HC.out _ (ExtBy.h _))); clear HK K); (repeat (refine WQ.step (fun K hK => ?_); have HK := hide hK; clear hK; go_simp; refine HK.out _ ?_; clear HK K)); refine WQ.done ?_; intro w7 hw'; obtain ⟨⟨_, hw7⟩, hw''⟩ := hw'; subst hw''; clear kq0_0 kq0_1; have HT := hide (HT.out.ext hw7); have Hw7 := hide hw7; clear hw7 kz0 kf0 kc0_0 kc0_1 kE; have kT := HT.out; simp only [Tr, Bx, CellsAt, Nat.reduceAdd, Nat.zero_add, and_true] at kT; obtain ⟨⟨kz0, kf0, kc0_0, kc0_1⟩, kE⟩ := kT
    clear qh ch
    have h1 : IntKind.i64.wrap (-a) = -a := by rw [IntKind.wrap_i64]; omega
    go_wp2_with fail
    all_goals (go_ret; exact ⟨ret_int (by rw [HV.out]; omega), kE⟩)
  · have hin : inR f 0 ((F.length : Int) - 1) = false := by simp [inR]; omega
    have HV := hide (HA2.out hf)
    clear hf
    go_wp2_with (first | (go_at_call 95; refine (l01In_any _ _ _ _).mono ?_; rintro e w' ⟨rfl, rfl⟩))
    go_ret
    exact ⟨ret_int HV.out.symm, kE⟩
end Go.Proofs.Ytkgbilbicdiadaa
