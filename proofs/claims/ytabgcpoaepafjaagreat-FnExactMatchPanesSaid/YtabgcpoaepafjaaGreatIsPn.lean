/- The walks of IsPane (both forms). No condition but that a list has at most 1048576 elements. -/
import Derived.Test.YtabgcpoaepafjaaGreatPaneN
import Derived.Test.YtabgcpoaepafjaaGreatHas
set_option linter.unusedSimpArgs false
set_option linter.unusedVariables false
namespace Go.Proofs.YtabgcpoaepafjaaGreat
open Go.RowKit

noncomputable def isPaneB (N E : List P2) (f : Int) : Bool := decide (0 < (paneV N E f).length) && (!decide (f = outerI N E) && decide (paneV N E f).Nodup)
theorem nodup_step {V : List Int} {k : Nat} (hk : k < V.length) (h : (V.take k).Nodup) (hn : hasL (V.take k) V[k] = false) : (V.take (k + 1)).Nodup := by
  rw [List.take_succ_eq_append_getElem hk, List.nodup_append]
  refine ⟨h, by simp, fun a ha b hb => ?_⟩
  simp only [List.mem_singleton] at hb
  subst hb
  rintro rfl
  rw [hasL_iff.2 ha] at hn
  cases hn
theorem nodup_no {V : List Int} {k : Nat} (hk : k < V.length) (hn : hasL (V.take k) V[k] = true) : ¬ V.Nodup := by
  intro h
  have h2 : (V.take (k + 1)).Nodup := h.sublist (List.take_sublist _ _)
  rw [List.take_succ_eq_append_getElem hk, List.nodup_append] at h2
  exact h2.2.2 _ (hasL_iff.1 hn) _ (by simp) rfl
theorem nodup_pair {V : List Int} {i k : Nat} (hk : k < V.length) (hi : i < k) (he : V[i]'(by omega) = V[k]) : ¬ V.Nodup := by
  exact fun h => (List.pairwise_iff_getElem.1 h) i k (by omega) hk hi he
theorem nodup_all {V : List Int} {k : Nat} (hk : k < V.length) (h : (V.take k).Nodup) (hn : ∀ i (hi : i < k), V[i]'(by omega) ≠ V[k]) : (V.take (k + 1)).Nodup := by
  refine nodup_step hk h ?_
  cases q : hasL (V.take k) V[k] with
  | false => rfl
  | true =>
    have := hasL_iff.1 q
    rw [List.mem_take_iff_getElem] at this
    obtain ⟨i, hi, e⟩ := this
    exact absurd e (hn i (by omega))
set_option maxRecDepth 20000 in
set_option maxHeartbeats 4000000 in
theorem IsPane_any (N E : List P2) (A B : Option Addr) (c c' : Nat) (f : Int) (w : World) (hw : WR w N E A B c c') :
    Calls Tryz.prog 50 #[.agg #[.slice A N.length c, .slice B E.length c'], .int .i64 f] w fun e w' => e = .returned (.bool (isPaneB N E f)) ∧ Ext w w' := by
  have HW := hide hw
  have HP := hide (fun (W : World) (hE : Ext w W) => PaneNodes_any N E A B c c' f W (hw.ext hE))
  have HOU := hide (fun (W : World) (hE : Ext w W) => OuterFace_any N E A B c c' W (hw.ext hE))
  have hvl := paneV_len (N := N) (E := E) (f := f)
  have HV := hide (show isPaneB N E f = (decide (0 < (paneV N E f).length) && (!decide (f = outerI N E) && decide (paneV N E f).Nodup)) from rfl)
  obtain ⟨V, hV⟩ : ∃ V, paneV N E f = V := ⟨_, rfl⟩
  obtain ⟨o, ho⟩ : ∃ o, outerI N E = o := ⟨_, rfl⟩
  obtain ⟨v, hv⟩ : ∃ v, isPaneB N E f = v := ⟨_, rfl⟩
  rw [hV, ho, hv] at HV
  rw [hV] at HP hvl
  rw [ho] at HOU
  rw [hv]
  clear hw hV ho hv
  
  have hnil : ∀ (w : World) (a : Option Addr) (n c : Nat), (binOp .eql 31 (.slice a n c) (.slice none 0 0)).run Tryz.prog w = .ok (.bool a.isNone) w := fun w a n c => Go.Lib.run_eql_slice_nil w _ _ a n c 0 0 Tryz.underlying31
  go_enter Tryz.func50, Tryz.ntmps50
  go_wp2_with fail
  obtain ⟨w0, hw⟩ : ∃ w1, w1 = w.alloc (Obj.cells #[Value.slice A N.length c, Value.slice B E.length c'] 27) := ⟨_, rfl⟩; rw [← hw]; have kT : Tr [(w.heap.size, [.slice A N.length c, .slice B E.length c'])] w w0 := (by rw [hw]; exact ⟨by (first | (simp [Bx, CellsAt, go_sem, *]; done) | (simp [Bx, CellsAt, go_sem, *]; omega)), by (repeat (first | exact kE | exact Ext.refl _ | apply Ext.alloc | apply Ext.drewN | apply Ext.drew | apply Ext.set0 | apply Ext.set1 | apply Ext.set2 | apply Ext.set3 | (refine Ext.setk ?_ (by omega) _) | (apply Ext.snoc; assumption)))⟩); have HT := hide kT; clear hw kT; have kT := HT.out; simp only [Tr, Bx, CellsAt, Nat.reduceAdd, Nat.zero_add, and_true] at kT; obtain ⟨⟨kz0, kf0, kc0_0, kc0_1⟩, kE⟩ := kT
  refine (HP.out _ kE).mono ?_
  rintro e w5 ⟨A2, c2, rfl, hn1, hn2, hown, hb5⟩
  have HO := hide hown
  have HT' := hide (HT.out.ext hb5)
  clear hown hb5 HT
  have HT := HT'
  clear HT'
  clear kz0 kf0 kc0_0 kc0_1 kE
  have kT := HT.out; simp only [Tr, Bx, CellsAt, Nat.reduceAdd, Nat.zero_add, and_true] at kT; obtain ⟨⟨kz0, kf0, kc0_0, kc0_1⟩, kE⟩ := kT
  have HE5 := hide kE
  cases A2 with
  | none =>
    have hl0 : V.length = 0 := hn1.1 rfl
    have hc0 := hn2 rfl
    subst hc0
    have HVF := hide (show v = false by rw [HV.out, hl0]; rfl)
    rw [hl0]
    clear hn1 hn2
    go_wp2_with fail
    go_ret
    exact ⟨ret_bool HVF.out.symm, HE5.out⟩
  | some a =>
    have hl0 : V.length ≠ 0 := fun h => by have := hn1.2 h; cases this
    obtain ⟨A', c9, e9, hcl, _, hA1⟩ := own_slice HO.out
    injection e9 with e9 _ e10
    subst e9 e10
    obtain ⟨g, rfl, _, _, _⟩ := hA1 a rfl
    clear hA1 hn1 hn2
    by_cases hfo : f = o
    · have HVF := hide (show v = false by rw [HV.out, decide_eq_true hfo]; simp)
      have q1 : (f == o) = true := by simp [hfo]
      clear hfo
      go_wp2_with fail
      refine (HOU.out _ kE).mono ?_
      rintro e w6 ⟨rfl, hb6⟩
      have HE6 := hide (HE5.out.trans hb6)
      clear hb6
      go_wp2_with fail
      go_ret
      exact ⟨ret_bool HVF.out.symm, HE6.out⟩
    · have HVN := hide (show v = decide V.Nodup by rw [HV.out, decide_eq_false hfo, decide_eq_true (show 0 < V.length by omega)]; simp)
      have q1 : (f == o) = false := by simp [hfo]
      clear hfo
      go_wp2_with fail
      refine (HOU.out _ kE).mono ?_
      rintro e w6 ⟨rfl, hb6⟩
      have HE6 := hide (HE5.out.trans hb6)
      have HO6 := hide (own_ext HO.out hb6)
      clear hb6
      clear kz0 kf0 kc0_0 kc0_1 kE
      clear HT
      go_wp2_with fail
      clear q1
      go_loopw [21] (fun i wr => ∃ k : Nat, k ≤ V.length ∧ i = .int .i64 k ∧ Hid ((V.take k).Nodup) ∧ Hid (wr = w6)) (fun i _ => V.length - (intOf i).toNat)
      case atStart => exact ⟨0, Nat.zero_le _, rfl, hide (by simp), hide rfl⟩
      case round =>
        obtain ⟨k, hk, rfl, HND, HWW⟩ := hrel
        obtain rfl := HWW.out
        clear HWW
        by_cases hlt : k < V.length
        · have hlz : (k : Int) < (V.length : Int) := by omega
          have hkc : (k : Int) ≤ (c2 : Int) := by omega
          have hkc2 : k ≤ c2 := by omega
          have hr := Rds.of_own HO6.out
          obtain ⟨b, off, e2, hb, hc⟩ := RI.at_ hr hlt
          injection e2 with e2
          injection e2 with e3 e4 _
          subst e3 e4
          have hrt := hr.take (k := k) (by omega)
          have hlen : (V.take k).length = k := by simp; omega
          have hri : RI wr (some ⟨g, 0, none⟩) (V.take k) := by
            have e : encI (V.take k) = (encI V).take (k * 1) := by simp [encI]
            unfold RI
            rw [hlen, e]
            exact hrt
          have hhas := hasInt_any (V.take k) (some ⟨g, 0, none⟩) c2 V[k] wr (by rw [hlen]; omega) hri
          rw [hlen] at hhas
          have HHAS := hide hhas
          have HST := hide (nodup_step hlt HND.out)
          have HNO := hide (nodup_no hlt)
          obtain ⟨x, hx⟩ : ∃ x, V[k] = x := ⟨_, rfl⟩
          rw [hx] at hc HHAS HST HNO
          obtain ⟨y, hy⟩ : ∃ y, hasL (V.take k) x = y := ⟨_, rfl⟩
          rw [hy] at HHAS HST HNO
          have hc' : wr.cell? ⟨g, k, none⟩ = some (.int .i64 x) := by rw [← hc]; simp
          clear hx hy hr hrt hri hhas hlen hc
          cases y with
          | true =>
            have HVF := hide (show v = false by rw [HVN.out]; exact decide_eq_false (HNO.out rfl))
            go_wp2_with (go_at_call 92; refine HHAS.out.mono ?_; rintro e w' ⟨rfl, rfl⟩)
            go_ret
            exact ⟨ret_bool HVF.out.symm, HE6.out⟩
          | false =>
            have HN2 := hide (HST.out rfl)
            go_wp2_with (go_at_call 92; refine HHAS.out.mono ?_; rintro e w' ⟨rfl, rfl⟩)
            clear hc'
            go_roundw
            case rel => exact ⟨k + 1, by omega, by go_num, HN2, by first | exact hide rfl | exact hide trivial⟩
            case measure => simp [intOf]; omega
        · obtain rfl : k = V.length := by omega
          have HVT := hide (show v = true by rw [HVN.out]; exact decide_eq_true (by have := HND.out; rw [List.take_length] at this; exact this))
          go_wp2_with fail
          go_ret
          exact ⟨ret_bool HVT.out.symm, HE6.out⟩
set_option maxRecDepth 20000 in
set_option maxHeartbeats 4000000 in
theorem sIsPane_any (N E : List P2) (A B : Option Addr) (c c' : Nat) (f : Int) (w : World) (hw : WR w N E A B c c') :
    Calls Tryz.prog 54 #[.agg #[.slice A N.length c, .slice B E.length c'], .int .i64 f] w fun e w' => e = .returned (.bool (isPaneB N E f)) ∧ Ext w w' := by
  have HW := hide hw
  have HP := hide (fun (W : World) (hE : Ext w W) => sPaneNodes_any N E A B c c' f W (hw.ext hE))
  have HOU := hide (fun (W : World) (hE : Ext w W) => sOuterFace_any N E A B c c' W (hw.ext hE))
  have hvl := paneV_len (N := N) (E := E) (f := f)
  have HV := hide (show isPaneB N E f = (decide (0 < (paneV N E f).length) && (!decide (f = outerI N E) && decide (paneV N E f).Nodup)) from rfl)
  obtain ⟨V, hV⟩ : ∃ V, paneV N E f = V := ⟨_, rfl⟩
  obtain ⟨o, ho⟩ : ∃ o, outerI N E = o := ⟨_, rfl⟩
  obtain ⟨v, hv⟩ : ∃ v, isPaneB N E f = v := ⟨_, rfl⟩
  rw [hV, ho, hv] at HV
  rw [hV] at HP hvl
  rw [ho] at HOU
  rw [hv]
  clear hw hV ho hv
  
  go_enter Tryz.func54, Tryz.ntmps54
  go_wp2_with fail
  obtain ⟨w0, hw⟩ : ∃ w1, w1 = w.alloc (Obj.cells #[Value.slice A N.length c, Value.slice B E.length c'] 27) := ⟨_, rfl⟩; rw [← hw]; have kT : Tr [(w.heap.size, [.slice A N.length c, .slice B E.length c'])] w w0 := (by rw [hw]; exact ⟨by (first | (simp [Bx, CellsAt, go_sem, *]; done) | (simp [Bx, CellsAt, go_sem, *]; omega)), by (repeat (first | exact kE | exact Ext.refl _ | apply Ext.alloc | apply Ext.drewN | apply Ext.drew | apply Ext.set0 | apply Ext.set1 | apply Ext.set2 | apply Ext.set3 | (refine Ext.setk ?_ (by omega) _) | (apply Ext.snoc; assumption)))⟩); have HT := hide kT; clear hw kT; have kT := HT.out; simp only [Tr, Bx, CellsAt, Nat.reduceAdd, Nat.zero_add, and_true] at kT; obtain ⟨⟨kz0, kf0, kc0_0, kc0_1⟩, kE⟩ := kT
  refine (HP.out _ kE).mono ?_
  rintro e w5 ⟨A2, c2, rfl, hown, hb5⟩
  have HO := hide hown
  have HT' := hide (HT.out.ext hb5)
  clear hown hb5 HT
  have HT := HT'
  clear HT'
  clear kz0 kf0 kc0_0 kc0_1 kE
  have kT := HT.out; simp only [Tr, Bx, CellsAt, Nat.reduceAdd, Nat.zero_add, and_true] at kT; obtain ⟨⟨kz0, kf0, kc0_0, kc0_1⟩, kE⟩ := kT
  have HE5 := hide kE
  have HTZ := HT
  go_wp2_with fail
  clear kz0 kf0 kc0_0 kc0_1 kE
  clear HT
  go_loopw [6] (fun i wr => ∃ k : Nat, k ≤ V.length ∧ i = .int .i64 k ∧ Hid ((V.take k).Nodup) ∧ Hid (Ext w5 wr)) (fun i _ => V.length - (intOf i).toNat)
  case atStart => exact ⟨0, Nat.zero_le _, rfl, hide (by simp), hide (Ext.refl _)⟩
  case round =>
    obtain ⟨k, hk, rfl, HND, HG⟩ := hrel
    by_cases hlt : k < V.length
    · have hlz : (k : Int) < (V.length : Int) := by omega
      have hr := Rds.of_own (own_ext HO.out HG.out)
      have HRR := hide (Rds.of_own HO.out)
      obtain ⟨b, off, rfl, hb, hc⟩ := RI.at_ hr hlt
      have HNA := hide (nodup_all hlt HND.out)
      have HNP := hide (fun i hi he => nodup_pair (i := i) hlt hi he)
      have HCK := hide hc
      obtain ⟨wo, rfl⟩ : ∃ wo : World, wo = wr := ⟨_, rfl⟩
      clear hr hc
      go_wp2_with fail
      go_loopw [7] (fun i wi => ∃ j : Nat, j ≤ k ∧ i = .int .i64 j ∧ Hid (∀ a (ha : a < k), a < j → V[a]'(by omega) ≠ V[k]) ∧ Hid (Ext wo wi)) (fun i _ => k - (intOf i).toNat)
      case atStart => exact ⟨0, Nat.zero_le _, rfl, hide (fun a _ h => absurd h (Nat.not_lt_zero a)), hide (Ext.refl _)⟩
      case round =>
        obtain ⟨j, hj, rfl, HJ, HG2⟩ := hrel
        by_cases hltj : j < k
        · have hlj : (j : Int) < (k : Int) := by omega
          have hjl : (j : Int) < (V.length : Int) := by omega
          have hjV : j < V.length := by omega
          have ck := (HG2.out.facts.1 _ _ hb).trans HCK.out
          obtain ⟨b2, off2, e2, hb2, cj⟩ := RI.at_ (HRR.out.ext (HG.out.trans HG2.out)) hjV
          injection e2 with e2
          injection e2 with e3 e4 _
          subst e3 e4
          have HJN := hide (fun (hne : V[j] ≠ V[k]) => (show ∀ a (ha : a < k), a < j + 1 → V[a]'(by omega) ≠ V[k] from fun a ha haj => by
            by_cases e : a = j
            · subst e; exact hne
            · exact HJ.out a ha (by omega)))
          have HJP := hide (HNP.out j hltj)
          have HNX := hide (show ∀ x y, V[j] = x → V[k] = y → wr.cell? ⟨b, off + j, none⟩ = some (.int .i64 x) ∧ wr.cell? ⟨b, off + k, none⟩ = some (.int .i64 y) from fun x y h1 h2 => by rw [← h1, ← h2]; exact ⟨cj, ck⟩)
          by_cases he : V[j] = V[k]
          · have HVF := hide (show v = false by rw [HV.out, decide_eq_false (HJP.out he)]; simp)
            obtain ⟨x, hx⟩ : ∃ x, V[k] = x := ⟨_, rfl⟩
            obtain ⟨q1, q2⟩ := HNX.out x x (he.trans hx) hx
            have qj := ExtBy.cell (W := wr) hb2 q1
            have qk := ExtBy.cell (W := wr) hb2 q2
            clear hx he cj ck HNX
            
            go_wp2_with fail
            refine wp_region_quietE (by kernel_rfl) (by kernel_rfl) ?_; (repeat (refine WQ.step (fun K hK => ?_); have HK := hide hK; clear hK; go_simp; refine HK.out _ ?_; clear HK K)); refine WQ.done ?_; intro w9 hw'; obtain ⟨⟨_, hw9⟩, hw''⟩ := hw'; subst hw''
            have HE9 := hide (HE5.out.trans (HG.out.trans (HG2.out.trans hw9)))
            clear hw9 qj qk q1 q2
            go_wp2_with fail
            go_ret
            exact ⟨ret_bool HVF.out.symm, HE9.out⟩
          · have HJJ := hide (HJN.out he)
            obtain ⟨x, hx⟩ : ∃ x, V[j] = x := ⟨_, rfl⟩
            obtain ⟨y, hy⟩ : ∃ y, V[k] = y := ⟨_, rfl⟩
            obtain ⟨q1, q2⟩ := HNX.out x y hx hy
            have hxy : (x == y) = false := by rw [← hx, ← hy]; simp [he]
            have qj := ExtBy.cell (W := wr) hb2 q1
            have qk := ExtBy.cell (W := wr) hb2 q2
            clear hx hy he cj ck HNX
            
            go_wp2_with fail
            refine wp_region_quietE (by kernel_rfl) (by kernel_rfl) ?_; (repeat (refine WQ.step (fun K hK => ?_); have HK := hide hK; clear hK; go_simp; refine HK.out _ ?_; clear HK K)); refine WQ.done ?_; intro w9 hw'; obtain ⟨⟨_, hw9⟩, hw''⟩ := hw'; subst hw''
            have HE9 := hide (HG2.out.trans hw9)
            clear hw9 qj qk q1 q2
            go_wp2_with fail
            clear hxy
            go_roundw
            case rel => exact ⟨j + 1, by omega, by go_num, HJJ, HE9⟩
            case measure => simp [intOf]; omega
        · obtain rfl : k = j := by omega
          have HN2 := hide (HNA.out fun i hi => HJ.out i hi hi)
          have HE9 := hide (HG.out.trans HG2.out)
          go_wp2_with fail
          go_roundw
          case rel => exact ⟨k + 1, by omega, by go_num, HN2, HE9⟩
          case measure => simp [intOf]; omega
    · obtain rfl : k = V.length := by omega
      have HVV := hide (show v = (decide (0 < V.length) && !decide (f = o)) by
        have := HND.out
        rw [List.take_length] at this
        rw [HV.out, decide_eq_true this, Bool.and_true])
      have HT := hide (HTZ.out.ext HG.out)
      have kT := HT.out; simp only [Tr, Bx, CellsAt, Nat.reduceAdd, Nat.zero_add, and_true] at kT; obtain ⟨⟨⟩, kE⟩ := kT
      have HX := hide kE
      by_cases hl0 : 0 < V.length
      · have hlz : decide ((V.length : Int) > 0) = true := decide_eq_true (by omega)
        have hlz2 : decide (V.length > 0) = true := decide_eq_true (by omega)
        have hlz3 : decide (0 < V.length) = true := decide_eq_true hl0
        have HV2 := hide (show v = !decide (f = o) by rw [HVV.out, hlz3, Bool.true_and])
        have HOUC := hide (HOU.out _ kE)
        by_cases hfo : f = o
        · have q1 : (f != o) = false := by simp [hfo]
          have HV3 := hide (show v = false by rw [HV2.out, decide_eq_true hfo]; rfl)
          clear hfo hl0
          go_wp2_with fail
          refine HOUC.out.mono ?_
          rintro e w6 ⟨rfl, hb6⟩
          have HE6 := hide (HX.out.trans hb6)
          clear hb6
          go_wp2_with fail
          go_ret
          exact ⟨ret_bool HV3.out.symm, HE6.out⟩
        · have q1 : (f != o) = true := by simp [hfo]
          have HV3 := hide (show v = true by rw [HV2.out, decide_eq_false hfo]; rfl)
          clear hfo hl0
          go_wp2_with fail
          refine HOUC.out.mono ?_
          rintro e w6 ⟨rfl, hb6⟩
          have HE6 := hide (HX.out.trans hb6)
          clear hb6
          go_wp2_with fail
          go_ret
          exact ⟨ret_bool HV3.out.symm, HE6.out⟩
      · have hlz : decide ((V.length : Int) > 0) = false := decide_eq_false (by omega)
        have hlz2 : decide (V.length > 0) = false := decide_eq_false (by omega)
        have HV3 := hide (show v = false by rw [HVV.out, decide_eq_false hl0]; rfl)
        clear hl0
        go_wp2_with fail
        go_ret
        exact ⟨ret_bool HV3.out.symm, HX.out⟩
end Go.Proofs.YtabgcpoaepafjaaGreat
