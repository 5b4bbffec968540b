/- The walk of the reference's IsWhole. No condition but that a list has at most 1048576 elements. -/
import Derived.Test.YtkgbilbicdiadaaWhole
import Derived.Test.YtkgbilbicdiadaaAround
set_option linter.unusedSimpArgs false
set_option linter.unusedVariables false
namespace Go.Proofs.Ytkgbilbicdiadaa
open Go.RowKit

def midU (L : List Int) (a b : Int) (i : Nat) : List Int := (uniteL L a b).take i ++ L.drop i
theorem uniteL_length (L : List Int) (a b : Int) : (uniteL L a b).length = L.length := by simp [uniteL]
theorem midU_length (L : List Int) (a b : Int) {i : Nat} (h : i ≤ L.length) : (midU L a b i).length = L.length := by
  unfold midU
  rw [List.length_append, List.length_take, List.length_drop, uniteL_length]
  omega
theorem midU_at (L : List Int) (a b : Int) {i : Nat} (h : i < L.length) : (midU L a b i)[i]? = some L[i] := by
  unfold midU
  rw [List.getElem?_append_right (by rw [List.length_take, uniteL_length]; omega), List.length_take, uniteL_length, List.getElem?_drop]
  have : i + (i - min i L.length) = i := by omega
  rw [this]
  simp [h]
theorem midU_next (L : List Int) (a b : Int) {i : Nat} (h : i < L.length) : midU L a b (i + 1) = (midU L a b i).set i (if L[i] = max a b then min a b else L[i]) := by
  have hu : (uniteL L a b)[i]'(by rw [uniteL_length]; exact h) = if L[i] = max a b then min a b else L[i] := by simp [uniteL]
  unfold midU
  rw [List.take_succ_eq_append_getElem (by rw [uniteL_length]; exact h), hu]
  have hl : (List.take i (uniteL L a b)).length = i := by rw [List.length_take, uniteL_length]; omega
  generalize (if L[i] = max a b then min a b else L[i]) = q
  rw [List.set_append, hl, if_neg (Nat.lt_irrefl i), Nat.sub_self, List.drop_eq_getElem_cons h, List.set_cons_zero, List.append_assoc]
  rfl
theorem set_same {l : List Int} {i : Nat} {v : Int} (h : l[i]? = some v) : l.set i v = l := by
  apply List.ext_getElem?
  intro k
  by_cases hk : i = k
  · subst hk
    rw [List.getElem?_set_self (by exact (List.getElem?_eq_some_iff.1 h).1), h]
  · rw [List.getElem?_set_ne hk]
theorem midU_zero (L : List Int) (a b : Int) : midU L a b 0 = L := by simp [midU]
theorem midU_end (L : List Int) (a b : Int) : midU L a b L.length = uniteL L a b := by
  unfold midU
  rw [List.take_of_length_le (by rw [uniteL_length]; exact Nat.le_refl _)]
  simp
theorem own_cellI {w : World} {B g n c k : Nat} {T : TypeId} {L : List Int} {v : Int} (h : w.ownsRow B T 1 (.slice (some ⟨g, 0, none⟩) n c) n (encI L)) (hL : L.length = n) (hk : L[k]? = some v) : w.cell? ⟨g, k, none⟩ = some (.int .i64 v) := by
  have hlt : k < L.length := (List.getElem?_eq_some_iff.1 hk).1
  rw [h.cellAt k (by omega)]
  simp [encI, hk]
theorem encI_set (l : List Int) (i : Nat) (v : Int) : encI (l.set i v) = (encI l).set i (.int .i64 v) := by simp [encI, List.map_set]
set_option maxRecDepth 20000 in
set_option maxHeartbeats 4000000 in
theorem l07Parts_any (N E : List P2) (A B : Option Addr) (c c' : Nat) (w : World) (hw : WR w N E A B c c') (hok : WinOk N E) :
    Calls Try.prog 96 #[.agg #[.slice A N.length c, .slice B E.length c']] w fun e w' => ∃ g c2, e = .returned (.slice (some ⟨g, 0, none⟩) N.length c2) ∧ w'.ownsRow w.heap.size 3 1 (.slice (some ⟨g, 0, none⟩) N.length c2) N.length (encI (partsTo E N.length E.length)) ∧ Ext w w' := by
  obtain ⟨i0, hi, hz0, hz1, hz2⟩ := info_parts int_info
  have HW := hide hw
  have HK := hide hok
  have hn := hok.n
  have hm := hok.m
  clear hw hok
  
  go_enter Try.func96, Try.ntmps96
  go_wp2_with fail
  obtain ⟨w0, hw⟩ : ∃ w1, w1 = w.alloc (Obj.cells #[Value.slice A N.length c, Value.slice B E.length c'] 27) := ⟨_, rfl⟩
  rw [← hw]
  have hsz0 : w0.heap.size = w.heap.size + 1 := by rw [hw]; simp
  have HT := hide (show Tr [(w.heap.size, [.slice A N.length c, .slice B E.length c'])] w w0 from by rw [hw]; exact ⟨by simp [Bx, CellsAt, go_sem, *], by repeat (first | exact kE | exact Ext.refl _ | apply Ext.alloc | apply Ext.drewN | apply Ext.drew | apply Ext.set0 | apply Ext.set1 | apply Ext.set2 | apply Ext.set3 | (refine Ext.setk ?_ (by omega) _) | (apply Ext.snoc; assumption))⟩)
  clear hw
  rw [← hsz0]
  have HSZ := hide hsz0
  clear hsz0
  have kT := HT.out; simp only [Tr, Bx, CellsAt, Nat.reduceAdd, Nat.zero_add, and_true] at kT; obtain ⟨⟨kz0, kf0, kc0_0, kc0_1⟩, kE⟩ := kT
  have HW0 := hide kE
  have HT0 := HT
  clear HT
  clear kz0 kf0 kc0_0 kc0_1 kE
  go_loopw [3, 4] (fun v i wr => ∃ k : Nat, k ≤ N.length ∧ i = .int .i64 k ∧ Hid (wr.ownsRow w0.heap.size 3 1 v k (encI ((List.range k).map fun i : Nat => (i : Int)))) ∧ Hid (Ext w0 wr)) (fun _ i _ => N.length - (intOf i).toNat)
  case atStart => exact ⟨0, Nat.zero_le _, rfl, hide (World.ownsRow_lit w0 #[] 0 (Nat.le_refl _) (Nat.zero_le _) rfl), hide ((Ext.refl _).alloc _)⟩
  case round =>
    obtain ⟨k, hk, rfl, HO, HE⟩ := hrel
    have HT := hide (HT0.out.ext HE.out)
    have kT := HT.out; simp only [Tr, Bx, CellsAt, Nat.reduceAdd, Nat.zero_add, and_true] at kT; obtain ⟨⟨kz0, kf0, kc0_0, kc0_1⟩, kE⟩ := kT
    by_cases hlt : k < N.length
    · have hlz : (k : Int) < (N.length : Int) := by omega
      have hsz3 := HE.out.size
      have HD := hide (show encI ((List.range (k + 1)).map fun i : Nat => (i : Int)) = encI ((List.range k).map fun i : Nat => (i : Int)) ++ [.int .i64 (k : Int)] by rw [List.range_succ, List.map_append, encI_append]; rfl)
      go_wp2_with (at_builtin; refine wpList_append_own _ rfl _ _ 29 rfl w0.heap.size 3 i0 (.int .i64 0) 1 8 Try.underlying29 hi hz0 hz1 hz2 rfl (by decide) u3 k (encI ((List.range k).map fun i : Nat => (i : Int))) rfl (own_ext HO.out ((Ext.refl _).alloc _)) ⟨wr.heap.size, 0, none⟩ 1 1 [.int .i64 (k : Int)] rfl rfl (news_new wr #[.int .i64 (k : Int)] 3) (one_cell _) (by unfold maxLen; omega) (by omega) (by first | (simp; done) | (simp; omega)) ?_; intro v' w4 hown4 hgrow4 hnil)
      have E4 := hide (Ext.grown (HE.out.alloc _) hgrow4 (own_base HO.out (Nat.le_refl _)))
      have HO4 := hide hown4
      clear hown4 hgrow4 hnil
      go_roundw
      case rel => exact ⟨k + 1, by omega, by go_num, hide (by rw [HD.out]; exact HO4.out), E4⟩
      case measure => simp [intOf]; omega
    · obtain rfl : k = N.length := by omega
      have hlz : ¬ ((N.length : Nat) : Int) < (N.length : Int) := by omega
      obtain ⟨A0, c2, rfl, hc2, hA0, hA1⟩ := own_slice HO.out
      cases A0 with
      | none => exact absurd (hA0 rfl) (by omega)
      | some a0 =>
        obtain ⟨g, rfl, hgB, _, _⟩ := hA1 a0 rfl
        have HGB := hide hgB
        clear hA0 hA1 HT hgB
        have HO0 := HO
        have HE0 := HE
        obtain ⟨wm, rfl⟩ : ∃ wm : World, wm = wr := ⟨_, rfl⟩
        go_wp2_with fail
        clear kz0 kf0 kc0_0 kc0_1 kE
        go_loopw [5] (fun i wi => ∃ k : Nat, k ≤ E.length ∧ i = .int .i64 k ∧ Hid (wi.ownsRow w0.heap.size 3 1 (.slice (some ⟨g, 0, none⟩) N.length c2) N.length (encI (partsTo E N.length k))) ∧ Hid (Ext w0 wi)) (fun i _ => E.length - (intOf i).toNat)
        case atStart => exact ⟨0, Nat.zero_le _, rfl, HO0, HE0⟩
        case round =>
          clear HO HE HO0 HE0
          obtain ⟨k, hk, rfl, HO, HE⟩ := hrel
          have HT := hide (HT0.out.ext HE.out)
          have kT := HT.out; simp only [Tr, Bx, CellsAt, Nat.reduceAdd, Nat.zero_add, and_true] at kT; obtain ⟨⟨kz0, kf0, kc0_0, kc0_1⟩, kE⟩ := kT
          by_cases hlt : k < E.length
          · obtain ⟨b, off, rfl, hb, e0, e1⟩ := R2.at_ (HW.out.hs.ext kE) hlt
            obtain ⟨f, t, hft, hf, ht⟩ := HK.out.lead_nat hlt
            rw [at2_eq hlt] at hft
            have HFT := hide (show at2 E k = ((f : Int), (t : Int)) by rw [at2_eq hlt, hft])
            rw [hft] at e0 e1
            dsimp only at e0 e1
            clear hft
            have y2 : (k : Int) < (E.length : Int) := by omega
            have y3 : (f : Int) < (N.length : Int) := by omega
            have y4 : (t : Int) < (N.length : Int) := by omega
            have hl := parts_length E N.length k
            have HN := hide (show partsTo E N.length (k + 1) = uniteL (partsTo E N.length k) ((partsTo E N.length k).getD f 0) ((partsTo E N.length k).getD t 0) by simp [partsTo, HFT.out])
            obtain ⟨L, hL⟩ : ∃ L, partsTo E N.length k = L := ⟨_, rfl⟩
            rw [hL] at hl HO HN
            obtain ⟨x, hx⟩ : ∃ x, L.getD f 0 = x := ⟨_, rfl⟩
            obtain ⟨y, hy⟩ : ∃ y, L.getD t 0 = y := ⟨_, rfl⟩
            rw [hx, hy] at HN
            have cf := own_cellI (k := f) (v := x) HO.out hl (by rw [← hx]; simp [show f < L.length by omega])
            have ct := own_cellI (k := t) (v := y) HO.out hl (by rw [← hy]; simp [show t < L.length by omega])
            have HLL := hide hl
            clear hL hx hy hl
            
            go_wp2_with fail
            clear cf ct e0 e1 HT
            clear kz0 kf0 kc0_0 kc0_1 kE
            go_loopw [8] (fun i wi => ∃ j : Nat, j ≤ N.length ∧ i = .int .i64 j ∧ Hid (wi.ownsRow w0.heap.size 3 1 (.slice (some ⟨g, 0, none⟩) N.length c2) N.length (encI (midU L x y j))) ∧ Hid (Ext w0 wi)) (fun i _ => N.length - (intOf i).toNat)
            case atStart => exact ⟨0, Nat.zero_le _, rfl, hide (by rw [midU_zero]; exact HO.out), HE⟩
            case round =>
              clear HO HE
              obtain ⟨j, hj, rfl, HO, HE⟩ := hrel
              by_cases hlt2 : j < N.length
              · have hlz : (j : Int) < (N.length : Int) := by omega
                have hjl : j < L.length := by have := HLL.out; omega
                have cj := own_cellI HO.out (by rw [midU_length _ _ _ (by omega)]; exact HLL.out) (midU_at L x y hjl)
                have HM := hide (midU_next L x y hjl)
                have HAT := midU_at L x y hjl
                obtain ⟨v, hv⟩ : ∃ v, L[j] = v := ⟨_, rfl⟩
                rw [hv] at cj HM HAT
                have HAT := hide HAT
                clear hv
                have fj := HO.out.frozenAt j
                have hgl := (own_ltg HO.out).2
                have hmx : (if x < y then y else x) = max x y := by split <;> omega
                have hmn : (if y < x then y else x) = min x y := by split <;> omega
                have HMX := hide hmx
                have HMN := hide hmn
                clear hmx hmn
                cases hbv : (v == if x < y then y else x) with
                | true =>
                  have HBV := hide (show v = max x y by rw [← HMX.out]; exact eq_of_beq hbv)
                  go_wp2_with fail
                  clear hbv
                  have hst := HO.out.stored j (.int .i64 (if y < x then y else x))
                  have hE5 := hide (HE.out.setk (k := g) (o := j) (s := none) (by have := HGB.out; omega) (.int .i64 (if y < x then y else x)))
                  have HO5 := hide (show (wr.setCell ⟨g, j, none⟩ (.int .i64 (if y < x then y else x))).ownsRow w0.heap.size 3 1 (.slice (some ⟨g, 0, none⟩) N.length c2) N.length (encI (midU L x y (j + 1))) from by
                    rw [HM.out, if_pos HBV.out, encI_set, ← HMN.out]
                    exact hst.1)
                  clear hst
                  go_roundw
                  case rel => exact ⟨j + 1, by omega, by go_num, HO5, hE5⟩
                  case measure => simp [intOf]; omega
                | false =>
                  have HBV := hide (show v ≠ max x y by rw [← HMX.out]; intro e; rw [← e] at hbv; simp at hbv)
                  go_wp2_with fail
                  clear hbv
                  have HO5 := hide (show wr.ownsRow w0.heap.size 3 1 (.slice (some ⟨g, 0, none⟩) N.length c2) N.length (encI (midU L x y (j + 1))) from by
                    have e : midU L x y (j + 1) = midU L x y j := by
                      rw [HM.out, if_neg HBV.out]
                      exact set_same HAT.out
                    rw [e]
                    exact HO.out)
                  go_roundw
                  case rel => exact ⟨j + 1, by omega, by go_num, HO5, HE⟩
                  case measure => simp [intOf]; omega
              · obtain rfl : j = N.length := by omega
                have hlz : ¬ ((N.length : Nat) : Int) < (N.length : Int) := by omega
                have HO2 := hide (show wr.ownsRow w0.heap.size 3 1 (.slice (some ⟨g, 0, none⟩) N.length c2) N.length (encI (partsTo E N.length (k + 1))) from by
                  have h := HO.out
                  rw [HN.out]
                  have e : N.length = L.length := HLL.out.symm
                  have e2 : midU L x y N.length = uniteL L x y := by rw [e]; exact midU_end L x y
                  rw [e2] at h
                  exact h)
                go_wp2_with fail
                go_roundw
                case rel => exact ⟨k + 1, by omega, by go_num, HO2, HE⟩
                case measure => simp [intOf]; omega
          · obtain rfl : k = E.length := by omega
            
            go_wp2_with fail
            go_ret
            exact ⟨g, c2, rfl, own_mono HO.out HW0.out.size, HW0.out.trans HE.out⟩
set_option maxRecDepth 20000 in
set_option maxHeartbeats 4000000 in
theorem sIsWhole_any (N E : List P2) (A B : Option Addr) (c c' : Nat) (w : World) (hw : WR w N E A B c c') :
    Calls Try.prog 30 #[.agg #[.slice A N.length c, .slice B E.length c']] w fun e w' => e = .returned (.bool (wholeB N E)) ∧ Ext w w' := by
  have hEl := hw.hE
  have hNl := hw.hN
  have HW := hide hw
  clear hw
  
  go_enter Try.func30, Try.ntmps30
  go_wp2_with fail
  obtain ⟨w0, hw⟩ : ∃ w1, w1 = w.alloc (Obj.cells #[Value.slice A N.length c, Value.slice B E.length c'] 27) := ⟨_, rfl⟩; rw [← hw]; have kT : Tr [(w.heap.size, [.slice A N.length c, .slice B E.length c'])] w w0 := (by rw [hw]; exact ⟨by (first | (simp [Bx, CellsAt, go_sem, *]; done) | (simp [Bx, CellsAt, go_sem, *]; omega)), by (repeat (first | exact kE | exact Ext.refl _ | apply Ext.alloc | apply Ext.drewN | apply Ext.drew | apply Ext.set0 | apply Ext.set1 | apply Ext.set2 | apply Ext.set3 | (refine Ext.setk ?_ (by omega) _) | (apply Ext.snoc; assumption)))⟩); have HT := hide kT; clear hw kT; have kT := HT.out; simp only [Tr, Bx, CellsAt, Nat.reduceAdd, Nat.zero_add, and_true] at kT; obtain ⟨⟨kz0, kf0, kc0_0, kc0_1⟩, kE⟩ := kT
  obtain ⟨v, hv⟩ : ∃ v, windowB N E = v := ⟨_, rfl⟩
  have HC := sWindowOk_any N E A B c c' w0 HW.out.hN HW.out.hE HW.out.hc HW.out.hd (HW.out.hr.ext kE) (HW.out.hs.ext kE)
  rw [hv] at HC
  have HV := hide hv
  clear hv
  refine (HC).mono ?_; rintro e w3 ⟨rfl, hb⟩; have HT := hide (HT.out.ext hb); have Hw3 := hide hb; clear hb; clear kz0 kf0 kc0_0 kc0_1 kE; have kT := HT.out; simp only [Tr, Bx, CellsAt, Nat.reduceAdd, Nat.zero_add, and_true] at kT; obtain ⟨⟨kz0, kf0, kc0_0, kc0_1⟩, kE⟩ := kT
  cases v with
  | false =>
    go_wp2_with fail
    go_ret
    exact ⟨ret_bool (by rw [wholeB_no]; intro h; have := windowB_iff.2 h.1; rw [HV.out] at this; cases this), HT.out.2⟩
  | true =>
    have HK := hide (windowB_iff.1 HV.out)
    by_cases hm : 0 < E.length
    · have hm1 : ((E.length : Int) == 0) = false := by simp; intro e; rw [e] at hm; simp at hm
      have hm2 : (E.length == 0) = false := by simp; intro e; rw [e] at hm; simp at hm
      have hn12 := HK.out.n
      have HP := l07Parts_any N E A B c c' _ (HW.out.ext kE) HK.out
      have HM := hide hm
      go_wp2_with (go_at_call 96; refine HP.mono ?_; rintro e w5 ⟨g, c2, rfl, hown, hb5⟩)
      have HO := hide hown
      have HE5 := hide (kE.trans hb5)
      have HS := hide (whole_parts (E := E) (by omega : 0 < N.length) HK.out.ends_lt)
      clear hown hb5 hm hm1 hm2
      have hl := parts_length E N.length E.length
      obtain ⟨L, hL⟩ : ∃ L, partsTo E N.length E.length = L := ⟨_, rfl⟩
      rw [hL] at hl HO HS
      have HLL := hide hl
      clear hL hl
      clear kz0 kf0 kc0_0 kc0_1 kE
      go_loopw [4] (fun i wi => ∃ j : Nat, j ≤ N.length ∧ i = .int .i64 j ∧ Hid (∀ i, i < j → L.getD i 0 = 0) ∧ wi = w5) (fun i _ => N.length - (intOf i).toNat)
      case atStart => exact ⟨0, Nat.zero_le _, rfl, hide (fun i hi => absurd hi (by omega)), rfl⟩
      case round =>
        obtain ⟨j, hj, rfl, hz, rfl⟩ := hrel
        by_cases hlt : j < N.length
        · have hlz : (j : Int) < (N.length : Int) := by omega
          have hjl : j < L.length := by have := HLL.out; omega
          have cj := own_cellI (k := j) (v := L[j]) HO.out HLL.out (by simp [hjl])
          have HG := hide (show L.getD j 0 = L[j] by simp [hjl])
          obtain ⟨v, hv⟩ : ∃ v, L[j] = v := ⟨_, rfl⟩
          rw [hv] at cj HG
          clear hv
          by_cases hv0 : v = 0
          · subst hv0
            go_wp2_with fail
            go_roundw
            case rel => exact ⟨j + 1, by omega, by go_num, hide (fun i hi => by
              rcases Nat.lt_or_ge i j with a | a
              · exact hz.out i a
              · have e : i = j := by omega
                subst e
                exact HG.out), trivial⟩
            case measure => simp [intOf]; omega
          · have hb : (v != 0) = true := by simp; exact hv0
            have HV0 := hide hv0
            clear hv0
            go_wp2_with fail
            go_ret
            exact ⟨ret_bool (by rw [wholeB_no]; intro h; have := HS.out.2 h.2.2 j hlt; rw [HG.out] at this; exact HV0.out this), HE5.out⟩
        · obtain rfl : j = N.length := by omega
          go_wp2_with fail
          go_ret
          exact ⟨ret_bool (by rw [eq_comm, wholeB_iff]; exact ⟨HK.out, HM.out, HS.out.1 hz.out⟩), HE5.out⟩
    · have hm0 : E.length = 0 := by omega
      have hm1 : ((E.length : Int) == 0) = true := by simp; exact List.length_eq_zero_iff.1 hm0
      have hm2 : (E.length == 0) = true := by simp; exact List.length_eq_zero_iff.1 hm0
      have HM := hide hm
      clear hm hm0
      go_wp2_with fail
      go_ret
      exact ⟨ret_bool (by rw [wholeB_no]; intro h; exact HM.out h.2.1), HT.out.2⟩
end Go.Proofs.Ytkgbilbicdiadaa
