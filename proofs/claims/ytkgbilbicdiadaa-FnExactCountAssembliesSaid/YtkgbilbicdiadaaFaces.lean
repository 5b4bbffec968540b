/- Plain law on the faces of a window, and words for what has been seen. No condition. -/
import Derived.Test.YtkgbilbicdiadaaIns
import Derived.Test.YtkgbilbicdiadaaWhole
import Derived.Test.YtkgbilbicdiadaaWalk
set_option linter.unusedSimpArgs false
set_option linter.unusedVariables false
namespace Go.Proofs.Ytkgbilbicdiadaa
open Go.RowKit

noncomputable def fcs (N E : List P2) : List (List Nat) := if wholeB N E = true then facesL N E else []
/-- What has been seen. -/
def seenL (M : Nat) (X : List Nat) : List Value := (List.range M).map fun j => Value.bool (decide (j ∈ X))
theorem seenL_length (M : Nat) (X : List Nat) : (seenL M X).length = M := by simp [seenL]
theorem seenL_at {M : Nat} (X : List Nat) {v : Nat} (h : v < M) : (seenL M X)[v]? = some (.bool (decide (v ∈ X))) := by simp [seenL, h]
theorem seenL_nil (M : Nat) : List.replicate M (Value.bool false) = seenL M [] := by
  apply List.ext_getElem?
  intro k
  by_cases hk : k < M
  · rw [seenL_at _ hk]
    simp [hk]
  · rw [List.getElem?_eq_none (by simp; omega), List.getElem?_eq_none (by rw [seenL_length]; omega)]
theorem seenL_set {M : Nat} (X : List Nat) {v : Nat} (h : v < M) : (seenL M X).set v (.bool true) = seenL M (X ++ [v]) := by
  apply List.ext_getElem?
  intro k
  by_cases hk : k = v
  · subst hk
    rw [List.getElem?_set_self (by rw [seenL_length]; exact h), seenL_at _ h]
    simp
  · rw [List.getElem?_set_ne (fun e => hk e.symm)]
    by_cases hkn : k < M
    · rw [seenL_at _ hkn, seenL_at _ hkn]
      simp [hk]
    · rw [List.getElem?_eq_none (by rw [seenL_length]; omega), List.getElem?_eq_none (by rw [seenL_length]; omega)]
theorem bool_info : (Try.prog.info? 4).map (fun i => (i.zero, i.size, i.bytes)) = some (some (.bool false), 1, 1) := by kernel_rfl
theorem rows_info : (Try.prog.info? 29).map (fun i => (i.zero, i.size, i.bytes)) = some (some (.slice none 0 0), 1, 24) := by kernel_rfl
theorem made_false (n : Nat) : (madeCells (Value.bool false).cells (n * 1)).toList = seenL n [] := by
  rw [Nat.mul_one, ← seenL_nil]
  exact toList_madeCells_one _ _
theorem fcs_facts {N E : List P2} (h : wholeB N E = true) : 0 < (fcs N E).length ∧ (fcs N E).length ≤ 2 * E.length ∧ (∀ l ∈ fcs N E, l ≠ [] ∧ l.length ≤ 2 * E.length ∧ ∀ d ∈ l, d < 2 * E.length) ∧ ∀ d, d < 2 * E.length → d ∈ (fcs N E).flatten := by
  obtain ⟨h1, h2, _⟩ := wholeB_iff.1 h
  have e : fcs N E = facesL N E := by unfold fcs; rw [if_pos h]
  obtain ⟨f1, f2, f3, f4, f5, f6⟩ := (next_inj N E).faces (2 * E.length) (Nat.le_refl _)
  rw [e]
  unfold facesL
  refine ⟨?_, f5, fun l hl => ⟨(f6 l hl).1, (f6 l hl).2, fun d hd => f2 d (List.mem_flatten.2 ⟨l, hl, hd⟩)⟩, f4⟩
  rcases Nat.eq_zero_or_pos (facesTo (nextN N E) (2 * E.length) (2 * E.length)).length with h0 | h0
  · have := List.length_eq_zero_iff.1 h0
    have h4 := f4 0 (by omega)
    rw [this] at h4
    simp at h4
  · exact h0
theorem fcs_yes {N E : List P2} (h : wholeB N E = true) : fcs N E = facesTo (nextN N E) (2 * E.length) (2 * E.length) := by unfold fcs; rw [if_pos h]; rfl
theorem fcs_no {N E : List P2} (h : wholeB N E = false) : fcs N E = [] := by unfold fcs; rw [if_neg (by simp [h])]
theorem facesTo_seen {f : Nat → Nat} {m d : Nat} (h : d ∈ (facesTo f m d).flatten) : facesTo f m (d + 1) = facesTo f m d := by simp only [facesTo]; rw [if_pos h]
theorem facesTo_new {f : Nat → Nat} {m d : Nat} (h : d ∉ (facesTo f m d).flatten) : facesTo f m (d + 1) = facesTo f m d ++ [walkL f m d] := by simp only [facesTo]; rw [if_neg h]
end Go.Proofs.Ytkgbilbicdiadaa
namespace Go.Proofs.Ytkgbilbicdiadaa
open Go.RowKit

set_option maxRecDepth 20000 in
set_option maxHeartbeats 4000000 in
theorem FacesOf_any (N E : List P2) (A B : Option Addr) (c c' : Nat) (w : World) (hw : WR w N E A B c c') :
    Calls Try.prog 87 #[.agg #[.slice A N.length c, .slice B E.length c']] w fun e w' => ∃ A2 c2, e = .returned (.slice A2 (fcs N E).length c2) ∧ (A2 = none ↔ fcs N E = []) ∧ (A2 = none → c2 = 0) ∧ RT w' A2 (fcs N E) ∧ (fcs N E).length ≤ c2 ∧ Ext w w' := by
  obtain ⟨i0, hi, hz0, hz1, hz2⟩ := info_parts rows_info
  obtain ⟨j0, hj, hy0, hy1, hy2⟩ := info_parts bool_info
  have HW := hide hw
  have hEl := hw.hE
  clear hw
  
  go_enter Try.func87, Try.ntmps87
  go_wp2_with fail
  obtain ⟨w0, hw⟩ : ∃ w1, w1 = w.alloc (Obj.cells #[Value.slice A N.length c, Value.slice B E.length c'] 27) := ⟨_, rfl⟩; rw [← hw]; have kT : Tr [(w.heap.size, [.slice A N.length c, .slice B E.length c'])] w w0 := (by rw [hw]; exact ⟨by (first | (simp [Bx, CellsAt, go_sem, *]; done) | (simp [Bx, CellsAt, go_sem, *]; omega)), by (repeat (first | exact kE | exact Ext.refl _ | apply Ext.alloc | apply Ext.drewN | apply Ext.drew | apply Ext.set0 | apply Ext.set1 | apply Ext.set2 | apply Ext.set3 | (refine Ext.setk ?_ (by omega) _) | (apply Ext.snoc; assumption)))⟩); have HT := hide kT; clear hw kT; have kT := HT.out; simp only [Tr, Bx, CellsAt, Nat.reduceAdd, Nat.zero_add, and_true] at kT; obtain ⟨⟨kz0, kf0, kc0_0, kc0_1⟩, kE⟩ := kT
  obtain ⟨v, hv⟩ : ∃ v, wholeB N E = v := ⟨_, rfl⟩
  have HC := IsWhole_any N E A B c c' w0 (HW.out.ext kE)
  rw [hv] at HC
  have HV := hide hv
  clear hv
  refine (HC).mono ?_; rintro e w1 ⟨rfl, hb⟩; have HT := hide (HT.out.ext hb); have Hw1 := hide hb; clear hb; clear kz0 kf0 kc0_0 kc0_1 kE; have kT := HT.out; simp only [Tr, Bx, CellsAt, Nat.reduceAdd, Nat.zero_add, and_true] at kT; obtain ⟨⟨kz0, kf0, kc0_0, kc0_1⟩, kE⟩ := kT
  cases v with
  | false =>
    have HF := hide (fcs_no HV.out)
    go_wp2_with fail
    go_ret
    exact ⟨none, 0, by rw [HF.out]; rfl, by simp [HF.out], fun _ => rfl, by rw [HF.out]; exact RT.nil _, by rw [HF.out]; exact Nat.le_refl _, HT.out.2⟩
  | true =>
    have HK := hide (wholeB_iff.1 HV.out).1
    have HF := hide (fcs_yes HV.out)
    have HP := hide (fcs_facts HV.out)
    have hm := HK.out.m
    have hm0 := (wholeB_iff.1 HV.out).2.1
    go_wp2_with (at_make; refine wpList_make_full _ rfl _ _ 99 rfl w1.heap.size 4 j0 (.bool false) 1 Try.underlying99 hj hy0 hy1 .i64 .i64 (2 * E.length) (2 * E.length) (2 * E.length) rfl rfl (by first | rfl | omega) (by first | rfl | omega) (by rw [hy2]; omega) (by unfold maxLen; omega) (Nat.le_refl _) ?_; intro w2 hown hgrow)
    rw [made_false] at hown
    have hg2 := grown_ext hgrow
    have hgl2 := (own_ltg hown).2
    have HE2 := hide hg2
    have HO2 := hide hown
    have HT1 := HT
    have HGL2 := hide hgl2
    clear hown hgrow hg2 hgl2 HT
    clear kz0 kf0 kc0_0 kc0_1 kE
    go_loopw [4, 19] (fun v i wr => ∃ d : Nat, d ≤ 2 * E.length ∧ i = .int .i64 d ∧ Hid (wr.ownsRow w1.heap.size 4 1 (.slice (some ⟨w1.heap.size, 0, none⟩) (2 * E.length) (2 * E.length)) (2 * E.length) (seenL (2 * E.length) (facesTo (nextN N E) (2 * E.length) d).flatten)) ∧ Hid (∃ hs, GT wr w2.heap.size 29 v (facesTo (nextN N E) (2 * E.length) d) hs) ∧ Hid (Ext w2 wr ∨ Ext w1 wr ∧ w2.heap.size ≤ wr.heap.size)) (fun _ i _ => 2 * E.length - (intOf i).toNat)
    case atStart => exact ⟨0, Nat.zero_le _, rfl, HO2, hide ⟨[], GT.start _ _ _⟩, hide (.inl (Ext.refl _))⟩
    case round =>
      clear HO2
      obtain ⟨d, hd, rfl, HO, HG, HX⟩ := hrel
      have hE : Ext w1 wr ∧ w2.heap.size ≤ wr.heap.size := by
        rcases HX.out with h | h
        · exact ⟨HE2.out.trans h, h.size⟩
        · exact h
      have HE := hide hE
      have HT := hide (HT1.out.ext hE.1)
      clear hE HX
      have kT := HT.out; simp only [Tr, Bx, CellsAt, Nat.reduceAdd, Nat.zero_add, and_true] at kT; obtain ⟨⟨kz0, kf0, kc0_0, kc0_1⟩, kE⟩ := kT
      by_cases hlt : d < 2 * E.length
      · have hlz : (d : Int) < 2 * (E.length : Int) := by omega
        have cd := by have h := HO.out.cellAt d (by omega); rw [seenL_at _ hlt] at h; exact h
        by_cases hin : d ∈ (facesTo (nextN N E) (2 * E.length) d).flatten
        · rw [decide_eq_true hin] at cd
          have HS := hide (facesTo_seen hin)
          clear hin
          go_wp2_with fail
          clear cd
          go_roundw
          case rel => exact ⟨d + 1, by omega, by go_num, by rw [HS.out]; exact HO, by rw [HS.out]; exact HG, hide (.inr HE.out)⟩
          case measure => simp [intOf]; omega
        · rw [decide_eq_false hin] at cd
          have HN := hide (facesTo_new hin)
          clear hin
          have HC2 := walk_any N E A B c c' d wr (HW.out.ext kE) HK.out hlt
          have hwf := (next_inj N E).walk_facts hlt
          have HLT := hide hwf.2.2.1
          have hll := hwf.2.2.2.2.1
          have hfl := ((next_inj N E).faces d (by omega)).2.2.2.2.1
          obtain ⟨l, hl⟩ : ∃ l, walkL (nextN N E) (2 * E.length) d = l := ⟨_, rfl⟩
          rw [hl] at HC2 HLT HN hll
          clear hwf hl
          obtain ⟨F, hF⟩ : ∃ F, facesTo (nextN N E) (2 * E.length) d = F := ⟨_, rfl⟩
          rw [hF] at HO HG HN hfl
          clear hF
          obtain ⟨n, hn⟩ : ∃ n, l.length = n := ⟨_, rfl⟩
          rw [hn] at HC2 hll
          have HLN := hide hn
          clear hn
          go_wp2_with (go_at_call 140; refine HC2.mono ?_; rintro e w3 ⟨g, c2, rfl, hrow, hb3⟩)
          obtain ⟨hs, hG⟩ := HG.out
          have hgw := own_ltg hrow
          obtain ⟨_, _, hnc, _, _⟩ : ∃ A c3, n ≤ c2 ∧ A = c3 ∧ True := by
            obtain ⟨A3, c3, e, h3, _⟩ := own_slice hrow
            injection e with _ _ e
            subst e
            exact ⟨0, 0, h3, rfl, trivial⟩
          have hzr := HE.out.2
          have HGV := hide (show u4.ownBlock ≠ some g from fun e => by have := (hG.own.lt g e).2; omega)
          have HGG := hide (show w2.heap.size ≤ g ∧ w1.heap.size < g from ⟨by omega, by have := HGL2.out; omega⟩)
          have HNC := hide hnc
          have HG3 := hide (hG.ext hb3)
          have HO3 := hide (own_ext HO.out hb3)
          have HE3 := hide (show Ext w1 w3 ∧ w2.heap.size ≤ w3.heap.size from ⟨HE.out.1.trans hb3, by have := hb3.size; omega⟩)
          have HR3 := hide (And.intro (Rds.of_own hrow) hgw.2)
          clear cd hG hgw hnc hzr hrow hb3 HO HG HE HT
          clear kz0 kf0 kc0_0 kc0_1 kE
          go_loopw [31] (fun i wi => ∃ j : Nat, j ≤ n ∧ i = .int .i64 j ∧ Hid (wi.ownsRow w1.heap.size 4 1 (.slice (some ⟨w1.heap.size, 0, none⟩) (2 * E.length) (2 * E.length)) (2 * E.length) (seenL (2 * E.length) (F.flatten ++ l.take j))) ∧ Hid (GT wi w2.heap.size 29 u4 F hs) ∧ Hid (Ext w1 wi ∧ w2.heap.size ≤ wi.heap.size) ∧ Hid (Rds wi 1 (some ⟨g, 0, none⟩) n (encN l) ∧ g < wi.heap.size)) (fun i _ => n - (intOf i).toNat)
          case atStart => exact ⟨0, Nat.zero_le _, rfl, hide (by have := HO3.out; simpa using this), HG3, HE3, HR3⟩
          case round =>
            clear HO3 HG3 HE3 HR3
            obtain ⟨j, hj, rfl, HO, HG, HE, HR⟩ := hrel
            by_cases hlt2 : j < n
            · have hlz2 : (j : Int) < (n : Int) := by omega
              have hjl : j < l.length := by rw [HLN.out]; exact hlt2
              obtain ⟨b', o', hA', _, cj⟩ := RN.at_ HR.out.1 HLN.out hjl
              injection hA' with hA'
              injection hA' with hA1 hA2 _
              subst hA1 hA2
              have hub := HLT.out _ (List.getElem_mem hjl)
              have HTK := hide (List.take_succ_eq_append_getElem hjl)
              obtain ⟨u, hu⟩ : ∃ u, l[j] = u := ⟨_, rfl⟩
              rw [hu, Nat.zero_add] at cj
              rw [hu] at hub HTK
              clear hu
              have hubz : (u : Int) < 2 * (E.length : Int) := by omega
              have cu := by have h := HO.out.cellAt u (by omega); rw [seenL_at _ hub] at h; exact h
              have fu := HO.out.frozenAt u
              go_wp2_with fail
              have hst := (HO.out.stored u (.bool true)).1
              rw [seenL_set _ hub] at hst
              have HO5 := hide (show (wr.setCell ⟨w1.heap.size, u, none⟩ (.bool true)).ownsRow w1.heap.size 4 1 (.slice (some ⟨w1.heap.size, 0, none⟩) (2 * E.length) (2 * E.length)) (2 * E.length) (seenL (2 * E.length) (F.flatten ++ l.take (j + 1))) from by rw [HTK.out, ← List.append_assoc]; exact hst)
              have HG5 := hide (HG.out.setk (k := w1.heap.size) (i := u) (u := .bool true) HGL2.out)
              have HE5 := hide (show Ext w1 (wr.setCell ⟨w1.heap.size, u, none⟩ (.bool true)) ∧ w2.heap.size ≤ (wr.setCell ⟨w1.heap.size, u, none⟩ (.bool true)).heap.size from ⟨HE.out.1.setk (Nat.le_refl _) _, by simpa using HE.out.2⟩)
              have HR5 := hide (show Rds (wr.setCell ⟨w1.heap.size, u, none⟩ (.bool true)) 1 (some ⟨g, 0, none⟩) n (encN l) ∧ g < (wr.setCell ⟨w1.heap.size, u, none⟩ (.bool true)).heap.size from ⟨HR.out.1.setk (by have := HGG.out.2; omega) _, by simpa using HR.out.2⟩)
              clear hst cu fu cj
              obtain ⟨w5, hw5⟩ : ∃ w5, w5 = wr.setCell ⟨w1.heap.size, u, none⟩ (.bool true) := ⟨_, rfl⟩
              rw [← hw5] at HO5 HG5 HE5 HR5 ⊢
              clear hw5
              go_roundw
              case rel => exact ⟨j + 1, by omega, by go_num, HO5, HG5, HE5, HR5⟩
              case measure => simp [intOf]; omega
            · obtain rfl : j = n := by omega
              have hlz2 : ¬ ((j : Nat) : Int) < (j : Int) := by omega
              have HTK := hide (show l.take j = l from List.take_of_length_le (by rw [HLN.out]; exact Nat.le_refl _))
              have hz5 := HE.out.2
              have hbz := HGL2.out
              go_wp2_with (at_builtin; refine wpList_append_own_at _ rfl _ _ 66 rfl w2.heap.size 29 i0 (.slice none 0 0) 1 24 Try.underlying66 hi hz0 hz1 hz2 rfl (by decide) u4 _ _ rfl (own_ext HG.out.own ((Ext.refl _).alloc _)) ⟨wr.heap.size, 0, none⟩ 1 1 [Value.slice (some ⟨g, 0, none⟩) j c2] rfl rfl (news_new _ #[Value.slice (some ⟨g, 0, none⟩) j c2] _) (by intro u hu; simp at hu; subst hu; rfl) (by unfold maxLen; omega) (by omega) (by first | (simp; done) | (simp; omega)) ?_; intro v' w4 hown4 hgrow4 hnil hblk)
              have hlen := HLN.out
              have HG5 := hide (show ∃ hs, GT w4 w2.heap.size 29 v' (facesTo (nextN N E) (2 * E.length) (d + 1)) hs from by
                rw [HN.out]
                rw [← hlen] at hown4 hgrow4 hblk
                exact ⟨_, HG.out.more HGG.out.1 HR.out.2 HGV.out (by rw [hlen]; exact HNC.out) (by have h := HR.out.1; rw [← hlen] at h; exact h) hgrow4 hblk hown4⟩)
              have HO5 := hide (show w4.ownsRow w1.heap.size 4 1 (.slice (some ⟨w1.heap.size, 0, none⟩) (2 * E.length) (2 * E.length)) (2 * E.length) (seenL (2 * E.length) (facesTo (nextN N E) (2 * E.length) (d + 1)).flatten) from by
                have h := (HO.out.alloc (.cells #[Value.slice (some ⟨g, 0, none⟩) j c2] 29)).kept hgrow4 (.inr (fun e => by
                  have h2 := (HG.out.own.lt w1.heap.size e.symm).1
                  omega))
                rw [HTK.out] at h
                rw [HN.out, List.flatten_append]
                simpa using h)
              have HE5 := hide (show Ext w1 w4 ∧ w2.heap.size ≤ w4.heap.size from ⟨Ext.grown (HE.out.1.alloc _) hgrow4 (own_base HG.out.own (by omega)), by have := hgrow4.size; simp at this; omega⟩)
              clear hown4 hgrow4 hnil hblk hlen hbz hz5
              go_roundw
              case rel => exact ⟨d + 1, by omega, by go_num, HO5, HG5, hide (.inr HE5.out)⟩
              case measure => simp [intOf]; omega
      · obtain rfl : d = 2 * E.length := by omega
        have hlz : ¬ ((2 * E.length : Nat) : Int) < 2 * (E.length : Int) := by omega
        obtain ⟨hs, hG⟩ := HG.out
        rw [← HF.out] at hG
        obtain ⟨A2, c2, rfl, h1, h2, h3⟩ := hG.done
        have H := hide (And.intro h1 (And.intro h2 h3))
        clear h1 h2 h3 hG
        go_wp2_with fail
        go_ret
        exact ⟨A2, c2, by rw [HF.out]; rfl, ⟨H.out.2.1, fun e => absurd e (by intro e2; have := HP.out.1; rw [e2] at this; simp at this)⟩, fun e => absurd (H.out.2.1 e) (by intro e2; have := HP.out.1; rw [e2] at this; simp at this), H.out.2.2, H.out.1, kE⟩
end Go.Proofs.Ytkgbilbicdiadaa
