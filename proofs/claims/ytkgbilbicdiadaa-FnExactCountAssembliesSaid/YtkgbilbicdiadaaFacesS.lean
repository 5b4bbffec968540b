/- The walk of the reference's FacesOf. No condition but that a list has at most 1048576 elements. -/
import Derived.Test.YtkgbilbicdiadaaFaces
import Derived.Test.YtkgbilbicdiadaaWholeS
set_option linter.unusedSimpArgs false
set_option linter.unusedVariables false
namespace Go.Proofs.Ytkgbilbicdiadaa
open Go.RowKit

theorem GT.mono {w : World} {B B' : Nat} {T : TypeId} {v : Value} {F : List (List Nat)} {hs : List Value} (h : GT w B T v F hs) (hb : B' ≤ B) : GT w B' T v F hs :=
  ⟨own_mono h.own hb, fun i l hi => by
    obtain ⟨g, ci, a1, a2, a3, a4⟩ := h.row i l hi
    exact ⟨g, ci, a1, a2, Nat.le_trans hb a3, a4⟩⟩
theorem GT.at_ {w : World} {B n c b : Nat} {T : TypeId} {F : List (List Nat)} {hs : List Value} (h : GT w B T (.slice (some ⟨b, 0, none⟩) n c) F hs) {k : Nat} (hk : k < F.length) :
    ∃ g ci, w.cell? ⟨b, k, none⟩ = some (Value.slice (some ⟨g, 0, none⟩) F[k].length ci) ∧ b < w.heap.size ∧ F[k].length ≤ ci ∧ Rds w 1 (some ⟨g, 0, none⟩) F[k].length (encN F[k]) := by
  obtain ⟨g, ci, a1, a2, a3, a4, a5, a6⟩ := h.row k F[k] (by simp [hk])
  have hl : hs.length = F.length := by have := h.own.1; omega
  obtain ⟨A, c4, e, _, _, _⟩ := own_slice h.own
  injection e with _ e2 _
  subst e2
  exact ⟨g, ci, by rw [h.own.cellAt k (by omega)]; exact a1, (h.own.lt b rfl).2, a2, a6⟩
theorem RT.empty (w : World) (A : Option Addr) : RT w A [] := ⟨[], ⟨by simp, fun h => absurd h (by simp)⟩, fun i l h => by simp at h⟩
/-- Neither the headers nor a row lie in block s. -/
def GA (s : Nat) (v : Value) (hs : List Value) : Prop := v.ownBlock ≠ some s ∧ ∀ (i : Nat) (u : Value), hs[i]? = some u → u.ownBlock ≠ some s
theorem GT.setk2 {w : World} {B k i : Nat} {T : TypeId} {v u : Value} {F : List (List Nat)} {hs : List Value} (h : GT w B T v F hs) (ha : GA k v hs) : GT (w.setCell ⟨k, i, none⟩ u) B T v F hs := by
  refine ⟨h.own.kept (w' := w.setCell ⟨k, i, none⟩ u) (row := some k) ⟨rfl, rfl, rfl, by simp, fun q _ hk => Below.heap_setCell _ _ _ _ (fun e => hk (by rw [e]))⟩ (.inr ha.1), fun j l hj => ?_⟩
  obtain ⟨g, ci, a1, a2, a3, a4, a5, a6⟩ := h.row j l hj
  have hne : g ≠ k := fun e => ha.2 j _ a1 (by rw [e]; rfl)
  exact ⟨g, ci, a1, a2, a3, by simpa using a4, a5, a6.setk hne _⟩
theorem GA.more {s g n c : Nat} {v v' : Value} {hs : List Value} {N : Nat} (h : GA s v hs) (hg : g ≠ s) (hN : s < N) (hv : v'.ownBlock = v.ownBlock ∨ v'.ownBlock = some N) : GA s v' (hs ++ [.slice (some ⟨g, 0, none⟩) n c]) := by
  refine ⟨fun e => ?_, fun i u hi => ?_⟩
  · rcases hv with e' | e'
    · exact h.1 (e' ▸ e)
    · rw [e'] at e
      injection e with e
      omega
  · rcases Nat.lt_trichotomy i hs.length with hlt | he | hgt
    · rw [List.getElem?_append_left hlt] at hi
      exact h.2 i u hi
    · subst he
      rw [List.getElem?_append_right (Nat.le_refl _)] at hi
      simp at hi
      subst hi
      intro e
      injection e with e
      exact hg e
    · rw [List.getElem?_eq_none (by simp; omega)] at hi
      cases hi
set_option maxRecDepth 20000 in
set_option maxHeartbeats 4000000 in
theorem sFacesOf_gt (N E : List P2) (A B : Option Addr) (c c' : Nat) (w : World) (hw : WR w N E A B c c') :
    Calls Try.prog 59 #[.agg #[.slice A N.length c, .slice B E.length c']] w fun e w' => ∃ A2 c2, e = .returned (.slice A2 (fcs N E).length c2) ∧ (∃ hs, GT w' w.heap.size 29 (.slice A2 (fcs N E).length c2) (fcs N E) hs) ∧ (fcs N E).length ≤ c2 ∧ Ext w w' := by
  obtain ⟨i0, hi, hz0, hz1, hz2⟩ := info_parts rows_info
  obtain ⟨j0, hj, hy0, hy1, hy2⟩ := info_parts bool_info
  have HW := hide hw
  have hEl := hw.hE
  clear hw
  
  go_enter Try.func59, Try.ntmps59
  go_wp2_with fail
  obtain ⟨w0, hw⟩ : ∃ w1, w1 = w.alloc (Obj.cells #[Value.slice A N.length c, Value.slice B E.length c'] 27) := ⟨_, rfl⟩
  rw [← hw]
  have hsz0 : w0.heap.size = w.heap.size + 1 := by rw [hw]; simp
  have HT := hide (show Tr [(w.heap.size, [.slice A N.length c, .slice B E.length c'])] w w0 from by rw [hw]; exact ⟨by simp [Bx, CellsAt, go_sem, *], by repeat (first | exact kE | exact Ext.refl _ | apply Ext.alloc | apply Ext.drewN | apply Ext.drew | apply Ext.set0 | apply Ext.set1 | apply Ext.set2 | apply Ext.set3 | (refine Ext.setk ?_ (by omega) _) | (apply Ext.snoc; assumption))⟩)
  clear hw
  rw [← hsz0]
  have HSZ := hide hsz0
  clear hsz0
  have HT0 := HT
  obtain ⟨wa, hwa⟩ : ∃ x, x = w0.alloc (Obj.cells #[] 29) := ⟨_, rfl⟩
  rw [← hwa]
  have HA := hide (show wa.ownsRow w0.heap.size 29 1 (.slice (some ⟨w0.heap.size, 0, none⟩) 0 0) 0 [] from by rw [hwa]; exact World.ownsRow_lit w0 #[] 0 (Nat.le_refl _) (Nat.zero_le _) rfl)
  have HEa := hide (show Ext w0 wa from by rw [hwa]; exact (Ext.refl _).alloc _)
  have hlta : w0.heap.size < wa.heap.size := by rw [hwa]; simp
  have HLTA := hide hlta
  clear hwa hlta HT
  have HT := hide (HT0.out.ext HEa.out)
  have kT := HT.out; simp only [Tr, Bx, CellsAt, Nat.reduceAdd, Nat.zero_add, and_true] at kT; obtain ⟨⟨kz0, kf0, kc0_0, kc0_1⟩, kE⟩ := kT
  obtain ⟨v, hv⟩ : ∃ v, wholeB N E = v := ⟨_, rfl⟩
  have HC := sIsWhole_any N E A B c c' wa (HW.out.ext kE)
  rw [hv] at HC
  have HV := hide hv
  clear hv
  refine (HC).mono ?_; rintro e w1 ⟨rfl, hb⟩; have HT := hide (HT.out.ext hb); have Hw1 := hide hb; clear hb; clear kz0 kf0 kc0_0 kc0_1 kE; have kT := HT.out; simp only [Tr, Bx, CellsAt, Nat.reduceAdd, Nat.zero_add, and_true] at kT; obtain ⟨⟨kz0, kf0, kc0_0, kc0_1⟩, kE⟩ := kT
  cases v with
  | false =>
    have HF := hide (fcs_no HV.out)
    go_wp2_with fail
    go_ret
    exact ⟨some ⟨w0.heap.size, 0, none⟩, 0, by rw [HF.out]; rfl, by rw [HF.out]; exact ⟨[], own_mono (own_ext HA.out Hw1.out) (by have := HSZ.out; omega), fun i l h => by simp at h⟩, by rw [HF.out]; exact Nat.le_refl _, HT.out.2⟩
  | true =>
    have HK := hide (wholeB_iff.1 HV.out).1
    have HF := hide (fcs_yes HV.out)
    have HP := hide (fcs_facts HV.out)
    have hm := HK.out.m
    have hm0 := (wholeB_iff.1 HV.out).2.1
    go_wp2_with (at_make; refine wpList_make_full _ rfl _ _ 99 rfl w1.heap.size 4 j0 (.bool false) 1 Try.underlying99 hj hy0 hy1 .i64 .i64 (2 * E.length) (2 * E.length) (2 * E.length) rfl rfl (by first | rfl | omega) (by first | rfl | omega) (by rw [hy2]; omega) (by unfold maxLen; omega) (Nat.le_refl _) ?_; intro w2 hown hgrow)
    rw [made_false] at hown
    have hg2 := grown_ext hgrow
    have hgl2 := (own_ltg hown).2
    have HE2 := hide hg2
    have HO2 := hide hown
    have HGL2 := hide hgl2
    have HG2 := hide (show ∃ hs, GT w2 w0.heap.size 29 (.slice (some ⟨w0.heap.size, 0, none⟩) 0 0) [] hs ∧ GA w1.heap.size (.slice (some ⟨w0.heap.size, 0, none⟩) 0 0) hs from ⟨[], ⟨own_ext (own_ext HA.out Hw1.out) hg2, fun i l h => by simp at h⟩, fun e => by injection e with e; have h1 := HLTA.out; have h2 := Hw1.out.size; have e2 : w0.heap.size = w1.heap.size := e; omega, fun i u h => by simp at h⟩)
    have HEE := hide (show Ext w0 w2 ∧ w2.heap.size ≤ w2.heap.size from ⟨(HEa.out.trans Hw1.out).trans hg2, Nat.le_refl _⟩)
    clear hown hgrow hg2 hgl2 HT
    clear kz0 kf0 kc0_0 kc0_1 kE
    go_loopw [3, 5] (fun v i wr => ∃ d : Nat, d ≤ 2 * E.length ∧ i = .int .i64 d ∧ Hid (wr.ownsRow w1.heap.size 4 1 (.slice (some ⟨w1.heap.size, 0, none⟩) (2 * E.length) (2 * E.length)) (2 * E.length) (seenL (2 * E.length) (facesTo (nextN N E) (2 * E.length) d).flatten)) ∧ Hid (∃ hs, GT wr w0.heap.size 29 v (facesTo (nextN N E) (2 * E.length) d) hs ∧ GA w1.heap.size v hs) ∧ Hid (Ext w0 wr ∧ w2.heap.size ≤ wr.heap.size)) (fun _ i _ => 2 * E.length - (intOf i).toNat)
    case atStart => exact ⟨0, Nat.zero_le _, rfl, HO2, HG2, HEE⟩
    case round =>
      clear HO2 HG2 HEE
      obtain ⟨d, hd, rfl, HO, HG, HE⟩ := hrel
      have HT := hide (HT0.out.ext HE.out.1)
      have kT := HT.out; simp only [Tr, Bx, CellsAt, Nat.reduceAdd, Nat.zero_add, and_true] at kT; obtain ⟨⟨kz0, kf0, kc0_0, kc0_1⟩, kE⟩ := kT
      by_cases hlt : d < 2 * E.length
      · have hlz : (d : Int) < 2 * (E.length : Int) := by omega
        have cd := by have h := HO.out.cellAt d (by omega); rw [seenL_at _ hlt] at h; exact h
        by_cases hin : d ∈ (facesTo (nextN N E) (2 * E.length) d).flatten
        · rw [decide_eq_true hin] at cd
          have HS := hide (facesTo_seen hin)
          clear hin
          go_wp2_with fail
          clear cd
          go_roundw
          case rel => exact ⟨d + 1, by omega, by go_num, by rw [HS.out]; exact HO, by rw [HS.out]; exact HG, HE⟩
          case measure => simp [intOf]; omega
        · rw [decide_eq_false hin] at cd
          have HN := hide (facesTo_new hin)
          clear hin
          have HC2 := l06Walk_any N E A B c c' d wr (HW.out.ext kE) HK.out hlt
          have hwf := (next_inj N E).walk_facts hlt
          have HLT := hide hwf.2.2.1
          have hll := hwf.2.2.2.2.1
          have hfl := ((next_inj N E).faces d (by omega)).2.2.2.2.1
          obtain ⟨l, hl⟩ : ∃ l, walkL (nextN N E) (2 * E.length) d = l := ⟨_, rfl⟩
          rw [hl] at HC2 HLT HN hll
          clear hwf hl
          obtain ⟨F, hF⟩ : ∃ F, facesTo (nextN N E) (2 * E.length) d = F := ⟨_, rfl⟩
          rw [hF] at HO HG HN hfl
          clear hF
          obtain ⟨n, hn⟩ : ∃ n, l.length = n := ⟨_, rfl⟩
          rw [hn] at HC2 hll
          have HLN := hide hn
          clear hn
          go_wp2_with (go_at_call 123; refine HC2.mono ?_; rintro e w3 ⟨g, c2, rfl, hrow, hb3⟩)
          obtain ⟨hs, hG, hGA⟩ := HG.out
          have HGA := hide hGA
          clear hGA
          have hgw := own_ltg hrow
          obtain ⟨_, _, hnc, _, _⟩ : ∃ A c3, n ≤ c2 ∧ A = c3 ∧ True := by
            obtain ⟨A3, c3, e, h3, _⟩ := own_slice hrow
            injection e with _ _ e
            subst e
            exact ⟨0, 0, h3, rfl, trivial⟩
          have hzr := HE.out.2
          have HGV := hide (show u3.ownBlock ≠ some g from fun e => by have := (hG.own.lt g e).2; omega)
          have HGG := hide (show w0.heap.size ≤ g ∧ w1.heap.size < g from ⟨by have h1 := HLTA.out; have h2 := Hw1.out.size; have := HGL2.out; omega, by have := HGL2.out; omega⟩)
          have HNC := hide hnc
          have HG3 := hide (hG.ext hb3)
          have HO3 := hide (own_ext HO.out hb3)
          have HE3 := hide (show Ext w0 w3 ∧ w2.heap.size ≤ w3.heap.size from ⟨HE.out.1.trans hb3, by have := hb3.size; omega⟩)
          have HR3 := hide (And.intro (Rds.of_own hrow) hgw.2)
          clear cd hG hgw hnc hzr hrow hb3 HO HG HE HT
          clear kz0 kf0 kc0_0 kc0_1 kE
          go_loopw [7] (fun i wi => ∃ j : Nat, j ≤ n ∧ i = .int .i64 j ∧ Hid (wi.ownsRow w1.heap.size 4 1 (.slice (some ⟨w1.heap.size, 0, none⟩) (2 * E.length) (2 * E.length)) (2 * E.length) (seenL (2 * E.length) (F.flatten ++ l.take j))) ∧ Hid (GT wi w0.heap.size 29 u3 F hs) ∧ Hid (Ext w0 wi ∧ w2.heap.size ≤ wi.heap.size) ∧ Hid (Rds wi 1 (some ⟨g, 0, none⟩) n (encN l) ∧ g < wi.heap.size)) (fun i _ => n - (intOf i).toNat)
          case atStart => exact ⟨0, Nat.zero_le _, rfl, hide (by have := HO3.out; simpa using this), HG3, HE3, HR3⟩
          case round =>
            clear HO3 HG3 HE3 HR3
            obtain ⟨j, hj, rfl, HO, HG, HE, HR⟩ := hrel
            by_cases hlt2 : j < n
            · have hlz2 : (j : Int) < (n : Int) := by omega
              have hjl : j < l.length := by rw [HLN.out]; exact hlt2
              obtain ⟨b', o', hA', _, cj⟩ := RN.at_ HR.out.1 HLN.out hjl
              injection hA' with hA'
              injection hA' with hA1 hA2 _
              subst hA1 hA2
              have hub := HLT.out _ (List.getElem_mem hjl)
              have HTK := hide (List.take_succ_eq_append_getElem hjl)
              obtain ⟨u, hu⟩ : ∃ u, l[j] = u := ⟨_, rfl⟩
              rw [hu, Nat.zero_add] at cj
              rw [hu] at hub HTK
              clear hu
              have hubz : (u : Int) < 2 * (E.length : Int) := by omega
              have cu := by have h := HO.out.cellAt u (by omega); rw [seenL_at _ hub] at h; exact h
              have fu := HO.out.frozenAt u
              go_wp2_with fail
              have hst := (HO.out.stored u (.bool true)).1
              rw [seenL_set _ hub] at hst
              have HO5 := hide (show (wr.setCell ⟨w1.heap.size, u, none⟩ (.bool true)).ownsRow w1.heap.size 4 1 (.slice (some ⟨w1.heap.size, 0, none⟩) (2 * E.length) (2 * E.length)) (2 * E.length) (seenL (2 * E.length) (F.flatten ++ l.take (j + 1))) from by rw [HTK.out, ← List.append_assoc]; exact hst)
              have HG5 := hide (HG.out.setk2 (k := w1.heap.size) (i := u) (u := .bool true) HGA.out)
              have HE5 := hide (show Ext w0 (wr.setCell ⟨w1.heap.size, u, none⟩ (.bool true)) ∧ w2.heap.size ≤ (wr.setCell ⟨w1.heap.size, u, none⟩ (.bool true)).heap.size from ⟨HE.out.1.setk (by have h1 := HLTA.out; have h2 := Hw1.out.size; omega) _, by simpa using HE.out.2⟩)
              have HR5 := hide (show Rds (wr.setCell ⟨w1.heap.size, u, none⟩ (.bool true)) 1 (some ⟨g, 0, none⟩) n (encN l) ∧ g < (wr.setCell ⟨w1.heap.size, u, none⟩ (.bool true)).heap.size from ⟨HR.out.1.setk (by have := HGG.out.2; omega) _, by simpa using HR.out.2⟩)
              clear hst cu fu cj
              obtain ⟨w5, hw5⟩ : ∃ w5, w5 = wr.setCell ⟨w1.heap.size, u, none⟩ (.bool true) := ⟨_, rfl⟩
              rw [← hw5] at HO5 HG5 HE5 HR5 ⊢
              clear hw5
              go_roundw
              case rel => exact ⟨j + 1, by omega, by go_num, HO5, HG5, HE5, HR5⟩
              case measure => simp [intOf]; omega
            · obtain rfl : j = n := by omega
              have hlz2 : ¬ ((j : Nat) : Int) < (j : Int) := by omega
              have HTK := hide (show l.take j = l from List.take_of_length_le (by rw [HLN.out]; exact Nat.le_refl _))
              have hz5 := HE.out.2
              have hbz := HGL2.out
              have hbz1 := HLTA.out
              have hbz2 := Hw1.out.size
              go_wp2_with (at_builtin; refine wpList_append_own_at _ rfl _ _ 66 rfl w0.heap.size 29 i0 (.slice none 0 0) 1 24 Try.underlying66 hi hz0 hz1 hz2 rfl (by decide) u3 _ _ rfl (own_ext HG.out.own ((Ext.refl _).alloc _)) ⟨wr.heap.size, 0, none⟩ 1 1 [Value.slice (some ⟨g, 0, none⟩) j c2] rfl rfl (news_new _ #[Value.slice (some ⟨g, 0, none⟩) j c2] _) (by intro u hu; simp at hu; subst hu; rfl) (by unfold maxLen; omega) (by omega) (by first | (simp; done) | (simp; omega)) ?_; intro v' w4 hown4 hgrow4 hnil hblk)
              have hlen := HLN.out
              have HG5 := hide (show ∃ hs, GT w4 w0.heap.size 29 v' (facesTo (nextN N E) (2 * E.length) (d + 1)) hs ∧ GA w1.heap.size v' hs from by
                rw [HN.out]
                rw [← hlen] at hown4 hgrow4 hblk
                exact ⟨_, HG.out.more HGG.out.1 HR.out.2 HGV.out (by rw [hlen]; exact HNC.out) (by have h := HR.out.1; rw [← hlen] at h; exact h) hgrow4 hblk hown4, HGA.out.more (by have := HGG.out.2; omega) (by simp; omega) hblk⟩)
              have HO5 := hide (show w4.ownsRow w1.heap.size 4 1 (.slice (some ⟨w1.heap.size, 0, none⟩) (2 * E.length) (2 * E.length)) (2 * E.length) (seenL (2 * E.length) (facesTo (nextN N E) (2 * E.length) (d + 1)).flatten) from by
                have h := (HO.out.alloc (.cells #[Value.slice (some ⟨g, 0, none⟩) j c2] 29)).kept hgrow4 (.inr (fun e => HGA.out.1 e.symm))
                rw [HTK.out] at h
                rw [HN.out, List.flatten_append]
                simpa using h)
              have HE5 := hide (show Ext w0 w4 ∧ w2.heap.size ≤ w4.heap.size from ⟨Ext.grown (HE.out.1.alloc _) hgrow4 (own_base HG.out.own (Nat.le_refl _)), by have := hgrow4.size; simp at this; omega⟩)
              clear hown4 hgrow4 hnil hblk hlen hbz hz5 hbz1 hbz2
              go_roundw
              case rel => exact ⟨d + 1, by omega, by go_num, HO5, HG5, HE5⟩
              case measure => simp [intOf]; omega
      · obtain rfl : d = 2 * E.length := by omega
        have hlz : ¬ ((2 * E.length : Nat) : Int) < 2 * (E.length : Int) := by omega
        obtain ⟨hs, hG, _⟩ := HG.out
        rw [← HF.out] at hG
        have HGF := hide (hG.mono (show w.heap.size ≤ w0.heap.size from by have := HSZ.out; omega))
        obtain ⟨A2, c2, rfl, h1, h2, h3⟩ := hG.done
        have H := hide h1
        clear h1 h2 h3 hG
        go_wp2_with fail
        go_ret
        exact ⟨A2, c2, by rw [HF.out]; rfl, ⟨hs, HGF.out⟩, H.out, kE⟩
theorem sFacesOf_any (N E : List P2) (A B : Option Addr) (c c' : Nat) (w : World) (hw : WR w N E A B c c') :
    Calls Try.prog 59 #[.agg #[.slice A N.length c, .slice B E.length c']] w fun e w' => ∃ A2 c2, e = .returned (.slice A2 (fcs N E).length c2) ∧ RT w' A2 (fcs N E) ∧ (fcs N E).length ≤ c2 ∧ Ext w w' := by
  refine (sFacesOf_gt N E A B c c' w hw).mono ?_
  rintro e w' ⟨A2, c2, rfl, ⟨hs, hG⟩, h1, h2⟩
  obtain ⟨A3, c3, e, _, _, h3⟩ := hG.done
  injection e with e1 _ _
  subst e1
  exact ⟨A2, c2, rfl, h3, h1, h2⟩
end Go.Proofs.Ytkgbilbicdiadaa
