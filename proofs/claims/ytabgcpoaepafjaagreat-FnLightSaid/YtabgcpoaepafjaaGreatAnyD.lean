/- The walk of the reference's drawn light. No condition but that the bytes are at most 1048576. -/
import Derived.Test.YtabgcpoaepafjaaGreatAnyC
import Derived.Test.YtabgcpoaepafjaaGreatWithS
set_option linter.unusedSimpArgs false
set_option linter.unusedVariables false
namespace Go.Proofs.YtabgcpoaepafjaaGreat
open Go.RowKit

theorem Gx.set {g b o : Nat} {l : List Int} {w w' : World} {v : Value} (h : Gx g l w w') (hb : w.heap.size ≤ b) (hg : g < b) : Gx g l w (w'.setCell ⟨b, o, none⟩ v) := ⟨grown_new h.gr hb o v, h.cur.setk hg o v⟩
theorem Gx.extw {g : Nat} {l : List Int} {a w w' : World} (h : Gx g l w w') (hE : Ext a w) (hg : a.heap.size ≤ g) : Ext a w' := hE.grown h.gr (fun k e => by injection e; omega)
set_option maxRecDepth 20000 in
set_option maxHeartbeats 8000000 in
theorem DrawLightOf_any (l : List Int) (A0 : Option Addr) (c0 : Nat) (w : World) (hl : l.length ≤ 1048576) (hr : RB w A0 l) :
    Calls Tryz.prog 18 #[.slice A0 l.length c0] w fun e w' => ∃ N E A B c c' S A3 c3, e = .returned (.tuple #[.agg #[.slice A N.length c, .slice B E.length c'], .slice A3 S.length c3]) ∧ N.length ≤ 14 ∧ E.length ≤ 22 ∧ S.length ≤ 41 ∧ WR w' N E A B c c' ∧ R3 w' A3 S ∧ Ext w w' := by
  obtain ⟨i0, hi, hz0, hz1, hz2⟩ := info_parts stain_info
  have HR := hide hr
  clear hr
  
  go_enter Tryz.func18, Tryz.ntmps18
  go_wp2_with fail
  obtain ⟨w0, hw⟩ : ∃ w1, w1 = w.alloc (Obj.cells #[Value.slice none 0 0, Value.slice none 0 0] 27) := ⟨_, rfl⟩; rw [← hw]; have kT : Tr [(w.heap.size, [.slice none 0 0, .slice none 0 0])] w w0 := (by rw [hw]; exact ⟨by (first | (simp [Bx, CellsAt, go_sem, *]; done) | (simp [Bx, CellsAt, go_sem, *]; omega)), by (repeat (first | exact kE | exact Ext.refl _ | apply Ext.alloc | apply Ext.drewN | apply Ext.drew | apply Ext.set0 | apply Ext.set1 | apply Ext.set2 | apply Ext.set3 | (refine Ext.setk ?_ (by omega) _) | (apply Ext.snoc; assumption)))⟩); have HT := hide kT; clear hw kT; have kT := HT.out; simp only [Tr, Bx, CellsAt, Nat.reduceAdd, Nat.zero_add, and_true] at kT; obtain ⟨⟨kz0, kf0, kc0_0, kc0_1⟩, kE⟩ := kT
  have hs0 := kz0
  refine (l01New_any l A0 c0 _ hl (HR.out.ext kE)).mono ?_; rintro e wC ⟨g, rfl, hgz, hcur, hb⟩; have HT := hide (HT.out.ext hb); have HwC := hide hb; clear hb; clear kz0 kf0 kc0_0 kc0_1 kE; have kT := HT.out; simp only [Tr, Bx, CellsAt, Nat.reduceAdd, Nat.zero_add, and_true] at kT; obtain ⟨⟨kz0, kf0, kc0_0, kc0_1⟩, kE⟩ := kT
  have HC1 := hide hcur
  clear hcur
  have hs1 := kz0
  have HX1 := hide kE
  go_wp2_with fail
  refine (l07Any_any g l _ hl HC1.out).mono ?_
  rintro e w2 ⟨N, E, A, B, c, c', rfl, hN, hE, hwb, hgx⟩
  have hgC := HC1.out.lt
  have hng : ¬ w.heap.size = g := by omega
  have HB2 := hide hwb
  have HG2 := hide hgx
  have HT' := hide (hgx.tr (by simp [Ap]; omega) HT.out)
  have hs2 := hgx.size
  clear hwb hgx
  clear kz0 kf0 kc0_0 kc0_1 kE
  clear HT; have HT := HT'; clear HT'
  have kT := HT.out; simp only [Tr, Bx, CellsAt, Nat.reduceAdd, Nat.zero_add, and_true] at kT; obtain ⟨⟨kz0, kf0, kc0_0, kc0_1⟩, kE⟩ := kT
  go_wp2_with fail
  obtain ⟨w3, hw⟩ : ∃ w1, w1 = w2.alloc (Obj.cells #[Value.slice A N.length c, Value.slice B E.length c'] 27) := ⟨_, rfl⟩; rw [← hw]; have Hw3 := hide (show Ext w2 w3 from (by (rw [hw]; (try clear kE); repeat (first | exact kE | exact Ext.refl _ | apply Ext.alloc | apply Ext.drewN | apply Ext.drew | apply Ext.set0 | apply Ext.set1 | apply Ext.set2 | apply Ext.set3 | (refine Ext.setk ?_ (by omega) _) | (apply Ext.snoc; assumption))))); have HT := hide (HT.out.more Hw3.out (w2.heap.size) [.slice A N.length c, .slice B E.length c'] (by (rw [hw]; first | (simp [CellsAt, go_sem, *]; done) | (simp [CellsAt, go_sem, *]; omega)))); have Zw3 := hide (congrArg (fun z : World => z.heap.size) hw); clear hw kz0 kf0 kc0_0 kc0_1 kE; have kT := HT.out; simp only [Tr, Bx, CellsAt, Nat.reduceAdd, Nat.zero_add, and_true] at kT; obtain ⟨⟨⟨kz0, kf0, kc0_0, kc0_1⟩, ⟨kz1, kf1, kc1_0, kc1_1⟩⟩, kE⟩ := kT
  have HB3 := hide (HB2.out.ext Hw3.out)
  have HG3 := hide (HG2.out.trans (Gx.ext HG2.out.cur Hw3.out))
  refine (sFacesOf_any N E A B c c' w3 HB3.out.wr).mono ?_
  rintro e w4 ⟨A2, c2, rfl, _, _, hb4⟩
  have HB4 := hide (HB3.out.ext hb4)
  have HG4 := hide (HG3.out.trans (Gx.ext HG3.out.cur hb4))
  have HT' := hide (show Tr [(w2.heap.size, [.slice A N.length c, .slice B E.length c']), (w.heap.size, [.slice none 0 0, .slice none 0 0])] w4 w4 from ⟨(HT.out.ext hb4).1, Ext.refl _⟩)
  have hz4 : w2.heap.size < w4.heap.size := Nat.lt_of_lt_of_le kz0 hb4.size
  have HX4 := hide (HG4.out.extw HX1.out (by omega))
  have hn40 := fcs_len (N := N) (E := E)
  obtain ⟨n, hn⟩ : ∃ n, (fcs N E).length = n := ⟨_, rfl⟩
  rw [hn] at hn40 ⊢
  have hgb : g < w2.heap.size := by omega
  clear hb4 HB2 HG2 HB3 HG3 Hw3 Zw3 hn
  clear kz0 kf0 kc0_0 kc0_1 kz1 kf1 kc1_0 kc1_1 kE
  clear HT; have HT := HT'; clear HT'
  have kT := HT.out; simp only [Tr, Bx, CellsAt, Nat.reduceAdd, Nat.zero_add, and_true] at kT; obtain ⟨⟨⟨kz0, kf0, kc0_0, kc0_1⟩, ⟨kz1, kf1, kc1_0, kc1_1⟩⟩, kE⟩ := kT
  go_wp2_with fail
  refine (l24Stains_any g n l _ hl (by omega) HG4.out.cur).mono ?_
  rintro e w5 ⟨S, A3, c3, rfl, hS, hown, hgx⟩
  have HS5 := hide hS
  have HO5 := hide hown
  have HK5 := hide hgx
  have hng2 : ¬ w2.heap.size = g := by omega
  have HT' := hide (hgx.tr (w0 := w4) (by simp [Ap]; omega) HT.out)
  have HT4 := hide HT.out
  clear hS hown hgx
  clear kz0 kf0 kc0_0 kc0_1 kz1 kf1 kc1_0 kc1_1 kE
  clear HT; have HT := HT'; clear HT'
  have kT := HT.out; simp only [Tr, Bx, CellsAt, Nat.reduceAdd, Nat.zero_add, and_true] at kT; obtain ⟨⟨⟨kz0, kf0, kc0_0, kc0_1⟩, ⟨kz1, kf1, kc1_0, kc1_1⟩⟩, kE⟩ := kT
  go_wp2_with fail
  refine (l01Below_any g 12 l _ hl (by omega) (by omega) HK5.out.cur).mono ?_; rintro e w6 ⟨x, rfl, hx0, hx1, hc1, hg1⟩
  have HK6 := hide (HK5.out.trans (Gx.mk hg1 hc1))
  have HO6 := hide (show w6.ownsRow w4.heap.size 50 3 (.slice A3 n c3) n (enc3 S) from HO5.out.kept hg1 (by
    cases hu : (Value.slice A3 n c3).ownBlock with
    | none => exact .inl rfl
    | some q => exact .inr fun e => by have := (HO5.out.lt q hu).1; injection e; omega))
  have hzz := HK6.out.size
  have HT' := hide (HK6.out.tr (w0 := w4) (by simp [Ap]; omega) HT4.out)
  clear hc1 hg1 HK5 HO5
  clear kz0 kf0 kc0_0 kc0_1 kz1 kf1 kc1_0 kc1_1 kE
  clear HT; have HT := HT'; clear HT'
  have kT := HT.out; simp only [Tr, Bx, CellsAt, Nat.reduceAdd, Nat.zero_add, and_true] at kT; obtain ⟨⟨⟨kz0, kf0, kc0_0, kc0_1⟩, ⟨kz1, kf1, kc1_0, kc1_1⟩⟩, kE⟩ := kT
  have HFIN := hide (show ∀ (wf : World) (v0 v1 : Value), Gx g l w4 wf → WR ((wf.setCell ⟨w.heap.size, 0, none⟩ v0).setCell ⟨w.heap.size, 1, none⟩ v1) N E A B c c' ∧ Ext w ((wf.setCell ⟨w.heap.size, 0, none⟩ v0).setCell ⟨w.heap.size, 1, none⟩ v1) from fun wf v0 v1 hG =>
    ⟨(((HB4.out.gx hG (by omega)).low (k := w.heap.size) (by omega) 0 v0).low (k := w.heap.size) (by omega) 1 v1).wr, ((hG.extw HX4.out (by omega)).setk (by omega) _).setk (by omega) _⟩)
  have HGA := hide (show ∀ (W : World) (o : Obj), (w6.alloc o).grownBy W (Value.slice A3 n c3).ownBlock → Gx g l w4 W from fun W o hG => by
    cases hu : (Value.slice A3 n c3).ownBlock with
    | none =>
      rw [hu] at hG
      exact HK6.out.trans (Gx.ext HK6.out.cur (((Ext.refl w6).alloc o).grown hG (fun k e => by cases e)))
    | some q =>
      rw [hu] at hG
      have := (HO6.out.lt q hu).1
      exact HK6.out.app (r := q) hG (by omega) (by omega))
  by_cases x0 : x = 0
  · subst x0
    go_upto_region 6 with fail
    go_wp2_with (at_builtin; refine wpList_append_own_at _ rfl (.tmp 20) (.tmp 22) 40 rfl w4.heap.size 50 i0 (.agg #[.int .i64 0, .int .i64 0, .int .i64 0]) 3 24 Tryz.underlying40 hi hz0 hz1 hz2 rfl (by decide) (.slice A3 n c3) n (enc3 S) rfl (own_ext HO6.out ((Ext.refl _).alloc _)) ⟨w6.heap.size, 0, none⟩ 1 1 [.int .i64 0, .int .i64 0, .int .i64 0] rfl rfl (news_new w6 #[.int .i64 0, .int .i64 0, .int .i64 0] 50) (one3n _ _ _) (by unfold maxLen; omega) (by omega) (by first | (simp; done) | (simp; omega)) ?_; intro v9 w9 hown9 hgrow9 hnil9 hloc9; clear kz0 kf0 kc0_0 kc0_1 kz1 kf1 kc1_0 kc1_1 kE; obtain ⟨A9, c9, hv, _, _, _⟩ := own_slice hown9; subst hv; have HK9 := hide (HGA.out w9 _ hgrow9); have HT9 := hide (HK9.out.tr (w0 := w4) (by simp [Ap]; omega) HT4.out); have kT := HT9.out; simp only [Tr, Bx, CellsAt, Nat.reduceAdd, Nat.zero_add, and_true] at kT; obtain ⟨⟨⟨kz0, kf0, kc0_0, kc0_1⟩, ⟨kz1, kf1, kc1_0, kc1_1⟩⟩, kE⟩ := kT)
    have HO9 := hide (show w9.ownsRow w4.heap.size 50 3 (.slice A9 (n + 1) c9) (n + 1) (enc3 (S ++ [(0, 0, 0)])) from by rw [enc3_snoc']; exact hown9)
    have hl9 : (S ++ [((0 : Int), (0 : Int), (0 : Int))]).length = n + 1 := by simp [HS5.out]
    clear hown9 hgrow9 hnil9 hloc9
    refine bodyPost_ret (v := .tuple #[.agg #[.slice A N.length c, .slice B E.length c'], .slice A9 (n + 1) c9]) (by simp only [results, Tryz.results18]; go_simp) rfl ⟨N, E, A, B, c, c', (S ++ [(0, 0, 0)]), A9, c9, by rw [hl9], hN, hE, by rw [hl9]; omega, (HFIN.out w9 _ _ HK9.out).1, (by have h := own_setk (own_setk HO9.out (k := w.heap.size) (o := 0) (by omega) (.slice A N.length c)) (k := w.heap.size) (o := 1) (by omega) (.slice B E.length c'); rw [← hl9] at h; exact Rds.of_own h), (HFIN.out w9 _ _ HK9.out).2⟩
  · have x0' : (x == 0) = false := by rw [beq_eq_false_iff_ne]; exact x0
    by_cases x1 : x = 1
    · subst x1
      by_cases n0 : n = 0
      · have hnz : ¬ (0 : Int) < (n : Int) := by omega
        go_wp2_with fail
        refine bodyPost_ret (v := .tuple #[.agg #[.slice A N.length c, .slice B E.length c'], .slice A3 n c3]) (by simp only [results, Tryz.results18]; go_simp) rfl ⟨N, E, A, B, c, c', S, A3, c3, by rw [HS5.out], hN, hE, by rw [HS5.out]; omega, (HFIN.out w6 _ _ HK6.out).1, (by have h := own_setk (own_setk HO6.out (k := w.heap.size) (o := 0) (by omega) (.slice A N.length c)) (k := w.heap.size) (o := 1) (by omega) (.slice B E.length c'); rw [← HS5.out] at h; exact Rds.of_own h), (HFIN.out w6 _ _ HK6.out).2⟩
      · have hnz : (0 : Int) < (n : Int) := by omega
        go_wp2_with fail
        refine (l23Any_any g l _ hl HK6.out.cur).mono ?_; rintro e w7 ⟨a, b, d, rfl, hc1, hg1⟩
        have HK7 := hide (HK6.out.trans (Gx.mk hg1 hc1))
        obtain ⟨r, rfl, hr1, hr2⟩ : ∃ r, A3 = some ⟨r, 0, none⟩ ∧ w4.heap.size ≤ r ∧ r < w6.heap.size := by
          obtain ⟨Aq, cq, e1, _, q0, q1⟩ := own_slice HO6.out
          injection e1 with e1 _ e2
          subst e1 e2
          cases A3 with
          | none => exact absurd (q0 rfl) (by omega)
          | some ad =>
            obtain ⟨r, rfl, q2, q4, _⟩ := q1 _ rfl
            exact ⟨r, rfl, q2, q4⟩
        have HO7 := hide (show w7.ownsRow w4.heap.size 50 3 (.slice (some ⟨r, 0, none⟩) n c3) n (enc3 S) from HO6.out.kept hg1 (.inr fun e => by have e : some g = some r := e.symm; injection e; omega))
        have HT' := hide (HK7.out.tr (w0 := w4) (by simp [Ap]; omega) HT4.out)
        clear hc1 hg1
        clear kz0 kf0 kc0_0 kc0_1 kz1 kf1 kc1_0 kc1_1 kE
        clear HT; have HT := HT'; clear HT'
        have kT := HT.out; simp only [Tr, Bx, CellsAt, Nat.reduceAdd, Nat.zero_add, and_true] at kT; obtain ⟨⟨⟨kz0, kf0, kc0_0, kc0_1⟩, ⟨kz1, kf1, kc1_0, kc1_1⟩⟩, kE⟩ := kT
        have hS0 : 0 < S.length := by rw [HS5.out]; omega
        have hg3 := enc3_get S 0 hS0
        have d0 : w7.cell? ⟨r, 0, none⟩ = some (.int .i64 S[0].1) := (HO7.out.cellAt 0 (by omega)).trans hg3.1
        have d1 : w7.cell? ⟨r, 1, none⟩ = some (.int .i64 S[0].2.1) := (HO7.out.cellAt 1 (by omega)).trans hg3.2.1
        have d2 : w7.cell? ⟨r, 2, none⟩ = some (.int .i64 S[0].2.2) := (HO7.out.cellAt 2 (by omega)).trans hg3.2.2
        have df := fun j => HO7.out.frozenAt j
        have hr3 : ¬ r = w2.heap.size := by omega
        have hr4 : ¬ r = w.heap.size := by omega
        have hr5 : r < w7.heap.size := by have := HK7.out.size; have := (HO7.out.lt r rfl).2; omega
        have HKF := hide (((HK7.out.set (b := r) (o := 0) (v := .int .i64 a) (by omega) (by omega)).set (b := r) (o := 1) (v := .int .i64 b) (by omega) (by omega)).set (b := r) (o := 2) (v := .int .i64 d) (by omega) (by omega))
        have HOF := hide (show (((w7.setCell ⟨r, 0, none⟩ (.int .i64 a)).setCell ⟨r, 1, none⟩ (.int .i64 b)).setCell ⟨r, 2, none⟩ (.int .i64 d)).ownsRow w4.heap.size 50 3 (.slice (some ⟨r, 0, none⟩) n c3) n (enc3 (S.set 0 (a, b, d))) from by
          rw [enc3_set S 0 a b d hS0]
          exact ((((HO7.out.stored 0 (.int .i64 a)).1).stored 1 (.int .i64 b)).1.stored 2 (.int .i64 d)).1)
        have hl9 : (S.set 0 (a, b, d)).length = n := by simp [HS5.out]
        clear hg3
        go_wp2_with fail
        refine bodyPost_ret (v := .tuple #[.agg #[.slice A N.length c, .slice B E.length c'], .slice (some ⟨r, 0, none⟩) n c3]) (by simp only [results, Tryz.results18]; go_simp) rfl ⟨N, E, A, B, c, c', (S.set 0 (a, b, d)), (some ⟨r, 0, none⟩), c3, by rw [hl9], hN, hE, by rw [hl9]; omega, (HFIN.out _ _ _ HKF.out).1, (by have h := own_setk (own_setk HOF.out (k := w.heap.size) (o := 0) (by omega) (.slice A N.length c)) (k := w.heap.size) (o := 1) (by omega) (.slice B E.length c'); rw [← hl9] at h; exact Rds.of_own h), (HFIN.out _ _ _ HKF.out).2⟩
    · have x1' : (x == 1) = false := by rw [beq_eq_false_iff_ne]; exact x1
      go_wp2_with fail
      refine bodyPost_ret (v := .tuple #[.agg #[.slice A N.length c, .slice B E.length c'], .slice A3 n c3]) (by simp only [results, Tryz.results18]; go_simp) rfl ⟨N, E, A, B, c, c', S, A3, c3, by rw [HS5.out], hN, hE, by rw [HS5.out]; omega, (HFIN.out w6 _ _ HK6.out).1, (by have h := own_setk (own_setk HO6.out (k := w.heap.size) (o := 0) (by omega) (.slice A N.length c)) (k := w.heap.size) (o := 1) (by omega) (.slice B E.length c'); rw [← HS5.out] at h; exact Rds.of_own h), (HFIN.out w6 _ _ HK6.out).2⟩
end Go.Proofs.YtabgcpoaepafjaaGreat
