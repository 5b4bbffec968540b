/- Words and walks for the law FnMatches, a part of them. No condition but that the arguments lie in memory. -/
import Derived.Test.YtabgcpoaepafjaaGreatU12
import Derived.Test.YtabgcpoaepafjaaGreatU13
set_option linter.unusedVariables false
set_option linter.unusedSimpArgs false
namespace Go.Proofs.YtabgcpoaepafjaaGreat
open Go.RowKit
/-- A window with rows of its own. -/
structure WN (w : World) (base : Nat) (N E : List P2) (A B : Option Addr) (c c' : Nat) : Prop where
  nodes : w.ownsRow base 84 2 (.slice A N.length c) N.length (enc2 N)
  leads : w.ownsRow base 110 2 (.slice B E.length c') E.length (enc2 E)
theorem own_setn {w : World} {base n sz k o : Nat} {T : TypeId} {v : Value} {xs : List Value} (h : w.ownsRow base T sz v n xs) (hb : ∀ j, v.ownBlock = some j → j ≠ k) (u : Value) : (w.setCell ⟨k, o, none⟩ u).ownsRow base T sz v n xs :=
  h.kept (w' := w.setCell ⟨k, o, none⟩ u) (row := some k) ⟨rfl, rfl, rfl, by simp, fun q _ hk => Below.heap_setCell _ _ _ _ (fun e => hk (by rw [e]))⟩ (.inr fun e => hb k e rfl)
theorem enc2_snoc' (l : List P2) (x y : Int) : enc2 (l ++ [(x, y)]) = enc2 l ++ [.int .i64 x, .int .i64 y] := by simp [enc2]
set_option maxRecDepth 20000 in
set_option maxHeartbeats 2000000 in
theorem AddLead_any (N E : List P2) (A B : Option Addr) (c c' : Nat) (a b : Int) (w : World) (hw : WR w N E A B c c') (hN : 0 < N.length) (hE1 : 0 < E.length) (hE2 : E.length ≤ 1000) :
    Calls Tryz.prog 127 #[.agg #[.slice A N.length c, .slice B E.length c'], .int .i64 a, .int .i64 b] w fun e w' => ∃ ok E2 A2 B2 d d', e = .returned (.tuple #[.agg #[.slice A2 N.length d, .slice B2 E2.length d'], .bool ok]) ∧ (E2 = E ∨ E2.length = E.length + 1) ∧ WN w' w.heap.size N E2 A2 B2 d d' ∧ Ext w w' := by
  obtain ⟨j0, hj, hy0, hy1, hy2⟩ := info_parts leadI_info
  have HW := hide hw
  clear hw
  
  go_enter Tryz.func127, Tryz.ntmps127
  go_wp2_with fail
  obtain ⟨w0, hw⟩ : ∃ w1, w1 = (w.alloc (Obj.cells #[Value.slice A N.length c, Value.slice B E.length c'] 27)).alloc (Obj.cells #[Value.slice none 0 0, Value.slice none 0 0] 27) := ⟨_, rfl⟩; rw [← hw]; have kT : Tr [(w.heap.size, [.slice A N.length c, .slice B E.length c']), (w.heap.size + 1, [.slice none 0 0, .slice none 0 0])] w w0 := (by rw [hw]; exact ⟨by (first | (simp [Bx, CellsAt, go_sem, *]; done) | (simp [Bx, CellsAt, go_sem, *]; omega)), by (repeat (first | exact kE | exact Ext.refl _ | apply Ext.alloc | apply Ext.drewN | apply Ext.drew | apply Ext.set0 | apply Ext.set1 | apply Ext.set2 | apply Ext.set3 | (refine Ext.setk ?_ (by omega) _) | (apply Ext.snoc; assumption)))⟩); have HT := hide kT; clear hw kT; have kT := HT.out; simp only [Tr, Bx, CellsAt, Nat.reduceAdd, Nat.zero_add, and_true] at kT; obtain ⟨⟨⟨kz0, kf0, kc0_0, kc0_1⟩, ⟨kz1, kf1, kc1_0, kc1_1⟩⟩, kE⟩ := kT
  have HC2 := hide (fun (W : World) (hE : Ext w W) => l04Copy_any N E A B c c' W (HW.out.ext hE) hN hE1)
  have HOK := hide (fun (W : World) (hE : Ext w W) => sWindowOk_any N E A B c c' W HW.out.hN HW.out.hE HW.out.hc HW.out.hd (HW.out.ext hE).hr (HW.out.ext hE).hs)
  have hNl := HW.out.hN
  refine (HC2.out _ kE).mono ?_
  rintro e wA ⟨A1, B1, d, d', rfl, ho1, ho2, hb1⟩
  have HO1 := hide ho1
  have HO2 := hide ho2
  have HZ := hide kz1
  have HZ0 := hide kz0
  have HZ1 := hide hb1.size
  have HT' := hide (HT.out.ext hb1)
  clear ho1 ho2 hb1 HT
  have HT := HT'
  clear HT'
  clear kz0 kf0 kc0_0 kc0_1 kz1 kf1 kc1_0 kc1_1 kE
  have kT := HT.out; simp only [Tr, Bx, CellsAt, Nat.reduceAdd, Nat.zero_add, and_true] at kT; obtain ⟨⟨⟨kz0, kf0, kc0_0, kc0_1⟩, ⟨kz1, kf1, kc1_0, kc1_1⟩⟩, kE⟩ := kT
  have HEA := hide kE
  go_upto_region 2 with fail
  obtain ⟨w2, hw⟩ : ∃ w1, w1 = wA.alloc (Obj.cells #[Value.slice A1 N.length d, Value.slice B1 E.length d'] 27) := ⟨_, rfl⟩; rw [← hw]; have Hw2 := hide (show Ext wA w2 from (by (rw [hw]; (try clear kE); repeat (first | exact kE | exact Ext.refl _ | apply Ext.alloc | apply Ext.drewN | apply Ext.drew | apply Ext.set0 | apply Ext.set1 | apply Ext.set2 | apply Ext.set3 | (refine Ext.setk ?_ (by omega) _) | (apply Ext.snoc; assumption))))); have HT := hide (HT.out.more Hw2.out (wA.heap.size) [.slice A1 N.length d, .slice B1 E.length d'] (by (rw [hw]; first | (simp [CellsAt, go_sem, *]; done) | (simp [CellsAt, go_sem, *]; omega)))); have Zw2 := hide (congrArg (fun z : World => z.heap.size) hw); clear hw kz0 kf0 kc0_0 kc0_1 kz1 kf1 kc1_0 kc1_1 kE; have kT := HT.out; simp only [Tr, Bx, CellsAt, Nat.reduceAdd, Nat.zero_add, and_true] at kT; obtain ⟨⟨⟨kz0, kf0, kc0_0, kc0_1⟩, ⟨kz1, kf1, kc1_0, kc1_1⟩, ⟨kz2, kf2, kc2_0, kc2_1⟩⟩, kE⟩ := kT
  have HO1' := hide (own_ext HO1.out Hw2.out)
  have HO2' := hide (own_ext HO2.out Hw2.out)
  have hszA := Hw2.out.size
  have hz0A := HZ1.out
  obtain ⟨Bq, dx, e1, _, hb0, hb1⟩ := own_slice HO2'.out
  injection e1 with e1 _ e2
  subst e1 e2
  obtain ⟨gb, rfl, hgb1, hgb2, hgb3⟩ : ∃ gb, B1 = some ⟨gb, 0, none⟩ ∧ w0.heap.size ≤ gb ∧ gb < wA.heap.size ∧ True := by
    cases B1 with
    | none => exact absurd (hb0 rfl) (by omega)
    | some ad =>
      obtain ⟨g, rfl, q1, _, q3⟩ := hb1 _ rfl
      exact ⟨g, rfl, q1, (HO2.out.lt g q3).2, trivial⟩
  clear hb0 hb1
  have HZ00 := HZ0
  by_cases hba : b < a
  · have hab : ¬ a < b := by omega
    have hwz : w.heap.size + 1 < w0.heap.size := HZ.out
    go_wp2_with (at_builtin; refine wpList_append_own_at _ rfl _ _ 25 rfl w0.heap.size 110 j0 (.agg #[.int .i64 0, .int .i64 0]) 2 16 Tryz.underlying25 hj hy0 hy1 hy2 rfl (by decide) (.slice (some ⟨gb, 0, none⟩) E.length d') E.length (enc2 E) rfl (own_ext HO2'.out ((Ext.refl _).alloc _)) ⟨w2.heap.size, 0, none⟩ 1 1 [.int .i64 b, .int .i64 a] rfl rfl (by simpa using news_new w2 #[.int .i64 b, .int .i64 a] 110) (one2n _ _) (by unfold maxLen; omega) (by omega) (by simp; omega) ?_; intro v' w4 hown4 hgrow4 hnil hloc; have HLOC := hide (show ∀ k, v'.ownBlock = some k → k ≠ wA.heap.size from fun k e => by (rcases hloc with q | q <;> rw [q] at e <;> injection e with e <;> (try simp at e) <;> omega)); have hg4 : (w2.alloc (Obj.cells #[Value.int IntKind.i64 b, Value.int IntKind.i64 a] 110)).grownBy w4 (some gb) := hgrow4; have HT4 := hide ((HT.out.ext ((Ext.refl w2).alloc _)).grownA hg4 (fun k hk => by (injection hk with hk; omega)) (by (simp [Ap, Value.ownBlock]; try omega))); clear kz0 kf0 kc0_0 kc0_1 kz1 kf1 kc1_0 kc1_1 kz2 kf2 kc2_0 kc2_1 kE; clear HT; have HT := HT4; clear HT4; have kT := HT.out; simp only [Tr, Bx, CellsAt, Nat.reduceAdd, Nat.zero_add, and_true] at kT; obtain ⟨⟨⟨kz0, kf0, kc0_0, kc0_1⟩, ⟨kz1, kf1, kc1_0, kc1_1⟩, ⟨kz2, kf2, kc2_0, kc2_1⟩⟩, kE⟩ := kT; have HO4 := hide (show w4.ownsRow w0.heap.size 110 2 v' (E.length + 1) (enc2 (E ++ [(b, a)])) from by (have h := hown4; rw [← enc2_snoc'] at h; exact h)); have HN4 := hide (show w4.ownsRow w0.heap.size 84 2 (.slice A1 N.length d) N.length (enc2 N) from (own_ext HO1'.out ((Ext.refl _).alloc _)).kept hg4 (.inr (by first | exact fun e => own_apart2 HO1'.out HO2'.out (by decide) _ e rfl | exact fun e => own_apart2 HO1'.out HO2'.out (by decide) _ e.symm rfl))); obtain ⟨B2, c2, rfl, _⟩ := own_slice hown4; have hgs4 := hg4.size; clear hown4 hg4 hgrow4 hnil hloc)
    have HN5 := hide (own_setn (k := wA.heap.size) HN4.out (o := 1) (fun k e => by have := (HO1.out.lt k e).2; omega) (.slice B2 (E.length + 1) c2))
    have HO5 := hide (own_setn (k := wA.heap.size) HO4.out (o := 1) HLOC.out (.slice B2 (E.length + 1) c2))
    clear HT
    have kEA := HEA.out
    
    obtain ⟨w5, hw⟩ : ∃ w1, w1 = w4.setCell ⟨wA.heap.size, 1, none⟩ (.slice B2 (E.length + 1) c2) := ⟨_, rfl⟩; rw [← hw]; have kT : Tr [(wA.heap.size, [.slice A1 N.length d, .slice B2 (E.length + 1) c2]), (w.heap.size, [.slice A N.length c, .slice B E.length c']), (w.heap.size + 1, [.slice none 0 0, .slice none 0 0])] w w5 := (by rw [hw]; exact ⟨by (first | (simp [Bx, CellsAt, go_sem, *]; done) | (simp [Bx, CellsAt, go_sem, *]; omega)), by (repeat (first | exact kE | exact Ext.refl _ | apply Ext.alloc | apply Ext.drewN | apply Ext.drew | apply Ext.set0 | apply Ext.set1 | apply Ext.set2 | apply Ext.set3 | (refine Ext.setk ?_ (by omega) _) | (apply Ext.snoc; assumption)))⟩); have HT := hide kT; clear kT; have kT := HT.out; simp only [Tr, Bx, CellsAt, Nat.reduceAdd, Nat.zero_add, and_true] at kT; obtain ⟨⟨⟨kz0, kf0, kc0_0, kc0_1⟩, ⟨kz1, kf1, kc1_0, kc1_1⟩, ⟨kz2, kf2, kc2_0, kc2_1⟩⟩, kE⟩ := kT
    rw [← hw] at HN5 HO5
    clear hw HN4 HO4 HLOC
    clear kEA
    have HE5 := hide kE
    have HW5 := hide (show WR w5 N (E ++ [(b, a)]) A1 B2 d c2 from by
      obtain ⟨_, _, q1, h1, _⟩ := own_slice HN5.out
      obtain ⟨_, _, q2, h2, _⟩ := own_slice HO5.out
      injection q1 with _ _ q1
      injection q2 with _ _ q2
      exact ⟨hNl, by simp; omega, by omega, by simp; omega, Rds.of_own HN5.out, by have h := Rds.of_own HO5.out; simpa [R2] using h⟩)
    refine (HOK.out _ kE).mono ?_
    rintro e w6 ⟨rfl, hb6⟩
    have HN6 := hide (own_ext HN5.out hb6)
    have HO6 := hide (own_ext HO5.out hb6)
    have HW6 := hide (HW5.out.ext hb6)
    have HT' := hide (HT.out.ext hb6)
    clear hb6 HT
    have HT := HT'
    clear HT'
    clear kz0 kf0 kc0_0 kc0_1 kz1 kf1 kc1_0 kc1_1 kz2 kf2 kc2_0 kc2_1 kE
    have kT := HT.out; simp only [Tr, Bx, CellsAt, Nat.reduceAdd, Nat.zero_add, and_true] at kT; obtain ⟨⟨⟨kz0, kf0, kc0_0, kc0_1⟩, ⟨kz1, kf1, kc1_0, kc1_1⟩, ⟨kz2, kf2, kc2_0, kc2_1⟩⟩, kE⟩ := kT
    cases hp : windowB N E with
    | false =>
      go_wp2_with fail
      refine (HC2.out _ kE).mono ?_
      rintro e w8 ⟨A8, B8, d8, d8', rfl, ho1, ho2, hb8⟩
      have HO8 := hide ho1
      have HP8 := hide ho2
      have HZ8 := hide (And.intro kz2 hb8.size)
      have hwle := kz1
      have HT' := hide (HT.out.ext hb8)
      clear ho1 ho2 hb8 HT
      have HT := HT'
      clear HT'
      clear kz0 kf0 kc0_0 kc0_1 kz1 kf1 kc1_0 kc1_1 kz2 kf2 kc2_0 kc2_1 kE
      have kT := HT.out; simp only [Tr, Bx, CellsAt, Nat.reduceAdd, Nat.zero_add, and_true] at kT; obtain ⟨⟨⟨kz0, kf0, kc0_0, kc0_1⟩, ⟨kz1, kf1, kc1_0, kc1_1⟩, ⟨kz2, kf2, kc2_0, kc2_1⟩⟩, kE⟩ := kT
      have hz8 := HZ8.out
      go_wp2_with fail
      refine bodyPost_ret (v := .tuple #[.agg #[.slice A8 N.length d8, .slice B8 E.length d8'], .bool false]) (by simp only [results, Tryz.results127]; go_simp) rfl ⟨false, E, A8, B8, d8, d8', rfl, .inl rfl, ⟨own_mono (own_setk (own_setk HO8.out hz8.1 _) hz8.1 _) (by omega), own_mono (own_setk (own_setk HP8.out hz8.1 _) hz8.1 _) (by omega)⟩, (kE.setk (by omega) _).setk (by omega) _⟩
    | true =>
      have HK := sWindowOk_any N (E ++ [(b, a)]) A1 B2 d c2 w6 HW6.out.hN HW6.out.hE HW6.out.hc HW6.out.hd HW6.out.hr HW6.out.hs
      rw [show (E ++ [(b, a)]).length = E.length + 1 by simp] at HK
      have HKH := hide HK
      clear HK
      go_wp2_with fail
      refine HKH.out.mono ?_
      clear HKH
      rintro e w7 ⟨rfl, hb7⟩
      have HN7 := hide (own_ext HN6.out hb7)
      have HO7 := hide (own_ext HO6.out hb7)
      have HT' := hide (HT.out.ext hb7)
      clear hb7 HT
      have HT := HT'
      clear HT'
      clear kz0 kf0 kc0_0 kc0_1 kz1 kf1 kc1_0 kc1_1 kz2 kf2 kc2_0 kc2_1 kE
      have kT := HT.out; simp only [Tr, Bx, CellsAt, Nat.reduceAdd, Nat.zero_add, and_true] at kT; obtain ⟨⟨⟨kz0, kf0, kc0_0, kc0_1⟩, ⟨kz1, kf1, kc1_0, kc1_1⟩, ⟨kz2, kf2, kc2_0, kc2_1⟩⟩, kE⟩ := kT
      cases hr : windowB N (E ++ [(b, a)]) with
      | false =>
        go_wp2_with fail
        refine (HC2.out _ kE).mono ?_
        rintro e w8 ⟨A8, B8, d8, d8', rfl, ho1, ho2, hb8⟩
        have HO8 := hide ho1
        have HP8 := hide ho2
        have HZ8 := hide (And.intro kz2 hb8.size)
        have hwle := kz1
        have HT' := hide (HT.out.ext hb8)
        clear ho1 ho2 hb8 HT
        have HT := HT'
        clear HT'
        clear kz0 kf0 kc0_0 kc0_1 kz1 kf1 kc1_0 kc1_1 kz2 kf2 kc2_0 kc2_1 kE
        have kT := HT.out; simp only [Tr, Bx, CellsAt, Nat.reduceAdd, Nat.zero_add, and_true] at kT; obtain ⟨⟨⟨kz0, kf0, kc0_0, kc0_1⟩, ⟨kz1, kf1, kc1_0, kc1_1⟩, ⟨kz2, kf2, kc2_0, kc2_1⟩⟩, kE⟩ := kT
        have hz8 := HZ8.out
        go_wp2_with fail
        refine bodyPost_ret (v := .tuple #[.agg #[.slice A8 N.length d8, .slice B8 E.length d8'], .bool false]) (by simp only [results, Tryz.results127]; go_simp) rfl ⟨false, E, A8, B8, d8, d8', rfl, .inl rfl, ⟨own_mono (own_setk (own_setk HO8.out hz8.1 _) hz8.1 _) (by omega), own_mono (own_setk (own_setk HP8.out hz8.1 _) hz8.1 _) (by omega)⟩, (kE.setk (by omega) _).setk (by omega) _⟩
      | true =>
        go_wp2_with fail
        have hz9 := HZ.out
        refine bodyPost_ret (v := .tuple #[.agg #[.slice A1 N.length d, .slice B2 (E.length + 1) c2], .bool true]) (by simp only [results, Tryz.results127]; go_simp) rfl ⟨true, E ++ [(b, a)], A1, B2, d, c2, by simp only [List.length_append, List.length_singleton], .inr (by simp), ⟨own_mono (own_setk (own_setk HN7.out hz9 _) hz9 _) (by omega), by
          have h := own_mono (own_setk (own_setk HO7.out hz9 (o := 0) (.slice A1 N.length d)) hz9 (o := 1) (.slice B2 (E.length + 1) c2)) (show w.heap.size ≤ w0.heap.size by omega)
          simpa using h⟩, (kE.setk (by omega) _).setk (by omega) _⟩

  · by_cases hab : a < b
    · skip
      have hwz : w.heap.size + 1 < w0.heap.size := HZ.out
      go_wp2_with (at_builtin; refine wpList_append_own_at _ rfl _ _ 25 rfl w0.heap.size 110 j0 (.agg #[.int .i64 0, .int .i64 0]) 2 16 Tryz.underlying25 hj hy0 hy1 hy2 rfl (by decide) (.slice (some ⟨gb, 0, none⟩) E.length d') E.length (enc2 E) rfl (own_ext HO2'.out ((Ext.refl _).alloc _)) ⟨w2.heap.size, 0, none⟩ 1 1 [.int .i64 a, .int .i64 b] rfl rfl (by simpa using news_new w2 #[.int .i64 a, .int .i64 b] 110) (one2n _ _) (by unfold maxLen; omega) (by omega) (by simp; omega) ?_; intro v' w4 hown4 hgrow4 hnil hloc; have HLOC := hide (show ∀ k, v'.ownBlock = some k → k ≠ wA.heap.size from fun k e => by (rcases hloc with q | q <;> rw [q] at e <;> injection e with e <;> (try simp at e) <;> omega)); have hg4 : (w2.alloc (Obj.cells #[Value.int IntKind.i64 a, Value.int IntKind.i64 b] 110)).grownBy w4 (some gb) := hgrow4; have HT4 := hide ((HT.out.ext ((Ext.refl w2).alloc _)).grownA hg4 (fun k hk => by (injection hk with hk; omega)) (by (simp [Ap, Value.ownBlock]; try omega))); clear kz0 kf0 kc0_0 kc0_1 kz1 kf1 kc1_0 kc1_1 kz2 kf2 kc2_0 kc2_1 kE; clear HT; have HT := HT4; clear HT4; have kT := HT.out; simp only [Tr, Bx, CellsAt, Nat.reduceAdd, Nat.zero_add, and_true] at kT; obtain ⟨⟨⟨kz0, kf0, kc0_0, kc0_1⟩, ⟨kz1, kf1, kc1_0, kc1_1⟩, ⟨kz2, kf2, kc2_0, kc2_1⟩⟩, kE⟩ := kT; have HO4 := hide (show w4.ownsRow w0.heap.size 110 2 v' (E.length + 1) (enc2 (E ++ [(a, b)])) from by (have h := hown4; rw [← enc2_snoc'] at h; exact h)); have HN4 := hide (show w4.ownsRow w0.heap.size 84 2 (.slice A1 N.length d) N.length (enc2 N) from (own_ext HO1'.out ((Ext.refl _).alloc _)).kept hg4 (.inr (by first | exact fun e => own_apart2 HO1'.out HO2'.out (by decide) _ e rfl | exact fun e => own_apart2 HO1'.out HO2'.out (by decide) _ e.symm rfl))); obtain ⟨B2, c2, rfl, _⟩ := own_slice hown4; have hgs4 := hg4.size; clear hown4 hg4 hgrow4 hnil hloc)
      have HN5 := hide (own_setn (k := wA.heap.size) HN4.out (o := 1) (fun k e => by have := (HO1.out.lt k e).2; omega) (.slice B2 (E.length + 1) c2))
      have HO5 := hide (own_setn (k := wA.heap.size) HO4.out (o := 1) HLOC.out (.slice B2 (E.length + 1) c2))
      clear HT
      have kEA := HEA.out
      
      obtain ⟨w5, hw⟩ : ∃ w1, w1 = w4.setCell ⟨wA.heap.size, 1, none⟩ (.slice B2 (E.length + 1) c2) := ⟨_, rfl⟩; rw [← hw]; have kT : Tr [(wA.heap.size, [.slice A1 N.length d, .slice B2 (E.length + 1) c2]), (w.heap.size, [.slice A N.length c, .slice B E.length c']), (w.heap.size + 1, [.slice none 0 0, .slice none 0 0])] w w5 := (by rw [hw]; exact ⟨by (first | (simp [Bx, CellsAt, go_sem, *]; done) | (simp [Bx, CellsAt, go_sem, *]; omega)), by (repeat (first | exact kE | exact Ext.refl _ | apply Ext.alloc | apply Ext.drewN | apply Ext.drew | apply Ext.set0 | apply Ext.set1 | apply Ext.set2 | apply Ext.set3 | (refine Ext.setk ?_ (by omega) _) | (apply Ext.snoc; assumption)))⟩); have HT := hide kT; clear kT; have kT := HT.out; simp only [Tr, Bx, CellsAt, Nat.reduceAdd, Nat.zero_add, and_true] at kT; obtain ⟨⟨⟨kz0, kf0, kc0_0, kc0_1⟩, ⟨kz1, kf1, kc1_0, kc1_1⟩, ⟨kz2, kf2, kc2_0, kc2_1⟩⟩, kE⟩ := kT
      rw [← hw] at HN5 HO5
      clear hw HN4 HO4 HLOC
      clear kEA
      have HE5 := hide kE
      have HW5 := hide (show WR w5 N (E ++ [(a, b)]) A1 B2 d c2 from by
        obtain ⟨_, _, q1, h1, _⟩ := own_slice HN5.out
        obtain ⟨_, _, q2, h2, _⟩ := own_slice HO5.out
        injection q1 with _ _ q1
        injection q2 with _ _ q2
        exact ⟨hNl, by simp; omega, by omega, by simp; omega, Rds.of_own HN5.out, by have h := Rds.of_own HO5.out; simpa [R2] using h⟩)
      refine (HOK.out _ kE).mono ?_
      rintro e w6 ⟨rfl, hb6⟩
      have HN6 := hide (own_ext HN5.out hb6)
      have HO6 := hide (own_ext HO5.out hb6)
      have HW6 := hide (HW5.out.ext hb6)
      have HT' := hide (HT.out.ext hb6)
      clear hb6 HT
      have HT := HT'
      clear HT'
      clear kz0 kf0 kc0_0 kc0_1 kz1 kf1 kc1_0 kc1_1 kz2 kf2 kc2_0 kc2_1 kE
      have kT := HT.out; simp only [Tr, Bx, CellsAt, Nat.reduceAdd, Nat.zero_add, and_true] at kT; obtain ⟨⟨⟨kz0, kf0, kc0_0, kc0_1⟩, ⟨kz1, kf1, kc1_0, kc1_1⟩, ⟨kz2, kf2, kc2_0, kc2_1⟩⟩, kE⟩ := kT
      cases hp : windowB N E with
      | false =>
        go_wp2_with fail
        refine (HC2.out _ kE).mono ?_
        rintro e w8 ⟨A8, B8, d8, d8', rfl, ho1, ho2, hb8⟩
        have HO8 := hide ho1
        have HP8 := hide ho2
        have HZ8 := hide (And.intro kz2 hb8.size)
        have hwle := kz1
        have HT' := hide (HT.out.ext hb8)
        clear ho1 ho2 hb8 HT
        have HT := HT'
        clear HT'
        clear kz0 kf0 kc0_0 kc0_1 kz1 kf1 kc1_0 kc1_1 kz2 kf2 kc2_0 kc2_1 kE
        have kT := HT.out; simp only [Tr, Bx, CellsAt, Nat.reduceAdd, Nat.zero_add, and_true] at kT; obtain ⟨⟨⟨kz0, kf0, kc0_0, kc0_1⟩, ⟨kz1, kf1, kc1_0, kc1_1⟩, ⟨kz2, kf2, kc2_0, kc2_1⟩⟩, kE⟩ := kT
        have hz8 := HZ8.out
        go_wp2_with fail
        refine bodyPost_ret (v := .tuple #[.agg #[.slice A8 N.length d8, .slice B8 E.length d8'], .bool false]) (by simp only [results, Tryz.results127]; go_simp) rfl ⟨false, E, A8, B8, d8, d8', rfl, .inl rfl, ⟨own_mono (own_setk (own_setk HO8.out hz8.1 _) hz8.1 _) (by omega), own_mono (own_setk (own_setk HP8.out hz8.1 _) hz8.1 _) (by omega)⟩, (kE.setk (by omega) _).setk (by omega) _⟩
      | true =>
        have HK := sWindowOk_any N (E ++ [(a, b)]) A1 B2 d c2 w6 HW6.out.hN HW6.out.hE HW6.out.hc HW6.out.hd HW6.out.hr HW6.out.hs
        rw [show (E ++ [(a, b)]).length = E.length + 1 by simp] at HK
        have HKH := hide HK
        clear HK
        go_wp2_with fail
        refine HKH.out.mono ?_
        clear HKH
        rintro e w7 ⟨rfl, hb7⟩
        have HN7 := hide (own_ext HN6.out hb7)
        have HO7 := hide (own_ext HO6.out hb7)
        have HT' := hide (HT.out.ext hb7)
        clear hb7 HT
        have HT := HT'
        clear HT'
        clear kz0 kf0 kc0_0 kc0_1 kz1 kf1 kc1_0 kc1_1 kz2 kf2 kc2_0 kc2_1 kE
        have kT := HT.out; simp only [Tr, Bx, CellsAt, Nat.reduceAdd, Nat.zero_add, and_true] at kT; obtain ⟨⟨⟨kz0, kf0, kc0_0, kc0_1⟩, ⟨kz1, kf1, kc1_0, kc1_1⟩, ⟨kz2, kf2, kc2_0, kc2_1⟩⟩, kE⟩ := kT
        cases hr : windowB N (E ++ [(a, b)]) with
        | false =>
          go_wp2_with fail
          refine (HC2.out _ kE).mono ?_
          rintro e w8 ⟨A8, B8, d8, d8', rfl, ho1, ho2, hb8⟩
          have HO8 := hide ho1
          have HP8 := hide ho2
          have HZ8 := hide (And.intro kz2 hb8.size)
          have hwle := kz1
          have HT' := hide (HT.out.ext hb8)
          clear ho1 ho2 hb8 HT
          have HT := HT'
          clear HT'
          clear kz0 kf0 kc0_0 kc0_1 kz1 kf1 kc1_0 kc1_1 kz2 kf2 kc2_0 kc2_1 kE
          have kT := HT.out; simp only [Tr, Bx, CellsAt, Nat.reduceAdd, Nat.zero_add, and_true] at kT; obtain ⟨⟨⟨kz0, kf0, kc0_0, kc0_1⟩, ⟨kz1, kf1, kc1_0, kc1_1⟩, ⟨kz2, kf2, kc2_0, kc2_1⟩⟩, kE⟩ := kT
          have hz8 := HZ8.out
          go_wp2_with fail
          refine bodyPost_ret (v := .tuple #[.agg #[.slice A8 N.length d8, .slice B8 E.length d8'], .bool false]) (by simp only [results, Tryz.results127]; go_simp) rfl ⟨false, E, A8, B8, d8, d8', rfl, .inl rfl, ⟨own_mono (own_setk (own_setk HO8.out hz8.1 _) hz8.1 _) (by omega), own_mono (own_setk (own_setk HP8.out hz8.1 _) hz8.1 _) (by omega)⟩, (kE.setk (by omega) _).setk (by omega) _⟩
        | true =>
          go_wp2_with fail
          have hz9 := HZ.out
          refine bodyPost_ret (v := .tuple #[.agg #[.slice A1 N.length d, .slice B2 (E.length + 1) c2], .bool true]) (by simp only [results, Tryz.results127]; go_simp) rfl ⟨true, E ++ [(a, b)], A1, B2, d, c2, by simp only [List.length_append, List.length_singleton], .inr (by simp), ⟨own_mono (own_setk (own_setk HN7.out hz9 _) hz9 _) (by omega), by
            have h := own_mono (own_setk (own_setk HO7.out hz9 (o := 0) (.slice A1 N.length d)) hz9 (o := 1) (.slice B2 (E.length + 1) c2)) (show w.heap.size ≤ w0.heap.size by omega)
            simpa using h⟩, (kE.setk (by omega) _).setk (by omega) _⟩

    · obtain rfl : a = b := by omega
      have hwz : w.heap.size + 1 < w0.heap.size := HZ.out
      go_wp2_with (at_builtin; refine wpList_append_own_at _ rfl _ _ 25 rfl w0.heap.size 110 j0 (.agg #[.int .i64 0, .int .i64 0]) 2 16 Tryz.underlying25 hj hy0 hy1 hy2 rfl (by decide) (.slice (some ⟨gb, 0, none⟩) E.length d') E.length (enc2 E) rfl (own_ext HO2'.out ((Ext.refl _).alloc _)) ⟨w2.heap.size, 0, none⟩ 1 1 [.int .i64 a, .int .i64 a] rfl rfl (by simpa using news_new w2 #[.int .i64 a, .int .i64 a] 110) (one2n _ _) (by unfold maxLen; omega) (by omega) (by simp; omega) ?_; intro v' w4 hown4 hgrow4 hnil hloc; have HLOC := hide (show ∀ k, v'.ownBlock = some k → k ≠ wA.heap.size from fun k e => by (rcases hloc with q | q <;> rw [q] at e <;> injection e with e <;> (try simp at e) <;> omega)); have hg4 : (w2.alloc (Obj.cells #[Value.int IntKind.i64 a, Value.int IntKind.i64 a] 110)).grownBy w4 (some gb) := hgrow4; have HT4 := hide ((HT.out.ext ((Ext.refl w2).alloc _)).grownA hg4 (fun k hk => by (injection hk with hk; omega)) (by (simp [Ap, Value.ownBlock]; try omega))); clear kz0 kf0 kc0_0 kc0_1 kz1 kf1 kc1_0 kc1_1 kz2 kf2 kc2_0 kc2_1 kE; clear HT; have HT := HT4; clear HT4; have kT := HT.out; simp only [Tr, Bx, CellsAt, Nat.reduceAdd, Nat.zero_add, and_true] at kT; obtain ⟨⟨⟨kz0, kf0, kc0_0, kc0_1⟩, ⟨kz1, kf1, kc1_0, kc1_1⟩, ⟨kz2, kf2, kc2_0, kc2_1⟩⟩, kE⟩ := kT; have HO4 := hide (show w4.ownsRow w0.heap.size 110 2 v' (E.length + 1) (enc2 (E ++ [(a, a)])) from by (have h := hown4; rw [← enc2_snoc'] at h; exact h)); have HN4 := hide (show w4.ownsRow w0.heap.size 84 2 (.slice A1 N.length d) N.length (enc2 N) from (own_ext HO1'.out ((Ext.refl _).alloc _)).kept hg4 (.inr (by first | exact fun e => own_apart2 HO1'.out HO2'.out (by decide) _ e rfl | exact fun e => own_apart2 HO1'.out HO2'.out (by decide) _ e.symm rfl))); obtain ⟨B2, c2, rfl, _⟩ := own_slice hown4; have hgs4 := hg4.size; clear hown4 hg4 hgrow4 hnil hloc)
      have HN5 := hide (own_setn (k := wA.heap.size) HN4.out (o := 1) (fun k e => by have := (HO1.out.lt k e).2; omega) (.slice B2 (E.length + 1) c2))
      have HO5 := hide (own_setn (k := wA.heap.size) HO4.out (o := 1) HLOC.out (.slice B2 (E.length + 1) c2))
      clear HT
      have kEA := HEA.out
      
      obtain ⟨w5, hw⟩ : ∃ w1, w1 = w4.setCell ⟨wA.heap.size, 1, none⟩ (.slice B2 (E.length + 1) c2) := ⟨_, rfl⟩; rw [← hw]; have kT : Tr [(wA.heap.size, [.slice A1 N.length d, .slice B2 (E.length + 1) c2]), (w.heap.size, [.slice A N.length c, .slice B E.length c']), (w.heap.size + 1, [.slice none 0 0, .slice none 0 0])] w w5 := (by rw [hw]; exact ⟨by (first | (simp [Bx, CellsAt, go_sem, *]; done) | (simp [Bx, CellsAt, go_sem, *]; omega)), by (repeat (first | exact kE | exact Ext.refl _ | apply Ext.alloc | apply Ext.drewN | apply Ext.drew | apply Ext.set0 | apply Ext.set1 | apply Ext.set2 | apply Ext.set3 | (refine Ext.setk ?_ (by omega) _) | (apply Ext.snoc; assumption)))⟩); have HT := hide kT; clear kT; have kT := HT.out; simp only [Tr, Bx, CellsAt, Nat.reduceAdd, Nat.zero_add, and_true] at kT; obtain ⟨⟨⟨kz0, kf0, kc0_0, kc0_1⟩, ⟨kz1, kf1, kc1_0, kc1_1⟩, ⟨kz2, kf2, kc2_0, kc2_1⟩⟩, kE⟩ := kT
      rw [← hw] at HN5 HO5
      clear hw HN4 HO4 HLOC
      clear kEA
      have HE5 := hide kE
      have HW5 := hide (show WR w5 N (E ++ [(a, a)]) A1 B2 d c2 from by
        obtain ⟨_, _, q1, h1, _⟩ := own_slice HN5.out
        obtain ⟨_, _, q2, h2, _⟩ := own_slice HO5.out
        injection q1 with _ _ q1
        injection q2 with _ _ q2
        exact ⟨hNl, by simp; omega, by omega, by simp; omega, Rds.of_own HN5.out, by have h := Rds.of_own HO5.out; simpa [R2] using h⟩)
      refine (HOK.out _ kE).mono ?_
      rintro e w6 ⟨rfl, hb6⟩
      have HN6 := hide (own_ext HN5.out hb6)
      have HO6 := hide (own_ext HO5.out hb6)
      have HW6 := hide (HW5.out.ext hb6)
      have HT' := hide (HT.out.ext hb6)
      clear hb6 HT
      have HT := HT'
      clear HT'
      clear kz0 kf0 kc0_0 kc0_1 kz1 kf1 kc1_0 kc1_1 kz2 kf2 kc2_0 kc2_1 kE
      have kT := HT.out; simp only [Tr, Bx, CellsAt, Nat.reduceAdd, Nat.zero_add, and_true] at kT; obtain ⟨⟨⟨kz0, kf0, kc0_0, kc0_1⟩, ⟨kz1, kf1, kc1_0, kc1_1⟩, ⟨kz2, kf2, kc2_0, kc2_1⟩⟩, kE⟩ := kT
      cases hp : windowB N E with
      | false =>
        go_wp2_with fail
        refine (HC2.out _ kE).mono ?_
        rintro e w8 ⟨A8, B8, d8, d8', rfl, ho1, ho2, hb8⟩
        have HO8 := hide ho1
        have HP8 := hide ho2
        have HZ8 := hide (And.intro kz2 hb8.size)
        have hwle := kz1
        have HT' := hide (HT.out.ext hb8)
        clear ho1 ho2 hb8 HT
        have HT := HT'
        clear HT'
        clear kz0 kf0 kc0_0 kc0_1 kz1 kf1 kc1_0 kc1_1 kz2 kf2 kc2_0 kc2_1 kE
        have kT := HT.out; simp only [Tr, Bx, CellsAt, Nat.reduceAdd, Nat.zero_add, and_true] at kT; obtain ⟨⟨⟨kz0, kf0, kc0_0, kc0_1⟩, ⟨kz1, kf1, kc1_0, kc1_1⟩, ⟨kz2, kf2, kc2_0, kc2_1⟩⟩, kE⟩ := kT
        have hz8 := HZ8.out
        go_wp2_with fail
        refine bodyPost_ret (v := .tuple #[.agg #[.slice A8 N.length d8, .slice B8 E.length d8'], .bool false]) (by simp only [results, Tryz.results127]; go_simp) rfl ⟨false, E, A8, B8, d8, d8', rfl, .inl rfl, ⟨own_mono (own_setk (own_setk HO8.out hz8.1 _) hz8.1 _) (by omega), own_mono (own_setk (own_setk HP8.out hz8.1 _) hz8.1 _) (by omega)⟩, (kE.setk (by omega) _).setk (by omega) _⟩
      | true =>
        have HK := sWindowOk_any N (E ++ [(a, a)]) A1 B2 d c2 w6 HW6.out.hN HW6.out.hE HW6.out.hc HW6.out.hd HW6.out.hr HW6.out.hs
        rw [show (E ++ [(a, a)]).length = E.length + 1 by simp] at HK
        have HKH := hide HK
        clear HK
        go_wp2_with fail
        refine HKH.out.mono ?_
        clear HKH
        rintro e w7 ⟨rfl, hb7⟩
        have HN7 := hide (own_ext HN6.out hb7)
        have HO7 := hide (own_ext HO6.out hb7)
        have HT' := hide (HT.out.ext hb7)
        clear hb7 HT
        have HT := HT'
        clear HT'
        clear kz0 kf0 kc0_0 kc0_1 kz1 kf1 kc1_0 kc1_1 kz2 kf2 kc2_0 kc2_1 kE
        have kT := HT.out; simp only [Tr, Bx, CellsAt, Nat.reduceAdd, Nat.zero_add, and_true] at kT; obtain ⟨⟨⟨kz0, kf0, kc0_0, kc0_1⟩, ⟨kz1, kf1, kc1_0, kc1_1⟩, ⟨kz2, kf2, kc2_0, kc2_1⟩⟩, kE⟩ := kT
        cases hr : windowB N (E ++ [(a, a)]) with
        | false =>
          go_wp2_with fail
          refine (HC2.out _ kE).mono ?_
          rintro e w8 ⟨A8, B8, d8, d8', rfl, ho1, ho2, hb8⟩
          have HO8 := hide ho1
          have HP8 := hide ho2
          have HZ8 := hide (And.intro kz2 hb8.size)
          have hwle := kz1
          have HT' := hide (HT.out.ext hb8)
          clear ho1 ho2 hb8 HT
          have HT := HT'
          clear HT'
          clear kz0 kf0 kc0_0 kc0_1 kz1 kf1 kc1_0 kc1_1 kz2 kf2 kc2_0 kc2_1 kE
          have kT := HT.out; simp only [Tr, Bx, CellsAt, Nat.reduceAdd, Nat.zero_add, and_true] at kT; obtain ⟨⟨⟨kz0, kf0, kc0_0, kc0_1⟩, ⟨kz1, kf1, kc1_0, kc1_1⟩, ⟨kz2, kf2, kc2_0, kc2_1⟩⟩, kE⟩ := kT
          have hz8 := HZ8.out
          go_wp2_with fail
          refine bodyPost_ret (v := .tuple #[.agg #[.slice A8 N.length d8, .slice B8 E.length d8'], .bool false]) (by simp only [results, Tryz.results127]; go_simp) rfl ⟨false, E, A8, B8, d8, d8', rfl, .inl rfl, ⟨own_mono (own_setk (own_setk HO8.out hz8.1 _) hz8.1 _) (by omega), own_mono (own_setk (own_setk HP8.out hz8.1 _) hz8.1 _) (by omega)⟩, (kE.setk (by omega) _).setk (by omega) _⟩
        | true =>
          go_wp2_with fail
          have hz9 := HZ.out
          refine bodyPost_ret (v := .tuple #[.agg #[.slice A1 N.length d, .slice B2 (E.length + 1) c2], .bool true]) (by simp only [results, Tryz.results127]; go_simp) rfl ⟨true, E ++ [(a, a)], A1, B2, d, c2, by simp only [List.length_append, List.length_singleton], .inr (by simp), ⟨own_mono (own_setk (own_setk HN7.out hz9 _) hz9 _) (by omega), by
            have h := own_mono (own_setk (own_setk HO7.out hz9 (o := 0) (.slice A1 N.length d)) hz9 (o := 1) (.slice B2 (E.length + 1) c2)) (show w.heap.size ≤ w0.heap.size by omega)
            simpa using h⟩, (kE.setk (by omega) _).setk (by omega) _⟩
end Go.Proofs.YtabgcpoaepafjaaGreat
namespace Go.Proofs.YtabgcpoaepafjaaGreat
open Go.RowKit
section
variable {w w' : World} {g : Nat}
theorem grown_cells (h : w.grownBy w' (some g)) : ∀ q o, q < w.heap.size → q ≠ g → w'.cell? ⟨q, o, none⟩ = w.cell? ⟨q, o, none⟩ := fun q o hq hn => by
  simp only [World.cell?]
  rw [h.block q hq (fun e => hn (by injection e))]
theorem grown_frz (h : w.grownBy w' (some g)) : ∀ q o, q < w.heap.size → q ≠ g → w'.frozen? ⟨q, o, none⟩ = w.frozen? ⟨q, o, none⟩ := fun q o hq hn => by
  simp only [World.frozen?]
  rw [h.block q hq (fun e => hn (by injection e))]
theorem grown_lt (h : w.grownBy w' (some g)) : ∀ q, q < w.heap.size → q < w'.heap.size := fun q hq => Nat.lt_of_lt_of_le hq h.size
theorem grown_new (h : w.grownBy w' (some g)) {k : Nat} (hk : w.heap.size ≤ k) (i : Nat) (v : Value) : w.grownBy (w'.setCell ⟨k, i, none⟩ v) (some g) :=
  ⟨h.os, h.tape, h.output, by simpa using h.size, fun q hq hn => (Below.heap_setCell _ _ _ _ (show q ≠ k by omega)).trans (h.block q hq hn)⟩
end
set_option maxRecDepth 20000 in
set_option maxHeartbeats 1000000 in
theorem l02Node_any (g : Nat) (l : List Int) (w : World) (hl : l.length ≤ 1048576) (hc : Cur w g l) :
    Calls Tryz.prog 129 #[.pointer (some ⟨g, 0, none⟩)] w fun e w' => ∃ x y, e = .returned (.agg #[.int .i64 x, .int .i64 y]) ∧ (0 ≤ x ∧ x ≤ 12 ∧ 0 ≤ y ∧ y ≤ 12) ∧ Cur w' g l ∧ w.grownBy w' (some g) := by
  have HC := hide hc
  have hgl := hc.lt
  clear hc
  
  go_enter Tryz.func129, Tryz.ntmps129
  go_wp2_with fail
  obtain ⟨w0, hw⟩ : ∃ w0, w0 = w.alloc (Obj.cells #[Value.int IntKind.i64 0, Value.int IntKind.i64 0] 84) := ⟨_, rfl⟩
  have c0 : ∃ v, w0.cell? ⟨w.heap.size, 0, none⟩ = some v := ⟨.int .i64 0, by rw [hw]; simp [go_sem]⟩
  have c1 : ∃ v, w0.cell? ⟨w.heap.size, 1, none⟩ = some v := ⟨.int .i64 0, by rw [hw]; simp [go_sem]⟩
  have cf : ∀ i, w0.frozen? ⟨w.heap.size, i, none⟩ = false := by intro i; rw [hw]; simp [go_sem]
  have cz : w.heap.size < w0.heap.size := by rw [hw]; simp
  have hc0 : Cur w0 g l := by rw [hw]; exact HC.out.ext ((Ext.refl _).alloc _)
  have hg0 : w.grownBy w0 (some g) := by rw [hw]; exact World.grownBy_alloc w _ _
  have hng : w.heap.size ≠ g := by omega
  obtain ⟨v0, c0⟩ := c0
  obtain ⟨v1, c1⟩ := c1
  rw [← hw]
  clear hw
  have HC0 := hide hc0
  have HG0 := hide hg0
  clear hc0 hg0
  refine (l01Below_any g 13 l _ hl (by omega) (by omega) HC0.out).mono ?_; rintro e w1 ⟨x, rfl, hx0, hx1, hc1, hg1⟩
  have kc := grown_cells hg1
  have kf := grown_frz hg1
  have kz := grown_lt hg1
  have HC1 := hide hc1
  have HG1 := hide hg1
  clear hc1 hg1
  go_wp2_with fail
  refine (l01Below_any g 13 l _ hl (by omega) (by omega) HC1.out).mono ?_; rintro e w2 ⟨y, rfl, hy0, hy1, hc2, hg2⟩
  have e0 := (grown_cells hg2 _ 0 (kz _ cz) hng).trans ((kc _ 0 cz hng).trans c0)
  have e1 := (grown_cells hg2 _ 1 (kz _ cz) hng).trans ((kc _ 1 cz hng).trans c1)
  have ef := fun i => (grown_frz hg2 _ i (kz _ cz) hng).trans ((kf _ i cz hng).trans (cf i))
  have ez := grown_lt hg2 _ (kz _ cz)
  have HC2 := hide hc2
  have HG2 := hide ((HG0.out.trans HG1.out).trans hg2)
  clear hc2 hg2 kc kf kz c0 c1 cf cz
  go_wp2_with fail
  refine bodyPost_ret (v := .agg #[.int .i64 x, .int .i64 y]) (by simp only [results, Tryz.results129]; go_simp) rfl ⟨_, _, rfl, ⟨by omega, by omega, by omega, by omega⟩, (HC2.out.setk hgl _ _).setk hgl _ _, grown_new (grown_new HG2.out (Nat.le_refl _) _ _) (Nat.le_refl _) _ _⟩
end Go.Proofs.YtabgcpoaepafjaaGreat
