/- Words and walks for the law FnTrees, a part of them. No condition but that the arguments lie in memory. -/
import Derived.Test.YtabgcpoaepafjaaU25
set_option linter.unusedVariables false
set_option linter.unusedSimpArgs false
namespace Go.Proofs.Ytabgcpoaepafjaa
open Go.RowKit
set_option maxRecDepth 20000 in
set_option maxHeartbeats 2000000 in
theorem DropLead_take (N E : List P2) (A B : Option Addr) (c c' : Nat) (k : Nat) (w : World) (hw : WR w N E A B c c') (hN : 0 < N.length) (hE1 : 0 < E.length) (hE2 : E.length ≤ 1000) (hE3 : 2 ≤ E.length) (hk : k < E.length) :
    Calls Try.prog 18 #[.agg #[.slice A N.length c, .slice B E.length c'], .int .i64 k] w fun e w' => ∃ ok E2 A2 B2 d d', e = .returned (.tuple #[.agg #[.slice A2 N.length d, .slice B2 E2.length d'], .bool ok]) ∧ (windowB N E = true → E2 = E.take k ++ E.drop (k + 1)) ∧ WN w' w.heap.size N E2 A2 B2 d d' ∧ Ext w w' := by
  obtain ⟨j0, hj, hy0, hy1, hy2⟩ := info_parts leadI_info
  have HW := hide hw
  clear hw
  have hkz : (k : Int) < (E.length : Int) := by omega
  have hin : inR (k : Int) 0 ((E.length : Int) - 1) = true := by simp [inR]; omega
  
  go_enter Try.func18, Try.ntmps18
  go_wp2_with fail
  obtain ⟨w0, hw⟩ : ∃ w1, w1 = (w.alloc (Obj.cells #[Value.slice A N.length c, Value.slice B E.length c'] 27)).alloc (Obj.cells #[Value.slice none 0 0, Value.slice none 0 0] 27) := ⟨_, rfl⟩; rw [← hw]; have kT : Tr [(w.heap.size, [.slice A N.length c, .slice B E.length c']), (w.heap.size + 1, [.slice none 0 0, .slice none 0 0])] w w0 := (by rw [hw]; exact ⟨by (first | (simp [Bx, CellsAt, go_sem, *]; done) | (simp [Bx, CellsAt, go_sem, *]; omega)), by (repeat (first | exact kE | exact Ext.refl _ | apply Ext.alloc | apply Ext.drewN | apply Ext.drew | apply Ext.set0 | apply Ext.set1 | apply Ext.set2 | apply Ext.set3 | (refine Ext.setk ?_ (by omega) _) | (apply Ext.snoc; assumption)))⟩); have HT := hide kT; clear hw kT; have kT := HT.out; simp only [Tr, Bx, CellsAt, Nat.reduceAdd, Nat.zero_add, and_true] at kT; obtain ⟨⟨⟨kz0, kf0, kc0_0, kc0_1⟩, ⟨kz1, kf1, kc1_0, kc1_1⟩⟩, kE⟩ := kT
  have HC2 := hide (fun (W : World) (hE : Ext w W) => l04Copy_any N E A B c c' W (HW.out.ext hE) hN hE1)
  have HOK := hide (fun (W : World) (hE : Ext w W) => sWindowOk_any N E A B c c' W HW.out.hN HW.out.hE HW.out.hc HW.out.hd (HW.out.ext hE).hr (HW.out.ext hE).hs)
  have hNl := HW.out.hN
  refine (HC2.out _ kE).mono ?_
  rintro e wA ⟨A1, B1, d, d', rfl, ho1, ho2, hb1⟩
  have HO1 := hide ho1
  have HO2 := hide ho2
  have HZ := hide kz1
  have HZ0 := hide kz0
  have HZ1 := hide hb1.size
  have HT' := hide (HT.out.ext hb1)
  clear ho1 ho2 hb1 HT
  have HT := HT'
  clear HT'
  clear kz0 kf0 kc0_0 kc0_1 kz1 kf1 kc1_0 kc1_1 kE
  have kT := HT.out; simp only [Tr, Bx, CellsAt, Nat.reduceAdd, Nat.zero_add, and_true] at kT; obtain ⟨⟨⟨kz0, kf0, kc0_0, kc0_1⟩, ⟨kz1, kf1, kc1_0, kc1_1⟩⟩, kE⟩ := kT
  have HEA := hide kE
  go_upto_region 2 with fail
  obtain ⟨w2, hw⟩ : ∃ w1, w1 = wA.alloc (Obj.cells #[Value.slice A1 N.length d, Value.slice B1 E.length d'] 27) := ⟨_, rfl⟩; rw [← hw]; have Hw2 := hide (show Ext wA w2 from (by (rw [hw]; (try clear kE); repeat (first | exact kE | exact Ext.refl _ | apply Ext.alloc | apply Ext.drewN | apply Ext.drew | apply Ext.set0 | apply Ext.set1 | apply Ext.set2 | apply Ext.set3 | (refine Ext.setk ?_ (by omega) _) | (apply Ext.snoc; assumption))))); have HT := hide (HT.out.more Hw2.out (wA.heap.size) [.slice A1 N.length d, .slice B1 E.length d'] (by (rw [hw]; first | (simp [CellsAt, go_sem, *]; done) | (simp [CellsAt, go_sem, *]; omega)))); have Zw2 := hide (congrArg (fun z : World => z.heap.size) hw); clear hw kz0 kf0 kc0_0 kc0_1 kz1 kf1 kc1_0 kc1_1 kE; have kT := HT.out; simp only [Tr, Bx, CellsAt, Nat.reduceAdd, Nat.zero_add, and_true] at kT; obtain ⟨⟨⟨kz0, kf0, kc0_0, kc0_1⟩, ⟨kz1, kf1, kc1_0, kc1_1⟩, ⟨kz2, kf2, kc2_0, kc2_1⟩⟩, kE⟩ := kT
  have HO1' := hide (own_ext HO1.out Hw2.out)
  have HO2' := hide (own_ext HO2.out Hw2.out)
  have HZA := hide Hw2.out.size
  cases hp : windowB N E with
  | false =>
    rw [hp] at HOK
    go_wp2_with fail
    refine (HOK.out _ kE).mono ?_
    rintro e w6 ⟨rfl, hb6⟩
    have HO6 := hide (own_ext HO1'.out hb6)
    have HP6 := hide (own_ext HO2'.out hb6)
    have HT' := hide (HT.out.ext hb6)
    clear hb6 HT
    have HT := HT'
    clear HT'
    clear kz0 kf0 kc0_0 kc0_1 kz1 kf1 kc1_0 kc1_1 kz2 kf2 kc2_0 kc2_1 kE
    have kT := HT.out; simp only [Tr, Bx, CellsAt, Nat.reduceAdd, Nat.zero_add, and_true] at kT; obtain ⟨⟨⟨kz0, kf0, kc0_0, kc0_1⟩, ⟨kz1, kf1, kc1_0, kc1_1⟩, ⟨kz2, kf2, kc2_0, kc2_1⟩⟩, kE⟩ := kT
    have hz9 := HZ.out
    go_wp2_with fail
    refine bodyPost_ret (v := .tuple #[.agg #[.slice A1 N.length d, .slice B1 E.length d'], .bool false]) (by simp only [results, Try.results18]; go_simp) rfl ⟨false, E, A1, B1, d, d', rfl, (fun h => by rw [hp] at h; cases h), ⟨own_mono (own_setk (own_setk HO6.out hz9 _) hz9 _) (by omega), own_mono (own_setk (own_setk HP6.out hz9 _) hz9 _) (by omega)⟩, (kE.setk (by omega) _).setk (by omega) _⟩
  | true =>
    rw [hp] at HOK
    go_wp2_with fail
    refine (HOK.out _ kE).mono ?_
    rintro e w6 ⟨rfl, hb6⟩
    have HO6 := hide (own_ext HO1'.out hb6)
    have HP6 := hide (own_ext HO2'.out hb6)
    have HT' := hide (HT.out.ext hb6)
    clear hb6 HT
    have HT := HT'
    clear HT'
    clear kz0 kf0 kc0_0 kc0_1 kz1 kf1 kc1_0 kc1_1 kz2 kf2 kc2_0 kc2_1 kE
    have kT := HT.out; simp only [Tr, Bx, CellsAt, Nat.reduceAdd, Nat.zero_add, and_true] at kT; obtain ⟨⟨⟨kz0, kf0, kc0_0, kc0_1⟩, ⟨kz1, kf1, kc1_0, kc1_1⟩, ⟨kz2, kf2, kc2_0, kc2_1⟩⟩, kE⟩ := kT
    have hz9 := HZ.out
    have hwl : IntKind.i64.wrap ((E.length : Int) - 1) = (E.length : Int) - 1 := by rw [IntKind.wrap_i64]; omega
    go_wp2_with (first | (go_at_call 55; refine (l01In_any _ _ _ _).mono ?_; rintro e w' ⟨rfl, rfl⟩))
    clear hwl
    obtain ⟨b, off, rfl, hb, hcs⟩ := (HW.out.hs.ext kE).2 hE1
    have HN1 := hide (fun (W : World) (hE : Ext w6 W) => news_rds (w := W) (b := b) (off := off) (xs := enc2 (E.take k)) fun j v h => (hE.facts.1 b (off + j) hb).trans (hcs j v (enc2_pre h)))
    have HN2 := hide (fun (W : World) (hE : Ext w6 W) => news_rds (w := W) (b := b) (off := off + (k + 1) * 2) (xs := enc2 (E.drop (k + 1))) fun j v h => (hE.facts.1 b (off + (k + 1) * 2 + j) hb).trans (by rw [Nat.add_assoc]; exact hcs _ v (enc2_suf (by omega) h)))
    have hcl := HW.out.hd
    have hzA := HZA.out
    have HZ6 := hide kz0
    have HE6 := hide kE
    clear hcs
    have hwk : IntKind.i64.wrap ((k : Int) + 1) = (k : Int) + 1 := by rw [IntKind.wrap_i64]; omega
    have i1 : (0 : Int) ≤ (k : Int) := by omega
    have i2 : (k : Int) ≤ (c' : Int) := by omega
    have i3 : (0 : Int) ≤ (k : Int) + 1 := by omega
    have i4 : (k : Int) + 1 ≤ (E.length : Int) := by omega
    have i5 : ((k : Int) + 1).toNat = k + 1 := by omega
    have i6 : (E.length : Int) ≤ (c' : Int) := by omega
    have i7 : (k : Int) + 1 ≤ (c' : Int) := by omega
    have kv : w6.cell? ⟨wA.heap.size, 1, none⟩ = some (cellV w6 ⟨wA.heap.size, 1, none⟩) := cellV_some kc0_1
    have kf : w6.frozen? ⟨wA.heap.size, 1, none⟩ = false := kf0 1
    have hne : ¬ w.heap.size = wA.heap.size := by have := HZ0.out; have := HZ1.out; omega
    have HS6 := hide (show S3 w.heap.size wA.heap.size (.slice (some ⟨b, off, none⟩) E.length c') w6 from ⟨kc1_1, kv, kf⟩)
    by_cases hk0 : k = 0
    · have HK0 := hide hk0
      have i8 : ¬ c' = k + 1 := by omega
      clear hk0
      go_region_held3 (fun w' => w'.cell? ⟨w.heap.size, 1, none⟩ = some (.slice (some ⟨b, off, none⟩) E.length c') ∧ w'.cell? ⟨wA.heap.size, 1, none⟩ = some (cellV w' ⟨wA.heap.size, 1, none⟩) ∧ w'.frozen? ⟨wA.heap.size, 1, none⟩ = false)
          ((first | exact HS7.out | exact S3.store HS7.out hne | (refine S3.ext (W := w6) HS6.out ?_ (by omega) (by omega); repeat (first | exact kE | exact Ext.refl _ | apply Ext.alloc | apply Ext.drewN | apply Ext.drew | apply Ext.set0 | apply Ext.set1 | apply Ext.set2 | apply Ext.set3 | (refine Ext.setk ?_ (by omega) _) | (apply Ext.snoc; assumption)))))
          ((first | (refine step_append_nothing (by rfl) _ _ _ (by rfl) 56 j0 Try.underlying25 hj (some ⟨w6.heap.size, 0, none⟩) 0 0 (by rfl) (Nat.le_refl _) _ k _ HK0.out (by rfl) ?_) | (refine step_append_grows (by rfl) _ _ _ (by rfl) 56 j0 (.agg #[.int .i64 0, .int .i64 0]) 2 16 Try.underlying25 hj hy0 hy1 hy2 rfl (by omega) (some ⟨w6.heap.size, 0, none⟩) 0 0 [] (by rfl) (fun e => by cases e) rfl (fun _ _ j u hu => by simp at hu) ⟨b, off + (k + 1) * 2, none⟩ (E.length - (k + 1)) (c' - (k + 1)) (enc2 (E.drop (k + 1))) (by rfl) (by rw [enc2_length, List.length_drop]) (HN2.out _ (by repeat (first | exact kE | exact Ext.refl _ | apply Ext.alloc | apply Ext.drewN | apply Ext.drew | apply Ext.set0 | apply Ext.set1 | apply Ext.set2 | apply Ext.set3 | (refine Ext.setk ?_ (by omega) _) | (apply Ext.snoc; assumption)))) (enc2_one _) (by have := HK0.out; omega) (by unfold maxLen; omega) (by omega) ?_; intro v7 w7 hown7 hgrow7; rw [Nat.zero_add] at hown7; have HS7 := hide (S3.grown (S3.ext (W := w6) HS6.out (by repeat (first | exact kE | exact Ext.refl _ | apply Ext.alloc | apply Ext.drewN | apply Ext.drew | apply Ext.set0 | apply Ext.set1 | apply Ext.set2 | apply Ext.set3 | (refine Ext.setk ?_ (by omega) _) | (apply Ext.snoc; assumption))) (by omega) (by omega)) hgrow7 (by simp; omega) (by simp; omega) (by simp) (by simp)); have HX7 := hide (show Ext w6 w7 from Ext.snoc (grown_ext hgrow7) (by repeat (first | exact kE | exact Ext.refl _ | apply Ext.alloc | apply Ext.drewN | apply Ext.drew | apply Ext.set0 | apply Ext.set1 | apply Ext.set2 | apply Ext.set3 | (refine Ext.setk ?_ (by omega) _) | (apply Ext.snoc; assumption)))); have hs7 := HX7.out.size; have HL7 := hide (show ∀ q, v7.ownBlock = some q → w6.heap.size ≤ q from fun q e => by (have h := (hown7.lt q e).1; simp at h; omega)); obtain ⟨A7, d7, rfl, hd7, _⟩ := own_slice hown7)))
      have HX6 := hide kE
      have hzz := HZ1.out
      have HN7 := hide (own_ext HO6.out HX7.out)
      have HP7 := hide hown7
      have HG7 := hide (show ∀ q, (Value.slice A7 (E.length - (k + 1)) d7).ownBlock = some q → q ≠ wA.heap.size from fun q e => by have h := HL7.out _ e; omega)
      have HT7 := hide (HT.out.ext HX7.out)
      clear HT hown7 hgrow7 HS7 HS6 HN1 HN2 hwk i1 i2 i3 i4 i5 i6 i7 kv kf
      clear kz0 kf0 kc0_0 kc0_1 kz1 kf1 kc1_0 kc1_1 kz2 kf2 kc2_0 kc2_1 kE
      have HT := HT7
      clear HT7
      have kT := HT.out; simp only [Tr, Bx, CellsAt, Nat.reduceAdd, Nat.zero_add, and_true] at kT; obtain ⟨⟨⟨kz0, kf0, kc0_0, kc0_1⟩, ⟨kz1, kf1, kc1_0, kc1_1⟩, ⟨kz2, kf2, kc2_0, kc2_1⟩⟩, kE⟩ := kT
      have kEA := HEA.out
      have HN9 := hide (own_setn (k := wA.heap.size) HN7.out (o := 1) (fun q e => by have := (HO1.out.lt q e).2; omega) (.slice A7 (E.length - (k + 1)) d7))
      have HP9 := hide (own_setn (k := wA.heap.size) HP7.out (o := 1) HG7.out (.slice A7 (E.length - (k + 1)) d7))
      clear HT
      have hne2 : ¬ w.heap.size + 1 = wA.heap.size := by omega
      have hne3 : ¬ wA.heap.size = w.heap.size := by omega
      have hne4 : ¬ wA.heap.size = w.heap.size + 1 := by omega
      obtain ⟨w9, hw⟩ : ∃ w1, w1 = w7.setCell ⟨wA.heap.size, 1, none⟩ (.slice A7 (E.length - (k + 1)) d7) := ⟨_, rfl⟩
      first | rw [← hw] | (have hw2 := hw; simp only [Nat.zero_add] at hw2; rw [← hw2])
      have HT := hide (show Tr [(wA.heap.size, [.slice A1 N.length d, .slice A7 (E.length - (k + 1)) d7]), (w.heap.size, [.slice A N.length c, .slice (some ⟨b, off, none⟩) E.length c']), (w.heap.size + 1, [.slice none 0 0, .slice none 0 0])] w w9 from by rw [hw]; exact ⟨by simp [Bx, CellsAt, go_sem, kz0, kf0, kc0_0, kc0_1, kz1, kf1, kc1_0, kc1_1, kz2, kf2, kc2_0, kc2_1, hne, hne2, hne3, hne4], by repeat (first | exact kE | exact Ext.refl _ | apply Ext.alloc | apply Ext.drewN | apply Ext.drew | apply Ext.set0 | apply Ext.set1 | apply Ext.set2 | apply Ext.set3 | (refine Ext.setk ?_ (by omega) _) | (apply Ext.snoc; assumption))⟩)
      clear kz0 kf0 kc0_0 kc0_1 kz1 kf1 kc1_0 kc1_1 kz2 kf2 kc2_0 kc2_1 kE
      have kT := HT.out; simp only [Tr, Bx, CellsAt, Nat.reduceAdd, Nat.zero_add, and_true] at kT; obtain ⟨⟨⟨kz0, kf0, kc0_0, kc0_1⟩, ⟨kz1, kf1, kc1_0, kc1_1⟩, ⟨kz2, kf2, kc2_0, kc2_1⟩⟩, kE⟩ := kT
      rw [← hw] at HN9 HP9
      clear hw
      have hlen : (E.drop (k + 1)).length = E.length - (k + 1) := by rw [List.length_drop]
      have henc : enc2 (E.drop (k + 1)) = [] ++ enc2 (E.drop (k + 1)) := rfl
      have HLN := hide hlen
      have HL1 := hide (show E.length - (k + 1) + 1 = E.length by have := HK0.out; omega)
      have HEN := hide henc
      clear hlen henc
      go_wp2_with fail
      refine bodyPost_ret (v := .tuple #[.agg #[.slice A1 N.length d, .slice A7 (E.length - (k + 1)) d7], .bool true]) (by simp only [results, Try.results18]; go_simp) rfl ⟨true, E.drop (k + 1), A1, A7, d, d7, by rw [HLN.out], (by first | rfl | (intro _; rw [show k = 0 from HK0.out]; rfl)), ⟨own_mono (own_setk (own_setk HN9.out hz9 _) hz9 _) (by omega), ?_⟩, (kE.setk (by omega) _).setk (by omega) _⟩
      rw [HLN.out, HEN.out]
      exact own_mono (own_setk (own_setk (own_mono (base' := w0.heap.size) HP9.out (by have := HZ6.out; simp; omega)) hz9 _) hz9 _) (by omega)
    · by_cases hkl : k + 1 = E.length
      · have i8 : E.length - (k + 1) = 0 := by omega
        go_region_held3 (fun w' => w'.cell? ⟨w.heap.size, 1, none⟩ = some (.slice (some ⟨b, off, none⟩) E.length c') ∧ w'.cell? ⟨wA.heap.size, 1, none⟩ = some (cellV w' ⟨wA.heap.size, 1, none⟩) ∧ w'.frozen? ⟨wA.heap.size, 1, none⟩ = false)
          ((first | exact HS7.out | exact S3.store HS7.out hne | (refine S3.ext (W := w6) HS6.out ?_ (by omega) (by omega); repeat (first | exact kE | exact Ext.refl _ | apply Ext.alloc | apply Ext.drewN | apply Ext.drew | apply Ext.set0 | apply Ext.set1 | apply Ext.set2 | apply Ext.set3 | (refine Ext.setk ?_ (by omega) _) | (apply Ext.snoc; assumption)))))
          ((first | (refine step_append_nothing (by rfl) _ _ _ (by rfl) 56 j0 Try.underlying25 hj A7 k d7 (by rfl) hd7 _ 0 _ rfl (by rfl) ?_) | (refine step_append_grows (by rfl) _ _ _ (by rfl) 56 j0 (.agg #[.int .i64 0, .int .i64 0]) 2 16 Try.underlying25 hj hy0 hy1 hy2 rfl (by omega) (some ⟨w6.heap.size, 0, none⟩) 0 0 [] (by rfl) (fun e => by cases e) rfl (fun _ _ j u hu => by simp at hu) ⟨b, off, none⟩ k c' (enc2 (E.take k)) (by rfl) (by rw [enc2_length, List.length_take]; omega) (HN1.out _ (by repeat (first | exact kE | exact Ext.refl _ | apply Ext.alloc | apply Ext.drewN | apply Ext.drew | apply Ext.set0 | apply Ext.set1 | apply Ext.set2 | apply Ext.set3 | (refine Ext.setk ?_ (by omega) _) | (apply Ext.snoc; assumption)))) (enc2_one _) (by omega) (by unfold maxLen; omega) (by omega) ?_; intro v7 w7 hown7 hgrow7; rw [Nat.zero_add] at hown7; have HS7 := hide (S3.grown (S3.ext (W := w6) HS6.out (by repeat (first | exact kE | exact Ext.refl _ | apply Ext.alloc | apply Ext.drewN | apply Ext.drew | apply Ext.set0 | apply Ext.set1 | apply Ext.set2 | apply Ext.set3 | (refine Ext.setk ?_ (by omega) _) | (apply Ext.snoc; assumption))) (by omega) (by omega)) hgrow7 (by simp; omega) (by simp; omega) (by simp) (by simp)); have HX7 := hide (show Ext w6 w7 from Ext.snoc (grown_ext hgrow7) (by repeat (first | exact kE | exact Ext.refl _ | apply Ext.alloc | apply Ext.drewN | apply Ext.drew | apply Ext.set0 | apply Ext.set1 | apply Ext.set2 | apply Ext.set3 | (refine Ext.setk ?_ (by omega) _) | (apply Ext.snoc; assumption)))); have hs7 := HX7.out.size; have HL7 := hide (show ∀ q, v7.ownBlock = some q → w6.heap.size ≤ q from fun q e => by (have h := (hown7.lt q e).1; simp at h; omega)); obtain ⟨A7, d7, rfl, hd7, _⟩ := own_slice hown7)))
        have HX6 := hide kE
        have hzz := HZ1.out
        have HN7 := hide (own_ext HO6.out HX7.out)
        have HP7 := hide hown7
        have HG7 := hide (show ∀ q, (Value.slice A7 (k) d7).ownBlock = some q → q ≠ wA.heap.size from fun q e => by have h := HL7.out _ e; omega)
        have HT7 := hide (HT.out.ext HX7.out)
        clear HT hown7 hgrow7 HS7 HS6 HN1 HN2 hwk i1 i2 i3 i4 i5 i6 i7 kv kf
        clear kz0 kf0 kc0_0 kc0_1 kz1 kf1 kc1_0 kc1_1 kz2 kf2 kc2_0 kc2_1 kE
        have HT := HT7
        clear HT7
        have kT := HT.out; simp only [Tr, Bx, CellsAt, Nat.reduceAdd, Nat.zero_add, and_true] at kT; obtain ⟨⟨⟨kz0, kf0, kc0_0, kc0_1⟩, ⟨kz1, kf1, kc1_0, kc1_1⟩, ⟨kz2, kf2, kc2_0, kc2_1⟩⟩, kE⟩ := kT
        have kEA := HEA.out
        have HN9 := hide (own_setn (k := wA.heap.size) HN7.out (o := 1) (fun q e => by have := (HO1.out.lt q e).2; omega) (.slice A7 (k) d7))
        have HP9 := hide (own_setn (k := wA.heap.size) HP7.out (o := 1) HG7.out (.slice A7 (k) d7))
        clear HT
        have hne2 : ¬ w.heap.size + 1 = wA.heap.size := by omega
        have hne3 : ¬ wA.heap.size = w.heap.size := by omega
        have hne4 : ¬ wA.heap.size = w.heap.size + 1 := by omega
        obtain ⟨w9, hw⟩ : ∃ w1, w1 = w7.setCell ⟨wA.heap.size, 1, none⟩ (.slice A7 (k) d7) := ⟨_, rfl⟩
        first | rw [← hw] | (have hw2 := hw; simp only [Nat.zero_add] at hw2; rw [← hw2])
        have HT := hide (show Tr [(wA.heap.size, [.slice A1 N.length d, .slice A7 (k) d7]), (w.heap.size, [.slice A N.length c, .slice (some ⟨b, off, none⟩) E.length c']), (w.heap.size + 1, [.slice none 0 0, .slice none 0 0])] w w9 from by rw [hw]; exact ⟨by simp [Bx, CellsAt, go_sem, kz0, kf0, kc0_0, kc0_1, kz1, kf1, kc1_0, kc1_1, kz2, kf2, kc2_0, kc2_1, hne, hne2, hne3, hne4], by repeat (first | exact kE | exact Ext.refl _ | apply Ext.alloc | apply Ext.drewN | apply Ext.drew | apply Ext.set0 | apply Ext.set1 | apply Ext.set2 | apply Ext.set3 | (refine Ext.setk ?_ (by omega) _) | (apply Ext.snoc; assumption))⟩)
        clear kz0 kf0 kc0_0 kc0_1 kz1 kf1 kc1_0 kc1_1 kz2 kf2 kc2_0 kc2_1 kE
        have kT := HT.out; simp only [Tr, Bx, CellsAt, Nat.reduceAdd, Nat.zero_add, and_true] at kT; obtain ⟨⟨⟨kz0, kf0, kc0_0, kc0_1⟩, ⟨kz1, kf1, kc1_0, kc1_1⟩, ⟨kz2, kf2, kc2_0, kc2_1⟩⟩, kE⟩ := kT
        rw [← hw] at HN9 HP9
        clear hw
        have hlen : (E.take k).length = k := by rw [List.length_take]; omega
        have henc : enc2 (E.take k) = [] ++ enc2 (E.take k) := rfl
        have HLN := hide hlen
        have HL1 := hide (show k + 1 = E.length by omega)
        have HEN := hide henc
        clear hlen henc
        go_wp2_with fail
        all_goals
          refine bodyPost_ret (v := .tuple #[.agg #[.slice A1 N.length d, .slice A7 (k) d7], .bool true]) (by simp only [results, Try.results18]; go_simp) rfl (.inr ⟨E.take k, A1, A7, d, d7, by rw [HLN.out], (by first | rfl | (intro _; rw [List.drop_of_length_le (by have := HL1.out; omega), List.append_nil])), ⟨own_mono (own_setk (own_setk HN9.out hz9 _) hz9 _) (by omega), ?_⟩, (kE.setk (by omega) _).setk (by omega) _⟩)
          rw [HLN.out, HEN.out]
          exact own_mono (own_setk (own_setk (own_mono (base' := w0.heap.size) HP9.out (by have := HZ6.out; simp; omega)) hz9 _) hz9 _) (by omega)
      · have i8 : ¬ c' = k + 1 := by omega
        go_region_held3 (fun w' => w'.cell? ⟨w.heap.size, 1, none⟩ = some (.slice (some ⟨b, off, none⟩) E.length c') ∧ w'.cell? ⟨wA.heap.size, 1, none⟩ = some (cellV w' ⟨wA.heap.size, 1, none⟩) ∧ w'.frozen? ⟨wA.heap.size, 1, none⟩ = false)
          ((first | exact HS7.out | exact HS8.out | exact S3.store HS8.out hne | (refine S3.ext (W := w6) HS6.out ?_ (by omega) (by omega); repeat (first | exact kE | exact Ext.refl _ | apply Ext.alloc | apply Ext.drewN | apply Ext.drew | apply Ext.set0 | apply Ext.set1 | apply Ext.set2 | apply Ext.set3 | (refine Ext.setk ?_ (by omega) _) | (apply Ext.snoc; assumption)))))
          ((first | (refine step_append_grows (by rfl) _ _ _ (by rfl) 56 j0 (.agg #[.int .i64 0, .int .i64 0]) 2 16 Try.underlying25 hj hy0 hy1 hy2 rfl (by omega) (some ⟨w6.heap.size, 0, none⟩) 0 0 [] (by rfl) (fun e => by cases e) rfl (fun _ _ j u hu => by simp at hu) ⟨b, off, none⟩ k c' (enc2 (E.take k)) (by rfl) (by rw [enc2_length, List.length_take]; omega) (HN1.out _ (by repeat (first | exact kE | exact Ext.refl _ | apply Ext.alloc | apply Ext.drewN | apply Ext.drew | apply Ext.set0 | apply Ext.set1 | apply Ext.set2 | apply Ext.set3 | (refine Ext.setk ?_ (by omega) _) | (apply Ext.snoc; assumption)))) (enc2_one _) (by omega) (by unfold maxLen; omega) (by omega) ?_; intro v7 w7 hown7 hgrow7; have HS7 := hide (S3.grown (S3.ext (W := w6) HS6.out (by repeat (first | exact kE | exact Ext.refl _ | apply Ext.alloc | apply Ext.drewN | apply Ext.drew | apply Ext.set0 | apply Ext.set1 | apply Ext.set2 | apply Ext.set3 | (refine Ext.setk ?_ (by omega) _) | (apply Ext.snoc; assumption))) (by omega) (by omega)) hgrow7 (by simp; omega) (by simp; omega) (by simp) (by simp)); have HX7 := hide (show Ext w6 w7 from Ext.snoc (grown_ext hgrow7) (by repeat (first | exact kE | exact Ext.refl _ | apply Ext.alloc | apply Ext.drewN | apply Ext.drew | apply Ext.set0 | apply Ext.set1 | apply Ext.set2 | apply Ext.set3 | (refine Ext.setk ?_ (by omega) _) | (apply Ext.snoc; assumption)))); have hs7 := HX7.out.size; have HL7 := hide (show ∀ q, v7.ownBlock = some q → w6.heap.size ≤ q from fun q e => by (have h := (hown7.lt q e).1; simp at h; omega))) | (refine step_append_lies _ (by rfl) _ _ _ (by rfl) _ 56 j0 (.agg #[.int .i64 0, .int .i64 0]) 2 16 Try.underlying25 hj hy0 hy1 hy2 rfl (by omega) v7 (0 + k) ([] ++ enc2 (E.take k)) (by rfl) hown7 ⟨b, off + (k + 1) * 2, none⟩ (E.length - (k + 1)) (c' - (k + 1)) (enc2 (E.drop (k + 1))) (by rfl) (by rw [enc2_length, List.length_drop]) (HN2.out _ HX7.out) (enc2_one _) (by omega) (by unfold maxLen; omega) (by omega) hgrow7.size (w7.heap.size) rfl ?_; intro gg cap w8 hown8 hgrow8 hat8 hlt8; have HS8 := hide (S3.grown HS7.out hgrow8 (by omega) (by omega) (fun e => by (have h := HL7.out _ e; omega)) (fun e => by (have h := HL7.out _ e; omega))))))
        have HX6 := hide kE
        have HO7 := own_ext HO6.out HX7.out
        have HN8 := hide (World.ownsRow.kept HO7 hgrow8 (by
          rcases hv : (Value.slice A1 N.length d).ownBlock with _ | q
          · exact .inl rfl
          · exact .inr fun e => own_apart2 HO7 hown7 (by decide) q hv e.symm))
        have HP8 := hide hown8
        have HGG := hide (show wA.heap.size < gg from by
          rcases hat8 with e | e
          · have h := HL7.out _ e
            omega
          · omega)
        have HT7 := hide ((HT.out.ext HX7.out).grownA hgrow8 (fun q hq => by have h := HL7.out _ hq; omega) (by
          simp only [Ap, and_true]
          exact ⟨fun e => by (have h := HL7.out _ e; omega), fun e => by (have h := HL7.out _ e; omega), fun e => by (have h := HL7.out _ e; omega)⟩))
        clear HO7 HT hown7 hgrow7 hown8 hgrow8 hat8 hlt8 HS7 HS8 HS6 HN1 HN2 hwk i1 i2 i3 i4 i5 i6 i7 i8 kv kf
        clear kz0 kf0 kc0_0 kc0_1 kz1 kf1 kc1_0 kc1_1 kz2 kf2 kc2_0 kc2_1 kE
        have HT := HT7
        clear HT7
        have kT := HT.out; simp only [Tr, Bx, CellsAt, Nat.reduceAdd, Nat.zero_add, and_true] at kT; obtain ⟨⟨⟨kz0, kf0, kc0_0, kc0_1⟩, ⟨kz1, kf1, kc1_0, kc1_1⟩, ⟨kz2, kf2, kc2_0, kc2_1⟩⟩, kE⟩ := kT
        have kEA := HEA.out
        have HN9 := hide (own_setn (k := wA.heap.size) HN8.out (o := 1) (fun q e => by have := (HO1.out.lt q e).2; omega) (.slice (some ⟨gg, 0, none⟩) (k + (E.length - (k + 1))) cap))
        have HP9 := hide (own_setn (k := wA.heap.size) HP8.out (o := 1) (fun q e => by have h := HGG.out; have e2 : some gg = some q := e; injection e2 with e2; omega) (.slice (some ⟨gg, 0, none⟩) (k + (E.length - (k + 1))) cap))
        clear HT
        have hzz := HZ1.out
        have hne2 : ¬ w.heap.size + 1 = wA.heap.size := by omega
        have hne3 : ¬ wA.heap.size = w.heap.size := by omega
        have hne4 : ¬ wA.heap.size = w.heap.size + 1 := by omega
        
        obtain ⟨w9, hw⟩ : ∃ w1, w1 = w8.setCell ⟨wA.heap.size, 1, none⟩ (.slice (some ⟨gg, 0, none⟩) (k + (E.length - (k + 1))) cap) := ⟨_, rfl⟩
        rw [← hw]
        have HT := hide (show Tr [(wA.heap.size, [.slice A1 N.length d, .slice (some ⟨gg, 0, none⟩) (k + (E.length - (k + 1))) cap]), (w.heap.size, [.slice A N.length c, .slice (some ⟨b, off, none⟩) E.length c']), (w.heap.size + 1, [.slice none 0 0, .slice none 0 0])] w w9 from by rw [hw]; exact ⟨by simp [Bx, CellsAt, go_sem, kz0, kf0, kc0_0, kc0_1, kz1, kf1, kc1_0, kc1_1, kz2, kf2, kc2_0, kc2_1, hne, hne2, hne3, hne4], by repeat (first | exact kE | exact Ext.refl _ | apply Ext.alloc | apply Ext.drewN | apply Ext.drew | apply Ext.set0 | apply Ext.set1 | apply Ext.set2 | apply Ext.set3 | (refine Ext.setk ?_ (by omega) _) | (apply Ext.snoc; assumption))⟩)
        clear kz0 kf0 kc0_0 kc0_1 kz1 kf1 kc1_0 kc1_1 kz2 kf2 kc2_0 kc2_1 kE
        have kT := HT.out; simp only [Tr, Bx, CellsAt, Nat.reduceAdd, Nat.zero_add, and_true] at kT; obtain ⟨⟨⟨kz0, kf0, kc0_0, kc0_1⟩, ⟨kz1, kf1, kc1_0, kc1_1⟩, ⟨kz2, kf2, kc2_0, kc2_1⟩⟩, kE⟩ := kT
        rw [← hw] at HN9 HP9
        clear hw
        have hlen : (E.take k ++ E.drop (k + 1)).length = k + (E.length - (k + 1)) := by rw [List.length_append, List.length_take, List.length_drop]; omega
        have henc : enc2 (E.take k ++ E.drop (k + 1)) = [] ++ enc2 (E.take k) ++ enc2 (E.drop (k + 1)) := by rw [enc2_app]; rfl
        have HLN := hide hlen
        have HL1 := hide (show k + (E.length - (k + 1)) + 1 = E.length by omega)
        have HEN := hide henc
        clear hlen henc
        go_wp2_with fail
        refine bodyPost_ret (v := .tuple #[.agg #[.slice A1 N.length d, .slice (some ⟨gg, 0, none⟩) (k + (E.length - (k + 1))) cap], .bool true]) (by simp only [results, Try.results18]; go_simp) rfl ⟨true, E.take k ++ E.drop (k + 1), A1, some ⟨gg, 0, none⟩, d, cap, by rw [HLN.out], (by first | rfl | (intro _; rfl)), ⟨own_mono (own_setk (own_setk HN9.out hz9 _) hz9 _) (by omega), ?_⟩, (kE.setk (by omega) _).setk (by omega) _⟩
        rw [HLN.out, HEN.out]
        have h := HP9.out
        rw [Nat.zero_add] at h
        exact own_mono (own_setk (own_setk (own_mono (base' := w0.heap.size) h (by have := HZ6.out; simp; omega)) hz9 _) hz9 _) (by omega)
set_option maxRecDepth 20000 in
set_option maxHeartbeats 4000000 in
theorem iSampleWindow_any (w : World) : Calls Try.prog 20 #[] w fun e w' => ∃ A B c c', e = .returned (.agg #[.slice A (shN 0).length c, .slice B (shE 0).length c']) ∧ WO w' w.heap.size (shN 0) (shE 0) A B c c' ∧ Ext w w' := by
  
  go_enter Try.func20, Try.ntmps20
  go_wp2_with fail
  refine bodyPost_ret (v := .agg #[.slice (some ⟨w.heap.size + 1, 0, none⟩) 5 5, .slice (some ⟨w.heap.size + 1 + 1, 0, none⟩) 8 8]) (by simp only [results, Try.results20]; go_simp) rfl ⟨_, _, 5, 8, rfl, ?_, by repeat (first | exact kE | exact Ext.refl _ | apply Ext.alloc | apply Ext.drewN | apply Ext.drew | apply Ext.set0 | apply Ext.set1 | apply Ext.set2 | apply Ext.set3 | (refine Ext.setk ?_ (by omega) _) | (apply Ext.snoc; assumption))⟩
  have h := WO_two (base := w.heap.size) (w.alloc (Obj.cells #[Value.slice (some ⟨w.heap.size + 1, 0, none⟩) 5 5, Value.slice (some ⟨w.heap.size + 1 + 1, 0, none⟩) 8 8] 27)) (shN 0) (shE 0) (by simp) (by decide) (by decide)
  simp only [World.size_alloc] at h
  exact h
end Go.Proofs.Ytabgcpoaepafjaa
