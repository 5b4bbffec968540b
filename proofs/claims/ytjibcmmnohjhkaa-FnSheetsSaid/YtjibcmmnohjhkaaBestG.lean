/- Walks of WasteOf. No condition but that a list has at most 1048576 elements. -/
import Derived.Test.YtjibcmmnohjhkaaBestF
set_option linter.unusedSimpArgs false
set_option linter.unusedVariables false
namespace Go.Proofs.Ytjibcmmnohjhkaa
open Go.RowKit
theorem one1 (a : Int) : ∀ u ∈ [Value.int .i64 a], u.oneCell' = true := by intro u hu; simp at hu; subst hu; rfl
theorem areas_length (l : List P2) : (areas l).length = l.length := by simp [areas]
theorem encI_snoc (l : List Int) (a : Int) : encI (l ++ [a]) = encI l ++ [.int .i64 a] := by rw [encI_append]; rfl
set_option maxRecDepth 100000 in
set_option maxHeartbeats 2000000 in
theorem WasteOf_any (W H : Int) (l : List P2) (A : Option Addr) (c : Nat) (w : World) (hl : l.length ≤ 1048576) (hr : R2 w A l) :
    Calls Try.prog 42 #[.agg #[.int .i64 W, .int .i64 H], .slice A l.length c] w fun e w' => e = .returned (.int .i64 (wasteVal W H l)) ∧ Ext w w' := by
  obtain ⟨i0, hi, hz0, hz1, hz2⟩ := info_parts int_info
  have HR := hide hr
  clear hr
  
  go_enter Try.func42, Try.ntmps42
  go_wp2_with fail
  obtain ⟨w0, hw⟩ : ∃ w1, w1 = (w.alloc (Obj.cells #[Value.int IntKind.i64 W, Value.int IntKind.i64 H] 25)) := ⟨_, rfl⟩; rw [← hw]; have kT : Tr [(w.heap.size, [.int .i64 W, .int .i64 H])] w w0 := (by rw [hw]; exact ⟨by (first | (simp [Bx, CellsAt, go_sem, *]; done) | (simp [Bx, CellsAt, go_sem, *]; omega)), by (repeat (first | exact kE | exact Ext.refl _ | apply Ext.alloc | apply Ext.drewN | apply Ext.drew | apply Ext.set0 | apply Ext.set1 | apply Ext.set2 | apply Ext.set3 | (refine Ext.setk ?_ (by omega) _) | (apply Ext.snoc; assumption)))⟩); have HT := hide kT; clear hw kT; have kT := HT.out; simp only [Tr, Bx, CellsAt, Nat.reduceAdd, Nat.zero_add, and_true] at kT; obtain ⟨⟨kz0, kf0, kc0_0, kc0_1⟩, kE⟩ := kT
  refine (sheetsOk_any W H l A c _ hl (HR.out.ext kE)).mono ?_; rintro e w1 ⟨rfl, hb⟩; have HT := hide (HT.out.ext hb); have Hw1 := hide hb; clear hb; clear kz0 kf0 kc0_0 kc0_1 kE; have kT := HT.out; simp only [Tr, Bx, CellsAt, Nat.reduceAdd, Nat.zero_add, and_true] at kT; obtain ⟨⟨kz0, kf0, kc0_0, kc0_1⟩, kE⟩ := kT
  by_cases h1 : sheetsOkB W H l = true
  · have B := sheetOk_true (sheetsOkB_true h1).1
    have hl6 := (sheetsOkB_true h1).2.1
    have HS := hide (sheetsOkB_true h1).2.2
    obtain ⟨Wn, rfl⟩ := Int.eq_ofNat_of_zero_le (show 0 ≤ W by omega)
    obtain ⟨Hn, rfl⟩ := Int.eq_ofNat_of_zero_le (show 0 ≤ H by omega)
    go_wp2_with fail
    clear kz0 kf0 kc0_0 kc0_1 kE
    go_loopw [5, 14] (fun v i wr => ∃ k : Nat, k ≤ l.length ∧ i = .int .i64 k ∧ wr.ownsRow w1.heap.size 3 1 v k (encI (areas (l.take k))) ∧ Ext w1 wr) (fun _ i _ => l.length - (intOf i).toNat)
    case atStart => exact ⟨0, Nat.zero_le _, rfl, World.ownsRow_nil _ _ _ _, Ext.refl _⟩
    case round =>
      obtain ⟨k, hk, rfl, hown, hE⟩ := hrel
      have HO := hide hown
      have HE := hide hE
      have hsz := hE.size
      clear hown
      have HT := hide (HT.out.ext hE); clear hE; have kT := HT.out; simp only [Tr, Bx, CellsAt, Nat.reduceAdd, Nat.zero_add, and_true] at kT; obtain ⟨⟨kz0, kf0, kc0_0, kc0_1⟩, kE⟩ := kT
      by_cases hlt : k < l.length
      · have Bk := sheet_at HS.out hlt
        have m1 := Int.mul_nonneg (show 0 ≤ l[k].1 by omega) (show 0 ≤ l[k].2 by omega)
        have m2 : l[k].1 * l[k].2 ≤ 40 * 40 := Int.mul_le_mul (by omega) (by omega) (by omega) (by omega)
        have HA := hide (areas_succ l k hlt)
        obtain ⟨b, off, rfl, hb, e0, e1⟩ := R2.at_ (HR.out.ext kE) hlt
        go_wp2_with (at_builtin; refine wpList_append_own _ rfl _ _ 56 rfl w1.heap.size 3 i0 (.int .i64 0) 1 8 Try.underlying56 hi hz0 hz1 hz2 rfl (by decide) u5 k (encI (areas (l.take k))) rfl (own_ext HO.out (by clear kE; repeat (first | exact kE | exact Ext.refl _ | apply Ext.alloc | apply Ext.drewN | apply Ext.drew | apply Ext.set0 | apply Ext.set1 | apply Ext.set2 | apply Ext.set3 | (refine Ext.setk ?_ (by omega) _) | (apply Ext.snoc; assumption)))) ⟨wr.heap.size + 1, 0, none⟩ 1 1 [.int .i64 (l[k].1 * l[k].2)] rfl rfl (by simpa using news_new (wr.alloc _) #[.int .i64 (l[k].1 * l[k].2)] 3) (one1 _) (by unfold maxLen; omega) (by omega) (by simp; omega) ?_; intro v' w4 hown4 hgrow4 hnil)
        have E4 := Ext.grown (show Ext w1 _ from ((HE.out.alloc _).alloc _)) hgrow4 (own_base HO.out (Nat.le_refl _))
        have HO4 := hide hown4
        clear hown4 hgrow4 hnil
        go_roundw
        case rel => exact ⟨k + 1, by omega, by go_num, by rw [HA.out, encI_snoc]; exact HO4.out, E4⟩
        case measure => simp [intOf]; omega
      · obtain rfl : k = l.length := by omega
        obtain ⟨Ar, cr, rfl, _, _, _⟩ := own_slice HO.out
        have ho := HO.out
        rw [List.take_of_length_le (Nat.le_refl _)] at ho
        have hlen := areas_length l
        have HO2 : Hid (RI wr Ar (areas l)) := hide (by have := Rds.of_own ho; rw [← hlen] at this; exact this)
        clear ho
        have n1 := Int.mul_nonneg (show (0 : Int) ≤ (Wn : Int) by omega) (show (0 : Int) ≤ (Hn : Int) by omega)
        have n2 : (Wn : Int) * (Hn : Int) ≤ 40 * 40 := Int.mul_le_mul (by omega) (by omega) (by omega) (by omega)
        have B1 := bv_small (good_areas h1) (by omega) (by omega) (a := Wn) (b := Hn) (by omega) (by omega)
        rw [show Value.slice Ar l.length cr = Value.slice Ar (areas l).length cr by rw [hlen]]
        clear hlen
        have p1 : IntKind.i64.wrap ((Wn : Int) * (Hn : Int)) = (Wn : Int) * (Hn : Int) := IntWalk.i64_in _ (by omega)
        have p2 : IntKind.i64.wrap ((Wn : Int) * (Hn : Int) - bv l (areas l) Wn Hn) = (Wn : Int) * (Hn : Int) - bv l (areas l) Wn Hn := IntWalk.i64_in _ (by omega)
        go_wp2_with fail
        go_region_held3 (fun w' => (∀ (q o : Nat), q < wr.heap.size → w'.cell? ⟨q, o, none⟩ = wr.cell? ⟨q, o, none⟩) ∧ Ext wr w') ((apply ExtS; repeat (first | exact kE | exact Ext.refl _ | apply Ext.alloc | apply Ext.drewN | apply Ext.drew | apply Ext.set0 | apply Ext.set1 | apply Ext.set2 | apply Ext.set3 | (refine Ext.setk ?_ (by omega) _) | (apply Ext.snoc; assumption)))) ((first | (go_at_call 64; refine (bestValue_any Wn Hn l A c (areas l) Ar cr 1600 _ (by omega) (by omega) (by omega) (by omega) hl6 (good_areas h1) (by omega) (by omega) (HR.out.ext (kE.trans (by clear kE; repeat (first | exact kE | exact Ext.refl _ | apply Ext.alloc | apply Ext.drewN | apply Ext.drew | apply Ext.set0 | apply Ext.set1 | apply Ext.set2 | apply Ext.set3 | (refine Ext.setk ?_ (by omega) _) | (apply Ext.snoc; assumption))))) (HO2.out.ext (by clear kE; repeat (first | exact kE | exact Ext.refl _ | apply Ext.alloc | apply Ext.drewN | apply Ext.drew | apply Ext.set0 | apply Ext.set1 | apply Ext.set2 | apply Ext.set3 | (refine Ext.setk ?_ (by omega) _) | (apply Ext.snoc; assumption))))).mono ?_; rintro e w5 ⟨rfl, hb5⟩)))
        go_wp2
        go_ret
        exact ⟨ret_int (by simp [wasteVal, h1]), by repeat (first | exact kE | exact Ext.refl _ | apply Ext.alloc | apply Ext.drewN | apply Ext.drew | apply Ext.set0 | apply Ext.set1 | apply Ext.set2 | apply Ext.set3 | (refine Ext.setk ?_ (by omega) _) | (apply Ext.snoc; assumption))⟩
  · have h1' : sheetsOkB W H l = false := by simpa using h1
    clear h1
    go_wp2_with fail
    go_ret
    exact ⟨ret_int (by simp [wasteVal, h1']), by repeat (first | exact kE | exact Ext.refl _ | apply Ext.alloc | apply Ext.drewN | apply Ext.drew | apply Ext.set0 | apply Ext.set1 | apply Ext.set2 | apply Ext.set3 | (refine Ext.setk ?_ (by omega) _) | (apply Ext.snoc; assumption))⟩
set_option maxRecDepth 100000 in
set_option maxHeartbeats 2000000 in
theorem sWasteOf_any (W H : Int) (l : List P2) (A : Option Addr) (c : Nat) (w : World) (hl : l.length ≤ 1048576) (hr : R2 w A l) :
    Calls Try.prog 41 #[.agg #[.int .i64 W, .int .i64 H], .slice A l.length c] w fun e w' => e = .returned (.int .i64 (wasteVal W H l)) ∧ Ext w w' := by
  obtain ⟨i0, hi, hz0, hz1, hz2⟩ := info_parts int_info
  have HR := hide hr
  clear hr
  
  go_enter Try.func41, Try.ntmps41
  go_wp2_with fail
  obtain ⟨w0, hw⟩ : ∃ w1, w1 = (w.alloc (Obj.cells #[Value.int IntKind.i64 W, Value.int IntKind.i64 H] 25)) := ⟨_, rfl⟩; rw [← hw]; have kT : Tr [(w.heap.size, [.int .i64 W, .int .i64 H])] w w0 := (by rw [hw]; exact ⟨by (first | (simp [Bx, CellsAt, go_sem, *]; done) | (simp [Bx, CellsAt, go_sem, *]; omega)), by (repeat (first | exact kE | exact Ext.refl _ | apply Ext.alloc | apply Ext.drewN | apply Ext.drew | apply Ext.set0 | apply Ext.set1 | apply Ext.set2 | apply Ext.set3 | (refine Ext.setk ?_ (by omega) _) | (apply Ext.snoc; assumption)))⟩); have HT := hide kT; clear hw kT; have kT := HT.out; simp only [Tr, Bx, CellsAt, Nat.reduceAdd, Nat.zero_add, and_true] at kT; obtain ⟨⟨kz0, kf0, kc0_0, kc0_1⟩, kE⟩ := kT
  refine (l20Ok_any W H l A c _ hl (HR.out.ext kE)).mono ?_; rintro e w1 ⟨rfl, hb⟩; have HT := hide (HT.out.ext hb); have Hw1 := hide hb; clear hb; clear kz0 kf0 kc0_0 kc0_1 kE; have kT := HT.out; simp only [Tr, Bx, CellsAt, Nat.reduceAdd, Nat.zero_add, and_true] at kT; obtain ⟨⟨kz0, kf0, kc0_0, kc0_1⟩, kE⟩ := kT
  by_cases h1 : sheetsOkB W H l = true
  · have B := sheetOk_true (sheetsOkB_true h1).1
    have hl6 := (sheetsOkB_true h1).2.1
    have HS := hide (sheetsOkB_true h1).2.2
    obtain ⟨Wn, rfl⟩ := Int.eq_ofNat_of_zero_le (show 0 ≤ W by omega)
    obtain ⟨Hn, rfl⟩ := Int.eq_ofNat_of_zero_le (show 0 ≤ H by omega)
    go_wp2_with fail
    have ho0 : (w1.alloc (.cells #[] 3)).ownsRow w1.heap.size 3 1 (.slice (some ⟨w1.heap.size, 0, none⟩) 0 0) 0 [] := World.ownsRow_lit (base := w1.heap.size) (e := 3) (size := 1) w1 #[] 0 (Nat.le_refl _) (Nat.zero_le _) rfl
    have HO0 := hide ho0
    clear ho0
    have HZ := hide kE.size
    clear kz0 kf0 kc0_0 kc0_1 kE
    go_loopw [5, 6] (fun v i wr => ∃ k : Nat, k ≤ l.length ∧ i = .int .i64 k ∧ wr.ownsRow w1.heap.size 3 1 v k (encI (areas (l.take k))) ∧ Ext w1 wr) (fun _ i _ => l.length - (intOf i).toNat)
    case atStart => exact ⟨0, Nat.zero_le _, rfl, HO0.out, (Ext.refl _).alloc _⟩
    case round =>
      obtain ⟨k, hk, rfl, hown, hE⟩ := hrel
      have HO := hide hown
      have HE := hide hE
      have hsz := hE.size
      clear hown
      have HT := hide (HT.out.ext hE); clear hE; have kT := HT.out; simp only [Tr, Bx, CellsAt, Nat.reduceAdd, Nat.zero_add, and_true] at kT; obtain ⟨⟨kz0, kf0, kc0_0, kc0_1⟩, kE⟩ := kT
      by_cases hlt : k < l.length
      · have Bk := sheet_at HS.out hlt
        have m1 := Int.mul_nonneg (show 0 ≤ l[k].1 by omega) (show 0 ≤ l[k].2 by omega)
        have m2 : l[k].1 * l[k].2 ≤ 40 * 40 := Int.mul_le_mul (by omega) (by omega) (by omega) (by omega)
        have HA := hide (areas_succ l k hlt)
        obtain ⟨b, off, rfl, hb, e0, e1⟩ := R2.at_ (HR.out.ext kE) hlt
        obtain ⟨b', off', hA', hb', _, _⟩ := R2.at_ HR.out hlt
        injection hA' with hA'
        injection hA' with hA1 hA2 _
        subst hA1 hA2
        have HNE : Hid (u5.ownBlock ≠ some b) := hide (fun e => by have := (HO.out.lt b e).1; have := HZ.out; omega)
        have q1 : (k : Int) < (l.length : Int) := by omega
        have q2 : (0 : Int) ≤ (k : Int) := by omega
        have q3 : IntKind.i64.wrap (l[k].1 * l[k].2) = l[k].1 * l[k].2 := IntWalk.i64_in _ (by omega)
        go_wp2_with fail
        go_region_held3 (fun w' => w'.cell? ⟨b, off + k * 2, none⟩ = some (.int .i64 l[k].1) ∧ w'.cell? ⟨b, off + k * 2 + 1, none⟩ = some (.int .i64 l[k].2))
          (first | go_keep | (go_split_ands; refine ⟨?_, ?_⟩ <;> (rw [hgrow.cell_far _ (by simp; omega) (by first | exact fun e => HNE.out e.symm | exact HNE.out)]; assumption)))
          ((refine step_append_lies _ (by rfl) _ _ _ (by rfl) w1.heap.size 3 i0 (.int .i64 0) 1 8 Try.underlying56 hi hz0 hz1 hz2 rfl (by omega) u5 k (encI (areas (l.take k))) (by rfl) ((own_ext HO.out ((Ext.refl _).alloc _)).drew) ⟨wr.heap.size, 0, none⟩ 1 1 [.int .i64 (l[k].1 * l[k].2)] (by rfl) (by rfl) (World.news_of_block (cs := #[.int .i64 (l[k].1 * l[k].2)]) (t := 3) (fr := (0, 0)) (heap_alloc_new wr _)) (one1 _) (by omega) (by unfold maxLen; omega) (by omega) (by simp; omega) (wr.heap.size + 1) (by simp) ?_; intro gg cap w4 hown4 hgrow hat hlt4))
        go_wp2
        have E4 := Ext.grown (show Ext w1 _ from ((HE.out.alloc _).drew)) hgrow (own_base HO.out (Nat.le_refl _))
        have HO4 := hide hown4
        clear hown4 hgrow hat hlt4 q3
        go_roundw
        case rel => exact ⟨k + 1, by omega, by go_num, by rw [HA.out, encI_snoc]; exact HO4.out, E4⟩
        case measure => simp [intOf]; omega
      · obtain rfl : k = l.length := by omega
        obtain ⟨Ar, cr, rfl, _, _, _⟩ := own_slice HO.out
        have ho := HO.out
        rw [List.take_of_length_le (Nat.le_refl _)] at ho
        have hlen := areas_length l
        have HO2 : Hid (RI wr Ar (areas l)) := hide (by have := Rds.of_own ho; rw [← hlen] at this; exact this)
        clear ho
        have n1 := Int.mul_nonneg (show (0 : Int) ≤ (Wn : Int) by omega) (show (0 : Int) ≤ (Hn : Int) by omega)
        have n2 : (Wn : Int) * (Hn : Int) ≤ 40 * 40 := Int.mul_le_mul (by omega) (by omega) (by omega) (by omega)
        have B1 := bv_small (good_areas h1) (by omega) (by omega) (a := Wn) (b := Hn) (by omega) (by omega)
        rw [show Value.slice Ar l.length cr = Value.slice Ar (areas l).length cr by rw [hlen]]
        clear hlen
        have p1 : IntKind.i64.wrap ((Wn : Int) * (Hn : Int)) = (Wn : Int) * (Hn : Int) := IntWalk.i64_in _ (by omega)
        have p2 : IntKind.i64.wrap ((Wn : Int) * (Hn : Int) - bv l (areas l) Wn Hn) = (Wn : Int) * (Hn : Int) - bv l (areas l) Wn Hn := IntWalk.i64_in _ (by omega)
        go_wp2_with fail
        go_region_held3 (fun w' => (∀ (q o : Nat), q < wr.heap.size → w'.cell? ⟨q, o, none⟩ = wr.cell? ⟨q, o, none⟩) ∧ Ext wr w') ((apply ExtS; repeat (first | exact kE | exact Ext.refl _ | apply Ext.alloc | apply Ext.drewN | apply Ext.drew | apply Ext.set0 | apply Ext.set1 | apply Ext.set2 | apply Ext.set3 | (refine Ext.setk ?_ (by omega) _) | (apply Ext.snoc; assumption)))) ((first | (go_at_call 61; refine (l20Best_any Wn Hn l A c (areas l) Ar cr 1600 _ (by omega) (by omega) (by omega) (by omega) hl6 (good_areas h1) (by omega) (by omega) (HR.out.ext (kE.trans (by clear kE; repeat (first | exact kE | exact Ext.refl _ | apply Ext.alloc | apply Ext.drewN | apply Ext.drew | apply Ext.set0 | apply Ext.set1 | apply Ext.set2 | apply Ext.set3 | (refine Ext.setk ?_ (by omega) _) | (apply Ext.snoc; assumption))))) (HO2.out.ext (by clear kE; repeat (first | exact kE | exact Ext.refl _ | apply Ext.alloc | apply Ext.drewN | apply Ext.drew | apply Ext.set0 | apply Ext.set1 | apply Ext.set2 | apply Ext.set3 | (refine Ext.setk ?_ (by omega) _) | (apply Ext.snoc; assumption))))).mono ?_; rintro e w5 ⟨rfl, hb5⟩)))
        go_wp2
        go_ret
        exact ⟨ret_int (by simp [wasteVal, h1]), by repeat (first | exact kE | exact Ext.refl _ | apply Ext.alloc | apply Ext.drewN | apply Ext.drew | apply Ext.set0 | apply Ext.set1 | apply Ext.set2 | apply Ext.set3 | (refine Ext.setk ?_ (by omega) _) | (apply Ext.snoc; assumption))⟩
  · have h1' : sheetsOkB W H l = false := by simpa using h1
    clear h1
    go_wp2_with fail
    go_ret
    exact ⟨ret_int (by simp [wasteVal, h1']), by repeat (first | exact kE | exact Ext.refl _ | apply Ext.alloc | apply Ext.drewN | apply Ext.drew | apply Ext.set0 | apply Ext.set1 | apply Ext.set2 | apply Ext.set3 | (refine Ext.setk ?_ (by omega) _) | (apply Ext.snoc; assumption))⟩
end Go.Proofs.Ytjibcmmnohjhkaa
