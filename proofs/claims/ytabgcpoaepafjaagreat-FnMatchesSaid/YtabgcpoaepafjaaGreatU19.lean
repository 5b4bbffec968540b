/- Words and walks for the law FnMatches, a part of them. No condition but that the arguments lie in memory. -/
import Derived.Test.YtabgcpoaepafjaaGreatU18
set_option linter.unusedVariables false
set_option linter.unusedSimpArgs false
namespace Go.Proofs.YtabgcpoaepafjaaGreat
open Go.RowKit
set_option maxRecDepth 20000 in
set_option maxHeartbeats 2000000 in
theorem l07Whole_any (g : Nat) (l : List Int) (w : World) (hl : l.length ≤ 1048576) (hc : Cur w g l) :
    Calls Tryz.prog 82 #[.pointer (some ⟨g, 0, none⟩)] w fun e w' => ∃ N E A B c c', e = .returned (.agg #[.slice A N.length c, .slice B E.length c']) ∧ (wholeB N E = true ∧ 5 ≤ N.length ∧ N.length ≤ 13 ∧ E.length ≤ N.length + 8) ∧ WN w' w.heap.size N E A B c c' ∧ Gx g l w w' := by
  have HC := hide hc
  have hgl := hc.lt
  clear hc
  
  go_enter Tryz.func82, Tryz.ntmps82
  go_wp2_with fail
  obtain ⟨w0, hw⟩ : ∃ w1, w1 = w.alloc (Obj.cells #[Value.slice none 0 0, Value.slice none 0 0] 27) := ⟨_, rfl⟩; rw [← hw]; have kT : Tr [(w.heap.size, [.slice none 0 0, .slice none 0 0])] w w0 := (by rw [hw]; exact ⟨by (first | (simp [Bx, CellsAt, go_sem, *]; done) | (simp [Bx, CellsAt, go_sem, *]; omega)), by (repeat (first | exact kE | exact Ext.refl _ | apply Ext.alloc | apply Ext.drewN | apply Ext.drew | apply Ext.set0 | apply Ext.set1 | apply Ext.set2 | apply Ext.set3 | (refine Ext.setk ?_ (by omega) _) | (apply Ext.snoc; assumption)))⟩); have HT := hide kT; clear hw kT; have kT := HT.out; simp only [Tr, Bx, CellsAt, Nat.reduceAdd, Nat.zero_add, and_true] at kT; obtain ⟨⟨kz0, kf0, kc0_0, kc0_1⟩, kE⟩ := kT
  have HG0 := hide (Gx.ext HC.out kE)
  have hs0 := kz0
  have hng : ¬ w.heap.size = g := by omega
  have HT' := hide (show Tr [(w.heap.size, [.slice none 0 0, .slice none 0 0])] w0 w0 from ⟨HT.out.1, Ext.refl _⟩)
  clear kz0 kf0 kc0_0 kc0_1 kE
  clear HT
  go_loopw [3] (fun i wr => ∃ (j : Nat), j ≤ 4 ∧ i = .int .i64 j ∧ Hid (Tr [(w.heap.size, [.slice none 0 0, .slice none 0 0])] wr wr) ∧ Hid (Gx g l w wr) ∧ w.heap.size < wr.heap.size) (fun i _ => 4 - (intOf i).toNat)
  case atStart => exact ⟨0, by omega, rfl, HT', HG0, hs0⟩
  case round =>
    clear HT' HG0 hs0
    obtain ⟨j, hj, rfl, HT, HG, hsz⟩ := hrel
    have kT := HT.out; simp only [Tr, Bx, CellsAt, Nat.reduceAdd, Nat.zero_add, and_true] at kT; obtain ⟨⟨kz0, kf0, kc0_0, kc0_1⟩, kE⟩ := kT
    by_cases hj4 : j < 4
    · go_wp2_with fail
      refine (l04Window_any g l _ hl HG.out.cur).mono ?_
      rintro e w2 ⟨N, E, A, B, c, c', rfl, hb, hwn, hgx⟩
      have HN2 := hide hwn
      have HG2 := hide (HG.out.trans hgx)
      have hz2 := hgx.size
      have HT' := hide (hgx.tr (by simp [Ap]; omega) HT.out)
      clear hwn hgx HG
      clear kz0 kf0 kc0_0 kc0_1 kE
      clear HT; have HT := HT'; clear HT'
      have kT := HT.out; simp only [Tr, Bx, CellsAt, Nat.reduceAdd, Nat.zero_add, and_true] at kT; obtain ⟨⟨kz0, kf0, kc0_0, kc0_1⟩, kE⟩ := kT
      go_wp2_with fail
      obtain ⟨w3, hw⟩ : ∃ w1, w1 = w2.alloc (Obj.cells #[Value.slice A N.length c, Value.slice B E.length c'] 27) := ⟨_, rfl⟩; rw [← hw]; have Hw3 := hide (show Ext w2 w3 from (by (rw [hw]; (try clear kE); repeat (first | exact kE | exact Ext.refl _ | apply Ext.alloc | apply Ext.drewN | apply Ext.drew | apply Ext.set0 | apply Ext.set1 | apply Ext.set2 | apply Ext.set3 | (refine Ext.setk ?_ (by omega) _) | (apply Ext.snoc; assumption))))); have HT := hide (HT.out.more Hw3.out (w2.heap.size) [.slice A N.length c, .slice B E.length c'] (by (rw [hw]; first | (simp [CellsAt, go_sem, *]; done) | (simp [CellsAt, go_sem, *]; omega)))); have Zw3 := hide (congrArg (fun z : World => z.heap.size) hw); clear hw kz0 kf0 kc0_0 kc0_1 kE; have kT := HT.out; simp only [Tr, Bx, CellsAt, Nat.reduceAdd, Nat.zero_add, and_true] at kT; obtain ⟨⟨⟨kz0, kf0, kc0_0, kc0_1⟩, ⟨kz1, kf1, kc1_0, kc1_1⟩⟩, kE⟩ := kT
      have HN3 := hide (HN2.out.ext Hw3.out)
      have HG3 := hide (HG2.out.trans (Gx.ext HG2.out.cur Hw3.out))
      have hz3 := Hw3.out.size
      have HWR := hide (HN3.out.wr (by omega) (by omega))
      refine (sIsWhole_any N E A B c c' _ HWR.out).mono ?_
      rintro e w4 ⟨rfl, hb4⟩
      have HN4 := hide (HN3.out.ext hb4)
      have HG4 := hide (HG3.out.trans (Gx.ext HG3.out.cur hb4))
      have hz4 := hb4.size
      have HT' := hide (HT.out.ext hb4); clear hb4 HT; have HT := HT'; clear HT'
      clear HN2 HG2 HN3 HG3 Hw3 Zw3 HWR
      clear kz0 kf0 kc0_0 kc0_1 kz1 kf1 kc1_0 kc1_1 kE
      have kT := HT.out; simp only [Tr, Bx, CellsAt, Nat.reduceAdd, Nat.zero_add, and_true] at kT; obtain ⟨⟨⟨kz0, kf0, kc0_0, kc0_1⟩, ⟨kz1, kf1, kc1_0, kc1_1⟩⟩, kE⟩ := kT
      cases hwh : wholeB N E with
      | true =>
        go_wp2_with fail
        refine bodyPost_ret (v := .agg #[.slice A N.length c, .slice B E.length c']) (by simp only [results, Tryz.results82]; go_simp) rfl ⟨N, E, A, B, c, c', rfl, ⟨hwh, by omega, by omega, by omega⟩, ((HN4.out.low (k := w.heap.size) (by omega) 0 _).low (k := w.heap.size) (by omega) 1 _).mono (by omega), ⟨grown_new (grown_new HG4.out.gr (Nat.le_refl _) _ _) (Nat.le_refl _) _ _, (HG4.out.cur.setk hgl _ _).setk hgl _ _⟩⟩
      | false =>
        go_wp2_with fail
        go_roundw
        case rel =>
          refine ⟨j + 1, by omega, by go_num, hide ⟨HT.out.1.2, Ext.refl _⟩, HG4, by omega⟩
        case measure => simp [intOf]; omega
    · skip
      
      go_wp2_with fail
      refine (l01Below_any g 4 l _ hl (by omega) (by omega) HG.out.cur).mono ?_; rintro e w1 ⟨x, rfl, hx0, hx1, hc1, hg1⟩
      obtain ⟨k, rfl⟩ := Int.eq_ofNat_of_zero_le hx0
      have hk4 : k < 4 := by omega
      have hsh := sh_size (k := k) (by omega)
      have HG1 := hide (Gx.mk hg1 hc1)
      have hz1 := hg1.size
      have HT' := hide (HG1.out.tr (by simp [Ap]; omega) HT.out)
      have HGA := hide (HG.out.trans HG1.out)
      clear hc1 hg1 HG HG1
      clear kz0 kf0 kc0_0 kc0_1 kE
      clear HT; have HT := HT'; clear HT'
      have kT := HT.out; simp only [Tr, Bx, CellsAt, Nat.reduceAdd, Nat.zero_add, and_true] at kT; obtain ⟨⟨kz0, kf0, kc0_0, kc0_1⟩, kE⟩ := kT
      go_wp2_with fail
      refine (l04Shape_any k (by omega) _).mono ?_
      rintro e w2 ⟨A, B, c, c', rfl, ho, hb⟩
      have HO := hide ho
      have hz2 := hb.size
      have HG2 := hide (HGA.out.trans (Gx.ext HGA.out.cur hb))
      have HT' := hide (HT.out.ext hb); clear ho hb HT; have HT := HT'; clear HT'
      clear kz0 kf0 kc0_0 kc0_1 kE
      have kT := HT.out; simp only [Tr, Bx, CellsAt, Nat.reduceAdd, Nat.zero_add, and_true] at kT; obtain ⟨⟨kz0, kf0, kc0_0, kc0_1⟩, kE⟩ := kT
      have HWH := hide (sh_whole hk4)
      obtain ⟨N, hN⟩ : ∃ N, shN k = N := ⟨_, rfl⟩
      obtain ⟨E, hE⟩ : ∃ E, shE k = E := ⟨_, rfl⟩
      rw [hN, hE] at HO HWH hsh ⊢
      have HNN := hide hN
      clear hN hE
      go_wp2_with fail
      refine bodyPost_ret (v := .agg #[.slice A N.length c, .slice B E.length c']) (by simp only [results, Tryz.results82]; go_simp) rfl ⟨N, E, A, B, c, c', rfl, ⟨HWH.out, by omega, by omega, by omega⟩, ?_, ⟨grown_new (grown_new HG2.out.gr (Nat.le_refl _) _ _) (Nat.le_refl _) _ _, (HG2.out.cur.setk hgl _ _).setk hgl _ _⟩⟩
      have hwn : WN w2 (w.heap.size + 1) N E A B c c' := ⟨own_mono HO.out.nodes (by omega), own_mono HO.out.leads (by omega)⟩
      exact ((hwn.low (k := w.heap.size) (by omega) 0 _).low (k := w.heap.size) (by omega) 1 _).mono (by omega)
end Go.Proofs.YtabgcpoaepafjaaGreat
