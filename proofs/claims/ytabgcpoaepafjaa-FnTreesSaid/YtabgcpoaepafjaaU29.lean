/- Words and walks for the law FnTrees, a part of them. No condition but that the arguments lie in memory. -/
import Derived.Test.YtabgcpoaepafjaaU1
import Derived.Test.YtabgcpoaepafjaaU20
import Derived.Test.YtabgcpoaepafjaaU21
import Derived.Test.YtabgcpoaepafjaaU22
import Derived.Test.YtabgcpoaepafjaaU23
import Derived.Test.YtabgcpoaepafjaaU26
import Derived.Test.YtabgcpoaepafjaaU28
import Derived.IntWalk
set_option linter.unusedVariables false
set_option linter.unusedSimpArgs false
namespace Go.Proofs.Ytabgcpoaepafjaa
open Go.RowKit
set_option maxRecDepth 20000 in
set_option maxHeartbeats 2000000 in
theorem l07Whole_any (g : Nat) (l : List Int) (w : World) (hl : l.length ≤ 1048576) (hc : Cur w g l) :
    Calls Try.prog 39 #[.pointer (some ⟨g, 0, none⟩)] w fun e w' => ∃ N E A B c c', e = .returned (.agg #[.slice A N.length c, .slice B E.length c']) ∧ (wholeB N E = true ∧ 5 ≤ N.length ∧ N.length ≤ 13 ∧ E.length ≤ N.length + 8) ∧ WN w' w.heap.size N E A B c c' ∧ Gx g l w w' := by
  have HC := hide hc
  have hgl := hc.lt
  clear hc
  
  go_enter Try.func39, Try.ntmps39
  go_wp2_with fail
  obtain ⟨w0, hw⟩ : ∃ w1, w1 = w.alloc (Obj.cells #[Value.slice none 0 0, Value.slice none 0 0] 27) := ⟨_, rfl⟩; rw [← hw]; have kT : Tr [(w.heap.size, [.slice none 0 0, .slice none 0 0])] w w0 := (by rw [hw]; exact ⟨by (first | (simp [Bx, CellsAt, go_sem, *]; done) | (simp [Bx, CellsAt, go_sem, *]; omega)), by (repeat (first | exact kE | exact Ext.refl _ | apply Ext.alloc | apply Ext.drewN | apply Ext.drew | apply Ext.set0 | apply Ext.set1 | apply Ext.set2 | apply Ext.set3 | (refine Ext.setk ?_ (by omega) _) | (apply Ext.snoc; assumption)))⟩); have HT := hide kT; clear hw kT; have kT := HT.out; simp only [Tr, Bx, CellsAt, Nat.reduceAdd, Nat.zero_add, and_true] at kT; obtain ⟨⟨kz0, kf0, kc0_0, kc0_1⟩, kE⟩ := kT
  have HG0 := hide (Gx.ext HC.out kE)
  have hs0 := kz0
  have hng : ¬ w.heap.size = g := by omega
  have HT' := hide (show Tr [(w.heap.size, [.slice none 0 0, .slice none 0 0])] w0 w0 from ⟨HT.out.1, Ext.refl _⟩)
  clear kz0 kf0 kc0_0 kc0_1 kE
  clear HT
  go_loopw [3] (fun i wr => ∃ (j : Nat), j ≤ 4 ∧ i = .int .i64 j ∧ Hid (Tr [(w.heap.size, [.slice none 0 0, .slice none 0 0])] wr wr) ∧ Hid (Gx g l w wr) ∧ w.heap.size < wr.heap.size) (fun i _ => 4 - (intOf i).toNat)
  case atStart => exact ⟨0, by omega, rfl, HT', HG0, hs0⟩
  case round =>
    clear HT' HG0 hs0
    obtain ⟨j, hj, rfl, HT, HG, hsz⟩ := hrel
    have kT := HT.out; simp only [Tr, Bx, CellsAt, Nat.reduceAdd, Nat.zero_add, and_true] at kT; obtain ⟨⟨kz0, kf0, kc0_0, kc0_1⟩, kE⟩ := kT
    by_cases hj4 : j < 4
    · go_wp2_with fail
      refine (l04Window_any g l _ hl HG.out.cur).mono ?_
      rintro e w2 ⟨N, E, A, B, c, c', rfl, hb, hwn, hgx⟩
      have HN2 := hide hwn
      have HG2 := hide (HG.out.trans hgx)
      have hz2 := hgx.size
      have HT' := hide (hgx.tr (by simp [Ap]; omega) HT.out)
      clear hwn hgx HG
      clear kz0 kf0 kc0_0 kc0_1 kE
      clear HT; have HT := HT'; clear HT'
      have kT := HT.out; simp only [Tr, Bx, CellsAt, Nat.reduceAdd, Nat.zero_add, and_true] at kT; obtain ⟨⟨kz0, kf0, kc0_0, kc0_1⟩, kE⟩ := kT
      go_wp2_with fail
      obtain ⟨w3, hw⟩ : ∃ w1, w1 = w2.alloc (Obj.cells #[Value.slice A N.length c, Value.slice B E.length c'] 27) := ⟨_, rfl⟩; rw [← hw]; have Hw3 := hide (show Ext w2 w3 from (by (rw [hw]; (try clear kE); repeat (first | exact kE | exact Ext.refl _ | apply Ext.alloc | apply Ext.drewN | apply Ext.drew | apply Ext.set0 | apply Ext.set1 | apply Ext.set2 | apply Ext.set3 | (refine Ext.setk ?_ (by omega) _) | (apply Ext.snoc; assumption))))); have HT := hide (HT.out.more Hw3.out (w2.heap.size) [.slice A N.length c, .slice B E.length c'] (by (rw [hw]; first | (simp [CellsAt, go_sem, *]; done) | (simp [CellsAt, go_sem, *]; omega)))); have Zw3 := hide (congrArg (fun z : World => z.heap.size) hw); clear hw kz0 kf0 kc0_0 kc0_1 kE; have kT := HT.out; simp only [Tr, Bx, CellsAt, Nat.reduceAdd, Nat.zero_add, and_true] at kT; obtain ⟨⟨⟨kz0, kf0, kc0_0, kc0_1⟩, ⟨kz1, kf1, kc1_0, kc1_1⟩⟩, kE⟩ := kT
      have HN3 := hide (HN2.out.ext Hw3.out)
      have HG3 := hide (HG2.out.trans (Gx.ext HG2.out.cur Hw3.out))
      have hz3 := Hw3.out.size
      have HWR := hide (HN3.out.wr (by omega) (by omega))
      refine (sIsWhole_any N E A B c c' _ HWR.out).mono ?_
      rintro e w4 ⟨rfl, hb4⟩
      have HN4 := hide (HN3.out.ext hb4)
      have HG4 := hide (HG3.out.trans (Gx.ext HG3.out.cur hb4))
      have hz4 := hb4.size
      have HT' := hide (HT.out.ext hb4); clear hb4 HT; have HT := HT'; clear HT'
      clear HN2 HG2 HN3 HG3 Hw3 Zw3 HWR
      clear kz0 kf0 kc0_0 kc0_1 kz1 kf1 kc1_0 kc1_1 kE
      have kT := HT.out; simp only [Tr, Bx, CellsAt, Nat.reduceAdd, Nat.zero_add, and_true] at kT; obtain ⟨⟨⟨kz0, kf0, kc0_0, kc0_1⟩, ⟨kz1, kf1, kc1_0, kc1_1⟩⟩, kE⟩ := kT
      cases hwh : wholeB N E with
      | true =>
        go_wp2_with fail
        refine bodyPost_ret (v := .agg #[.slice A N.length c, .slice B E.length c']) (by simp only [results, Try.results39]; go_simp) rfl ⟨N, E, A, B, c, c', rfl, ⟨hwh, by omega, by omega, by omega⟩, ((HN4.out.low (k := w.heap.size) (by omega) 0 _).low (k := w.heap.size) (by omega) 1 _).mono (by omega), ⟨grown_new (grown_new HG4.out.gr (Nat.le_refl _) _ _) (Nat.le_refl _) _ _, (HG4.out.cur.setk hgl _ _).setk hgl _ _⟩⟩
      | false =>
        go_wp2_with fail
        go_roundw
        case rel =>
          refine ⟨j + 1, by omega, by go_num, hide ⟨HT.out.1.2, Ext.refl _⟩, HG4, by omega⟩
        case measure => simp [intOf]; omega
    · skip
      
      go_wp2_with fail
      refine (l01Below_any g 4 l _ hl (by omega) (by omega) HG.out.cur).mono ?_; rintro e w1 ⟨x, rfl, hx0, hx1, hc1, hg1⟩
      obtain ⟨k, rfl⟩ := Int.eq_ofNat_of_zero_le hx0
      have hk4 : k < 4 := by omega
      have hsh := sh_size (k := k) (by omega)
      have HG1 := hide (Gx.mk hg1 hc1)
      have hz1 := hg1.size
      have HT' := hide (HG1.out.tr (by simp [Ap]; omega) HT.out)
      have HGA := hide (HG.out.trans HG1.out)
      clear hc1 hg1 HG HG1
      clear kz0 kf0 kc0_0 kc0_1 kE
      clear HT; have HT := HT'; clear HT'
      have kT := HT.out; simp only [Tr, Bx, CellsAt, Nat.reduceAdd, Nat.zero_add, and_true] at kT; obtain ⟨⟨kz0, kf0, kc0_0, kc0_1⟩, kE⟩ := kT
      go_wp2_with fail
      refine (l04Shape_any k (by omega) _).mono ?_
      rintro e w2 ⟨A, B, c, c', rfl, ho, hb⟩
      have HO := hide ho
      have hz2 := hb.size
      have HG2 := hide (HGA.out.trans (Gx.ext HGA.out.cur hb))
      have HT' := hide (HT.out.ext hb); clear ho hb HT; have HT := HT'; clear HT'
      clear kz0 kf0 kc0_0 kc0_1 kE
      have kT := HT.out; simp only [Tr, Bx, CellsAt, Nat.reduceAdd, Nat.zero_add, and_true] at kT; obtain ⟨⟨kz0, kf0, kc0_0, kc0_1⟩, kE⟩ := kT
      have HWH := hide (sh_whole hk4)
      obtain ⟨N, hN⟩ : ∃ N, shN k = N := ⟨_, rfl⟩
      obtain ⟨E, hE⟩ : ∃ E, shE k = E := ⟨_, rfl⟩
      rw [hN, hE] at HO HWH hsh ⊢
      have HNN := hide hN
      clear hN hE
      go_wp2_with fail
      refine bodyPost_ret (v := .agg #[.slice A N.length c, .slice B E.length c']) (by simp only [results, Try.results39]; go_simp) rfl ⟨N, E, A, B, c, c', rfl, ⟨HWH.out, by omega, by omega, by omega⟩, ?_, ⟨grown_new (grown_new HG2.out.gr (Nat.le_refl _) _ _) (Nat.le_refl _) _ _, (HG2.out.cur.setk hgl _ _).setk hgl _ _⟩⟩
      have hwn : WN w2 (w.heap.size + 1) N E A B c c' := ⟨own_mono HO.out.nodes (by omega), own_mono HO.out.leads (by omega)⟩
      exact ((hwn.low (k := w.heap.size) (by omega) 0 _).low (k := w.heap.size) (by omega) 1 _).mono (by omega)
set_option maxRecDepth 20000 in
set_option maxHeartbeats 2000000 in
theorem DrawWhole_any (l : List Int) (A0 : Option Addr) (c0 : Nat) (w : World) (hl : l.length ≤ 1048576) (hr : RB w A0 l) :
    Calls Try.prog 7 #[.slice A0 l.length c0] w fun e w' => ∃ N E A B c c', e = .returned (.agg #[.slice A N.length c, .slice B E.length c']) ∧ (wholeB N E = true ∧ 5 ≤ N.length ∧ N.length ≤ 13 ∧ E.length ≤ N.length + 8) ∧ WN w' w.heap.size N E A B c c' ∧ Ext w w' := by
  have HR := hide hr
  clear hr
  
  go_enter Try.func7, Try.ntmps7
  go_wp2_with fail
  obtain ⟨w0, hw⟩ : ∃ w1, w1 = w.alloc (Obj.cells #[Value.slice none 0 0, Value.slice none 0 0] 27) := ⟨_, rfl⟩; rw [← hw]; have kT : Tr [(w.heap.size, [.slice none 0 0, .slice none 0 0])] w w0 := (by rw [hw]; exact ⟨by (first | (simp [Bx, CellsAt, go_sem, *]; done) | (simp [Bx, CellsAt, go_sem, *]; omega)), by (repeat (first | exact kE | exact Ext.refl _ | apply Ext.alloc | apply Ext.drewN | apply Ext.drew | apply Ext.set0 | apply Ext.set1 | apply Ext.set2 | apply Ext.set3 | (refine Ext.setk ?_ (by omega) _) | (apply Ext.snoc; assumption)))⟩); have HT := hide kT; clear hw kT; have kT := HT.out; simp only [Tr, Bx, CellsAt, Nat.reduceAdd, Nat.zero_add, and_true] at kT; obtain ⟨⟨kz0, kf0, kc0_0, kc0_1⟩, kE⟩ := kT
  have hs0 := kz0
  refine (l01New_any l A0 c0 _ hl (HR.out.ext kE)).mono ?_; rintro e w1 ⟨g, rfl, hgz, hcur, hb⟩; have HT := hide (HT.out.ext hb); have Hw1 := hide hb; clear hb; clear kz0 kf0 kc0_0 kc0_1 kE; have kT := HT.out; simp only [Tr, Bx, CellsAt, Nat.reduceAdd, Nat.zero_add, and_true] at kT; obtain ⟨⟨kz0, kf0, kc0_0, kc0_1⟩, kE⟩ := kT
  have HC1 := hide hcur
  clear hcur
  have hs1 := kz0
  go_wp2_with fail
  refine (l07Whole_any g l _ hl HC1.out).mono ?_
  rintro e w2 ⟨N, E, A, B, c, c', rfl, hb, hwn, hgx⟩
  have HN2 := hide hwn
  have HT' := hide (HT.out.grownA hgx.gr (fun k hk => by injection hk with hk; omega) (by simp [Ap]; omega))
  have hz2 := hgx.size
  clear hwn hgx
  clear kz0 kf0 kc0_0 kc0_1 kE
  clear HT; have HT := HT'; clear HT'
  have kT := HT.out; simp only [Tr, Bx, CellsAt, Nat.reduceAdd, Nat.zero_add, and_true] at kT; obtain ⟨⟨kz0, kf0, kc0_0, kc0_1⟩, kE⟩ := kT
  go_wp2_with fail
  refine bodyPost_ret (v := .agg #[.slice A N.length c, .slice B E.length c']) (by simp only [results, Try.results7]; go_simp) rfl ⟨N, E, A, B, c, c', rfl, hb, ((HN2.out.low (k := w.heap.size) (by omega) 0 _).low (k := w.heap.size) (by omega) 1 _).mono (by omega), (kE.setk (by omega) _).setk (by omega) _⟩
end Go.Proofs.Ytabgcpoaepafjaa
namespace Go.Proofs.Ytabgcpoaepafjaa
open Go.RowKit
theorem lhas_any (xs : List Int) (A : Option Addr) (c : Nat) (x : Int) (w : World) (hl : xs.length ≤ 1048576) (hr : RI w A xs) :
    Calls Try.prog 15 #[.slice A xs.length c, .int .i64 x] w fun e w' => e = .returned (.bool (hasL xs x)) ∧ w = w' := by
  have HR := hide hr
  clear hr
  go_enter Try.func15, Try.ntmps15
  go_wp2_with fail
  go_loopw [5] (fun i wr => ∃ k : Nat, k ≤ xs.length ∧ i = .int .i64 k ∧ Hid ((xs.take k).contains x = false) ∧ Hid (wr = w)) (fun i _ => xs.length - (intOf i).toNat)
  case atStart => exact ⟨0, Nat.zero_le _, rfl, hide (by simp), hide rfl⟩
  case round =>
    obtain ⟨k, hk, rfl, HN, HW⟩ := hrel
    obtain rfl := HW.out
    by_cases hlt : k < xs.length
    · have hlz : (k : Int) < (xs.length : Int) := by omega
      obtain ⟨b, off, rfl, hb, hc⟩ := RI.at_ HR.out hlt
      have HST := hide (fun h => has_step hlt HN.out h)
      have HHI := hide (fun (h : xs[k] = x) => has_hit hlt h)
      obtain ⟨y, hy⟩ : ∃ y, xs[k] = y := ⟨_, rfl⟩
      rw [hy] at hc
      have HST := hide (fun h => HST.out (by rw [hy]; exact h))
      have HHI := hide (fun h => HHI.out (by rw [hy]; exact h))
      clear hy
      by_cases he : y = x
      · have HV := hide (HHI.out he)
        have q1 : (y == x) = true := by simp [he]
        clear he
        go_wp2_with fail
        go_ret
        exact ⟨ret_bool HV.out.symm, rfl⟩
      · have HV := hide (HST.out he)
        have q1 : (y == x) = false := by simp [he]
        clear he
        go_wp2_with fail
        go_roundw
        case rel => exact ⟨k + 1, by omega, by go_num, HV, by first | exact hide rfl | exact hide trivial⟩
        case measure => simp [intOf]; omega
    · have HV := hide (has_end hlt HN.out)
      obtain rfl : k = xs.length := by omega
      go_wp2_with fail
      go_ret
      exact ⟨ret_bool HV.out.symm, rfl⟩
end Go.Proofs.Ytabgcpoaepafjaa
namespace Go.Proofs.Ytabgcpoaepafjaa
open Go.RowKit
theorem big_any (l : List Int) (A : Option Addr) (c : Nat) (w : World) (hl : l.length ≤ maxLen) :
    Calls Try.prog 6 #[.slice A l.length c] w fun e w' => e = .returned (.bool (decide ((1048576 : Int) < l.length))) ∧ w = w' := by
  unfold maxLen at hl
  go_enter Try.func6, Try.ntmps6
  go_wp2
  go_ret
  exact ⟨rfl, rfl⟩
end Go.Proofs.Ytabgcpoaepafjaa
namespace Go.Proofs.Ytabgcpoaepafjaa
open Go.RowKit
theorem hasL_cast {l : List Nat} {k : Nat} : hasL (castL l) (k : Int) = l.contains k := hasL_nat
theorem tree_left {N E : List P2} {c : List Bool} (h : TreeOf N E c) : ((List.range E.length).filter fun t : Nat => !hasL (castL (selB 0 c)) t) = selB 0 (c.map (!·)) := by
  rw [← h.left]
  refine List.filter_congr fun k _ => ?_
  rw [hasL_cast]
  by_cases q : k ∈ selB 0 c
  · simp [q]
  · simp [q]
theorem tree_apart {c : List Bool} {k : Nat} (h : k ∈ selB 0 (c.map (!·))) : hasL (castL (selB 0 c)) (k : Int) = false := by
  rw [hasL_cast]
  have : k ∉ selB 0 c := fun q => selB_apart c 0 k q h
  simpa using this
theorem tree_loose {N E : List P2} {c : List Bool} (h : TreeOf N E c) (hw : wholeB N E = true) {k : Nat} (hk : k ∈ (List.range E.length).filter fun t : Nat => decide (sd N E (2 * t) = sd N E (2 * t + 1))) : hasL (castL (selB 0 c)) (k : Int) = true := by
  obtain ⟨h1, h2⟩ := List.mem_filter.1 hk
  rw [hasL_cast]
  have := h.loose hw (List.mem_range.1 h1) (of_decide_eq_true h2)
  simpa using this
theorem sample_at (W : World) (A B : Option Addr) (c c' : Nat) (h : WR W (shN 0) (shE 0) A B c c') : Calls Try.prog 10 #[.agg #[.slice A (shN 0).length c, .slice B (shE 0).length c']] W fun e w' => e = .returned (.int .i64 45) ∧ Ext W w' := by
  rw [← sample_span]
  exact CountSpanning_any (shN 0) (shE 0) A B c c' W h
theorem at_one (l : List Int) (i : Nat) (A0 : Option Addr) (w0 : World) (hl : l.length ≤ 1048576) (hi : i ≤ 10) (hr : RB w0 A0 l) :
    ∃ x : Nat, ∀ (A : Option Addr) (c : Nat) (w : World), RB w A l → Calls Try.prog 17 #[.slice A l.length c, .int .i64 i] w fun e w' => e = .returned (.int .i64 (x : Nat)) ∧ w = w' := by
  by_cases h0 : l.length = 0
  · refine ⟨0, fun A c w _ => ?_⟩
    have hne : ((l.length : Int) == 0) = true := by rw [beq_iff_eq]; omega
    clear h0 hr
    go_enter Try.func17, Try.ntmps17
    go_wp2
    go_ret
    exact ⟨rfl, rfl⟩
  · obtain ⟨j, hj⟩ : ∃ j, (i * 5 + 1) % l.length = j := ⟨_, rfl⟩
    have hjl : j < l.length := by rw [← hj]; exact Nat.mod_lt _ (by omega)
    obtain ⟨_, _, _, _, _, e1, e2⟩ := hr.at_ hjl
    obtain ⟨x, hx⟩ := Int.eq_ofNat_of_zero_le e1
    refine ⟨x, fun A c w hr => ?_⟩
    have hne : ((l.length : Int) == 0) = false := by rw [beq_eq_false_iff_ne]; omega
    have q0 : ((i : Int) * 5 + 1) % (l.length : Int) = (j : Int) := by rw [← hj]; push_cast; rfl
    clear hj
    have q1 : (j : Int) < (l.length : Int) := by omega
    have q2 : (0 : Int) ≤ (j : Int) := by omega
    obtain ⟨b, off, rfl, hb, e0, _, _⟩ := hr.at_ hjl
    rw [hx] at e0
    clear hr
    go_enter Try.func17, Try.ntmps17
    go_wp2
    go_ret
    exact ⟨rfl, rfl⟩
set_option maxRecDepth 20000 in
set_option maxHeartbeats 16000000 in
theorem FnTrees_walk (l : List Int) (A0 : Option Addr) (cc : Nat) (w : World) (hl : l.length ≤ maxLen) (hr : RB w A0 l) :
    Calls Try.prog 3 #[.slice A0 l.length cc] w fun e w' => e = .returned (.bool true) ∧ Ext w w' := by
  by_cases hb : (1048576 : Int) < l.length
  · go_enter Try.func3, Try.ntmps3
    go_wp2_with fail
    refine (big_any l A0 cc _ hl).mono ?_; rintro e w1 ⟨rfl, rfl⟩
    rw [decide_eq_true (by omega)]
    go_wp2_with fail
    go_ret
    exact ⟨rfl, by repeat (first | exact kE | exact Ext.refl _ | apply Ext.alloc | apply Ext.drewN | apply Ext.drew | apply Ext.set0 | apply Ext.set1 | apply Ext.set2 | apply Ext.set3 | (refine Ext.setk ?_ (by omega) _) | (apply Ext.snoc; assumption))⟩
  · have HR := hide hr
    clear hr
    have hm : l.length ≤ 1048576 := by omega
    obtain ⟨x0, hx0⟩ := at_one l 0 A0 w hm (by omega) HR.out
    have HAT := hide (fun (W : World) (hE : Ext w W) => hx0 A0 cc W ⟨HR.out.1.ext hE, HR.out.2⟩)
    clear hx0
    go_enter Try.func3, Try.ntmps3
    go_wp2_with fail
    refine (big_any l A0 cc _ hl).mono ?_; rintro e w1 ⟨rfl, rfl⟩
    rw [decide_eq_false (by omega)]
    go_wp2_with fail
    refine (DrawWhole_any l A0 cc _ hm HR.out).mono ?_
    rintro e wD ⟨N, E, A, B, c, c', rfl, ⟨hwh, h5, h13, hEN⟩, hWN, kE⟩
    have HEW := hide kE
    have HWR := hide (fun (W : World) (hE : Ext wD W) => (hWN.wr (by omega) (by omega)).ext hE)
    have HWH := hide hwh
    obtain ⟨hm20, hm0, hn2, hn12, heu, hf0⟩ := whole_m hwh
    have HFS := hide (fun (W : World) (hE : Ext wD W) => FirstSpanning_any N E A B c c' W (HWR.out W hE) hwh)
    have HSC := hide (fun (W : World) (hE : Ext wD W) => CountSpanning_any N E A B c c' W (HWR.out W hE))
    have HCD := hide (fun (W : World) (hE : Ext wD W) => CountDualTrees_any N E A B c c' W (HWR.out W hE))
    have HCF := hide (fun (W : World) (hE : Ext wD W) => CountFaces_any N E A B c c' W (HWR.out W hE) hwh)
    have HLL := hide (fun (W : World) (hE : Ext wD W) => sLooseLeads_any N E A B c c' W (HWR.out W hE) hwh)
    have HSN := hide (fun (W : World) (hE : Ext wD W) => IsSpanning_nil N E A B c c' W (HWR.out W hE) hwh)
    have HDL := hide (fun (k : Nat) (hk : k < E.length) (W : World) (hE : Ext wD W) => DropLead_take N E A B c c' k W (HWR.out W hE) (by omega) hm0 (by omega) (by omega) hk)
    have HPO := hide (span_pos hwh)
    have HLS := hide (fun (k : Nat) (hk : k < E.length) => span_less hwh hk)
    rw [← span_dual hwh] at HCD
    have hwin := windowB_iff.2 (wholeB_iff.1 hwh).1
    obtain ⟨S, hS⟩ : ∃ S, spanI N E = S := ⟨_, rfl⟩
    rw [hS] at HSC HCD HPO HLS
    clear hWN hS
    
    go_wp2_with fail
    have HX := hide ((Ext.refl wD).alloc (Obj.cells #[Value.slice A N.length c, Value.slice B E.length c'] 27))
    obtain ⟨w2, hw⟩ : ∃ w1, w1 = wD.alloc (Obj.cells #[Value.slice A N.length c, Value.slice B E.length c'] 27) := ⟨_, rfl⟩; rw [← hw]; have kT : Tr [(wD.heap.size, [.slice A N.length c, .slice B E.length c'])] w w2 := (by rw [hw]; exact ⟨by (first | (simp [Bx, CellsAt, go_sem, *]; done) | (simp [Bx, CellsAt, go_sem, *]; omega)), by (repeat (first | exact kE | exact Ext.refl _ | apply Ext.alloc | apply Ext.drewN | apply Ext.drew | apply Ext.set0 | apply Ext.set1 | apply Ext.set2 | apply Ext.set3 | (refine Ext.setk ?_ (by omega) _) | (apply Ext.snoc; assumption)))⟩); have HT := hide kT; clear kT; have kT := HT.out; simp only [Tr, Bx, CellsAt, Nat.reduceAdd, Nat.zero_add, and_true] at kT; obtain ⟨⟨kz0, kf0, kc0_0, kc0_1⟩, kE⟩ := kT
    rw [← hw] at HX
    clear hw
    refine (HFS.out _ HX.out).mono ?_; rintro e w3 ⟨p, cl, A2, c2, hG, rfl, hown, hb⟩; have HT := hide (HT.out.ext hb); have Hw3 := hide hb; clear hb; clear kz0 kf0 kc0_0 kc0_1 kE; have kT := HT.out; simp only [Tr, Bx, CellsAt, Nat.reduceAdd, Nat.zero_add, and_true] at kT; obtain ⟨⟨kz0, kf0, kc0_0, kc0_1⟩, kE⟩ := kT
    have HX := hide (HX.out.trans Hw3.out)
    have HTR := hide (treeOf HWH.out hG)
    have HRK := hide (fun (W : World) (hE : Ext w3 W) => (Rds.ext (Rds.of_own hown) hE))
    have hkl := HTR.out.size HWH.out
    have hdl := HTR.out.rest HWH.out
    obtain ⟨K, hK⟩ : ∃ K, selB 0 cl = K := ⟨_, rfl⟩
    obtain ⟨D, hD⟩ : ∃ D, selB 0 (cl.map (!·)) = D := ⟨_, rfl⟩
    obtain ⟨X, hXX⟩ : ∃ X, ((List.range E.length).filter fun t : Nat => decide (sd N E (2 * t) = sd N E (2 * t + 1))) = X := ⟨_, rfl⟩
    have hKp : K.Pairwise (· < ·) := by rw [← hK]; exact selB_rise cl 0
    have hKm : ∀ k ∈ K, k < E.length := fun k hk => by rw [← hK] at hk; have := (selB_mem hk).2; have := HTR.out.len; omega
    have hDp : D.Pairwise (· < ·) := by rw [← hD]; exact selB_rise _ 0
    have hDm : ∀ k ∈ D, k < E.length := fun k hk => by rw [← hD] at hk; have h1 := (selB_mem hk).2; have h2 := HTR.out.len; rw [List.length_map] at h1; omega
    have hjK := HTR.out.joined HWH.out
    have hjD := HTR.out.joinedD HWH.out
    have hlf := tree_left HTR.out
    have HAP := hide (fun (k : Nat) (h : k ∈ D) => (by rw [← hK]; exact tree_apart (by rw [hD]; exact h) : hasL (castL K) (k : Int) = false))
    have HLO := hide (fun (k : Nat) (h : k ∈ X) => (by rw [← hK]; exact tree_loose HTR.out HWH.out (by rw [hXX]; exact h) : hasL (castL K) (k : Int) = true))
    have hX20 : X.length ≤ 20 := by rw [← hXX]; exact Nat.le_trans (List.length_filter_le _ _) (by simpa using hm20)
    rw [hK] at hkl hjK hlf HRK ⊢
    rw [hD] at hdl hjD hlf
    rw [hXX] at HLL
    have HRK := hide (fun (W : World) (hE : Ext w3 W) => (show RI W A2 (castL K) from by have h := HRK.out W hE; rw [← castL_length K] at h; exact h))
    obtain ⟨ln, hln⟩ : ∃ ln, K.length = ln := ⟨_, rfl⟩
    obtain ⟨dn, hdn⟩ : ∃ dn, D.length = dn := ⟨_, rfl⟩
    obtain ⟨fn, hfn⟩ : ∃ fn, (fcs N E).length = fn := ⟨_, rfl⟩
    obtain ⟨xn, hxn⟩ : ∃ xn, X.length = xn := ⟨_, rfl⟩
    have HDS := hide (fun (W : World) (hE : Ext w3 W) => (show Calls Try.prog 9 #[.agg #[.slice A N.length c, .slice B E.length c'], .slice A2 ln c2] W fun e w' => ∃ A4 c4, e = .returned (.slice A4 dn c4) ∧ w'.ownsRow W.heap.size 3 1 (.slice A4 dn c4) dn (encI (castL D)) ∧ Ext W w' from by
      have h := DualSpanning_any N E A B A2 c c' c2 K W (HWR.out W (HX.out.trans hE)) HWH.out hkl hKp hKm (HRK.out W hE) hjK
      rw [hlf, hln, hdn] at h
      exact h))
    have HIS := hide (fun (W : World) (hE : Ext w3 W) => (show Calls Try.prog 11 #[.agg #[.slice A N.length c, .slice B E.length c'], .slice A2 ln c2] W fun e w' => e = .returned (.bool true) ∧ Ext W w' from by
      have h := IsSpanning_tree N E A B A2 c c' c2 K W (HWR.out W (HX.out.trans hE)) HWH.out hkl hKp hKm (HRK.out W hE) hjK
      rw [hln] at h
      exact h))
    have HID := hide (fun (A4 : Option Addr) (c4 : Nat) (W : World) (hE : Ext w3 W) (hr : RI W A4 (castL D)) => (show Calls Try.prog 12 #[.agg #[.slice A N.length c, .slice B E.length c'], .slice A4 dn c4] W fun e w' => e = .returned (.bool true) ∧ Ext W w' from by
      have h := IsDualTree_tree N E A B A4 c c' c4 D W (HWR.out W (HX.out.trans hE)) HWH.out hdl hDp hDm hr hjD
      rw [hdn] at h
      exact h))
    have HHS := hide (fun (x : Int) (W : World) (hE : Ext w3 W) => (show Calls Try.prog 15 #[.slice A2 ln c2, .int .i64 x] W fun e w' => e = .returned (.bool (hasL (castL K) x)) ∧ W = w' from by
      have h := lhas_any (castL K) A2 c2 x W (by rw [castL_length]; omega) (HRK.out W hE)
      rw [castL_length, hln] at h
      exact h))
    rw [hln] at hkl
    rw [hdn, hfn] at hdl
    rw [hfn] at heu hf0 HCF
    rw [hxn] at HLL hX20
    have hln2 : (castL D).length = dn := by rw [castL_length]; exact hdn
    have hxn2 : (castL X).length = xn := by rw [castL_length]; exact hxn
    have HDN := hide hdn
    have HXN := hide hxn
    rw [hln]
    have HKL := hide hkl
    have HDLN := hide hdl
    have HEU := hide heu
    have HN2 := hide hln2
    have HX2 := hide hxn2
    clear hkl hdl heu hxn2
    clear hK hD hXX hKp hKm hDp hDm hjK hjD hlf HRK hln hdn hfn hxn hwh hb
    go_wp2_with fail
    refine (HDS.out _ (Ext.refl _)).mono ?_; rintro e w4 ⟨A4, c4, rfl, hown, hb⟩; have HT := hide (HT.out.ext hb); have Hw4 := hide hb; clear hb; clear kz0 kf0 kc0_0 kc0_1 kE; have kT := HT.out; simp only [Tr, Bx, CellsAt, Nat.reduceAdd, Nat.zero_add, and_true] at kT; obtain ⟨⟨kz0, kf0, kc0_0, kc0_1⟩, kE⟩ := kT
    have HX4 := hide Hw4.out
    have HX5 := hide (Ext.refl w4)
    have HRD := hide (fun (W : World) (hE : Ext w4 W) => (show RI W A4 (castL D) from by have h := Rds.ext (Rds.of_own hown) hE; rw [← hln2] at h; exact h))
    clear hown hln2
    go_wp2_with fail
    refine (HSC.out _ (HX.out.trans HX4.out)).mono ?_; rintro e w5 ⟨rfl, hb⟩; have HT := hide (HT.out.ext hb); have Hw5 := hide hb; clear hb; clear kz0 kf0 kc0_0 kc0_1 kE; have kT := HT.out; simp only [Tr, Bx, CellsAt, Nat.reduceAdd, Nat.zero_add, and_true] at kT; obtain ⟨⟨kz0, kf0, kc0_0, kc0_1⟩, kE⟩ := kT
    have HX4 := hide (HX4.out.trans Hw5.out)
    have HX5 := hide (HX5.out.trans Hw5.out)
    have hpos := HPO.out
    have heu := HEU.out
    have hkl := HKL.out
    have hdl := HDLN.out
    have e1 : decide (S < 1) = false := decide_eq_false (by omega)
    have e2 : (S != S) = false := by simp
    have e3 : IntKind.i64.wrap ((ln : Int) + (dn : Int)) = (E.length : Int) := by rw [IntKind.wrap_i64]; omega
    have e4 : IntKind.i64.wrap ((fn : Int) - 1) = (dn : Int) := by rw [IntKind.wrap_i64]; omega
    have HRM := hide (show (x0 : Int) % (E.length : Int) = ((x0 % E.length : Nat) : Int) by push_cast; rfl)
    have HRL := hide (Nat.mod_lt x0 hm0)
    clear heu hkl hdl
    go_wp2_with fail
    refine (HIS.out _ HX4.out).mono ?_; rintro e w6 ⟨rfl, hb⟩; have HT := hide (HT.out.ext hb); have Hw6 := hide hb; clear hb; clear kz0 kf0 kc0_0 kc0_1 kE; have kT := HT.out; simp only [Tr, Bx, CellsAt, Nat.reduceAdd, Nat.zero_add, and_true] at kT; obtain ⟨⟨kz0, kf0, kc0_0, kc0_1⟩, kE⟩ := kT
    have HX4 := hide (HX4.out.trans Hw6.out)
    have HX5 := hide (HX5.out.trans Hw6.out)
    go_wp2_with fail
    refine (HID.out _ _ _ HX4.out (HRD.out _ HX5.out)).mono ?_; rintro e w7 ⟨rfl, hb⟩; have HT := hide (HT.out.ext hb); have Hw7 := hide hb; clear hb; clear kz0 kf0 kc0_0 kc0_1 kE; have kT := HT.out; simp only [Tr, Bx, CellsAt, Nat.reduceAdd, Nat.zero_add, and_true] at kT; obtain ⟨⟨kz0, kf0, kc0_0, kc0_1⟩, kE⟩ := kT
    have HX4 := hide (HX4.out.trans Hw7.out)
    have HX5 := hide (HX5.out.trans Hw7.out)
    go_wp2_with fail
    refine (HCD.out _ (HX.out.trans HX4.out)).mono ?_; rintro e w8 ⟨rfl, hb⟩; have HT := hide (HT.out.ext hb); have Hw8 := hide hb; clear hb; clear kz0 kf0 kc0_0 kc0_1 kE; have kT := HT.out; simp only [Tr, Bx, CellsAt, Nat.reduceAdd, Nat.zero_add, and_true] at kT; obtain ⟨⟨kz0, kf0, kc0_0, kc0_1⟩, kE⟩ := kT
    have HX4 := hide (HX4.out.trans Hw8.out)
    have HX5 := hide (HX5.out.trans Hw8.out)
    go_wp2_with fail
    refine (HCF.out _ (HX.out.trans HX4.out)).mono ?_; rintro e w9 ⟨rfl, hb⟩; have HT := hide (HT.out.ext hb); have Hw9 := hide hb; clear hb; clear kz0 kf0 kc0_0 kc0_1 kE; have kT := HT.out; simp only [Tr, Bx, CellsAt, Nat.reduceAdd, Nat.zero_add, and_true] at kT; obtain ⟨⟨kz0, kf0, kc0_0, kc0_1⟩, kE⟩ := kT
    have HX4 := hide (HX4.out.trans Hw9.out)
    have HX5 := hide (HX5.out.trans Hw9.out)
    have HTZ := HT
    have hdn40 : dn ≤ 40 := by have := HEU.out; have := HDLN.out; omega
    clear e1 e2 e3 HFS HDS HIS HID HCD HCF Hw4 Hw5 Hw6 Hw7 Hw8 Hw3
    go_wp2_with fail
    clear HT
    clear kz0 kf0 kc0_0 kc0_1 kE
    go_loopw [7] (fun i wr => ∃ k : Nat, k ≤ dn ∧ i = .int .i64 k ∧ Hid (wr = w9)) (fun i _ => dn - (intOf i).toNat)
    case atStart => exact ⟨0, Nat.zero_le _, rfl, hide rfl⟩
    case round =>
      obtain ⟨k, hk, rfl, HW⟩ := hrel
      obtain rfl := HW.out
      by_cases hlt : k < dn
      · have hlz : (k : Int) < (dn : Int) := by omega
        have hkD : k < D.length := by rw [HDN.out]; exact hlt
        obtain ⟨b8, o8, rfl, hb8, d8⟩ := RI.at_ (HRD.out _ HX5.out) (k := k) (by rw [castL_length]; exact hkD)
        rw [castL_at hkD] at d8
        have hap := HAP.out _ (List.getElem_mem hkD)
        obtain ⟨x, hx⟩ : ∃ x, D[k] = x := ⟨_, rfl⟩
        rw [hx] at d8 hap
        have HHX := hide (by have h := HHS.out (x : Int) _ HX4.out; rw [hap] at h; exact h)
        clear hx hap hkD
        go_wp2_with (go_at_call 15; refine HHX.out.mono ?_; rintro e w' ⟨rfl, rfl⟩)
        go_roundw
        case rel => exact ⟨k + 1, by omega, by go_num, by first | exact hide rfl | exact hide trivial⟩
        case measure => simp [intOf]; omega
      · obtain rfl : k = dn := by omega
        have HT := HTZ
        have kT := HT.out; simp only [Tr, Bx, CellsAt, Nat.reduceAdd, Nat.zero_add, and_true] at kT; obtain ⟨⟨kz0, kf0, kc0_0, kc0_1⟩, kE⟩ := kT
        go_wp2_with fail
        refine (HLL.out _ (HX.out.trans HX4.out)).mono ?_; rintro e w10 ⟨A6, c6, rfl, hown, hb⟩; have HT := hide (HT.out.ext hb); have Hw10 := hide hb; clear hb; clear kz0 kf0 kc0_0 kc0_1 kE; have kT := HT.out; simp only [Tr, Bx, CellsAt, Nat.reduceAdd, Nat.zero_add, and_true] at kT; obtain ⟨⟨kz0, kf0, kc0_0, kc0_1⟩, kE⟩ := kT
        have HX4 := hide (HX4.out.trans Hw10.out)
        have HRX := hide (show RI w10 A6 (castL X) from by have h := Rds.of_own hown; rw [← HX2.out] at h; exact h)
        have HTZ := HT
        clear hown
        go_wp2_with fail
        clear HT
        clear kz0 kf0 kc0_0 kc0_1 kE
        go_loopw [9] (fun i wr => ∃ k : Nat, k ≤ xn ∧ i = .int .i64 k ∧ Hid (wr = w10)) (fun i _ => xn - (intOf i).toNat)
        case atStart => exact ⟨0, Nat.zero_le _, rfl, hide rfl⟩
        case round =>
          obtain ⟨k, hk, rfl, HW⟩ := hrel
          obtain rfl := HW.out
          by_cases hlt : k < xn
          · have hlz : (k : Int) < (xn : Int) := by omega
            have hkX : k < X.length := by rw [HXN.out]; exact hlt
            obtain ⟨b8, o8, rfl, hb8, d8⟩ := RI.at_ HRX.out (k := k) (by rw [castL_length]; exact hkX)
            rw [castL_at hkX] at d8
            have hap := HLO.out _ (List.getElem_mem hkX)
            obtain ⟨x, hx⟩ : ∃ x, X[k] = x := ⟨_, rfl⟩
            rw [hx] at d8 hap
            have HHX := hide (by have h := HHS.out (x : Int) _ HX4.out; rw [hap] at h; exact h)
            clear hx hap hkX
            go_wp2_with (go_at_call 15; refine HHX.out.mono ?_; rintro e w' ⟨rfl, rfl⟩)
            go_roundw
            case rel => exact ⟨k + 1, by omega, by go_num, by first | exact hide rfl | exact hide trivial⟩
            case measure => simp [intOf]; omega
          · obtain rfl : k = xn := by omega
            have HT := HTZ
            have kT := HT.out; simp only [Tr, Bx, CellsAt, Nat.reduceAdd, Nat.zero_add, and_true] at kT; obtain ⟨⟨kz0, kf0, kc0_0, kc0_1⟩, kE⟩ := kT
            go_wp2_with fail
            have hxr : (x0 : Int) % (E.length : Int) = ((x0 % E.length : Nat) : Int) := HRM.out
            have HKK := hide (fun W hE => HDL.out _ HRL.out W hE)
            have HSL := hide (HLS.out _ HRL.out)
            obtain ⟨k9, hk9⟩ : ∃ k9, x0 % E.length = k9 := ⟨_, rfl⟩
            rw [hk9] at HKK HSL hxr
            have hz9 : (E.length : Int) ≠ 0 := by omega
            have hz8 : ¬ E.length = 0 := by omega
            have hz7 : ¬ E = [] := fun e => hz8 (by rw [e]; rfl)
            have HATW := hide (fun (W : World) (hE : Ext wr W) => HAT.out W (HEW.out.trans (HX.out.trans (HX4.out.trans hE))))
            clear hk9
            go_upto_region 20 with fail
            have kq0_0 := ExtBy.cell (W := wr) kz0 kc0_0; have kq0_1 := ExtBy.cell (W := wr) kz0 kc0_1; refine wp_region_quietE (by kernel_rfl) (by kernel_rfl) ?_; (repeat (refine WQ.step (fun K hK => ?_); have HK := hide hK; clear hK; go_simp; refine HK.out _ ?_; clear HK K)); (refine WQ.step (fun K hK => ?_); have HK := hide hK; clear hK; go_simp; apply Exists.intro; refine ⟨fun _ => ?_, HK.out _ ?_⟩; (go_at_call 17; refine extby_same (HATW.out _ (ExtBy.h _))); clear HK K); (repeat (refine WQ.step (fun K hK => ?_); have HK := hide hK; clear hK; go_simp; refine HK.out _ ?_; clear HK K)); refine WQ.done ?_; intro w11 hw'; obtain ⟨⟨_, hw11⟩, hw''⟩ := hw'; subst hw''; clear kq0_0 kq0_1; have HT := hide (HT.out.ext hw11); have Hw11 := hide hw11; clear hw11 kz0 kf0 kc0_0 kc0_1 kE; have kT := HT.out; simp only [Tr, Bx, CellsAt, Nat.reduceAdd, Nat.zero_add, and_true] at kT; obtain ⟨⟨kz0, kf0, kc0_0, kc0_1⟩, kE⟩ := kT
            have HX4 := hide (HX4.out.trans Hw11.out)
            go_wp2_with fail
            rw [hxr]
            clear hxr hz9 hz8 hz7 HATW
            refine (HKK.out _ (HX.out.trans HX4.out)).mono ?_; rintro e w12 ⟨ok, E2, A7, B7, d, d', rfl, hE2, hWN, hb⟩; have HT := hide (HT.out.ext hb); have Hw12 := hide hb; clear hb; clear kz0 kf0 kc0_0 kc0_1 kE; have kT := HT.out; simp only [Tr, Bx, CellsAt, Nat.reduceAdd, Nat.zero_add, and_true] at kT; obtain ⟨⟨kz0, kf0, kc0_0, kc0_1⟩, kE⟩ := kT
            have hE2 := hE2 hwin
            have HX4 := hide (HX4.out.trans Hw12.out)
            have hln9 : E2.length ≤ 20 := by rw [hE2]; simp; omega
            have HWR2 := hide (fun (W : World) (hE : Ext w12 W) => (hWN.wr (by omega) (by omega)).ext hE)
            have HIW := hide (fun (W : World) (hE : Ext w12 W) => sIsWhole_any N E2 A7 B7 d d' W (HWR2.out W hE))
            have HSC2 := hide (fun (W : World) (hE : Ext w12 W) => CountSpanning_any N E2 A7 B7 d d' W (HWR2.out W hE))
            rw [← hE2] at HSL
            obtain ⟨S2, hS2⟩ : ∃ S2, spanI N E2 = S2 := ⟨_, rfl⟩
            rw [hS2] at HSL HSC2
            obtain ⟨wb, hwb⟩ : ∃ wb, wholeB N E2 = wb := ⟨_, rfl⟩
            rw [hwb] at HIW
            have HSM := hide (fun (W : World) => iSampleWindow_any W)
            have HS45 := hide (fun (A B : Option Addr) (c c' : Nat) (W : World) (h : WR W (shN 0) (shE 0) A B c c') => (sample_at W A B c c' h))
            clear hwb hS2 hE2 hWN hwin HLS HDL HKK
            have hs12 := kz0
            
            have HXB := hide ((Ext.refl w12).alloc (Obj.cells #[Value.slice A7 N.length d, Value.slice B7 E2.length d'] 27))
            go_upto_region 23 with fail
            obtain ⟨w13, hw⟩ : ∃ w1, w1 = w12.alloc (Obj.cells #[Value.slice A7 N.length d, Value.slice B7 E2.length d'] 27) := ⟨_, rfl⟩; rw [← hw]; have kT : Tr [(w12.heap.size, [.slice A7 N.length d, .slice B7 E2.length d']), (wD.heap.size, [.slice A N.length c, .slice B E.length c'])] w w13 := (by rw [hw]; exact ⟨by (first | (simp [Bx, CellsAt, go_sem, *]; done) | (simp [Bx, CellsAt, go_sem, *]; omega)), by (repeat (first | exact kE | exact Ext.refl _ | apply Ext.alloc | apply Ext.drewN | apply Ext.drew | apply Ext.set0 | apply Ext.set1 | apply Ext.set2 | apply Ext.set3 | (refine Ext.setk ?_ (by omega) _) | (apply Ext.snoc; assumption)))⟩); have HT := hide kT; clear kT; have kT := HT.out; simp only [Tr, Bx, CellsAt, Nat.reduceAdd, Nat.zero_add, and_true] at kT; obtain ⟨⟨⟨kz0, kf0, kc0_0, kc0_1⟩, ⟨kz1, kf1, kc1_0, kc1_1⟩⟩, kE⟩ := kT
            rw [← hw] at HXB
            clear hw
            have HX4 := hide (HX4.out.trans HXB.out)
            go_wp2_with fail
            refine (HIW.out _ HXB.out).mono ?_; rintro e w14 ⟨rfl, hb⟩; have HT := hide (HT.out.ext hb); have Hw14 := hide hb; clear hb; clear kz0 kf0 kc0_0 kc0_1 kz1 kf1 kc1_0 kc1_1 kE; have kT := HT.out; simp only [Tr, Bx, CellsAt, Nat.reduceAdd, Nat.zero_add, and_true] at kT; obtain ⟨⟨⟨kz0, kf0, kc0_0, kc0_1⟩, ⟨kz1, kf1, kc1_0, kc1_1⟩⟩, kE⟩ := kT
            have HX4 := hide (HX4.out.trans Hw14.out)
            have HXB := hide (HXB.out.trans Hw14.out)
            have g0 : decide ((0 : Int) < S) = true := decide_eq_true (by omega)
            have g1 : decide (S2 < S) = true := decide_eq_true HSL.out
            cases wb with
            | false =>
              go_wp2_with fail
              refine (HSN.out _ (HX.out.trans HX4.out)).mono ?_; rintro e w15 ⟨rfl, hb⟩; have HT := hide (HT.out.ext hb); have Hw15 := hide hb; clear hb; clear kz0 kf0 kc0_0 kc0_1 kz1 kf1 kc1_0 kc1_1 kE; have kT := HT.out; simp only [Tr, Bx, CellsAt, Nat.reduceAdd, Nat.zero_add, and_true] at kT; obtain ⟨⟨⟨kz0, kf0, kc0_0, kc0_1⟩, ⟨kz1, kf1, kc1_0, kc1_1⟩⟩, kE⟩ := kT
              have HX4 := hide (HX4.out.trans Hw15.out)
              go_wp2_with fail
              refine (HSM.out _).mono ?_
              rintro e w16 ⟨A9, B9, c9, d9, rfl, hWO, hb16⟩
              have HWO := hide (hWO.wr (by decide) (by decide))
              have HX4 := hide (HX4.out.trans hb16)
              clear hb16 hWO
              go_wp2_with fail
              refine (HS45.out _ _ _ _ _ HWO.out).mono ?_
              rintro e w17 ⟨rfl, hb17⟩
              have HX4 := hide (HX4.out.trans hb17)
              clear hb17
              go_wp2_with fail
              go_ret
              exact ⟨rfl, HEW.out.trans (HX.out.trans HX4.out)⟩
            | true =>
              go_wp2_with fail
              refine (HSC2.out _ HXB.out).mono ?_; rintro e w18 ⟨rfl, hb⟩; have HT := hide (HT.out.ext hb); have Hw18 := hide hb; clear hb; clear kz0 kf0 kc0_0 kc0_1 kz1 kf1 kc1_0 kc1_1 kE; have kT := HT.out; simp only [Tr, Bx, CellsAt, Nat.reduceAdd, Nat.zero_add, and_true] at kT; obtain ⟨⟨⟨kz0, kf0, kc0_0, kc0_1⟩, ⟨kz1, kf1, kc1_0, kc1_1⟩⟩, kE⟩ := kT
              have HX4 := hide (HX4.out.trans Hw18.out)
              go_wp2_with fail
              refine (HSN.out _ (HX.out.trans HX4.out)).mono ?_; rintro e w15 ⟨rfl, hb⟩; have HT := hide (HT.out.ext hb); have Hw15 := hide hb; clear hb; clear kz0 kf0 kc0_0 kc0_1 kz1 kf1 kc1_0 kc1_1 kE; have kT := HT.out; simp only [Tr, Bx, CellsAt, Nat.reduceAdd, Nat.zero_add, and_true] at kT; obtain ⟨⟨⟨kz0, kf0, kc0_0, kc0_1⟩, ⟨kz1, kf1, kc1_0, kc1_1⟩⟩, kE⟩ := kT
              have HX4 := hide (HX4.out.trans Hw15.out)
              go_wp2_with fail
              refine (HSM.out _).mono ?_
              rintro e w16 ⟨A9, B9, c9, d9, rfl, hWO, hb16⟩
              have HWO := hide (hWO.wr (by decide) (by decide))
              have HX4 := hide (HX4.out.trans hb16)
              clear hb16 hWO
              go_wp2_with fail
              refine (HS45.out _ _ _ _ _ HWO.out).mono ?_
              rintro e w17 ⟨rfl, hb17⟩
              have HX4 := hide (HX4.out.trans hb17)
              clear hb17
              go_wp2_with fail
              go_ret
              exact ⟨rfl, HEW.out.trans (HX.out.trans HX4.out)⟩
end Go.Proofs.Ytabgcpoaepafjaa
namespace Go.Proofs.Ytabgcpoaepafjaa
open Go.ChangeShapes Go.WideShapes Go.RowKit Go.Joins Go.Deep
theorem wf_u8 {n : Int} (h : (Lit.int .u8 n).wf = true) : 0 ≤ n ∧ n < 256 := by
  have h2 : IntKind.u8.min ≤ n ∧ n ≤ IntKind.u8.max := by simpa [Lit.wf] using h
  have e1 : IntKind.u8.min = 0 := by decide
  have e2 : IntKind.u8.max = 255 := by decide
  omega
theorem open_sliceB {H : Type} {enc : TypeId × Value → H} {P : Program} {w : World} {t e : TypeId} {b0 : Nat} {v : Value} {d : DataW H} {p : List MemPlace} (ht : P.underlying t = some (.slice e)) (he : P.underlying e = some (.int .u8)) (hC : P.cellsOf e = 1)
    (hv : Value.okWide P w .any b0 t v) (h : DataW.Trod enc P w 0 (fun _ => true) true t v d p) :
    ∃ (A : Option Addr) (c : Nat) (l : List Int), v = .slice A l.length c ∧ l.length ≤ c ∧ c ≤ maxLen ∧ RB w A l := by
  obtain ⟨a0, len, cap, rfl⟩ := okWide_slice ht hv
  obtain ⟨fuel, hf⟩ := h
  rcases open_ints ht he hC hf with ⟨hcs, _⟩ | ⟨a, len', cap', zs, hcs, _, hl, hm, hz, _, hc, hwf⟩
  · have e1 : Value.slice a0 len cap = .slice none 0 0 := by simpa [Value.cells] using hcs
    injection e1 with e1 e2 e3
    subst e1 e2 e3
    exact ⟨none, 0, [], rfl, Nat.le_refl _, Nat.zero_le _, Rds.nil_, fun x hx => absurd hx (by simp)⟩
  · have e1 : Value.slice a0 len cap = .slice (some a) len' cap' := by simpa [Value.cells] using hcs
    injection e1 with e1 e2 e3
    subst e1 e2 e3
    simp only [if_true] at hz
    have hlen : (zs.take len).length = len := by simp; omega
    refine ⟨some a, cap, zs.take len, by rw [hlen], by omega, hm, ⟨by rw [encB_length, hlen]; omega, fun hn => ?_⟩, fun x hx => wf_u8 (hwf x (List.mem_of_mem_take hx))⟩
    rw [hlen] at hn
    obtain ⟨b, off, rfl, hcell⟩ := ints_at hc (by omega)
    refine ⟨b, off, rfl, cell_lt (hcell 0 (by omega)), fun j u hu => ?_⟩
    have hj : j < len := by
      have := (List.getElem?_eq_some_iff.1 hu).1
      simp [encB] at this; omega
    have hjz : j < zs.length := by omega
    have he2 := encB_get (zs.take len) j (by omega)
    rw [he2] at hu
    injection hu with hu
    subst hu
    rw [hcell j hjz]
    simp [hjz]
end Go.Proofs.Ytabgcpoaepafjaa
