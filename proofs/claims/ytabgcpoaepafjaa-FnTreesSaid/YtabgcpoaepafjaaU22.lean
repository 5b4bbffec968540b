/- Words and walks for the law FnTrees, a part of them. No condition but that the arguments lie in memory. -/
import Derived.Test.YtabgcpoaepafjaaU1
import Derived.Test.YtabgcpoaepafjaaU20
import Derived.Test.YtabgcpoaepafjaaU21
set_option linter.unusedVariables false
set_option linter.unusedSimpArgs false
namespace Go.Proofs.Ytabgcpoaepafjaa
open Go.RowKit
theorem selB_len_le (c : List Bool) : (selB 0 c).length ≤ c.length := by have := selB_len c 0; omega
theorem grd_false (c : List Bool) : selB 0 (c ++ [false]) = selB 0 c := by rw [selB_snoc]; simp
theorem grd_true (c : List Bool) : selB 0 (c ++ [true]) = selB 0 c ++ [c.length] := by rw [selB_snoc]; simp
set_option maxRecDepth 20000 in
set_option maxHeartbeats 8000000 in
theorem FirstSpanning_any (N E : List P2) (A B : Option Addr) (c c' : Nat) (w : World) (hw : WR w N E A B c c') (hwh : wholeB N E = true) :
    Calls Try.prog 8 #[.agg #[.slice A N.length c, .slice B E.length c']] w fun e w' => ∃ p cl A2 c2, Grd (fun k => sE E (2 * k)) (fun k => sE E (2 * k + 1)) E.length p cl ∧ e = .returned (.slice A2 (selB 0 cl).length c2) ∧ w'.ownsRow w.heap.size 3 1 (.slice A2 (selB 0 cl).length c2) (selB 0 cl).length (encI (castL (selB 0 cl))) ∧ Ext w w' := by
  obtain ⟨i0, hi, hz0, hz1, hz2⟩ := info_parts int_info
  have HC := hide (fun (W : World) (hE : Ext w W) => by have h := IsWhole_any N E A B c c' W (hw.ext hE); rw [hwh] at h; exact h)
  obtain ⟨hm, hm0, hn2, hn12, _, _⟩ := whole_m hwh
  have hok := (wholeB_iff.1 hwh).1
  have HLE := hide (fun k (hk : k < E.length) => sE_lead hok hk)
  have HW := hide hw
  obtain ⟨s, hs⟩ : ∃ s, sE E = s := ⟨_, rfl⟩
  rw [hs] at HLE ⊢
  clear hw hwh hs hok
  
  go_enter Try.func8, Try.ntmps8
  go_wp2_with fail
  obtain ⟨w0, hw⟩ : ∃ w1, w1 = w.alloc (Obj.cells #[Value.slice A N.length c, Value.slice B E.length c'] 27) := ⟨_, rfl⟩; rw [← hw]; have kT : Tr [(w.heap.size, [.slice A N.length c, .slice B E.length c'])] w w0 := (by rw [hw]; exact ⟨by (first | (simp [Bx, CellsAt, go_sem, *]; done) | (simp [Bx, CellsAt, go_sem, *]; omega)), by (repeat (first | exact kE | exact Ext.refl _ | apply Ext.alloc | apply Ext.drewN | apply Ext.drew | apply Ext.set0 | apply Ext.set1 | apply Ext.set2 | apply Ext.set3 | (refine Ext.setk ?_ (by omega) _) | (apply Ext.snoc; assumption)))⟩); have HT := hide kT; clear hw kT; have kT := HT.out; simp only [Tr, Bx, CellsAt, Nat.reduceAdd, Nat.zero_add, and_true] at kT; obtain ⟨⟨kz0, kf0, kc0_0, kc0_1⟩, kE⟩ := kT
  refine (HC.out w0 kE).mono ?_; rintro e w2 ⟨rfl, hb⟩; have HT := hide (HT.out.ext hb); have Hw2 := hide hb; clear hb; clear kz0 kf0 kc0_0 kc0_1 kE; have kT := HT.out; simp only [Tr, Bx, CellsAt, Nat.reduceAdd, Nat.zero_add, and_true] at kT; obtain ⟨⟨kz0, kf0, kc0_0, kc0_1⟩, kE⟩ := kT
  go_wp2_with (at_make; refine wpList_make_full _ rfl _ _ 29 rfl w2.heap.size 3 i0 (.int .i64 0) 1 Try.underlying29 hi hz0 hz1 .i64 .i64 N.length N.length N.length rfl rfl (by first | rfl | omega) (by first | rfl | omega) (by rw [hz2]; omega) (by unfold maxLen; omega) (Nat.le_refl _) ?_; intro w3 hown hgrow)
  rw [made_zeros'] at hown
  have HX2 := hide kE
  have HTZ := HT
  have hsz3 := (own_ltg hown).2
  have HE3 := hide (grown_ext hgrow)
  have HO3 := hide (show w3.ownsRow w2.heap.size 3 1 (.slice (some ⟨w2.heap.size, 0, none⟩) N.length N.length) N.length (rowOf N.length (fun v => if v < 0 then (v : Int) else 0)) from by
    rw [rowOf_congr (g := fun _ => 0) fun i _ => by show (if i < 0 then (i : Int) else 0) = 0; rw [if_neg (Nat.not_lt_zero _)]]
    exact hown)
  clear hown hgrow HT
  clear kz0 kf0 kc0_0 kc0_1 kE
  go_loopw [20] (fun i wr => ∃ k : Nat, k ≤ N.length ∧ i = .int .i64 k ∧ Hid (wr.ownsRow w2.heap.size 3 1 (.slice (some ⟨w2.heap.size, 0, none⟩) N.length N.length) N.length (rowOf N.length (fun v => if v < k then (v : Int) else 0))) ∧ Hid (Ext w2 wr) ∧ Hid (w3.heap.size ≤ wr.heap.size)) (fun i _ => N.length - (intOf i).toNat)
  case atStart => exact ⟨0, Nat.zero_le _, rfl, HO3, HE3, hide (Nat.le_refl _)⟩
  case round =>
    clear HO3 HE3
    obtain ⟨k, hk, rfl, HO, HE, HZ⟩ := hrel
    by_cases hlt : k < N.length
    · have hlz : (k : Int) < (N.length : Int) := by omega
      have ck := own_cellR HO.out hlt
      have fk := HO.out.frozenAt k
      obtain ⟨y, hy⟩ : ∃ y : Int, (if k < k then (k : Int) else 0) = y := ⟨_, rfl⟩
      rw [hy] at ck
      clear hy
      go_wp2_with fail
      have hst := (HO.out.stored k (.int .i64 (k : Nat))).1
      rw [rowOf_set _ _ hlt, rowOf_congr (g := fun v => if v < k + 1 then (v : Int) else 0) fun i _ => by
        show (if i = k then (k : Int) else if i < k then (i : Int) else 0) = if i < k + 1 then (i : Int) else 0
        by_cases e : i = k
        · rw [if_pos e, if_pos (by omega), e]
        · by_cases e2 : i < k
          · rw [if_neg e, if_pos e2, if_pos (by omega)]
          · rw [if_neg e, if_neg e2, if_neg (by omega)]] at hst
      have HO5 := hide hst
      have HE5 := hide (HE.out.setk (k := w2.heap.size) (o := k) (s := none) (Nat.le_refl _) (.int .i64 (k : Nat)))
      have HZ5 := hide (show w3.heap.size ≤ (wr.setCell ⟨w2.heap.size, k, none⟩ (.int .i64 (k : Nat))).heap.size by simpa using HZ.out)
      clear hst ck fk
      go_roundw
      case rel => exact ⟨k + 1, by omega, by go_num, HO5, HE5, HZ5⟩
      case measure => simp [intOf]; omega
    · obtain rfl : k = N.length := by omega
      have HO4 := hide (show wr.ownsRow w2.heap.size 3 1 (.slice (some ⟨w2.heap.size, 0, none⟩) N.length N.length) N.length (rowOf N.length (fun v => ((id v : Nat) : Int))) from by
        have h := HO.out
        rw [rowOf_congr (g := fun v => ((id v : Nat) : Int)) fun i hi => by show (if i < N.length then (i : Int) else 0) = i; rw [if_pos hi]] at h
        exact h)
      have HT := hide (HTZ.out.ext HE.out)
      have kT := HT.out; simp only [Tr, Bx, CellsAt, Nat.reduceAdd, Nat.zero_add, and_true] at kT; obtain ⟨⟨kz0, kf0, kc0_0, kc0_1⟩, kE⟩ := kT
      have HE4 := HE
      have HZ4 := HZ
      have HGS := hide (Grd.start (fun k => s (2 * k)) (fun k => s (2 * k + 1)))
      obtain ⟨w4, rfl⟩ : ∃ w4 : World, w4 = wr := ⟨_, rfl⟩
      go_wp2_with fail
      clear kz0 kf0 kc0_0 kc0_1 kE
      clear HT HO HE HZ
      go_loopw [5, 31] (fun v i wr => ∃ (k : Nat) (p : Nat → Nat) (cl : List Bool), k ≤ E.length ∧ i = .int .i64 k ∧ Hid (Grd (fun k => s (2 * k)) (fun k => s (2 * k + 1)) k p cl) ∧ Hid (wr.ownsRow w2.heap.size 3 1 (.slice (some ⟨w2.heap.size, 0, none⟩) N.length N.length) N.length (rowOf N.length (fun v => ((p v : Nat) : Int)))) ∧ Hid (wr.ownsRow w3.heap.size 3 1 v (selB 0 cl).length (encI (castL (selB 0 cl)))) ∧ Hid (Ext w2 wr) ∧ Hid (w3.heap.size ≤ wr.heap.size)) (fun _ i _ => E.length - (intOf i).toNat)
      case atStart => exact ⟨0, id, [], Nat.zero_le _, rfl, HGS, HO4, hide (World.ownsRow_nil _ _ _ _), HE4, HZ4⟩
      case round =>
        clear HGS HO4 HE4 HZ4
        obtain ⟨k, p, cl, hk, rfl, HG, HO, HQ, HE, HZ⟩ := hrel
        by_cases hlt : k < E.length
        · have hlz : (k : Int) < (E.length : Int) := by omega
          obtain ⟨b, off, rfl, hb, e0, e1⟩ := R2.at_ (HW.out.hs.ext (HX2.out.trans HE.out)) hlt
          obtain ⟨hle, hl1, hl2⟩ := HLE.out k hlt
          rw [at2_eq hlt] at hle
          rw [hle] at e0 e1
          dsimp only at e0 e1
          have HSA := hide (fun (h : p (s (2 * k)) = p (s (2 * k + 1))) => HG.out.same h)
          have HNE := hide (fun (h : p (s (2 * k)) ≠ p (s (2 * k + 1))) => HG.out.new h)
          have hcl := HG.out.len
          obtain ⟨x, hx⟩ : ∃ x, s (2 * k) = x := ⟨_, rfl⟩
          obtain ⟨y, hy⟩ : ∃ y, s (2 * k + 1) = y := ⟨_, rfl⟩
          rw [hx] at e0 hl1 HSA HNE
          rw [hy] at e1 hl1 hl2 HSA HNE
          have hxn : x < N.length := by omega
          have hyn : y < N.length := by omega
          have hxz : (x : Int) < (N.length : Int) := by omega
          have hyz : (y : Int) < (N.length : Int) := by omega
          clear hle hx hy hl1 hl2
          have kE := HX2.out.trans HE.out
          
          go_wp2_with fail
          have HX5 := hide ((Ext.refl wr).alloc (Obj.cells #[Value.int IntKind.i64 (x : Int), Value.int IntKind.i64 (y : Int)] 56))
          obtain ⟨w5, hw⟩ : ∃ w1, w1 = wr.alloc (Obj.cells #[Value.int IntKind.i64 (x : Int), Value.int IntKind.i64 (y : Int)] 56) := ⟨_, rfl⟩; rw [← hw]; have kT : Tr [(wr.heap.size, [.int .i64 (x : Int), .int .i64 (y : Int)])] w w5 := (by rw [hw]; exact ⟨by (first | (simp [Bx, CellsAt, go_sem, *]; done) | (simp [Bx, CellsAt, go_sem, *]; omega)), by (repeat (first | exact kE | exact Ext.refl _ | apply Ext.alloc | apply Ext.drewN | apply Ext.drew | apply Ext.set0 | apply Ext.set1 | apply Ext.set2 | apply Ext.set3 | (refine Ext.setk ?_ (by omega) _) | (apply Ext.snoc; assumption)))⟩); have HT := hide kT; clear kT; have kT := HT.out; simp only [Tr, Bx, CellsAt, Nat.reduceAdd, Nat.zero_add, and_true] at kT; obtain ⟨⟨kz0, kf0, kc0_0, kc0_1⟩, kE⟩ := kT
          rw [← hw] at HX5
          clear hw
          have HO5 := hide (own_ext HO.out HX5.out)
          have cx := own_cellR HO5.out hxn
          have cy := own_cellR HO5.out hyn
          obtain ⟨a, ha⟩ : ∃ a, p x = a := ⟨_, rfl⟩
          obtain ⟨b2, hb2⟩ : ∃ b2, p y = b2 := ⟨_, rfl⟩
          rw [ha] at cx HSA HNE
          rw [hb2] at cy HSA HNE
          have hg5 := (own_ltg HO5.out).2
          have q1 := ExtBy.cell (W := w5) hg5 cx
          have q2 := ExtBy.cell (W := w5) hg5 cy
          clear ha hb2 cx cy e0 e1
          have kq0_0 := ExtBy.cell (W := w5) kz0 kc0_0; have kq0_1 := ExtBy.cell (W := w5) kz0 kc0_1; refine wp_region_quietE (by kernel_rfl) (by kernel_rfl) ?_; (repeat (refine WQ.step (fun K hK => ?_); have HK := hide hK; clear hK; go_simp; refine HK.out _ ?_; clear HK K)); refine WQ.done ?_; intro w6 hw'; obtain ⟨⟨_, hw6⟩, hw''⟩ := hw'; subst hw''; clear kq0_0 kq0_1; have HT := hide (HT.out.ext hw6); have Hw6 := hide hw6; clear hw6 kz0 kf0 kc0_0 kc0_1 kE; have kT := HT.out; simp only [Tr, Bx, CellsAt, Nat.reduceAdd, Nat.zero_add, and_true] at kT; obtain ⟨⟨kz0, kf0, kc0_0, kc0_1⟩, kE⟩ := kT
          clear q1 q2 hg5
          have HO6 := hide (own_ext HO5.out Hw6.out)
          have HQ6 := hide (own_ext HQ.out (HX5.out.trans Hw6.out))
          have HE6 := hide (HE.out.trans (HX5.out.trans Hw6.out))
          have HZ6 := hide (Nat.le_trans HZ.out (HX5.out.trans Hw6.out).size)
          by_cases hab : a = b2
          · have t1 : ((a : Int) == (b2 : Int)) = true := by simp [hab]
            have HGN := hide (HSA.out hab)
            have HQ7 := hide (show w6.ownsRow w3.heap.size 3 1 u5 (selB 0 (cl ++ [false])).length (encI (castL (selB 0 (cl ++ [false])))) by rw [grd_false]; exact HQ6.out)
            clear hab HSA HNE
            go_wp2_with fail
            go_roundw
            case rel => exact ⟨k + 1, p, cl ++ [false], by omega, by go_num, HGN, HO6, HQ7, HE6, HZ6⟩
            case measure => simp [intOf]; omega
          · have t1 : ((a : Int) == (b2 : Int)) = false := by simp; omega
            have t2 : (a == b2) = false := by simp [hab]
            have HGN := hide (HNE.out hab)
            have hql := selB_len_le cl
            have hs6 := HZ6.out
            have hsz6 := HE6.out.size
            clear hab HSA HNE
            go_wp2_with (at_builtin; refine wpList_append_own _ rfl _ _ 29 rfl w3.heap.size 3 i0 (.int .i64 0) 1 8 Try.underlying29 hi hz0 hz1 hz2 rfl (by decide) u5 (selB 0 cl).length (encI (castL (selB 0 cl))) rfl (own_ext HQ6.out ((Ext.refl _).alloc _)) ⟨w6.heap.size, 0, none⟩ 1 1 [.int .i64 (k : Int)] rfl rfl (news_new w6 #[.int .i64 (k : Int)] 3) (enc_one _) (by unfold maxLen; omega) (by omega) (by simp; omega) ?_; intro v' w7 hown7 hgrow7 hnil)
            have HE7 := hide (Ext.grown (HE6.out.alloc _) hgrow7 (fun q e => Nat.le_trans (Nat.le_of_lt hsz3) (own_base HQ6.out (Nat.le_refl _) q e)))
            have HZ7 := hide (show w3.heap.size ≤ w7.heap.size from Nat.le_trans HZ6.out (Nat.le_trans (by simp) hgrow7.size))
            have HQ7 := hide (show w7.ownsRow w3.heap.size 3 1 v' (selB 0 (cl ++ [true])).length (encI (castL (selB 0 (cl ++ [true])))) from by
              rw [grd_true, castL_snoc, encI_append, List.length_append, hcl]
              exact hown7)
            have HO7 := hide (show w7.ownsRow w2.heap.size 3 1 (.slice (some ⟨w2.heap.size, 0, none⟩) N.length N.length) N.length (rowOf N.length (fun v => ((p v : Nat) : Int))) from
              (own_ext HO6.out ((Ext.refl _).alloc _)).kept hgrow7 (.inr fun e => by
                have := (HQ6.out.lt w2.heap.size e.symm).1
                omega))
            obtain ⟨cl2, hcl2⟩ : ∃ cl2, cl ++ [true] = cl2 := ⟨_, rfl⟩
            rw [hcl2] at HGN HQ7
            obtain ⟨ln, hln⟩ : ∃ ln, (selB 0 cl2).length = ln := ⟨_, rfl⟩
            have HLN := hide hln
            rw [hln] at HQ7
            clear hown7 hgrow7 hnil hcl2 hql hcl HQ6 HO6 HE6 HZ6 HQ HO HE HZ HO5 HX5 Hw6 HG hs6 hsz6 HT hln
            clear kz0 kf0 kc0_0 kc0_1 kE
            have HFZ := hide (rowOf_congr (n := N.length) (f := fun v => ((p v : Nat) : Int)) (g := fun v => if v < 0 ∧ p v = b2 then (a : Int) else ((p v : Nat) : Int)) fun i _ => by
              show _ = if i < 0 ∧ p i = b2 then (a : Int) else ((p i : Nat) : Int)
              rw [if_neg (by omega)])
            go_loopw [55] (fun i wi => ∃ j : Nat, j ≤ N.length ∧ i = .int .i64 j ∧ Hid (wi.ownsRow w2.heap.size 3 1 (.slice (some ⟨w2.heap.size, 0, none⟩) N.length N.length) N.length (rowOf N.length (fun v => if v < j ∧ p v = b2 then (a : Int) else ((p v : Nat) : Int)))) ∧ Hid (wi.ownsRow w3.heap.size 3 1 v' ln (encI (castL (selB 0 cl2)))) ∧ Hid (Ext w2 wi) ∧ Hid (w3.heap.size ≤ wi.heap.size)) (fun i _ => N.length - (intOf i).toNat)
            case atStart => exact ⟨0, Nat.zero_le _, rfl, hide (by rw [← HFZ.out]; exact HO7.out), HQ7, HE7, HZ7⟩
            case round =>
              clear HO7 HQ7 HE7 HZ7
              obtain ⟨j, hj, rfl, HO, HQ, HE, HZ⟩ := hrel
              by_cases hlt2 : j < N.length
              · have hjz : (j : Int) < (N.length : Int) := by omega
                have cj := own_cellR HO.out hlt2
                have fj := HO.out.frozenAt j
                rw [if_neg (by omega)] at cj
                obtain ⟨z, hz⟩ : ∃ z, p j = z := ⟨_, rfl⟩
                rw [hz] at cj
                have HPZ := hide hz
                clear hz
                by_cases hzb : z = b2
                · have t3 : ((z : Int) == (b2 : Int)) = true := by simp [hzb]
                  have t4 : (z == b2) = true := by simp [hzb]
                  have HZB := hide hzb
                  clear hzb
                  go_wp2_with fail
                  have hst := (HO.out.stored j (.int .i64 (a : Nat))).1
                  rw [rowOf_set _ _ hlt2, rowOf_congr (g := fun v => if v < j + 1 ∧ p v = b2 then (a : Int) else ((p v : Nat) : Int)) fun i _ => by
                    show (if i = j then (a : Int) else if i < j ∧ p i = b2 then (a : Int) else ((p i : Nat) : Int)) = if i < j + 1 ∧ p i = b2 then (a : Int) else ((p i : Nat) : Int)
                    by_cases e : i = j
                    · rw [if_pos e, if_pos ⟨by omega, by rw [e, HPZ.out, HZB.out]⟩]
                    · rw [if_neg e]
                      by_cases e2 : i < j ∧ p i = b2
                      · rw [if_pos e2, if_pos ⟨by omega, e2.2⟩]
                      · rw [if_neg e2, if_neg (fun e3 => e2 ⟨by omega, e3.2⟩)]] at hst
                  have HO9 := hide hst
                  have HQ9 := hide (own_setk HQ.out (k := w2.heap.size) (o := j) (by omega) (.int .i64 (a : Nat)))
                  have HE9 := hide (HE.out.setk (k := w2.heap.size) (o := j) (s := none) (Nat.le_refl _) (.int .i64 (a : Nat)))
                  have HZ9 := hide (show w3.heap.size ≤ (wr.setCell ⟨w2.heap.size, j, none⟩ (.int .i64 (a : Nat))).heap.size by simpa using HZ.out)
                  clear hst cj fj
                  go_roundw
                  case rel => exact ⟨j + 1, by omega, by go_num, HO9, HQ9, HE9, HZ9⟩
                  case measure => simp [intOf]; omega
                · have t3 : ((z : Int) == (b2 : Int)) = false := by simp; omega
                  have t4 : (z == b2) = false := by simp [hzb]
                  have HZB := hide hzb
                  clear hzb
                  go_wp2_with fail
                  have HO9 := hide (show wr.ownsRow w2.heap.size 3 1 (.slice (some ⟨w2.heap.size, 0, none⟩) N.length N.length) N.length (rowOf N.length (fun v => if v < j + 1 ∧ p v = b2 then (a : Int) else ((p v : Nat) : Int))) from by
                    have h := HO.out
                    rw [rowOf_congr (g := fun v => if v < j + 1 ∧ p v = b2 then (a : Int) else ((p v : Nat) : Int)) fun i _ => by
                      show (if i < j ∧ p i = b2 then (a : Int) else ((p i : Nat) : Int)) = if i < j + 1 ∧ p i = b2 then (a : Int) else ((p i : Nat) : Int)
                      by_cases e : i = j
                      · rw [if_neg (by omega), if_neg (by rw [e, HPZ.out]; exact fun q => HZB.out q.2)]
                      · by_cases e2 : i < j ∧ p i = b2
                        · rw [if_pos e2, if_pos ⟨by omega, e2.2⟩]
                        · rw [if_neg e2, if_neg (fun e3 => e2 ⟨by omega, e3.2⟩)]] at h
                    exact h)
                  go_roundw
                  case rel => exact ⟨j + 1, by omega, by go_num, HO9, HQ, HE, HZ⟩
                  case measure => simp [intOf]; omega
              · obtain rfl : j = N.length := by omega
                have HO9 := hide (show wr.ownsRow w2.heap.size 3 1 (.slice (some ⟨w2.heap.size, 0, none⟩) N.length N.length) N.length (rowOf N.length (fun v => (((fun v => if p v = b2 then a else p v) v : Nat) : Int))) from by
                  have h := HO.out
                  rw [rowOf_congr (g := fun v => (((fun v => if p v = b2 then a else p v) v : Nat) : Int)) fun i hi => by
                    show (if i < N.length ∧ p i = b2 then (a : Int) else ((p i : Nat) : Int)) = ((if p i = b2 then a else p i : Nat) : Int)
                    by_cases e : p i = b2
                    · rw [if_pos ⟨hi, e⟩, if_pos e]
                    · rw [if_neg (fun q => e q.2), if_neg e]] at h
                  exact h)
                have HQ9 := hide (show wr.ownsRow w3.heap.size 3 1 v' (selB 0 cl2).length (encI (castL (selB 0 cl2))) by rw [HLN.out]; exact HQ.out)
                go_wp2_with fail
                go_roundw
                case rel => exact ⟨k + 1, _, cl2, by omega, by go_num, HGN, HO9, HQ9, HE, HZ⟩
                case measure => simp [intOf]; omega
        · obtain rfl : k = E.length := by omega
          obtain ⟨A2, c2, rfl, _⟩ := own_slice HQ.out
          have hX9 := HX2.out.size
          have HX9 := hide (HX2.out.trans HE.out)
          go_wp2_with fail
          go_ret
          exact ⟨p, cl, A2, c2, HG.out, rfl, own_mono HQ.out (by omega), HX9.out⟩
end Go.Proofs.Ytabgcpoaepafjaa
namespace Go.Proofs.Ytabgcpoaepafjaa
open Go.RowKit
theorem CellsAt.grown {w w' : World} {b : Nat} {row : Option Nat} (hg : w.grownBy w' row) (hb : b < w.heap.size) (hne : row ≠ some b) : ∀ {i : Nat} {vs : List Value}, CellsAt w b i vs → CellsAt w' b i vs
  | _, [], _ => trivial
  | i, _ :: _, h => ⟨by rw [← h.1]; simp only [World.cell?]; rw [hg.block b hb (fun e => hne e.symm)], CellsAt.grown hg hb hne h.2⟩
theorem Bx.grown {w w' W0 : World} {row : Option Nat} (hg : w.grownBy w' row) (hr : ∀ k, row = some k → W0.heap.size ≤ k) : ∀ {bs : List (Nat × List Value)}, Bx bs W0 → Bx bs w → Bx bs w'
  | [], _, _ => trivial
  | (b, _) :: _, h0, h => by
    have hne : row ≠ some b := fun e => by have := hr b e; have := h0.1.1; omega
    refine ⟨⟨Nat.lt_of_lt_of_le h.1.1 hg.size, fun i => ?_, CellsAt.grown hg h.1.1 hne h.1.2.2⟩, Bx.grown hg hr h0.2 h.2⟩
    rw [← h.1.2.1 i]
    simp only [World.frozen?]
    rw [hg.block b h.1.1 (fun e => hne e.symm)]
theorem Tr.grown {bs : List (Nat × List Value)} {a w w' W0 : World} {row : Option Nat} (h : Tr bs a w) (h0 : Tr bs a W0) (hg : w.grownBy w' row) (hr : ∀ k, row = some k → W0.heap.size ≤ k) : Tr bs a w' :=
  ⟨Bx.grown hg hr h0.1 h.1, h.2.grown hg (fun k hk => Nat.le_trans h0.2.size (hr k hk))⟩
theorem Tr.drew {bs : List (Nat × List Value)} {a w : World} (h : Tr bs a w) : Tr bs a w.drew := ⟨Bx.ext ((Ext.refl w).drew) h.1, h.2.drew⟩
/-- None of the boxes is the row. -/
def Ap (row : Option Nat) : List (Nat × List Value) → Prop
  | [] => True
  | (b, _) :: r => row ≠ some b ∧ Ap row r
theorem Bx.grownA {w w' : World} {row : Option Nat} (hg : w.grownBy w' row) : ∀ {bs : List (Nat × List Value)}, Ap row bs → Bx bs w → Bx bs w'
  | [], _, _ => trivial
  | (b, _) :: _, h0, h => by
    refine ⟨⟨Nat.lt_of_lt_of_le h.1.1 hg.size, fun i => ?_, CellsAt.grown hg h.1.1 h0.1 h.1.2.2⟩, Bx.grownA hg h0.2 h.2⟩
    rw [← h.1.2.1 i]
    simp only [World.frozen?]
    rw [hg.block b h.1.1 (fun e => h0.1 e.symm)]
theorem Tr.grownA {bs : List (Nat × List Value)} {a w w' : World} {row : Option Nat} (h : Tr bs a w) (hg : w.grownBy w' row) (hr : ∀ k, row = some k → a.heap.size ≤ k) (ha : Ap row bs) : Tr bs a w' :=
  ⟨Bx.grownA hg ha h.1, h.2.grown hg hr⟩
end Go.Proofs.Ytabgcpoaepafjaa
namespace Go.Proofs.Ytabgcpoaepafjaa
open Go.RowKit
def hasL (xs : List Int) (x : Int) : Bool := xs.contains x
theorem hasL_iff {xs : List Int} {x : Int} : hasL xs x = true ↔ x ∈ xs := by simp [hasL]
theorem hasL_nat {l : List Nat} {f : Nat} : hasL (l.map fun x : Nat => (x : Int)) (f : Int) = l.contains f := by
  rw [Bool.eq_iff_iff, hasL_iff]
  simp only [List.mem_map, List.contains_eq_mem, decide_eq_true_eq]
  exact ⟨fun ⟨a, h, e⟩ => by rw [← Int.ofNat_inj.1 e]; exact h, fun h => ⟨f, h, rfl⟩⟩
theorem has_step {xs : List Int} {x : Int} {k : Nat} (hk : k < xs.length) (h : (xs.take k).contains x = false) (hne : xs[k] ≠ x) : (xs.take (k + 1)).contains x = false := by
  rw [List.take_succ_eq_append_getElem hk]
  simp only [List.contains_eq_mem, decide_eq_false_iff_not, List.mem_append, List.mem_singleton] at h ⊢
  rintro (q | q)
  · exact h q
  · exact hne q.symm
theorem has_hit {xs : List Int} {x : Int} {k : Nat} (hk : k < xs.length) (he : xs[k] = x) : hasL xs x = true := by
  simp only [hasL, List.contains_eq_mem, decide_eq_true_eq]
  rw [← he]
  exact List.getElem_mem hk
theorem has_end {xs : List Int} {x : Int} {k : Nat} (hk : ¬ k < xs.length) (h : (xs.take k).contains x = false) : hasL xs x = false := by
  unfold hasL
  rw [List.take_of_length_le (by omega)] at h
  exact h
theorem hasInt_any (xs : List Int) (A : Option Addr) (c : Nat) (x : Int) (w : World) (hl : xs.length ≤ 1048576) (hr : RI w A xs) :
    Calls Try.prog 42 #[.slice A xs.length c, .int .i64 x] w fun e w' => e = .returned (.bool (hasL xs x)) ∧ w = w' := by
  have HR := hide hr
  clear hr
  go_enter Try.func42, Try.ntmps42
  go_wp2_with fail
  go_loopw [9] (fun i wr => ∃ k : Nat, k ≤ xs.length ∧ i = .int .i64 k ∧ Hid ((xs.take k).contains x = false) ∧ Hid (wr = w)) (fun i _ => xs.length - (intOf i).toNat)
  case atStart => exact ⟨0, Nat.zero_le _, rfl, hide (by simp), hide rfl⟩
  case round =>
    obtain ⟨k, hk, rfl, HN, HW⟩ := hrel
    obtain rfl := HW.out
    by_cases hlt : k < xs.length
    · have hlz : (k : Int) < (xs.length : Int) := by omega
      obtain ⟨b, off, rfl, hb, hc⟩ := RI.at_ HR.out hlt
      have HST := hide (fun h => has_step hlt HN.out h)
      have HHI := hide (fun (h : xs[k] = x) => has_hit hlt h)
      obtain ⟨y, hy⟩ : ∃ y, xs[k] = y := ⟨_, rfl⟩
      rw [hy] at hc
      have HST := hide (fun h => HST.out (by rw [hy]; exact h))
      have HHI := hide (fun h => HHI.out (by rw [hy]; exact h))
      clear hy
      by_cases he : y = x
      · have HV := hide (HHI.out he)
        have q1 : (y == x) = true := by simp [he]
        clear he
        go_wp2_with fail
        go_ret
        exact ⟨ret_bool HV.out.symm, rfl⟩
      · have HV := hide (HST.out he)
        have q1 : (y == x) = false := by simp [he]
        clear he
        go_wp2_with fail
        go_roundw
        case rel => exact ⟨k + 1, by omega, by go_num, HV, by first | exact hide rfl | exact hide trivial⟩
        case measure => simp [intOf]; omega
    · have HV := hide (has_end hlt HN.out)
      obtain rfl : k = xs.length := by omega
      go_wp2_with fail
      go_ret
      exact ⟨ret_bool HV.out.symm, rfl⟩
end Go.Proofs.Ytabgcpoaepafjaa
