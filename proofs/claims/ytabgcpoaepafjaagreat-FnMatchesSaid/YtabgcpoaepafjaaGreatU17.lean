/- Words and walks for the law FnMatches, a part of them. No condition but that the arguments lie in memory. -/
import Derived.Test.YtabgcpoaepafjaaGreatU15
import Derived.Test.YtabgcpoaepafjaaGreatU16
set_option linter.unusedVariables false
set_option linter.unusedSimpArgs false
namespace Go.Proofs.YtabgcpoaepafjaaGreat
open Go.RowKit
set_option maxRecDepth 20000 in
set_option maxHeartbeats 1000000 in
theorem l01PickInt_any (g b c : Nat) (l xs : List Int) (w : World) (hl : l.length ≤ 1048576) (hc : Cur w g l) (hx : 1 ≤ xs.length ∧ xs.length ≤ 256) (hbg : b ≠ g) (hr : RI w (some ⟨b, 0, none⟩) xs) :
    Calls Tryz.prog 100 #[.pointer (some ⟨g, 0, none⟩), .slice (some ⟨b, 0, none⟩) xs.length c] w fun e w' => ∃ x, e = .returned (.int .i64 x) ∧ Cur w' g l ∧ w.grownBy w' (some g) := by
  have HC := hide hc
  have hb := (hr.2 (by omega))
  obtain ⟨b', o', e, hbw, _⟩ := hb
  injection e with e
  injection e with e1 e2
  subst e1 e2
  have HR := hide (show ∀ k (hk : k < xs.length), w.cell? ⟨b, k, none⟩ = some (.int .i64 xs[k]) from fun k hk => by
    obtain ⟨b', o', e, _, h⟩ := RI.at_ hr hk
    injection e with e
    injection e with e1 e2
    subst e1 e2
    simpa using h)
  clear hc hr
  
  go_enter Tryz.func100, Tryz.ntmps100
  go_wp2_with fail
  refine (l01Below_any g xs.length l _ hl (by omega) (by omega) HC.out).mono ?_; rintro e w1 ⟨x, rfl, hx0, hx1, hc1, hg1⟩
  obtain ⟨k, rfl⟩ := Int.eq_ofNat_of_zero_le hx0
  have hk : k < xs.length := by omega
  have hcell := (grown_cells hg1 b k hbw hbg).trans (HR.out k hk)
  have HC1 := hide hc1
  have HG1 := hide hg1
  obtain ⟨v, hv⟩ : ∃ v, xs[k] = v := ⟨_, rfl⟩
  rw [hv] at hcell
  clear hc1 hg1 hv
  go_wp2_with fail
  go_ret
  exact ⟨v, rfl, HC1.out, HG1.out⟩
set_option maxRecDepth 20000 in
set_option maxHeartbeats 1000000 in
theorem l03Lead_any (g n : Nat) (l : List Int) (w : World) (hl : l.length ≤ 1048576) (hc : Cur w g l) (hn : 1 ≤ n ∧ n ≤ 256) :
    Calls Tryz.prog 112 #[.pointer (some ⟨g, 0, none⟩), .int .i64 (n : Int)] w fun e w' => ∃ x y, e = .returned (.agg #[.int .i64 x, .int .i64 y]) ∧ Cur w' g l ∧ w.grownBy w' (some g) := by
  have HC := hide hc
  have hgl := hc.lt
  clear hc
  
  go_enter Tryz.func112, Tryz.ntmps112
  go_wp2_with fail
  obtain ⟨w0, hw⟩ : ∃ w1, w1 = w.alloc (Obj.cells #[Value.int IntKind.i64 0, Value.int IntKind.i64 0] 110) := ⟨_, rfl⟩; rw [← hw]; have kT : Tr [(w.heap.size, [.int .i64 0, .int .i64 0])] w w0 := (by rw [hw]; exact ⟨by (first | (simp [Bx, CellsAt, go_sem, *]; done) | (simp [Bx, CellsAt, go_sem, *]; omega)), by (repeat (first | exact kE | exact Ext.refl _ | apply Ext.alloc | apply Ext.drewN | apply Ext.drew | apply Ext.set0 | apply Ext.set1 | apply Ext.set2 | apply Ext.set3 | (refine Ext.setk ?_ (by omega) _) | (apply Ext.snoc; assumption)))⟩); have HT := hide kT; clear hw kT; have kT := HT.out; simp only [Tr, Bx, CellsAt, Nat.reduceAdd, Nat.zero_add, and_true] at kT; obtain ⟨⟨kz0, kf0, kc0_0, kc0_1⟩, kE⟩ := kT
  have HG0 := hide (Gx.ext HC.out kE)
  have hng : ¬ w.heap.size = g := by omega
  refine (l01Below_any g n l _ hl (by omega) (by omega) HG0.out.cur).mono ?_; rintro e w1 ⟨x, rfl, hx0, hx1, hc1, hg1⟩
  have HG1 := hide (HG0.out.trans (Gx.mk hg1 hc1))
  have HT' := hide ((Gx.mk hg1 hc1).tr (by simp [Ap]; omega) HT.out)
  clear hc1 hg1
  clear kz0 kf0 kc0_0 kc0_1 kE
  clear HT; have HT := HT'; clear HT'
  have kT := HT.out; simp only [Tr, Bx, CellsAt, Nat.reduceAdd, Nat.zero_add, and_true] at kT; obtain ⟨⟨kz0, kf0, kc0_0, kc0_1⟩, kE⟩ := kT
  go_wp2_with fail
  refine (l01Below_any g n l _ hl (by omega) (by omega) HG1.out.cur).mono ?_; rintro e w2 ⟨y, rfl, hy0, hy1, hc2, hg2⟩
  have HG2 := hide (HG1.out.trans (Gx.mk hg2 hc2))
  have HT' := hide ((Gx.mk hg2 hc2).tr (by simp [Ap]; omega) HT.out)
  clear hc2 hg2
  clear kz0 kf0 kc0_0 kc0_1 kE
  clear HT; have HT := HT'; clear HT'
  have kT := HT.out; simp only [Tr, Bx, CellsAt, Nat.reduceAdd, Nat.zero_add, and_true] at kT; obtain ⟨⟨kz0, kf0, kc0_0, kc0_1⟩, kE⟩ := kT
  clear HG0 HG1
  rcases Int.lt_trichotomy x y with hxy | hxy | hxy
  · have hyx : ¬ y < x := by omega
    go_wp2_with fail
    refine bodyPost_ret (v := .agg #[.int .i64 x, .int .i64 y]) (by simp only [results, Tryz.results112]; go_simp) rfl ⟨_, _, rfl, (HG2.out.cur.setk hgl _ _).setk hgl _ _, grown_new (grown_new HG2.out.gr (Nat.le_refl _) _ _) (Nat.le_refl _) _ _⟩
  · subst hxy
    go_wp2_with fail
    refine bodyPost_ret (v := .agg #[.int .i64 x, .int .i64 x]) (by simp only [results, Tryz.results112]; go_simp) rfl ⟨_, _, rfl, (HG2.out.cur.setk hgl _ _).setk hgl _ _, grown_new (grown_new HG2.out.gr (Nat.le_refl _) _ _) (Nat.le_refl _) _ _⟩
  · have hyx : ¬ x < y := by omega
    go_wp2_with fail
    refine bodyPost_ret (v := .agg #[.int .i64 y, .int .i64 x]) (by simp only [results, Tryz.results112]; go_simp) rfl ⟨_, _, rfl, (HG2.out.cur.setk hgl _ _).setk hgl _ _, grown_new (grown_new HG2.out.gr (Nat.le_refl _) _ _) (Nat.le_refl _) _ _⟩
set_option maxRecDepth 20000 in
set_option maxHeartbeats 2000000 in
theorem l02Any_any (g : Nat) (l : List Int) (w : World) (hl : l.length ≤ 1048576) (hc : Cur w g l) :
    Calls Tryz.prog 111 #[.pointer (some ⟨g, 0, none⟩)] w fun e w' => ∃ x y, e = .returned (.agg #[.int .i64 x, .int .i64 y]) ∧ Cur w' g l ∧ w.grownBy w' (some g) := by
  have HC := hide hc
  have hgl := hc.lt
  clear hc
  
  go_enter Tryz.func111, Tryz.ntmps111
  go_wp2_with fail
  obtain ⟨w0, hw⟩ : ∃ w1, w1 = w.alloc (Obj.cells #[Value.int IntKind.i64 0, Value.int IntKind.i64 0] 84) := ⟨_, rfl⟩; rw [← hw]; have kT : Tr [(w.heap.size, [.int .i64 0, .int .i64 0])] w w0 := (by rw [hw]; exact ⟨by (first | (simp [Bx, CellsAt, go_sem, *]; done) | (simp [Bx, CellsAt, go_sem, *]; omega)), by (repeat (first | exact kE | exact Ext.refl _ | apply Ext.alloc | apply Ext.drewN | apply Ext.drew | apply Ext.set0 | apply Ext.set1 | apply Ext.set2 | apply Ext.set3 | (refine Ext.setk ?_ (by omega) _) | (apply Ext.snoc; assumption)))⟩); have HT := hide kT; clear hw kT; have kT := HT.out; simp only [Tr, Bx, CellsAt, Nat.reduceAdd, Nat.zero_add, and_true] at kT; obtain ⟨⟨kz0, kf0, kc0_0, kc0_1⟩, kE⟩ := kT
  have HG0 := hide (Gx.ext HC.out kE)
  have hs0 := kz0
  have hng : ¬ w.heap.size = g := by omega
  refine (l02Node_any g l _ hl HG0.out.cur).mono ?_; rintro e wA ⟨x, y, rfl, _, hc1, hg1⟩
  have HG1 := hide (HG0.out.trans (Gx.mk hg1 hc1))
  have HT' := hide ((Gx.mk hg1 hc1).tr (by simp [Ap]; omega) HT.out)
  have hz1 := hg1.size
  clear hc1 hg1
  clear kz0 kf0 kc0_0 kc0_1 kE
  clear HT; have HT := HT'; clear HT'
  have kT := HT.out; simp only [Tr, Bx, CellsAt, Nat.reduceAdd, Nat.zero_add, and_true] at kT; obtain ⟨⟨kz0, kf0, kc0_0, kc0_1⟩, kE⟩ := kT
  go_wp2_with fail
  obtain ⟨w2, hw⟩ : ∃ w1, w1 = wA.alloc (Obj.cells #[Value.int IntKind.i64 x, Value.int IntKind.i64 y] 84) := ⟨_, rfl⟩; rw [← hw]; have Hw2 := hide (show Ext wA w2 from (by (rw [hw]; (try clear kE); repeat (first | exact kE | exact Ext.refl _ | apply Ext.alloc | apply Ext.drewN | apply Ext.drew | apply Ext.set0 | apply Ext.set1 | apply Ext.set2 | apply Ext.set3 | (refine Ext.setk ?_ (by omega) _) | (apply Ext.snoc; assumption))))); have HT := hide (HT.out.more Hw2.out (wA.heap.size) [.int .i64 x, .int .i64 y] (by (rw [hw]; first | (simp [CellsAt, go_sem, *]; done) | (simp [CellsAt, go_sem, *]; omega)))); have Zw2 := hide (congrArg (fun z : World => z.heap.size) hw); clear hw kz0 kf0 kc0_0 kc0_1 kE; have kT := HT.out; simp only [Tr, Bx, CellsAt, Nat.reduceAdd, Nat.zero_add, and_true] at kT; obtain ⟨⟨⟨kz0, kf0, kc0_0, kc0_1⟩, ⟨kz1, kf1, kc1_0, kc1_1⟩⟩, kE⟩ := kT
  have HG2 := hide (HG1.out.trans (Gx.ext HG1.out.cur Hw2.out))
  have hng2 : ¬ wA.heap.size = g := by omega
  refine (l01Below_any g 14 l _ hl (by omega) (by omega) HG2.out.cur).mono ?_; rintro e w3 ⟨z, rfl, hz0, hz1', hc3, hg3⟩
  have HG3 := hide (HG2.out.trans (Gx.mk hg3 hc3))
  have HT' := hide ((Gx.mk hg3 hc3).tr (by simp [Ap]; omega) HT.out)
  clear hc3 hg3 HG0 HG1 HG2
  clear kz0 kf0 kc0_0 kc0_1 kz1 kf1 kc1_0 kc1_1 kE
  clear HT; have HT := HT'; clear HT'
  have kT := HT.out; simp only [Tr, Bx, CellsAt, Nat.reduceAdd, Nat.zero_add, and_true] at kT; obtain ⟨⟨⟨kz0, kf0, kc0_0, kc0_1⟩, ⟨kz1, kf1, kc1_0, kc1_1⟩⟩, kE⟩ := kT
  have hzA : wA.heap.size < w3.heap.size := kz0
  by_cases e0 : z = 0
  · subst e0
    go_wp2_with fail
    have hal := (Ext.refl w3).alloc (Obj.cells #[.int .i64 (-1), .int .i64 0, .int .i64 20, .int .i64 21, .int .i64 9223372036854775807] 3)
    have hRI : RI (w3.alloc (Obj.cells #[.int .i64 (-1), .int .i64 0, .int .i64 20, .int .i64 21, .int .i64 9223372036854775807] 3)) (some ⟨w3.heap.size, 0, none⟩) [-1, 0, 20, 21, 9223372036854775807] := ⟨rfl, fun _ => ⟨w3.heap.size, 0, rfl, by simp, fun j u hj => by
      rw [Nat.zero_add, World.cell?_alloc_new]
      simpa [encI] using hj⟩⟩
    obtain ⟨w5, hw5⟩ : ∃ W, W = w3.alloc (Obj.cells #[.int .i64 (-1), .int .i64 0, .int .i64 20, .int .i64 21, .int .i64 9223372036854775807] 3) := ⟨_, rfl⟩
    rw [← hw5] at hal hRI ⊢
    clear hw5
    have hz5 := hal.size
    have HG5 := hide (HG3.out.trans (Gx.ext HG3.out.cur hal))
    have HT' := hide (show Tr [(wA.heap.size, [.int .i64 x, .int .i64 y]), (w.heap.size, [.int .i64 0, .int .i64 0])] w5 w5 from ⟨(HT.out.ext hal).1, Ext.refl _⟩)
    have hbg : w3.heap.size ≠ g := by omega
    refine (l01PickInt_any g w3.heap.size 5 l [-1, 0, 20, 21, 9223372036854775807] _ hl HG5.out.cur ⟨by simp, by simp⟩ hbg hRI).mono ?_
    clear hRI hal
    rintro e w6 ⟨v, rfl, hc6, hg6⟩
    have HG6 := hide (HG5.out.trans (Gx.mk hg6 hc6))
    have HT6 := hide ((Gx.mk hg6 hc6).tr (by simp [Ap]; omega) HT'.out)
    clear hc6 hg6 HG5 HG3 HT'
    clear kz0 kf0 kc0_0 kc0_1 kz1 kf1 kc1_0 kc1_1 kE
    clear HT; have HT := HT6; clear HT6
    have kT := HT.out; simp only [Tr, Bx, CellsAt, Nat.reduceAdd, Nat.zero_add, and_true] at kT; obtain ⟨⟨⟨kz0, kf0, kc0_0, kc0_1⟩, ⟨kz1, kf1, kc1_0, kc1_1⟩⟩, kE⟩ := kT
    go_wp2_with fail
    refine bodyPost_ret (v := .agg #[.int .i64 v, .int .i64 y]) (by simp only [results, Tryz.results111]; go_simp) rfl ⟨_, _, rfl, ((HG6.out.cur.setk (by omega) _ _).setk hgl _ _).setk hgl _ _, grown_new (grown_new (grown_new HG6.out.gr (by omega) _ _) (Nat.le_refl _) _ _) (Nat.le_refl _) _ _⟩
  · have e0' : (z == 0) = false := by rw [beq_eq_false_iff_ne]; exact e0
    by_cases e1 : z = 1
    · subst e1
      
      go_wp2_with fail
      have hal := (Ext.refl w3).alloc (Obj.cells #[.int .i64 (-1), .int .i64 0, .int .i64 20, .int .i64 21, .int .i64 (-9223372036854775808)] 3)
      have hRI : RI (w3.alloc (Obj.cells #[.int .i64 (-1), .int .i64 0, .int .i64 20, .int .i64 21, .int .i64 (-9223372036854775808)] 3)) (some ⟨w3.heap.size, 0, none⟩) [-1, 0, 20, 21, -9223372036854775808] := ⟨rfl, fun _ => ⟨w3.heap.size, 0, rfl, by simp, fun j u hj => by
        rw [Nat.zero_add, World.cell?_alloc_new]
        simpa [encI] using hj⟩⟩
      obtain ⟨w5, hw5⟩ : ∃ W, W = w3.alloc (Obj.cells #[.int .i64 (-1), .int .i64 0, .int .i64 20, .int .i64 21, .int .i64 (-9223372036854775808)] 3) := ⟨_, rfl⟩
      rw [← hw5] at hal hRI ⊢
      clear hw5
      have hz5 := hal.size
      have HG5 := hide (HG3.out.trans (Gx.ext HG3.out.cur hal))
      have HT' := hide (show Tr [(wA.heap.size, [.int .i64 x, .int .i64 y]), (w.heap.size, [.int .i64 0, .int .i64 0])] w5 w5 from ⟨(HT.out.ext hal).1, Ext.refl _⟩)
      have hbg : w3.heap.size ≠ g := by omega
      refine (l01PickInt_any g w3.heap.size 5 l [-1, 0, 20, 21, -9223372036854775808] _ hl HG5.out.cur ⟨by simp, by simp⟩ hbg hRI).mono ?_
      clear hRI hal
      rintro e w6 ⟨v, rfl, hc6, hg6⟩
      have HG6 := hide (HG5.out.trans (Gx.mk hg6 hc6))
      have HT6 := hide ((Gx.mk hg6 hc6).tr (by simp [Ap]; omega) HT'.out)
      clear hc6 hg6 HG5 HG3 HT'
      clear kz0 kf0 kc0_0 kc0_1 kz1 kf1 kc1_0 kc1_1 kE
      clear HT; have HT := HT6; clear HT6
      have kT := HT.out; simp only [Tr, Bx, CellsAt, Nat.reduceAdd, Nat.zero_add, and_true] at kT; obtain ⟨⟨⟨kz0, kf0, kc0_0, kc0_1⟩, ⟨kz1, kf1, kc1_0, kc1_1⟩⟩, kE⟩ := kT
      go_wp2_with fail
      refine bodyPost_ret (v := .agg #[.int .i64 x, .int .i64 v]) (by simp only [results, Tryz.results111]; go_simp) rfl ⟨_, _, rfl, ((HG6.out.cur.setk (by omega) _ _).setk hgl _ _).setk hgl _ _, grown_new (grown_new (grown_new HG6.out.gr (by omega) _ _) (Nat.le_refl _) _ _) (Nat.le_refl _) _ _⟩
    · have e1' : (z == 1) = false := by rw [beq_eq_false_iff_ne]; exact e1
      
      go_wp2_with fail
      refine bodyPost_ret (v := .agg #[.int .i64 x, .int .i64 y]) (by simp only [results, Tryz.results111]; go_simp) rfl ⟨_, _, rfl, (HG3.out.cur.setk hgl _ _).setk hgl _ _, grown_new (grown_new HG3.out.gr (Nat.le_refl _) _ _) (Nat.le_refl _) _ _⟩
end Go.Proofs.YtabgcpoaepafjaaGreat
