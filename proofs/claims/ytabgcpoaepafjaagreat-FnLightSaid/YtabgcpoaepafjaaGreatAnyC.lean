/- The walks of the reference's drawn light. No condition but that the bytes are at most 1048576. -/
import Derived.Test.YtabgcpoaepafjaaGreatAnyB
set_option linter.unusedSimpArgs false
set_option linter.unusedVariables false

namespace Go.Proofs.YtabgcpoaepafjaaGreat
open Go.RowKit

set_option maxHeartbeats 1000000 in
theorem l23Stain_any (g : Nat) (l : List Int) (w : World) (hl : l.length ≤ 1048576) (hc : Cur w g l) :
    Calls Tryz.prog 98 #[.pointer (some ⟨g, 0, none⟩)] w fun e w' => ∃ a b c, e = .returned (.agg #[.int .i64 a, .int .i64 b, .int .i64 c]) ∧ (0 ≤ a ∧ a ≤ 1000 ∧ 0 ≤ b ∧ b ≤ 1000 ∧ 0 ≤ c ∧ c ≤ 1000) ∧ Cur w' g l ∧ w.grownBy w' (some g) := by
  have HC := hide hc
  have hgl := hc.lt
  clear hc
  go_enter Tryz.func98, Tryz.ntmps98
  go_wp2_with fail
  obtain ⟨w0, hw⟩ : ∃ w0, w0 = w.alloc (Obj.cells #[Value.int IntKind.i64 0, Value.int IntKind.i64 0, Value.int IntKind.i64 0] 50) := ⟨_, rfl⟩
  have c0 : w0.cell? ⟨w.heap.size, 0, none⟩ = some (.int .i64 0) := by rw [hw]; simp [go_sem]
  have c1 : w0.cell? ⟨w.heap.size, 1, none⟩ = some (.int .i64 0) := by rw [hw]; simp [go_sem]
  have c2 : w0.cell? ⟨w.heap.size, 2, none⟩ = some (.int .i64 0) := by rw [hw]; simp [go_sem]
  have cf : ∀ i, w0.frozen? ⟨w.heap.size, i, none⟩ = false := by intro i; rw [hw]; simp [go_sem]
  have cz : w.heap.size < w0.heap.size := by rw [hw]; simp
  have hc0 : Cur w0 g l := by rw [hw]; exact HC.out.ext ((Ext.refl _).alloc _)
  have hg0 : w.grownBy w0 (some g) := by rw [hw]; exact World.grownBy_alloc w _ _
  have hng : w.heap.size ≠ g := by omega
  rw [← hw]
  clear hw
  have HC0 := hide hc0
  have HG0 := hide hg0
  clear hc0 hg0
  refine (l01Below_any g 251 l _ hl (by omega) (by omega) HC0.out).mono ?_; rintro e w1 ⟨x, rfl, hx0, hx1, hc1, hg1⟩
  have kc := grown_cells hg1
  have kf := grown_frz hg1
  have kz := grown_lt hg1
  have HC1 := hide hc1
  have HG1 := hide (HG0.out.trans hg1)
  clear hc1 hg1
  go_wp2_with fail
  refine (l01Below_any g 251 l _ hl (by omega) (by omega) HC1.out).mono ?_; rintro e w2 ⟨y, rfl, hy0, hy1, hc2, hg2⟩
  have d0 := (grown_cells hg2 _ 0 (kz _ cz) hng).trans ((kc _ 0 cz hng).trans c0)
  have d1 := (grown_cells hg2 _ 1 (kz _ cz) hng).trans ((kc _ 1 cz hng).trans c1)
  have d2 := (grown_cells hg2 _ 2 (kz _ cz) hng).trans ((kc _ 2 cz hng).trans c2)
  have df := fun i => (grown_frz hg2 _ i (kz _ cz) hng).trans ((kf _ i cz hng).trans (cf i))
  have dz := grown_lt hg2 _ (kz _ cz)
  have HC2 := hide hc2
  have HG2 := hide (HG1.out.trans hg2)
  clear hc2 hg2 kc kf kz c0 c1 c2 cf cz
  go_wp2_with fail
  refine (l01Below_any g 251 l _ hl (by omega) (by omega) HC2.out).mono ?_; rintro e w3 ⟨z, rfl, hz0, hz1, hc3, hg3⟩
  have e0 := (grown_cells hg3 _ 0 dz hng).trans d0
  have e1 := (grown_cells hg3 _ 1 dz hng).trans d1
  have e2 := (grown_cells hg3 _ 2 dz hng).trans d2
  have ef := fun i => (grown_frz hg3 _ i dz hng).trans (df i)
  have ez := grown_lt hg3 _ dz
  have HC3 := hide hc3
  have HG3 := hide (HG2.out.trans hg3)
  clear hc3 hg3 d0 d1 d2 df dz
  go_wp2_with fail
  refine bodyPost_ret (v := .agg #[.int .i64 (4 * x), .int .i64 (4 * y), .int .i64 (4 * z)]) (by simp only [results, Tryz.results98]; go_simp) rfl ⟨_, _, _, rfl, ⟨by omega, by omega, by omega, by omega, by omega, by omega⟩, ((HC3.out.setk hgl _ _).setk hgl _ _).setk hgl _ _, grown_new (grown_new (grown_new HG3.out (Nat.le_refl _) _ _) (Nat.le_refl _) _ _) (Nat.le_refl _) _ _⟩
set_option maxRecDepth 20000 in
set_option maxHeartbeats 2000000 in
theorem l23Any_any (g : Nat) (l : List Int) (w : World) (hl : l.length ≤ 1048576) (hc : Cur w g l) :
    Calls Tryz.prog 59 #[.pointer (some ⟨g, 0, none⟩)] w fun e w' => ∃ a b c, e = .returned (.agg #[.int .i64 a, .int .i64 b, .int .i64 c]) ∧ Cur w' g l ∧ w.grownBy w' (some g) := by
  have HC := hide hc
  have hgl := hc.lt
  clear hc
  
  go_enter Tryz.func59, Tryz.ntmps59
  go_wp2_with fail
  obtain ⟨w0, hw⟩ : ∃ w1, w1 = w.alloc (Obj.cells #[Value.int IntKind.i64 0, Value.int IntKind.i64 0, Value.int IntKind.i64 0] 50) := ⟨_, rfl⟩; rw [← hw]; have kT : Tr [(w.heap.size, [.int .i64 0, .int .i64 0, .int .i64 0])] w w0 := (by rw [hw]; exact ⟨by (first | (simp [Bx, CellsAt, go_sem, *]; done) | (simp [Bx, CellsAt, go_sem, *]; omega)), by (repeat (first | exact kE | exact Ext.refl _ | apply Ext.alloc | apply Ext.drewN | apply Ext.drew | apply Ext.set0 | apply Ext.set1 | apply Ext.set2 | apply Ext.set3 | (refine Ext.setk ?_ (by omega) _) | (apply Ext.snoc; assumption)))⟩); have HT := hide kT; clear hw kT; have kT := HT.out; simp only [Tr, Bx, CellsAt, Nat.reduceAdd, Nat.zero_add, and_true] at kT; obtain ⟨⟨kz0, kf0, kc0_0, kc0_1, kc0_2⟩, kE⟩ := kT
  have HG0 := hide (Gx.ext HC.out kE)
  have hs0 := kz0
  have hng : ¬ w.heap.size = g := by omega
  refine (l23Stain_any g l _ hl HG0.out.cur).mono ?_; rintro e wA ⟨a, b, c, rfl, _, hc1, hg1⟩
  have HG1 := hide (HG0.out.trans (Gx.mk hg1 hc1))
  have HT' := hide ((Gx.mk hg1 hc1).tr (by simp [Ap]; omega) HT.out)
  have hz1 := hg1.size
  clear hc1 hg1
  clear kz0 kf0 kc0_0 kc0_1 kc0_2 kE
  clear HT; have HT := HT'; clear HT'
  have kT := HT.out; simp only [Tr, Bx, CellsAt, Nat.reduceAdd, Nat.zero_add, and_true] at kT; obtain ⟨⟨kz0, kf0, kc0_0, kc0_1, kc0_2⟩, kE⟩ := kT
  go_wp2_with fail
  obtain ⟨w2, hw⟩ : ∃ w1, w1 = wA.alloc (Obj.cells #[Value.int IntKind.i64 a, Value.int IntKind.i64 b, Value.int IntKind.i64 c] 50) := ⟨_, rfl⟩; rw [← hw]; have Hw2 := hide (show Ext wA w2 from (by (rw [hw]; (try clear kE); repeat (first | exact kE | exact Ext.refl _ | apply Ext.alloc | apply Ext.drewN | apply Ext.drew | apply Ext.set0 | apply Ext.set1 | apply Ext.set2 | apply Ext.set3 | (refine Ext.setk ?_ (by omega) _) | (apply Ext.snoc; assumption))))); have HT := hide (HT.out.more Hw2.out (wA.heap.size) [.int .i64 a, .int .i64 b, .int .i64 c] (by (rw [hw]; first | (simp [CellsAt, go_sem, *]; done) | (simp [CellsAt, go_sem, *]; omega)))); have Zw2 := hide (congrArg (fun z : World => z.heap.size) hw); clear hw kz0 kf0 kc0_0 kc0_1 kc0_2 kE; have kT := HT.out; simp only [Tr, Bx, CellsAt, Nat.reduceAdd, Nat.zero_add, and_true] at kT; obtain ⟨⟨⟨kz0, kf0, kc0_0, kc0_1, kc0_2⟩, ⟨kz1, kf1, kc1_0, kc1_1, kc1_2⟩⟩, kE⟩ := kT
  have HG2 := hide (HG1.out.trans (Gx.ext HG1.out.cur Hw2.out))
  refine (l01Once_any g 10 l _ hl (by omega) (by omega) HG2.out.cur).mono ?_; rintro e w3 ⟨bb, rfl, hc3, hg3⟩
  have HG3 := hide (HG2.out.trans (Gx.mk hg3 hc3))
  have HT' := hide ((Gx.mk hg3 hc3).tr (by simp [Ap]; omega) HT.out)
  clear hc3 hg3 HG0 HG1 HG2
  clear kz0 kf0 kc0_0 kc0_1 kc0_2 kz1 kf1 kc1_0 kc1_1 kc1_2 kE
  clear HT; have HT := HT'; clear HT'
  have kT := HT.out; simp only [Tr, Bx, CellsAt, Nat.reduceAdd, Nat.zero_add, and_true] at kT; obtain ⟨⟨⟨kz0, kf0, kc0_0, kc0_1, kc0_2⟩, ⟨kz1, kf1, kc1_0, kc1_1, kc1_2⟩⟩, kE⟩ := kT
  have hzA : wA.heap.size < w3.heap.size := kz0
  cases bb with
  | true =>
    go_wp2_with fail
    have hal := (Ext.refl w3).alloc (Obj.cells #[.int .i64 (-1), .int .i64 0, .int .i64 1000, .int .i64 1001] 3)
    have hRI : RI (w3.alloc (Obj.cells #[.int .i64 (-1), .int .i64 0, .int .i64 1000, .int .i64 1001] 3)) (some ⟨w3.heap.size, 0, none⟩) [-1, 0, 1000, 1001] := ⟨rfl, fun _ => ⟨w3.heap.size, 0, rfl, by simp, fun j u hj => by
      rw [Nat.zero_add, World.cell?_alloc_new]
      simpa [encI] using hj⟩⟩
    obtain ⟨w5, hw5⟩ : ∃ W, W = w3.alloc (Obj.cells #[.int .i64 (-1), .int .i64 0, .int .i64 1000, .int .i64 1001] 3) := ⟨_, rfl⟩
    rw [← hw5] at hal hRI ⊢
    clear hw5
    have hz5 := hal.size
    have HG5 := hide (HG3.out.trans (Gx.ext HG3.out.cur hal))
    have HT' := hide (show Tr [(wA.heap.size, [.int .i64 a, .int .i64 b, .int .i64 c]), (w.heap.size, [.int .i64 0, .int .i64 0, .int .i64 0])] w5 w5 from ⟨(HT.out.ext hal).1, Ext.refl _⟩)
    have hbg : w3.heap.size ≠ g := by omega
    refine (l01PickInt_any g w3.heap.size 4 l [-1, 0, 1000, 1001] _ hl HG5.out.cur ⟨by simp, by simp⟩ hbg hRI).mono ?_
    clear hRI hal
    rintro e w6 ⟨v, rfl, hc6, hg6⟩
    have HG6 := hide (HG5.out.trans (Gx.mk hg6 hc6))
    have HT6 := hide ((Gx.mk hg6 hc6).tr (by simp [Ap]; omega) HT'.out)
    clear hc6 hg6 HG5 HG3 HT'
    clear kz0 kf0 kc0_0 kc0_1 kc0_2 kz1 kf1 kc1_0 kc1_1 kc1_2 kE
    clear HT; have HT := HT6; clear HT6
    have kT := HT.out; simp only [Tr, Bx, CellsAt, Nat.reduceAdd, Nat.zero_add, and_true] at kT; obtain ⟨⟨⟨kz0, kf0, kc0_0, kc0_1, kc0_2⟩, ⟨kz1, kf1, kc1_0, kc1_1, kc1_2⟩⟩, kE⟩ := kT
    go_wp2_with fail
    refine bodyPost_ret (v := .agg #[.int .i64 a, .int .i64 v, .int .i64 c]) (by simp only [results, Tryz.results59]; go_simp) rfl ⟨_, _, _, rfl, (((HG6.out.cur.setk (by omega) _ _).setk hgl _ _).setk hgl _ _).setk hgl _ _, grown_new (grown_new (grown_new (grown_new HG6.out.gr (by omega) _ _) (Nat.le_refl _) _ _) (Nat.le_refl _) _ _) (Nat.le_refl _) _ _⟩
  | false =>
    
    go_wp2_with fail
    refine bodyPost_ret (v := .agg #[.int .i64 a, .int .i64 b, .int .i64 c]) (by simp only [results, Tryz.results59]; go_simp) rfl ⟨_, _, _, rfl, ((HG3.out.cur.setk hgl _ _).setk hgl _ _).setk hgl _ _, grown_new (grown_new (grown_new HG3.out.gr (Nat.le_refl _) _ _) (Nat.le_refl _) _ _) (Nat.le_refl _) _ _⟩
theorem stainI_info : (Tryz.prog.info? 50).map (fun i => (i.zero, i.size, i.bytes)) = some (some (.agg #[.int .i64 0, .int .i64 0, .int .i64 0]), 3, 24) := by kernel_rfl
theorem one3n (a b c : Int) : ∀ u ∈ [Value.int .i64 a, Value.int .i64 b, Value.int .i64 c], u.oneCell' = true := by intro u hu; simp at hu; rcases hu with rfl | rfl | rfl <;> rfl
theorem enc3_snoc' (l : List P3) (x y z : Int) : enc3 (l ++ [(x, y, z)]) = enc3 l ++ [.int .i64 x, .int .i64 y, .int .i64 z] := by rw [enc3_append]; rfl
set_option maxRecDepth 20000 in
set_option maxHeartbeats 2000000 in
theorem l24Stains_any (g n : Nat) (l : List Int) (w : World) (hl : l.length ≤ 1048576) (hn : n ≤ 1048576) (hc : Cur w g l) :
    Calls Tryz.prog 57 #[.pointer (some ⟨g, 0, none⟩), .int .i64 (n : Int)] w fun e w' => ∃ S A c, e = .returned (.slice A n c) ∧ S.length = n ∧ w'.ownsRow w.heap.size 50 3 (.slice A n c) n (enc3 S) ∧ Gx g l w w' := by
  obtain ⟨i0, hi, hz0, hz1, hz2⟩ := info_parts stainI_info
  have HC := hide hc
  have hgl := hc.lt
  clear hc
  
  go_enter Tryz.func57, Tryz.ntmps57
  go_wp2_with fail
  have HO0 := hide (World.ownsRow_lit (base := w.heap.size) (e := 50) (size := 3) w #[] 0 (Nat.le_refl _) (Nat.zero_le _) (by simp))
  have HG0 := hide (Gx.ext HC.out ((Ext.refl w).alloc (Obj.cells #[] 50)))
  obtain ⟨w0, hw0⟩ : ∃ W, W = w.alloc (Obj.cells #[] 50) := ⟨_, rfl⟩
  have hz0' : w.heap.size < w0.heap.size := by rw [hw0]; simp
  rw [← hw0] at HO0 HG0 ⊢
  clear hw0
  go_loopw [5, 6] (fun v i wr => ∃ (k : Nat) (S : List P3), k ≤ n ∧ i = .int .i64 k ∧ S.length = k ∧ Hid (wr.ownsRow w.heap.size 50 3 v k (enc3 S)) ∧ Hid (Gx g l w wr)) (fun _ i _ => n - (intOf i).toNat)
  case atStart => exact ⟨0, [], Nat.zero_le _, rfl, rfl, hide HO0.out, HG0⟩
  case round =>
    clear HO0 HG0
    obtain ⟨k, S, hk, rfl, hS, HO, HG⟩ := hrel
    have hszr := HG.out.size
    by_cases hlt : k < n
    · have hlz : (k : Int) < (n : Int) := by omega
      go_wp2_with fail
      refine (l23Stain_any g l _ hl HG.out.cur).mono ?_; rintro e wA ⟨a, b, c, rfl, _, hc1, hg1⟩
      have HG1 := hide (HG.out.trans (Gx.mk hg1 hc1))
      have HO1 := hide (show wA.ownsRow w.heap.size 50 3 u5 k (enc3 S) from HO.out.kept hg1 (by
        cases hu : u5.ownBlock with
        | none => exact .inl rfl
        | some q => exact .inr fun e => by have := (HO.out.lt q hu).1; injection e; omega))
      have hzA1 := HG1.out.size
      clear hc1 hg1 HG HO
      go_upto_region 6 with fail
      obtain ⟨w2, hw2⟩ : ∃ W, W = wA.alloc (Obj.cells #[.int .i64 a, .int .i64 b, .int .i64 c] 50) := ⟨_, rfl⟩
      have hE2 : Ext wA w2 := by rw [hw2]; exact (Ext.refl wA).alloc _
      have hc0 : w2.cell? ⟨wA.heap.size, 0, none⟩ = some (.int .i64 a) := by rw [hw2]; simp [go_sem]
      have hc1 : w2.cell? ⟨wA.heap.size, 1, none⟩ = some (.int .i64 b) := by rw [hw2]; simp [go_sem]
      have hc2 : w2.cell? ⟨wA.heap.size, 2, none⟩ = some (.int .i64 c) := by rw [hw2]; simp [go_sem]
      rw [← hw2]
      clear hw2
      have HG2 := hide (HG1.out.trans (Gx.ext HG1.out.cur hE2))
      have HO2 := hide (own_ext HO1.out hE2)
      have hz2' := HG2.out.size
      go_wp2_with (at_builtin; refine wpList_append_own_at _ rfl (.tmp 16) (.tmp 18) 40 rfl w.heap.size 50 i0 (.agg #[.int .i64 0, .int .i64 0, .int .i64 0]) 3 24 Tryz.underlying40 hi hz0 hz1 hz2 rfl (by decide) u5 k (enc3 S) rfl (own_ext HO2.out ((Ext.refl _).alloc _)) ⟨w2.heap.size, 0, none⟩ 1 1 [.int .i64 a, .int .i64 b, .int .i64 c] rfl rfl (news_new w2 #[.int .i64 a, .int .i64 b, .int .i64 c] 50) (one3n _ _ _) (by unfold maxLen; omega) (by omega) (by first | (simp; done) | (simp; omega)) ?_; intro v9 w9 hown9 hgrow9 hnil9 hloc9)
      have HO9 := hide (show w9.ownsRow w.heap.size 50 3 v9 (k + 1) (enc3 (S ++ [(a, b, c)])) from by rw [enc3_snoc']; exact hown9)
      have HG9 := hide (show Gx g l w w9 from by
        cases hu : u5.ownBlock with
        | none =>
          rw [hu] at hgrow9
          exact HG2.out.trans (Gx.ext HG2.out.cur ((Ext.refl w2).alloc _ |>.grown hgrow9 (fun k e => by cases e)))
        | some q =>
          rw [hu] at hgrow9
          have := (HO2.out.lt q hu).1
          exact HG2.out.app (r := q) hgrow9 (by omega) (by omega))
      clear hown9 hgrow9 hnil9 hloc9
      go_roundw
      case rel => exact ⟨k + 1, S ++ [(a, b, c)], by omega, by go_num, by simp [hS], HO9, HG9⟩
      case measure => simp [intOf]; omega
    · obtain rfl : k = n := by omega
      obtain ⟨Ar, cr, rfl, _⟩ := own_slice HO.out
      have HO9 := hide HO.out
      have HS := hide hS
      clear HO hS
      go_wp2_with fail
      go_ret
      exact ⟨S, Ar, cr, rfl, HS.out, HO9.out, HG.out⟩
end Go.Proofs.YtabgcpoaepafjaaGreat
