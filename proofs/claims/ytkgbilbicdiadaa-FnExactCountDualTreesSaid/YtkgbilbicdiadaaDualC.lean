/- The walks of the reference's table and number of dual trees. No condition. -/
import Derived.Test.YtkgbilbicdiadaaDualB
set_option linter.unusedSimpArgs false
set_option linter.unusedVariables false
namespace Go.Proofs.Ytkgbilbicdiadaa
open Go.RowKit

def pairsTo (s : Nat → Nat) (k : Nat) : List (List Nat) := (List.range k).map fun t => [s (2 * t), s (2 * t + 1)]
theorem pairs_next (s : Nat → Nat) (k : Nat) : pairsTo s (k + 1) = pairsTo s k ++ [[s (2 * k), s (2 * k + 1)]] := by
  unfold pairsTo
  rw [List.range_succ, List.map_append]
  rfl
theorem pairs_len (s : Nat → Nat) (k : Nat) : (pairsTo s k).length = k := by simp [pairsTo]
theorem pairs_at (s : Nat → Nat) {k m : Nat} (h : k < (pairsTo s m).length) : (pairsTo s m)[k] = [s (2 * k), s (2 * k + 1)] := by simp [pairsTo]
theorem put1_yes {g : Nat → Nat → Int} {a b : Nat} (ha : 0 < a) (hb : 0 < b) (v : Int) : put1 g a b v = upd g (a - 1) (b - 1) (g (a - 1) (b - 1) + v) := by unfold put1; rw [if_pos ⟨ha, hb⟩]
theorem put1_no {g : Nat → Nat → Int} {a b : Nat} (h : ¬ (0 < a ∧ 0 < b)) (v : Int) : put1 g a b v = g := by unfold put1; rw [if_neg h]
/-- Numbers of a table are small. -/
def SmB (g : Nat → Nat → Int) (M : Int) : Prop := ∀ i j, -M ≤ g i j ∧ g i j ≤ M
theorem SmB.upd1 {g : Nat → Nat → Int} {M : Int} (h : SmB g M) (i j : Nat) {v : Int} (hv : v = 1 ∨ v = -1) : SmB (upd g i j (g i j + v)) (M + 1) := by
  intro a b
  have h1 := h a b
  have h2 := h i j
  unfold upd
  split <;> omega
theorem mat_gap {w w' : World} {hd a g g' n : Nat} (hE : Ext w w') (hh : hd < w.heap.size) (h1 : w.cell? ⟨hd, a, none⟩ = some (.slice (some ⟨g, 0, none⟩) n n)) (h2 : w'.cell? ⟨hd, a, none⟩ = some (.slice (some ⟨g', 0, none⟩) n n)) : g = g' := by
  have e := (Ext.facts hE).1 hd a hh
  rw [h1, h2] at e
  injection e with e
  injection e with e
  injection e with e
  injection e with e
  exact e.symm
set_option maxRecDepth 20000 in
set_option maxHeartbeats 8000000 in
theorem l16Matrix_any (q m c : Nat) (A : Option Addr) (s : Nat → Nat) (w : World) (hq : q ≤ 40) (hm : m ≤ 20) (hs : ∀ d, s d ≤ q) (hr : RT w A (pairsTo s m)) :
    Calls Try.prog 106 #[.int .i64 ((q + 1 : Nat) : Int), .slice A m c] w fun e w' => ∃ A2 c2, e = .returned (.slice A2 q c2) ∧ q ≤ c2 ∧ (0 < q → ∃ hd, A2 = some ⟨hd, 0, none⟩ ∧ Mat w' w.heap.size hd q q q 29 3 (tabD s m)) ∧ Ext w w' := by
  obtain ⟨i0, hi, hz0, hz1, hz2⟩ := info_parts rows_info
  obtain ⟨j0, hj, hy0, hy1, hy2⟩ := info_parts int_info
  have HR := hide hr
  have HS := hide hs
  have hml := pairs_len s m
  obtain ⟨n, hn⟩ : ∃ n, n = q + 1 := ⟨_, rfl⟩
  rw [← hn]
  have hnz : IntKind.i64.wrap ((n : Int) - 1) = (q : Int) := by rw [IntKind.wrap_i64]; omega
  have HNZ := hide hnz
  have hnq : n ≤ q + 1 ∧ q + 1 ≤ n := by omega
  clear hr hs hnz hn
  
  go_enter Try.func106, Try.ntmps106
  go_wp2_with fail
  have ho : (w.alloc (.cells #[] 29)).ownsRow w.heap.size 29 1 (.slice (some ⟨w.heap.size, 0, none⟩) 0 0) 0 [] := World.ownsRow_lit (base := w.heap.size) (e := 29) (size := 1) w #[] 0 (Nat.le_refl _) (Nat.zero_le _) rfl
  have HO := hide ho
  clear ho
  go_loopw [5, 6] (fun v i wr => ∃ k : Nat, 1 ≤ k ∧ k ≤ n ∧ i = .int .i64 k ∧ Hid (Hdr wr w.heap.size v (k - 1) q 29 3) ∧ Hid (Ext w wr)) (fun _ i _ => n - (intOf i).toNat)
  case atStart => exact ⟨1, Nat.le_refl _, by omega, rfl, hide ⟨fun _ => 0, HO.out, fun i hi => absurd hi (Nat.not_lt_zero i), fun i j hi => absurd hi (Nat.not_lt_zero i)⟩, hide ((Ext.refl _).alloc _)⟩
  case round =>
    clear HO
    obtain ⟨k, hk1, hk, rfl, HH, HE⟩ := hrel
    have hsz := HE.out.size
    by_cases hlt : k < n
    · have hkz : (k : Int) < (n : Int) := by omega
      obtain ⟨G, h1, h2, h3⟩ := HH.out
      have H1 := hide h1
      have H2 := hide h2
      have H3 := hide h3
      have hnz := HNZ.out
      clear h1 h2 h3
      go_wp2_with (first | (at_make; refine wpList_make_full _ rfl _ _ 29 rfl w.heap.size 3 j0 (.int .i64 0) 1 Try.underlying29 hj hy0 hy1 .i64 .i64 q q q rfl rfl (by omega) (by omega) (by rw [hy2]; omega) (by unfold maxLen; omega) (by omega) ?_; intro w2 hown hgrow; have hX2 := grown_ext hgrow; have HX2 := hide hX2; have hs2 := hX2.size; clear hX2) | (at_builtin; refine wpList_append_own_at _ rfl _ _ 66 rfl w.heap.size 29 i0 (.slice none 0 0) 1 24 Try.underlying66 hi hz0 hz1 hz2 rfl (by decide) u5 _ _ rfl (own_ext H1.out (HX2.out.alloc _)) ⟨w2.heap.size, 0, none⟩ 1 1 [Value.slice (some ⟨wr.heap.size, 0, none⟩) q q] rfl rfl (news_new _ #[Value.slice (some ⟨wr.heap.size, 0, none⟩) q q] _) (by intro u hu; simp at hu; subst hu; rfl) (by unfold maxLen; omega) (by omega) (by simp; omega) ?_; intro v' w4 hown4 hgrow4 hnil hblk))
      rw [made_zeros] at hown
      have R := hide (Hdr.step H1.out H2.out H3.out HX2.out rfl hsz (Blk.of_full hown) hgrow4 hblk hown4)
      have E4 := hide (Ext.grown ((HE.out.trans HX2.out).alloc _) hgrow4 (own_base H1.out (Nat.le_refl _)))
      clear hown hgrow hown4 hgrow4 hnil hblk hnz
      go_roundw
      case rel => exact ⟨k + 1, by omega, by omega, by go_num, hide (by have h := R.out; rw [show k - 1 + 1 = k + 1 - 1 by omega] at h; exact h), by first | exact E4 | exact hide E4.out⟩
      case measure => simp [intOf]; omega
    · obtain rfl : k = n := by omega
      have hk1q : k - 1 = q := by omega
      rw [hk1q] at HH
      have hav : ∃ A2 c2 hd, u5 = .slice A2 q c2 ∧ q ≤ c2 ∧ (0 < q → A2 = some ⟨hd, 0, none⟩ ∧ Mat wr w.heap.size hd q q q 29 3 (tabD s 0)) := by
        rcases Nat.eq_zero_or_pos q with h0 | h0
        · obtain ⟨G, h1, _⟩ := HH.out
          obtain ⟨A2, c2, e, e2, _⟩ := own_slice h1
          exact ⟨A2, c2, 0, e, e2, fun h => absurd h (by omega)⟩
        · obtain ⟨hd, c2, e, e2, e3⟩ := HH.out.mat h0
          exact ⟨_, c2, hd, e, e2, fun _ => ⟨rfl, e3⟩⟩
      obtain ⟨A2, c2, hd, rfl, hqc, hmat⟩ := hav
      have HM0 := hide (fun h => (hmat h).2)
      have HA2 := hide (fun h => (hmat h).1)
      have HE0 := HE
      clear hmat HH hsz
      go_wp2_with fail
      go_loopw [7] (fun i wi => ∃ t : Nat, t ≤ m ∧ i = .int .i64 t ∧ Hid (0 < q → Mat wi w.heap.size hd q q q 29 3 (tabD s t)) ∧ Hid (Ext w wi)) (fun i _ => m - (intOf i).toNat)
      case atStart => exact ⟨0, Nat.zero_le _, rfl, HM0, HE0⟩
      case round =>
        clear HM0 HE0 HE
        obtain ⟨t, ht, rfl, HM, HE⟩ := hrel
        by_cases htl : t < m
        · have htz : (t : Int) < (m : Int) := by omega
          obtain ⟨pb, po, Ai, ci, rfl, hpb, hph, hpc, hpr⟩ := (HR.out.ext HE.out).at_ (k := t) (by omega)
          rw [pairs_at] at hph hpc hpr
          obtain ⟨rb, ro, rfl, hrb, hrc⟩ := hpr.2 (by simp)
          have hc0 : wr.cell? ⟨rb, ro, none⟩ = some (.int .i64 ((s (2 * t) : Nat) : Int)) := hrc 0 (.int .i64 ((s (2 * t) : Nat) : Int)) (by simp [encN])
          have hc1 : wr.cell? ⟨rb, ro + 1, none⟩ = some (.int .i64 ((s (2 * t + 1) : Nat) : Int)) := hrc 1 (.int .i64 ((s (2 * t + 1) : Nat) : Int)) (by simp [encN])
          have hsa := HS.out (2 * t)
          have hsb := HS.out (2 * t + 1)
          have HSAME := hide (fun h => tab_same (s := s) (k := t) h)
          have HPUT := hide (fun h => tab_put (s := s) (k := t) h)
          have HSB := hide (show SmB (tabD s t) 40 from fun i j => by have := tab_small s t i j; omega)
          obtain ⟨a, ha⟩ : ∃ a, s (2 * t) = a := ⟨_, rfl⟩
          obtain ⟨b, hb⟩ : ∃ b, s (2 * t + 1) = b := ⟨_, rfl⟩
          rw [ha] at hc0 hsa HSAME HPUT
          rw [hb] at hc1 hsb HSAME HPUT
          have hph' : wr.cell? ⟨pb, po + t, none⟩ = some (.slice (some ⟨rb, ro, none⟩) 2 ci) := hph
          clear ha hb hrc hpr hph
          by_cases hab : a = b
          · have t1 : ((a : Int) == (b : Int)) = true := by simp [hab]
            have t2 : (a == b) = true := by simp [hab]
            have HSM := hide (fun h => ((HM.out h).congr (f' := tabD s (t + 1)) fun i j _ _ => (HSAME.out hab i j).symm))
            clear hab
            go_wp2_with fail
            clear hc0 hc1 hph'
            go_roundw
            case rel => exact ⟨t + 1, by omega, by go_num, by first | exact HSM | exact hide HSM.out, by first | exact HE | exact hide HE.out⟩
            case measure => simp [intOf]; omega
          · have t1 : ((a : Int) == (b : Int)) = false := by simp; omega
            have t2 : (a == b) = false := by simp [hab]
            have hq0 : 0 < q := by omega
            have hor : 0 < a ∨ 0 < b := by omega
            obtain rfl := HA2.out hq0
            have HMF := hide (HPUT.out hab)
            have HM1 := hide (HM.out hq0)
            obtain ⟨f0, hf0⟩ : ∃ f, tabD s t = f := ⟨_, rfl⟩
            rw [hf0] at HMF HM1 HSB
            clear hf0 HM hab HPUT HSAME
            obtain ⟨w0, rfl⟩ : ∃ w0 : World, w0 = wr := ⟨_, rfl⟩
            by_cases hpa : 0 < a
            · skip
              obtain ⟨x, hx⟩ : ∃ z, z = a - 1 := ⟨_, rfl⟩
              have px1 : IntKind.i64.wrap ((a : Int) - 1) = (x : Int) := by rw [IntKind.wrap_i64]; omega
              have px2 : (x : Int) < (q : Int) := by omega
              have px3 : x < q := by omega
              have px4 : (0 : Int) < (a : Int) := by omega
              have HIx := hide hx
              clear hx
              by_cases hpb2 : 0 < b
              · skip
                obtain ⟨y, hy⟩ : ∃ z, z = b - 1 := ⟨_, rfl⟩
                have py1 : IntKind.i64.wrap ((b : Int) - 1) = (y : Int) := by rw [IntKind.wrap_i64]; omega
                have py2 : (y : Int) < (q : Int) := by omega
                have py3 : y < q := by omega
                have py4 : (0 : Int) < (b : Int) := by omega
                have HIy := hide hy
                clear hy
                obtain ⟨g1, a1, a2, a3, a4, a5, a6⟩ := HM1.out.at_ px3 px3
                have HA1 := hide a1
                have hhw := HM1.out.lt.2
                have k1 := ExtBy.cell (W := w0) hhw a1
                have k2 := ExtBy.cell (W := w0) a5 a2
                have bnd := HSB.out x x
                have HU := hide (HSB.out.upd1 x x (v := 1) (by decide))
                obtain ⟨z, hz⟩ : ∃ z, f0 x x = z := ⟨_, rfl⟩
                rw [hz] at k2 bnd
                have hwz : IntKind.i64.wrap (z + 1) = z + 1 := by rw [IntKind.wrap_i64]; omega
                clear a1 a2 a3 a4 a6
                go_wp2_with fail
                
                refine wp_region_tailE 18 (by kernel_rfl) (by kernel_rfl) ?_; simp only [List.take_succ_cons, List.take_zero, List.drop_succ_cons, List.drop_zero]; (repeat (refine WQ.step (fun K hK => ?_); have HK := hide hK; clear hK; go_simp; refine HK.out _ ?_; clear HK K)); refine WQ.done ?_; intro w1a hw'; obtain ⟨⟨_, hw1a⟩, hw''⟩ := hw'; subst hw''
                have HM2 := hide (HM1.out.ext hw1a)
                obtain ⟨g9, f1, f2, f3, f4, f5, f6⟩ := HM2.out.at_ px3 px3
                have e9 := mat_gap hw1a hhw HA1.out f1
                subst e9
                have hf7 := f6 (z + 1)
                have he7 := (HE.out.trans hw1a).set (p := ⟨g1, x, none⟩) f4 (.int .i64 (z + 1))
                clear k1 k2 HA1 hhw a5 bnd HM2 f1 f6 f4
                go_wp2_with fail
                obtain ⟨wz1, hnew⟩ : ∃ w8, w8 = w1a.setCell ⟨g1, x, none⟩ (.int .i64 (z + 1)) := ⟨_, rfl⟩
                rw [← hnew] at hf7 he7 ⊢
                rw [← hz] at hf7
                obtain ⟨nf1, hnf⟩ : ∃ nf, upd f0 x x (f0 x x + 1) = nf := ⟨_, rfl⟩
                rw [hnf] at hf7 HU
                have HMn1 := hide hf7
                have HEn1 := hide he7
                have HSn1 := HU
                have HNF1 := hide hnf
                clear hf7 he7 hnf HU hz hwz f2 f3 f5 hnew
                obtain ⟨g1, a1, a2, a3, a4, a5, a6⟩ := HMn1.out.at_ py3 py3
                have HA1 := hide a1
                have hhw := HMn1.out.lt.2
                have k1 := ExtBy.cell (W := wz1) hhw a1
                have k2 := ExtBy.cell (W := wz1) a5 a2
                have bnd := HSn1.out y y
                have HU := hide (HSn1.out.upd1 y y (v := 1) (by decide))
                obtain ⟨z, hz⟩ : ∃ z, nf1 y y = z := ⟨_, rfl⟩
                rw [hz] at k2 bnd
                have hwz : IntKind.i64.wrap (z + 1) = z + 1 := by rw [IntKind.wrap_i64]; omega
                clear a1 a2 a3 a4 a6
                go_wp2_with fail
                
                refine wp_region_tailE 18 (by kernel_rfl) (by kernel_rfl) ?_; simp only [List.take_succ_cons, List.take_zero, List.drop_succ_cons, List.drop_zero]; (repeat (refine WQ.step (fun K hK => ?_); have HK := hide hK; clear hK; go_simp; refine HK.out _ ?_; clear HK K)); refine WQ.done ?_; intro w2a hw'; obtain ⟨⟨_, hw2a⟩, hw''⟩ := hw'; subst hw''
                have HM2 := hide (HMn1.out.ext hw2a)
                obtain ⟨g9, f1, f2, f3, f4, f5, f6⟩ := HM2.out.at_ py3 py3
                have e9 := mat_gap hw2a hhw HA1.out f1
                subst e9
                have hf7 := f6 (z + 1)
                have he7 := (HEn1.out.trans hw2a).set (p := ⟨g1, y, none⟩) f4 (.int .i64 (z + 1))
                clear k1 k2 HA1 hhw a5 bnd HM2 f1 f6 f4
                go_wp2_with fail
                obtain ⟨wz2, hnew⟩ : ∃ w8, w8 = w2a.setCell ⟨g1, y, none⟩ (.int .i64 (z + 1)) := ⟨_, rfl⟩
                rw [← hnew] at hf7 he7 ⊢
                rw [← hz] at hf7
                obtain ⟨nf2, hnf⟩ : ∃ nf, upd nf1 y y (nf1 y y + 1) = nf := ⟨_, rfl⟩
                rw [hnf] at hf7 HU
                have HMn2 := hide hf7
                have HEn2 := hide he7
                have HSn2 := HU
                have HNF2 := hide hnf
                clear hf7 he7 hnf HU hz hwz f2 f3 f5 hnew
                obtain ⟨g1, a1, a2, a3, a4, a5, a6⟩ := HMn2.out.at_ px3 py3
                have HA1 := hide a1
                have hhw := HMn2.out.lt.2
                have k1 := ExtBy.cell (W := wz2) hhw a1
                have k2 := ExtBy.cell (W := wz2) a5 a2
                have bnd := HSn2.out x y
                have HU := hide (HSn2.out.upd1 x y (v := -1) (by decide))
                obtain ⟨z, hz⟩ : ∃ z, nf2 x y = z := ⟨_, rfl⟩
                rw [hz] at k2 bnd
                have hwz : IntKind.i64.wrap (z - 1) = z + -1 := by rw [IntKind.wrap_i64]; omega
                clear a1 a2 a3 a4 a6
                go_wp2_with fail
                
                refine wp_region_tailE 18 (by kernel_rfl) (by kernel_rfl) ?_; simp only [List.take_succ_cons, List.take_zero, List.drop_succ_cons, List.drop_zero]; (repeat (refine WQ.step (fun K hK => ?_); have HK := hide hK; clear hK; go_simp; refine HK.out _ ?_; clear HK K)); refine WQ.done ?_; intro w3a hw'; obtain ⟨⟨_, hw3a⟩, hw''⟩ := hw'; subst hw''
                have HM2 := hide (HMn2.out.ext hw3a)
                obtain ⟨g9, f1, f2, f3, f4, f5, f6⟩ := HM2.out.at_ px3 py3
                have e9 := mat_gap hw3a hhw HA1.out f1
                subst e9
                have hf7 := f6 (z + -1)
                have he7 := (HEn2.out.trans hw3a).set (p := ⟨g1, y, none⟩) f4 (.int .i64 (z + -1))
                clear k1 k2 HA1 hhw a5 bnd HM2 f1 f6 f4
                go_wp2_with fail
                obtain ⟨wz3, hnew⟩ : ∃ w8, w8 = w3a.setCell ⟨g1, y, none⟩ (.int .i64 (z + -1)) := ⟨_, rfl⟩
                rw [← hnew] at hf7 he7 ⊢
                rw [← hz] at hf7
                obtain ⟨nf3, hnf⟩ : ∃ nf, upd nf2 x y (nf2 x y + -1) = nf := ⟨_, rfl⟩
                rw [hnf] at hf7 HU
                have HMn3 := hide hf7
                have HEn3 := hide he7
                have HSn3 := HU
                have HNF3 := hide hnf
                clear hf7 he7 hnf HU hz hwz f2 f3 f5 hnew
                obtain ⟨g1, a1, a2, a3, a4, a5, a6⟩ := HMn3.out.at_ py3 px3
                have HA1 := hide a1
                have hhw := HMn3.out.lt.2
                have k1 := ExtBy.cell (W := wz3) hhw a1
                have k2 := ExtBy.cell (W := wz3) a5 a2
                have bnd := HSn3.out y x
                have HU := hide (HSn3.out.upd1 y x (v := -1) (by decide))
                obtain ⟨z, hz⟩ : ∃ z, nf3 y x = z := ⟨_, rfl⟩
                rw [hz] at k2 bnd
                have hwz : IntKind.i64.wrap (z - 1) = z + -1 := by rw [IntKind.wrap_i64]; omega
                clear a1 a2 a3 a4 a6
                go_wp2_with fail
                
                refine wp_region_tailE 18 (by kernel_rfl) (by kernel_rfl) ?_; simp only [List.take_succ_cons, List.take_zero, List.drop_succ_cons, List.drop_zero]; (repeat (refine WQ.step (fun K hK => ?_); have HK := hide hK; clear hK; go_simp; refine HK.out _ ?_; clear HK K)); refine WQ.done ?_; intro w4a hw'; obtain ⟨⟨_, hw4a⟩, hw''⟩ := hw'; subst hw''
                have HM2 := hide (HMn3.out.ext hw4a)
                obtain ⟨g9, f1, f2, f3, f4, f5, f6⟩ := HM2.out.at_ py3 px3
                have e9 := mat_gap hw4a hhw HA1.out f1
                subst e9
                have hf7 := f6 (z + -1)
                have he7 := (HEn3.out.trans hw4a).set (p := ⟨g1, x, none⟩) f4 (.int .i64 (z + -1))
                clear k1 k2 HA1 hhw a5 bnd HM2 f1 f6 f4
                go_wp2_with fail
                obtain ⟨wz4, hnew⟩ : ∃ w8, w8 = w4a.setCell ⟨g1, x, none⟩ (.int .i64 (z + -1)) := ⟨_, rfl⟩
                rw [← hnew] at hf7 he7 ⊢
                rw [← hz] at hf7
                obtain ⟨nf4, hnf⟩ : ∃ nf, upd nf3 y x (nf3 y x + -1) = nf := ⟨_, rfl⟩
                rw [hnf] at hf7 HU
                have HMn4 := hide hf7
                have HEn4 := hide he7
                have HSn4 := HU
                have HNF4 := hide hnf
                clear hf7 he7 hnf HU hz hwz f2 f3 f5 hnew
                have HFIN := hide (show nf4 = tabD s (t + 1) from by rw [← HMF.out, put1_yes hpa hpa, ← HIx.out, HNF1.out, put1_yes hpb2 hpb2, ← HIy.out, HNF2.out, put1_yes hpa hpb2, ← HIx.out, ← HIy.out, HNF3.out, put1_yes hpb2 hpa, ← HIx.out, ← HIy.out, HNF4.out])
                go_wp2_with fail
                go_roundw
                case rel => exact ⟨t + 1, by omega, by go_num, hide (fun _ => by rw [← HFIN.out]; exact HMn4.out), by first | exact HEn4 | exact hide HEn4.out⟩
                case measure => simp [intOf]; omega
              · have hbz : ¬ (0 : Int) < (b : Int) := by omega
                obtain ⟨g1, a1, a2, a3, a4, a5, a6⟩ := HM1.out.at_ px3 px3
                have HA1 := hide a1
                have hhw := HM1.out.lt.2
                have k1 := ExtBy.cell (W := w0) hhw a1
                have k2 := ExtBy.cell (W := w0) a5 a2
                have bnd := HSB.out x x
                have HU := hide (HSB.out.upd1 x x (v := 1) (by decide))
                obtain ⟨z, hz⟩ : ∃ z, f0 x x = z := ⟨_, rfl⟩
                rw [hz] at k2 bnd
                have hwz : IntKind.i64.wrap (z + 1) = z + 1 := by rw [IntKind.wrap_i64]; omega
                clear a1 a2 a3 a4 a6
                go_wp2_with fail
                
                refine wp_region_tailE 18 (by kernel_rfl) (by kernel_rfl) ?_; simp only [List.take_succ_cons, List.take_zero, List.drop_succ_cons, List.drop_zero]; (repeat (refine WQ.step (fun K hK => ?_); have HK := hide hK; clear hK; go_simp; refine HK.out _ ?_; clear HK K)); refine WQ.done ?_; intro w5a hw'; obtain ⟨⟨_, hw5a⟩, hw''⟩ := hw'; subst hw''
                have HM2 := hide (HM1.out.ext hw5a)
                obtain ⟨g9, f1, f2, f3, f4, f5, f6⟩ := HM2.out.at_ px3 px3
                have e9 := mat_gap hw5a hhw HA1.out f1
                subst e9
                have hf7 := f6 (z + 1)
                have he7 := (HE.out.trans hw5a).set (p := ⟨g1, x, none⟩) f4 (.int .i64 (z + 1))
                clear k1 k2 HA1 hhw a5 bnd HM2 f1 f6 f4
                go_wp2_with fail
                obtain ⟨wz5, hnew⟩ : ∃ w8, w8 = w5a.setCell ⟨g1, x, none⟩ (.int .i64 (z + 1)) := ⟨_, rfl⟩
                rw [← hnew] at hf7 he7 ⊢
                rw [← hz] at hf7
                obtain ⟨nf5, hnf⟩ : ∃ nf, upd f0 x x (f0 x x + 1) = nf := ⟨_, rfl⟩
                rw [hnf] at hf7 HU
                have HMn5 := hide hf7
                have HEn5 := hide he7
                have HSn5 := HU
                have HNF5 := hide hnf
                clear hf7 he7 hnf HU hz hwz f2 f3 f5 hnew
                have HFIN := hide (show nf5 = tabD s (t + 1) from by rw [← HMF.out, put1_no (fun h => hpb2 h.1) (a := b) (b := b), put1_no (fun h => hpb2 h.2) (a := a) (b := b), put1_no (fun h => hpb2 h.1) (a := b) (b := a), put1_yes hpa hpa, ← HIx.out, HNF5.out])
                go_wp2_with fail
                go_roundw
                case rel => exact ⟨t + 1, by omega, by go_num, hide (fun _ => by rw [← HFIN.out]; exact HMn5.out), by first | exact HEn5 | exact hide HEn5.out⟩
                case measure => simp [intOf]; omega
            · have haz : ¬ (0 : Int) < (a : Int) := by omega
              have hpb2 : 0 < b := hor.resolve_left hpa
              obtain ⟨y, hy⟩ : ∃ z, z = b - 1 := ⟨_, rfl⟩
              have py1 : IntKind.i64.wrap ((b : Int) - 1) = (y : Int) := by rw [IntKind.wrap_i64]; omega
              have py2 : (y : Int) < (q : Int) := by omega
              have py3 : y < q := by omega
              have py4 : (0 : Int) < (b : Int) := by omega
              have HIy := hide hy
              clear hy
              obtain ⟨g1, a1, a2, a3, a4, a5, a6⟩ := HM1.out.at_ py3 py3
              have HA1 := hide a1
              have hhw := HM1.out.lt.2
              have k1 := ExtBy.cell (W := w0) hhw a1
              have k2 := ExtBy.cell (W := w0) a5 a2
              have bnd := HSB.out y y
              have HU := hide (HSB.out.upd1 y y (v := 1) (by decide))
              obtain ⟨z, hz⟩ : ∃ z, f0 y y = z := ⟨_, rfl⟩
              rw [hz] at k2 bnd
              have hwz : IntKind.i64.wrap (z + 1) = z + 1 := by rw [IntKind.wrap_i64]; omega
              clear a1 a2 a3 a4 a6
              go_wp2_with fail
              
              refine wp_region_tailE 18 (by kernel_rfl) (by kernel_rfl) ?_; simp only [List.take_succ_cons, List.take_zero, List.drop_succ_cons, List.drop_zero]; (repeat (refine WQ.step (fun K hK => ?_); have HK := hide hK; clear hK; go_simp; refine HK.out _ ?_; clear HK K)); refine WQ.done ?_; intro w6a hw'; obtain ⟨⟨_, hw6a⟩, hw''⟩ := hw'; subst hw''
              have HM2 := hide (HM1.out.ext hw6a)
              obtain ⟨g9, f1, f2, f3, f4, f5, f6⟩ := HM2.out.at_ py3 py3
              have e9 := mat_gap hw6a hhw HA1.out f1
              subst e9
              have hf7 := f6 (z + 1)
              have he7 := (HE.out.trans hw6a).set (p := ⟨g1, y, none⟩) f4 (.int .i64 (z + 1))
              clear k1 k2 HA1 hhw a5 bnd HM2 f1 f6 f4
              go_wp2_with fail
              obtain ⟨wz6, hnew⟩ : ∃ w8, w8 = w6a.setCell ⟨g1, y, none⟩ (.int .i64 (z + 1)) := ⟨_, rfl⟩
              rw [← hnew] at hf7 he7 ⊢
              rw [← hz] at hf7
              obtain ⟨nf6, hnf⟩ : ∃ nf, upd f0 y y (f0 y y + 1) = nf := ⟨_, rfl⟩
              rw [hnf] at hf7 HU
              have HMn6 := hide hf7
              have HEn6 := hide he7
              have HSn6 := HU
              have HNF6 := hide hnf
              clear hf7 he7 hnf HU hz hwz f2 f3 f5 hnew
              have HFIN := hide (show nf6 = tabD s (t + 1) from by rw [← HMF.out, put1_no (fun h => hpa h.2) (a := b) (b := a), put1_no (fun h => hpa h.1) (a := a) (b := b), put1_no (fun h => hpa h.1) (a := a) (b := a), put1_yes hpb2 hpb2, ← HIy.out, HNF6.out])
              go_wp2_with fail
              go_roundw
              case rel => exact ⟨t + 1, by omega, by go_num, hide (fun _ => by rw [← HFIN.out]; exact HMn6.out), by first | exact HEn6 | exact hide HEn6.out⟩
              case measure => simp [intOf]; omega
        · obtain rfl : t = m := by omega
          go_wp2_with fail
          go_ret
          exact ⟨A2, c2, rfl, hqc, fun h => ⟨hd, HA2.out h, HM.out h⟩, HE.out⟩
theorem l16Det_zero (c : Nat) (A : Option Addr) (w : World) :
    Calls Try.prog 105 #[.slice A 0 c] w fun e w' => e = .returned (.int .i64 1) ∧ Ext w w' := by
  
  go_enter Try.func105, Try.ntmps105
  go_wp2_with fail
  go_loopw [3, 4] (fun ls i wr => i = .int .i64 0 ∧ ls = .int .i64 1 ∧ Hid (wr = w)) (fun _ _ _ => 0)
  case atStart => exact ⟨rfl, rfl, hide rfl⟩
  case round =>
    obtain ⟨rfl, rfl, HW⟩ := hrel
    obtain rfl := HW.out
    go_wp2_with fail
    go_ret
    exact ⟨rfl, Ext.refl _⟩
end Go.Proofs.Ytkgbilbicdiadaa
