/- Walk of the reference's least number of batches for rooms. No condition but that there are at most ten, each from 1 to 100. -/
import Derived.Test.YtgddpeaoacmfnaaKilnP
import Derived.Test.YtgddpeaoacmfnaaBits
import Derived.Test.YtgddpeaoacmfnaaMat
import Derived.Test.YtgddpeaoacmfnaaOwn
import Derived.Test.YtgddpeaoacmfnaaInts
import Derived.IntWalk
set_option linter.unusedSimpArgs false
set_option linter.unusedVariables false
namespace Go.Proofs.Ytgddpeaoacmfnaa
open Go.RowKit

theorem made_zeros (n : Nat) : (madeCells (Value.int .i64 0).cells (n * 1)).toList = List.replicate n (Value.int .i64 0) := by
  rw [Nat.mul_one]
  exact toList_madeCells_one _ _
/-- The tables are right for the sets below s. -/
def TabB (R : List Int) (s : Nat) (f g : Nat → Int) : Prop := ∀ t, t < s → ∃ b : Nat, f t = b ∧ BestPk (elems R t) b (g t)
theorem TabB.upd {R : List Int} {s : Nat} {f g : Nat → Int} (h : TabB R s f g) (v v' : Int) : TabB R s (fun k => if k = s then v else f k) (fun k => if k = s then v' else g k) := fun t ht => by
  obtain ⟨b, h1, h2⟩ := h t ht
  exact ⟨b, (if_neg (by omega)).trans h1, by show BestPk _ _ (if t = s then v' else g t); rw [if_neg (by omega)]; exact h2⟩
theorem TabB.updF {R : List Int} {s : Nat} {f g : Nat → Int} (h : TabB R s f g) (v : Int) : TabB R s (fun k => if k = s then v else f k) g := fun t ht => by
  obtain ⟨b, h1, h2⟩ := h t ht
  exact ⟨b, (if_neg (by omega)).trans h1, h2⟩
set_option maxRecDepth 100000 in
set_option maxHeartbeats 2000000 in
theorem l22Batches_any (R : List Int) (A : Option Addr) (c : Nat) (w : World) (hl : R.length ≤ 10) (hR : ∀ y ∈ R, 1 ≤ y ∧ y ≤ 100) (hr : RI w A R) :
    Calls Try.prog 39 #[.slice A R.length c] w fun e w' => ∃ b : Nat, e = .returned (.int .i64 b) ∧ MinPk R b ∧ Ext w w' := by
  obtain ⟨j0, hj, hy0, hy1, hy2⟩ := info_parts int_info
  have HR := hide hr
  have HP := hide hR
  clear hr hR
  obtain ⟨N, hN⟩ : ∃ N, 2 ^ R.length = N := ⟨_, rfl⟩
  have hN1 : 1 ≤ N := by rw [← hN]; exact Nat.two_pow_pos _
  have hN2 : N ≤ 1024 := by rw [← hN]; exact Nat.pow_le_pow_right (by decide) hl
  have hsh : wrap64 (2 ^ R.length) = (N : Int) := by
    have e : ((2 : Int) ^ R.length) = ((N : Nat) : Int) := by rw [← hN]; push_cast; rfl
    rw [e]
    exact IntWalk.wrap64_in _ (by omega)
  have HN := hide hN
  clear hN
  go_enter Try.func39, Try.ntmps39
  go_wp2_with (first | (have HQ := HO1; at_make; refine wpList_make_full _ rfl _ _ 29 rfl w.heap.size 3 j0 (.int .i64 0) 1 Try.underlying29 hj hy0 hy1 .i64 .i64 (wrap64 (2 ^ R.length)) (wrap64 (2 ^ R.length)) N rfl rfl hsh hsh (by rw [hy2]; omega) (by unfold maxLen; omega) (Nat.le_of_lt hz1) ?_; intro w2 hown2 hgrow2; rw [made_zeros, rowOf_zero] at hown2; have HO2 := hide (Blk.of_full hown2); have HE2 := hide (grown_ext hgrow2); clear hown2 hgrow2; have hd2 : w2.cell? ⟨w1.heap.size, 0, none⟩ = some (.int .i64 0) := (HO2.out.cell 0).trans (rowOf_get _ (by omega)); have hf2 := HO2.out.free 0) | (at_make; refine wpList_make_full _ rfl _ _ 29 rfl w.heap.size 3 j0 (.int .i64 0) 1 Try.underlying29 hj hy0 hy1 .i64 .i64 (wrap64 (2 ^ R.length)) (wrap64 (2 ^ R.length)) N rfl rfl hsh hsh (by rw [hy2]; omega) (by unfold maxLen; omega) (Nat.le_refl _) ?_; intro w1 hown1 hgrow1; rw [made_zeros, rowOf_zero] at hown1; have HO1 := hide (Blk.of_full hown1); have HE1 := hide (grown_ext hgrow1); have hz1 := HO1.out.lt; clear hown1 hgrow1))
  have hb3 := HO2.out.set 0 (.int .i64 100)
  rw [rowOf_set _ _ (show 0 < N by omega)] at hb3
  have ha3 := (HO1.out.ext HE2.out).other (show w.heap.size ≠ w1.heap.size by omega) (i := 0) (.int .i64 100)
  have he3 := (HE1.out.trans HE2.out).set (p := ⟨w1.heap.size, 0, none⟩) (show w.heap.size ≤ w1.heap.size by omega) (.int .i64 100)
  obtain ⟨w3, hw3⟩ : ∃ w3, w3 = w2.setCell ⟨w1.heap.size, 0, none⟩ (.int .i64 100) := ⟨_, rfl⟩
  rw [← hw3] at hb3 ha3 he3 ⊢
  obtain ⟨Bu, hBu⟩ : ∃ Bu, Bu = w1.heap.size := ⟨_, rfl⟩
  rw [← hBu] at hb3 ⊢
  rw [← hBu] at hz1
  have HA3 := hide ha3
  have HB3 := hide hb3
  have HE3 := hide he3
  have HZ := hide hz1
  have HSH := hide hsh
  clear HQ HO1 HO2 HE1 HE2 hd2 hf2 hb3 ha3 he3 hw3 hBu hz1 hsh
  have T0 : TabB R 1 (fun _ => 0) (fun k => if k = 0 then 100 else 0) := fun t ht => by
    obtain rfl : t = 0 := by omega
    exact ⟨0, rfl, .inl ⟨elems_zero R, rfl, rfl⟩⟩
  have HT0 := hide T0
  clear T0
  go_loopw [6] (fun i wr => ∃ s : Nat, 1 ≤ s ∧ s ≤ N ∧ i = .int .i64 s ∧ (∃ f g, Blk wr w.heap.size 3 (rowOf N f) ∧ Blk wr Bu 3 (rowOf N g) ∧ TabB R s f g ∧ ∀ t, s ≤ t → g t = 0) ∧ Ext w wr) (fun i _ => N - (intOf i).toNat)
  case atStart => exact ⟨1, Nat.le_refl _, by omega, rfl, ⟨_, _, HA3.out, HB3.out, HT0.out, fun t ht => if_neg (by omega)⟩, HE3.out⟩
  case round =>
    obtain ⟨s, hs0, hs, rfl, ⟨f, g, hf, hg, hT, hgz⟩, hE⟩ := hrel
    have HF := hide hf
    have HG := hide hg
    have HT := hide hT
    have HGZ := hide hgz
    have HE := hide hE
    have hz := HZ.out
    clear hf hg hT hgz hE HT0 HA3 HB3 HE3
    by_cases hlt : s < N
    · have hd0 : wr.cell? ⟨w.heap.size, s, none⟩ = some (.int .i64 (f s)) := (HF.out.cell s).trans (rowOf_get _ hlt)
      have hf0 := HF.out.free s
      clear hz
      have hsh := HSH.out
      go_wp2_with fail
      clear hsh
      have h1 := HF.out.set s (.int .i64 ((R.length : Int) + 1))
      rw [rowOf_set _ _ hlt] at h1
      have h2 := HG.out.other (show Bu ≠ w.heap.size by have := HZ.out; omega) (i := s) (.int .i64 ((R.length : Int) + 1))
      have h3 := HE.out.set (p := ⟨w.heap.size, s, none⟩) (Nat.le_refl _) (.int .i64 ((R.length : Int) + 1))
      obtain ⟨w4, hw4⟩ : ∃ w4, w4 = wr.setCell ⟨w.heap.size, s, none⟩ (.int .i64 ((R.length : Int) + 1)) := ⟨_, rfl⟩
      rw [← hw4] at h1 h2 h3 ⊢
      have H1 := hide h1
      have H2 := hide h2
      have H3 := hide h3
      clear h1 h2 h3 hw4 hd0 hf0
      rw [HSH.out]
      go_loopw [7] (fun i wi => ∃ k : Nat, k ≤ R.length ∧ i = .int .i64 k ∧ (∃ (f' g' : Nat → Int) (b : Nat), Blk wi w.heap.size 3 (rowOf N f') ∧ Blk wi Bu 3 (rowOf N g') ∧ TabB R s f' g' ∧ (∀ t, s < t → g' t = 0) ∧ f' s = b ∧ RunPk R s k b (g' s)) ∧ Ext w wi) (fun i _ => R.length - (intOf i).toNat)
      case atStart => exact ⟨0, Nat.zero_le _, rfl, ⟨_, g, R.length + 1, H1.out, H2.out, HT.out.updF _, fun t ht => HGZ.out t (by omega), by simp, by rw [HGZ.out s (Nat.le_refl _)]; exact RunPk.start R s⟩, H3.out⟩
      case round =>
        obtain ⟨k, hk, rfl, ⟨f', g', b, hf, hg, hT, hgz, hfs, hrun⟩, hE⟩ := hrel
        have HF := hide hf
        have HG := hide hg
        have HT := hide hT
        have HGZ := hide hgz
        have HE := hide hE
        have HFS := hide hfs
        have HRUN := hide hrun
        clear hf hg hT hgz hfs hrun H1 H2 H3
        by_cases hkl : k < R.length
        · obtain ⟨b0, off0, rfl, hb0, e0⟩ := RI.at_ (HR.out.ext hE) hkl
          clear hE
          by_cases hbit : s.testBit k = true
          · have HBV := hide (show bits .and .i64 ((s : Int) / 2 ^ k) 1 = 1 by rw [bit_at s k (by omega), if_pos hbit])
            obtain ⟨P, t, hP, hP1, htP, htx⟩ := bit_less hbit
            have q0 : wrap64 (2 ^ k) = (P : Int) := by
              rw [pow_cast hP]
              clear hP htx
              exact IntWalk.wrap64_in _ (by omega)
            have HQ0 := hide q0
            clear q0
            have HTX := hide htx
            clear hP htx
            have HQ1 := hide (show wrap64 ((s : Int) - (P : Int)) = (t : Int) by rw [IntWalk.wrap64_in _ (by omega)]; omega)
            have hts : t < s := by omega
            obtain ⟨bt, hft, hbest⟩ := HT.out t hts
            have bd := hbest.bound (elems_all HP.out t)
            have bl := elems_length R t
            have bx := HP.out _ (List.getElem_mem hkl)
            obtain ⟨ut, hut⟩ : ∃ u, g' t = u := ⟨_, rfl⟩
            obtain ⟨us, hus⟩ : ∃ u, g' s = u := ⟨_, rfl⟩
            rw [hut] at hbest bd
            have HS := hide (RunPk.step (HRUN.out) HP.out hbit (List.getElem?_eq_getElem hkl) (by rw [HTX.out]; exact hbest))
            have HGS := hide hus
            have hs2 := HS.out
            rw [hus] at hs2
            have HS := hide hs2
            have htN : t < N := by omega
            have d1 : wr.cell? ⟨w.heap.size, t, none⟩ = some (.int .i64 bt) := (HF.out.cell t).trans (by rw [rowOf_get _ htN, hft])
            have d2 : wr.cell? ⟨Bu, t, none⟩ = some (.int .i64 ut) := (HG.out.cell t).trans (by rw [rowOf_get _ htN, hut])
            have d3 : wr.cell? ⟨w.heap.size, s, none⟩ = some (.int .i64 b) := (HF.out.cell s).trans (by rw [rowOf_get _ hlt, HFS.out])
            have d4 : wr.cell? ⟨Bu, s, none⟩ = some (.int .i64 us) := (HG.out.cell s).trans (by rw [rowOf_get _ hlt, hus])
            have f3 := HF.out.free s
            have f4 := HG.out.free s
            have HQ2 := hide (show wrap64 (ut + R[k]) = ut + R[k] from IntWalk.wrap64_in _ (by omega))
            have bd1 := bd.1
            have bd2 := bd.2.1
            have bd3 := bd.2.2
            have hzz : Bu ≠ w.heap.size := by have := HZ.out; omega
            have hzz' : w.heap.size ≠ Bu := fun e => hzz e.symm
            clear hs2 hbest hft hut hus htP bd HTX
            by_cases h100 : (100 : Int) < ut + R[k]
            · skip
              by_cases h1 : (bt : Int) + 1 < (b : Int)
              · skip
                have HS2 := HS.out
                rw [show candB R[k] bt ut = bt + 1 from if_pos (by omega), show candU R[k] ut = R[k] from if_pos (by omega), if_pos (by omega), if_pos (by omega)] at HS2
                have HS := hide HS2
                clear HS2
                have h1 := (HF.out.set s (.int .i64 ((bt : Int) + 1))).other (show w.heap.size ≠ Bu by have := HZ.out; omega) (i := s) (.int .i64 R[k])
                have h2 := (HG.out.other (show Bu ≠ w.heap.size by have := HZ.out; omega) (i := s) (.int .i64 ((bt : Int) + 1))).set s (.int .i64 R[k])
                have h3 := (HE.out.set (p := ⟨w.heap.size, s, none⟩) (Nat.le_refl _) (.int .i64 ((bt : Int) + 1))).set (p := ⟨Bu, s, none⟩) (show w.heap.size ≤ Bu by have := HZ.out; omega) (.int .i64 R[k])
                rw [rowOf_set _ _ hlt] at h1 h2
                have H1 := hide h1
                have H2 := hide h2
                have H3 := hide h3
                clear h1 h2 h3
                have hbv := HBV.out
                have hsh := HSH.out
                have q0 := HQ0.out
                have q1 := HQ1.out
                have q2 := HQ2.out
                go_wp2_with fail
                go_quiet (fail)
                go_wp2_with fail
                clear hbv hsh q0 q1 q2
                go_roundw
                case rel => exact ⟨k + 1, by omega, by go_num, ⟨_, _, _, H1.out, H2.out, HT.out.upd _ _, fun t ht => (if_neg (by omega)).trans (HGZ.out t ht), if_pos rfl, by rw [if_pos rfl]; exact HS.out⟩, by have hE := HE.out; have hz := HZ.out; repeat (first | exact kE | exact Ext.refl _ | apply Ext.alloc | apply Ext.drewN | apply Ext.drew | apply Ext.set0 | apply Ext.set1 | apply Ext.set2 | apply Ext.set3 | (refine Ext.setk ?_ (by omega) _) | (apply Ext.snoc; assumption))⟩
                case measure => simp [intOf]; omega
              · by_cases h2 : (bt : Int) + 1 = (b : Int)
                · obtain rfl : bt + 1 = b := by omega
                  clear h1 h2
                  by_cases h3 : R[k] < us
                  · skip
                    have HS2 := HS.out
                    rw [show candB R[k] bt ut = bt + 1 from if_pos (by omega), show candU R[k] ut = R[k] from if_pos (by omega), if_pos (by omega), if_pos (by omega)] at HS2
                    have HS := hide HS2
                    clear HS2
                    have h1 := (HF.out.set s (.int .i64 ((bt : Int) + 1))).other (show w.heap.size ≠ Bu by have := HZ.out; omega) (i := s) (.int .i64 R[k])
                    have h2 := (HG.out.other (show Bu ≠ w.heap.size by have := HZ.out; omega) (i := s) (.int .i64 ((bt : Int) + 1))).set s (.int .i64 R[k])
                    have h3 := (HE.out.set (p := ⟨w.heap.size, s, none⟩) (Nat.le_refl _) (.int .i64 ((bt : Int) + 1))).set (p := ⟨Bu, s, none⟩) (show w.heap.size ≤ Bu by have := HZ.out; omega) (.int .i64 R[k])
                    rw [rowOf_set _ _ hlt] at h1 h2
                    have H1 := hide h1
                    have H2 := hide h2
                    have H3 := hide h3
                    clear h1 h2 h3
                    have hbv := HBV.out
                    have hsh := HSH.out
                    have q0 := HQ0.out
                    have q1 := HQ1.out
                    have q2 := HQ2.out
                    go_wp2_with fail
                    go_quiet (fail)
                    go_wp2_with fail
                    clear hbv hsh q0 q1 q2
                    go_roundw
                    case rel => exact ⟨k + 1, by omega, by go_num, ⟨_, _, _, H1.out, H2.out, HT.out.upd _ _, fun t ht => (if_neg (by omega)).trans (HGZ.out t ht), if_pos rfl, by rw [if_pos rfl]; exact HS.out⟩, by have hE := HE.out; have hz := HZ.out; repeat (first | exact kE | exact Ext.refl _ | apply Ext.alloc | apply Ext.drewN | apply Ext.drew | apply Ext.set0 | apply Ext.set1 | apply Ext.set2 | apply Ext.set3 | (refine Ext.setk ?_ (by omega) _) | (apply Ext.snoc; assumption))⟩
                    case measure => simp [intOf]; omega
                  · skip
                    have HS2 := HS.out
                    rw [show candB R[k] bt ut = bt + 1 from if_pos (by omega), show candU R[k] ut = R[k] from if_pos (by omega), if_neg (by omega), if_neg (by omega)] at HS2
                    have HS := hide HS2
                    clear HS2
                    have hbv := HBV.out
                    have hsh := HSH.out
                    have q0 := HQ0.out
                    have q1 := HQ1.out
                    have q2 := HQ2.out
                    go_wp2_with fail
                    go_quiet (fail)
                    go_wp2_with fail
                    clear hbv hsh q0 q1 q2
                    go_roundw
                    case rel => exact ⟨k + 1, by omega, by go_num, ⟨_, _, _, HF.out, HG.out, HT.out, HGZ.out, HFS.out, by rw [HGS.out]; exact HS.out⟩, by have hE := HE.out; repeat (first | exact kE | exact Ext.refl _ | apply Ext.alloc | apply Ext.drewN | apply Ext.drew | apply Ext.set0 | apply Ext.set1 | apply Ext.set2 | apply Ext.set3 | (refine Ext.setk ?_ (by omega) _) | (apply Ext.snoc; assumption))⟩
                    case measure => simp [intOf]; omega
                · skip
                  have HS2 := HS.out
                  rw [show candB R[k] bt ut = bt + 1 from if_pos (by omega), show candU R[k] ut = R[k] from if_pos (by omega), if_neg (by omega), if_neg (by omega)] at HS2
                  have HS := hide HS2
                  clear HS2
                  have hbv := HBV.out
                  have hsh := HSH.out
                  have q0 := HQ0.out
                  have q1 := HQ1.out
                  have q2 := HQ2.out
                  go_wp2_with fail
                  go_quiet (fail)
                  go_wp2_with fail
                  clear hbv hsh q0 q1 q2
                  go_roundw
                  case rel => exact ⟨k + 1, by omega, by go_num, ⟨_, _, _, HF.out, HG.out, HT.out, HGZ.out, HFS.out, by rw [HGS.out]; exact HS.out⟩, by have hE := HE.out; repeat (first | exact kE | exact Ext.refl _ | apply Ext.alloc | apply Ext.drewN | apply Ext.drew | apply Ext.set0 | apply Ext.set1 | apply Ext.set2 | apply Ext.set3 | (refine Ext.setk ?_ (by omega) _) | (apply Ext.snoc; assumption))⟩
                  case measure => simp [intOf]; omega
            · skip
              by_cases h1 : (bt : Int) < (b : Int)
              · skip
                have HS2 := HS.out
                rw [show candB R[k] bt ut = bt from if_neg (by omega), show candU R[k] ut = ut + R[k] from if_neg (by omega), if_pos (by omega), if_pos (by omega)] at HS2
                have HS := hide HS2
                clear HS2
                have h1 := (HF.out.set s (.int .i64 bt)).other (show w.heap.size ≠ Bu by have := HZ.out; omega) (i := s) (.int .i64 (ut + R[k]))
                have h2 := (HG.out.other (show Bu ≠ w.heap.size by have := HZ.out; omega) (i := s) (.int .i64 bt)).set s (.int .i64 (ut + R[k]))
                have h3 := (HE.out.set (p := ⟨w.heap.size, s, none⟩) (Nat.le_refl _) (.int .i64 bt)).set (p := ⟨Bu, s, none⟩) (show w.heap.size ≤ Bu by have := HZ.out; omega) (.int .i64 (ut + R[k]))
                rw [rowOf_set _ _ hlt] at h1 h2
                have H1 := hide h1
                have H2 := hide h2
                have H3 := hide h3
                clear h1 h2 h3
                have hbv := HBV.out
                have hsh := HSH.out
                have q0 := HQ0.out
                have q1 := HQ1.out
                have q2 := HQ2.out
                go_wp2_with fail
                go_quiet (fail)
                go_wp2_with fail
                clear hbv hsh q0 q1 q2
                go_roundw
                case rel => exact ⟨k + 1, by omega, by go_num, ⟨_, _, _, H1.out, H2.out, HT.out.upd _ _, fun t ht => (if_neg (by omega)).trans (HGZ.out t ht), if_pos rfl, by rw [if_pos rfl]; exact HS.out⟩, by have hE := HE.out; have hz := HZ.out; repeat (first | exact kE | exact Ext.refl _ | apply Ext.alloc | apply Ext.drewN | apply Ext.drew | apply Ext.set0 | apply Ext.set1 | apply Ext.set2 | apply Ext.set3 | (refine Ext.setk ?_ (by omega) _) | (apply Ext.snoc; assumption))⟩
                case measure => simp [intOf]; omega
              · by_cases h2 : (bt : Int) = (b : Int)
                · obtain rfl : bt = b := by omega
                  clear h1 h2
                  by_cases h3 : ut + R[k] < us
                  · skip
                    have HS2 := HS.out
                    rw [show candB R[k] bt ut = bt from if_neg (by omega), show candU R[k] ut = ut + R[k] from if_neg (by omega), if_pos (by omega), if_pos (by omega)] at HS2
                    have HS := hide HS2
                    clear HS2
                    have h1 := (HF.out.set s (.int .i64 bt)).other (show w.heap.size ≠ Bu by have := HZ.out; omega) (i := s) (.int .i64 (ut + R[k]))
                    have h2 := (HG.out.other (show Bu ≠ w.heap.size by have := HZ.out; omega) (i := s) (.int .i64 bt)).set s (.int .i64 (ut + R[k]))
                    have h3 := (HE.out.set (p := ⟨w.heap.size, s, none⟩) (Nat.le_refl _) (.int .i64 bt)).set (p := ⟨Bu, s, none⟩) (show w.heap.size ≤ Bu by have := HZ.out; omega) (.int .i64 (ut + R[k]))
                    rw [rowOf_set _ _ hlt] at h1 h2
                    have H1 := hide h1
                    have H2 := hide h2
                    have H3 := hide h3
                    clear h1 h2 h3
                    have hbv := HBV.out
                    have hsh := HSH.out
                    have q0 := HQ0.out
                    have q1 := HQ1.out
                    have q2 := HQ2.out
                    go_wp2_with fail
                    go_quiet (fail)
                    go_wp2_with fail
                    clear hbv hsh q0 q1 q2
                    go_roundw
                    case rel => exact ⟨k + 1, by omega, by go_num, ⟨_, _, _, H1.out, H2.out, HT.out.upd _ _, fun t ht => (if_neg (by omega)).trans (HGZ.out t ht), if_pos rfl, by rw [if_pos rfl]; exact HS.out⟩, by have hE := HE.out; have hz := HZ.out; repeat (first | exact kE | exact Ext.refl _ | apply Ext.alloc | apply Ext.drewN | apply Ext.drew | apply Ext.set0 | apply Ext.set1 | apply Ext.set2 | apply Ext.set3 | (refine Ext.setk ?_ (by omega) _) | (apply Ext.snoc; assumption))⟩
                    case measure => simp [intOf]; omega
                  · skip
                    have HS2 := HS.out
                    rw [show candB R[k] bt ut = bt from if_neg (by omega), show candU R[k] ut = ut + R[k] from if_neg (by omega), if_neg (by omega), if_neg (by omega)] at HS2
                    have HS := hide HS2
                    clear HS2
                    have hbv := HBV.out
                    have hsh := HSH.out
                    have q0 := HQ0.out
                    have q1 := HQ1.out
                    have q2 := HQ2.out
                    go_wp2_with fail
                    go_quiet (fail)
                    go_wp2_with fail
                    clear hbv hsh q0 q1 q2
                    go_roundw
                    case rel => exact ⟨k + 1, by omega, by go_num, ⟨_, _, _, HF.out, HG.out, HT.out, HGZ.out, HFS.out, by rw [HGS.out]; exact HS.out⟩, by have hE := HE.out; repeat (first | exact kE | exact Ext.refl _ | apply Ext.alloc | apply Ext.drewN | apply Ext.drew | apply Ext.set0 | apply Ext.set1 | apply Ext.set2 | apply Ext.set3 | (refine Ext.setk ?_ (by omega) _) | (apply Ext.snoc; assumption))⟩
                    case measure => simp [intOf]; omega
                · skip
                  have HS2 := HS.out
                  rw [show candB R[k] bt ut = bt from if_neg (by omega), show candU R[k] ut = ut + R[k] from if_neg (by omega), if_neg (by omega), if_neg (by omega)] at HS2
                  have HS := hide HS2
                  clear HS2
                  have hbv := HBV.out
                  have hsh := HSH.out
                  have q0 := HQ0.out
                  have q1 := HQ1.out
                  have q2 := HQ2.out
                  go_wp2_with fail
                  go_quiet (fail)
                  go_wp2_with fail
                  clear hbv hsh q0 q1 q2
                  go_roundw
                  case rel => exact ⟨k + 1, by omega, by go_num, ⟨_, _, _, HF.out, HG.out, HT.out, HGZ.out, HFS.out, by rw [HGS.out]; exact HS.out⟩, by have hE := HE.out; repeat (first | exact kE | exact Ext.refl _ | apply Ext.alloc | apply Ext.drewN | apply Ext.drew | apply Ext.set0 | apply Ext.set1 | apply Ext.set2 | apply Ext.set3 | (refine Ext.setk ?_ (by omega) _) | (apply Ext.snoc; assumption))⟩
                  case measure => simp [intOf]; omega
          · have hbit' : s.testBit k = false := by simpa using hbit
            have HBV := hide (show bits .and .i64 ((s : Int) / 2 ^ k) 1 = 0 by rw [bit_at s k (by omega), hbit']; rfl)
            have HS := hide (HRUN.out.skip hbit')
            clear hbit hbit'
            have hbv := HBV.out
            have hsh := HSH.out
            go_wp2_with fail
            clear hbv hsh
            go_roundw
            case rel => exact ⟨k + 1, by omega, by go_num, ⟨_, _, _, HF.out, HG.out, HT.out, HGZ.out, HFS.out, HS.out⟩, HE.out⟩
            case measure => simp [intOf]; omega
        · obtain rfl : k = R.length := by omega
          have hD : BestPk (elems R s) b (g' s) := HRUN.out.done HP.out (elems_ne hs0 (by rw [HN.out]; exact hlt)) (fun i hi hb => by
            obtain ⟨P, t, hP, hP1, htP, htx⟩ := bit_less hb
            obtain ⟨b', _, h⟩ := HT.out (s ^^^ 2 ^ i) (by rw [htx]; clear hP htx; omega)
            exact ⟨b', _, h⟩)
          have HD := hide hD
          clear hD hE
          have hsh := HSH.out
          go_wp2_with fail
          clear hsh
          go_roundw
          case rel =>
            refine ⟨s + 1, by omega, by omega, by go_num, ⟨f', g', HF.out, HG.out, fun t ht => ?_, fun t ht => HGZ.out t (by omega)⟩, HE.out⟩
            by_cases e : t = s
            · subst e
              exact ⟨b, HFS.out, HD.out⟩
            · exact HT.out t (by omega)
          case measure => simp [intOf]; omega
    · obtain rfl : s = N := by omega
      obtain ⟨b, hb, hbest⟩ := HT.out (s - 1) (by omega)
      have d1 : wr.cell? ⟨w.heap.size, s - 1, none⟩ = some (.int .i64 b) := (HF.out.cell (s - 1)).trans (by rw [rowOf_get _ (by omega), hb])
      have e1 : elems R (s - 1) = R := by have := elems_full R; rwa [HN.out] at this
      rw [e1] at hbest
      have HBEST := hide hbest.min
      have HQ0 := hide (show wrap64 ((s : Int) - 1) = (s : Int) - 1 from IntWalk.wrap64_in _ (by omega))
      have q1 : (0 : Int) ≤ (s : Int) - 1 := by omega
      have q2 : (s : Int) - 1 < s := by omega
      have q3 : ((s : Int) - 1).toNat = s - 1 := by omega
      clear hbest hb e1
      have hsh := HSH.out
      have q0 := HQ0.out
      go_wp2_with fail
      clear hsh q0
      go_ret
      exact ⟨b, rfl, HBEST.out, HE.out⟩
end Go.Proofs.Ytgddpeaoacmfnaa
