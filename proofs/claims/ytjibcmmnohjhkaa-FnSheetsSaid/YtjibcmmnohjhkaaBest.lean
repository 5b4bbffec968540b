/- The walk of the program's table of best values. No condition but small numbers. -/
import Derived.Test.YtjibcmmnohjhkaaMat
import Derived.Test.YtjibcmmnohjhkaaBv
import Derived.Test.YtjibcmmnohjhkaaTrack
import Derived.Test.YtjibcmmnohjhkaaNodes
import Derived.Test.YtjibcmmnohjhkaaInts
import Derived.IntWalk
set_option linter.unusedSimpArgs false
set_option linter.unusedVariables false
namespace Go.Proofs.Ytjibcmmnohjhkaa
open Go.RowKit

theorem row_info : (Try.prog.info? 56).map (fun i => (i.zero, i.size, i.bytes)) = some (some (.slice none 0 0), 1, 24) := by kernel_rfl
theorem made_zeros (n : Nat) : (madeCells (Value.int .i64 0).cells (n * 1)).toList = List.replicate n (Value.int .i64 0) := by
  rw [Nat.mul_one]
  exact toList_madeCells_one _ _
theorem max_if (a b : Int) : (if a < b then b else a) = max a b := by rw [Int.max_def]; split <;> split <;> omega
set_option maxRecDepth 100000 in
set_option maxHeartbeats 4000000 in
theorem bestValue_any (W H : Nat) (l : List P2) (A : Option Addr) (c : Nat) (vs : List Int) (Av : Option Addr) (cv : Nat) (M : Int) (w : World) (hW : 1 ≤ W) (hW' : W ≤ 40) (hH : 1 ≤ H) (hH' : H ≤ 40)
    (hl : l.length ≤ 6) (hgood : goodPieces l vs M) (hM : 0 ≤ M) (hM' : M ≤ 1600) (hr : R2 w A l) (hrv : RI w Av vs) :
    Calls Try.prog 64 #[.agg #[.int .i64 W, .int .i64 H], .slice A l.length c, .slice Av vs.length cv] w fun e w' => e = .returned (.int .i64 (bv l vs W H)) ∧ Ext w w' := by
  obtain ⟨i0, hi, hz0, hz1, hz2⟩ := info_parts row_info
  obtain ⟨j0, hj, hy0, hy1, hy2⟩ := info_parts int_info
  have HR := hide hr
  have HV := hide hrv
  have HG := hide hgood
  clear hr hrv hgood
  
  go_enter Try.func64, Try.ntmps64
  go_wp2_with (at_make; refine wpList_make_full _ rfl _ _ 88 rfl (w.heap.size + 1) 56 i0 (.slice none 0 0) 1 Try.underlying88 hi hz0 hz1 .i64 .i64 (W + 1) (W + 1) (W + 1) rfl rfl (by omega) (by omega) (by rw [hz2]; omega) (by unfold maxLen; omega) (by simp) ?_; intro w1 hown hgrow)
  obtain ⟨w0, hw⟩ : ∃ w0, w0 = w.alloc (Obj.cells #[Value.int IntKind.i64 W, Value.int IntKind.i64 H] 25) := ⟨_, rfl⟩
  have hg1 : Ext w0 w1 := by rw [hw]; exact grown_ext hgrow
  have HT : Hid (Tr [(w.heap.size, [.int .i64 W, .int .i64 H])] w w0) := hide (by rw [hw]; exact ⟨by simp [Bx, CellsAt, go_sem, *], by repeat (first | exact kE | exact Ext.refl _ | apply Ext.alloc | apply Ext.drewN | apply Ext.drew | apply Ext.set0 | apply Ext.set1 | apply Ext.set2 | apply Ext.set3 | (refine Ext.setk ?_ (by omega) _) | (apply Ext.snoc; assumption))⟩)
  have hsz : w.heap.size + 1 ≤ w0.heap.size ∧ w0.heap.size ≤ w.heap.size + 1 := by rw [hw]; simp
  have HB := hide hsz
  have H0 := hide HT.out.2
  clear hgrow hw hsz
  simp only [World.size_alloc] at hown
  obtain ⟨hs, hb1, hb2, hb3, hb4⟩ := Blk.of_own hown
  have HM : Hid (Mat w1 (w.heap.size + 1) (w.heap.size + 1) (W + 1) 0 (H + 1) 56 3 (fun _ _ => 0)) := hide (Mat.start hs (Nat.le_refl _) hb1 (by omega))
  have HE1 := hide hg1
  clear hown hb1 hb2 hb3 hb4 hg1
  go_loopw [21] (fun i wr => ∃ a : Nat, a ≤ W + 1 ∧ i = .int .i64 a ∧ (∃ f, Mat wr (w.heap.size + 1) (w.heap.size + 1) (W + 1) a (H + 1) 56 3 f ∧ ∀ i j, i < a → j ≤ H → f i j = bv l vs i j) ∧ Ext w0 wr) (fun i _ => W + 1 - (intOf i).toNat)
  case atStart => exact ⟨0, Nat.zero_le _, rfl, ⟨_, HM.out, fun i j hi => absurd hi (Nat.not_lt_zero i)⟩, HE1.out⟩
  case round =>
    obtain ⟨a, ha, rfl, ⟨f, hmat, hf⟩, hE⟩ := hrel
    have HM := hide hmat
    have HF := hide hf
    have HE := hide hE
    have hsz : w.heap.size + 1 ≤ wr.heap.size := Nat.le_trans HB.out.1 hE.size
    clear hmat hf
    have HT := hide (HT.out.ext hE); clear hE; have kT := HT.out; simp only [Tr, Bx, CellsAt, Nat.reduceAdd, Nat.zero_add, and_true] at kT; obtain ⟨⟨kz0, kf0, kc0_0, kc0_1⟩, kE⟩ := kT
    by_cases hlt : a < W + 1
    · obtain ⟨⟨hv0, hh0⟩, hh1⟩ := HM.out.header hlt
      go_wp2_with (at_make; refine wpList_make_full _ rfl _ _ 56 rfl (w.heap.size + 1) 3 j0 (.int .i64 0) 1 Try.underlying56 hj hy0 hy1 .i64 .i64 (H + 1) (H + 1) (H + 1) rfl rfl (by omega) (by omega) (by rw [hy2]; omega) (by unfold maxLen; omega) (by omega) ?_; intro w2 hown hgrow; have hX2 := grown_ext hgrow; have HX2 := hide hX2; obtain ⟨⟨hv2, hh2⟩, hh3⟩ := (HM.out.ext hX2).header hlt; clear hX2)
      rw [made_zeros] at hown
      have hm3 := HM.out.row (f' := fun i j => if i = a then 0 else f i j) hlt hsz HX2.out (Blk.of_full hown) (fun i j hij => by show (if i = a then 0 else f i j) = _; rw [if_neg (by omega)]) (fun j => by simp)
      have he3 := (HE.out.trans HX2.out).set (p := ⟨w.heap.size + 1, a, none⟩) (HB.out.2) (.slice (some ⟨wr.heap.size, 0, none⟩) (H + 1) (H + 1))
      obtain ⟨w3, hw3⟩ : ∃ w3, w3 = w2.setCell ⟨w.heap.size + 1, a, none⟩ (.slice (some ⟨wr.heap.size, 0, none⟩) (H + 1) (H + 1)) := ⟨_, rfl⟩
      rw [← hw3] at hm3 he3 ⊢
      have HM3 := hide hm3
      have HE3 := hide he3
      clear hown hgrow hm3 he3 hw3 hh0 hh1 hh2 hh3 HX2 hsz
      clear kz0 kf0 kc0_0 kc0_1 kE
      go_loopw [36] (fun i wi => ∃ b : Nat, b ≤ H + 1 ∧ i = .int .i64 b ∧ (∃ f, Mat wi (w.heap.size + 1) (w.heap.size + 1) (W + 1) (a + 1) (H + 1) 56 3 f ∧ (∀ i j, i < a → j ≤ H → f i j = bv l vs i j) ∧ ∀ j, j < b → f a j = bv l vs a j) ∧ Ext w0 wi) (fun i _ => H + 1 - (intOf i).toNat)
      case atStart => exact ⟨0, Nat.zero_le _, rfl, ⟨_, HM3.out, fun i j hi hj => by show (if i = a then 0 else f i j) = _; rw [if_neg (by omega), HF.out i j hi hj], fun j hj => absurd hj (Nat.not_lt_zero j)⟩, HE3.out⟩
      case round =>
        obtain ⟨b, hb, rfl, ⟨f, hmat, hf, hf'⟩, hE⟩ := hrel
        have HM := hide hmat
        have HF1 := hide hf
        have HF2 := hide hf'
        have HE := hide hE
        have hsz : w.heap.size + 1 ≤ wr.heap.size := Nat.le_trans HB.out.1 hE.size
        clear hmat hf hf'
        obtain ⟨wb, rfl⟩ : ∃ wb : World, wb = wr := ⟨_, rfl⟩
        by_cases hltb : b < H + 1
        · go_wp2_with fail
          go_loopw [10, 41] (fun n i wi => ∃ k : Nat, k ≤ l.length ∧ i = .int .i64 k ∧ n = .int .i64 (piecesTo l vs a b k) ∧ Ext wb wi) (fun _ i _ => l.length - (intOf i).toNat)
          case atStart => exact ⟨0, Nat.zero_le _, rfl, rfl, Ext.refl _⟩
          case round =>
            obtain ⟨k, hk, rfl, rfl, hE⟩ := hrel
            by_cases hlk : k < l.length
            · have hlv : k < vs.length := by have := HG.out.1; omega
              obtain ⟨b1, off1, rfl, hb1, e0, e1⟩ := R2.at_ (HR.out.ext ((H0.out.trans HE.out).trans hE)) hlk
              obtain ⟨b2, off2, rfl, hb2, e2⟩ := RI.at_ (HV.out.ext ((H0.out.trans HE.out).trans hE)) hlv
              have HS := hide (piecesTo_step hlk hlv (a : Int) (b : Int))
              have HQ := hide hE
              by_cases f1 : l[k].1 ≤ (a : Int)
              · by_cases f2 : l[k].2 ≤ (b : Int)
                · go_wp2_with fail
                  go_roundw
                  case rel => exact ⟨k + 1, by omega, by go_num, by rw [HS.out, if_pos (show l[k].1 ≤ (a : Int) ∧ l[k].2 ≤ (b : Int) from ⟨f1, f2⟩), ← max_if], by have hE := HQ.out; repeat (first | exact kE | exact Ext.refl _ | apply Ext.alloc | apply Ext.drewN | apply Ext.drew | apply Ext.set0 | apply Ext.set1 | apply Ext.set2 | apply Ext.set3 | (refine Ext.setk ?_ (by omega) _) | (apply Ext.snoc; assumption))⟩
                  case measure => simp [intOf]; omega
                · go_wp2_with fail
                  go_roundw
                  case rel => exact ⟨k + 1, by omega, by go_num, by rw [HS.out, if_neg (fun h => f2 h.2)], by have hE := HQ.out; repeat (first | exact kE | exact Ext.refl _ | apply Ext.alloc | apply Ext.drewN | apply Ext.drew | apply Ext.set0 | apply Ext.set1 | apply Ext.set2 | apply Ext.set3 | (refine Ext.setk ?_ (by omega) _) | (apply Ext.snoc; assumption))⟩
                  case measure => simp [intOf]; omega
              · go_wp2_with fail
                go_roundw
                case rel => exact ⟨k + 1, by omega, by go_num, by rw [HS.out, if_neg (fun h => f1 h.1)], by have hE := HQ.out; repeat (first | exact kE | exact Ext.refl _ | apply Ext.alloc | apply Ext.drewN | apply Ext.drew | apply Ext.set0 | apply Ext.set1 | apply Ext.set2 | apply Ext.set3 | (refine Ext.setk ?_ (by omega) _) | (apply Ext.snoc; assumption))⟩
                case measure => simp [intOf]; omega
            · obtain rfl : k = l.length := by omega
              have HP := hide hE
              have HM5 := hide (HM.out.ext hE)
              have HE5 := hide (HE.out.trans hE)
              clear hE
              obtain ⟨wp, rfl⟩ : ∃ wp : World, wp = wr := ⟨_, rfl⟩
              go_wp2_with fail
              go_loopw [10, 13] (fun n i wi => ∃ k : Nat, k ≤ a / 2 ∧ i = .int .i64 (k + 1) ∧ n = .int .i64 (bvW l vs a b k) ∧ Ext wp wi) (fun _ i _ => a / 2 + 1 - (intOf i).toNat)
              case atStart => exact ⟨0, Nat.zero_le _, rfl, rfl, Ext.refl _⟩
              case round =>
                obtain ⟨k, hk, rfl, rfl, hE⟩ := hrel
                have HQ := hide hE
                by_cases hk2 : 2 * (k + 1) ≤ a
                · obtain ⟨g1, m1, m2, _, m4, m5, _⟩ := (HM5.out.ext hE).at_ (i := k + 1) (j := b) (by omega) hltb
                  obtain ⟨g2, n1, n2, _, n4, n5, _⟩ := (HM5.out.ext hE).at_ (i := a - (k + 1)) (j := b) (by omega) hltb
                  rw [HF1.out (k + 1) b (by omega) (by omega)] at m2
                  rw [HF1.out (a - (k + 1)) b (by omega) (by omega)] at n2
                  have B1 := bv_small HG.out hM hM' (a := k + 1) (b := b) (by omega) (by omega)
                  have B2 := bv_small HG.out hM hM' (a := a - (k + 1)) (b := b) (by omega) (by omega)
                  have HS := hide (bvW_succ l vs a b k)
                  have q1 : IntKind.i64.wrap ((a : Int) - ((k : Int) + 1)) = (a : Int) - ((k : Int) + 1) := IntWalk.i64_in _ (by omega)
                  have q2 : (0 : Int) ≤ (a : Int) - ((k : Int) + 1) := by omega
                  have q3 : (a : Int) - ((k : Int) + 1) < (W : Int) + 1 := by omega
                  have q4 : ((a : Int) - ((k : Int) + 1)).toNat = a - (k + 1) := by omega
                  have q5 : ((k : Int) + 1).toNat = k + 1 := by omega
                  have q6 : (k : Int) + 1 < (W : Int) + 1 := by omega
                  have q7 : (0 : Int) ≤ (k : Int) + 1 := by omega
                  go_wp2_with fail
                  go_quiet (fail)
                  clear q1
                  go_wp2
                  go_roundw
                  case rel => exact ⟨k + 1, by omega, by go_num, by rw [HS.out, ← max_if], by have hE := HQ.out; repeat (first | exact kE | exact Ext.refl _ | apply Ext.alloc | apply Ext.drewN | apply Ext.drew | apply Ext.set0 | apply Ext.set1 | apply Ext.set2 | apply Ext.set3 | (refine Ext.setk ?_ (by omega) _) | (apply Ext.snoc; assumption))⟩
                  case measure => simp [intOf]; omega
                · obtain rfl : k = a / 2 := by omega
                  have HM6 := hide (HM5.out.ext hE)
                  have HE6 := hide (HE5.out.trans hE)
                  clear hE HQ
                  obtain ⟨wq, rfl⟩ : ∃ wq : World, wq = wr := ⟨_, rfl⟩
                  go_wp2_with fail
                  go_loopw [10, 14] (fun n i wi => ∃ k : Nat, k ≤ b / 2 ∧ i = .int .i64 (k + 1) ∧ n = .int .i64 (bvH l vs a b k) ∧ Ext wq wi) (fun _ i _ => b / 2 + 1 - (intOf i).toNat)
                  case atStart => exact ⟨0, Nat.zero_le _, rfl, rfl, Ext.refl _⟩
                  case round =>
                    obtain ⟨k, hk, rfl, rfl, hE⟩ := hrel
                    have HQ := hide hE
                    by_cases hk2 : 2 * (k + 1) ≤ b
                    · obtain ⟨g1, m1, m2, _, m4, m5, _⟩ := (HM6.out.ext hE).at_ (i := a) (j := k + 1) (by omega) (by omega)
                      obtain ⟨g2, n1, n2, _, n4, n5, _⟩ := (HM6.out.ext hE).at_ (i := a) (j := b - (k + 1)) (by omega) (by omega)
                      rw [HF2.out (k + 1) (by omega)] at m2
                      rw [HF2.out (b - (k + 1)) (by omega)] at n2
                      have e12 : g2 = g1 := by
                        rw [m1] at n1
                        injection n1 with n1
                        injection n1 with n1 _ _
                        injection n1 with n1
                        injection n1 with n1 _ _
                        exact n1.symm
                      subst e12
                      clear n1
                      have B1 := bv_small HG.out hM hM' (a := a) (b := k + 1) (by omega) (by omega)
                      have B2 := bv_small HG.out hM hM' (a := a) (b := b - (k + 1)) (by omega) (by omega)
                      have HS := hide (bvH_succ l vs a b k)
                      have q1 : IntKind.i64.wrap ((b : Int) - ((k : Int) + 1)) = (b : Int) - ((k : Int) + 1) := IntWalk.i64_in _ (by omega)
                      have q2 : (0 : Int) ≤ (b : Int) - ((k : Int) + 1) := by omega
                      have q3 : (b : Int) - ((k : Int) + 1) < (H : Int) + 1 := by omega
                      have q4 : ((b : Int) - ((k : Int) + 1)).toNat = b - (k + 1) := by omega
                      have q5 : ((k : Int) + 1).toNat = k + 1 := by omega
                      have q6 : (k : Int) + 1 < (H : Int) + 1 := by omega
                      have q7 : (0 : Int) ≤ (k : Int) + 1 := by omega
                      go_wp2_with fail
                      go_quiet (fail)
                      clear q1
                      go_wp2
                      go_roundw
                      case rel => exact ⟨k + 1, by omega, by go_num, by rw [HS.out, ← max_if], by have hE := HQ.out; repeat (first | exact kE | exact Ext.refl _ | apply Ext.alloc | apply Ext.drewN | apply Ext.drew | apply Ext.set0 | apply Ext.set1 | apply Ext.set2 | apply Ext.set3 | (refine Ext.setk ?_ (by omega) _) | (apply Ext.snoc; assumption))⟩
                      case measure => simp [intOf]; omega
                    · obtain rfl : k = b / 2 := by omega
                      obtain ⟨g1, m1, m2, m3, m4, m5, m6⟩ := (HM6.out.ext hE).at_ (i := a) (j := b) (by omega) (by omega)
                      have HM7 := hide (m6 (bvH l vs a b (b / 2)))
                      have HE7 := hide ((HE6.out.trans hE).set (p := ⟨g1, b, none⟩) (Nat.le_trans HB.out.2 m4) (.int .i64 (bvH l vs a b (b / 2))))
                      clear m6 hE HQ
                      go_wp2_with fail
                      go_roundw
                      case rel =>
                        refine ⟨b + 1, by omega, by go_num, ⟨_, HM7.out, fun i j hi hj => ?_, fun j hj => ?_⟩, HE7.out⟩
                        · rw [upd_ne _ _ _ _ (.inl (by omega)), HF1.out i j hi hj]
                        · by_cases e : j = b
                          · subst e
                            rw [upd_same, bv_eq]
                          · rw [upd_ne _ _ _ _ (.inr e), HF2.out j (by omega)]
                      case measure => simp [intOf]; omega
        · obtain rfl : b = H + 1 := by omega
          go_wp2_with fail
          go_roundw
          case rel =>
            refine ⟨a + 1, by omega, by go_num, ⟨f, HM.out, fun i j hi hj => ?_⟩, HE.out⟩
            by_cases e : i = a
            · subst e
              exact HF2.out j (by omega)
            · exact HF1.out i j (by omega) hj
          case measure => simp [intOf]; omega
    · obtain rfl : a = W + 1 := by omega
      obtain ⟨g1, m1, m2, m3, m4, m5, m6⟩ := HM.out.at_ (i := W) (j := H) (by omega) (by omega)
      rw [HF.out W H (by omega) (Nat.le_refl _)] at m2
      clear m6
      go_wp2_with fail
      go_quiet (fail)
      go_wp2
      go_ret
      exact ⟨rfl, by repeat (first | exact kE | exact Ext.refl _ | apply Ext.alloc | apply Ext.drewN | apply Ext.drew | apply Ext.set0 | apply Ext.set1 | apply Ext.set2 | apply Ext.set3 | (refine Ext.setk ?_ (by omega) _) | (apply Ext.snoc; assumption))⟩
end Go.Proofs.Ytjibcmmnohjhkaa
