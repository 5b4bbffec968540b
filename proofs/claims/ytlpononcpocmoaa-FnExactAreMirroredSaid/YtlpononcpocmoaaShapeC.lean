/- Walks of the functions that move a shape to its lowest node. No condition but that a list has at most 1048576 elements. -/
import Derived.Test.YtlpononcpocmoaaShapeB
import Derived.Test.YtlpononcpocmoaaOwn
import Derived.Test.YtlpononcpocmoaaMat
set_option linter.unusedSimpArgs false
set_option linter.unusedVariables false
namespace Go.Proofs.Ytlpononcpocmoaa
open Go.RowKit

theorem append_info : (Try.prog.info? 54).map (fun i => (i.zero, i.size, i.bytes)) = some (some (.agg #[.int .i64 0, .int .i64 0]), 2, 16) := by kernel_rfl
theorem one2 (a b : Int) : ∀ u ∈ [Value.int .i64 a, Value.int .i64 b], u.oneCell' = true := by intro u hu; simp at hu; rcases hu with rfl | rfl <;> rfl
set_option maxRecDepth 100000 in
set_option maxHeartbeats 4000000 in
theorem begun_any (l : List P2) (A : Option Addr) (c : Nat) (w : World) (hl : l.length ≤ 1048576) (h0 : 0 < l.length) (hs : small l) (hr : R2 w A l) :
    Calls Try.prog 48 #[.slice A l.length c] w fun e w' => ∃ Ar cr, e = .returned (.slice Ar (fit l).length cr) ∧ w'.ownsRow w.heap.size 54 2 (.slice Ar (fit l).length cr) (fit l).length (enc2 (fit l)) ∧ Ext w w' := by
  obtain ⟨i0, hi, hz0, hz1, hz2⟩ := info_parts append_info
  have HR := hide hr
  have HS := hide hs
  clear hs
  obtain ⟨b0, o0, hA0, hb0, c0, c1⟩ := R2.at_ hr h0
  simp only [Nat.zero_mul, Nat.add_zero] at c0 c1
  clear hr
  subst hA0
  have HZ1 := hide (mnF_zero (·.1) h0)
  have HZ2 := hide (mnF_zero (·.2) h0)
  go_enter Try.func48, Try.ntmps48
  go_wp2_with fail
  clear c0 c1 hb0
  go_loopw [17] (fun i wr => ∃ k : Nat, k ≤ l.length ∧ i = .int .i64 k ∧ Blk wr w.heap.size 54 [.int .i64 (mnF (·.1) l k), .int .i64 (mnF (·.2) l k)] ∧ Ext w wr) (fun i _ => l.length - (intOf i).toNat)
  case atStart => exact ⟨0, Nat.zero_le _, rfl, by rw [HZ1.out, HZ2.out]; exact Blk.new w _ [_, _], by repeat (first | exact kE | exact Ext.refl _ | apply Ext.alloc | apply Ext.drewN | apply Ext.drew | apply Ext.set0 | apply Ext.set1 | apply Ext.set2 | apply Ext.set3 | (refine Ext.setk ?_ (by omega) _) | (apply Ext.snoc; assumption))⟩
  case round =>
    obtain ⟨k, hk, rfl, hB, hE⟩ := hrel
    have HB := hide hB
    have HE := hide hE
    have d0 : wr.cell? ⟨w.heap.size, 0, none⟩ = some (.int .i64 (mnF (·.1) l k)) := hB.cell 0
    have d1 : wr.cell? ⟨w.heap.size, 1, none⟩ = some (.int .i64 (mnF (·.2) l k)) := hB.cell 1
    have df := hB.free
    have dz := hB.lt
    clear hB
    by_cases hlt : k < l.length
    · obtain ⟨b, off, hA, hb, e0, e1⟩ := R2.at_ (HR.out.ext hE) hlt
      injection hA with hA
      injection hA with hA1 hA2 _
      subst hA1 hA2
      have HM1 := hide (mnF_step (·.1) hlt)
      have HM2 := hide (mnF_step (·.2) hlt)
      clear hE
      go_wp2_with fail
      go_roundw
      case rel =>
        refine ⟨k + 1, by omega, by go_num, ?_, by have hE := HE.out; repeat (first | exact kE | exact Ext.refl _ | apply Ext.alloc | apply Ext.drewN | apply Ext.drew | apply Ext.set0 | apply Ext.set1 | apply Ext.set2 | apply Ext.set3 | (refine Ext.setk ?_ (by omega) _) | (apply Ext.snoc; assumption))⟩
        rw [HM1.out, HM2.out]
        exact (((HB.out.set 0 _).set 1 _).ext ((Ext.refl _).alloc _))
      case measure => simp [intOf]; omega
    · obtain rfl : k = l.length := by omega
      have hkeep : Tr [(w.heap.size, [.int .i64 (mnF (·.1) l l.length), .int .i64 (mnF (·.2) l l.length)])] w wr := ⟨⟨⟨dz, df, d0, d1, trivial⟩, trivial⟩, hE⟩
      have HT := hide hkeep
      clear hkeep d0 d1 df dz hE HB HE
      obtain ⟨w1, rfl⟩ : ∃ w1 : World, w1 = wr := ⟨_, rfl⟩
      go_wp2_with fail
      go_loopw [6, 35] (fun f i wr => ∃ k : Nat, k ≤ l.length ∧ i = .int .i64 k ∧ f = .int .i64 (fsT l k) ∧ Ext w1 wr) (fun _ i _ => l.length - (intOf i).toNat)
      case atStart => exact ⟨0, Nat.zero_le _, rfl, rfl, Ext.refl _⟩
      case round =>
        obtain ⟨k, hk, rfl, rfl, hE⟩ := hrel
        have HE := hide hE
        have hfl := fsT_lt h0 k hk
        by_cases hlt : k < l.length
        · obtain ⟨b, off, hA, hb, e0, e1⟩ := R2.at_ (HR.out.ext (HT.out.2.trans hE)) hlt
          obtain ⟨b', off', hA', hb', f0, f1⟩ := R2.at_ (HR.out.ext (HT.out.2.trans hE)) hfl
          injection hA with hA
          injection hA with hA1 hA2 _
          subst hA1 hA2
          injection hA' with hA'
          injection hA' with hA1 hA2 _
          subst hA1 hA2
          have HF := hide (fsT_step hlt hfl)
          have q1 : (0 : Int) ≤ (fsT l k : Int) := by omega
          have q2 : (fsT l k : Int) < (l.length : Int) := by omega
          have q3 : ((fsT l k : Int)).toNat = fsT l k := by omega
          clear hE
          by_cases y1 : l[k].2 < l[fsT l k].2
          · go_wp2_with fail
            go_quiet (fail)
            go_wp2
            go_roundw
            case rel => exact ⟨k + 1, by omega, by go_num, by rw [HF.out, if_pos (.inl y1)], by have hE := HE.out; repeat (first | exact kE | exact Ext.refl _ | apply Ext.alloc | apply Ext.drewN | apply Ext.drew | apply Ext.set0 | apply Ext.set1 | apply Ext.set2 | apply Ext.set3 | (refine Ext.setk ?_ (by omega) _) | (apply Ext.snoc; assumption))⟩
            case measure => simp [intOf]; omega
          · have y1' : decide (l[k].2 < l[fsT l k].2) = false := by simpa using y1
            have y1n : l[fsT l k].2 ≤ l[k].2 := by omega
            by_cases y2 : l[k].2 = l[fsT l k].2
            · have y2' : (l[k].2 == l[fsT l k].2) = true := by simpa using y2
              have HY := hide y2
              by_cases x1 : l[k].1 < l[fsT l k].1
              · clear y1 y2
                go_wp2_with fail
                go_quiet (fail)
                go_wp2
                go_roundw
                case rel => exact ⟨k + 1, by omega, by go_num, by rw [HF.out, if_pos (.inr ⟨HY.out, x1⟩)], by have hE := HE.out; repeat (first | exact kE | exact Ext.refl _ | apply Ext.alloc | apply Ext.drewN | apply Ext.drew | apply Ext.set0 | apply Ext.set1 | apply Ext.set2 | apply Ext.set3 | (refine Ext.setk ?_ (by omega) _) | (apply Ext.snoc; assumption))⟩
                case measure => simp [intOf]; omega
              · have x1' : decide (l[k].1 < l[fsT l k].1) = false := by simpa using x1
                clear y2
                go_wp2_with fail
                go_quiet (fail)
                go_wp2
                go_roundw
                case rel => exact ⟨k + 1, by omega, by go_num, by rw [HF.out, if_neg (by omega)], by have hE := HE.out; repeat (first | exact kE | exact Ext.refl _ | apply Ext.alloc | apply Ext.drewN | apply Ext.drew | apply Ext.set0 | apply Ext.set1 | apply Ext.set2 | apply Ext.set3 | (refine Ext.setk ?_ (by omega) _) | (apply Ext.snoc; assumption))⟩
                case measure => simp [intOf]; omega
            · have y2' : (l[k].2 == l[fsT l k].2) = false := by simpa using y2
              go_wp2_with fail
              go_quiet (fail)
              go_wp2
              go_roundw
              case rel => exact ⟨k + 1, by omega, by go_num, by rw [HF.out, if_neg (by omega)], by have hE := HE.out; repeat (first | exact kE | exact Ext.refl _ | apply Ext.alloc | apply Ext.drewN | apply Ext.drew | apply Ext.set0 | apply Ext.set1 | apply Ext.set2 | apply Ext.set3 | (refine Ext.setk ?_ (by omega) _) | (apply Ext.snoc; assumption))⟩
              case measure => simp [intOf]; omega
        · obtain rfl : k = l.length := by omega
          have HT := hide (HT.out.ext hE)
          have HK := hide HT.out.2
          clear hE HE hfl
          obtain ⟨w2, rfl⟩ : ∃ w2 : World, w2 = wr := ⟨_, rfl⟩
          go_wp2_with fail
          go_loopw [9, 72] (fun v i wr => ∃ k : Nat, k ≤ l.length ∧ i = .int .i64 k ∧ wr.ownsRow w2.heap.size 54 2 v k (enc2 (fitTo l k)) ∧ Ext w2 wr) (fun _ i _ => l.length - (intOf i).toNat)
          case atStart => exact ⟨0, Nat.zero_le _, rfl, World.ownsRow_nil _ _ _ _, Ext.refl _⟩
          case round =>
            obtain ⟨k, hk, rfl, hown, hE⟩ := hrel
            have HO := hide hown
            have HE := hide hE
            have hsz := hE.size
            have HT := hide (HT.out.ext hE)
            have kT := HT.out
            simp only [Tr, Bx, CellsAt, Nat.reduceAdd, Nat.zero_add, and_true] at kT
            obtain ⟨⟨dz, df, d0, d1⟩, kE⟩ := kT
            clear hown hE
            by_cases hlt : k < l.length
            · have hfl := fsT_lt h0 l.length (Nat.le_refl _)
              obtain ⟨j, hj⟩ : ∃ j, (fsT l l.length + k) % l.length = j := ⟨_, rfl⟩
              have hjl : j < l.length := by rw [← hj]; exact Nat.mod_lt _ h0
              have HA := hide (fitAt_eq hjl hj)
              have q0 : ((fsT l l.length : Int) + (k : Int)) % (l.length : Int) = (j : Int) := by rw [← hj]; push_cast; rfl
              clear hj
              have q1 : (j : Int) < (l.length : Int) := by omega
              have q2 : (0 : Int) ≤ (j : Int) := by omega
              have q3 : (fsT l l.length : Int) < (l.length : Int) := by omega
              have B := small_at HS.out hjl
              have B1 := mn1_small HS.out h0 l.length
              have B2 := mn2_small HS.out h0 l.length
              obtain ⟨b, off, hA, hb, e0, e1⟩ := R2.at_ (HR.out.ext kE) hjl
              injection hA with hA
              injection hA with hA1 hA2 _
              subst hA1 hA2
              go_wp2_with (at_builtin; refine wpList_append_own _ rfl _ _ 25 rfl w2.heap.size 54 i0 (.agg #[.int .i64 0, .int .i64 0]) 2 16 Try.underlying25 hi hz0 hz1 hz2 rfl (by decide) u9 k (enc2 (fitTo l k)) rfl (own_ext HO.out (by clear kE; repeat (first | exact kE | exact Ext.refl _ | apply Ext.alloc | apply Ext.drewN | apply Ext.drew | apply Ext.set0 | apply Ext.set1 | apply Ext.set2 | apply Ext.set3 | (refine Ext.setk ?_ (by omega) _) | (apply Ext.snoc; assumption)))) ⟨wr.heap.size + 1, 0, none⟩ 1 1 [.int .i64 (l[j].1 - mnF (·.1) l l.length), .int .i64 (l[j].2 - mnF (·.2) l l.length)] rfl rfl (by simpa using news_new (wr.alloc _) #[.int .i64 (l[j].1 - mnF (·.1) l l.length), .int .i64 (l[j].2 - mnF (·.2) l l.length)] 54) (one2 _ _) (by unfold maxLen; omega) (by omega) (by simp; omega) ?_; intro v' w4 hown4 hgrow4 hnil)
              have E4 := Ext.grown (show Ext w2 _ from ((HE.out.alloc _).alloc _)) hgrow4 (own_base HO.out (Nat.le_refl _))
              have HO4 := hide hown4
              clear hown4 hgrow4 hnil q0
              go_roundw
              case rel => exact ⟨k + 1, by omega, by go_num, by rw [fitTo_succ, HA.out, enc2_snoc]; exact HO4.out, E4⟩
              case measure => simp [intOf]; omega
            · obtain rfl : k = l.length := by omega
              obtain ⟨Ar, cr, rfl, _, _, _⟩ := own_slice HO.out
              go_wp2_with fail
              go_ret
              have hfl2 := fit_length l
              exact ⟨Ar, cr, congrArg (fun n => Ending.returned (.slice Ar n cr)) hfl2.symm, by rw [hfl2]; exact own_mono HO.out HK.out.size, kE⟩
set_option maxRecDepth 100000 in
set_option maxHeartbeats 4000000 in
theorem l18Fit_any (l : List P2) (A : Option Addr) (c : Nat) (w : World) (hl : l.length ≤ 1048576) (h0 : 0 < l.length) (hs : small l) (hr : R2 w A l) :
    Calls Try.prog 46 #[.slice A l.length c] w fun e w' => ∃ Ar cr, e = .returned (.slice Ar (fit l).length cr) ∧ w'.ownsRow w.heap.size 54 2 (.slice Ar (fit l).length cr) (fit l).length (enc2 (fit l)) ∧ Ext w w' := by
  obtain ⟨i0, hi, hz0, hz1, hz2⟩ := info_parts append_info
  have HR := hide hr
  have HS := hide hs
  clear hs
  obtain ⟨b0, o0, hA0, hb0, c0, c1⟩ := R2.at_ hr h0
  simp only [Nat.zero_mul, Nat.add_zero] at c0 c1
  clear hr
  subst hA0
  have HZ1 := hide (mnF_zero (·.1) h0)
  have HZ2 := hide (mnF_zero (·.2) h0)
  go_enter Try.func46, Try.ntmps46
  go_wp2_with fail
  clear c0 c1 hb0
  go_loopw [3, 4, 5, 6] (fun x y f i wr => ∃ k : Nat, k ≤ l.length ∧ i = .int .i64 k ∧ x = .int .i64 (mnF (·.1) l k) ∧ y = .int .i64 (mnF (·.2) l k) ∧ f = .int .i64 (fsT l k) ∧ Ext w wr) (fun _ _ _ i _ => l.length - (intOf i).toNat)
  case atStart => exact ⟨0, Nat.zero_le _, rfl, by rw [HZ1.out], by rw [HZ2.out], rfl, by repeat (first | exact kE | exact Ext.refl _ | apply Ext.alloc | apply Ext.drewN | apply Ext.drew | apply Ext.set0 | apply Ext.set1 | apply Ext.set2 | apply Ext.set3 | (refine Ext.setk ?_ (by omega) _) | (apply Ext.snoc; assumption))⟩
  case round =>
    obtain ⟨k, hk, rfl, rfl, rfl, rfl, hE⟩ := hrel
    have HE := hide hE
    have hfl := fsT_lt h0 k hk
    by_cases hlt : k < l.length
    · obtain ⟨b, off, hA, hb, e0, e1⟩ := R2.at_ (HR.out.ext hE) hlt
      obtain ⟨b', off', hA', hb', f0, f1⟩ := R2.at_ (HR.out.ext hE) hfl
      injection hA with hA
      injection hA with hA1 hA2 _
      subst hA1 hA2
      injection hA' with hA'
      injection hA' with hA1 hA2 _
      subst hA1 hA2
      have HF := hide (fsT_step hlt hfl)
      have HM1 := hide (mnF_step (·.1) hlt)
      have HM2 := hide (mnF_step (·.2) hlt)
      have q1 : (0 : Int) ≤ (fsT l k : Int) := by omega
      have q2 : (fsT l k : Int) < (l.length : Int) := by omega
      have q3 : ((fsT l k : Int)).toNat = fsT l k := by omega
      have q4 : (0 : Int) ≤ (k : Int) := by omega
      have q5 : (k : Int) < (l.length : Int) := by omega
      clear hE
      by_cases y1 : l[k].2 < l[fsT l k].2
      · go_wp2_with fail
        all_goals
          go_quiet (fail)
          go_wp2
          go_roundw
          case rel => exact ⟨k + 1, by omega, by go_num, (by rw [HM1.out]; first | rfl | rw [if_pos (by omega)] | rw [if_neg (by omega)]), (by rw [HM2.out]; first | rfl | rw [if_pos (by omega)] | rw [if_neg (by omega)]), by rw [HF.out, if_pos (.inl y1)], by have hE := HE.out; repeat (first | exact kE | exact Ext.refl _ | apply Ext.alloc | apply Ext.drewN | apply Ext.drew | apply Ext.set0 | apply Ext.set1 | apply Ext.set2 | apply Ext.set3 | (refine Ext.setk ?_ (by omega) _) | (apply Ext.snoc; assumption))⟩
          case measure => simp [intOf]; omega
      · have y1' : decide (l[k].2 < l[fsT l k].2) = false := by simpa using y1
        have y1n : l[fsT l k].2 ≤ l[k].2 := by omega
        by_cases y2 : l[k].2 = l[fsT l k].2
        · have y2' : (l[k].2 == l[fsT l k].2) = true := by simpa using y2
          have HY := hide y2
          by_cases x1 : l[k].1 < l[fsT l k].1
          · clear y1 y2
            go_wp2_with fail
            all_goals
              go_quiet (fail)
              go_wp2
              go_roundw
              case rel => exact ⟨k + 1, by omega, by go_num, (by rw [HM1.out]; first | rfl | rw [if_pos (by omega)] | rw [if_neg (by omega)]), (by rw [HM2.out]; first | rfl | rw [if_pos (by omega)] | rw [if_neg (by omega)]), by rw [HF.out, if_pos (.inr ⟨HY.out, x1⟩)], by have hE := HE.out; repeat (first | exact kE | exact Ext.refl _ | apply Ext.alloc | apply Ext.drewN | apply Ext.drew | apply Ext.set0 | apply Ext.set1 | apply Ext.set2 | apply Ext.set3 | (refine Ext.setk ?_ (by omega) _) | (apply Ext.snoc; assumption))⟩
              case measure => simp [intOf]; omega
          · have x1' : decide (l[k].1 < l[fsT l k].1) = false := by simpa using x1
            clear y2
            go_wp2_with fail
            all_goals
              go_quiet (fail)
              go_wp2
              go_roundw
              case rel => exact ⟨k + 1, by omega, by go_num, (by rw [HM1.out]; first | rfl | rw [if_pos (by omega)] | rw [if_neg (by omega)]), (by rw [HM2.out]; first | rfl | rw [if_pos (by omega)] | rw [if_neg (by omega)]), by rw [HF.out, if_neg (by omega)], by have hE := HE.out; repeat (first | exact kE | exact Ext.refl _ | apply Ext.alloc | apply Ext.drewN | apply Ext.drew | apply Ext.set0 | apply Ext.set1 | apply Ext.set2 | apply Ext.set3 | (refine Ext.setk ?_ (by omega) _) | (apply Ext.snoc; assumption))⟩
              case measure => simp [intOf]; omega
        · have y2' : (l[k].2 == l[fsT l k].2) = false := by simpa using y2
          go_wp2_with fail
          all_goals
            go_quiet (fail)
            go_wp2
            go_roundw
            case rel => exact ⟨k + 1, by omega, by go_num, (by rw [HM1.out]; first | rfl | rw [if_pos (by omega)] | rw [if_neg (by omega)]), (by rw [HM2.out]; first | rfl | rw [if_pos (by omega)] | rw [if_neg (by omega)]), by rw [HF.out, if_neg (by omega)], by have hE := HE.out; repeat (first | exact kE | exact Ext.refl _ | apply Ext.alloc | apply Ext.drewN | apply Ext.drew | apply Ext.set0 | apply Ext.set1 | apply Ext.set2 | apply Ext.set3 | (refine Ext.setk ?_ (by omega) _) | (apply Ext.snoc; assumption))⟩
            case measure => simp [intOf]; omega
    · obtain rfl : k = l.length := by omega
      have HK := HE
      clear hE HE hfl
      obtain ⟨w2, rfl⟩ : ∃ w2 : World, w2 = wr := ⟨_, rfl⟩
      go_wp2_with fail
      have ho0 : (w2.alloc (.cells #[] 54)).ownsRow w2.heap.size 54 2 (.slice (some ⟨w2.heap.size, 0, none⟩) 0 0) 0 [] := World.ownsRow_lit (base := w2.heap.size) (e := 54) (size := 2) w2 #[] 0 (Nat.le_refl _) (Nat.zero_le _) rfl
      have HO0 := hide ho0
      clear ho0
      go_loopw [7, 8] (fun v i wr => ∃ k : Nat, k ≤ l.length ∧ i = .int .i64 k ∧ wr.ownsRow w2.heap.size 54 2 v k (enc2 (fitTo l k)) ∧ Ext w2 wr) (fun _ i _ => l.length - (intOf i).toNat)
      case atStart => exact ⟨0, Nat.zero_le _, rfl, HO0.out, (Ext.refl _).alloc _⟩
      case round =>
        obtain ⟨k, hk, rfl, hown, hE⟩ := hrel
        have HO := hide hown
        have HE := hide hE
        have hsz := hE.size
        have kE := HK.out.trans hE
        clear hown hE
        by_cases hlt : k < l.length
        · have hfl := fsT_lt h0 l.length (Nat.le_refl _)
          obtain ⟨j, hj⟩ : ∃ j, (fsT l l.length + k) % l.length = j := ⟨_, rfl⟩
          have hjl : j < l.length := by rw [← hj]; exact Nat.mod_lt _ h0
          have HA := hide (fitAt_eq hjl hj)
          have q0 : ((fsT l l.length : Int) + (k : Int)) % (l.length : Int) = (j : Int) := by rw [← hj]; push_cast; rfl
          clear hj
          have q1 : (j : Int) < (l.length : Int) := by omega
          have q2 : (0 : Int) ≤ (j : Int) := by omega
          have q3 : (fsT l l.length : Int) < (l.length : Int) := by omega
          have B := small_at HS.out hjl
          have B1 := mn1_small HS.out h0 l.length
          have B2 := mn2_small HS.out h0 l.length
          obtain ⟨b, off, hA, hb, e0, e1⟩ := R2.at_ (HR.out.ext kE) hjl
          injection hA with hA
          injection hA with hA1 hA2 _
          subst hA1 hA2
          go_wp2_with (at_builtin; refine wpList_append_own _ rfl _ _ 25 rfl w2.heap.size 54 i0 (.agg #[.int .i64 0, .int .i64 0]) 2 16 Try.underlying25 hi hz0 hz1 hz2 rfl (by decide) u7 k (enc2 (fitTo l k)) rfl (own_ext HO.out (by clear kE; repeat (first | exact kE | exact Ext.refl _ | apply Ext.alloc | apply Ext.drewN | apply Ext.drew | apply Ext.set0 | apply Ext.set1 | apply Ext.set2 | apply Ext.set3 | (refine Ext.setk ?_ (by omega) _) | (apply Ext.snoc; assumption)))) ⟨wr.heap.size + 1, 0, none⟩ 1 1 [.int .i64 (l[j].1 - mnF (·.1) l l.length), .int .i64 (l[j].2 - mnF (·.2) l l.length)] rfl rfl (by simpa using news_new (wr.alloc _) #[.int .i64 (l[j].1 - mnF (·.1) l l.length), .int .i64 (l[j].2 - mnF (·.2) l l.length)] 54) (one2 _ _) (by unfold maxLen; omega) (by omega) (by simp; omega) ?_; intro v' w4 hown4 hgrow4 hnil)
          have E4 := Ext.grown (show Ext w2 _ from ((HE.out.alloc _).alloc _)) hgrow4 (own_base HO.out (Nat.le_refl _))
          have HO4 := hide hown4
          clear hown4 hgrow4 hnil q0
          go_roundw
          case rel => exact ⟨k + 1, by omega, by go_num, by rw [fitTo_succ, HA.out, enc2_snoc]; exact HO4.out, E4⟩
          case measure => simp [intOf]; omega
        · obtain rfl : k = l.length := by omega
          obtain ⟨Ar, cr, rfl, _, _, _⟩ := own_slice HO.out
          go_wp2_with fail
          go_ret
          have hfl2 := fit_length l
          exact ⟨Ar, cr, congrArg (fun n => Ending.returned (.slice Ar n cr)) hfl2.symm, by rw [hfl2]; exact own_mono HO.out HK.out.size, kE⟩
end Go.Proofs.Ytlpononcpocmoaa
