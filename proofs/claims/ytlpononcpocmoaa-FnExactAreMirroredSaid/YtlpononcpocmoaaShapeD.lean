/- Walks of TurnShape and MirrorShape. No condition but that a list has at most 1048576 elements. -/
import Derived.Test.YtlpononcpocmoaaShapeC
import Derived.Deep.AppendLies
import Derived.IntWalk
set_option linter.unusedSimpArgs false
set_option linter.unusedVariables false
namespace Go.Proofs.Ytlpononcpocmoaa
open Go.RowKit

set_option maxRecDepth 100000 in
set_option maxHeartbeats 4000000 in
theorem TurnShape_any (l : List P2) (A : Option Addr) (c : Nat) (w : World) (hl : l.length ≤ 1048576) (hr : R2 w A l) :
    Calls Try.prog 17 #[.slice A l.length c] w fun e w' => ∃ Ar cr, e = .returned (.slice Ar (turnV l).length cr) ∧ w'.ownsRow w.heap.size 54 2 (.slice Ar (turnV l).length cr) (turnV l).length (enc2 (turnV l)) ∧ Ext w w' := by
  obtain ⟨i0, hi, hz0, hz1, hz2⟩ := info_parts append_info
  have HR := hide hr
  clear hr
  have HV : Hid (¬ (nodesOkB l = true ∧ 0 < l.length) → turnV l = []) := hide (fun h => by unfold turnV; rw [if_neg (by simpa using h)])
  have HV2 : Hid (nodesOkB l = true → 0 < l.length → turnV l = fit (turned l)) := hide (fun h h' => by unfold turnV; rw [if_pos (by simpa using ⟨h, h'⟩)])
  by_cases h0 : 0 < l.length
  · have hz0' : ((l.length : Int) == 0) = false := by rw [beq_eq_false_iff_ne]; omega
    go_enter Try.func17, Try.ntmps17
    go_wp2_with fail
    refine (nodesOk_any l A c _ hl HR.out).mono ?_; rintro e w1 ⟨rfl, hb1⟩
    have HE1 := hide hb1
    clear hb1
    by_cases h1 : nodesOkB l = true
    · go_wp2_with fail
      go_loopw [3, 16] (fun v i wr => ∃ k : Nat, k ≤ l.length ∧ i = .int .i64 k ∧ wr.ownsRow w1.heap.size 54 2 v k (enc2 (turned (l.take k))) ∧ Ext w1 wr) (fun _ i _ => l.length - (intOf i).toNat)
      case atStart => exact ⟨0, Nat.zero_le _, rfl, World.ownsRow_nil _ _ _ _, Ext.refl _⟩
      case round =>
        obtain ⟨k, hk, rfl, hown, hE⟩ := hrel
        have HO := hide hown
        have HE := hide hE
        have hsz := hE.size
        have kE := HE1.out.trans hE
        clear hown hE
        by_cases hlt : k < l.length
        · have Bk := nodesOkB_at h1 hlt
          have HA := hide (turned_succ l k hlt)
          obtain ⟨b, off, rfl, hb, e0, e1⟩ := R2.at_ (HR.out.ext kE) hlt
          go_wp2_with (at_builtin; refine wpList_append_own _ rfl _ _ 25 rfl w1.heap.size 54 i0 (.agg #[.int .i64 0, .int .i64 0]) 2 16 Try.underlying25 hi hz0 hz1 hz2 rfl (by decide) u3 k (enc2 (turned (l.take k))) rfl (own_ext HO.out (by clear kE; repeat (first | exact kE | exact Ext.refl _ | apply Ext.alloc | apply Ext.drewN | apply Ext.drew | apply Ext.set0 | apply Ext.set1 | apply Ext.set2 | apply Ext.set3 | (refine Ext.setk ?_ (by omega) _) | (apply Ext.snoc; assumption)))) ⟨wr.heap.size + 1, 0, none⟩ 1 1 [.int .i64 (-l[k].2), .int .i64 l[k].1] rfl rfl (by simpa using news_new (wr.alloc _) #[.int .i64 (-l[k].2), .int .i64 l[k].1] 54) (one2 _ _) (by unfold maxLen; omega) (by omega) (by simp; omega) ?_; intro v' w4 hown4 hgrow4 hnil)
          have E4 := Ext.grown (show Ext w1 _ from ((HE.out.alloc _).alloc _)) hgrow4 (own_base HO.out (Nat.le_refl _))
          have HO4 := hide hown4
          clear hown4 hgrow4 hnil
          go_roundw
          case rel => exact ⟨k + 1, by omega, by go_num, by rw [HA.out, enc2_snoc]; exact HO4.out, E4⟩
          case measure => simp [intOf]; (try omega)
        · obtain rfl : k = l.length := by omega
          obtain ⟨Ar, cr, rfl, _, _, _⟩ := own_slice HO.out
          have ho := HO.out
          rw [List.take_of_length_le (Nat.le_refl _)] at ho
          have hlen := turned_length l
          have HO2 : Hid (R2 wr Ar (turned l)) := hide (by have := Rds.of_own ho; rw [← hlen] at this; exact this)
          have HL := hide hlen
          rw [show Value.slice Ar l.length cr = Value.slice Ar (turned l).length cr by rw [hlen]]
          clear ho hlen
          go_wp2_with fail
          refine (begun_any (turned l) _ _ _ (by rw [HL.out]; exact hl) (by rw [HL.out]; exact h0) (turned_small h1) HO2.out).mono ?_; rintro e w5 ⟨Ar5, cr5, rfl, ho5, hb5⟩
          have HO5 := hide ho5
          have kE5 := kE.trans hb5
          clear ho5
          go_wp2_with fail
          go_ret
          rw [HV2.out h1 h0]
          exact ⟨_, _, rfl, own_mono HO5.out kE.size, kE5⟩
    · have h1' : nodesOkB l = false := by simpa using h1
      have e := HV.out (fun h => h1 h.1)
      clear h1
      go_wp2_with fail
      go_ret
      rw [e]
      exact ⟨none, 0, rfl, World.ownsRow_nil _ _ _ _, HE1.out⟩
  · have hz0' : ((l.length : Int) == 0) = true := by rw [beq_iff_eq]; omega
    have e := HV.out (fun h => h0 h.2)
    go_enter Try.func17, Try.ntmps17
    go_wp2_with fail
    go_ret
    rw [e]
    exact ⟨none, 0, rfl, World.ownsRow_nil _ _ _ _, Ext.refl _⟩
set_option maxRecDepth 100000 in
set_option maxHeartbeats 4000000 in
theorem MirrorShape_any (l : List P2) (A : Option Addr) (c : Nat) (w : World) (hl : l.length ≤ 1048576) (hr : R2 w A l) :
    Calls Try.prog 21 #[.slice A l.length c] w fun e w' => ∃ Ar cr, e = .returned (.slice Ar (mirrorV l).length cr) ∧ w'.ownsRow w.heap.size 54 2 (.slice Ar (mirrorV l).length cr) (mirrorV l).length (enc2 (mirrorV l)) ∧ Ext w w' := by
  obtain ⟨i0, hi, hz0, hz1, hz2⟩ := info_parts append_info
  have HR := hide hr
  clear hr
  have HV : Hid (¬ (nodesOkB l = true ∧ 0 < l.length) → mirrorV l = []) := hide (fun h => by unfold mirrorV; rw [if_neg (by simpa using h)])
  have HV2 : Hid (nodesOkB l = true → 0 < l.length → mirrorV l = fit (mirrored l)) := hide (fun h h' => by unfold mirrorV; rw [if_pos (by simpa using ⟨h, h'⟩)])
  by_cases h0 : 0 < l.length
  · have hz0' : ((l.length : Int) == 0) = false := by rw [beq_eq_false_iff_ne]; omega
    go_enter Try.func21, Try.ntmps21
    go_wp2_with fail
    refine (nodesOk_any l A c _ hl HR.out).mono ?_; rintro e w1 ⟨rfl, hb1⟩
    have HE1 := hide hb1
    clear hb1
    by_cases h1 : nodesOkB l = true
    · go_wp2_with fail
      go_loopw [3, 4] (fun v i wr => ∃ (k : Nat) (m : Int), k ≤ l.length ∧ i = .int .i64 m ∧ Hid (m = (l.length : Int) - 1 - k) ∧ wr.ownsRow w1.heap.size 54 2 v k (enc2 (mirTo l k)) ∧ Ext w1 wr) (fun _ i _ => (intOf i + 1).toNat)
      case atStart => exact ⟨0, _, Nat.zero_le _, rfl, hide (by omega), World.ownsRow_nil _ _ _ _, Ext.refl _⟩
      case round =>
        obtain ⟨k, m, hk, rfl, hm, hown, hE⟩ := hrel
        have HO := hide hown
        have HE := hide hE
        have hsz := hE.size
        have kE := HE1.out.trans hE
        clear hown hE
        by_cases hlt : k < l.length
        · obtain ⟨j, rfl⟩ := Int.eq_ofNat_of_zero_le (show 0 ≤ m by have := hm.out; omega)
          have hj : j = l.length - 1 - k := by have := hm.out; omega
          have hjl : j < l.length := by omega
          have Bk := nodesOkB_at h1 hjl
          have HA : Hid (mirTo l (k + 1) = mirTo l k ++ [(-l[j].1, l[j].2)]) := hide (by subst hj; exact mirTo_succ l k hlt)
          clear hj
          obtain ⟨b, off, rfl, hb, e0, e1⟩ := R2.at_ (HR.out.ext kE) hjl
          obtain ⟨b', off', hA', hb', _, _⟩ := R2.at_ (HR.out.ext HE1.out) hjl
          injection hA' with hA'
          injection hA' with hA1 hA2 _
          subst hA1 hA2
          have HNE : Hid (u3.ownBlock ≠ some b) := hide (fun e => by have := (HO.out.lt b e).1; omega)
          have q1 : (j : Int) < (l.length : Int) := by omega
          have q2 : (0 : Int) ≤ (j : Int) := by omega
          have q3 : IntKind.i64.wrap (-l[j].1) = -l[j].1 := IntWalk.i64_in _ (by omega)
          go_wp2_with fail
          go_region_held3 (fun w' => w'.cell? ⟨b, off + j * 2, none⟩ = some (.int .i64 l[j].1) ∧ w'.cell? ⟨b, off + j * 2 + 1, none⟩ = some (.int .i64 l[j].2))
            (first | go_keep | (go_split_ands; refine ⟨?_, ?_⟩ <;> (rw [hgrow.cell_far _ (by simp; omega) (by first | exact fun e => HNE.out e.symm | exact HNE.out)]; assumption)))
            ((refine step_append_lies _ (by rfl) _ _ _ (by rfl) w1.heap.size 54 i0 (.agg #[.int .i64 0, .int .i64 0]) 2 16 Try.underlying25 hi hz0 hz1 hz2 rfl (by omega) u3 k (enc2 (mirTo l k)) (by rfl) ((own_ext HO.out ((Ext.refl _).alloc _)).drew) ⟨wr.heap.size, 0, none⟩ 1 1 [.int .i64 (-l[j].1), .int .i64 l[j].2] (by rfl) (by rfl) (World.news_of_block (cs := #[.int .i64 (-l[j].1), .int .i64 l[j].2]) (t := 54) (fr := (0, 0)) (heap_alloc_new wr _)) (one2 _ _) (by omega) (by unfold maxLen; omega) (by omega) (by simp; omega) (wr.heap.size + 1) (by simp) ?_; intro gg cap w4 hown4 hgrow hat hlt4))
          go_wp2
          have E4 := Ext.grown (show Ext w1 _ from ((HE.out).alloc _).drew) hgrow (own_base HO.out (Nat.le_refl _))
          have HO4 := hide hown4
          clear hown4 hgrow hat hlt4 q3
          go_roundw
          case rel => exact ⟨k + 1, _, by omega, rfl, hide (by have := hm.out; omega), by rw [HA.out, enc2_snoc]; exact HO4.out, E4⟩
          case measure => simp [intOf]; (try omega)
        · obtain rfl : k = l.length := by omega
          have hm1 : m = -1 := by have := hm.out; omega
          subst hm1
          obtain ⟨Ar, cr, rfl, _, _, _⟩ := own_slice HO.out
          have ho := HO.out
          rw [mirTo_all] at ho
          have hlen := mirrored_length l
          have HO2 : Hid (R2 wr Ar (mirrored l)) := hide (by have := Rds.of_own ho; rw [← hlen] at this; exact this)
          have HL := hide hlen
          rw [show Value.slice Ar l.length cr = Value.slice Ar (mirrored l).length cr by rw [hlen]]
          clear ho hlen
          go_wp2_with fail
          refine (begun_any (mirrored l) _ _ _ (by rw [HL.out]; exact hl) (by rw [HL.out]; exact h0) (mirrored_small h1) HO2.out).mono ?_; rintro e w5 ⟨Ar5, cr5, rfl, ho5, hb5⟩
          have HO5 := hide ho5
          have kE5 := kE.trans hb5
          clear ho5
          go_wp2_with fail
          go_ret
          rw [HV2.out h1 h0]
          exact ⟨_, _, rfl, own_mono HO5.out kE.size, kE5⟩
    · have h1' : nodesOkB l = false := by simpa using h1
      have e := HV.out (fun h => h1 h.1)
      clear h1
      go_wp2_with fail
      go_ret
      rw [e]
      exact ⟨none, 0, rfl, World.ownsRow_nil _ _ _ _, HE1.out⟩
  · have hz0' : ((l.length : Int) == 0) = true := by rw [beq_iff_eq]; omega
    have e := HV.out (fun h => h0 h.2)
    go_enter Try.func21, Try.ntmps21
    go_wp2_with fail
    go_ret
    rw [e]
    exact ⟨none, 0, rfl, World.ownsRow_nil _ _ _ _, Ext.refl _⟩
set_option maxRecDepth 100000 in
set_option maxHeartbeats 4000000 in
theorem sTurnShape_any (l : List P2) (A : Option Addr) (c : Nat) (w : World) (hl : l.length ≤ 1048576) (hr : R2 w A l) :
    Calls Try.prog 16 #[.slice A l.length c] w fun e w' => ∃ Ar cr, e = .returned (.slice Ar (turnV l).length cr) ∧ w'.ownsRow w.heap.size 54 2 (.slice Ar (turnV l).length cr) (turnV l).length (enc2 (turnV l)) ∧ Ext w w' := by
  obtain ⟨i0, hi, hz0, hz1, hz2⟩ := info_parts append_info
  have HR := hide hr
  clear hr
  have HV : Hid (¬ (nodesOkB l = true ∧ 0 < l.length) → turnV l = []) := hide (fun h => by unfold turnV; rw [if_neg (by simpa using h)])
  have HV2 : Hid (nodesOkB l = true → 0 < l.length → turnV l = fit (turned l)) := hide (fun h h' => by unfold turnV; rw [if_pos (by simpa using ⟨h, h'⟩)])
  go_enter Try.func16, Try.ntmps16
  go_wp2_with fail
  obtain ⟨w0, hw⟩ : ∃ w0, w0 = w.alloc (Obj.cells #[] 54) := ⟨_, rfl⟩
  have ho0 : w0.ownsRow w.heap.size 54 2 (.slice (some ⟨w.heap.size, 0, none⟩) 0 0) 0 [] := by rw [hw]; exact World.ownsRow_lit (base := w.heap.size) (e := 54) (size := 2) w #[] 0 (Nat.le_refl _) (Nat.zero_le _) rfl
  have HW0 : Hid (Ext w w0) := hide (by rw [hw]; repeat (first | exact kE | exact Ext.refl _ | apply Ext.alloc | apply Ext.drewN | apply Ext.drew | apply Ext.set0 | apply Ext.set1 | apply Ext.set2 | apply Ext.set3 | (refine Ext.setk ?_ (by omega) _) | (apply Ext.snoc; assumption)))
  rw [← hw]
  clear hw
  have HO0 := hide ho0
  clear ho0
  refine (l18Ok_any l A c _ hl (HR.out.ext HW0.out)).mono ?_; rintro e w1 ⟨rfl, hb1⟩
  have HE1 := hide hb1
  clear hb1
  by_cases h1 : (nodesOkB l && decide (0 < l.length)) = true
  · have h1a : nodesOkB l = true ∧ 0 < l.length := by simpa using h1
    obtain ⟨hn, h0⟩ := h1a
    go_wp2_with fail
    go_loopw [3, 4] (fun v i wr => ∃ k : Nat, k ≤ l.length ∧ i = .int .i64 k ∧ wr.ownsRow w.heap.size 54 2 v k (enc2 (turned (l.take k))) ∧ Ext w wr) (fun _ i _ => l.length - (intOf i).toNat)
    case atStart => exact ⟨0, Nat.zero_le _, rfl, own_ext HO0.out HE1.out, (HW0.out.trans HE1.out)⟩
    case round =>
      obtain ⟨k, hk, rfl, hown, hE⟩ := hrel
      have HO := hide hown
      have HE := hide hE
      have hsz := hE.size
      have kE := hE
      clear hown hE
      by_cases hlt : k < l.length
      · have Bk := nodesOkB_at hn hlt
        have HA := hide (turned_succ l k hlt)
        obtain ⟨b, off, rfl, hb, e0, e1⟩ := R2.at_ (HR.out.ext kE) hlt
        obtain ⟨b', off', hA', hb', _, _⟩ := R2.at_ (HR.out) hlt
        injection hA' with hA'
        injection hA' with hA1 hA2 _
        subst hA1 hA2
        have HNE : Hid (u3.ownBlock ≠ some b) := hide (fun e => by have := (HO.out.lt b e).1; omega)
        have q1 : (k : Int) < (l.length : Int) := by omega
        have q2 : (0 : Int) ≤ (k : Int) := by omega
        have q3 : IntKind.i64.wrap (-l[k].2) = -l[k].2 := IntWalk.i64_in _ (by omega)
        have hbz : w.heap.size ≤ wr.heap.size := kE.size
        go_wp2_with fail
        go_region_held3 (fun w' => w'.cell? ⟨b, off + k * 2, none⟩ = some (.int .i64 l[k].1) ∧ w'.cell? ⟨b, off + k * 2 + 1, none⟩ = some (.int .i64 l[k].2))
          (first | go_keep | (go_split_ands; refine ⟨?_, ?_⟩ <;> (rw [hgrow.cell_far _ (by simp; omega) (by first | exact fun e => HNE.out e.symm | exact HNE.out)]; assumption)))
          ((refine step_append_lies _ (by rfl) _ _ _ (by rfl) w.heap.size 54 i0 (.agg #[.int .i64 0, .int .i64 0]) 2 16 Try.underlying25 hi hz0 hz1 hz2 rfl (by omega) u3 k (enc2 (turned (l.take k))) (by rfl) ((own_ext HO.out ((Ext.refl _).alloc _)).drew) ⟨wr.heap.size, 0, none⟩ 1 1 [.int .i64 (-l[k].2), .int .i64 l[k].1] (by rfl) (by rfl) (World.news_of_block (cs := #[.int .i64 (-l[k].2), .int .i64 l[k].1]) (t := 54) (fr := (0, 0)) (heap_alloc_new wr _)) (one2 _ _) (by omega) (by unfold maxLen; omega) (by omega) (by simp; omega) (wr.heap.size + 1) (by simp) ?_; intro gg cap w4 hown4 hgrow hat hlt4))
        go_wp2
        have E4 := Ext.grown (show Ext w _ from (kE.alloc _).drew) hgrow (own_base HO.out (Nat.le_refl _))
        have HO4 := hide hown4
        clear hown4 hgrow hat hlt4 q3
        go_roundw
        case rel => exact ⟨k + 1, by omega, by go_num, by rw [HA.out, enc2_snoc]; exact HO4.out, E4⟩
        case measure => simp [intOf]; (try omega)
      · obtain rfl : k = l.length := by omega
        obtain ⟨Ar, cr, rfl, _, _, _⟩ := own_slice HO.out
        have ho := HO.out
        rw [List.take_of_length_le (Nat.le_refl _)] at ho
        have hlen := turned_length l
        have HO2 : Hid (R2 wr Ar (turned l)) := hide (by have := Rds.of_own ho; rw [← hlen] at this; exact this)
        have HL := hide hlen
        rw [show Value.slice Ar l.length cr = Value.slice Ar (turned l).length cr by rw [hlen]]
        clear ho hlen
        go_wp2_with fail
        refine (l18Fit_any (turned l) _ _ _ (by rw [HL.out]; exact hl) (by rw [HL.out]; exact h0) (turned_small hn) HO2.out).mono ?_; rintro e w5 ⟨Ar5, cr5, rfl, ho5, hb5⟩
        have HO5 := hide ho5
        have kE5 := kE.trans hb5
        clear ho5
        go_wp2_with fail
        go_ret
        rw [HV2.out hn h0]
        exact ⟨_, _, rfl, own_mono HO5.out kE.size, kE5⟩
  · have h1' : (nodesOkB l && decide (0 < l.length)) = false := by simpa using h1
    have e := HV.out (fun h => h1 (by simpa using h))
    clear h1
    have hx : ¬ (nodesOkB l = true ∧ 0 < l.length) := fun h => by rw [h.1, decide_eq_true h.2] at h1'; cases h1'
    rw [h1']
    clear h1'
    go_wp2_with fail
    go_ret
    rw [e]
    exact ⟨_, _, rfl, own_ext HO0.out HE1.out, HW0.out.trans HE1.out⟩
set_option maxRecDepth 100000 in
set_option maxHeartbeats 4000000 in
theorem sMirrorShape_any (l : List P2) (A : Option Addr) (c : Nat) (w : World) (hl : l.length ≤ 1048576) (hr : R2 w A l) :
    Calls Try.prog 20 #[.slice A l.length c] w fun e w' => ∃ Ar cr, e = .returned (.slice Ar (mirrorV l).length cr) ∧ w'.ownsRow w.heap.size 54 2 (.slice Ar (mirrorV l).length cr) (mirrorV l).length (enc2 (mirrorV l)) ∧ Ext w w' := by
  obtain ⟨i0, hi, hz0, hz1, hz2⟩ := info_parts append_info
  have HR := hide hr
  clear hr
  have HV : Hid (¬ (nodesOkB l = true ∧ 0 < l.length) → mirrorV l = []) := hide (fun h => by unfold mirrorV; rw [if_neg (by simpa using h)])
  have HV2 : Hid (nodesOkB l = true → 0 < l.length → mirrorV l = fit (mirrored l)) := hide (fun h h' => by unfold mirrorV; rw [if_pos (by simpa using ⟨h, h'⟩)])
  go_enter Try.func20, Try.ntmps20
  go_wp2_with fail
  obtain ⟨w0, hw⟩ : ∃ w0, w0 = w.alloc (Obj.cells #[] 54) := ⟨_, rfl⟩
  have ho0 : w0.ownsRow w.heap.size 54 2 (.slice (some ⟨w.heap.size, 0, none⟩) 0 0) 0 [] := by rw [hw]; exact World.ownsRow_lit (base := w.heap.size) (e := 54) (size := 2) w #[] 0 (Nat.le_refl _) (Nat.zero_le _) rfl
  have HW0 : Hid (Ext w w0) := hide (by rw [hw]; repeat (first | exact kE | exact Ext.refl _ | apply Ext.alloc | apply Ext.drewN | apply Ext.drew | apply Ext.set0 | apply Ext.set1 | apply Ext.set2 | apply Ext.set3 | (refine Ext.setk ?_ (by omega) _) | (apply Ext.snoc; assumption)))
  rw [← hw]
  clear hw
  have HO0 := hide ho0
  clear ho0
  refine (l18Ok_any l A c _ hl (HR.out.ext HW0.out)).mono ?_; rintro e w1 ⟨rfl, hb1⟩
  have HE1 := hide hb1
  clear hb1
  by_cases h1 : (nodesOkB l && decide (0 < l.length)) = true
  · have h1a : nodesOkB l = true ∧ 0 < l.length := by simpa using h1
    obtain ⟨hn, h0⟩ := h1a
    go_wp2_with fail
    go_loopw [3, 4] (fun v i wr => ∃ (k : Nat) (m : Int), k ≤ l.length ∧ i = .int .i64 m ∧ Hid (m = (l.length : Int) - 1 - k) ∧ wr.ownsRow w.heap.size 54 2 v k (enc2 (mirTo l k)) ∧ Ext w wr) (fun _ i _ => (intOf i + 1).toNat)
    case atStart => exact ⟨0, _, Nat.zero_le _, rfl, hide (by omega), own_ext HO0.out HE1.out, (HW0.out.trans HE1.out)⟩
    case round =>
      obtain ⟨k, m, hk, rfl, hm, hown, hE⟩ := hrel
      have HO := hide hown
      have HE := hide hE
      have hsz := hE.size
      have kE := hE
      clear hown hE
      by_cases hlt : k < l.length
      · obtain ⟨j, rfl⟩ := Int.eq_ofNat_of_zero_le (show 0 ≤ m by have := hm.out; omega)
        have hj : j = l.length - 1 - k := by have := hm.out; omega
        have hjl : j < l.length := by omega
        have Bk := nodesOkB_at hn hjl
        have HA : Hid (mirTo l (k + 1) = mirTo l k ++ [(-l[j].1, l[j].2)]) := hide (by subst hj; exact mirTo_succ l k hlt)
        clear hj
        obtain ⟨b, off, rfl, hb, e0, e1⟩ := R2.at_ (HR.out.ext kE) hjl
        obtain ⟨b', off', hA', hb', _, _⟩ := R2.at_ (HR.out) hjl
        injection hA' with hA'
        injection hA' with hA1 hA2 _
        subst hA1 hA2
        have HNE : Hid (u3.ownBlock ≠ some b) := hide (fun e => by have := (HO.out.lt b e).1; omega)
        have q1 : (j : Int) < (l.length : Int) := by omega
        have q2 : (0 : Int) ≤ (j : Int) := by omega
        have q3 : IntKind.i64.wrap (-l[j].1) = -l[j].1 := IntWalk.i64_in _ (by omega)
        have hbz : w.heap.size ≤ wr.heap.size := kE.size
        go_wp2_with fail
        go_region_held3 (fun w' => w'.cell? ⟨b, off + j * 2, none⟩ = some (.int .i64 l[j].1) ∧ w'.cell? ⟨b, off + j * 2 + 1, none⟩ = some (.int .i64 l[j].2))
          (first | go_keep | (go_split_ands; refine ⟨?_, ?_⟩ <;> (rw [hgrow.cell_far _ (by simp; omega) (by first | exact fun e => HNE.out e.symm | exact HNE.out)]; assumption)))
          ((refine step_append_lies _ (by rfl) _ _ _ (by rfl) w.heap.size 54 i0 (.agg #[.int .i64 0, .int .i64 0]) 2 16 Try.underlying25 hi hz0 hz1 hz2 rfl (by omega) u3 k (enc2 (mirTo l k)) (by rfl) ((own_ext HO.out ((Ext.refl _).alloc _)).drew) ⟨wr.heap.size, 0, none⟩ 1 1 [.int .i64 (-l[j].1), .int .i64 l[j].2] (by rfl) (by rfl) (World.news_of_block (cs := #[.int .i64 (-l[j].1), .int .i64 l[j].2]) (t := 54) (fr := (0, 0)) (heap_alloc_new wr _)) (one2 _ _) (by omega) (by unfold maxLen; omega) (by omega) (by simp; omega) (wr.heap.size + 1) (by simp) ?_; intro gg cap w4 hown4 hgrow hat hlt4))
        go_wp2
        have E4 := Ext.grown (show Ext w _ from (kE.alloc _).drew) hgrow (own_base HO.out (Nat.le_refl _))
        have HO4 := hide hown4
        clear hown4 hgrow hat hlt4 q3
        go_roundw
        case rel => exact ⟨k + 1, _, by omega, rfl, hide (by have := hm.out; omega), by rw [HA.out, enc2_snoc]; exact HO4.out, E4⟩
        case measure => simp [intOf]; (try omega)
      · obtain rfl : k = l.length := by omega
        have hm1 : m = -1 := by have := hm.out; omega
        subst hm1
        obtain ⟨Ar, cr, rfl, _, _, _⟩ := own_slice HO.out
        have ho := HO.out
        rw [mirTo_all] at ho
        have hlen := mirrored_length l
        have HO2 : Hid (R2 wr Ar (mirrored l)) := hide (by have := Rds.of_own ho; rw [← hlen] at this; exact this)
        have HL := hide hlen
        rw [show Value.slice Ar l.length cr = Value.slice Ar (mirrored l).length cr by rw [hlen]]
        clear ho hlen
        go_wp2_with fail
        refine (l18Fit_any (mirrored l) _ _ _ (by rw [HL.out]; exact hl) (by rw [HL.out]; exact h0) (mirrored_small hn) HO2.out).mono ?_; rintro e w5 ⟨Ar5, cr5, rfl, ho5, hb5⟩
        have HO5 := hide ho5
        have kE5 := kE.trans hb5
        clear ho5
        go_wp2_with fail
        go_ret
        rw [HV2.out hn h0]
        exact ⟨_, _, rfl, own_mono HO5.out kE.size, kE5⟩
  · have h1' : (nodesOkB l && decide (0 < l.length)) = false := by simpa using h1
    have e := HV.out (fun h => h1 (by simpa using h))
    clear h1
    have hx : ¬ (nodesOkB l = true ∧ 0 < l.length) := fun h => by rw [h.1, decide_eq_true h.2] at h1'; cases h1'
    rw [h1']
    clear h1'
    go_wp2_with fail
    go_ret
    rw [e]
    exact ⟨_, _, rfl, own_ext HO0.out HE1.out, HW0.out.trans HE1.out⟩
end Go.Proofs.Ytlpononcpocmoaa
