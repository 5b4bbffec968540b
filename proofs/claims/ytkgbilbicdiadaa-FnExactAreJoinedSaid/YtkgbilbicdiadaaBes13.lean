/- The walk of the reference's l13Beside: the table of the faces beside each other. No condition but a whole window. -/
import Derived.Test.YtkgbilbicdiadaaNear
import Derived.Test.YtkgbilbicdiadaaMatB
set_option linter.unusedSimpArgs false
set_option linter.unusedVariables false
namespace Go.Proofs.Ytkgbilbicdiadaa
open Go.RowKit

theorem bes_step {s : Nat → Nat} {k : Nat} (hne : s (2 * k) ≠ s (2 * k + 1)) : updB (updB (besTo s k) (s (2 * k)) (s (2 * k + 1)) true) (s (2 * k + 1)) (s (2 * k)) true = besTo s (k + 1) := by
  funext a b
  simp only [updB, besTo]
  by_cases h1 : a = s (2 * k + 1) ∧ b = s (2 * k)
  · rw [if_pos h1]
    simp [hne, h1.1, h1.2]
  · rw [if_neg h1]
    by_cases h2 : a = s (2 * k) ∧ b = s (2 * k + 1)
    · rw [if_pos h2]
      simp [hne, h2.1, h2.2]
    · rw [if_neg h2]
      have e1 : (decide (a = s (2 * k + 1)) && decide (b = s (2 * k))) = false := by rw [← Bool.decide_and, decide_eq_false h1]
      have e2 : (decide (a = s (2 * k)) && decide (b = s (2 * k + 1))) = false := by rw [← Bool.decide_and, decide_eq_false h2]
      rw [e1, e2]
      simp
theorem bes_same {s : Nat → Nat} {k : Nat} (he : s (2 * k) = s (2 * k + 1)) : besTo s k = besTo s (k + 1) := by
  funext a b
  simp [besTo, he]
theorem made_falses (n : Nat) : (madeCells (Value.bool false).cells (n * 1)).toList = List.replicate n (Value.bool false) := by
  rw [Nat.mul_one]
  exact toList_madeCells_one _ _
theorem rowb_info : (Try.prog.info? 99).map (fun i => (i.zero, i.size, i.bytes)) = some (some (.slice none 0 0), 1, 24) := by kernel_rfl
set_option maxRecDepth 20000 in
set_option maxHeartbeats 4000000 in
theorem l13Beside_any (N E : List P2) (A B : Option Addr) (c c' : Nat) (w : World) (hw : WR w N E A B c c') (hwh : wholeB N E = true) :
    Calls Try.prog 99 #[.agg #[.slice A N.length c, .slice B E.length c']] w fun e w' => ∃ hd c2 U, e = .returned (.slice (some ⟨hd, 0, none⟩) (fcs N E).length c2) ∧ MatB w' w.heap.size U hd (fcs N E).length 99 4 (besTo (sd N E) E.length) ∧ Ext w w' := by
  obtain ⟨i0, hi, hz0, hz1, hz2⟩ := info_parts rowb_info
  obtain ⟨j0, hj, hy0, hy1, hy2⟩ := info_parts bool_info
  have HW := hide hw
  have hm := (wholeB_iff.1 hwh).1.m
  have hsd := sd_lt hwh
  have hl40 := fcs_len (N := N) (E := E)
  have hpos := (fcs_facts hwh).1
  have HFA := hide (fun (W : World) (hE : Ext w W) => l09Sides_any N E A B c c' W (hw.ext hE) hwh)
  have HFO := hide (fun (W : World) (hE : Ext w W) => (sFacesOf_any N E A B c c' W (hw.ext hE)).mono (R' := fun e w' => ∃ A2 c2, e = .returned (.slice A2 (fcs N E).length c2) ∧ Ext W w') (by rintro e w' ⟨A2, c2, h1, _, _, h2⟩; exact ⟨A2, c2, h1, h2⟩))
  obtain ⟨n, hn⟩ : ∃ n, (fcs N E).length = n := ⟨_, rfl⟩
  obtain ⟨s, hs⟩ : ∃ s, sd N E = s := ⟨_, rfl⟩
  rw [hn] at hsd hl40 hpos HFO ⊢
  rw [hs] at hsd HFA ⊢
  have HSD := hide hsd
  clear hw hwh hn hs hsd
  
  go_enter Try.func99, Try.ntmps99
  go_wp2_with fail
  obtain ⟨w0, hw⟩ : ∃ w1, w1 = w.alloc (Obj.cells #[Value.slice A N.length c, Value.slice B E.length c'] 27) := ⟨_, rfl⟩; rw [← hw]; have kT : Tr [(w.heap.size, [.slice A N.length c, .slice B E.length c'])] w w0 := (by rw [hw]; exact ⟨by (first | (simp [Bx, CellsAt, go_sem, *]; done) | (simp [Bx, CellsAt, go_sem, *]; omega)), by (repeat (first | exact kE | exact Ext.refl _ | apply Ext.alloc | apply Ext.drewN | apply Ext.drew | apply Ext.set0 | apply Ext.set1 | apply Ext.set2 | apply Ext.set3 | (refine Ext.setk ?_ (by omega) _) | (apply Ext.snoc; assumption)))⟩); have HT := hide kT; clear hw kT; have kT := HT.out; simp only [Tr, Bx, CellsAt, Nat.reduceAdd, Nat.zero_add, and_true] at kT; obtain ⟨⟨kz0, kf0, kc0_0, kc0_1⟩, kE⟩ := kT
  refine (HFO.out _ kE).mono ?_
  rintro e w2 ⟨A2, c2, rfl, hb2⟩
  have HT' := hide (HT.out.ext hb2)
  clear hb2 HT
  have HT := HT'
  clear HT'
  clear kz0 kf0 kc0_0 kc0_1 kE
  have kT := HT.out; simp only [Tr, Bx, CellsAt, Nat.reduceAdd, Nat.zero_add, and_true] at kT; obtain ⟨⟨kz0, kf0, kc0_0, kc0_1⟩, kE⟩ := kT
  have HW2 := hide kE
  go_wp2_with fail
  have hO := World.ownsRow_lit (base := w2.heap.size) (e := 99) (size := 1) w2 #[] 0 (Nat.le_refl _) (Nat.zero_le _) rfl
  have HO := hide hO
  clear hO
  have HTZ := HT
  clear kz0 kf0 kc0_0 kc0_1 kE
  clear HT
  go_loopw [4, 5] (fun v i wr => ∃ k : Nat, k ≤ n ∧ i = .int .i64 k ∧ Hid (HdrB wr w2.heap.size v k n 99 4) ∧ Hid (Ext w2 wr)) (fun _ i _ => n - (intOf i).toNat)
  case atStart => exact ⟨0, Nat.zero_le _, rfl, hide ⟨fun _ => 0, by simpa using HO.out, fun i hi => absurd hi (Nat.not_lt_zero i), fun i j hi => absurd hi (Nat.not_lt_zero i)⟩, hide ((Ext.refl _).alloc _)⟩
  case round =>
    clear HO
    obtain ⟨k, hk, rfl, HH, HE⟩ := hrel
    have hsz : w2.heap.size ≤ wr.heap.size := HE.out.size
    by_cases hlt : k < n
    · have hlz : (k : Int) < (n : Int) := by omega
      obtain ⟨G, h1, h2, h3⟩ := HH.out
      have H1 := hide h1
      have H2 := hide h2
      have H3 := hide h3
      clear h1 h2 h3
      go_wp2_with (first | (at_make; refine wpList_make_full _ rfl _ _ 99 rfl w2.heap.size 4 j0 (.bool false) 1 Try.underlying99 hj hy0 hy1 .i64 .i64 n n n rfl rfl (by omega) (by omega) (by rw [hy2]; omega) (by unfold maxLen; omega) (by omega) ?_; intro w3 hown hgrow; have hX2 := grown_ext hgrow; have HX2 := hide hX2; have hs2 := hX2.size; clear hX2) | (at_builtin; refine wpList_append_own_at _ rfl _ _ 95 rfl w2.heap.size 99 i0 (.slice none 0 0) 1 24 Try.underlying95 hi hz0 hz1 hz2 rfl (by decide) u4 _ _ rfl (own_ext H1.out (HX2.out.alloc _)) ⟨w3.heap.size, 0, none⟩ 1 1 [Value.slice (some ⟨wr.heap.size, 0, none⟩) n n] rfl rfl (news_new _ #[Value.slice (some ⟨wr.heap.size, 0, none⟩) n n] _) (by intro u hu; simp at hu; subst hu; rfl) (by unfold maxLen; omega) (by omega) (by simp; omega) ?_; intro v' w4 hown4 hgrow4 hnil hblk))
      rw [made_falses] at hown
      have R := HdrB.step H1.out H2.out H3.out HX2.out rfl hsz (Blk.of_full hown) hgrow4 hblk hown4
      have E4 := Ext.grown ((HE.out.trans HX2.out).alloc _) hgrow4 (own_base H1.out (Nat.le_refl _))
      clear hown hgrow hown4 hgrow4 hnil hblk
      go_roundw
      case rel => exact ⟨k + 1, by omega, by go_num, hide R, hide E4⟩
      case measure => simp [intOf]; omega
    · obtain rfl : n = k := by omega
      obtain ⟨hd, ch, rfl, hch, hmat⟩ := HH.out.mat (by omega)
      have HM := hide hmat
      clear hmat HH
      have HT := hide (HTZ.out.ext HE.out)
      have kT := HT.out; simp only [Tr, Bx, CellsAt, Nat.reduceAdd, Nat.zero_add, and_true] at kT; obtain ⟨⟨kz0, kf0, kc0_0, kc0_1⟩, kE⟩ := kT
      have HE2 := HE
      go_wp2_with fail
      refine (HFA.out _ kE).mono ?_
      rintro e w5 ⟨ga, ca, rfl, hat, hb5⟩
      have HAT := hide hat
      have HM5 := hide (HM.out.ext hb5)
      have HE5 := hide (HE2.out.trans hb5)
      have hU : wr.heap.size ≤ w5.heap.size := hb5.size
      clear hat hb5 HM HE HE2
      clear kz0 kf0 kc0_0 kc0_1 kE
      clear HT
      obtain ⟨U, hU0⟩ : ∃ U, wr.heap.size = U := ⟨_, rfl⟩
      rw [hU0] at HAT HM5 hU
      clear hU0
      have HT := hide (HTZ.out.ext HE5.out)
      have kT := HT.out; simp only [Tr, Bx, CellsAt, Nat.reduceAdd, Nat.zero_add, and_true] at kT; obtain ⟨⟨kz0, kf0, kc0_0, kc0_1⟩, kE⟩ := kT
      go_wp2_with fail
      clear kz0 kf0 kc0_0 kc0_1 kE
      clear HT
      go_loopw [7] (fun i wi => ∃ k : Nat, k ≤ E.length ∧ i = .int .i64 k ∧ Hid (MatB wi w2.heap.size U hd n 99 4 (besTo s k)) ∧ Hid (wi.ownsRow U 3 1 (.slice (some ⟨ga, 0, none⟩) (2 * E.length) ca) (2 * E.length) (rowOf (2 * E.length) (fun d => ((s d : Nat) : Int)))) ∧ Hid (Ext w2 wi)) (fun i _ => E.length - (intOf i).toNat)
      case atStart => exact ⟨0, Nat.zero_le _, rfl, HM5, HAT, HE5⟩
      case round =>
        clear HM5 HAT HE5
        obtain ⟨k, hk, rfl, HM, HAT, HE⟩ := hrel
        have HT := hide (HTZ.out.ext HE.out)
        have kT := HT.out; simp only [Tr, Bx, CellsAt, Nat.reduceAdd, Nat.zero_add, and_true] at kT; obtain ⟨⟨kz0, kf0, kc0_0, kc0_1⟩, kE⟩ := kT
        by_cases hlt : k < E.length
        · have hlz : (k : Int) < (E.length : Int) := by omega
          have hat := HAT.out
          obtain ⟨i1, hi1⟩ : ∃ i1, i1 = 2 * k := ⟨_, rfl⟩
          obtain ⟨i2, hi2⟩ : ∃ i2, i2 = 2 * k + 1 := ⟨_, rfl⟩
          have ca1 := own_cellR hat (k := i1) (by omega)
          have ca2 := own_cellR hat (k := i2) (by omega)
          have y1 : (2 * (k : Int)).toNat = i1 := by omega
          have y2 : (2 * (k : Int) + 1).toNat = i2 := by omega
          have y3 : (0 : Int) ≤ 2 * (k : Int) := by omega
          have y4 : (0 : Int) ≤ 2 * (k : Int) + 1 := by omega
          have y5 : 2 * (k : Int) + 1 < 2 * (E.length : Int) := by omega
          have y8 : 2 * (k : Int) < 2 * (E.length : Int) := by omega
          have y6 : IntKind.i64.wrap (2 * (k : Int)) = 2 * (k : Int) := by rw [IntKind.wrap_i64]; omega
          have y7 : IntKind.i64.wrap (2 * (k : Int) + 1) = 2 * (k : Int) + 1 := by rw [IntKind.wrap_i64]; omega
          have hs1 := HSD.out i1
          have hs2 := HSD.out i2
          have HST := hide (bes_step (s := s) (k := k))
          have HSM := hide (bes_same (s := s) (k := k))
          rw [← hi2, ← hi1] at HST HSM
          obtain ⟨a, ha⟩ : ∃ a, s i1 = a := ⟨_, rfl⟩
          obtain ⟨b, hb⟩ : ∃ b, s i2 = b := ⟨_, rfl⟩
          rw [ha] at ca1 hs1 HST HSM
          rw [hb] at ca2 hs2 HST HSM
          clear hi1 hi2 hat ha hb
          by_cases hab : a = b
          · have t1 : ((a : Int) != (b : Int)) = false := by simp [hab]
            have t2 : (a != b) = false := by simp [hab]
            have t3 : ((a : Int) == (b : Int)) = true := by simp [hab]
            have t4 : (a == b) = true := by simp [hab]
            have HAB := hide hab
            clear hab
            go_wp2_with fail
            go_roundw
            case rel => exact ⟨k + 1, by omega, by go_num, hide (by rw [← HSM.out HAB.out]; exact HM.out), HAT, HE⟩
            case measure => simp [intOf]; omega
          · have t1 : ((a : Int) != (b : Int)) = true := by simp [hab]; omega
            have t2 : (a != b) = true := by simp [hab]
            have t3 : ((a : Int) == (b : Int)) = false := by simp; omega
            have t4 : (a == b) = false := by simp [hab]
            have z1 : (a : Int) < (n : Int) := by omega
            have z2 : (b : Int) < (n : Int) := by omega
            have HAB := hide hab
            clear hab
            obtain ⟨g1, m1, m2, m3, m4, m5, m6, m7⟩ := HM.out.at_ hs1 hs2
            have HM6 := hide (m7 true)
            obtain ⟨g2, p1, p2, p3, p4, p5, p6, p7⟩ := HM6.out.at_ hs2 hs1
            have HM7 := hide (p7 true)
            have HA7 := hide (ownsRow_setCell_below (ownsRow_setCell_below HAT.out (a := ⟨g1, b, none⟩) m5 (.bool true)) (a := ⟨g2, a, none⟩) p5 (.bool true))
            have HE7 := hide ((HE.out.setk m4 (.bool true) (o := b) (s := none)).setk p4 (.bool true) (o := a) (s := none))
            clear m7 p7
            obtain ⟨u2, p2⟩ : ∃ u2, (wr.setCell ⟨g1, b, none⟩ (.bool true)).cell? ⟨g2, a, none⟩ = some u2 := ⟨_, p2⟩
            go_wp2_with fail
            rw [HST.out HAB.out] at HM7
            obtain ⟨w8, hw8⟩ : ∃ w8, w8 = (wr.setCell ⟨g1, b, none⟩ (.bool true)).setCell ⟨g2, a, none⟩ (.bool true) := ⟨_, rfl⟩
            rw [← hw8] at HM7 HA7 HE7 ⊢
            clear hw8
            go_roundw
            case rel => exact ⟨k + 1, by omega, by go_num, HM7, HA7, HE7⟩
            case measure => simp [intOf]; omega
        · obtain rfl : k = E.length := by omega
          go_wp2_with fail
          go_ret
          exact ⟨hd, _, U, rfl, HM.out.mono HW2.out.size (Nat.le_refl _), HW2.out.trans HE.out⟩
end Go.Proofs.Ytkgbilbicdiadaa
