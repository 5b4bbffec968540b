/- Words and walks for the law FnMatches, a part of them. No condition but that the arguments lie in memory. -/
import Derived.Test.YtabgcpoaepafjaaGreatU15
import Derived.Test.YtabgcpoaepafjaaGreatU16
set_option linter.unusedVariables false
set_option linter.unusedSimpArgs false
namespace Go.Proofs.YtabgcpoaepafjaaGreat
open Go.RowKit
set_option maxRecDepth 20000 in
set_option maxHeartbeats 40000000 in
theorem l04Window_any (g : Nat) (l : List Int) (w : World) (hl : l.length ≤ 1048576) (hc : Cur w g l) :
    Calls Tryz.prog 110 #[.pointer (some ⟨g, 0, none⟩)] w fun e w' => ∃ N E A B c c', e = .returned (.agg #[.slice A N.length c, .slice B E.length c']) ∧ (5 ≤ N.length ∧ N.length ≤ 13 ∧ 4 ≤ E.length ∧ E.length ≤ N.length + 8) ∧ WN w' w.heap.size N E A B c c' ∧ Gx g l w w' := by
  have HC := hide hc
  have hgl := hc.lt
  clear hc
  
  go_enter Tryz.func110, Tryz.ntmps110
  go_wp2_with fail
  obtain ⟨w0, hw⟩ : ∃ w1, w1 = w.alloc (Obj.cells #[Value.slice none 0 0, Value.slice none 0 0] 27) := ⟨_, rfl⟩; rw [← hw]; have kT : Tr [(w.heap.size, [.slice none 0 0, .slice none 0 0])] w w0 := (by rw [hw]; exact ⟨by (first | (simp [Bx, CellsAt, go_sem, *]; done) | (simp [Bx, CellsAt, go_sem, *]; omega)), by (repeat (first | exact kE | exact Ext.refl _ | apply Ext.alloc | apply Ext.drewN | apply Ext.drew | apply Ext.set0 | apply Ext.set1 | apply Ext.set2 | apply Ext.set3 | (refine Ext.setk ?_ (by omega) _) | (apply Ext.snoc; assumption)))⟩); have HT := hide kT; clear hw kT; have kT := HT.out; simp only [Tr, Bx, CellsAt, Nat.reduceAdd, Nat.zero_add, and_true] at kT; obtain ⟨⟨kz0, kf0, kc0_0, kc0_1⟩, kE⟩ := kT
  have HG0 := hide (Gx.ext HC.out kE)
  have hs0 := kz0
  refine (l01Below_any g 5 l _ hl (by omega) (by omega) HG0.out.cur).mono ?_; rintro e w1 ⟨x, rfl, hx0, hx1, hc1, hg1⟩
  obtain ⟨k, rfl⟩ := Int.eq_ofNat_of_zero_le hx0
  have hk5 : k < 5 := by omega
  have hsh := sh_size hk5
  have HG1 := hide (Gx.mk hg1 hc1)
  have hng : ¬ w.heap.size = g := by omega
  have hs1 := HG1.out.size
  have HT' := hide (HG1.out.tr (by simp [Ap]; omega) HT.out)
  have HGA := hide (HG0.out.trans HG1.out)
  clear hc1 hg1 HG0 HG1
  clear kz0 kf0 kc0_0 kc0_1 kE
  clear HT; have HT := HT'; clear HT'
  have kT := HT.out; simp only [Tr, Bx, CellsAt, Nat.reduceAdd, Nat.zero_add, and_true] at kT; obtain ⟨⟨kz0, kf0, kc0_0, kc0_1⟩, kE⟩ := kT
  go_wp2_with fail
  refine (l04Shape_any k hk5 _).mono ?_
  rintro e w2 ⟨A, B, c, c', rfl, ho, hb⟩
  obtain ⟨N, hN⟩ : ∃ N, shN k = N := ⟨_, rfl⟩
  obtain ⟨E, hE⟩ : ∃ E, shE k = E := ⟨_, rfl⟩
  rw [hN, hE] at ho hsh ⊢
  clear hN hE
  have hs2 := hb.size
  have HG2 := hide (HGA.out.trans (Gx.ext HGA.out.cur hb))
  have HD2 := hide (ho.wd (base := w.heap.size + 1) (b := w2.heap.size) (by omega) (Nat.le_refl _))
  have HT' := hide (HT.out.ext hb); clear ho hb HT; have HT := HT'; clear HT'
  clear kz0 kf0 kc0_0 kc0_1 kE
  have kT := HT.out; simp only [Tr, Bx, CellsAt, Nat.reduceAdd, Nat.zero_add, and_true] at kT; obtain ⟨⟨kz0, kf0, kc0_0, kc0_1⟩, kE⟩ := kT
  go_wp2_with fail
  obtain ⟨w3, hw⟩ : ∃ w1, w1 = w2.alloc (Obj.cells #[Value.slice A N.length c, Value.slice B E.length c'] 27) := ⟨_, rfl⟩; rw [← hw]; have Hw3 := hide (show Ext w2 w3 from (by (rw [hw]; (try clear kE); repeat (first | exact kE | exact Ext.refl _ | apply Ext.alloc | apply Ext.drewN | apply Ext.drew | apply Ext.set0 | apply Ext.set1 | apply Ext.set2 | apply Ext.set3 | (refine Ext.setk ?_ (by omega) _) | (apply Ext.snoc; assumption))))); have HT := hide (HT.out.more Hw3.out (w2.heap.size) [.slice A N.length c, .slice B E.length c'] (by (rw [hw]; first | (simp [CellsAt, go_sem, *]; done) | (simp [CellsAt, go_sem, *]; omega)))); have Zw3 := hide (congrArg (fun z : World => z.heap.size) hw); clear hw kz0 kf0 kc0_0 kc0_1 kE; have kT := HT.out; simp only [Tr, Bx, CellsAt, Nat.reduceAdd, Nat.zero_add, and_true] at kT; obtain ⟨⟨⟨kz0, kf0, kc0_0, kc0_1⟩, ⟨kz1, kf1, kc1_0, kc1_1⟩⟩, kE⟩ := kT
  have HD3 := hide (HD2.out.ext Hw3.out)
  have HG3 := hide (HG2.out.trans (Gx.ext HG2.out.cur Hw3.out))
  have hb3 : w.heap.size + 1 ≤ w2.heap.size := by omega
  obtain ⟨b3, hb3e⟩ : ∃ b, b = w2.heap.size := ⟨_, rfl⟩
  rw [← hb3e] at HD3 HT kz0 kf0 kc0_0 kc0_1 hb3 ⊢
  clear HD2 HG2 HGA Hw3 Zw3 hb3e hs2
  refine (l01Below_any g 4 l _ hl (by omega) (by omega) HG3.out.cur).mono ?_; rintro e w4 ⟨x, rfl, hx0, hx1, hc1, hg1⟩
  obtain ⟨j0, rfl⟩ := Int.eq_ofNat_of_zero_le hx0
  have HG1 := hide (Gx.mk hg1 hc1)
  have HD4 := hide (HD3.out.gx HG1.out (by omega))
  
  have HT' := hide (HG1.out.tr (by simp [Ap]; omega) HT.out)
  have HG4 := hide (HG3.out.trans HG1.out)
  have hgb : g < b3 := by omega
  clear hc1 hg1 HG1 HG3 HD3
  clear kz0 kf0 kc0_0 kc0_1 kz1 kf1 kc1_0 kc1_1 kE
  clear HT; have HT := HT'; clear HT'
  go_wp2_with fail
  go_loopw [4] (fun i wr => ∃ (j : Nat) (N E : List P2) (A B : Option Addr) (c c' : Nat), j ≤ 3 ∧ i = .int .i64 j ∧ Hid (5 ≤ N.length ∧ N.length ≤ 12 ∧ 4 + j ≤ E.length ∧ E.length + j ≤ N.length + 8) ∧ Hid (WD wr (w.heap.size + 1) b3 N E A B c c') ∧ Hid (Tr [(b3, [.slice A N.length c, .slice B E.length c']), (w.heap.size, [.slice none 0 0, .slice none 0 0])] wr wr) ∧ Hid (Gx g l w wr)) (fun i _ => (intOf i).toNat)
  case atStart => exact ⟨j0, N, E, A, B, c, c', by omega, rfl, hide ⟨by omega, by omega, by omega, by omega⟩, hide HD4.out, hide HT.out, hide HG4.out⟩
  case round =>
    clear HT HG4 HD4 hsh hs1 hs0 hx0 hx1
    obtain ⟨j, N, E, A, B, c, c', hj, rfl, HN, HD, HT, HG⟩ := hrel
    have hszN := HN.out
    have hNN : N.length ≤ 12 := hszN.2.1
    have hEE : E.length ≤ 20 := by omega
    have hN5 : 5 ≤ N.length := hszN.1
    have hE4 : 4 + j ≤ E.length := hszN.2.2.1
    have kT := HT.out; simp only [Tr, Bx, CellsAt, Nat.reduceAdd, Nat.zero_add, and_true] at kT; obtain ⟨⟨⟨kz0, kf0, kc0_0, kc0_1⟩, ⟨kz1, kf1, kc1_0, kc1_1⟩⟩, kE⟩ := kT
    by_cases hj0 : 0 < j
    · go_wp2_with fail
      refine (l01Once_any g 2 l _ hl (by omega) (by omega) HG.out.cur).mono ?_; rintro e w5 ⟨bb, rfl, hc1, hg1⟩
      have HG1 := hide (Gx.mk hg1 hc1)
      have HG5 := hide (HG.out.trans HG1.out)
      have HD5 := hide (HD.out.gx HG1.out (by omega))
      have HT' := hide (HG1.out.tr (by simp [Ap]; omega) HT.out)
      clear hc1 hg1 HG1 HG HD
      clear kz0 kf0 kc0_0 kc0_1 kz1 kf1 kc1_0 kc1_1 kE
      clear HT; have HT := HT'; clear HT'
      have kT := HT.out; simp only [Tr, Bx, CellsAt, Nat.reduceAdd, Nat.zero_add, and_true] at kT; obtain ⟨⟨⟨kz0, kf0, kc0_0, kc0_1⟩, ⟨kz1, kf1, kc1_0, kc1_1⟩⟩, kE⟩ := kT
      have HC5 := hide HG5.out.cur
      have HWR := hide (fun (W : World) (hG : Gx g l w5 W) => (HD5.out.gx hG (by omega)).wr (by omega) (by omega))
      cases bb with
      | true =>
        go_wp2_with fail
        apply wp_region_GSL (K := Gx g l) 11 9 12 70 (by kernel_rfl) (Gx.drew HC5.out) (fun h1 h2 => h1.trans h2) [fun v _ => v = _, fun v _ => v = _, fun v _ => v = _, fun v _ => v = _, fun v _ => v = _, fun v _ => v = .int .i64 (E.length : Int), fun v _ => ∃ x : Nat, v = .int .i64 (x : Int) ∧ x < E.length, fun v w' => ∃ (u : Value) (E2 : List P2) (A2 B2 : Option Addr) (d d' : Nat), v = .tuple #[.agg #[.slice A2 N.length d, .slice B2 E2.length d'], u] ∧ (E2 = E ∨ E2.length + 1 = E.length) ∧ WD w' (w.heap.size + 1) b3 N E2 A2 B2 d d', fun v w' => ∃ (u : Value) (E2 : List P2) (A2 B2 : Option Addr) (d d' : Nat), v = .tuple #[.agg #[.slice A2 N.length d, .slice B2 E2.length d'], u] ∧ (E2 = E ∨ E2.length + 1 = E.length) ∧ WD w' (w.heap.size + 1) b3 N E2 A2 B2 d d', fun v w' => ∃ E2 A2 B2 d d', v = .agg #[.slice A2 N.length d, .slice B2 E2.length d'] ∧ (E2 = E ∨ E2.length + 1 = E.length) ∧ WD w' (w.heap.size + 1) b3 N E2 A2 B2 d d', fun _ _ => True, fun _ _ => True] (fun v w'' => ∃ E2 A2 B2 d d' w1, v = .agg #[.slice A2 N.length d, .slice B2 E2.length d'] ∧ (E2 = E ∨ E2.length + 1 = E.length) ∧ WD w1 (w.heap.size + 1) b3 N E2 A2 B2 d d' ∧ Gx g l w5 w1 ∧ w'' = (w1.setCell ⟨b3, 0, none⟩ (.slice A2 N.length d)).setCell ⟨b3, 1, none⟩ (.slice B2 E2.length d')) rfl (by kernel_rfl) (by kernel_rfl) (by kernel_rfl) (by kernel_rfl) (by kernel_rfl) (by kernel_rfl) (by kernel_rfl) rfl ⟨stabk_eq _ _, stabk_eq _ _, stabk_eq _ _, stabk_eq _ _, stabk_eq _ _, stabk_eq _ _, stabk_any _ _, (fun v W W' ⟨u, E2, A2, B2, d, d', h1, h2, h3⟩ hG => ⟨u, E2, A2, B2, d, d', h1, h2, h3.gx hG (by omega)⟩), (fun v W W' ⟨u, E2, A2, B2, d, d', h1, h2, h3⟩ hG => ⟨u, E2, A2, B2, d, d', h1, h2, h3.gx hG (by omega)⟩), (fun v W W' ⟨E2, A2, B2, d, d', h1, h2, h3⟩ hG => ⟨E2, A2, B2, d, d', h1, h2, h3.gx hG (by omega)⟩), stabk_true _, stabk_true _, trivial⟩ (by kernel_rfl) ?R6hop ?R6hst ?R6hop2 ?R6fin
        case R6hop =>
          intro a w' hE hA
          have c0 := hE.cell kz0 (by omega) kc0_0
          have c1 := hE.cell kz0 (by omega) kc0_1
          have f0 := hE.frz kz0 (by omega) kf0
          have z0 : b3 < w'.heap.size := Nat.lt_of_lt_of_le kz0 hE.size
          have hcu := hide hE.cur
          have HE := hide hE
          refine ⟨⟨⟨⟨⟨⟨⟨⟨⟨⟨⟨⟨trivial, ?_⟩, ?_⟩, ?_⟩, ?_⟩, ?_⟩, ?_⟩, ?_⟩, ?_⟩, ?_⟩, ?_⟩, ?_⟩, ?_⟩
          · intro _ _ hp
            have s3 := hA 3 (by rfl)
            simp [sl] at s3
            clear hp
            refine wpOp_of_list rfl rfl ?_
            go_wp2_with (fail)
            exact ⟨_, rfl, rfl, Gx.refl hcu.out⟩
          · intro _ _ hp
            have s0 := hA 0 (by rfl)
            simp [sl] at s0
            clear hp
            refine wpOp_of_list rfl rfl ?_
            go_wp2_with (fail)
            exact ⟨_, rfl, rfl, Gx.refl hcu.out⟩
          · intro _ _ hp
            have s3 := hA 3 (by rfl)
            simp [sl] at s3
            clear hp
            refine wpOp_of_list rfl rfl ?_
            go_wp2_with (fail)
            exact ⟨_, rfl, rfl, Gx.refl hcu.out⟩
          · intro _ _ hp
            have s20 := hp 2 (by rfl)
            change a.tmps.getD 20 undef = _ at s20
            simp at s20
            clear hp
            refine wpOp_of_list rfl rfl ?_
            go_wp2_with (fail)
            exact ⟨_, rfl, rfl, Gx.refl hcu.out⟩
          · intro _ _ hp
            have s21 := hp 3 (by rfl)
            change a.tmps.getD 21 undef = _ at s21
            simp at s21
            clear hp
            refine wpOp_of_list rfl rfl ?_
            go_wp2_with (fail)
            exact ⟨_, rfl, rfl, Gx.refl hcu.out⟩
          · intro _ _ hp
            have s22 := hp 4 (by rfl)
            change a.tmps.getD 22 undef = _ at s22
            simp at s22
            clear hp
            refine wpOp_of_list rfl rfl ?_
            go_wp2_with (fail)
            exact ⟨_, rfl, by first | rfl | (congr 1; omega) | (congr 1; simp; omega), Gx.refl hcu.out⟩
          · intro _ _ hp
            have s19 := hp 1 (by rfl)
            change a.tmps.getD 19 undef = _ at s19
            simp at s19
            have s23 := hp 5 (by rfl)
            obtain s23 := s23
            change a.tmps.getD 23 undef = _ at s23
            simp at s23
            clear hp
            refine wpOp_of_list rfl rfl ?_
            go_wp2_with (go_at_call 58; refine (l01Below_any g E.length l _ hl (by omega) (by omega) hcu.out).mono ?_; rintro e wq ⟨x, rfl, hx0, hx1, hcq, hgq⟩; obtain ⟨x, rfl⟩ := Int.eq_ofNat_of_zero_le hx0)
            exact ⟨_, rfl, ⟨x, rfl, by omega⟩, ⟨hgq, hcq⟩⟩
          · intro _ _ hp
            have s18 := hp 0 (by rfl)
            change a.tmps.getD 18 undef = _ at s18
            simp at s18
            have s24 := hp 6 (by rfl)
            obtain ⟨x, s24, hx⟩ := s24
            change a.tmps.getD 24 undef = _ at s24
            simp at s24
            clear hp
            refine wpOp_of_list rfl rfl ?_
            go_wp2_with (go_at_call 126; refine (DropLead_any N E A B c c' x _ (HWR.out _ HE.out) (by omega) (by omega) (by omega) (by omega) hx).mono ?_; rintro e wq ⟨ok, E2, A2, B2, d, d', rfl, hE2, hwn, hbq⟩)
            exact ⟨_, rfl, ⟨_, E2, A2, B2, d, d', rfl, hE2, WN.wd hwn (by omega) (by omega)⟩, Gx.ext hcu.out hbq⟩
          · intro _ _ hp
            have s25 := hp 7 (by rfl)
            obtain ⟨u, E2, A2, B2, d, d', s25, hE2, hwd⟩ := s25
            change a.tmps.getD 25 undef = _ at s25
            simp at s25
            clear hp
            refine wpOp_of_list rfl rfl ?_
            go_wp2_with (fail)
            exact ⟨_, rfl, ⟨_, E2, A2, B2, d, d', rfl, hE2, hwd⟩, Gx.refl hcu.out⟩
          · intro _ _ hp
            have s17 := hp 8 (by rfl)
            obtain ⟨u, E2, A2, B2, d, d', s17, hE2, hwd⟩ := s17
            change a.tmps.getD 17 undef = _ at s17
            simp at s17
            clear hp
            refine wpOp_of_list rfl rfl ?_
            go_wp2_with (fail)
            exact ⟨_, rfl, ⟨E2, A2, B2, d, d', rfl, hE2, hwd⟩, Gx.refl hcu.out⟩
          · intro _ _ hp
            have s17 := hp 8 (by rfl)
            obtain ⟨u, E2, A2, B2, d, d', s17, hE2, hwd⟩ := s17
            change a.tmps.getD 17 undef = _ at s17
            simp at s17
            clear hp
            refine wpOp_of_list rfl rfl ?_
            go_wp2_with (fail)
            exact ⟨_, rfl, trivial, Gx.refl hcu.out⟩
          · intro h; exact absurd rfl h
        case R6hst =>
          intro a w' hE hA hp
          have c0 := hE.cell kz0 (by omega) kc0_0
          have c1 := hE.cell kz0 (by omega) kc0_1
          have f0 := hE.frz kz0 (by omega) kf0
          have z0 : b3 < w'.heap.size := Nat.lt_of_lt_of_le kz0 hE.size
          have hcu := hide hE.cur
          have HE := hide hE
          have s3 := hA 3 (by rfl)
          simp [sl] at s3
          have s26 := hp 9 (by rfl)
          obtain ⟨E2, A2, B2, d, d', s26, hE2, hwd⟩ := s26
          change a.tmps.getD 26 undef = _ at s26
          simp at s26
          clear hp
          refine wpOp_of_list rfl rfl ?_
          go_wp2_with fail
          exact ⟨by first | trivial | rfl | assumption, E2, A2, B2, d, d', w', by simpa [slo, sl, dstAt] using s26, hE2, hwd, HE.out, by first | rfl | simp⟩
        case R6hop2 =>
          intro a w' hA
          refine ⟨⟨⟨⟨⟨⟨⟨⟨⟨⟨⟨⟨trivial, ?_⟩, ?_⟩, ?_⟩, ?_⟩, ?_⟩, ?_⟩, ?_⟩, ?_⟩, ?_⟩, ?_⟩, ?_⟩, ?_⟩
          · intro _ hw hp
            exact absurd (hw.symm.trans (by kernel_rfl : _ = true)) Bool.false_ne_true
          · intro _ hw hp
            exact absurd (hw.symm.trans (by kernel_rfl : _ = true)) Bool.false_ne_true
          · intro _ hw hp
            exact absurd (hw.symm.trans (by kernel_rfl : _ = true)) Bool.false_ne_true
          · intro _ hw hp
            exact absurd (hw.symm.trans (by kernel_rfl : _ = true)) Bool.false_ne_true
          · intro _ hw hp
            exact absurd (hw.symm.trans (by kernel_rfl : _ = true)) Bool.false_ne_true
          · intro _ hw hp
            exact absurd (hw.symm.trans (by kernel_rfl : _ = true)) Bool.false_ne_true
          · intro _ hw hp
            exact absurd (hw.symm.trans (by kernel_rfl : _ = true)) Bool.false_ne_true
          · intro _ hw hp
            exact absurd (hw.symm.trans (by kernel_rfl : _ = true)) Bool.false_ne_true
          · intro _ hw hp
            exact absurd (hw.symm.trans (by kernel_rfl : _ = true)) Bool.false_ne_true
          · intro _ hw hp
            exact absurd (hw.symm.trans (by kernel_rfl : _ = true)) Bool.false_ne_true
          · intro _ hw hp
            obtain ⟨wq17, s17⟩ := hp 8 (by decide) (by rfl)
            obtain ⟨u, E2, A2, B2, d, d', s17, hE2, hwd⟩ := s17
            change a.tmps.getD 17 undef = _ at s17
            simp at s17
            clear hp
            refine wpOp_of_list rfl rfl ?_
            go_wp2_with fail
            first | exact ⟨⟨_, rfl, wq17, trivial⟩, rfl⟩ | exact ⟨_, rfl, wq17, trivial⟩
          · intro h; exact absurd rfl h
        case R6fin =>
          intro X w' hP hp
          obtain ⟨⟨⟨⟨⟨⟨⟨⟨⟨⟨⟨⟨-, h0⟩, h1⟩, h2⟩, h3⟩, h4⟩, h5⟩, h6⟩, h7⟩, h8⟩, h9⟩, h10⟩, h11⟩ := hp
          replace h0 := h0 (by decide)
          obtain ⟨_, h0⟩ := h0
          change X 0 = _ at h0
          replace h1 := h1 (by decide)
          obtain ⟨_, h1⟩ := h1
          change X 1 = _ at h1
          replace h2 := h2 (by decide)
          obtain ⟨_, h2⟩ := h2
          change X 2 = _ at h2
          replace h3 := h3 (by decide)
          obtain ⟨_, h3⟩ := h3
          change X 3 = _ at h3
          replace h4 := h4 (by decide)
          obtain ⟨_, h4⟩ := h4
          change X 4 = _ at h4
          replace h5 := h5 (by decide)
          obtain ⟨_, h5⟩ := h5
          obtain h5 := h5
          change X 5 = _ at h5
          replace h6 := h6 (by decide)
          obtain ⟨_, h6⟩ := h6
          obtain ⟨x, h6, hx⟩ := h6
          change X 6 = _ at h6
          replace h7 := h7 (by decide)
          obtain ⟨_, h7⟩ := h7
          obtain ⟨u, E2, A2, B2, d, d', h7, -, -⟩ := h7
          change X 7 = _ at h7
          replace h8 := h8 (by decide)
          obtain ⟨_, h8⟩ := h8
          obtain ⟨u, E2, A2, B2, d, d', h8, -, -⟩ := h8
          change X 8 = _ at h8
          replace h9 := h9 (by decide)
          obtain ⟨_, h9⟩ := h9
          obtain ⟨E2, A2, B2, d, d', h9, -, -⟩ := h9
          change X 9 = _ at h9
          clear h10
          clear h11
          go_simp
          clear h0 h1 h2 h3 h4 h5 h6 h7 h8 h9
          obtain ⟨E3, A3, B3, d3, d3', w7, hX, hE3, hwd, hgx, hw⟩ := hP
          have hE3l : E3.length = E.length ∨ E3.length + 1 = E.length := hE3.imp (fun h => by rw [h]) id
          have HD7 := hide (hwd.set2 hw)
          have HG7 := hide ((HG5.out.trans hgx).set2 (by omega) hgb hw)
          have HT' := hide (Tr.set2 (hgx.tr (by simp [Ap]; omega) HT.out) (by simp [Ap]; omega) hw)
          clear hw hwd hgx
          clear kz0 kf0 kc0_0 kc0_1 kz1 kf1 kc1_0 kc1_1 kE
          go_wp2_with fail
          go_roundw
          case rel => exact ⟨j - 1, N, E3, A3, B3, d3, d3', by omega, by go_num, hide ⟨by omega, by omega, by omega, by omega⟩, hide HD7.out, hide HT'.out, hide HG7.out⟩
          case measure => simp [intOf]; omega
      | false =>
        go_wp2_with fail
        apply wp_region_GSL (K := Gx g l) 15 13 16 70 (by kernel_rfl) (Gx.drew HC5.out) (fun h1 h2 => h1.trans h2) [fun v _ => v = _, fun v _ => v = _, fun v _ => v = _, fun v _ => v = _, fun v _ => v = _, fun v _ => ∃ x : Nat, v = .int .i64 (x : Int) ∧ x < N.length, fun v _ => v = _, fun v _ => v = _, fun v _ => v = _, fun v _ => v = _, fun v _ => ∃ x : Nat, v = .int .i64 (x : Int) ∧ x < N.length, fun v w' => ∃ (u : Value) (E2 : List P2) (A2 B2 : Option Addr) (d d' : Nat), v = .tuple #[.agg #[.slice A2 N.length d, .slice B2 E2.length d'], u] ∧ (E2 = E ∨ E2.length = E.length + 1) ∧ WD w' (w.heap.size + 1) b3 N E2 A2 B2 d d', fun v w' => ∃ (u : Value) (E2 : List P2) (A2 B2 : Option Addr) (d d' : Nat), v = .tuple #[.agg #[.slice A2 N.length d, .slice B2 E2.length d'], u] ∧ (E2 = E ∨ E2.length = E.length + 1) ∧ WD w' (w.heap.size + 1) b3 N E2 A2 B2 d d', fun v w' => ∃ E2 A2 B2 d d', v = .agg #[.slice A2 N.length d, .slice B2 E2.length d'] ∧ (E2 = E ∨ E2.length = E.length + 1) ∧ WD w' (w.heap.size + 1) b3 N E2 A2 B2 d d', fun _ _ => True, fun _ _ => True] (fun v w'' => ∃ E2 A2 B2 d d' w1, v = .agg #[.slice A2 N.length d, .slice B2 E2.length d'] ∧ (E2 = E ∨ E2.length = E.length + 1) ∧ WD w1 (w.heap.size + 1) b3 N E2 A2 B2 d d' ∧ Gx g l w5 w1 ∧ w'' = (w1.setCell ⟨b3, 0, none⟩ (.slice A2 N.length d)).setCell ⟨b3, 1, none⟩ (.slice B2 E2.length d')) rfl (by kernel_rfl) (by kernel_rfl) (by kernel_rfl) (by kernel_rfl) (by kernel_rfl) (by kernel_rfl) (by kernel_rfl) rfl ⟨stabk_eq _ _, stabk_eq _ _, stabk_eq _ _, stabk_eq _ _, stabk_eq _ _, stabk_any _ _, stabk_eq _ _, stabk_eq _ _, stabk_eq _ _, stabk_eq _ _, stabk_any _ _, (fun v W W' ⟨u, E2, A2, B2, d, d', h1, h2, h3⟩ hG => ⟨u, E2, A2, B2, d, d', h1, h2, h3.gx hG (by omega)⟩), (fun v W W' ⟨u, E2, A2, B2, d, d', h1, h2, h3⟩ hG => ⟨u, E2, A2, B2, d, d', h1, h2, h3.gx hG (by omega)⟩), (fun v W W' ⟨E2, A2, B2, d, d', h1, h2, h3⟩ hG => ⟨E2, A2, B2, d, d', h1, h2, h3.gx hG (by omega)⟩), stabk_true _, stabk_true _, trivial⟩ (by kernel_rfl) ?R7hop ?R7hst ?R7hop2 ?R7fin
        case R7hop =>
          intro a w' hE hA
          have c0 := hE.cell kz0 (by omega) kc0_0
          have c1 := hE.cell kz0 (by omega) kc0_1
          have f0 := hE.frz kz0 (by omega) kf0
          have z0 : b3 < w'.heap.size := Nat.lt_of_lt_of_le kz0 hE.size
          have hcu := hide hE.cur
          have HE := hide hE
          refine ⟨⟨⟨⟨⟨⟨⟨⟨⟨⟨⟨⟨⟨⟨⟨⟨trivial, ?_⟩, ?_⟩, ?_⟩, ?_⟩, ?_⟩, ?_⟩, ?_⟩, ?_⟩, ?_⟩, ?_⟩, ?_⟩, ?_⟩, ?_⟩, ?_⟩, ?_⟩, ?_⟩
          · intro _ _ hp
            have s3 := hA 3 (by rfl)
            simp [sl] at s3
            clear hp
            refine wpOp_of_list rfl rfl ?_
            go_wp2_with (fail)
            exact ⟨_, rfl, rfl, Gx.refl hcu.out⟩
          · intro _ _ hp
            have s0 := hA 0 (by rfl)
            simp [sl] at s0
            clear hp
            refine wpOp_of_list rfl rfl ?_
            go_wp2_with (fail)
            exact ⟨_, rfl, rfl, Gx.refl hcu.out⟩
          · intro _ _ hp
            have s3 := hA 3 (by rfl)
            simp [sl] at s3
            clear hp
            refine wpOp_of_list rfl rfl ?_
            go_wp2_with (fail)
            exact ⟨_, rfl, rfl, Gx.refl hcu.out⟩
          · intro _ _ hp
            have s31 := hp 2 (by rfl)
            change a.tmps.getD 31 undef = _ at s31
            simp at s31
            clear hp
            refine wpOp_of_list rfl rfl ?_
            go_wp2_with (fail)
            exact ⟨_, rfl, rfl, Gx.refl hcu.out⟩
          · intro _ _ hp
            have s32 := hp 3 (by rfl)
            change a.tmps.getD 32 undef = _ at s32
            simp at s32
            clear hp
            refine wpOp_of_list rfl rfl ?_
            go_wp2_with (fail)
            exact ⟨_, rfl, rfl, Gx.refl hcu.out⟩
          · intro _ _ hp
            have s30 := hp 1 (by rfl)
            change a.tmps.getD 30 undef = _ at s30
            simp at s30
            have s33 := hp 4 (by rfl)
            change a.tmps.getD 33 undef = _ at s33
            simp at s33
            clear hp
            refine wpOp_of_list rfl rfl ?_
            go_wp2_with (go_at_call 58; refine (l01Below_any g N.length l _ hl (by omega) (by omega) hcu.out).mono ?_; rintro e wq ⟨x, rfl, hx0, hx1, hcq, hgq⟩; obtain ⟨x, rfl⟩ := Int.eq_ofNat_of_zero_le hx0)
            exact ⟨_, rfl, ⟨x, rfl, by omega⟩, ⟨hgq, hcq⟩⟩
          · intro _ _ hp
            have s0 := hA 0 (by rfl)
            simp [sl] at s0
            clear hp
            refine wpOp_of_list rfl rfl ?_
            go_wp2_with (fail)
            exact ⟨_, rfl, rfl, Gx.refl hcu.out⟩
          · intro _ _ hp
            have s3 := hA 3 (by rfl)
            simp [sl] at s3
            clear hp
            refine wpOp_of_list rfl rfl ?_
            go_wp2_with (fail)
            exact ⟨_, rfl, rfl, Gx.refl hcu.out⟩
          · intro _ _ hp
            have s36 := hp 7 (by rfl)
            change a.tmps.getD 36 undef = _ at s36
            simp at s36
            clear hp
            refine wpOp_of_list rfl rfl ?_
            go_wp2_with (fail)
            exact ⟨_, rfl, rfl, Gx.refl hcu.out⟩
          · intro _ _ hp
            have s37 := hp 8 (by rfl)
            change a.tmps.getD 37 undef = _ at s37
            simp at s37
            clear hp
            refine wpOp_of_list rfl rfl ?_
            go_wp2_with (fail)
            exact ⟨_, rfl, rfl, Gx.refl hcu.out⟩
          · intro _ _ hp
            have s35 := hp 6 (by rfl)
            change a.tmps.getD 35 undef = _ at s35
            simp at s35
            have s38 := hp 9 (by rfl)
            change a.tmps.getD 38 undef = _ at s38
            simp at s38
            clear hp
            refine wpOp_of_list rfl rfl ?_
            go_wp2_with (go_at_call 58; refine (l01Below_any g N.length l _ hl (by omega) (by omega) hcu.out).mono ?_; rintro e wq ⟨x, rfl, hx0, hx1, hcq, hgq⟩; obtain ⟨x, rfl⟩ := Int.eq_ofNat_of_zero_le hx0)
            exact ⟨_, rfl, ⟨x, rfl, by omega⟩, ⟨hgq, hcq⟩⟩
          · intro _ _ hp
            have s29 := hp 0 (by rfl)
            change a.tmps.getD 29 undef = _ at s29
            simp at s29
            have s34 := hp 5 (by rfl)
            obtain ⟨x, s34, hx⟩ := s34
            change a.tmps.getD 34 undef = _ at s34
            simp at s34
            have s39 := hp 10 (by rfl)
            obtain ⟨y, s39, hy⟩ := s39
            change a.tmps.getD 39 undef = _ at s39
            simp at s39
            clear hp
            refine wpOp_of_list rfl rfl ?_
            go_wp2_with (go_at_call 127; refine (AddLead_any N E A B c c' x y _ (HWR.out _ HE.out) (by omega) (by omega) (by omega)).mono ?_; rintro e wq ⟨ok, E2, A2, B2, d, d', rfl, hE2, hwn, hbq⟩)
            exact ⟨_, rfl, ⟨_, E2, A2, B2, d, d', rfl, hE2, WN.wd hwn (by omega) (by omega)⟩, Gx.ext hcu.out hbq⟩
          · intro _ _ hp
            have s40 := hp 11 (by rfl)
            obtain ⟨u, E2, A2, B2, d, d', s40, hE2, hwd⟩ := s40
            change a.tmps.getD 40 undef = _ at s40
            simp at s40
            clear hp
            refine wpOp_of_list rfl rfl ?_
            go_wp2_with (fail)
            exact ⟨_, rfl, ⟨_, E2, A2, B2, d, d', rfl, hE2, hwd⟩, Gx.refl hcu.out⟩
          · intro _ _ hp
            have s28 := hp 12 (by rfl)
            obtain ⟨u, E2, A2, B2, d, d', s28, hE2, hwd⟩ := s28
            change a.tmps.getD 28 undef = _ at s28
            simp at s28
            clear hp
            refine wpOp_of_list rfl rfl ?_
            go_wp2_with (fail)
            exact ⟨_, rfl, ⟨E2, A2, B2, d, d', rfl, hE2, hwd⟩, Gx.refl hcu.out⟩
          · intro _ _ hp
            have s28 := hp 12 (by rfl)
            obtain ⟨u, E2, A2, B2, d, d', s28, hE2, hwd⟩ := s28
            change a.tmps.getD 28 undef = _ at s28
            simp at s28
            clear hp
            refine wpOp_of_list rfl rfl ?_
            go_wp2_with (fail)
            exact ⟨_, rfl, trivial, Gx.refl hcu.out⟩
          · intro h; exact absurd rfl h
        case R7hst =>
          intro a w' hE hA hp
          have c0 := hE.cell kz0 (by omega) kc0_0
          have c1 := hE.cell kz0 (by omega) kc0_1
          have f0 := hE.frz kz0 (by omega) kf0
          have z0 : b3 < w'.heap.size := Nat.lt_of_lt_of_le kz0 hE.size
          have hcu := hide hE.cur
          have HE := hide hE
          have s3 := hA 3 (by rfl)
          simp [sl] at s3
          have s41 := hp 13 (by rfl)
          obtain ⟨E2, A2, B2, d, d', s41, hE2, hwd⟩ := s41
          change a.tmps.getD 41 undef = _ at s41
          simp at s41
          clear hp
          refine wpOp_of_list rfl rfl ?_
          go_wp2_with fail
          exact ⟨by first | trivial | rfl | assumption, E2, A2, B2, d, d', w', by simpa [slo, sl, dstAt] using s41, hE2, hwd, HE.out, by first | rfl | simp⟩
        case R7hop2 =>
          intro a w' hA
          refine ⟨⟨⟨⟨⟨⟨⟨⟨⟨⟨⟨⟨⟨⟨⟨⟨trivial, ?_⟩, ?_⟩, ?_⟩, ?_⟩, ?_⟩, ?_⟩, ?_⟩, ?_⟩, ?_⟩, ?_⟩, ?_⟩, ?_⟩, ?_⟩, ?_⟩, ?_⟩, ?_⟩
          · intro _ hw hp
            exact absurd (hw.symm.trans (by kernel_rfl : _ = true)) Bool.false_ne_true
          · intro _ hw hp
            exact absurd (hw.symm.trans (by kernel_rfl : _ = true)) Bool.false_ne_true
          · intro _ hw hp
            exact absurd (hw.symm.trans (by kernel_rfl : _ = true)) Bool.false_ne_true
          · intro _ hw hp
            exact absurd (hw.symm.trans (by kernel_rfl : _ = true)) Bool.false_ne_true
          · intro _ hw hp
            exact absurd (hw.symm.trans (by kernel_rfl : _ = true)) Bool.false_ne_true
          · intro _ hw hp
            exact absurd (hw.symm.trans (by kernel_rfl : _ = true)) Bool.false_ne_true
          · intro _ hw hp
            exact absurd (hw.symm.trans (by kernel_rfl : _ = true)) Bool.false_ne_true
          · intro _ hw hp
            exact absurd (hw.symm.trans (by kernel_rfl : _ = true)) Bool.false_ne_true
          · intro _ hw hp
            exact absurd (hw.symm.trans (by kernel_rfl : _ = true)) Bool.false_ne_true
          · intro _ hw hp
            exact absurd (hw.symm.trans (by kernel_rfl : _ = true)) Bool.false_ne_true
          · intro _ hw hp
            exact absurd (hw.symm.trans (by kernel_rfl : _ = true)) Bool.false_ne_true
          · intro _ hw hp
            exact absurd (hw.symm.trans (by kernel_rfl : _ = true)) Bool.false_ne_true
          · intro _ hw hp
            exact absurd (hw.symm.trans (by kernel_rfl : _ = true)) Bool.false_ne_true
          · intro _ hw hp
            exact absurd (hw.symm.trans (by kernel_rfl : _ = true)) Bool.false_ne_true
          · intro _ hw hp
            obtain ⟨wq28, s28⟩ := hp 12 (by decide) (by rfl)
            obtain ⟨u, E2, A2, B2, d, d', s28, hE2, hwd⟩ := s28
            change a.tmps.getD 28 undef = _ at s28
            simp at s28
            clear hp
            refine wpOp_of_list rfl rfl ?_
            go_wp2_with fail
            first | exact ⟨⟨_, rfl, wq28, trivial⟩, rfl⟩ | exact ⟨_, rfl, wq28, trivial⟩
          · intro h; exact absurd rfl h
        case R7fin =>
          intro X w' hP hp
          obtain ⟨⟨⟨⟨⟨⟨⟨⟨⟨⟨⟨⟨⟨⟨⟨⟨-, h0⟩, h1⟩, h2⟩, h3⟩, h4⟩, h5⟩, h6⟩, h7⟩, h8⟩, h9⟩, h10⟩, h11⟩, h12⟩, h13⟩, h14⟩, h15⟩ := hp
          replace h0 := h0 (by decide)
          obtain ⟨_, h0⟩ := h0
          change X 0 = _ at h0
          replace h1 := h1 (by decide)
          obtain ⟨_, h1⟩ := h1
          change X 1 = _ at h1
          replace h2 := h2 (by decide)
          obtain ⟨_, h2⟩ := h2
          change X 2 = _ at h2
          replace h3 := h3 (by decide)
          obtain ⟨_, h3⟩ := h3
          change X 3 = _ at h3
          replace h4 := h4 (by decide)
          obtain ⟨_, h4⟩ := h4
          change X 4 = _ at h4
          replace h5 := h5 (by decide)
          obtain ⟨_, h5⟩ := h5
          obtain ⟨x, h5, hx⟩ := h5
          change X 5 = _ at h5
          replace h6 := h6 (by decide)
          obtain ⟨_, h6⟩ := h6
          change X 6 = _ at h6
          replace h7 := h7 (by decide)
          obtain ⟨_, h7⟩ := h7
          change X 7 = _ at h7
          replace h8 := h8 (by decide)
          obtain ⟨_, h8⟩ := h8
          change X 8 = _ at h8
          replace h9 := h9 (by decide)
          obtain ⟨_, h9⟩ := h9
          change X 9 = _ at h9
          replace h10 := h10 (by decide)
          obtain ⟨_, h10⟩ := h10
          obtain ⟨y, h10, hy⟩ := h10
          change X 10 = _ at h10
          replace h11 := h11 (by decide)
          obtain ⟨_, h11⟩ := h11
          obtain ⟨u, E2, A2, B2, d, d', h11, -, -⟩ := h11
          change X 11 = _ at h11
          replace h12 := h12 (by decide)
          obtain ⟨_, h12⟩ := h12
          obtain ⟨u, E2, A2, B2, d, d', h12, -, -⟩ := h12
          change X 12 = _ at h12
          replace h13 := h13 (by decide)
          obtain ⟨_, h13⟩ := h13
          obtain ⟨E2, A2, B2, d, d', h13, -, -⟩ := h13
          change X 13 = _ at h13
          clear h14
          clear h15
          go_simp
          clear h0 h1 h2 h3 h4 h5 h6 h7 h8 h9 h10 h11 h12 h13
          obtain ⟨E3, A3, B3, d3, d3', w7, hX, hE3, hwd, hgx, hw⟩ := hP
          have hE3l : E3.length = E.length ∨ E3.length = E.length + 1 := hE3.imp (fun h => by rw [h]) id
          have HD7 := hide (hwd.set2 hw)
          have HG7 := hide ((HG5.out.trans hgx).set2 (by omega) hgb hw)
          have HT' := hide (Tr.set2 (hgx.tr (by simp [Ap]; omega) HT.out) (by simp [Ap]; omega) hw)
          clear hw hwd hgx
          clear kz0 kf0 kc0_0 kc0_1 kz1 kf1 kc1_0 kc1_1 kE
          go_wp2_with fail
          go_roundw
          case rel => exact ⟨j - 1, N, E3, A3, B3, d3, d3', by omega, by go_num, hide ⟨by omega, by omega, by omega, by omega⟩, hide HD7.out, hide HT'.out, hide HG7.out⟩
          case measure => simp [intOf]; omega
    · obtain rfl : j = 0 := by omega
      go_wp2_with fail
      refine (l01Once_any g 4 l _ hl (by omega) (by omega) HG.out.cur).mono ?_; rintro e w5 ⟨bb, rfl, hc1, hg1⟩
      have HG1 := hide (Gx.mk hg1 hc1)
      have HG5 := hide (HG.out.trans HG1.out)
      have HD5 := hide (HD.out.gx HG1.out (by omega))
      have HT' := hide (HG1.out.tr (by simp [Ap]; omega) HT.out)
      clear hc1 hg1 HG1 HG HD
      clear kz0 kf0 kc0_0 kc0_1 kz1 kf1 kc1_0 kc1_1 kE
      clear HT; have HT := HT'; clear HT'
      have kT := HT.out; simp only [Tr, Bx, CellsAt, Nat.reduceAdd, Nat.zero_add, and_true] at kT; obtain ⟨⟨⟨kz0, kf0, kc0_0, kc0_1⟩, ⟨kz1, kf1, kc1_0, kc1_1⟩⟩, kE⟩ := kT
      have HC5 := hide HG5.out.cur
      have HWR := hide (fun (W : World) (hG : Gx g l w5 W) => (HD5.out.gx hG (by omega)).wr (by omega) (by omega))
      cases bb with
      | false =>
        go_wp2_with fail
        refine bodyPost_ret (v := .agg #[.slice A N.length c, .slice B E.length c']) (by simp only [results, Tryz.results110]; go_simp) rfl ⟨N, E, A, B, c, c', rfl, ⟨by omega, by omega, by omega, by omega⟩, (((HD5.out.low (k := w.heap.size) (by omega) 0 _).low (k := w.heap.size) (by omega) 1 _).wn).mono (by omega), ⟨grown_new (grown_new HG5.out.gr (Nat.le_refl _) _ _) (Nat.le_refl _) _ _, (HG5.out.cur.setk hgl _ _).setk hgl _ _⟩⟩
      | true =>
        have hzw5 := HG5.out.size
        have hz5 := kz1
        have hz5b := kz0
        go_wp2_with fail
        refine (l04Copy_any N E A B c c' _ (HWR.out _ (Gx.refl HC5.out)) (by omega) (by omega)).mono ?_
        rintro e w6 ⟨A6, B6, d6, d6', rfl, ho1, ho2, hb6⟩
        have hz6 := hb6.size
        have HN6 := hide ho1
        have HL6 := hide ho2
        have HD6 := hide (HD5.out.ext hb6)
        have HG6 := hide (HG5.out.trans (Gx.ext HC5.out hb6))
        have HT' := hide (HT.out.ext hb6); clear ho1 ho2 hb6 HT; have HT := HT'; clear HT'
        clear kz0 kf0 kc0_0 kc0_1 kz1 kf1 kc1_0 kc1_1 kE
        have kT := HT.out; simp only [Tr, Bx, CellsAt, Nat.reduceAdd, Nat.zero_add, and_true] at kT; obtain ⟨⟨⟨kz0, kf0, kc0_0, kc0_1⟩, ⟨kz1, kf1, kc1_0, kc1_1⟩⟩, kE⟩ := kT
        go_wp2_with fail
        obtain ⟨w7, hw⟩ : ∃ w1, w1 = w6.alloc (Obj.cells #[Value.slice A6 N.length d6, Value.slice B6 E.length d6'] 27) := ⟨_, rfl⟩; rw [← hw]; have Hw7 := hide (show Ext w6 w7 from (by (rw [hw]; (try clear kE); repeat (first | exact kE | exact Ext.refl _ | apply Ext.alloc | apply Ext.drewN | apply Ext.drew | apply Ext.set0 | apply Ext.set1 | apply Ext.set2 | apply Ext.set3 | (refine Ext.setk ?_ (by omega) _) | (apply Ext.snoc; assumption))))); have HT := hide (HT.out.more Hw7.out (w6.heap.size) [.slice A6 N.length d6, .slice B6 E.length d6'] (by (rw [hw]; first | (simp [CellsAt, go_sem, *]; done) | (simp [CellsAt, go_sem, *]; omega)))); have Zw7 := hide (congrArg (fun z : World => z.heap.size) hw); clear hw kz0 kf0 kc0_0 kc0_1 kz1 kf1 kc1_0 kc1_1 kE; have kT := HT.out; simp only [Tr, Bx, CellsAt, Nat.reduceAdd, Nat.zero_add, and_true] at kT; obtain ⟨⟨⟨kz0, kf0, kc0_0, kc0_1⟩, ⟨kz1, kf1, kc1_0, kc1_1⟩, ⟨kz2, kf2, kc2_0, kc2_1⟩⟩, kE⟩ := kT
        have HN7 := hide (own_ext HN6.out Hw7.out)
        have HL7 := hide (own_ext HL6.out Hw7.out)
        have HD7 := hide (HD6.out.ext Hw7.out)
        have HG7 := hide (HG6.out.trans (Gx.ext HG6.out.cur Hw7.out))
        have hap6 : ∀ k, (Value.slice A6 N.length d6).ownBlock = some k → w5.heap.size ≤ k ∧ k < w6.heap.size := HN6.out.lt
        have hap7 : ∀ k, (Value.slice B6 E.length d6').ownBlock = some k → w5.heap.size ≤ k ∧ k < w6.heap.size := HL6.out.lt
        have HPD := hide (show ∀ k, (Value.slice A N.length c).ownBlock = some k → k < w5.heap.size from fun k e => (HD5.out.nodes.lt k e).2)
        have HPE := hide (show ∀ k, (Value.slice B E.length c').ownBlock = some k → k < w5.heap.size from fun k e => (HD5.out.leads.lt k e).2)
        have HPG := hide (show (∀ k, (Value.slice A N.length c).ownBlock = some k → w.heap.size + 1 ≤ k) ∧ ∀ k, (Value.slice B E.length c').ownBlock = some k → w.heap.size + 1 ≤ k from ⟨fun k e => (HD5.out.nodes.lt k e).1, fun k e => (HD5.out.leads.lt k e).1⟩)
        have HXX := hide (own_apart2 HL6.out HN6.out (by decide))
        obtain ⟨b5, hb5e⟩ : ∃ b, b = w6.heap.size := ⟨_, rfl⟩
        obtain ⟨r, rfl, hr1, hr2⟩ : ∃ r, A6 = some ⟨r, 0, none⟩ ∧ w5.heap.size ≤ r ∧ r < b5 := by
          obtain ⟨Aq, cq, e1, _, q0, q1⟩ := own_slice HN6.out
          injection e1 with e1 _ e2
          subst e1 e2
          cases A6 with
          | none => exact absurd (q0 rfl) (by omega)
          | some ad =>
            obtain ⟨r, rfl, _, _, q3⟩ := q1 _ rfl
            exact ⟨r, rfl, (hap6 r q3).1, by rw [hb5e]; exact (hap6 r q3).2⟩
        rw [← hb5e] at HT kz0 kf0 kc0_0 kc0_1 hap7 hz6 ⊢
        have HP7 := hide hap7
        have hrg : r ≠ g := by omega
        have hr7 : r < w7.heap.size := by omega
        clear HN6 HL6 HD6 HG6 Hw7 Zw7 hb5e hap6 hap7
        
        have HT' := hide (show Tr [(b5, [.slice (some ⟨r, 0, none⟩) N.length d6, .slice B6 E.length d6']), (b3, [.slice A N.length c, .slice B E.length c']), (w.heap.size, [.slice none 0 0, .slice none 0 0])] w7 w7 from ⟨HT.out.1, Ext.refl _⟩)
        clear kz0 kf0 kc0_0 kc0_1 kz1 kf1 kc1_0 kc1_1 kz2 kf2 kc2_0 kc2_1 kE
        clear HT; have HT := HT'; clear HT'
        have kT := HT.out; simp only [Tr, Bx, CellsAt, Nat.reduceAdd, Nat.zero_add, and_true] at kT; obtain ⟨⟨⟨kz0, kf0, kc0_0, kc0_1⟩, ⟨kz1, kf1, kc1_0, kc1_1⟩, ⟨kz2, kf2, kc2_0, kc2_1⟩⟩, kE⟩ := kT
        have HC7 := hide HG7.out.cur
        have hgb5 : ¬ b5 = g := by omega
        have hgb3 : ¬ b3 = g := by omega
        obtain ⟨i0, hi, hz0, hz1, hz2⟩ := info_parts nodeI_info
        go_upto_region 10 with fail
        apply wp_region_GRL (K := KA g r w5.heap.size d6 l N) 6 70 (by kernel_rfl) (KA.of_gx (Gx.drew HC7.out) hr7 hrg) (fun h1 h2 => h1.trans h2) (by kernel_rfl) (by kernel_rfl) (by kernel_rfl) (by kernel_rfl) (by kernel_rfl) rfl [fun v _ => v = _, fun v _ => v = _, fun v _ => v = _, fun v _ => ∃ x y : Int, v = .agg #[.int .i64 x, .int .i64 y], fun v w' => ∃ (q : Nat) (x y : Int), v = .slice (some ⟨q, 0, none⟩) 1 1 ∧ w7.heap.size ≤ q ∧ q < w'.heap.size ∧ w'.cell? ⟨q, 0, none⟩ = some (.int .i64 x) ∧ w'.cell? ⟨q, 1, none⟩ = some (.int .i64 y), AppV r w5.heap.size d6 w7.heap.size g N] rfl ⟨stabk_eq _ _, stabk_eq _ _, stabk_eq _ _, stabk_any _ _, (fun v W W' ⟨q, x, y, h1, h2, h3, h4, h5⟩ hK => ⟨q, x, y, h1, h2, Nat.lt_of_lt_of_le h3 hK.size, (World.cell?_of_block (hK.block q h3 (by omega) (by omega))).trans h4, (World.cell?_of_block (hK.block q h3 (by omega) (by omega))).trans h5⟩), AppV.stab hrg, trivial⟩ ?R10hop ?R10fin
        case R10hop =>
          intro a w' hE hA
          have hsz := hE.size
          have c0 := (hE.bx HT.out.1 (by simp [Ap]; omega) (by simp [Ap]; omega)).1.2.2.1
          have c1 := (hE.bx HT.out.1 (by simp [Ap]; omega) (by simp [Ap]; omega)).1.2.2.2.1
          have f0 := (hE.bx HT.out.1 (by simp [Ap]; omega) (by simp [Ap]; omega)).1.2.1
          have z0 : b5 < w'.heap.size := Nat.lt_of_lt_of_le kz0 hE.size
          simp at c1
          have hcu := hide hE.cur
          have hrz : r < w'.heap.size := by omega
          have HOLD := hide (hE.old HN7.out)
          have HE := hide hE
          clear hE
          refine ⟨⟨⟨⟨⟨⟨trivial, ?_⟩, ?_⟩, ?_⟩, ?_⟩, ?_⟩, ?_⟩
          · intro hp
            have s5 := hA 5 (by rfl)
            simp [sl] at s5
            clear hp
            refine wpOp_of_list rfl rfl ?_
            go_wp2_with (fail)
            exact ⟨_, rfl, rfl, KA.of_gx (Gx.refl hcu.out) hrz hrg⟩
          · intro hp
            have s47 := hp 0 (by rfl)
            change a.tmps.getD 47 undef = _ at s47
            simp at s47
            clear hp
            refine wpOp_of_list rfl rfl ?_
            go_wp2_with (fail)
            exact ⟨_, rfl, rfl, KA.of_gx (Gx.refl hcu.out) hrz hrg⟩
          · intro hp
            have s0 := hA 0 (by rfl)
            simp [sl] at s0
            clear hp
            refine wpOp_of_list rfl rfl ?_
            go_wp2_with (fail)
            exact ⟨_, rfl, rfl, KA.of_gx (Gx.refl hcu.out) hrz hrg⟩
          · intro hp
            have s49 := hp 2 (by rfl)
            change a.tmps.getD 49 undef = _ at s49
            simp at s49
            clear hp
            refine wpOp_of_list rfl rfl ?_
            go_wp2_with (go_at_call 129; refine (l02Node_any g l _ hl hcu.out).mono ?_; rintro e wq ⟨x, y, rfl, _, hcq, hgq⟩)
            exact ⟨_, rfl, ⟨x, y, rfl⟩, KA.of_gx ⟨hgq, hcq⟩ hrz hrg⟩
          · intro hp
            have s50 := hp 3 (by rfl)
            obtain ⟨x, y, s50⟩ := s50
            change a.tmps.getD 50 undef = _ at s50
            simp at s50
            clear hp
            refine wpOp_of_list rfl rfl ?_
            go_wp2_with (fail)
            exact ⟨_, rfl, ⟨w'.heap.size, x, y, rfl, hsz, by simp, by simp [go_sem], by simp [go_sem]⟩, KA.of_gx (Gx.ext hcu.out ((Ext.refl _).alloc _)) hrz hrg⟩
          · intro hp
            have s48 := hp 1 (by rfl)
            change a.tmps.getD 48 undef = _ at s48
            simp at s48
            have s51 := hp 4 (by rfl)
            obtain ⟨q, x, y, s51, hq1, hq2, hq3, hq4⟩ := s51
            change a.tmps.getD 51 undef = _ at s51
            simp at s51
            clear hp
            refine wpOp_of_list rfl rfl ?_
            have hnw : ∀ j u, [Value.int .i64 x, Value.int .i64 y][j]? = some u → w'.cell? ((⟨q, 0, none⟩ : Addr).add j) = some u := news_rds (fun j v hj => by
              match j, hj with
              | 0, hj => simp at hj; rw [← hj]; simpa using hq3
              | 1, hj => simp at hj; rw [← hj]; simpa using hq4)
            have hold := HOLD.out
            by_cases hfit : N.length + 1 ≤ d6
            · refine wpList_append_fits _ rfl _ _ 24 rfl w5.heap.size 84 i0 2 Tryz.underlying24 hi hz1 r N.length d6 (enc2 N) (by simp [go_sem, s48]) hold ⟨q, 0, none⟩ 1 1 [.int .i64 x, .int .i64 y] (by simp [go_sem, s51]) rfl hnw (one2n _ _) hfit ?_
              intro w9 hown9 hgrow9
              go_wp2_with fail
              have ho : w9.ownsRow w5.heap.size 84 2 (.slice (some ⟨r, 0, none⟩) (N.length + 1) d6) (N.length + 1) (enc2 (N ++ [(x, y)])) := by rw [enc2_snoc']; exact hown9
              exact ⟨_, rfl, ⟨x, y, _, _, rfl, ho, .inl ⟨rfl, rfl⟩⟩, KA.fits hcu.out hgrow9 (by omega) ho⟩
            · refine wpList_append_grows _ rfl _ _ 24 rfl 84 i0 (.agg #[.int .i64 0, .int .i64 0]) 2 16 Tryz.underlying24 hi hz0 hz1 hz2 rfl (by decide) (some ⟨r, 0, none⟩) N.length d6 (enc2 N) (by simp [go_sem, s48]) (fun e => by cases e) (enc2_length _) (fun b e j u hu => by injection e with e; subst e; exact news_rds (fun j v hj => by rw [Nat.zero_add, hold.cellAt j (by have h := (List.getElem?_eq_some_iff.1 hj).1; rwa [enc2_length] at h)]; exact hj) j u hu) ⟨q, 0, none⟩ 1 1 [.int .i64 x, .int .i64 y] (by simp [go_sem, s51]) rfl hnw (one2n _ _) (by omega) (by unfold maxLen; omega) (by omega) ?_
              intro v' w9 hown9 hgrow9
              obtain ⟨A9, c9, rfl, _⟩ := own_slice hown9
              go_wp2_with fail
              have ho : w9.ownsRow w5.heap.size 84 2 (.slice A9 (N.length + 1) c9) (N.length + 1) (enc2 (N ++ [(x, y)])) := by rw [enc2_snoc']; exact own_mono hown9 (by omega)
              exact ⟨_, rfl, ⟨x, y, _, _, rfl, ho, .inr (fun k e => by have := (hown9.lt k e).1; omega)⟩, KA.of_gx (Gx.ext hcu.out (grown_ext hgrow9)) hrz hrg⟩
        case R10fin =>
          intro X w' hE hp
          obtain ⟨⟨⟨⟨⟨⟨-, h0⟩, h1⟩, h2⟩, h3⟩, h4⟩, h5⟩ := hp
          change X 0 = _ at h0
          change X 1 = _ at h1
          change X 2 = _ at h2
          obtain ⟨x, y, h3⟩ := h3
          change X 3 = _ at h3
          obtain ⟨q, x, y, h4, hq1, hq2, hq3, hq4⟩ := h4
          change X 4 = _ at h4
          obtain ⟨x, y, A7, c7, h5, hown, hwhere⟩ := h5
          change X 5 = _ at h5
          simp only [List.drop_succ_cons, List.drop_zero]
          go_simp
          have hX5 : X 5 = .slice A7 (N.length + 1) c7 := h5
          have hX6 : X 1 = .slice (some ⟨r, 0, none⟩) N.length d6 := h1
          have HAW := hide (show ∀ k, (Value.slice A7 (N.length + 1) c7).ownBlock = some k → w5.heap.size ≤ k ∧ k ≠ b5 from by
            rcases hwhere with ⟨rfl, rfl⟩ | q
            · intro k e
              have e : some r = some k := e
              injection e with e
              omega
            · intro k e
              have := (q k e).1
              omega)
          have HOX := hide hown
          have HK := hide hE
          have HT' := hide (show Tr [(b5, [.slice (some ⟨r, 0, none⟩) N.length d6, .slice B6 E.length d6']), (b3, [.slice A N.length c, .slice B E.length c']), (w.heap.size, [.slice none 0 0, .slice none 0 0])] w' w' from ⟨hE.bx HT.out.1 (by simp [Ap]; omega) (by simp [Ap]; omega), Ext.refl _⟩)
          have HD8 := hide (show WD w' (w.heap.size + 1) b3 N E A B c c' from ⟨hE.own HD7.out.nodes (fun k e => ⟨by (have := HPG.out.1 k e; omega), by (have := HPD.out k e; omega)⟩), hE.own HD7.out.leads (fun k e => ⟨by (have := HPG.out.2 k e; omega), by (have := HPE.out k e; omega)⟩), HD7.out.an, HD7.out.al⟩)
          have HL8 := hide (hE.own HL7.out (fun k e => ⟨by (have := HP7.out k e; omega), fun e2 => HXX.out k e (by rw [e2]; rfl)⟩))
          have HG8 := hide (show Gx g l w w' from ⟨⟨hE.os.trans HG7.out.gr.os, hE.tape.trans HG7.out.gr.tape, hE.output.trans HG7.out.gr.output, Nat.le_trans HG7.out.size hE.size, fun k hk hne => (hE.block k (Nat.lt_of_lt_of_le hk HG7.out.size) (fun e => hne (by rw [e])) (by omega)).trans (HG7.out.gr.block k hk hne)⟩, hE.cur⟩)
          clear hE hown hwhere h5 h1 h0 h2 h3 h4
          clear kz0 kf0 kc0_0 kc0_1 kz1 kf1 kc1_0 kc1_1 kz2 kf2 kc2_0 kc2_1 kE
          clear HT; have HT := HT'; clear HT'
          have kT := HT.out; simp only [Tr, Bx, CellsAt, Nat.reduceAdd, Nat.zero_add, and_true] at kT; obtain ⟨⟨⟨kz0, kf0, kc0_0, kc0_1⟩, ⟨kz1, kf1, kc1_0, kc1_1⟩, ⟨kz2, kf2, kc2_0, kc2_1⟩⟩, kE⟩ := kT
          go_wp2_with fail
          obtain ⟨w8, hw⟩ : ∃ w1, w1 = w'.setCell ⟨b5, 0, none⟩ (.slice A7 (N.length + 1) c7) := ⟨_, rfl⟩
          rw [← hw]
          have HOX8 := hide (show w8.ownsRow w5.heap.size 84 2 (.slice A7 (N.length + 1) c7) (N.length + 1) (enc2 (N ++ [(x, y)])) from by rw [hw]; exact own_setn HOX.out (fun k e => (HAW.out k e).2) _)
          have HLX8 := hide (show w8.ownsRow w5.heap.size 110 2 (.slice B6 E.length d6') E.length (enc2 E) from by rw [hw]; exact own_setn HL8.out (fun k e => by (have := HP7.out k e; omega)) _)
          have HDX8 := hide (show WD w8 (w.heap.size + 1) b3 N E A B c c' from by rw [hw]; exact ⟨own_setn HD8.out.nodes (fun k e => by (have := HPD.out k e; omega)) _, own_setn HD8.out.leads (fun k e => by (have := HPE.out k e; omega)) _, HD8.out.an, HD8.out.al⟩)
          have HGX8 := hide (show Gx g l w w8 from by rw [hw]; exact ⟨grown_new HG8.out.gr (by omega) _ _, HG8.out.cur.setk (by omega) _ _⟩)
          clear kz0 kf0 kc0_0 kc0_1 kz1 kf1 kc1_0 kc1_1 kz2 kf2 kc2_0 kc2_1 kE
          have hb53 : ¬ b5 = b3 := by omega
          have hb5w : ¬ b5 = w.heap.size := by omega
          have HT' := hide (show Tr [(b5, [.slice A7 (N.length + 1) c7, .slice B6 E.length d6']), (b3, [.slice A N.length c, .slice B E.length c']), (w.heap.size, [.slice none 0 0, .slice none 0 0])] w8 w8 from by
            obtain ⟨⟨q1, q2, q3, q4, _⟩, q5⟩ := HT.out.1
            rw [hw]
            refine ⟨⟨⟨by simpa using q1, fun i => by simp [World.frozen?_setCell, q2], by simp [go_sem, q3], by simpa [go_sem] using q4, trivial⟩, Bx.grownA (row := some b5) (grown_set (World.grownBy.refl w' (some b5)) 0 _) (by simp [Ap]; omega) q5⟩, Ext.refl _⟩)
          clear HT HOX HD8 HL8 HG8 HK hw
          have HT := HT'; clear HT'
          
          have kT := HT.out; simp only [Tr, Bx, CellsAt, Nat.reduceAdd, Nat.zero_add, and_true] at kT; obtain ⟨⟨⟨kz0, kf0, kc0_0, kc0_1⟩, ⟨kz1, kf1, kc1_0, kc1_1⟩, ⟨kz2, kf2, kc2_0, kc2_1⟩⟩, kE⟩ := kT
          obtain ⟨M, hM⟩ : ∃ M, N ++ [(x, y)] = M := ⟨_, rfl⟩
          have hMl : M.length = N.length + 1 := by rw [← hM]; simp
          rw [hM] at HOX8
          have HWX := hide (show WD w8 w5.heap.size b5 M E A7 B6 c7 d6' from ⟨by rw [hMl]; exact HOX8.out, HLX8.out, by rw [hMl]; exact fun k e => (HAW.out k e).2, fun k e => by (have := HP7.out k e; omega)⟩)
          rw [← hMl] at HT kc0_0 ⊢
          have hM13 : M.length ≤ 13 := by omega
          have hM5 : 5 ≤ M.length := by omega
          have HML := hide hMl
          clear HOX8 HLX8 hM hX5 hX6
          clear hMl
          have HWXR := hide (HWX.out.wr (by omega) (by omega))
          
          go_wp2_with fail
          refine (sWindowOk_any M E A7 B6 c7 d6' _ (by omega) (by omega) HWXR.out.hc HWXR.out.hd HWXR.out.hr HWXR.out.hs).mono ?_
          rintro e w9 ⟨rfl, hb9⟩
          have HD9 := hide (HDX8.out.ext hb9)
          have HX9 := hide (HWX.out.ext hb9)
          have HG9 := hide (HGX8.out.trans (Gx.ext HGX8.out.cur hb9))
          have HT' := hide (show Tr [(b5, [.slice A7 M.length c7, .slice B6 E.length d6']), (b3, [.slice A N.length c, .slice B E.length c']), (w.heap.size, [.slice none 0 0, .slice none 0 0])] w9 w9 from ⟨(HT.out.ext hb9).1, Ext.refl _⟩)
          clear hb9 HDX8 HWX HWXR HGX8 HD7 HG7 HN7 HL7
          clear kz0 kf0 kc0_0 kc0_1 kz1 kf1 kc1_0 kc1_1 kz2 kf2 kc2_0 kc2_1 kE
          clear HT; have HT := HT'; clear HT'
          have kT := HT.out; simp only [Tr, Bx, CellsAt, Nat.reduceAdd, Nat.zero_add, and_true] at kT; obtain ⟨⟨⟨kz0, kf0, kc0_0, kc0_1⟩, ⟨kz1, kf1, kc1_0, kc1_1⟩, ⟨kz2, kf2, kc2_0, kc2_1⟩⟩, kE⟩ := kT
          have HC9 := hide HG9.out.cur
          cases hok : windowB M E with
          | false =>
            go_wp2_with fail
            refine bodyPost_ret (v := .agg #[.slice A N.length c, .slice B E.length c']) (by simp only [results, Tryz.results110]; go_simp) rfl ⟨N, E, A, B, c, c', rfl, ⟨by omega, by omega, by omega, by omega⟩, (((HD9.out.low (k := w.heap.size) (by omega) 0 _).low (k := w.heap.size) (by omega) 1 _).wn).mono (by omega), ⟨grown_new (grown_new HG9.out.gr (Nat.le_refl _) _ _) (Nat.le_refl _) _ _, (HG9.out.cur.setk hgl _ _).setk hgl _ _⟩⟩
          | true =>
            have HWR9 := hide (fun (W : World) (hG : Gx g l w9 W) => (HX9.out.gx hG (by omega)).wr (by omega) (by omega))
            go_wp2_with fail
            apply wp_region_GSL (K := Gx g l) 13 11 14 70 (by kernel_rfl) (Gx.drew HC9.out) (fun h1 h2 => h1.trans h2) [fun v _ => v = _, fun v _ => v = _, fun v _ => v = _, fun v _ => v = _, fun v _ => v = _, fun v _ => ∃ x : Nat, v = .int .i64 (x : Int) ∧ x < N.length, fun v _ => v = _, fun v _ => v = _, fun v _ => v = _, fun v w' => ∃ (u : Value) (E2 : List P2) (A2 B2 : Option Addr) (d d' : Nat), v = .tuple #[.agg #[.slice A2 M.length d, .slice B2 E2.length d'], u] ∧ (E2 = E ∨ E2.length = E.length + 1) ∧ WD w' (w.heap.size + 1) b3 M E2 A2 B2 d d', fun v w' => ∃ (u : Value) (E2 : List P2) (A2 B2 : Option Addr) (d d' : Nat), v = .tuple #[.agg #[.slice A2 M.length d, .slice B2 E2.length d'], u] ∧ (E2 = E ∨ E2.length = E.length + 1) ∧ WD w' (w.heap.size + 1) b3 M E2 A2 B2 d d', fun v w' => ∃ E2 A2 B2 d d', v = .agg #[.slice A2 M.length d, .slice B2 E2.length d'] ∧ (E2 = E ∨ E2.length = E.length + 1) ∧ WD w' (w.heap.size + 1) b3 M E2 A2 B2 d d', fun _ _ => True, fun _ _ => True] (fun v w'' => ∃ E2 A2 B2 d d' w1, v = .agg #[.slice A2 M.length d, .slice B2 E2.length d'] ∧ (E2 = E ∨ E2.length = E.length + 1) ∧ WD w1 (w.heap.size + 1) b3 M E2 A2 B2 d d' ∧ Gx g l w9 w1 ∧ w'' = (w1.setCell ⟨b3, 0, none⟩ (.slice A2 M.length d)).setCell ⟨b3, 1, none⟩ (.slice B2 E2.length d')) rfl (by kernel_rfl) (by kernel_rfl) (by kernel_rfl) (by kernel_rfl) (by kernel_rfl) (by kernel_rfl) (by kernel_rfl) rfl ⟨stabk_eq _ _, stabk_eq _ _, stabk_eq _ _, stabk_eq _ _, stabk_eq _ _, stabk_any _ _, stabk_eq _ _, stabk_eq _ _, stabk_eq _ _, (fun v W W' ⟨u, E2, A2, B2, d, d', h1, h2, h3⟩ hG => ⟨u, E2, A2, B2, d, d', h1, h2, h3.gx hG (by omega)⟩), (fun v W W' ⟨u, E2, A2, B2, d, d', h1, h2, h3⟩ hG => ⟨u, E2, A2, B2, d, d', h1, h2, h3.gx hG (by omega)⟩), (fun v W W' ⟨E2, A2, B2, d, d', h1, h2, h3⟩ hG => ⟨E2, A2, B2, d, d', h1, h2, h3.gx hG (by omega)⟩), stabk_true _, stabk_true _, trivial⟩ (by kernel_rfl) ?R12hop ?R12hst ?R12hop2 ?R12fin
            case R12hop =>
              intro a w' hE hA
              have c0 := hE.cell kz1 (by omega) kc1_0
              have c1 := hE.cell kz1 (by omega) kc1_1
              have f0 := hE.frz kz1 (by omega) kf1
              have z0 : b3 < w'.heap.size := Nat.lt_of_lt_of_le kz1 hE.size
              have c2 := hE.cell kz0 (by omega) kc0_0
              have c3 := hE.cell kz0 (by omega) kc0_1
              have f2 := hE.frz kz0 (by omega) kf0
              have z2 : b5 < w'.heap.size := Nat.lt_of_lt_of_le kz0 hE.size
              have hcu := hide hE.cur
              have HE := hide hE
              refine ⟨⟨⟨⟨⟨⟨⟨⟨⟨⟨⟨⟨⟨⟨trivial, ?_⟩, ?_⟩, ?_⟩, ?_⟩, ?_⟩, ?_⟩, ?_⟩, ?_⟩, ?_⟩, ?_⟩, ?_⟩, ?_⟩, ?_⟩, ?_⟩
              · intro _ _ hp
                have s5 := hA 5 (by rfl)
                simp [sl] at s5
                clear hp
                refine wpOp_of_list rfl rfl ?_
                go_wp2_with (fail)
                exact ⟨_, rfl, rfl, Gx.refl hcu.out⟩
              · intro _ _ hp
                have s0 := hA 0 (by rfl)
                simp [sl] at s0
                clear hp
                refine wpOp_of_list rfl rfl ?_
                go_wp2_with (fail)
                exact ⟨_, rfl, rfl, Gx.refl hcu.out⟩
              · intro _ _ hp
                have s3 := hA 3 (by rfl)
                simp [sl] at s3
                clear hp
                refine wpOp_of_list rfl rfl ?_
                go_wp2_with (fail)
                exact ⟨_, rfl, rfl, Gx.refl hcu.out⟩
              · intro _ _ hp
                have s59 := hp 2 (by rfl)
                change a.tmps.getD 59 undef = _ at s59
                simp at s59
                clear hp
                refine wpOp_of_list rfl rfl ?_
                go_wp2_with (fail)
                exact ⟨_, rfl, rfl, Gx.refl hcu.out⟩
              · intro _ _ hp
                have s60 := hp 3 (by rfl)
                change a.tmps.getD 60 undef = _ at s60
                simp at s60
                clear hp
                refine wpOp_of_list rfl rfl ?_
                go_wp2_with (fail)
                exact ⟨_, rfl, rfl, Gx.refl hcu.out⟩
              · intro _ _ hp
                have s58 := hp 1 (by rfl)
                change a.tmps.getD 58 undef = _ at s58
                simp at s58
                have s61 := hp 4 (by rfl)
                change a.tmps.getD 61 undef = _ at s61
                simp at s61
                clear hp
                refine wpOp_of_list rfl rfl ?_
                go_wp2_with (go_at_call 58; refine (l01Below_any g N.length l _ hl (by omega) (by omega) hcu.out).mono ?_; rintro e wq ⟨x, rfl, hx0, hx1, hcq, hgq⟩; obtain ⟨x, rfl⟩ := Int.eq_ofNat_of_zero_le hx0)
                exact ⟨_, rfl, ⟨x, rfl, by omega⟩, ⟨hgq, hcq⟩⟩
              · intro _ _ hp
                have s3 := hA 3 (by rfl)
                simp [sl] at s3
                clear hp
                refine wpOp_of_list rfl rfl ?_
                go_wp2_with (fail)
                exact ⟨_, rfl, rfl, Gx.refl hcu.out⟩
              · intro _ _ hp
                have s63 := hp 6 (by rfl)
                change a.tmps.getD 63 undef = _ at s63
                simp at s63
                clear hp
                refine wpOp_of_list rfl rfl ?_
                go_wp2_with (fail)
                exact ⟨_, rfl, rfl, Gx.refl hcu.out⟩
              · intro _ _ hp
                have s64 := hp 7 (by rfl)
                change a.tmps.getD 64 undef = _ at s64
                simp at s64
                clear hp
                refine wpOp_of_list rfl rfl ?_
                go_wp2_with (fail)
                exact ⟨_, rfl, rfl, Gx.refl hcu.out⟩
              · intro _ _ hp
                have s57 := hp 0 (by rfl)
                change a.tmps.getD 57 undef = _ at s57
                simp at s57
                have s62 := hp 5 (by rfl)
                obtain ⟨x, s62, hx⟩ := s62
                change a.tmps.getD 62 undef = _ at s62
                simp at s62
                have s65 := hp 8 (by rfl)
                change a.tmps.getD 65 undef = _ at s65
                simp at s65
                clear hp
                refine wpOp_of_list rfl rfl ?_
                go_wp2_with (go_at_call 127; refine (AddLead_any M E A7 B6 c7 d6' x N.length _ (HWR9.out _ HE.out) (by omega) (by omega) (by omega)).mono ?_; rintro e wq ⟨ok, E2, A2, B2, d, d', rfl, hE2, hwn, hbq⟩)
                exact ⟨_, rfl, ⟨_, E2, A2, B2, d, d', rfl, hE2, WN.wd hwn (by omega) (by omega)⟩, Gx.ext hcu.out hbq⟩
              · intro _ _ hp
                have s66 := hp 9 (by rfl)
                obtain ⟨u, E2, A2, B2, d, d', s66, hE2, hwd⟩ := s66
                change a.tmps.getD 66 undef = _ at s66
                simp at s66
                clear hp
                refine wpOp_of_list rfl rfl ?_
                go_wp2_with (fail)
                exact ⟨_, rfl, ⟨_, E2, A2, B2, d, d', rfl, hE2, hwd⟩, Gx.refl hcu.out⟩
              · intro _ _ hp
                have s56 := hp 10 (by rfl)
                obtain ⟨u, E2, A2, B2, d, d', s56, hE2, hwd⟩ := s56
                change a.tmps.getD 56 undef = _ at s56
                simp at s56
                clear hp
                refine wpOp_of_list rfl rfl ?_
                go_wp2_with (fail)
                exact ⟨_, rfl, ⟨E2, A2, B2, d, d', rfl, hE2, hwd⟩, Gx.refl hcu.out⟩
              · intro _ _ hp
                have s56 := hp 10 (by rfl)
                obtain ⟨u, E2, A2, B2, d, d', s56, hE2, hwd⟩ := s56
                change a.tmps.getD 56 undef = _ at s56
                simp at s56
                clear hp
                refine wpOp_of_list rfl rfl ?_
                go_wp2_with (fail)
                exact ⟨_, rfl, trivial, Gx.refl hcu.out⟩
              · intro h; exact absurd rfl h
            case R12hst =>
              intro a w' hE hA hp
              have c0 := hE.cell kz1 (by omega) kc1_0
              have c1 := hE.cell kz1 (by omega) kc1_1
              have f0 := hE.frz kz1 (by omega) kf1
              have z0 : b3 < w'.heap.size := Nat.lt_of_lt_of_le kz1 hE.size
              have c2 := hE.cell kz0 (by omega) kc0_0
              have c3 := hE.cell kz0 (by omega) kc0_1
              have f2 := hE.frz kz0 (by omega) kf0
              have z2 : b5 < w'.heap.size := Nat.lt_of_lt_of_le kz0 hE.size
              have hcu := hide hE.cur
              have HE := hide hE
              have s3 := hA 3 (by rfl)
              simp [sl] at s3
              have s67 := hp 11 (by rfl)
              obtain ⟨E2, A2, B2, d, d', s67, hE2, hwd⟩ := s67
              change a.tmps.getD 67 undef = _ at s67
              simp at s67
              clear hp
              refine wpOp_of_list rfl rfl ?_
              go_wp2_with fail
              exact ⟨by first | trivial | rfl | assumption, E2, A2, B2, d, d', w', by simpa [slo, sl, dstAt] using s67, hE2, hwd, HE.out, by first | rfl | simp⟩
            case R12hop2 =>
              intro a w' hA
              refine ⟨⟨⟨⟨⟨⟨⟨⟨⟨⟨⟨⟨⟨⟨trivial, ?_⟩, ?_⟩, ?_⟩, ?_⟩, ?_⟩, ?_⟩, ?_⟩, ?_⟩, ?_⟩, ?_⟩, ?_⟩, ?_⟩, ?_⟩, ?_⟩
              · intro _ hw hp
                exact absurd (hw.symm.trans (by kernel_rfl : _ = true)) Bool.false_ne_true
              · intro _ hw hp
                exact absurd (hw.symm.trans (by kernel_rfl : _ = true)) Bool.false_ne_true
              · intro _ hw hp
                exact absurd (hw.symm.trans (by kernel_rfl : _ = true)) Bool.false_ne_true
              · intro _ hw hp
                exact absurd (hw.symm.trans (by kernel_rfl : _ = true)) Bool.false_ne_true
              · intro _ hw hp
                exact absurd (hw.symm.trans (by kernel_rfl : _ = true)) Bool.false_ne_true
              · intro _ hw hp
                exact absurd (hw.symm.trans (by kernel_rfl : _ = true)) Bool.false_ne_true
              · intro _ hw hp
                exact absurd (hw.symm.trans (by kernel_rfl : _ = true)) Bool.false_ne_true
              · intro _ hw hp
                exact absurd (hw.symm.trans (by kernel_rfl : _ = true)) Bool.false_ne_true
              · intro _ hw hp
                exact absurd (hw.symm.trans (by kernel_rfl : _ = true)) Bool.false_ne_true
              · intro _ hw hp
                exact absurd (hw.symm.trans (by kernel_rfl : _ = true)) Bool.false_ne_true
              · intro _ hw hp
                exact absurd (hw.symm.trans (by kernel_rfl : _ = true)) Bool.false_ne_true
              · intro _ hw hp
                exact absurd (hw.symm.trans (by kernel_rfl : _ = true)) Bool.false_ne_true
              · intro _ hw hp
                obtain ⟨wq56, s56⟩ := hp 10 (by decide) (by rfl)
                obtain ⟨u, E2, A2, B2, d, d', s56, hE2, hwd⟩ := s56
                change a.tmps.getD 56 undef = _ at s56
                simp at s56
                clear hp
                refine wpOp_of_list rfl rfl ?_
                go_wp2_with fail
                first | exact ⟨⟨_, rfl, wq56, trivial⟩, rfl⟩ | exact ⟨_, rfl, wq56, trivial⟩
              · intro h; exact absurd rfl h
            case R12fin =>
              intro X w' hP hp
              obtain ⟨⟨⟨⟨⟨⟨⟨⟨⟨⟨⟨⟨⟨⟨-, h0⟩, h1⟩, h2⟩, h3⟩, h4⟩, h5⟩, h6⟩, h7⟩, h8⟩, h9⟩, h10⟩, h11⟩, h12⟩, h13⟩ := hp
              replace h0 := h0 (by decide)
              obtain ⟨_, h0⟩ := h0
              change X 0 = _ at h0
              replace h1 := h1 (by decide)
              obtain ⟨_, h1⟩ := h1
              change X 1 = _ at h1
              replace h2 := h2 (by decide)
              obtain ⟨_, h2⟩ := h2
              change X 2 = _ at h2
              replace h3 := h3 (by decide)
              obtain ⟨_, h3⟩ := h3
              change X 3 = _ at h3
              replace h4 := h4 (by decide)
              obtain ⟨_, h4⟩ := h4
              change X 4 = _ at h4
              replace h5 := h5 (by decide)
              obtain ⟨_, h5⟩ := h5
              obtain ⟨x, h5, hx⟩ := h5
              change X 5 = _ at h5
              replace h6 := h6 (by decide)
              obtain ⟨_, h6⟩ := h6
              change X 6 = _ at h6
              replace h7 := h7 (by decide)
              obtain ⟨_, h7⟩ := h7
              change X 7 = _ at h7
              replace h8 := h8 (by decide)
              obtain ⟨_, h8⟩ := h8
              change X 8 = _ at h8
              replace h9 := h9 (by decide)
              obtain ⟨_, h9⟩ := h9
              obtain ⟨u, E2, A2, B2, d, d', h9, -, -⟩ := h9
              change X 9 = _ at h9
              replace h10 := h10 (by decide)
              obtain ⟨_, h10⟩ := h10
              obtain ⟨u, E2, A2, B2, d, d', h10, -, -⟩ := h10
              change X 10 = _ at h10
              replace h11 := h11 (by decide)
              obtain ⟨_, h11⟩ := h11
              obtain ⟨E2, A2, B2, d, d', h11, -, -⟩ := h11
              change X 11 = _ at h11
              clear h12
              clear h13
              go_simp
              clear h0 h1 h2 h3 h4 h5 h6 h7 h8 h9 h10 h11
              obtain ⟨E3, A3, B3, d3, d3', w10, hX, hE3, hwd, hgx, hw⟩ := hP
              have HE3 := hide (show E3.length ≤ E.length + 1 ∧ E.length ≤ E3.length from by rcases hE3 with h | h <;> (try rw [h]) <;> omega)
              clear hE3
              have HD11 := hide (hwd.set2 hw)
              have HG11 := hide ((HG9.out.trans hgx).set2 (by omega) hgb hw)
              have HT0 := hgx.tr (bs := [(b3, [.slice A N.length c, .slice B E.length c']), (w.heap.size, [.slice none 0 0, .slice none 0 0])]) (by simp [Ap]; omega) (w0 := w9) ⟨HT.out.1.2, Ext.refl _⟩
              have HT' := hide (Tr.set2 HT0 (by simp [Ap]; omega) hw)
              clear hw hwd hgx HT0 hX
              generalize X 12 = x12
              clear X
              clear kz0 kf0 kc0_0 kc0_1 kz1 kf1 kc1_0 kc1_1 kz2 kf2 kc2_0 kc2_1 kE
              clear HT; have HT := HT'; clear HT'
              clear hok hM13 hM5 hb53 hb5w hgb5 hgb3 hq1 hq2 hq3 hq4 hi hz0 hz1 hz2 hr1 hr2 hrg hr7
              
              have kT := HT.out; simp only [Tr, Bx, CellsAt, Nat.reduceAdd, Nat.zero_add, and_true] at kT; obtain ⟨⟨⟨kz0, kf0, kc0_0, kc0_1⟩, ⟨kz1, kf1, kc1_0, kc1_1⟩⟩, kE⟩ := kT
              go_wp2_with fail
              refine bodyPost_ret (v := .agg #[.slice A3 M.length d3, .slice B3 E3.length d3']) (by simp only [results, Tryz.results110]; go_simp) rfl ⟨M, E3, A3, B3, d3, d3', rfl, ⟨by (have := HML.out; omega), by (have := HML.out; omega), by (have := HE3.out; omega), by (have := HML.out; have := HE3.out; omega)⟩, (((HD11.out.low (k := w.heap.size) (by omega) 0 _).low (k := w.heap.size) (by omega) 1 _).wn).mono (by omega), ⟨grown_new (grown_new HG11.out.gr (Nat.le_refl _) _ _) (Nat.le_refl _) _ _, (HG11.out.cur.setk hgl _ _).setk hgl _ _⟩⟩
end Go.Proofs.YtabgcpoaepafjaaGreat
