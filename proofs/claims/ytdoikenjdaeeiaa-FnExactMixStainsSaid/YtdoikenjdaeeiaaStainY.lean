/- Walk of the law on mixing stains. No condition. -/
import Derived.Test.YtdoikenjdaeeiaaStainX
import Derived.Test.YtdoikenjdaeeiaaRegS
namespace Go.Proofs.Ytdoikenjdaeeiaa
open Go.RowKit
set_option maxHeartbeats 2000000 in
theorem FnExactMixStains_walk (x0 x1 x2 x3 x4 x5 x6 : Int) (w : World) : Calls Try.prog 14 #[.agg #[.int .i64 x0, .int .i64 x1, .int .i64 x2], .agg #[.int .i64 x3, .int .i64 x4, .int .i64 x5], .int .i64 x6] w fun e w' => e = .returned (.bool true) ∧ Ext w w' := by
  go_enter Try.func14, Try.ntmps14
  go_wp2_with fail
  generalize hw0 : ((w.alloc (Obj.cells #[Value.int IntKind.i64 x0, Value.int IntKind.i64 x1, Value.int IntKind.i64 x2] 41)).alloc (Obj.cells #[Value.int IntKind.i64 x3, Value.int IntKind.i64 x4, Value.int IntKind.i64 x5] 41)) = w0
  have hE0 : Ext w w0 := by rw [← hw0]; repeat (first | exact kE | exact Ext.refl _ | apply Ext.alloc | apply Ext.drewN | apply Ext.drew | apply Ext.set0 | apply Ext.set1 | apply Ext.set2 | apply Ext.set3 | (refine Ext.setk ?_ (by omega) _) | (apply Ext.snoc; assumption))
  have cc : w0.cell? ⟨w.heap.size, 0, none⟩ = some (.int .i64 x0) ∧ w0.cell? ⟨w.heap.size, 1, none⟩ = some (.int .i64 x1) ∧ w0.cell? ⟨w.heap.size, 2, none⟩ = some (.int .i64 x2) ∧ w0.cell? ⟨w.heap.size + 1, 0, none⟩ = some (.int .i64 x3) ∧ w0.cell? ⟨w.heap.size + 1, 1, none⟩ = some (.int .i64 x4) ∧ w0.cell? ⟨w.heap.size + 1, 2, none⟩ = some (.int .i64 x5) := by rw [← hw0]; simp [go_sem]
  obtain ⟨c0, c1, c2, c3, c4, c5⟩ := cc
  have zz : w.heap.size + 1 + 1 ≤ w0.heap.size := by rw [← hw0]; simp
  clear hw0
  have z0 : w.heap.size < w0.heap.size := by omega
  have z1 : w.heap.size + 1 < w0.heap.size := by omega
  apply wp_region_SL 10 9 12 38 (by kernel_rfl) [fun v _ => v = _, fun v _ => v = _, fun v _ => v = _, fun v _ => v = _, fun v _ => v = _, fun v _ => v = _, fun v _ => v = _, fun v _ => v = _, fun v _ => v = _, fun v w' => ∃ g, v = .pointer (some ⟨g, 0, none⟩) ∧ w0.heap.size ≤ g ∧ g < w'.heap.size ∧ w'.heap[g]? = some (.cells #[.int .i64 0, .int .i64 0, .int .i64 0] 43 (0, 0)), fun _ _ => True, fun v _ => v = _] (fun v w'' => ∃ g, v = .pointer (some ⟨g, 0, none⟩) ∧ w0.heap.size ≤ g ∧ Ext w0 w'' ∧ g < w''.heap.size ∧ w''.heap[g]? = some (.cells #[Value.int .i64 (mixS x0 x1 x2 x3 x4 x5 x6).1, Value.int .i64 (mixS x0 x1 x2 x3 x4 x5 x6).2.1, Value.int .i64 (mixS x0 x1 x2 x3 x4 x5 x6).2.2] 43 (0, 0))) rfl (by kernel_rfl) (by kernel_rfl) (by kernel_rfl) (by kernel_rfl) (by kernel_rfl) (by kernel_rfl) (by kernel_rfl) rfl ⟨stab_eq _, stab_eq _, stab_eq _, stab_eq _, stab_eq _, stab_eq _, stab_eq _, stab_eq _, stab_eq _, stab_new _ _ _, stab_true, stab_eq _, trivial⟩ (by kernel_rfl) ?R1hop ?R1hst ?R1hop2 ?R1fin
  case R1hop =>
    intro a w' hE hA
    have hc := hE.facts.1
    have hz := hE.facts.2.2
    refine ⟨⟨⟨⟨⟨⟨⟨⟨⟨⟨⟨⟨trivial, ?_⟩, ?_⟩, ?_⟩, ?_⟩, ?_⟩, ?_⟩, ?_⟩, ?_⟩, ?_⟩, ?_⟩, ?_⟩, ?_⟩
    · intro _ _ hp
      have s3 := hA 3 (by rfl)
      simp [sl] at s3
      clear hp
      refine wpOp_of_list rfl rfl ?_
      go_wp2_with (first | (go_at_call 25; refine (toStain_any _ _ _ _).mono ?_; rintro e w8 ⟨rfl, hb8⟩) | (go_at_call 45; refine (sMixStains_any x0 x1 x2 x3 x4 x5 x6 _).mono ?_; rintro e w8 ⟨rfl, hb8⟩))
      exact ⟨_, rfl, rfl, (by repeat (first | exact kE | exact Ext.refl _ | apply Ext.alloc | apply Ext.drewN | apply Ext.drew | apply Ext.set0 | apply Ext.set1 | apply Ext.set2 | apply Ext.set3 | (refine Ext.setk ?_ (by omega) _) | (apply Ext.snoc; assumption)))⟩
    · intro _ _ hp
      have s12 := hp 0 (by rfl)
      change a.tmps.getD 12 undef = _ at s12
      simp at s12
      clear hp
      refine wpOp_of_list rfl rfl ?_
      go_wp2_with (first | (go_at_call 25; refine (toStain_any _ _ _ _).mono ?_; rintro e w8 ⟨rfl, hb8⟩) | (go_at_call 45; refine (sMixStains_any x0 x1 x2 x3 x4 x5 x6 _).mono ?_; rintro e w8 ⟨rfl, hb8⟩))
      exact ⟨_, rfl, rfl, (by repeat (first | exact kE | exact Ext.refl _ | apply Ext.alloc | apply Ext.drewN | apply Ext.drew | apply Ext.set0 | apply Ext.set1 | apply Ext.set2 | apply Ext.set3 | (refine Ext.setk ?_ (by omega) _) | (apply Ext.snoc; assumption)))⟩
    · intro _ _ hp
      have s4 := hA 4 (by rfl)
      simp [sl] at s4
      clear hp
      refine wpOp_of_list rfl rfl ?_
      go_wp2_with (first | (go_at_call 25; refine (toStain_any _ _ _ _).mono ?_; rintro e w8 ⟨rfl, hb8⟩) | (go_at_call 45; refine (sMixStains_any x0 x1 x2 x3 x4 x5 x6 _).mono ?_; rintro e w8 ⟨rfl, hb8⟩))
      exact ⟨_, rfl, rfl, (by repeat (first | exact kE | exact Ext.refl _ | apply Ext.alloc | apply Ext.drewN | apply Ext.drew | apply Ext.set0 | apply Ext.set1 | apply Ext.set2 | apply Ext.set3 | (refine Ext.setk ?_ (by omega) _) | (apply Ext.snoc; assumption)))⟩
    · intro _ _ hp
      have s14 := hp 2 (by rfl)
      change a.tmps.getD 14 undef = _ at s14
      simp at s14
      clear hp
      refine wpOp_of_list rfl rfl ?_
      go_wp2_with (first | (go_at_call 25; refine (toStain_any _ _ _ _).mono ?_; rintro e w8 ⟨rfl, hb8⟩) | (go_at_call 45; refine (sMixStains_any x0 x1 x2 x3 x4 x5 x6 _).mono ?_; rintro e w8 ⟨rfl, hb8⟩))
      exact ⟨_, rfl, rfl, (by repeat (first | exact kE | exact Ext.refl _ | apply Ext.alloc | apply Ext.drewN | apply Ext.drew | apply Ext.set0 | apply Ext.set1 | apply Ext.set2 | apply Ext.set3 | (refine Ext.setk ?_ (by omega) _) | (apply Ext.snoc; assumption)))⟩
    · intro _ _ hp
      have s2 := hA 2 (by rfl)
      simp [sl] at s2
      clear hp
      refine wpOp_of_list rfl rfl ?_
      go_wp2_with (first | (go_at_call 25; refine (toStain_any _ _ _ _).mono ?_; rintro e w8 ⟨rfl, hb8⟩) | (go_at_call 45; refine (sMixStains_any x0 x1 x2 x3 x4 x5 x6 _).mono ?_; rintro e w8 ⟨rfl, hb8⟩))
      exact ⟨_, rfl, rfl, (by repeat (first | exact kE | exact Ext.refl _ | apply Ext.alloc | apply Ext.drewN | apply Ext.drew | apply Ext.set0 | apply Ext.set1 | apply Ext.set2 | apply Ext.set3 | (refine Ext.setk ?_ (by omega) _) | (apply Ext.snoc; assumption)))⟩
    · intro _ _ hp
      have s13 := hp 1 (by rfl)
      change a.tmps.getD 13 undef = _ at s13
      simp at s13
      have s15 := hp 3 (by rfl)
      change a.tmps.getD 15 undef = _ at s15
      simp at s15
      have s16 := hp 4 (by rfl)
      change a.tmps.getD 16 undef = _ at s16
      simp at s16
      clear hp
      refine wpOp_of_list rfl rfl ?_
      go_wp2_with (first | (go_at_call 25; refine (toStain_any _ _ _ _).mono ?_; rintro e w8 ⟨rfl, hb8⟩) | (go_at_call 45; refine (sMixStains_any x0 x1 x2 x3 x4 x5 x6 _).mono ?_; rintro e w8 ⟨rfl, hb8⟩))
      exact ⟨_, rfl, rfl, (by repeat (first | exact kE | exact Ext.refl _ | apply Ext.alloc | apply Ext.drewN | apply Ext.drew | apply Ext.set0 | apply Ext.set1 | apply Ext.set2 | apply Ext.set3 | (refine Ext.setk ?_ (by omega) _) | (apply Ext.snoc; assumption)))⟩
    · intro _ _ hp
      have s17 := hp 5 (by rfl)
      change a.tmps.getD 17 undef = _ at s17
      simp at s17
      clear hp
      refine wpOp_of_list rfl rfl ?_
      go_wp2_with (first | (go_at_call 25; refine (toStain_any _ _ _ _).mono ?_; rintro e w8 ⟨rfl, hb8⟩) | (go_at_call 45; refine (sMixStains_any x0 x1 x2 x3 x4 x5 x6 _).mono ?_; rintro e w8 ⟨rfl, hb8⟩))
      exact ⟨_, rfl, rfl, (by repeat (first | exact kE | exact Ext.refl _ | apply Ext.alloc | apply Ext.drewN | apply Ext.drew | apply Ext.set0 | apply Ext.set1 | apply Ext.set2 | apply Ext.set3 | (refine Ext.setk ?_ (by omega) _) | (apply Ext.snoc; assumption)))⟩
    · intro _ _ hp
      have s11 := hp 6 (by rfl)
      change a.tmps.getD 11 undef = _ at s11
      simp at s11
      clear hp
      refine wpOp_of_list rfl rfl ?_
      go_wp2_with (first | (go_at_call 25; refine (toStain_any _ _ _ _).mono ?_; rintro e w8 ⟨rfl, hb8⟩) | (go_at_call 45; refine (sMixStains_any x0 x1 x2 x3 x4 x5 x6 _).mono ?_; rintro e w8 ⟨rfl, hb8⟩))
      exact ⟨_, rfl, rfl, (by repeat (first | exact kE | exact Ext.refl _ | apply Ext.alloc | apply Ext.drewN | apply Ext.drew | apply Ext.set0 | apply Ext.set1 | apply Ext.set2 | apply Ext.set3 | (refine Ext.setk ?_ (by omega) _) | (apply Ext.snoc; assumption)))⟩
    · intro _ _ hp
      have s11 := hp 6 (by rfl)
      change a.tmps.getD 11 undef = _ at s11
      simp at s11
      clear hp
      refine wpOp_of_list rfl rfl ?_
      go_wp2_with (first | (go_at_call 25; refine (toStain_any _ _ _ _).mono ?_; rintro e w8 ⟨rfl, hb8⟩) | (go_at_call 45; refine (sMixStains_any x0 x1 x2 x3 x4 x5 x6 _).mono ?_; rintro e w8 ⟨rfl, hb8⟩))
      exact ⟨_, rfl, rfl, (by repeat (first | exact kE | exact Ext.refl _ | apply Ext.alloc | apply Ext.drewN | apply Ext.drew | apply Ext.set0 | apply Ext.set1 | apply Ext.set2 | apply Ext.set3 | (refine Ext.setk ?_ (by omega) _) | (apply Ext.snoc; assumption)))⟩
    · intro _ _ hp
      clear hp
      refine wpOp_of_list rfl rfl ?_
      go_wp2_with (first | (go_at_call 25; refine (toStain_any _ _ _ _).mono ?_; rintro e w8 ⟨rfl, hb8⟩) | (go_at_call 45; refine (sMixStains_any x0 x1 x2 x3 x4 x5 x6 _).mono ?_; rintro e w8 ⟨rfl, hb8⟩))
      exact ⟨_, rfl, new_block _ _ _ _ hE.size, (Ext.refl _).alloc _⟩
    · intro h; exact absurd rfl h
    · intro _ h; exact absurd (h.symm.trans (by kernel_rfl : _ = true)) Bool.false_ne_true
  case R1hst =>
    intro a w' hE hA hp
    have s7 := hp 9 (by rfl)
    obtain ⟨g, s7, hg1, hg2, hg3⟩ := s7
    change a.tmps.getD 7 undef = _ at s7
    simp at s7
    have s18 := hp 7 (by rfl)
    change a.tmps.getD 18 undef = _ at s18
    simp at s18
    clear hp
    obtain ⟨hgc, hgf⟩ := block_cell hg3
    refine wpOp_of_list rfl rfl ?_
    go_wp2_with fail
    obtain ⟨w9, hw9, hE9, hB9, hs9⟩ := set3 hg3 hE hg1 (Value.int .i64 (mixS x0 x1 x2 x3 x4 x5 x6).1) (Value.int .i64 (mixS x0 x1 x2 x3 x4 x5 x6).2.1) (Value.int .i64 (mixS x0 x1 x2 x3 x4 x5 x6).2.2)
    rw [← hw9]
    refine ⟨by first | rfl | trivial, g, ?_, hg1, hE9, by omega, hB9⟩
    change a.tmps.getD 7 undef = _
    simp [*]
  case R1hop2 =>
    intro a w' hA
    refine ⟨⟨⟨⟨⟨⟨⟨⟨⟨⟨⟨⟨trivial, ?_⟩, ?_⟩, ?_⟩, ?_⟩, ?_⟩, ?_⟩, ?_⟩, ?_⟩, ?_⟩, ?_⟩, ?_⟩, ?_⟩
    · intro _ h; exact absurd (h.symm.trans (by kernel_rfl : _ = true)) Bool.false_ne_true
    · intro _ h; exact absurd (h.symm.trans (by kernel_rfl : _ = true)) Bool.false_ne_true
    · intro _ h; exact absurd (h.symm.trans (by kernel_rfl : _ = true)) Bool.false_ne_true
    · intro _ h; exact absurd (h.symm.trans (by kernel_rfl : _ = true)) Bool.false_ne_true
    · intro _ h; exact absurd (h.symm.trans (by kernel_rfl : _ = true)) Bool.false_ne_true
    · intro _ h; exact absurd (h.symm.trans (by kernel_rfl : _ = true)) Bool.false_ne_true
    · intro _ h; exact absurd (h.symm.trans (by kernel_rfl : _ = true)) Bool.false_ne_true
    · intro _ h; exact absurd (h.symm.trans (by kernel_rfl : _ = true)) Bool.false_ne_true
    · intro _ _ hp
      obtain ⟨wq11, s11⟩ := hp 6 (by decide) (by rfl)
      change a.tmps.getD 11 undef = _ at s11
      simp at s11
      clear hp
      refine wpOp_of_list rfl rfl ?_
      go_wp2_with fail
      exact ⟨_, rfl, w', rfl⟩
    · intro _ h; exact absurd (h.symm.trans (by kernel_rfl : _ = true)) Bool.false_ne_true
    · intro h; exact absurd rfl h
    · intro _ _ hp
      obtain ⟨wq19, s19⟩ := hp 8 (by decide) (by rfl)
      change a.tmps.getD 19 undef = _ at s19
      simp at s19
      clear hp
      refine wpOp_of_list rfl rfl ?_
      go_wp2_with fail
      exact ⟨_, rfl, w', rfl⟩
  case R1fin =>
    intro X w2 hP hp
    obtain ⟨g, hX9, hg1, hE2, hg2, hg3⟩ := hP
    obtain ⟨⟨⟨⟨⟨⟨⟨⟨⟨⟨⟨⟨_, h0⟩, h1⟩, h2⟩, h3⟩, h4⟩, h5⟩, h6⟩, h7⟩, h8⟩, h9⟩, h10⟩, h11⟩ := hp
    obtain ⟨_, h0⟩ := h0 (by decide)
    change X 0 = _ at h0
    obtain ⟨_, h1⟩ := h1 (by decide)
    change X 1 = _ at h1
    obtain ⟨_, h2⟩ := h2 (by decide)
    change X 2 = _ at h2
    obtain ⟨_, h3⟩ := h3 (by decide)
    change X 3 = _ at h3
    obtain ⟨_, h4⟩ := h4 (by decide)
    change X 4 = _ at h4
    obtain ⟨_, h5⟩ := h5 (by decide)
    change X 5 = _ at h5
    obtain ⟨_, h6⟩ := h6 (by decide)
    change X 6 = _ at h6
    obtain ⟨_, h7⟩ := h7 (by decide)
    change X 7 = _ at h7
    obtain ⟨_, h8⟩ := h8 (by decide)
    change X 8 = _ at h8
    obtain ⟨_, h11⟩ := h11 (by decide)
    change X 11 = _ at h11
    go_simp
    clear hX9 h0 h1 h2 h3 h4 h5 h6 h7 h8 h11
    have HG := hide (And.intro hg1 (And.intro hg2 hg3))
    have e0 := (hE2.facts.1 _ 0 z0).trans c0
    have e1 := (hE2.facts.1 _ 1 z0).trans c1
    have e2 := (hE2.facts.1 _ 2 z0).trans c2
    have e3 := (hE2.facts.1 _ 0 z1).trans c3
    have e4 := (hE2.facts.1 _ 1 z1).trans c4
    have e5 := (hE2.facts.1 _ 2 z1).trans c5
    have y0 := hE2.facts.2.2 _ z0
    have y1 := hE2.facts.2.2 _ z1
    have hEE := hE0.trans hE2
    clear hg1 hg2 hg3 c0 c1 c2 c3 c4 c5 z0 z1 zz hE0 hE2
    obtain ⟨gg, rfl⟩ : ∃ gg : Nat, gg = g := ⟨_, rfl⟩
    go_wp2_with fail
    apply wp_region_SL 10 9 12 38 (by kernel_rfl) [fun v _ => v = _, fun v _ => v = _, fun v _ => v = _, fun v _ => v = _, fun v _ => v = _, fun v _ => v = _, fun v _ => v = _, fun v _ => v = _, fun v _ => v = _, fun v w' => ∃ g, v = .pointer (some ⟨g, 0, none⟩) ∧ w2.heap.size ≤ g ∧ g < w'.heap.size ∧ w'.heap[g]? = some (.cells #[.int .i64 0, .int .i64 0, .int .i64 0] 43 (0, 0)), fun _ _ => True, fun v _ => v = _] (fun v w'' => ∃ g, v = .pointer (some ⟨g, 0, none⟩) ∧ w2.heap.size ≤ g ∧ Ext w2 w'' ∧ g < w''.heap.size ∧ w''.heap[g]? = some (.cells #[Value.int .i64 (mixS x0 x1 x2 x3 x4 x5 x6).1, Value.int .i64 (mixS x0 x1 x2 x3 x4 x5 x6).2.1, Value.int .i64 (mixS x0 x1 x2 x3 x4 x5 x6).2.2] 43 (0, 0))) rfl (by kernel_rfl) (by kernel_rfl) (by kernel_rfl) (by kernel_rfl) (by kernel_rfl) (by kernel_rfl) (by kernel_rfl) rfl ⟨stab_eq _, stab_eq _, stab_eq _, stab_eq _, stab_eq _, stab_eq _, stab_eq _, stab_eq _, stab_eq _, stab_new _ _ _, stab_true, stab_eq _, trivial⟩ (by kernel_rfl) ?R2hop ?R2hst ?R2hop2 ?R2fin
    case R2hop =>
      intro a w' hE hA
      have hc := hE.facts.1
      have hz := hE.facts.2.2
      refine ⟨⟨⟨⟨⟨⟨⟨⟨⟨⟨⟨⟨trivial, ?_⟩, ?_⟩, ?_⟩, ?_⟩, ?_⟩, ?_⟩, ?_⟩, ?_⟩, ?_⟩, ?_⟩, ?_⟩, ?_⟩
      · intro _ _ hp
        have s3 := hA 3 (by rfl)
        simp [sl] at s3
        clear hp
        refine wpOp_of_list rfl rfl ?_
        go_wp2_with (first | (go_at_call 25; refine (toStain_any _ _ _ _).mono ?_; rintro e w8 ⟨rfl, hb8⟩) | (go_at_call 46; refine (MixStains_any x0 x1 x2 x3 x4 x5 x6 _).mono ?_; rintro e w8 ⟨rfl, hb8⟩))
        exact ⟨_, rfl, rfl, (by repeat (first | exact kE | exact Ext.refl _ | apply Ext.alloc | apply Ext.drewN | apply Ext.drew | apply Ext.set0 | apply Ext.set1 | apply Ext.set2 | apply Ext.set3 | (refine Ext.setk ?_ (by omega) _) | (apply Ext.snoc; assumption)))⟩
      · intro _ _ hp
        have s21 := hp 0 (by rfl)
        change a.tmps.getD 21 undef = _ at s21
        simp at s21
        clear hp
        refine wpOp_of_list rfl rfl ?_
        go_wp2_with (first | (go_at_call 25; refine (toStain_any _ _ _ _).mono ?_; rintro e w8 ⟨rfl, hb8⟩) | (go_at_call 46; refine (MixStains_any x0 x1 x2 x3 x4 x5 x6 _).mono ?_; rintro e w8 ⟨rfl, hb8⟩))
        exact ⟨_, rfl, rfl, (by repeat (first | exact kE | exact Ext.refl _ | apply Ext.alloc | apply Ext.drewN | apply Ext.drew | apply Ext.set0 | apply Ext.set1 | apply Ext.set2 | apply Ext.set3 | (refine Ext.setk ?_ (by omega) _) | (apply Ext.snoc; assumption)))⟩
      · intro _ _ hp
        have s4 := hA 4 (by rfl)
        simp [sl] at s4
        clear hp
        refine wpOp_of_list rfl rfl ?_
        go_wp2_with (first | (go_at_call 25; refine (toStain_any _ _ _ _).mono ?_; rintro e w8 ⟨rfl, hb8⟩) | (go_at_call 46; refine (MixStains_any x0 x1 x2 x3 x4 x5 x6 _).mono ?_; rintro e w8 ⟨rfl, hb8⟩))
        exact ⟨_, rfl, rfl, (by repeat (first | exact kE | exact Ext.refl _ | apply Ext.alloc | apply Ext.drewN | apply Ext.drew | apply Ext.set0 | apply Ext.set1 | apply Ext.set2 | apply Ext.set3 | (refine Ext.setk ?_ (by omega) _) | (apply Ext.snoc; assumption)))⟩
      · intro _ _ hp
        have s23 := hp 2 (by rfl)
        change a.tmps.getD 23 undef = _ at s23
        simp at s23
        clear hp
        refine wpOp_of_list rfl rfl ?_
        go_wp2_with (first | (go_at_call 25; refine (toStain_any _ _ _ _).mono ?_; rintro e w8 ⟨rfl, hb8⟩) | (go_at_call 46; refine (MixStains_any x0 x1 x2 x3 x4 x5 x6 _).mono ?_; rintro e w8 ⟨rfl, hb8⟩))
        exact ⟨_, rfl, rfl, (by repeat (first | exact kE | exact Ext.refl _ | apply Ext.alloc | apply Ext.drewN | apply Ext.drew | apply Ext.set0 | apply Ext.set1 | apply Ext.set2 | apply Ext.set3 | (refine Ext.setk ?_ (by omega) _) | (apply Ext.snoc; assumption)))⟩
      · intro _ _ hp
        have s2 := hA 2 (by rfl)
        simp [sl] at s2
        clear hp
        refine wpOp_of_list rfl rfl ?_
        go_wp2_with (first | (go_at_call 25; refine (toStain_any _ _ _ _).mono ?_; rintro e w8 ⟨rfl, hb8⟩) | (go_at_call 46; refine (MixStains_any x0 x1 x2 x3 x4 x5 x6 _).mono ?_; rintro e w8 ⟨rfl, hb8⟩))
        exact ⟨_, rfl, rfl, (by repeat (first | exact kE | exact Ext.refl _ | apply Ext.alloc | apply Ext.drewN | apply Ext.drew | apply Ext.set0 | apply Ext.set1 | apply Ext.set2 | apply Ext.set3 | (refine Ext.setk ?_ (by omega) _) | (apply Ext.snoc; assumption)))⟩
      · intro _ _ hp
        have s22 := hp 1 (by rfl)
        change a.tmps.getD 22 undef = _ at s22
        simp at s22
        have s24 := hp 3 (by rfl)
        change a.tmps.getD 24 undef = _ at s24
        simp at s24
        have s25 := hp 4 (by rfl)
        change a.tmps.getD 25 undef = _ at s25
        simp at s25
        clear hp
        refine wpOp_of_list rfl rfl ?_
        go_wp2_with (first | (go_at_call 25; refine (toStain_any _ _ _ _).mono ?_; rintro e w8 ⟨rfl, hb8⟩) | (go_at_call 46; refine (MixStains_any x0 x1 x2 x3 x4 x5 x6 _).mono ?_; rintro e w8 ⟨rfl, hb8⟩))
        exact ⟨_, rfl, rfl, (by repeat (first | exact kE | exact Ext.refl _ | apply Ext.alloc | apply Ext.drewN | apply Ext.drew | apply Ext.set0 | apply Ext.set1 | apply Ext.set2 | apply Ext.set3 | (refine Ext.setk ?_ (by omega) _) | (apply Ext.snoc; assumption)))⟩
      · intro _ _ hp
        have s26 := hp 5 (by rfl)
        change a.tmps.getD 26 undef = _ at s26
        simp at s26
        clear hp
        refine wpOp_of_list rfl rfl ?_
        go_wp2_with (first | (go_at_call 25; refine (toStain_any _ _ _ _).mono ?_; rintro e w8 ⟨rfl, hb8⟩) | (go_at_call 46; refine (MixStains_any x0 x1 x2 x3 x4 x5 x6 _).mono ?_; rintro e w8 ⟨rfl, hb8⟩))
        exact ⟨_, rfl, rfl, (by repeat (first | exact kE | exact Ext.refl _ | apply Ext.alloc | apply Ext.drewN | apply Ext.drew | apply Ext.set0 | apply Ext.set1 | apply Ext.set2 | apply Ext.set3 | (refine Ext.setk ?_ (by omega) _) | (apply Ext.snoc; assumption)))⟩
      · intro _ _ hp
        have s20 := hp 6 (by rfl)
        change a.tmps.getD 20 undef = _ at s20
        simp at s20
        clear hp
        refine wpOp_of_list rfl rfl ?_
        go_wp2_with (first | (go_at_call 25; refine (toStain_any _ _ _ _).mono ?_; rintro e w8 ⟨rfl, hb8⟩) | (go_at_call 46; refine (MixStains_any x0 x1 x2 x3 x4 x5 x6 _).mono ?_; rintro e w8 ⟨rfl, hb8⟩))
        exact ⟨_, rfl, rfl, (by repeat (first | exact kE | exact Ext.refl _ | apply Ext.alloc | apply Ext.drewN | apply Ext.drew | apply Ext.set0 | apply Ext.set1 | apply Ext.set2 | apply Ext.set3 | (refine Ext.setk ?_ (by omega) _) | (apply Ext.snoc; assumption)))⟩
      · intro _ _ hp
        have s20 := hp 6 (by rfl)
        change a.tmps.getD 20 undef = _ at s20
        simp at s20
        clear hp
        refine wpOp_of_list rfl rfl ?_
        go_wp2_with (first | (go_at_call 25; refine (toStain_any _ _ _ _).mono ?_; rintro e w8 ⟨rfl, hb8⟩) | (go_at_call 46; refine (MixStains_any x0 x1 x2 x3 x4 x5 x6 _).mono ?_; rintro e w8 ⟨rfl, hb8⟩))
        exact ⟨_, rfl, rfl, (by repeat (first | exact kE | exact Ext.refl _ | apply Ext.alloc | apply Ext.drewN | apply Ext.drew | apply Ext.set0 | apply Ext.set1 | apply Ext.set2 | apply Ext.set3 | (refine Ext.setk ?_ (by omega) _) | (apply Ext.snoc; assumption)))⟩
      · intro _ _ hp
        clear hp
        refine wpOp_of_list rfl rfl ?_
        go_wp2_with (first | (go_at_call 25; refine (toStain_any _ _ _ _).mono ?_; rintro e w8 ⟨rfl, hb8⟩) | (go_at_call 46; refine (MixStains_any x0 x1 x2 x3 x4 x5 x6 _).mono ?_; rintro e w8 ⟨rfl, hb8⟩))
        exact ⟨_, rfl, new_block _ _ _ _ hE.size, (Ext.refl _).alloc _⟩
      · intro h; exact absurd rfl h
      · intro _ h; exact absurd (h.symm.trans (by kernel_rfl : _ = true)) Bool.false_ne_true
    case R2hst =>
      intro a w' hE hA hp
      have s9 := hp 9 (by rfl)
      obtain ⟨g, s9, hg1, hg2, hg3⟩ := s9
      change a.tmps.getD 9 undef = _ at s9
      simp at s9
      have s27 := hp 7 (by rfl)
      change a.tmps.getD 27 undef = _ at s27
      simp at s27
      clear hp
      obtain ⟨hgc, hgf⟩ := block_cell hg3
      refine wpOp_of_list rfl rfl ?_
      go_wp2_with fail
      obtain ⟨w9, hw9, hE9, hB9, hs9⟩ := set3 hg3 hE hg1 (Value.int .i64 (mixS x0 x1 x2 x3 x4 x5 x6).1) (Value.int .i64 (mixS x0 x1 x2 x3 x4 x5 x6).2.1) (Value.int .i64 (mixS x0 x1 x2 x3 x4 x5 x6).2.2)
      rw [← hw9]
      refine ⟨by first | rfl | trivial, g, ?_, hg1, hE9, by omega, hB9⟩
      change a.tmps.getD 9 undef = _
      simp [*]
    case R2hop2 =>
      intro a w' hA
      refine ⟨⟨⟨⟨⟨⟨⟨⟨⟨⟨⟨⟨trivial, ?_⟩, ?_⟩, ?_⟩, ?_⟩, ?_⟩, ?_⟩, ?_⟩, ?_⟩, ?_⟩, ?_⟩, ?_⟩, ?_⟩
      · intro _ h; exact absurd (h.symm.trans (by kernel_rfl : _ = true)) Bool.false_ne_true
      · intro _ h; exact absurd (h.symm.trans (by kernel_rfl : _ = true)) Bool.false_ne_true
      · intro _ h; exact absurd (h.symm.trans (by kernel_rfl : _ = true)) Bool.false_ne_true
      · intro _ h; exact absurd (h.symm.trans (by kernel_rfl : _ = true)) Bool.false_ne_true
      · intro _ h; exact absurd (h.symm.trans (by kernel_rfl : _ = true)) Bool.false_ne_true
      · intro _ h; exact absurd (h.symm.trans (by kernel_rfl : _ = true)) Bool.false_ne_true
      · intro _ h; exact absurd (h.symm.trans (by kernel_rfl : _ = true)) Bool.false_ne_true
      · intro _ h; exact absurd (h.symm.trans (by kernel_rfl : _ = true)) Bool.false_ne_true
      · intro _ _ hp
        obtain ⟨wq20, s20⟩ := hp 6 (by decide) (by rfl)
        change a.tmps.getD 20 undef = _ at s20
        simp at s20
        clear hp
        refine wpOp_of_list rfl rfl ?_
        go_wp2_with fail
        exact ⟨_, rfl, w', rfl⟩
      · intro _ h; exact absurd (h.symm.trans (by kernel_rfl : _ = true)) Bool.false_ne_true
      · intro h; exact absurd rfl h
      · intro _ _ hp
        obtain ⟨wq28, s28⟩ := hp 8 (by decide) (by rfl)
        change a.tmps.getD 28 undef = _ at s28
        simp at s28
        clear hp
        refine wpOp_of_list rfl rfl ?_
        go_wp2_with fail
        exact ⟨_, rfl, w', rfl⟩
    case R2fin =>
      intro X w3 hP hp
      obtain ⟨g, hX9, hg1, hE3, hg2, hg3⟩ := hP
      obtain ⟨⟨⟨⟨⟨⟨⟨⟨⟨⟨⟨⟨_, h0⟩, h1⟩, h2⟩, h3⟩, h4⟩, h5⟩, h6⟩, h7⟩, h8⟩, h9⟩, h10⟩, h11⟩ := hp
      obtain ⟨_, h0⟩ := h0 (by decide)
      change X 0 = _ at h0
      obtain ⟨_, h1⟩ := h1 (by decide)
      change X 1 = _ at h1
      obtain ⟨_, h2⟩ := h2 (by decide)
      change X 2 = _ at h2
      obtain ⟨_, h3⟩ := h3 (by decide)
      change X 3 = _ at h3
      obtain ⟨_, h4⟩ := h4 (by decide)
      change X 4 = _ at h4
      obtain ⟨_, h5⟩ := h5 (by decide)
      change X 5 = _ at h5
      obtain ⟨_, h6⟩ := h6 (by decide)
      change X 6 = _ at h6
      obtain ⟨_, h7⟩ := h7 (by decide)
      change X 7 = _ at h7
      obtain ⟨_, h8⟩ := h8 (by decide)
      change X 8 = _ at h8
      obtain ⟨_, h11⟩ := h11 (by decide)
      change X 11 = _ at h11
      go_simp
      obtain ⟨hG1, hG2, hG3⟩ := HG.out
      obtain ⟨q1, _⟩ := block_cell ((hE3.block gg hG2).trans hG3)
      obtain ⟨q2, _⟩ := block_cell hg3
      have q10 := q1 0
      have q11 := q1 1
      have q12 := q1 2
      have q20 := q2 0
      have q21 := q2 1
      have q22 := q2 2
      simp at q10 q11 q12 q20 q21 q22
      have hEF := hEE.trans hE3
      clear hX9 h0 h1 h2 h3 h4 h5 h6 h7 h8 h11 hg1 hg2 hg3 hG1 hG2 hG3 q1 q2 hE3 e0 e1 e2 e3 e4 e5 y0 y1
      go_wp2_with (first | (go_at_call 44; refine (eqStain_any _ _ _ _ _ _ _).mono ?_; rintro e w8 ⟨rfl, hb8⟩))
      go_ret
      exact ⟨rfl, by repeat (first | exact kE | exact Ext.refl _ | apply Ext.alloc | apply Ext.drewN | apply Ext.drew | apply Ext.set0 | apply Ext.set1 | apply Ext.set2 | apply Ext.set3 | (refine Ext.setk ?_ (by omega) _) | (apply Ext.snoc; assumption))⟩
end Go.Proofs.Ytdoikenjdaeeiaa
