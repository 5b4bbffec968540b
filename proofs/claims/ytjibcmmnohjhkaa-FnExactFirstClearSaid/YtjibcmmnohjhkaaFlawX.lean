/- The walk of the law on the first clear place. No condition. -/
import Derived.Test.YtjibcmmnohjhkaaFlawG
import Derived.Test.YtjibcmmnohjhkaaFlawW
import Derived.Test.YtjibcmmnohjhkaaRegS
namespace Go.Proofs.Ytjibcmmnohjhkaa
open Go.RowKit
set_option maxHeartbeats 2000000 in
theorem FnExactFirstClear_walk (W H : Int) (l : List P2) (A : Option Addr) (c : Nat) (p0 p1 : Int) (w : World) (hl : l.length ≤ maxLen) (hr : R2 w A l) :
    Calls Try.prog 7 #[.agg #[.int .i64 W, .int .i64 H, .slice A l.length c], .agg #[.int .i64 p0, .int .i64 p1]] w fun e w' => e = .returned (.bool true) ∧ Ext w w' := by
  have HR := hide hr
  clear hr
  by_cases h : (1048576 : Int) < l.length
  · have hs : szR l.length 1048576 = -1 := by unfold szR; rw [if_pos h]
    go_enter Try.func7, Try.ntmps7
    go_wp2_with fail
    refine (szFlawed_any W H l A c 1048576 _ hl (by omega) (by omega)).mono ?_; rintro e w1 ⟨rfl, hb1⟩; obtain ⟨hc1, hf1, _⟩ := hb1.facts; have hs1 := hb1.size; (try simp only [World.size_alloc] at hs1); have hz1_0 : w.heap.size < w1.heap.size := (by omega); have hz1_1 : w.heap.size + 1 < w1.heap.size := (by omega)
    rw [hs]
    go_wp2_with fail
    go_ret
    exact ⟨rfl, by repeat (first | exact kE | exact Ext.refl _ | apply Ext.alloc | apply Ext.drewN | apply Ext.drew | apply Ext.set0 | apply Ext.set1 | apply Ext.set2 | apply Ext.set3 | (refine Ext.setk ?_ (by omega) _) | (apply Ext.snoc; assumption))⟩
  · have hs : szR l.length 1048576 = 1048576 - l.length := by unfold szR; rw [if_neg h]
    have h' : l.length ≤ 1048576 := by omega
    obtain ⟨ra, rb, ok, hv⟩ := FC.ex W H l (p0, p1)
    have HV := hide hv
    clear hv
    
    go_enter Try.func7, Try.ntmps7
    go_wp2_with fail
    obtain ⟨w0, hw⟩ : ∃ w1, w1 = ((w.alloc (Obj.cells #[Value.int IntKind.i64 W, Value.int IntKind.i64 H, Value.slice A l.length c] 30)).alloc (Obj.cells #[Value.int IntKind.i64 p0, Value.int IntKind.i64 p1] 23)) := ⟨_, rfl⟩; rw [← hw]; have kT : Tr [(w.heap.size, [.int .i64 W, .int .i64 H, .slice A l.length c]), (w.heap.size + 1, [.int .i64 p0, .int .i64 p1])] w w0 := (by rw [hw]; exact ⟨by (first | (simp [Bx, CellsAt, go_sem, *]; done) | (simp [Bx, CellsAt, go_sem, *]; omega)), by (repeat (first | exact kE | exact Ext.refl _ | apply Ext.alloc | apply Ext.drewN | apply Ext.drew | apply Ext.set0 | apply Ext.set1 | apply Ext.set2 | apply Ext.set3 | (refine Ext.setk ?_ (by omega) _) | (apply Ext.snoc; assumption)))⟩); have HT := hide kT; clear hw kT; have kT := HT.out; simp only [Tr, Bx, CellsAt, Nat.reduceAdd, Nat.zero_add, and_true] at kT; obtain ⟨⟨⟨kz0, kf0, kc0_0, kc0_1, kc0_2⟩, ⟨kz1, kf1, kc1_0, kc1_1⟩⟩, kE⟩ := kT
    refine (szFlawed_any W H l A c 1048576 _ hl (by omega) (by omega)).mono ?_; rintro e w1 ⟨rfl, hb⟩; have HT := hide (HT.out.ext hb); have Hw1 := hide hb; clear hb; clear kz0 kf0 kc0_0 kc0_1 kc0_2 kz1 kf1 kc1_0 kc1_1 kE; have kT := HT.out; simp only [Tr, Bx, CellsAt, Nat.reduceAdd, Nat.zero_add, and_true] at kT; obtain ⟨⟨⟨kz0, kf0, kc0_0, kc0_1, kc0_2⟩, ⟨kz1, kf1, kc1_0, kc1_1⟩⟩, kE⟩ := kT
    rw [hs]
    clear hs
    go_wp2_with fail
    apply wp_region_SL 9 8 11 47 (by kernel_rfl) [fun v _ => v = _, fun v w' => ∃ g, v = .agg #[.int .i64 W, .int .i64 H, .slice (some ⟨g, 0, none⟩) l.length l.length] ∧ R2 w' (some ⟨g, 0, none⟩) l, fun v _ => v = _, fun v _ => v = _, fun v _ => v = _, fun v _ => v = _, fun v _ => v = _, fun v _ => v = _, fun v w' => ∃ g, v = .pointer (some ⟨g, 0, none⟩) ∧ w1.heap.size ≤ g ∧ g < w'.heap.size ∧ w'.heap[g]? = some (.cells #[.int .i64 0, .int .i64 0] 42 (0, 0)), fun _ _ => True, fun v _ => v = _] (fun v w'' => ∃ g, v = .pointer (some ⟨g, 0, none⟩) ∧ w1.heap.size ≤ g ∧ Ext w1 w'' ∧ g < w''.heap.size ∧ w''.heap[g]? = some (.cells #[Value.int .i64 ra, Value.int .i64 rb] 42 (0, 0))) rfl (by kernel_rfl) (by kernel_rfl) (by kernel_rfl) (by kernel_rfl) (by kernel_rfl) (by kernel_rfl) (by kernel_rfl) rfl ⟨stab_eq _, stab_R2 (fun g => .agg #[.int .i64 W, .int .i64 H, .slice (some ⟨g, 0, none⟩) l.length l.length]) l, stab_eq _, stab_eq _, stab_eq _, stab_eq _, stab_eq _, stab_eq _, stab_new _ _ _, stab_true, stab_eq _, trivial⟩ (by kernel_rfl) ?R5hop ?R5hst ?R5hop2 ?R5fin
    case R5hop =>
      intro a w' hE hA
      have hc := hE.facts.1
      have hz := hE.facts.2.2
      refine ⟨⟨⟨⟨⟨⟨⟨⟨⟨⟨⟨trivial, ?_⟩, ?_⟩, ?_⟩, ?_⟩, ?_⟩, ?_⟩, ?_⟩, ?_⟩, ?_⟩, ?_⟩, ?_⟩
      · intro _ _ hp
        have s2 := hA 2 (by rfl)
        simp [sl] at s2
        clear hp
        refine wpOp_of_list rfl rfl ?_
        go_wp2_with (first | (go_at_call 18; refine (toFlawed_any W H l A c _ h' (HR.out.ext (kE.trans (by repeat (first | exact kE | exact Ext.refl _ | apply Ext.alloc | apply Ext.drewN | apply Ext.drew | apply Ext.set0 | apply Ext.set1 | apply Ext.set2 | apply Ext.set3 | (refine Ext.setk ?_ (by omega) _) | (apply Ext.snoc; assumption)))))).mono ?_; rintro e w8 ⟨g8, rfl, hr8, hb8⟩) | (go_at_call 14; refine (toSheet_any _ _ _).mono ?_; rintro e w8 ⟨rfl, hb8⟩) | (go_at_call 26; refine (sFirstClear_any W H l _ _ p0 p1 ra rb ok _ h' hg HV.out).mono ?_; rintro e w8 ⟨rfl, hb8⟩))
        exact ⟨_, rfl, rfl, (by repeat (first | exact kE | exact Ext.refl _ | apply Ext.alloc | apply Ext.drewN | apply Ext.drew | apply Ext.set0 | apply Ext.set1 | apply Ext.set2 | apply Ext.set3 | (refine Ext.setk ?_ (by omega) _) | (apply Ext.snoc; assumption)))⟩
      · intro _ _ hp
        have s17 := hp 0 (by rfl)
        change a.tmps.getD 17 undef = _ at s17
        simp at s17
        clear hp
        refine wpOp_of_list rfl rfl ?_
        go_wp2_with (first | (go_at_call 18; refine (toFlawed_any W H l A c _ h' (HR.out.ext (kE.trans (by repeat (first | exact kE | exact Ext.refl _ | apply Ext.alloc | apply Ext.drewN | apply Ext.drew | apply Ext.set0 | apply Ext.set1 | apply Ext.set2 | apply Ext.set3 | (refine Ext.setk ?_ (by omega) _) | (apply Ext.snoc; assumption)))))).mono ?_; rintro e w8 ⟨g8, rfl, hr8, hb8⟩) | (go_at_call 14; refine (toSheet_any _ _ _).mono ?_; rintro e w8 ⟨rfl, hb8⟩) | (go_at_call 26; refine (sFirstClear_any W H l _ _ p0 p1 ra rb ok _ h' hg HV.out).mono ?_; rintro e w8 ⟨rfl, hb8⟩))
        exact ⟨_, rfl, ⟨g8, rfl, hr8⟩, (by repeat (first | exact kE | exact Ext.refl _ | apply Ext.alloc | apply Ext.drewN | apply Ext.drew | apply Ext.set0 | apply Ext.set1 | apply Ext.set2 | apply Ext.set3 | (refine Ext.setk ?_ (by omega) _) | (apply Ext.snoc; assumption)))⟩
      · intro _ _ hp
        have s3 := hA 3 (by rfl)
        simp [sl] at s3
        clear hp
        refine wpOp_of_list rfl rfl ?_
        go_wp2_with (first | (go_at_call 18; refine (toFlawed_any W H l A c _ h' (HR.out.ext (kE.trans (by repeat (first | exact kE | exact Ext.refl _ | apply Ext.alloc | apply Ext.drewN | apply Ext.drew | apply Ext.set0 | apply Ext.set1 | apply Ext.set2 | apply Ext.set3 | (refine Ext.setk ?_ (by omega) _) | (apply Ext.snoc; assumption)))))).mono ?_; rintro e w8 ⟨g8, rfl, hr8, hb8⟩) | (go_at_call 14; refine (toSheet_any _ _ _).mono ?_; rintro e w8 ⟨rfl, hb8⟩) | (go_at_call 26; refine (sFirstClear_any W H l _ _ p0 p1 ra rb ok _ h' hg HV.out).mono ?_; rintro e w8 ⟨rfl, hb8⟩))
        exact ⟨_, rfl, rfl, (by repeat (first | exact kE | exact Ext.refl _ | apply Ext.alloc | apply Ext.drewN | apply Ext.drew | apply Ext.set0 | apply Ext.set1 | apply Ext.set2 | apply Ext.set3 | (refine Ext.setk ?_ (by omega) _) | (apply Ext.snoc; assumption)))⟩
      · intro _ _ hp
        have s19 := hp 2 (by rfl)
        change a.tmps.getD 19 undef = _ at s19
        simp at s19
        clear hp
        refine wpOp_of_list rfl rfl ?_
        go_wp2_with (first | (go_at_call 18; refine (toFlawed_any W H l A c _ h' (HR.out.ext (kE.trans (by repeat (first | exact kE | exact Ext.refl _ | apply Ext.alloc | apply Ext.drewN | apply Ext.drew | apply Ext.set0 | apply Ext.set1 | apply Ext.set2 | apply Ext.set3 | (refine Ext.setk ?_ (by omega) _) | (apply Ext.snoc; assumption)))))).mono ?_; rintro e w8 ⟨g8, rfl, hr8, hb8⟩) | (go_at_call 14; refine (toSheet_any _ _ _).mono ?_; rintro e w8 ⟨rfl, hb8⟩) | (go_at_call 26; refine (sFirstClear_any W H l _ _ p0 p1 ra rb ok _ h' hg HV.out).mono ?_; rintro e w8 ⟨rfl, hb8⟩))
        exact ⟨_, rfl, rfl, (by repeat (first | exact kE | exact Ext.refl _ | apply Ext.alloc | apply Ext.drewN | apply Ext.drew | apply Ext.set0 | apply Ext.set1 | apply Ext.set2 | apply Ext.set3 | (refine Ext.setk ?_ (by omega) _) | (apply Ext.snoc; assumption)))⟩
      · intro _ _ hp
        have s18 := hp 1 (by rfl)
        obtain ⟨gs, s18, hg⟩ := s18
        change a.tmps.getD 18 undef = _ at s18
        simp at s18
        have s20 := hp 3 (by rfl)
        change a.tmps.getD 20 undef = _ at s20
        simp at s20
        clear hp
        refine wpOp_of_list rfl rfl ?_
        go_wp2_with (first | (go_at_call 18; refine (toFlawed_any W H l A c _ h' (HR.out.ext (kE.trans (by repeat (first | exact kE | exact Ext.refl _ | apply Ext.alloc | apply Ext.drewN | apply Ext.drew | apply Ext.set0 | apply Ext.set1 | apply Ext.set2 | apply Ext.set3 | (refine Ext.setk ?_ (by omega) _) | (apply Ext.snoc; assumption)))))).mono ?_; rintro e w8 ⟨g8, rfl, hr8, hb8⟩) | (go_at_call 14; refine (toSheet_any _ _ _).mono ?_; rintro e w8 ⟨rfl, hb8⟩) | (go_at_call 26; refine (sFirstClear_any W H l _ _ p0 p1 ra rb ok _ h' hg HV.out).mono ?_; rintro e w8 ⟨rfl, hb8⟩))
        exact ⟨_, rfl, rfl, (by repeat (first | exact kE | exact Ext.refl _ | apply Ext.alloc | apply Ext.drewN | apply Ext.drew | apply Ext.set0 | apply Ext.set1 | apply Ext.set2 | apply Ext.set3 | (refine Ext.setk ?_ (by omega) _) | (apply Ext.snoc; assumption)))⟩
      · intro _ _ hp
        have s21 := hp 4 (by rfl)
        change a.tmps.getD 21 undef = _ at s21
        simp at s21
        clear hp
        refine wpOp_of_list rfl rfl ?_
        go_wp2_with (first | (go_at_call 18; refine (toFlawed_any W H l A c _ h' (HR.out.ext (kE.trans (by repeat (first | exact kE | exact Ext.refl _ | apply Ext.alloc | apply Ext.drewN | apply Ext.drew | apply Ext.set0 | apply Ext.set1 | apply Ext.set2 | apply Ext.set3 | (refine Ext.setk ?_ (by omega) _) | (apply Ext.snoc; assumption)))))).mono ?_; rintro e w8 ⟨g8, rfl, hr8, hb8⟩) | (go_at_call 14; refine (toSheet_any _ _ _).mono ?_; rintro e w8 ⟨rfl, hb8⟩) | (go_at_call 26; refine (sFirstClear_any W H l _ _ p0 p1 ra rb ok _ h' hg HV.out).mono ?_; rintro e w8 ⟨rfl, hb8⟩))
        exact ⟨_, rfl, rfl, (by repeat (first | exact kE | exact Ext.refl _ | apply Ext.alloc | apply Ext.drewN | apply Ext.drew | apply Ext.set0 | apply Ext.set1 | apply Ext.set2 | apply Ext.set3 | (refine Ext.setk ?_ (by omega) _) | (apply Ext.snoc; assumption)))⟩
      · intro _ _ hp
        have s16 := hp 5 (by rfl)
        change a.tmps.getD 16 undef = _ at s16
        simp at s16
        clear hp
        refine wpOp_of_list rfl rfl ?_
        go_wp2_with (first | (go_at_call 18; refine (toFlawed_any W H l A c _ h' (HR.out.ext (kE.trans (by repeat (first | exact kE | exact Ext.refl _ | apply Ext.alloc | apply Ext.drewN | apply Ext.drew | apply Ext.set0 | apply Ext.set1 | apply Ext.set2 | apply Ext.set3 | (refine Ext.setk ?_ (by omega) _) | (apply Ext.snoc; assumption)))))).mono ?_; rintro e w8 ⟨g8, rfl, hr8, hb8⟩) | (go_at_call 14; refine (toSheet_any _ _ _).mono ?_; rintro e w8 ⟨rfl, hb8⟩) | (go_at_call 26; refine (sFirstClear_any W H l _ _ p0 p1 ra rb ok _ h' hg HV.out).mono ?_; rintro e w8 ⟨rfl, hb8⟩))
        exact ⟨_, rfl, rfl, (by repeat (first | exact kE | exact Ext.refl _ | apply Ext.alloc | apply Ext.drewN | apply Ext.drew | apply Ext.set0 | apply Ext.set1 | apply Ext.set2 | apply Ext.set3 | (refine Ext.setk ?_ (by omega) _) | (apply Ext.snoc; assumption)))⟩
      · intro _ _ hp
        have s16 := hp 5 (by rfl)
        change a.tmps.getD 16 undef = _ at s16
        simp at s16
        clear hp
        refine wpOp_of_list rfl rfl ?_
        go_wp2_with (first | (go_at_call 18; refine (toFlawed_any W H l A c _ h' (HR.out.ext (kE.trans (by repeat (first | exact kE | exact Ext.refl _ | apply Ext.alloc | apply Ext.drewN | apply Ext.drew | apply Ext.set0 | apply Ext.set1 | apply Ext.set2 | apply Ext.set3 | (refine Ext.setk ?_ (by omega) _) | (apply Ext.snoc; assumption)))))).mono ?_; rintro e w8 ⟨g8, rfl, hr8, hb8⟩) | (go_at_call 14; refine (toSheet_any _ _ _).mono ?_; rintro e w8 ⟨rfl, hb8⟩) | (go_at_call 26; refine (sFirstClear_any W H l _ _ p0 p1 ra rb ok _ h' hg HV.out).mono ?_; rintro e w8 ⟨rfl, hb8⟩))
        exact ⟨_, rfl, rfl, (by repeat (first | exact kE | exact Ext.refl _ | apply Ext.alloc | apply Ext.drewN | apply Ext.drew | apply Ext.set0 | apply Ext.set1 | apply Ext.set2 | apply Ext.set3 | (refine Ext.setk ?_ (by omega) _) | (apply Ext.snoc; assumption)))⟩
      · intro _ _ hp
        clear hp
        refine wpOp_of_list rfl rfl ?_
        go_wp2_with (first | (go_at_call 18; refine (toFlawed_any W H l A c _ h' (HR.out.ext (kE.trans (by repeat (first | exact kE | exact Ext.refl _ | apply Ext.alloc | apply Ext.drewN | apply Ext.drew | apply Ext.set0 | apply Ext.set1 | apply Ext.set2 | apply Ext.set3 | (refine Ext.setk ?_ (by omega) _) | (apply Ext.snoc; assumption)))))).mono ?_; rintro e w8 ⟨g8, rfl, hr8, hb8⟩) | (go_at_call 14; refine (toSheet_any _ _ _).mono ?_; rintro e w8 ⟨rfl, hb8⟩) | (go_at_call 26; refine (sFirstClear_any W H l _ _ p0 p1 ra rb ok _ h' hg HV.out).mono ?_; rintro e w8 ⟨rfl, hb8⟩))
        exact ⟨_, rfl, new_block _ _ _ _ hE.size, (Ext.refl _).alloc _⟩
      · intro h; exact absurd rfl h
      · intro _ h; exact absurd (h.symm.trans (by kernel_rfl : _ = true)) Bool.false_ne_true
    case R5hst =>
      intro a w' hE hA hp
      have s6 := hp 8 (by rfl)
      obtain ⟨g, s6, hg1, hg2, hg3⟩ := s6
      change a.tmps.getD 6 undef = _ at s6
      simp at s6
      have s22 := hp 6 (by rfl)
      change a.tmps.getD 22 undef = _ at s22
      simp at s22
      clear hp
      obtain ⟨hgc, hgf⟩ := block_cell hg3
      refine wpOp_of_list rfl rfl ?_
      go_wp2_with fail
      obtain ⟨w9, hw9, hE9, hB9, hs9⟩ := set2 hg3 hE hg1 (Value.int .i64 ra) (Value.int .i64 rb)
      rw [← hw9]
      refine ⟨by first | rfl | trivial, g, ?_, hg1, hE9, by omega, hB9⟩
      change a.tmps.getD 6 undef = _
      simp [*]
    case R5hop2 =>
      intro a w' hA
      refine ⟨⟨⟨⟨⟨⟨⟨⟨⟨⟨⟨trivial, ?_⟩, ?_⟩, ?_⟩, ?_⟩, ?_⟩, ?_⟩, ?_⟩, ?_⟩, ?_⟩, ?_⟩, ?_⟩
      · intro _ h; exact absurd (h.symm.trans (by kernel_rfl : _ = true)) Bool.false_ne_true
      · intro _ h; exact absurd (h.symm.trans (by kernel_rfl : _ = true)) Bool.false_ne_true
      · intro _ h; exact absurd (h.symm.trans (by kernel_rfl : _ = true)) Bool.false_ne_true
      · intro _ h; exact absurd (h.symm.trans (by kernel_rfl : _ = true)) Bool.false_ne_true
      · intro _ h; exact absurd (h.symm.trans (by kernel_rfl : _ = true)) Bool.false_ne_true
      · intro _ h; exact absurd (h.symm.trans (by kernel_rfl : _ = true)) Bool.false_ne_true
      · intro _ h; exact absurd (h.symm.trans (by kernel_rfl : _ = true)) Bool.false_ne_true
      · intro _ _ hp
        obtain ⟨wq16, s16⟩ := hp 5 (by decide) (by rfl)
        change a.tmps.getD 16 undef = _ at s16
        simp at s16
        clear hp
        refine wpOp_of_list rfl rfl ?_
        go_wp2_with fail
        exact ⟨_, rfl, w', rfl⟩
      · intro _ h; exact absurd (h.symm.trans (by kernel_rfl : _ = true)) Bool.false_ne_true
      · intro h; exact absurd rfl h
      · intro _ _ hp
        obtain ⟨wq23, s23⟩ := hp 7 (by decide) (by rfl)
        change a.tmps.getD 23 undef = _ at s23
        simp at s23
        clear hp
        refine wpOp_of_list rfl rfl ?_
        go_wp2_with fail
        exact ⟨_, rfl, w', rfl⟩
    case R5fin =>
      intro X w3 hP hp
      obtain ⟨g, hX8, hg1, hE, hg2, hg3⟩ := hP
      obtain ⟨⟨⟨⟨⟨⟨⟨⟨⟨⟨⟨_, h0⟩, h1⟩, h2⟩, h3⟩, h4⟩, h5⟩, h6⟩, h7⟩, h8⟩, h9⟩, h10⟩ := hp
      obtain ⟨_, h0⟩ := h0 (by decide)
      change X 0 = _ at h0
      obtain ⟨_, h1⟩ := h1 (by decide)
      obtain ⟨gs, h1, hg⟩ := h1
      change X 1 = _ at h1
      obtain ⟨_, h2⟩ := h2 (by decide)
      change X 2 = _ at h2
      obtain ⟨_, h3⟩ := h3 (by decide)
      change X 3 = _ at h3
      obtain ⟨_, h4⟩ := h4 (by decide)
      change X 4 = _ at h4
      obtain ⟨_, h5⟩ := h5 (by decide)
      change X 5 = _ at h5
      obtain ⟨_, h6⟩ := h6 (by decide)
      change X 6 = _ at h6
      obtain ⟨_, h7⟩ := h7 (by decide)
      change X 7 = _ at h7
      obtain ⟨_, h10⟩ := h10 (by decide)
      change X 10 = _ at h10
      go_simp
      have hgc := block_cell hg3
      have HT := hide (HT.out.more hE g [.int .i64 ra, .int .i64 rb] ⟨hg2, hgc.2, by have hc := hgc.1; simp [CellsAt, hc]⟩)
      clear hX8 h0 h1 h2 h3 h4 h5 h6 h7 h10 hgc hg1 hg2 hg3 hE
      clear kz0 kf0 kc0_0 kc0_1 kc0_2 kz1 kf1 kc1_0 kc1_1 kE
      obtain ⟨ga, rfl⟩ : ∃ gg : Nat, gg = g := ⟨_, rfl⟩
      
      have kT := HT.out; simp only [Tr, Bx, CellsAt, Nat.reduceAdd, Nat.zero_add, and_true] at kT; obtain ⟨⟨⟨kz0, kf0, kc0_0, kc0_1⟩, ⟨kz1, kf1, kc1_0, kc1_1, kc1_2⟩, ⟨kz2, kf2, kc2_0, kc2_1⟩⟩, kE⟩ := kT
      clear hg
      go_wp2_with fail
      refine (toFlawed_any W H l A c _ h' (HR.out.ext kE)).mono ?_; rintro e w4 ⟨g4, rfl, hr4, hb⟩; have HT := hide (HT.out.ext hb); have Hw4 := hide hb; clear hb; clear kz0 kf0 kc0_0 kc0_1 kz1 kf1 kc1_0 kc1_1 kc1_2 kz2 kf2 kc2_0 kc2_1 kE; have kT := HT.out; simp only [Tr, Bx, CellsAt, Nat.reduceAdd, Nat.zero_add, and_true] at kT; obtain ⟨⟨⟨kz0, kf0, kc0_0, kc0_1⟩, ⟨kz1, kf1, kc1_0, kc1_1, kc1_2⟩, ⟨kz2, kf2, kc2_0, kc2_1⟩⟩, kE⟩ := kT
      have HO4 := hide hr4; clear hr4
      go_wp2_with fail
      obtain ⟨w5, hw⟩ : ∃ w1, w1 = w4.alloc (Obj.cells #[Value.int IntKind.i64 W, Value.int IntKind.i64 H, Value.slice (some { block := g4, off := 0 }) l.length l.length] 35) := ⟨_, rfl⟩; rw [← hw]; have Hw5 := hide (show Ext w4 w5 from (by (rw [hw]; (try clear kE); repeat (first | exact kE | exact Ext.refl _ | apply Ext.alloc | apply Ext.drewN | apply Ext.drew | apply Ext.set0 | apply Ext.set1 | apply Ext.set2 | apply Ext.set3 | (refine Ext.setk ?_ (by omega) _) | (apply Ext.snoc; assumption))))); have HT := hide (HT.out.more Hw5.out (w4.heap.size) [.int .i64 W, .int .i64 H, .slice (some ⟨g4, 0, none⟩) l.length l.length] (by (rw [hw]; first | (simp [CellsAt, go_sem, *]; done) | (simp [CellsAt, go_sem, *]; omega)))); clear hw kz0 kf0 kc0_0 kc0_1 kz1 kf1 kc1_0 kc1_1 kc1_2 kz2 kf2 kc2_0 kc2_1 kE; have kT := HT.out; simp only [Tr, Bx, CellsAt, Nat.reduceAdd, Nat.zero_add, and_true] at kT; obtain ⟨⟨⟨kz0, kf0, kc0_0, kc0_1, kc0_2⟩, ⟨kz1, kf1, kc1_0, kc1_1⟩, ⟨kz2, kf2, kc2_0, kc2_1, kc2_2⟩, ⟨kz3, kf3, kc3_0, kc3_1⟩⟩, kE⟩ := kT
      have HO5 := hide (Rds.ext HO4.out Hw5.out)
      apply wp_region_SL 8 7 10 47 (by kernel_rfl) [fun v _ => v = _, fun v _ => v = _, fun v _ => v = _, fun v _ => v = _, fun v _ => v = _, fun v _ => v = _, fun v _ => v = _, fun v w' => ∃ g, v = .pointer (some ⟨g, 0, none⟩) ∧ w5.heap.size ≤ g ∧ g < w'.heap.size ∧ w'.heap[g]? = some (.cells #[.int .i64 0, .int .i64 0] 42 (0, 0)), fun _ _ => True, fun v _ => v = _] (fun v w'' => ∃ g, v = .pointer (some ⟨g, 0, none⟩) ∧ w5.heap.size ≤ g ∧ Ext w5 w'' ∧ g < w''.heap.size ∧ w''.heap[g]? = some (.cells #[Value.int .i64 ra, Value.int .i64 rb] 42 (0, 0))) rfl (by kernel_rfl) (by kernel_rfl) (by kernel_rfl) (by kernel_rfl) (by kernel_rfl) (by kernel_rfl) (by kernel_rfl) rfl ⟨stab_eq _, stab_eq _, stab_eq _, stab_eq _, stab_eq _, stab_eq _, stab_eq _, stab_new _ _ _, stab_true, stab_eq _, trivial⟩ (by kernel_rfl) ?R7hop ?R7hst ?R7hop2 ?R7fin
      case R7hop =>
        intro a w' hE hA
        have hc := hE.facts.1
        have hz := hE.facts.2.2
        refine ⟨⟨⟨⟨⟨⟨⟨⟨⟨⟨trivial, ?_⟩, ?_⟩, ?_⟩, ?_⟩, ?_⟩, ?_⟩, ?_⟩, ?_⟩, ?_⟩, ?_⟩
        · intro _ _ hp
          have s8 := hA 8 (by rfl)
          simp [sl] at s8
          clear hp
          refine wpOp_of_list rfl rfl ?_
          go_wp2_with (first | (go_at_call 14; refine (toSheet_any _ _ _).mono ?_; rintro e w8 ⟨rfl, hb8⟩) | (go_at_call 27; refine (FirstClear_any W H l _ _ p0 p1 ra rb ok _ h' (Rds.ext HO5.out (by repeat (first | exact kE | exact Ext.refl _ | apply Ext.alloc | apply Ext.drewN | apply Ext.drew | apply Ext.set0 | apply Ext.set1 | apply Ext.set2 | apply Ext.set3 | (refine Ext.setk ?_ (by omega) _) | (apply Ext.snoc; assumption)))) HV.out).mono ?_; rintro e w8 ⟨rfl, hb8⟩))
          exact ⟨_, rfl, rfl, (by repeat (first | exact kE | exact Ext.refl _ | apply Ext.alloc | apply Ext.drewN | apply Ext.drew | apply Ext.set0 | apply Ext.set1 | apply Ext.set2 | apply Ext.set3 | (refine Ext.setk ?_ (by omega) _) | (apply Ext.snoc; assumption)))⟩
        · intro _ _ hp
          have s3 := hA 3 (by rfl)
          simp [sl] at s3
          clear hp
          refine wpOp_of_list rfl rfl ?_
          go_wp2_with (first | (go_at_call 14; refine (toSheet_any _ _ _).mono ?_; rintro e w8 ⟨rfl, hb8⟩) | (go_at_call 27; refine (FirstClear_any W H l _ _ p0 p1 ra rb ok _ h' (Rds.ext HO5.out (by repeat (first | exact kE | exact Ext.refl _ | apply Ext.alloc | apply Ext.drewN | apply Ext.drew | apply Ext.set0 | apply Ext.set1 | apply Ext.set2 | apply Ext.set3 | (refine Ext.setk ?_ (by omega) _) | (apply Ext.snoc; assumption)))) HV.out).mono ?_; rintro e w8 ⟨rfl, hb8⟩))
          exact ⟨_, rfl, rfl, (by repeat (first | exact kE | exact Ext.refl _ | apply Ext.alloc | apply Ext.drewN | apply Ext.drew | apply Ext.set0 | apply Ext.set1 | apply Ext.set2 | apply Ext.set3 | (refine Ext.setk ?_ (by omega) _) | (apply Ext.snoc; assumption)))⟩
        · intro _ _ hp
          have s28 := hp 1 (by rfl)
          change a.tmps.getD 28 undef = _ at s28
          simp at s28
          clear hp
          refine wpOp_of_list rfl rfl ?_
          go_wp2_with (first | (go_at_call 14; refine (toSheet_any _ _ _).mono ?_; rintro e w8 ⟨rfl, hb8⟩) | (go_at_call 27; refine (FirstClear_any W H l _ _ p0 p1 ra rb ok _ h' (Rds.ext HO5.out (by repeat (first | exact kE | exact Ext.refl _ | apply Ext.alloc | apply Ext.drewN | apply Ext.drew | apply Ext.set0 | apply Ext.set1 | apply Ext.set2 | apply Ext.set3 | (refine Ext.setk ?_ (by omega) _) | (apply Ext.snoc; assumption)))) HV.out).mono ?_; rintro e w8 ⟨rfl, hb8⟩))
          exact ⟨_, rfl, rfl, (by repeat (first | exact kE | exact Ext.refl _ | apply Ext.alloc | apply Ext.drewN | apply Ext.drew | apply Ext.set0 | apply Ext.set1 | apply Ext.set2 | apply Ext.set3 | (refine Ext.setk ?_ (by omega) _) | (apply Ext.snoc; assumption)))⟩
        · intro _ _ hp
          have s27 := hp 0 (by rfl)
          change a.tmps.getD 27 undef = _ at s27
          simp at s27
          have s29 := hp 2 (by rfl)
          change a.tmps.getD 29 undef = _ at s29
          simp at s29
          clear hp
          refine wpOp_of_list rfl rfl ?_
          go_wp2_with (first | (go_at_call 14; refine (toSheet_any _ _ _).mono ?_; rintro e w8 ⟨rfl, hb8⟩) | (go_at_call 27; refine (FirstClear_any W H l _ _ p0 p1 ra rb ok _ h' (Rds.ext HO5.out (by repeat (first | exact kE | exact Ext.refl _ | apply Ext.alloc | apply Ext.drewN | apply Ext.drew | apply Ext.set0 | apply Ext.set1 | apply Ext.set2 | apply Ext.set3 | (refine Ext.setk ?_ (by omega) _) | (apply Ext.snoc; assumption)))) HV.out).mono ?_; rintro e w8 ⟨rfl, hb8⟩))
          exact ⟨_, rfl, rfl, (by repeat (first | exact kE | exact Ext.refl _ | apply Ext.alloc | apply Ext.drewN | apply Ext.drew | apply Ext.set0 | apply Ext.set1 | apply Ext.set2 | apply Ext.set3 | (refine Ext.setk ?_ (by omega) _) | (apply Ext.snoc; assumption)))⟩
        · intro _ _ hp
          have s30 := hp 3 (by rfl)
          change a.tmps.getD 30 undef = _ at s30
          simp at s30
          clear hp
          refine wpOp_of_list rfl rfl ?_
          go_wp2_with (first | (go_at_call 14; refine (toSheet_any _ _ _).mono ?_; rintro e w8 ⟨rfl, hb8⟩) | (go_at_call 27; refine (FirstClear_any W H l _ _ p0 p1 ra rb ok _ h' (Rds.ext HO5.out (by repeat (first | exact kE | exact Ext.refl _ | apply Ext.alloc | apply Ext.drewN | apply Ext.drew | apply Ext.set0 | apply Ext.set1 | apply Ext.set2 | apply Ext.set3 | (refine Ext.setk ?_ (by omega) _) | (apply Ext.snoc; assumption)))) HV.out).mono ?_; rintro e w8 ⟨rfl, hb8⟩))
          exact ⟨_, rfl, rfl, (by repeat (first | exact kE | exact Ext.refl _ | apply Ext.alloc | apply Ext.drewN | apply Ext.drew | apply Ext.set0 | apply Ext.set1 | apply Ext.set2 | apply Ext.set3 | (refine Ext.setk ?_ (by omega) _) | (apply Ext.snoc; assumption)))⟩
        · intro _ _ hp
          have s26 := hp 4 (by rfl)
          change a.tmps.getD 26 undef = _ at s26
          simp at s26
          clear hp
          refine wpOp_of_list rfl rfl ?_
          go_wp2_with (first | (go_at_call 14; refine (toSheet_any _ _ _).mono ?_; rintro e w8 ⟨rfl, hb8⟩) | (go_at_call 27; refine (FirstClear_any W H l _ _ p0 p1 ra rb ok _ h' (Rds.ext HO5.out (by repeat (first | exact kE | exact Ext.refl _ | apply Ext.alloc | apply Ext.drewN | apply Ext.drew | apply Ext.set0 | apply Ext.set1 | apply Ext.set2 | apply Ext.set3 | (refine Ext.setk ?_ (by omega) _) | (apply Ext.snoc; assumption)))) HV.out).mono ?_; rintro e w8 ⟨rfl, hb8⟩))
          exact ⟨_, rfl, rfl, (by repeat (first | exact kE | exact Ext.refl _ | apply Ext.alloc | apply Ext.drewN | apply Ext.drew | apply Ext.set0 | apply Ext.set1 | apply Ext.set2 | apply Ext.set3 | (refine Ext.setk ?_ (by omega) _) | (apply Ext.snoc; assumption)))⟩
        · intro _ _ hp
          have s26 := hp 4 (by rfl)
          change a.tmps.getD 26 undef = _ at s26
          simp at s26
          clear hp
          refine wpOp_of_list rfl rfl ?_
          go_wp2_with (first | (go_at_call 14; refine (toSheet_any _ _ _).mono ?_; rintro e w8 ⟨rfl, hb8⟩) | (go_at_call 27; refine (FirstClear_any W H l _ _ p0 p1 ra rb ok _ h' (Rds.ext HO5.out (by repeat (first | exact kE | exact Ext.refl _ | apply Ext.alloc | apply Ext.drewN | apply Ext.drew | apply Ext.set0 | apply Ext.set1 | apply Ext.set2 | apply Ext.set3 | (refine Ext.setk ?_ (by omega) _) | (apply Ext.snoc; assumption)))) HV.out).mono ?_; rintro e w8 ⟨rfl, hb8⟩))
          exact ⟨_, rfl, rfl, (by repeat (first | exact kE | exact Ext.refl _ | apply Ext.alloc | apply Ext.drewN | apply Ext.drew | apply Ext.set0 | apply Ext.set1 | apply Ext.set2 | apply Ext.set3 | (refine Ext.setk ?_ (by omega) _) | (apply Ext.snoc; assumption)))⟩
        · intro _ _ hp
          clear hp
          refine wpOp_of_list rfl rfl ?_
          go_wp2_with (first | (go_at_call 14; refine (toSheet_any _ _ _).mono ?_; rintro e w8 ⟨rfl, hb8⟩) | (go_at_call 27; refine (FirstClear_any W H l _ _ p0 p1 ra rb ok _ h' (Rds.ext HO5.out (by repeat (first | exact kE | exact Ext.refl _ | apply Ext.alloc | apply Ext.drewN | apply Ext.drew | apply Ext.set0 | apply Ext.set1 | apply Ext.set2 | apply Ext.set3 | (refine Ext.setk ?_ (by omega) _) | (apply Ext.snoc; assumption)))) HV.out).mono ?_; rintro e w8 ⟨rfl, hb8⟩))
          exact ⟨_, rfl, new_block _ _ _ _ hE.size, (Ext.refl _).alloc _⟩
        · intro h; exact absurd rfl h
        · intro _ h; exact absurd (h.symm.trans (by kernel_rfl : _ = true)) Bool.false_ne_true
      case R7hst =>
        intro a w' hE hA hp
        have s9 := hp 7 (by rfl)
        obtain ⟨g, s9, hg1, hg2, hg3⟩ := s9
        change a.tmps.getD 9 undef = _ at s9
        simp at s9
        have s31 := hp 5 (by rfl)
        change a.tmps.getD 31 undef = _ at s31
        simp at s31
        clear hp
        obtain ⟨hgc, hgf⟩ := block_cell hg3
        refine wpOp_of_list rfl rfl ?_
        go_wp2_with fail
        obtain ⟨w9, hw9, hE9, hB9, hs9⟩ := set2 hg3 hE hg1 (Value.int .i64 ra) (Value.int .i64 rb)
        rw [← hw9]
        refine ⟨by first | rfl | trivial, g, ?_, hg1, hE9, by omega, hB9⟩
        change a.tmps.getD 9 undef = _
        simp [*]
      case R7hop2 =>
        intro a w' hA
        refine ⟨⟨⟨⟨⟨⟨⟨⟨⟨⟨trivial, ?_⟩, ?_⟩, ?_⟩, ?_⟩, ?_⟩, ?_⟩, ?_⟩, ?_⟩, ?_⟩, ?_⟩
        · intro _ h; exact absurd (h.symm.trans (by kernel_rfl : _ = true)) Bool.false_ne_true
        · intro _ h; exact absurd (h.symm.trans (by kernel_rfl : _ = true)) Bool.false_ne_true
        · intro _ h; exact absurd (h.symm.trans (by kernel_rfl : _ = true)) Bool.false_ne_true
        · intro _ h; exact absurd (h.symm.trans (by kernel_rfl : _ = true)) Bool.false_ne_true
        · intro _ h; exact absurd (h.symm.trans (by kernel_rfl : _ = true)) Bool.false_ne_true
        · intro _ h; exact absurd (h.symm.trans (by kernel_rfl : _ = true)) Bool.false_ne_true
        · intro _ _ hp
          obtain ⟨wq26, s26⟩ := hp 4 (by decide) (by rfl)
          change a.tmps.getD 26 undef = _ at s26
          simp at s26
          clear hp
          refine wpOp_of_list rfl rfl ?_
          go_wp2_with fail
          exact ⟨_, rfl, w', rfl⟩
        · intro _ h; exact absurd (h.symm.trans (by kernel_rfl : _ = true)) Bool.false_ne_true
        · intro h; exact absurd rfl h
        · intro _ _ hp
          obtain ⟨wq32, s32⟩ := hp 6 (by decide) (by rfl)
          change a.tmps.getD 32 undef = _ at s32
          simp at s32
          clear hp
          refine wpOp_of_list rfl rfl ?_
          go_wp2_with fail
          exact ⟨_, rfl, w', rfl⟩
      case R7fin =>
        intro X w6 hP hp
        obtain ⟨g, hX7, hg1, hE, hg2, hg3⟩ := hP
        obtain ⟨⟨⟨⟨⟨⟨⟨⟨⟨⟨_, h0⟩, h1⟩, h2⟩, h3⟩, h4⟩, h5⟩, h6⟩, h7⟩, h8⟩, h9⟩ := hp
        obtain ⟨_, h0⟩ := h0 (by decide)
        change X 0 = _ at h0
        obtain ⟨_, h1⟩ := h1 (by decide)
        change X 1 = _ at h1
        obtain ⟨_, h2⟩ := h2 (by decide)
        change X 2 = _ at h2
        obtain ⟨_, h3⟩ := h3 (by decide)
        change X 3 = _ at h3
        obtain ⟨_, h4⟩ := h4 (by decide)
        change X 4 = _ at h4
        obtain ⟨_, h5⟩ := h5 (by decide)
        change X 5 = _ at h5
        obtain ⟨_, h6⟩ := h6 (by decide)
        change X 6 = _ at h6
        obtain ⟨_, h9⟩ := h9 (by decide)
        change X 9 = _ at h9
        go_simp
        have HO6 := hide (Rds.ext HO5.out hE)
        have hgc := block_cell hg3
        have HT := hide (HT.out.more hE g [.int .i64 ra, .int .i64 rb] ⟨hg2, hgc.2, by have hc := hgc.1; simp [CellsAt, hc]⟩)
        clear hX7 h0 h1 h2 h3 h4 h5 h6 h9 hgc hg1 hg2 hg3 hE
        clear kz0 kf0 kc0_0 kc0_1 kc0_2 kz1 kf1 kc1_0 kc1_1 kz2 kf2 kc2_0 kc2_1 kc2_2 kz3 kf3 kc3_0 kc3_1 kE
        obtain ⟨gb, rfl⟩ : ∃ gg : Nat, gg = g := ⟨_, rfl⟩
        
        have kT := HT.out; simp only [Tr, Bx, CellsAt, Nat.reduceAdd, Nat.zero_add, and_true] at kT; obtain ⟨⟨⟨kz0, kf0, kc0_0, kc0_1⟩, ⟨kz1, kf1, kc1_0, kc1_1, kc1_2⟩, ⟨kz2, kf2, kc2_0, kc2_1⟩, ⟨kz3, kf3, kc3_0, kc3_1, kc3_2⟩, ⟨kz4, kf4, kc4_0, kc4_1⟩⟩, kE⟩ := kT
        have hev : eq2 ra rb ra rb = true := by simp [eq2]
        go_wp2_with fail
        refine (eqNode_any _ _ _ _ _).mono ?_; rintro e w7 ⟨rfl, hb⟩; have HT := hide (HT.out.ext hb); have Hw7 := hide hb; clear hb; clear kz0 kf0 kc0_0 kc0_1 kz1 kf1 kc1_0 kc1_1 kc1_2 kz2 kf2 kc2_0 kc2_1 kz3 kf3 kc3_0 kc3_1 kc3_2 kz4 kf4 kc4_0 kc4_1 kE; have kT := HT.out; simp only [Tr, Bx, CellsAt, Nat.reduceAdd, Nat.zero_add, and_true] at kT; obtain ⟨⟨⟨kz0, kf0, kc0_0, kc0_1⟩, ⟨kz1, kf1, kc1_0, kc1_1, kc1_2⟩, ⟨kz2, kf2, kc2_0, kc2_1⟩, ⟨kz3, kf3, kc3_0, kc3_1, kc3_2⟩, ⟨kz4, kf4, kc4_0, kc4_1⟩⟩, kE⟩ := kT
        rw [hev]
        clear hev
        have HO7 := hide (Rds.ext HO6.out Hw7.out)
        go_wp2_with fail
        apply wp_region_RL 5 47 (by kernel_rfl) (by kernel_rfl) (by kernel_rfl) (by kernel_rfl) (by kernel_rfl) (by kernel_rfl) rfl [fun v _ => v = _, fun v _ => v = _, fun v w' => ∃ g, v = .agg #[.int .i64 W, .int .i64 H, .slice (some ⟨g, 0, none⟩) l.length l.length] ∧ R2 w' (some ⟨g, 0, none⟩) l, fun v _ => v = _, fun v _ => v = _] rfl ⟨stab_eq _, stab_eq _, stab_R2 (fun g => .agg #[.int .i64 W, .int .i64 H, .slice (some ⟨g, 0, none⟩) l.length l.length]) l, stab_eq _, stab_eq _, trivial⟩ ?R10hop ?R10fin
        case R10hop =>
          intro a w' hE hA
          have hc := hE.facts.1
          have hz := hE.facts.2.2
          refine ⟨⟨⟨⟨⟨trivial, ?_⟩, ?_⟩, ?_⟩, ?_⟩, ?_⟩
          · intro hp
            have s8 := hA 8 (by rfl)
            simp [sl] at s8
            clear hp
            refine wpOp_of_list rfl rfl ?_
            go_wp2_with (first | (go_at_call 18; refine (toFlawed_any W H l A c _ h' (HR.out.ext (kE.trans (by repeat (first | exact kE | exact Ext.refl _ | apply Ext.alloc | apply Ext.drewN | apply Ext.drew | apply Ext.set0 | apply Ext.set1 | apply Ext.set2 | apply Ext.set3 | (refine Ext.setk ?_ (by omega) _) | (apply Ext.snoc; assumption)))))).mono ?_; rintro e w8 ⟨g8, rfl, hr8, hb8⟩) | (go_at_call 20; refine (eqFlawed_any W H l _ _ _ _ _ h' (Rds.ext HO7.out (by repeat (first | exact kE | exact Ext.refl _ | apply Ext.alloc | apply Ext.drewN | apply Ext.drew | apply Ext.set0 | apply Ext.set1 | apply Ext.set2 | apply Ext.set3 | (refine Ext.setk ?_ (by omega) _) | (apply Ext.snoc; assumption)))) hg).mono ?_; rintro e w8 ⟨rfl, hb8⟩))
            exact ⟨_, rfl, rfl, (by repeat (first | exact kE | exact Ext.refl _ | apply Ext.alloc | apply Ext.drewN | apply Ext.drew | apply Ext.set0 | apply Ext.set1 | apply Ext.set2 | apply Ext.set3 | (refine Ext.setk ?_ (by omega) _) | (apply Ext.snoc; assumption)))⟩
          · intro hp
            have s2 := hA 2 (by rfl)
            simp [sl] at s2
            clear hp
            refine wpOp_of_list rfl rfl ?_
            go_wp2_with (first | (go_at_call 18; refine (toFlawed_any W H l A c _ h' (HR.out.ext (kE.trans (by repeat (first | exact kE | exact Ext.refl _ | apply Ext.alloc | apply Ext.drewN | apply Ext.drew | apply Ext.set0 | apply Ext.set1 | apply Ext.set2 | apply Ext.set3 | (refine Ext.setk ?_ (by omega) _) | (apply Ext.snoc; assumption)))))).mono ?_; rintro e w8 ⟨g8, rfl, hr8, hb8⟩) | (go_at_call 20; refine (eqFlawed_any W H l _ _ _ _ _ h' (Rds.ext HO7.out (by repeat (first | exact kE | exact Ext.refl _ | apply Ext.alloc | apply Ext.drewN | apply Ext.drew | apply Ext.set0 | apply Ext.set1 | apply Ext.set2 | apply Ext.set3 | (refine Ext.setk ?_ (by omega) _) | (apply Ext.snoc; assumption)))) hg).mono ?_; rintro e w8 ⟨rfl, hb8⟩))
            exact ⟨_, rfl, rfl, (by repeat (first | exact kE | exact Ext.refl _ | apply Ext.alloc | apply Ext.drewN | apply Ext.drew | apply Ext.set0 | apply Ext.set1 | apply Ext.set2 | apply Ext.set3 | (refine Ext.setk ?_ (by omega) _) | (apply Ext.snoc; assumption)))⟩
          · intro hp
            have s43 := hp 1 (by rfl)
            change a.tmps.getD 43 undef = _ at s43
            simp at s43
            clear hp
            refine wpOp_of_list rfl rfl ?_
            go_wp2_with (first | (go_at_call 18; refine (toFlawed_any W H l A c _ h' (HR.out.ext (kE.trans (by repeat (first | exact kE | exact Ext.refl _ | apply Ext.alloc | apply Ext.drewN | apply Ext.drew | apply Ext.set0 | apply Ext.set1 | apply Ext.set2 | apply Ext.set3 | (refine Ext.setk ?_ (by omega) _) | (apply Ext.snoc; assumption)))))).mono ?_; rintro e w8 ⟨g8, rfl, hr8, hb8⟩) | (go_at_call 20; refine (eqFlawed_any W H l _ _ _ _ _ h' (Rds.ext HO7.out (by repeat (first | exact kE | exact Ext.refl _ | apply Ext.alloc | apply Ext.drewN | apply Ext.drew | apply Ext.set0 | apply Ext.set1 | apply Ext.set2 | apply Ext.set3 | (refine Ext.setk ?_ (by omega) _) | (apply Ext.snoc; assumption)))) hg).mono ?_; rintro e w8 ⟨rfl, hb8⟩))
            exact ⟨_, rfl, ⟨g8, rfl, hr8⟩, (by repeat (first | exact kE | exact Ext.refl _ | apply Ext.alloc | apply Ext.drewN | apply Ext.drew | apply Ext.set0 | apply Ext.set1 | apply Ext.set2 | apply Ext.set3 | (refine Ext.setk ?_ (by omega) _) | (apply Ext.snoc; assumption)))⟩
          · intro hp
            have s42 := hp 0 (by rfl)
            change a.tmps.getD 42 undef = _ at s42
            simp at s42
            have s44 := hp 2 (by rfl)
            obtain ⟨gs, s44, hg⟩ := s44
            change a.tmps.getD 44 undef = _ at s44
            simp at s44
            clear hp
            refine wpOp_of_list rfl rfl ?_
            go_wp2_with (first | (go_at_call 18; refine (toFlawed_any W H l A c _ h' (HR.out.ext (kE.trans (by repeat (first | exact kE | exact Ext.refl _ | apply Ext.alloc | apply Ext.drewN | apply Ext.drew | apply Ext.set0 | apply Ext.set1 | apply Ext.set2 | apply Ext.set3 | (refine Ext.setk ?_ (by omega) _) | (apply Ext.snoc; assumption)))))).mono ?_; rintro e w8 ⟨g8, rfl, hr8, hb8⟩) | (go_at_call 20; refine (eqFlawed_any W H l _ _ _ _ _ h' (Rds.ext HO7.out (by repeat (first | exact kE | exact Ext.refl _ | apply Ext.alloc | apply Ext.drewN | apply Ext.drew | apply Ext.set0 | apply Ext.set1 | apply Ext.set2 | apply Ext.set3 | (refine Ext.setk ?_ (by omega) _) | (apply Ext.snoc; assumption)))) hg).mono ?_; rintro e w8 ⟨rfl, hb8⟩))
            exact ⟨_, rfl, rfl, (by repeat (first | exact kE | exact Ext.refl _ | apply Ext.alloc | apply Ext.drewN | apply Ext.drew | apply Ext.set0 | apply Ext.set1 | apply Ext.set2 | apply Ext.set3 | (refine Ext.setk ?_ (by omega) _) | (apply Ext.snoc; assumption)))⟩
          · intro hp
            have s45 := hp 3 (by rfl)
            change a.tmps.getD 45 undef = _ at s45
            simp at s45
            clear hp
            refine wpOp_of_list rfl rfl ?_
            go_wp2_with (first | (go_at_call 18; refine (toFlawed_any W H l A c _ h' (HR.out.ext (kE.trans (by repeat (first | exact kE | exact Ext.refl _ | apply Ext.alloc | apply Ext.drewN | apply Ext.drew | apply Ext.set0 | apply Ext.set1 | apply Ext.set2 | apply Ext.set3 | (refine Ext.setk ?_ (by omega) _) | (apply Ext.snoc; assumption)))))).mono ?_; rintro e w8 ⟨g8, rfl, hr8, hb8⟩) | (go_at_call 20; refine (eqFlawed_any W H l _ _ _ _ _ h' (Rds.ext HO7.out (by repeat (first | exact kE | exact Ext.refl _ | apply Ext.alloc | apply Ext.drewN | apply Ext.drew | apply Ext.set0 | apply Ext.set1 | apply Ext.set2 | apply Ext.set3 | (refine Ext.setk ?_ (by omega) _) | (apply Ext.snoc; assumption)))) hg).mono ?_; rintro e w8 ⟨rfl, hb8⟩))
            exact ⟨_, rfl, rfl, (by repeat (first | exact kE | exact Ext.refl _ | apply Ext.alloc | apply Ext.drewN | apply Ext.drew | apply Ext.set0 | apply Ext.set1 | apply Ext.set2 | apply Ext.set3 | (refine Ext.setk ?_ (by omega) _) | (apply Ext.snoc; assumption)))⟩
        case R10fin =>
          intro X w9 hE hp
          obtain ⟨⟨⟨⟨⟨_, h0⟩, h1⟩, h2⟩, h3⟩, h4⟩ := hp
          change X 0 = _ at h0
          change X 1 = _ at h1
          obtain ⟨gs, h2, hg⟩ := h2
          change X 2 = _ at h2
          change X 3 = _ at h3
          change X 4 = _ at h4
          simp only [List.drop_succ_cons, List.drop_nil]
          refine wpList_nil ?_
          go_simp
          go_wp2_with fail
          go_ret
          exact ⟨rfl, by repeat (first | exact kE | exact Ext.refl _ | apply Ext.alloc | apply Ext.drewN | apply Ext.drew | apply Ext.set0 | apply Ext.set1 | apply Ext.set2 | apply Ext.set3 | (refine Ext.setk ?_ (by omega) _) | (apply Ext.snoc; assumption))⟩
end Go.Proofs.Ytjibcmmnohjhkaa
