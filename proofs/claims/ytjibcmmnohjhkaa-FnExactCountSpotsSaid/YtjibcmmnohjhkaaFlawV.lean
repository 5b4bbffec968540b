/- Walks of the laws on counting spots and on clear places. No condition. -/
import Derived.Test.YtjibcmmnohjhkaaFlawW
namespace Go.Proofs.Ytjibcmmnohjhkaa
open Go.RowKit

set_option maxHeartbeats 2000000 in
theorem FnExactCountSpots_walk (W H : Int) (l : List P2) (A : Option Addr) (c : Nat) (a0 a1 p0 p1 : Int) (w : World) (hl : l.length ≤ maxLen) (hr : R2 w A l) :
    Calls Try.prog 6 #[.agg #[.int .i64 W, .int .i64 H, .slice A l.length c], .agg #[.int .i64 a0, .int .i64 a1], .agg #[.int .i64 p0, .int .i64 p1]] w fun e w' => e = .returned (.bool true) ∧ Ext w w' := by
  have HR := hide hr
  clear hr
  by_cases h : (1048576 : Int) < l.length
  · have hs : szR l.length 1048576 = -1 := by unfold szR; rw [if_pos h]
    go_enter Try.func6, Try.ntmps6
    go_wp2_with fail
    refine (szFlawed_any W H l A c 1048576 _ hl (by omega) (by omega)).mono ?_; rintro e w1 ⟨rfl, hb1⟩; obtain ⟨hc1, hf1, _⟩ := hb1.facts; have hs1 := hb1.size; (try simp only [World.size_alloc] at hs1); have hz1_0 : w.heap.size < w1.heap.size := (by omega); have hz1_1 : w.heap.size + 1 < w1.heap.size := (by omega); have hz1_2 : w.heap.size + 1 + 1 < w1.heap.size := (by omega)
    rw [hs]
    go_wp2_with fail
    go_ret
    exact ⟨rfl, by repeat (first | exact Ext.refl _ | apply Ext.alloc | apply Ext.drewN | apply Ext.drew | apply Ext.set0 | apply Ext.set1 | apply Ext.set2 | apply Ext.set3 | (refine Ext.setk ?_ (by omega) _) | (apply Ext.snoc; assumption))⟩
  · have hs : szR l.length 1048576 = 1048576 - l.length := by unfold szR; rw [if_neg h]
    have h' : l.length ≤ 1048576 := by omega
    go_enter Try.func6, Try.ntmps6
    go_wp2_with fail
    refine (szFlawed_any W H l A c 1048576 _ hl (by omega) (by omega)).mono ?_; rintro e w1 ⟨rfl, hb1⟩; obtain ⟨hc1, hf1, _⟩ := hb1.facts; have hs1 := hb1.size; (try simp only [World.size_alloc] at hs1); have hz1_0 : w.heap.size < w1.heap.size := (by omega); have hz1_1 : w.heap.size + 1 < w1.heap.size := (by omega); have hz1_2 : w.heap.size + 1 + 1 < w1.heap.size := (by omega)
    rw [hs]
    go_wp2_with fail
    apply wp_region_RL 8 39 (by kernel_rfl) (by kernel_rfl) (by kernel_rfl) (by kernel_rfl) (by kernel_rfl) (by kernel_rfl) rfl [fun v _ => v = _, fun v w' => ∃ g, v = .agg #[.int .i64 W, .int .i64 H, .slice (some ⟨g, 0, none⟩) l.length l.length] ∧ R2 w' (some ⟨g, 0, none⟩) l, fun v _ => v = _, fun v _ => v = _, fun v _ => v = _, fun v _ => v = _, fun v _ => v = _, fun v _ => v = _] rfl ⟨stab_eq _, stab_R2 (fun g => .agg #[.int .i64 W, .int .i64 H, .slice (some ⟨g, 0, none⟩) l.length l.length]) l, stab_eq _, stab_eq _, stab_eq _, stab_eq _, stab_eq _, stab_eq _, trivial⟩ ?R5hop ?R5fin
    case R5hop =>
      intro a w' hE hA
      have hc := hE.facts.1
      have hz := hE.facts.2.2
      refine ⟨⟨⟨⟨⟨⟨⟨⟨trivial, ?_⟩, ?_⟩, ?_⟩, ?_⟩, ?_⟩, ?_⟩, ?_⟩, ?_⟩
      · intro hp
        have s3 := hA 3 (by rfl)
        simp [sl] at s3
        clear hp
        refine wpOp_of_list rfl rfl ?_
        go_wp2_with (first | (go_at_call 18; refine (toFlawed_any W H l A c _ h' (Rds.ext HR.out (by repeat (first | exact Ext.refl _ | apply Ext.alloc | apply Ext.drewN | apply Ext.drew | apply Ext.set0 | apply Ext.set1 | apply Ext.set2 | apply Ext.set3 | (refine Ext.setk ?_ (by omega) _) | (apply Ext.snoc; assumption))))).mono ?_; rintro e w8 ⟨g8, rfl, hr8, hb8⟩) | (go_at_call 22; refine (toNode_any _ _ _).mono ?_; rintro e w8 ⟨rfl, hb8⟩) | (go_at_call 14; refine (toSheet_any _ _ _).mono ?_; rintro e w8 ⟨rfl, hb8⟩) | (go_at_call 24; refine (sCountSpots_any W H l _ _ a0 a1 p0 p1 _ h' hg).mono ?_; rintro e w8 ⟨rfl, hb8⟩))
        exact ⟨_, rfl, rfl, (by repeat (first | exact Ext.refl _ | apply Ext.alloc | apply Ext.drewN | apply Ext.drew | apply Ext.set0 | apply Ext.set1 | apply Ext.set2 | apply Ext.set3 | (refine Ext.setk ?_ (by omega) _) | (apply Ext.snoc; assumption)))⟩
      · intro hp
        have s16 := hp 0 (by rfl)
        change a.tmps.getD 16 undef = _ at s16
        simp at s16
        clear hp
        refine wpOp_of_list rfl rfl ?_
        go_wp2_with (first | (go_at_call 18; refine (toFlawed_any W H l A c _ h' (Rds.ext HR.out (by repeat (first | exact Ext.refl _ | apply Ext.alloc | apply Ext.drewN | apply Ext.drew | apply Ext.set0 | apply Ext.set1 | apply Ext.set2 | apply Ext.set3 | (refine Ext.setk ?_ (by omega) _) | (apply Ext.snoc; assumption))))).mono ?_; rintro e w8 ⟨g8, rfl, hr8, hb8⟩) | (go_at_call 22; refine (toNode_any _ _ _).mono ?_; rintro e w8 ⟨rfl, hb8⟩) | (go_at_call 14; refine (toSheet_any _ _ _).mono ?_; rintro e w8 ⟨rfl, hb8⟩) | (go_at_call 24; refine (sCountSpots_any W H l _ _ a0 a1 p0 p1 _ h' hg).mono ?_; rintro e w8 ⟨rfl, hb8⟩))
        exact ⟨_, rfl, ⟨g8, rfl, hr8⟩, (by repeat (first | exact Ext.refl _ | apply Ext.alloc | apply Ext.drewN | apply Ext.drew | apply Ext.set0 | apply Ext.set1 | apply Ext.set2 | apply Ext.set3 | (refine Ext.setk ?_ (by omega) _) | (apply Ext.snoc; assumption)))⟩
      · intro hp
        have s4 := hA 4 (by rfl)
        simp [sl] at s4
        clear hp
        refine wpOp_of_list rfl rfl ?_
        go_wp2_with (first | (go_at_call 18; refine (toFlawed_any W H l A c _ h' (Rds.ext HR.out (by repeat (first | exact Ext.refl _ | apply Ext.alloc | apply Ext.drewN | apply Ext.drew | apply Ext.set0 | apply Ext.set1 | apply Ext.set2 | apply Ext.set3 | (refine Ext.setk ?_ (by omega) _) | (apply Ext.snoc; assumption))))).mono ?_; rintro e w8 ⟨g8, rfl, hr8, hb8⟩) | (go_at_call 22; refine (toNode_any _ _ _).mono ?_; rintro e w8 ⟨rfl, hb8⟩) | (go_at_call 14; refine (toSheet_any _ _ _).mono ?_; rintro e w8 ⟨rfl, hb8⟩) | (go_at_call 24; refine (sCountSpots_any W H l _ _ a0 a1 p0 p1 _ h' hg).mono ?_; rintro e w8 ⟨rfl, hb8⟩))
        exact ⟨_, rfl, rfl, (by repeat (first | exact Ext.refl _ | apply Ext.alloc | apply Ext.drewN | apply Ext.drew | apply Ext.set0 | apply Ext.set1 | apply Ext.set2 | apply Ext.set3 | (refine Ext.setk ?_ (by omega) _) | (apply Ext.snoc; assumption)))⟩
      · intro hp
        have s18 := hp 2 (by rfl)
        change a.tmps.getD 18 undef = _ at s18
        simp at s18
        clear hp
        refine wpOp_of_list rfl rfl ?_
        go_wp2_with (first | (go_at_call 18; refine (toFlawed_any W H l A c _ h' (Rds.ext HR.out (by repeat (first | exact Ext.refl _ | apply Ext.alloc | apply Ext.drewN | apply Ext.drew | apply Ext.set0 | apply Ext.set1 | apply Ext.set2 | apply Ext.set3 | (refine Ext.setk ?_ (by omega) _) | (apply Ext.snoc; assumption))))).mono ?_; rintro e w8 ⟨g8, rfl, hr8, hb8⟩) | (go_at_call 22; refine (toNode_any _ _ _).mono ?_; rintro e w8 ⟨rfl, hb8⟩) | (go_at_call 14; refine (toSheet_any _ _ _).mono ?_; rintro e w8 ⟨rfl, hb8⟩) | (go_at_call 24; refine (sCountSpots_any W H l _ _ a0 a1 p0 p1 _ h' hg).mono ?_; rintro e w8 ⟨rfl, hb8⟩))
        exact ⟨_, rfl, rfl, (by repeat (first | exact Ext.refl _ | apply Ext.alloc | apply Ext.drewN | apply Ext.drew | apply Ext.set0 | apply Ext.set1 | apply Ext.set2 | apply Ext.set3 | (refine Ext.setk ?_ (by omega) _) | (apply Ext.snoc; assumption)))⟩
      · intro hp
        have s5 := hA 5 (by rfl)
        simp [sl] at s5
        clear hp
        refine wpOp_of_list rfl rfl ?_
        go_wp2_with (first | (go_at_call 18; refine (toFlawed_any W H l A c _ h' (Rds.ext HR.out (by repeat (first | exact Ext.refl _ | apply Ext.alloc | apply Ext.drewN | apply Ext.drew | apply Ext.set0 | apply Ext.set1 | apply Ext.set2 | apply Ext.set3 | (refine Ext.setk ?_ (by omega) _) | (apply Ext.snoc; assumption))))).mono ?_; rintro e w8 ⟨g8, rfl, hr8, hb8⟩) | (go_at_call 22; refine (toNode_any _ _ _).mono ?_; rintro e w8 ⟨rfl, hb8⟩) | (go_at_call 14; refine (toSheet_any _ _ _).mono ?_; rintro e w8 ⟨rfl, hb8⟩) | (go_at_call 24; refine (sCountSpots_any W H l _ _ a0 a1 p0 p1 _ h' hg).mono ?_; rintro e w8 ⟨rfl, hb8⟩))
        exact ⟨_, rfl, rfl, (by repeat (first | exact Ext.refl _ | apply Ext.alloc | apply Ext.drewN | apply Ext.drew | apply Ext.set0 | apply Ext.set1 | apply Ext.set2 | apply Ext.set3 | (refine Ext.setk ?_ (by omega) _) | (apply Ext.snoc; assumption)))⟩
      · intro hp
        have s20 := hp 4 (by rfl)
        change a.tmps.getD 20 undef = _ at s20
        simp at s20
        clear hp
        refine wpOp_of_list rfl rfl ?_
        go_wp2_with (first | (go_at_call 18; refine (toFlawed_any W H l A c _ h' (Rds.ext HR.out (by repeat (first | exact Ext.refl _ | apply Ext.alloc | apply Ext.drewN | apply Ext.drew | apply Ext.set0 | apply Ext.set1 | apply Ext.set2 | apply Ext.set3 | (refine Ext.setk ?_ (by omega) _) | (apply Ext.snoc; assumption))))).mono ?_; rintro e w8 ⟨g8, rfl, hr8, hb8⟩) | (go_at_call 22; refine (toNode_any _ _ _).mono ?_; rintro e w8 ⟨rfl, hb8⟩) | (go_at_call 14; refine (toSheet_any _ _ _).mono ?_; rintro e w8 ⟨rfl, hb8⟩) | (go_at_call 24; refine (sCountSpots_any W H l _ _ a0 a1 p0 p1 _ h' hg).mono ?_; rintro e w8 ⟨rfl, hb8⟩))
        exact ⟨_, rfl, rfl, (by repeat (first | exact Ext.refl _ | apply Ext.alloc | apply Ext.drewN | apply Ext.drew | apply Ext.set0 | apply Ext.set1 | apply Ext.set2 | apply Ext.set3 | (refine Ext.setk ?_ (by omega) _) | (apply Ext.snoc; assumption)))⟩
      · intro hp
        have s17 := hp 1 (by rfl)
        obtain ⟨g, s17, hg⟩ := s17
        change a.tmps.getD 17 undef = _ at s17
        simp at s17
        have s19 := hp 3 (by rfl)
        change a.tmps.getD 19 undef = _ at s19
        simp at s19
        have s21 := hp 5 (by rfl)
        change a.tmps.getD 21 undef = _ at s21
        simp at s21
        clear hp
        refine wpOp_of_list rfl rfl ?_
        go_wp2_with (first | (go_at_call 18; refine (toFlawed_any W H l A c _ h' (Rds.ext HR.out (by repeat (first | exact Ext.refl _ | apply Ext.alloc | apply Ext.drewN | apply Ext.drew | apply Ext.set0 | apply Ext.set1 | apply Ext.set2 | apply Ext.set3 | (refine Ext.setk ?_ (by omega) _) | (apply Ext.snoc; assumption))))).mono ?_; rintro e w8 ⟨g8, rfl, hr8, hb8⟩) | (go_at_call 22; refine (toNode_any _ _ _).mono ?_; rintro e w8 ⟨rfl, hb8⟩) | (go_at_call 14; refine (toSheet_any _ _ _).mono ?_; rintro e w8 ⟨rfl, hb8⟩) | (go_at_call 24; refine (sCountSpots_any W H l _ _ a0 a1 p0 p1 _ h' hg).mono ?_; rintro e w8 ⟨rfl, hb8⟩))
        exact ⟨_, rfl, rfl, (by repeat (first | exact Ext.refl _ | apply Ext.alloc | apply Ext.drewN | apply Ext.drew | apply Ext.set0 | apply Ext.set1 | apply Ext.set2 | apply Ext.set3 | (refine Ext.setk ?_ (by omega) _) | (apply Ext.snoc; assumption)))⟩
      · intro hp
        have s22 := hp 6 (by rfl)
        change a.tmps.getD 22 undef = _ at s22
        simp at s22
        clear hp
        refine wpOp_of_list rfl rfl ?_
        go_wp2_with (first | (go_at_call 18; refine (toFlawed_any W H l A c _ h' (Rds.ext HR.out (by repeat (first | exact Ext.refl _ | apply Ext.alloc | apply Ext.drewN | apply Ext.drew | apply Ext.set0 | apply Ext.set1 | apply Ext.set2 | apply Ext.set3 | (refine Ext.setk ?_ (by omega) _) | (apply Ext.snoc; assumption))))).mono ?_; rintro e w8 ⟨g8, rfl, hr8, hb8⟩) | (go_at_call 22; refine (toNode_any _ _ _).mono ?_; rintro e w8 ⟨rfl, hb8⟩) | (go_at_call 14; refine (toSheet_any _ _ _).mono ?_; rintro e w8 ⟨rfl, hb8⟩) | (go_at_call 24; refine (sCountSpots_any W H l _ _ a0 a1 p0 p1 _ h' hg).mono ?_; rintro e w8 ⟨rfl, hb8⟩))
        exact ⟨_, rfl, rfl, (by repeat (first | exact Ext.refl _ | apply Ext.alloc | apply Ext.drewN | apply Ext.drew | apply Ext.set0 | apply Ext.set1 | apply Ext.set2 | apply Ext.set3 | (refine Ext.setk ?_ (by omega) _) | (apply Ext.snoc; assumption)))⟩
    case R5fin =>
      intro X w3 hb3 hp
      obtain ⟨⟨⟨⟨⟨⟨⟨⟨_, h0⟩, h1⟩, h2⟩, h3⟩, h4⟩, h5⟩, h6⟩, h7⟩ := hp
      change X 0 = _ at h0
      obtain ⟨g, h1, hg⟩ := h1
      change X 1 = _ at h1
      change X 2 = _ at h2
      change X 3 = _ at h3
      change X 4 = _ at h4
      change X 5 = _ at h5
      change X 6 = _ at h6
      change X 7 = _ at h7
      simp only [List.drop_succ_cons, List.drop_nil]
      refine wpList_nil ?_
      go_simp
      clear hg h1
      obtain ⟨hc3, hf3, _⟩ := hb3.facts; have hs3 := hb3.size; (try simp only [World.size_alloc] at hs3); have hz3_0 : w.heap.size < w3.heap.size := (by omega); have hz3_1 : w.heap.size + 1 < w3.heap.size := (by omega); have hz3_2 : w.heap.size + 1 + 1 < w3.heap.size := (by omega)
      go_wp2_with fail
      refine (toFlawed_any W H l A c _ h' (Rds.ext HR.out (by repeat (first | exact Ext.refl _ | apply Ext.alloc | apply Ext.drewN | apply Ext.drew | apply Ext.set0 | apply Ext.set1 | apply Ext.set2 | apply Ext.set3 | (refine Ext.setk ?_ (by omega) _) | (apply Ext.snoc; assumption))))).mono ?_; rintro e w4 ⟨g4, rfl, hr4, hb4⟩; obtain ⟨hc4, hf4, _⟩ := hb4.facts; have hs4 := hb4.size; (try simp only [World.size_alloc] at hs4); have hz4_0 : w.heap.size < w4.heap.size := (by omega); have hz4_1 : w.heap.size + 1 < w4.heap.size := (by omega); have hz4_2 : w.heap.size + 1 + 1 < w4.heap.size := (by omega)
      have HO4 := hide hr4; clear hr4
      go_wp2_with fail
      generalize hw5 : w4.alloc (Obj.cells #[Value.int IntKind.i64 W, Value.int IntKind.i64 H, Value.slice (some { block := g4, off := 0 }) l.length l.length] 35) = w5
      have hb5 : Ext w4 w5 := by rw [← hw5]; repeat (first | exact Ext.refl _ | apply Ext.alloc | apply Ext.drewN | apply Ext.drew | apply Ext.set0 | apply Ext.set1 | apply Ext.set2 | apply Ext.set3 | (refine Ext.setk ?_ (by omega) _) | (apply Ext.snoc; assumption))
      have cc : w5.cell? ⟨w4.heap.size, 0, none⟩ = some (.int .i64 W) ∧ w5.cell? ⟨w4.heap.size, 1, none⟩ = some (.int .i64 H) ∧ w5.cell? ⟨w4.heap.size, 2, none⟩ = some (.slice (some ⟨g4, 0, none⟩) l.length l.length) := by rw [← hw5]; simp [go_sem]
      obtain ⟨c50, c51, c52⟩ := cc
      have z5_4 : w4.heap.size < w5.heap.size := by rw [← hw5]; simp
      clear hw5
      obtain ⟨hc5, hf5, _⟩ := hb5.facts; have hs5 := hb5.size; (try simp only [World.size_alloc] at hs5); have hz5_0 : w.heap.size < w5.heap.size := (by omega); have hz5_1 : w.heap.size + 1 < w5.heap.size := (by omega); have hz5_2 : w.heap.size + 1 + 1 < w5.heap.size := (by omega)
      have HO5 := hide (Rds.ext HO4.out hb5)
      apply wp_region_RL 7 39 (by kernel_rfl) (by kernel_rfl) (by kernel_rfl) (by kernel_rfl) (by kernel_rfl) (by kernel_rfl) rfl [fun v _ => v = _, fun v _ => v = _, fun v _ => v = _, fun v _ => v = _, fun v _ => v = _, fun v _ => v = _, fun v _ => v = _] rfl ⟨stab_eq _, stab_eq _, stab_eq _, stab_eq _, stab_eq _, stab_eq _, stab_eq _, trivial⟩ ?R7hop ?R7fin
      case R7hop =>
        intro a w' hE hA
        have hc := hE.facts.1
        have hz := hE.facts.2.2
        refine ⟨⟨⟨⟨⟨⟨⟨trivial, ?_⟩, ?_⟩, ?_⟩, ?_⟩, ?_⟩, ?_⟩, ?_⟩
        · intro hp
          have s9 := hA 9 (by rfl)
          simp [sl] at s9
          clear hp
          refine wpOp_of_list rfl rfl ?_
          go_wp2_with (first | (go_at_call 22; refine (toNode_any _ _ _).mono ?_; rintro e w8 ⟨rfl, hb8⟩) | (go_at_call 14; refine (toSheet_any _ _ _).mono ?_; rintro e w8 ⟨rfl, hb8⟩) | (go_at_call 25; refine (CountSpots_any W H l _ _ a0 a1 p0 p1 _ h' (Nat.le_refl _) (Rds.ext HO5.out (by repeat (first | exact Ext.refl _ | apply Ext.alloc | apply Ext.drewN | apply Ext.drew | apply Ext.set0 | apply Ext.set1 | apply Ext.set2 | apply Ext.set3 | (refine Ext.setk ?_ (by omega) _) | (apply Ext.snoc; assumption))))).mono ?_; rintro e w8 ⟨rfl, hb8⟩))
          exact ⟨_, rfl, rfl, (by repeat (first | exact Ext.refl _ | apply Ext.alloc | apply Ext.drewN | apply Ext.drew | apply Ext.set0 | apply Ext.set1 | apply Ext.set2 | apply Ext.set3 | (refine Ext.setk ?_ (by omega) _) | (apply Ext.snoc; assumption)))⟩
        · intro hp
          have s4 := hA 4 (by rfl)
          simp [sl] at s4
          clear hp
          refine wpOp_of_list rfl rfl ?_
          go_wp2_with (first | (go_at_call 22; refine (toNode_any _ _ _).mono ?_; rintro e w8 ⟨rfl, hb8⟩) | (go_at_call 14; refine (toSheet_any _ _ _).mono ?_; rintro e w8 ⟨rfl, hb8⟩) | (go_at_call 25; refine (CountSpots_any W H l _ _ a0 a1 p0 p1 _ h' (Nat.le_refl _) (Rds.ext HO5.out (by repeat (first | exact Ext.refl _ | apply Ext.alloc | apply Ext.drewN | apply Ext.drew | apply Ext.set0 | apply Ext.set1 | apply Ext.set2 | apply Ext.set3 | (refine Ext.setk ?_ (by omega) _) | (apply Ext.snoc; assumption))))).mono ?_; rintro e w8 ⟨rfl, hb8⟩))
          exact ⟨_, rfl, rfl, (by repeat (first | exact Ext.refl _ | apply Ext.alloc | apply Ext.drewN | apply Ext.drew | apply Ext.set0 | apply Ext.set1 | apply Ext.set2 | apply Ext.set3 | (refine Ext.setk ?_ (by omega) _) | (apply Ext.snoc; assumption)))⟩
        · intro hp
          have s26 := hp 1 (by rfl)
          change a.tmps.getD 26 undef = _ at s26
          simp at s26
          clear hp
          refine wpOp_of_list rfl rfl ?_
          go_wp2_with (first | (go_at_call 22; refine (toNode_any _ _ _).mono ?_; rintro e w8 ⟨rfl, hb8⟩) | (go_at_call 14; refine (toSheet_any _ _ _).mono ?_; rintro e w8 ⟨rfl, hb8⟩) | (go_at_call 25; refine (CountSpots_any W H l _ _ a0 a1 p0 p1 _ h' (Nat.le_refl _) (Rds.ext HO5.out (by repeat (first | exact Ext.refl _ | apply Ext.alloc | apply Ext.drewN | apply Ext.drew | apply Ext.set0 | apply Ext.set1 | apply Ext.set2 | apply Ext.set3 | (refine Ext.setk ?_ (by omega) _) | (apply Ext.snoc; assumption))))).mono ?_; rintro e w8 ⟨rfl, hb8⟩))
          exact ⟨_, rfl, rfl, (by repeat (first | exact Ext.refl _ | apply Ext.alloc | apply Ext.drewN | apply Ext.drew | apply Ext.set0 | apply Ext.set1 | apply Ext.set2 | apply Ext.set3 | (refine Ext.setk ?_ (by omega) _) | (apply Ext.snoc; assumption)))⟩
        · intro hp
          have s5 := hA 5 (by rfl)
          simp [sl] at s5
          clear hp
          refine wpOp_of_list rfl rfl ?_
          go_wp2_with (first | (go_at_call 22; refine (toNode_any _ _ _).mono ?_; rintro e w8 ⟨rfl, hb8⟩) | (go_at_call 14; refine (toSheet_any _ _ _).mono ?_; rintro e w8 ⟨rfl, hb8⟩) | (go_at_call 25; refine (CountSpots_any W H l _ _ a0 a1 p0 p1 _ h' (Nat.le_refl _) (Rds.ext HO5.out (by repeat (first | exact Ext.refl _ | apply Ext.alloc | apply Ext.drewN | apply Ext.drew | apply Ext.set0 | apply Ext.set1 | apply Ext.set2 | apply Ext.set3 | (refine Ext.setk ?_ (by omega) _) | (apply Ext.snoc; assumption))))).mono ?_; rintro e w8 ⟨rfl, hb8⟩))
          exact ⟨_, rfl, rfl, (by repeat (first | exact Ext.refl _ | apply Ext.alloc | apply Ext.drewN | apply Ext.drew | apply Ext.set0 | apply Ext.set1 | apply Ext.set2 | apply Ext.set3 | (refine Ext.setk ?_ (by omega) _) | (apply Ext.snoc; assumption)))⟩
        · intro hp
          have s28 := hp 3 (by rfl)
          change a.tmps.getD 28 undef = _ at s28
          simp at s28
          clear hp
          refine wpOp_of_list rfl rfl ?_
          go_wp2_with (first | (go_at_call 22; refine (toNode_any _ _ _).mono ?_; rintro e w8 ⟨rfl, hb8⟩) | (go_at_call 14; refine (toSheet_any _ _ _).mono ?_; rintro e w8 ⟨rfl, hb8⟩) | (go_at_call 25; refine (CountSpots_any W H l _ _ a0 a1 p0 p1 _ h' (Nat.le_refl _) (Rds.ext HO5.out (by repeat (first | exact Ext.refl _ | apply Ext.alloc | apply Ext.drewN | apply Ext.drew | apply Ext.set0 | apply Ext.set1 | apply Ext.set2 | apply Ext.set3 | (refine Ext.setk ?_ (by omega) _) | (apply Ext.snoc; assumption))))).mono ?_; rintro e w8 ⟨rfl, hb8⟩))
          exact ⟨_, rfl, rfl, (by repeat (first | exact Ext.refl _ | apply Ext.alloc | apply Ext.drewN | apply Ext.drew | apply Ext.set0 | apply Ext.set1 | apply Ext.set2 | apply Ext.set3 | (refine Ext.setk ?_ (by omega) _) | (apply Ext.snoc; assumption)))⟩
        · intro hp
          have s25 := hp 0 (by rfl)
          change a.tmps.getD 25 undef = _ at s25
          simp at s25
          have s27 := hp 2 (by rfl)
          change a.tmps.getD 27 undef = _ at s27
          simp at s27
          have s29 := hp 4 (by rfl)
          change a.tmps.getD 29 undef = _ at s29
          simp at s29
          clear hp
          refine wpOp_of_list rfl rfl ?_
          go_wp2_with (first | (go_at_call 22; refine (toNode_any _ _ _).mono ?_; rintro e w8 ⟨rfl, hb8⟩) | (go_at_call 14; refine (toSheet_any _ _ _).mono ?_; rintro e w8 ⟨rfl, hb8⟩) | (go_at_call 25; refine (CountSpots_any W H l _ _ a0 a1 p0 p1 _ h' (Nat.le_refl _) (Rds.ext HO5.out (by repeat (first | exact Ext.refl _ | apply Ext.alloc | apply Ext.drewN | apply Ext.drew | apply Ext.set0 | apply Ext.set1 | apply Ext.set2 | apply Ext.set3 | (refine Ext.setk ?_ (by omega) _) | (apply Ext.snoc; assumption))))).mono ?_; rintro e w8 ⟨rfl, hb8⟩))
          exact ⟨_, rfl, rfl, (by repeat (first | exact Ext.refl _ | apply Ext.alloc | apply Ext.drewN | apply Ext.drew | apply Ext.set0 | apply Ext.set1 | apply Ext.set2 | apply Ext.set3 | (refine Ext.setk ?_ (by omega) _) | (apply Ext.snoc; assumption)))⟩
        · intro hp
          have s30 := hp 5 (by rfl)
          change a.tmps.getD 30 undef = _ at s30
          simp at s30
          clear hp
          refine wpOp_of_list rfl rfl ?_
          go_wp2_with (first | (go_at_call 22; refine (toNode_any _ _ _).mono ?_; rintro e w8 ⟨rfl, hb8⟩) | (go_at_call 14; refine (toSheet_any _ _ _).mono ?_; rintro e w8 ⟨rfl, hb8⟩) | (go_at_call 25; refine (CountSpots_any W H l _ _ a0 a1 p0 p1 _ h' (Nat.le_refl _) (Rds.ext HO5.out (by repeat (first | exact Ext.refl _ | apply Ext.alloc | apply Ext.drewN | apply Ext.drew | apply Ext.set0 | apply Ext.set1 | apply Ext.set2 | apply Ext.set3 | (refine Ext.setk ?_ (by omega) _) | (apply Ext.snoc; assumption))))).mono ?_; rintro e w8 ⟨rfl, hb8⟩))
          exact ⟨_, rfl, rfl, (by repeat (first | exact Ext.refl _ | apply Ext.alloc | apply Ext.drewN | apply Ext.drew | apply Ext.set0 | apply Ext.set1 | apply Ext.set2 | apply Ext.set3 | (refine Ext.setk ?_ (by omega) _) | (apply Ext.snoc; assumption)))⟩
      case R7fin =>
        intro X w6 hb6 hp
        obtain ⟨⟨⟨⟨⟨⟨⟨_, h0⟩, h1⟩, h2⟩, h3⟩, h4⟩, h5⟩, h6⟩ := hp
        change X 0 = _ at h0
        change X 1 = _ at h1
        change X 2 = _ at h2
        change X 3 = _ at h3
        change X 4 = _ at h4
        change X 5 = _ at h5
        change X 6 = _ at h6
        simp only [List.drop_succ_cons, List.drop_nil]
        refine wpList_nil ?_
        go_simp
        obtain ⟨hc6, hf6, _⟩ := hb6.facts; have hs6 := hb6.size; (try simp only [World.size_alloc] at hs6); have hz6_0 : w.heap.size < w6.heap.size := (by omega); have hz6_1 : w.heap.size + 1 < w6.heap.size := (by omega); have hz6_2 : w.heap.size + 1 + 1 < w6.heap.size := (by omega)
        have z6_4 : w4.heap.size < w6.heap.size := by omega
        have HO6 := hide (Rds.ext HO5.out hb6)
        go_wp2_with fail
        apply wp_region_RL 5 39 (by kernel_rfl) (by kernel_rfl) (by kernel_rfl) (by kernel_rfl) (by kernel_rfl) (by kernel_rfl) rfl [fun v _ => v = _, fun v _ => v = _, fun v w' => ∃ g, v = .agg #[.int .i64 W, .int .i64 H, .slice (some ⟨g, 0, none⟩) l.length l.length] ∧ R2 w' (some ⟨g, 0, none⟩) l, fun v _ => v = _, fun v _ => v = _] rfl ⟨stab_eq _, stab_eq _, stab_R2 (fun g => .agg #[.int .i64 W, .int .i64 H, .slice (some ⟨g, 0, none⟩) l.length l.length]) l, stab_eq _, stab_eq _, trivial⟩ ?R10hop ?R10fin
        case R10hop =>
          intro a w' hE hA
          have hc := hE.facts.1
          have hz := hE.facts.2.2
          refine ⟨⟨⟨⟨⟨trivial, ?_⟩, ?_⟩, ?_⟩, ?_⟩, ?_⟩
          · intro hp
            have s9 := hA 9 (by rfl)
            simp [sl] at s9
            clear hp
            refine wpOp_of_list rfl rfl ?_
            go_wp2_with (first | (go_at_call 18; refine (toFlawed_any W H l A c _ h' (Rds.ext HR.out (by repeat (first | exact Ext.refl _ | apply Ext.alloc | apply Ext.drewN | apply Ext.drew | apply Ext.set0 | apply Ext.set1 | apply Ext.set2 | apply Ext.set3 | (refine Ext.setk ?_ (by omega) _) | (apply Ext.snoc; assumption))))).mono ?_; rintro e w8 ⟨g8, rfl, hr8, hb8⟩) | (go_at_call 20; refine (eqFlawed_any W H l _ _ _ _ _ h' (Rds.ext HO6.out (by repeat (first | exact Ext.refl _ | apply Ext.alloc | apply Ext.drewN | apply Ext.drew | apply Ext.set0 | apply Ext.set1 | apply Ext.set2 | apply Ext.set3 | (refine Ext.setk ?_ (by omega) _) | (apply Ext.snoc; assumption)))) hg).mono ?_; rintro e w8 ⟨rfl, hb8⟩))
            exact ⟨_, rfl, rfl, (by repeat (first | exact Ext.refl _ | apply Ext.alloc | apply Ext.drewN | apply Ext.drew | apply Ext.set0 | apply Ext.set1 | apply Ext.set2 | apply Ext.set3 | (refine Ext.setk ?_ (by omega) _) | (apply Ext.snoc; assumption)))⟩
          · intro hp
            have s3 := hA 3 (by rfl)
            simp [sl] at s3
            clear hp
            refine wpOp_of_list rfl rfl ?_
            go_wp2_with (first | (go_at_call 18; refine (toFlawed_any W H l A c _ h' (Rds.ext HR.out (by repeat (first | exact Ext.refl _ | apply Ext.alloc | apply Ext.drewN | apply Ext.drew | apply Ext.set0 | apply Ext.set1 | apply Ext.set2 | apply Ext.set3 | (refine Ext.setk ?_ (by omega) _) | (apply Ext.snoc; assumption))))).mono ?_; rintro e w8 ⟨g8, rfl, hr8, hb8⟩) | (go_at_call 20; refine (eqFlawed_any W H l _ _ _ _ _ h' (Rds.ext HO6.out (by repeat (first | exact Ext.refl _ | apply Ext.alloc | apply Ext.drewN | apply Ext.drew | apply Ext.set0 | apply Ext.set1 | apply Ext.set2 | apply Ext.set3 | (refine Ext.setk ?_ (by omega) _) | (apply Ext.snoc; assumption)))) hg).mono ?_; rintro e w8 ⟨rfl, hb8⟩))
            exact ⟨_, rfl, rfl, (by repeat (first | exact Ext.refl _ | apply Ext.alloc | apply Ext.drewN | apply Ext.drew | apply Ext.set0 | apply Ext.set1 | apply Ext.set2 | apply Ext.set3 | (refine Ext.setk ?_ (by omega) _) | (apply Ext.snoc; assumption)))⟩
          · intro hp
            have s35 := hp 1 (by rfl)
            change a.tmps.getD 35 undef = _ at s35
            simp at s35
            clear hp
            refine wpOp_of_list rfl rfl ?_
            go_wp2_with (first | (go_at_call 18; refine (toFlawed_any W H l A c _ h' (Rds.ext HR.out (by repeat (first | exact Ext.refl _ | apply Ext.alloc | apply Ext.drewN | apply Ext.drew | apply Ext.set0 | apply Ext.set1 | apply Ext.set2 | apply Ext.set3 | (refine Ext.setk ?_ (by omega) _) | (apply Ext.snoc; assumption))))).mono ?_; rintro e w8 ⟨g8, rfl, hr8, hb8⟩) | (go_at_call 20; refine (eqFlawed_any W H l _ _ _ _ _ h' (Rds.ext HO6.out (by repeat (first | exact Ext.refl _ | apply Ext.alloc | apply Ext.drewN | apply Ext.drew | apply Ext.set0 | apply Ext.set1 | apply Ext.set2 | apply Ext.set3 | (refine Ext.setk ?_ (by omega) _) | (apply Ext.snoc; assumption)))) hg).mono ?_; rintro e w8 ⟨rfl, hb8⟩))
            exact ⟨_, rfl, ⟨g8, rfl, hr8⟩, (by repeat (first | exact Ext.refl _ | apply Ext.alloc | apply Ext.drewN | apply Ext.drew | apply Ext.set0 | apply Ext.set1 | apply Ext.set2 | apply Ext.set3 | (refine Ext.setk ?_ (by omega) _) | (apply Ext.snoc; assumption)))⟩
          · intro hp
            have s34 := hp 0 (by rfl)
            change a.tmps.getD 34 undef = _ at s34
            simp at s34
            have s36 := hp 2 (by rfl)
            obtain ⟨g, s36, hg⟩ := s36
            change a.tmps.getD 36 undef = _ at s36
            simp at s36
            clear hp
            refine wpOp_of_list rfl rfl ?_
            go_wp2_with (first | (go_at_call 18; refine (toFlawed_any W H l A c _ h' (Rds.ext HR.out (by repeat (first | exact Ext.refl _ | apply Ext.alloc | apply Ext.drewN | apply Ext.drew | apply Ext.set0 | apply Ext.set1 | apply Ext.set2 | apply Ext.set3 | (refine Ext.setk ?_ (by omega) _) | (apply Ext.snoc; assumption))))).mono ?_; rintro e w8 ⟨g8, rfl, hr8, hb8⟩) | (go_at_call 20; refine (eqFlawed_any W H l _ _ _ _ _ h' (Rds.ext HO6.out (by repeat (first | exact Ext.refl _ | apply Ext.alloc | apply Ext.drewN | apply Ext.drew | apply Ext.set0 | apply Ext.set1 | apply Ext.set2 | apply Ext.set3 | (refine Ext.setk ?_ (by omega) _) | (apply Ext.snoc; assumption)))) hg).mono ?_; rintro e w8 ⟨rfl, hb8⟩))
            exact ⟨_, rfl, rfl, (by repeat (first | exact Ext.refl _ | apply Ext.alloc | apply Ext.drewN | apply Ext.drew | apply Ext.set0 | apply Ext.set1 | apply Ext.set2 | apply Ext.set3 | (refine Ext.setk ?_ (by omega) _) | (apply Ext.snoc; assumption)))⟩
          · intro hp
            have s37 := hp 3 (by rfl)
            change a.tmps.getD 37 undef = _ at s37
            simp at s37
            clear hp
            refine wpOp_of_list rfl rfl ?_
            go_wp2_with (first | (go_at_call 18; refine (toFlawed_any W H l A c _ h' (Rds.ext HR.out (by repeat (first | exact Ext.refl _ | apply Ext.alloc | apply Ext.drewN | apply Ext.drew | apply Ext.set0 | apply Ext.set1 | apply Ext.set2 | apply Ext.set3 | (refine Ext.setk ?_ (by omega) _) | (apply Ext.snoc; assumption))))).mono ?_; rintro e w8 ⟨g8, rfl, hr8, hb8⟩) | (go_at_call 20; refine (eqFlawed_any W H l _ _ _ _ _ h' (Rds.ext HO6.out (by repeat (first | exact Ext.refl _ | apply Ext.alloc | apply Ext.drewN | apply Ext.drew | apply Ext.set0 | apply Ext.set1 | apply Ext.set2 | apply Ext.set3 | (refine Ext.setk ?_ (by omega) _) | (apply Ext.snoc; assumption)))) hg).mono ?_; rintro e w8 ⟨rfl, hb8⟩))
            exact ⟨_, rfl, rfl, (by repeat (first | exact Ext.refl _ | apply Ext.alloc | apply Ext.drewN | apply Ext.drew | apply Ext.set0 | apply Ext.set1 | apply Ext.set2 | apply Ext.set3 | (refine Ext.setk ?_ (by omega) _) | (apply Ext.snoc; assumption)))⟩
        case R10fin =>
          intro X w7 hb7 hp
          obtain ⟨⟨⟨⟨⟨_, h0⟩, h1⟩, h2⟩, h3⟩, h4⟩ := hp
          change X 0 = _ at h0
          change X 1 = _ at h1
          obtain ⟨g, h2, hg⟩ := h2
          change X 2 = _ at h2
          change X 3 = _ at h3
          change X 4 = _ at h4
          simp only [List.drop_succ_cons, List.drop_nil]
          refine wpList_nil ?_
          go_simp
          go_wp2_with fail
          go_ret
          exact ⟨rfl, by repeat (first | exact Ext.refl _ | apply Ext.alloc | apply Ext.drewN | apply Ext.drew | apply Ext.set0 | apply Ext.set1 | apply Ext.set2 | apply Ext.set3 | (refine Ext.setk ?_ (by omega) _) | (apply Ext.snoc; assumption))⟩

set_option maxHeartbeats 2000000 in
theorem FnExactIsClear_walk (W H : Int) (l : List P2) (A : Option Addr) (c : Nat) (a0 a1 p0 p1 : Int) (w : World) (hl : l.length ≤ maxLen) (hr : R2 w A l) :
    Calls Try.prog 5 #[.agg #[.int .i64 W, .int .i64 H, .slice A l.length c], .agg #[.int .i64 a0, .int .i64 a1], .agg #[.int .i64 p0, .int .i64 p1]] w fun e w' => e = .returned (.bool true) ∧ Ext w w' := by
  have HR := hide hr
  clear hr
  by_cases h : (1048576 : Int) < l.length
  · have hs : szR l.length 1048576 = -1 := by unfold szR; rw [if_pos h]
    go_enter Try.func5, Try.ntmps5
    go_wp2_with fail
    refine (szFlawed_any W H l A c 1048576 _ hl (by omega) (by omega)).mono ?_; rintro e w1 ⟨rfl, hb1⟩; obtain ⟨hc1, hf1, _⟩ := hb1.facts; have hs1 := hb1.size; (try simp only [World.size_alloc] at hs1); have hz1_0 : w.heap.size < w1.heap.size := (by omega); have hz1_1 : w.heap.size + 1 < w1.heap.size := (by omega); have hz1_2 : w.heap.size + 1 + 1 < w1.heap.size := (by omega)
    rw [hs]
    go_wp2_with fail
    go_ret
    exact ⟨rfl, by repeat (first | exact Ext.refl _ | apply Ext.alloc | apply Ext.drewN | apply Ext.drew | apply Ext.set0 | apply Ext.set1 | apply Ext.set2 | apply Ext.set3 | (refine Ext.setk ?_ (by omega) _) | (apply Ext.snoc; assumption))⟩
  · have hs : szR l.length 1048576 = 1048576 - l.length := by unfold szR; rw [if_neg h]
    have h' : l.length ≤ 1048576 := by omega
    go_enter Try.func5, Try.ntmps5
    go_wp2_with fail
    refine (szFlawed_any W H l A c 1048576 _ hl (by omega) (by omega)).mono ?_; rintro e w1 ⟨rfl, hb1⟩; obtain ⟨hc1, hf1, _⟩ := hb1.facts; have hs1 := hb1.size; (try simp only [World.size_alloc] at hs1); have hz1_0 : w.heap.size < w1.heap.size := (by omega); have hz1_1 : w.heap.size + 1 < w1.heap.size := (by omega); have hz1_2 : w.heap.size + 1 + 1 < w1.heap.size := (by omega)
    rw [hs]
    go_wp2_with fail
    apply wp_region_RL 8 39 (by kernel_rfl) (by kernel_rfl) (by kernel_rfl) (by kernel_rfl) (by kernel_rfl) (by kernel_rfl) rfl [fun v _ => v = _, fun v w' => ∃ g, v = .agg #[.int .i64 W, .int .i64 H, .slice (some ⟨g, 0, none⟩) l.length l.length] ∧ R2 w' (some ⟨g, 0, none⟩) l, fun v _ => v = _, fun v _ => v = _, fun v _ => v = _, fun v _ => v = _, fun v _ => v = _, fun v _ => v = _] rfl ⟨stab_eq _, stab_R2 (fun g => .agg #[.int .i64 W, .int .i64 H, .slice (some ⟨g, 0, none⟩) l.length l.length]) l, stab_eq _, stab_eq _, stab_eq _, stab_eq _, stab_eq _, stab_eq _, trivial⟩ ?R5hop ?R5fin
    case R5hop =>
      intro a w' hE hA
      have hc := hE.facts.1
      have hz := hE.facts.2.2
      refine ⟨⟨⟨⟨⟨⟨⟨⟨trivial, ?_⟩, ?_⟩, ?_⟩, ?_⟩, ?_⟩, ?_⟩, ?_⟩, ?_⟩
      · intro hp
        have s3 := hA 3 (by rfl)
        simp [sl] at s3
        clear hp
        refine wpOp_of_list rfl rfl ?_
        go_wp2_with (first | (go_at_call 18; refine (toFlawed_any W H l A c _ h' (Rds.ext HR.out (by repeat (first | exact Ext.refl _ | apply Ext.alloc | apply Ext.drewN | apply Ext.drew | apply Ext.set0 | apply Ext.set1 | apply Ext.set2 | apply Ext.set3 | (refine Ext.setk ?_ (by omega) _) | (apply Ext.snoc; assumption))))).mono ?_; rintro e w8 ⟨g8, rfl, hr8, hb8⟩) | (go_at_call 22; refine (toNode_any _ _ _).mono ?_; rintro e w8 ⟨rfl, hb8⟩) | (go_at_call 14; refine (toSheet_any _ _ _).mono ?_; rintro e w8 ⟨rfl, hb8⟩) | (go_at_call 21; refine (sIsClear_any W H l _ _ a0 a1 p0 p1 _ h' hg).mono ?_; rintro e w8 ⟨rfl, hb8⟩))
        exact ⟨_, rfl, rfl, (by repeat (first | exact Ext.refl _ | apply Ext.alloc | apply Ext.drewN | apply Ext.drew | apply Ext.set0 | apply Ext.set1 | apply Ext.set2 | apply Ext.set3 | (refine Ext.setk ?_ (by omega) _) | (apply Ext.snoc; assumption)))⟩
      · intro hp
        have s16 := hp 0 (by rfl)
        change a.tmps.getD 16 undef = _ at s16
        simp at s16
        clear hp
        refine wpOp_of_list rfl rfl ?_
        go_wp2_with (first | (go_at_call 18; refine (toFlawed_any W H l A c _ h' (Rds.ext HR.out (by repeat (first | exact Ext.refl _ | apply Ext.alloc | apply Ext.drewN | apply Ext.drew | apply Ext.set0 | apply Ext.set1 | apply Ext.set2 | apply Ext.set3 | (refine Ext.setk ?_ (by omega) _) | (apply Ext.snoc; assumption))))).mono ?_; rintro e w8 ⟨g8, rfl, hr8, hb8⟩) | (go_at_call 22; refine (toNode_any _ _ _).mono ?_; rintro e w8 ⟨rfl, hb8⟩) | (go_at_call 14; refine (toSheet_any _ _ _).mono ?_; rintro e w8 ⟨rfl, hb8⟩) | (go_at_call 21; refine (sIsClear_any W H l _ _ a0 a1 p0 p1 _ h' hg).mono ?_; rintro e w8 ⟨rfl, hb8⟩))
        exact ⟨_, rfl, ⟨g8, rfl, hr8⟩, (by repeat (first | exact Ext.refl _ | apply Ext.alloc | apply Ext.drewN | apply Ext.drew | apply Ext.set0 | apply Ext.set1 | apply Ext.set2 | apply Ext.set3 | (refine Ext.setk ?_ (by omega) _) | (apply Ext.snoc; assumption)))⟩
      · intro hp
        have s4 := hA 4 (by rfl)
        simp [sl] at s4
        clear hp
        refine wpOp_of_list rfl rfl ?_
        go_wp2_with (first | (go_at_call 18; refine (toFlawed_any W H l A c _ h' (Rds.ext HR.out (by repeat (first | exact Ext.refl _ | apply Ext.alloc | apply Ext.drewN | apply Ext.drew | apply Ext.set0 | apply Ext.set1 | apply Ext.set2 | apply Ext.set3 | (refine Ext.setk ?_ (by omega) _) | (apply Ext.snoc; assumption))))).mono ?_; rintro e w8 ⟨g8, rfl, hr8, hb8⟩) | (go_at_call 22; refine (toNode_any _ _ _).mono ?_; rintro e w8 ⟨rfl, hb8⟩) | (go_at_call 14; refine (toSheet_any _ _ _).mono ?_; rintro e w8 ⟨rfl, hb8⟩) | (go_at_call 21; refine (sIsClear_any W H l _ _ a0 a1 p0 p1 _ h' hg).mono ?_; rintro e w8 ⟨rfl, hb8⟩))
        exact ⟨_, rfl, rfl, (by repeat (first | exact Ext.refl _ | apply Ext.alloc | apply Ext.drewN | apply Ext.drew | apply Ext.set0 | apply Ext.set1 | apply Ext.set2 | apply Ext.set3 | (refine Ext.setk ?_ (by omega) _) | (apply Ext.snoc; assumption)))⟩
      · intro hp
        have s18 := hp 2 (by rfl)
        change a.tmps.getD 18 undef = _ at s18
        simp at s18
        clear hp
        refine wpOp_of_list rfl rfl ?_
        go_wp2_with (first | (go_at_call 18; refine (toFlawed_any W H l A c _ h' (Rds.ext HR.out (by repeat (first | exact Ext.refl _ | apply Ext.alloc | apply Ext.drewN | apply Ext.drew | apply Ext.set0 | apply Ext.set1 | apply Ext.set2 | apply Ext.set3 | (refine Ext.setk ?_ (by omega) _) | (apply Ext.snoc; assumption))))).mono ?_; rintro e w8 ⟨g8, rfl, hr8, hb8⟩) | (go_at_call 22; refine (toNode_any _ _ _).mono ?_; rintro e w8 ⟨rfl, hb8⟩) | (go_at_call 14; refine (toSheet_any _ _ _).mono ?_; rintro e w8 ⟨rfl, hb8⟩) | (go_at_call 21; refine (sIsClear_any W H l _ _ a0 a1 p0 p1 _ h' hg).mono ?_; rintro e w8 ⟨rfl, hb8⟩))
        exact ⟨_, rfl, rfl, (by repeat (first | exact Ext.refl _ | apply Ext.alloc | apply Ext.drewN | apply Ext.drew | apply Ext.set0 | apply Ext.set1 | apply Ext.set2 | apply Ext.set3 | (refine Ext.setk ?_ (by omega) _) | (apply Ext.snoc; assumption)))⟩
      · intro hp
        have s5 := hA 5 (by rfl)
        simp [sl] at s5
        clear hp
        refine wpOp_of_list rfl rfl ?_
        go_wp2_with (first | (go_at_call 18; refine (toFlawed_any W H l A c _ h' (Rds.ext HR.out (by repeat (first | exact Ext.refl _ | apply Ext.alloc | apply Ext.drewN | apply Ext.drew | apply Ext.set0 | apply Ext.set1 | apply Ext.set2 | apply Ext.set3 | (refine Ext.setk ?_ (by omega) _) | (apply Ext.snoc; assumption))))).mono ?_; rintro e w8 ⟨g8, rfl, hr8, hb8⟩) | (go_at_call 22; refine (toNode_any _ _ _).mono ?_; rintro e w8 ⟨rfl, hb8⟩) | (go_at_call 14; refine (toSheet_any _ _ _).mono ?_; rintro e w8 ⟨rfl, hb8⟩) | (go_at_call 21; refine (sIsClear_any W H l _ _ a0 a1 p0 p1 _ h' hg).mono ?_; rintro e w8 ⟨rfl, hb8⟩))
        exact ⟨_, rfl, rfl, (by repeat (first | exact Ext.refl _ | apply Ext.alloc | apply Ext.drewN | apply Ext.drew | apply Ext.set0 | apply Ext.set1 | apply Ext.set2 | apply Ext.set3 | (refine Ext.setk ?_ (by omega) _) | (apply Ext.snoc; assumption)))⟩
      · intro hp
        have s20 := hp 4 (by rfl)
        change a.tmps.getD 20 undef = _ at s20
        simp at s20
        clear hp
        refine wpOp_of_list rfl rfl ?_
        go_wp2_with (first | (go_at_call 18; refine (toFlawed_any W H l A c _ h' (Rds.ext HR.out (by repeat (first | exact Ext.refl _ | apply Ext.alloc | apply Ext.drewN | apply Ext.drew | apply Ext.set0 | apply Ext.set1 | apply Ext.set2 | apply Ext.set3 | (refine Ext.setk ?_ (by omega) _) | (apply Ext.snoc; assumption))))).mono ?_; rintro e w8 ⟨g8, rfl, hr8, hb8⟩) | (go_at_call 22; refine (toNode_any _ _ _).mono ?_; rintro e w8 ⟨rfl, hb8⟩) | (go_at_call 14; refine (toSheet_any _ _ _).mono ?_; rintro e w8 ⟨rfl, hb8⟩) | (go_at_call 21; refine (sIsClear_any W H l _ _ a0 a1 p0 p1 _ h' hg).mono ?_; rintro e w8 ⟨rfl, hb8⟩))
        exact ⟨_, rfl, rfl, (by repeat (first | exact Ext.refl _ | apply Ext.alloc | apply Ext.drewN | apply Ext.drew | apply Ext.set0 | apply Ext.set1 | apply Ext.set2 | apply Ext.set3 | (refine Ext.setk ?_ (by omega) _) | (apply Ext.snoc; assumption)))⟩
      · intro hp
        have s17 := hp 1 (by rfl)
        obtain ⟨g, s17, hg⟩ := s17
        change a.tmps.getD 17 undef = _ at s17
        simp at s17
        have s19 := hp 3 (by rfl)
        change a.tmps.getD 19 undef = _ at s19
        simp at s19
        have s21 := hp 5 (by rfl)
        change a.tmps.getD 21 undef = _ at s21
        simp at s21
        clear hp
        refine wpOp_of_list rfl rfl ?_
        go_wp2_with (first | (go_at_call 18; refine (toFlawed_any W H l A c _ h' (Rds.ext HR.out (by repeat (first | exact Ext.refl _ | apply Ext.alloc | apply Ext.drewN | apply Ext.drew | apply Ext.set0 | apply Ext.set1 | apply Ext.set2 | apply Ext.set3 | (refine Ext.setk ?_ (by omega) _) | (apply Ext.snoc; assumption))))).mono ?_; rintro e w8 ⟨g8, rfl, hr8, hb8⟩) | (go_at_call 22; refine (toNode_any _ _ _).mono ?_; rintro e w8 ⟨rfl, hb8⟩) | (go_at_call 14; refine (toSheet_any _ _ _).mono ?_; rintro e w8 ⟨rfl, hb8⟩) | (go_at_call 21; refine (sIsClear_any W H l _ _ a0 a1 p0 p1 _ h' hg).mono ?_; rintro e w8 ⟨rfl, hb8⟩))
        exact ⟨_, rfl, rfl, (by repeat (first | exact Ext.refl _ | apply Ext.alloc | apply Ext.drewN | apply Ext.drew | apply Ext.set0 | apply Ext.set1 | apply Ext.set2 | apply Ext.set3 | (refine Ext.setk ?_ (by omega) _) | (apply Ext.snoc; assumption)))⟩
      · intro hp
        have s22 := hp 6 (by rfl)
        change a.tmps.getD 22 undef = _ at s22
        simp at s22
        clear hp
        refine wpOp_of_list rfl rfl ?_
        go_wp2_with (first | (go_at_call 18; refine (toFlawed_any W H l A c _ h' (Rds.ext HR.out (by repeat (first | exact Ext.refl _ | apply Ext.alloc | apply Ext.drewN | apply Ext.drew | apply Ext.set0 | apply Ext.set1 | apply Ext.set2 | apply Ext.set3 | (refine Ext.setk ?_ (by omega) _) | (apply Ext.snoc; assumption))))).mono ?_; rintro e w8 ⟨g8, rfl, hr8, hb8⟩) | (go_at_call 22; refine (toNode_any _ _ _).mono ?_; rintro e w8 ⟨rfl, hb8⟩) | (go_at_call 14; refine (toSheet_any _ _ _).mono ?_; rintro e w8 ⟨rfl, hb8⟩) | (go_at_call 21; refine (sIsClear_any W H l _ _ a0 a1 p0 p1 _ h' hg).mono ?_; rintro e w8 ⟨rfl, hb8⟩))
        exact ⟨_, rfl, rfl, (by repeat (first | exact Ext.refl _ | apply Ext.alloc | apply Ext.drewN | apply Ext.drew | apply Ext.set0 | apply Ext.set1 | apply Ext.set2 | apply Ext.set3 | (refine Ext.setk ?_ (by omega) _) | (apply Ext.snoc; assumption)))⟩
    case R5fin =>
      intro X w3 hb3 hp
      obtain ⟨⟨⟨⟨⟨⟨⟨⟨_, h0⟩, h1⟩, h2⟩, h3⟩, h4⟩, h5⟩, h6⟩, h7⟩ := hp
      change X 0 = _ at h0
      obtain ⟨g, h1, hg⟩ := h1
      change X 1 = _ at h1
      change X 2 = _ at h2
      change X 3 = _ at h3
      change X 4 = _ at h4
      change X 5 = _ at h5
      change X 6 = _ at h6
      change X 7 = _ at h7
      simp only [List.drop_succ_cons, List.drop_nil]
      refine wpList_nil ?_
      go_simp
      clear hg h1
      obtain ⟨hc3, hf3, _⟩ := hb3.facts; have hs3 := hb3.size; (try simp only [World.size_alloc] at hs3); have hz3_0 : w.heap.size < w3.heap.size := (by omega); have hz3_1 : w.heap.size + 1 < w3.heap.size := (by omega); have hz3_2 : w.heap.size + 1 + 1 < w3.heap.size := (by omega)
      go_wp2_with fail
      refine (toFlawed_any W H l A c _ h' (Rds.ext HR.out (by repeat (first | exact Ext.refl _ | apply Ext.alloc | apply Ext.drewN | apply Ext.drew | apply Ext.set0 | apply Ext.set1 | apply Ext.set2 | apply Ext.set3 | (refine Ext.setk ?_ (by omega) _) | (apply Ext.snoc; assumption))))).mono ?_; rintro e w4 ⟨g4, rfl, hr4, hb4⟩; obtain ⟨hc4, hf4, _⟩ := hb4.facts; have hs4 := hb4.size; (try simp only [World.size_alloc] at hs4); have hz4_0 : w.heap.size < w4.heap.size := (by omega); have hz4_1 : w.heap.size + 1 < w4.heap.size := (by omega); have hz4_2 : w.heap.size + 1 + 1 < w4.heap.size := (by omega)
      have HO4 := hide hr4; clear hr4
      go_wp2_with fail
      generalize hw5 : w4.alloc (Obj.cells #[Value.int IntKind.i64 W, Value.int IntKind.i64 H, Value.slice (some { block := g4, off := 0 }) l.length l.length] 35) = w5
      have hb5 : Ext w4 w5 := by rw [← hw5]; repeat (first | exact Ext.refl _ | apply Ext.alloc | apply Ext.drewN | apply Ext.drew | apply Ext.set0 | apply Ext.set1 | apply Ext.set2 | apply Ext.set3 | (refine Ext.setk ?_ (by omega) _) | (apply Ext.snoc; assumption))
      have cc : w5.cell? ⟨w4.heap.size, 0, none⟩ = some (.int .i64 W) ∧ w5.cell? ⟨w4.heap.size, 1, none⟩ = some (.int .i64 H) ∧ w5.cell? ⟨w4.heap.size, 2, none⟩ = some (.slice (some ⟨g4, 0, none⟩) l.length l.length) := by rw [← hw5]; simp [go_sem]
      obtain ⟨c50, c51, c52⟩ := cc
      have z5_4 : w4.heap.size < w5.heap.size := by rw [← hw5]; simp
      clear hw5
      obtain ⟨hc5, hf5, _⟩ := hb5.facts; have hs5 := hb5.size; (try simp only [World.size_alloc] at hs5); have hz5_0 : w.heap.size < w5.heap.size := (by omega); have hz5_1 : w.heap.size + 1 < w5.heap.size := (by omega); have hz5_2 : w.heap.size + 1 + 1 < w5.heap.size := (by omega)
      have HO5 := hide (Rds.ext HO4.out hb5)
      apply wp_region_RL 7 39 (by kernel_rfl) (by kernel_rfl) (by kernel_rfl) (by kernel_rfl) (by kernel_rfl) (by kernel_rfl) rfl [fun v _ => v = _, fun v _ => v = _, fun v _ => v = _, fun v _ => v = _, fun v _ => v = _, fun v _ => v = _, fun v _ => v = _] rfl ⟨stab_eq _, stab_eq _, stab_eq _, stab_eq _, stab_eq _, stab_eq _, stab_eq _, trivial⟩ ?R7hop ?R7fin
      case R7hop =>
        intro a w' hE hA
        have hc := hE.facts.1
        have hz := hE.facts.2.2
        refine ⟨⟨⟨⟨⟨⟨⟨trivial, ?_⟩, ?_⟩, ?_⟩, ?_⟩, ?_⟩, ?_⟩, ?_⟩
        · intro hp
          have s9 := hA 9 (by rfl)
          simp [sl] at s9
          clear hp
          refine wpOp_of_list rfl rfl ?_
          go_wp2_with (first | (go_at_call 22; refine (toNode_any _ _ _).mono ?_; rintro e w8 ⟨rfl, hb8⟩) | (go_at_call 14; refine (toSheet_any _ _ _).mono ?_; rintro e w8 ⟨rfl, hb8⟩) | (go_at_call 23; refine (IsClear_any W H l _ _ a0 a1 p0 p1 _ h' (Rds.ext HO5.out (by repeat (first | exact Ext.refl _ | apply Ext.alloc | apply Ext.drewN | apply Ext.drew | apply Ext.set0 | apply Ext.set1 | apply Ext.set2 | apply Ext.set3 | (refine Ext.setk ?_ (by omega) _) | (apply Ext.snoc; assumption))))).mono ?_; rintro e w8 ⟨rfl, hb8⟩))
          exact ⟨_, rfl, rfl, (by repeat (first | exact Ext.refl _ | apply Ext.alloc | apply Ext.drewN | apply Ext.drew | apply Ext.set0 | apply Ext.set1 | apply Ext.set2 | apply Ext.set3 | (refine Ext.setk ?_ (by omega) _) | (apply Ext.snoc; assumption)))⟩
        · intro hp
          have s4 := hA 4 (by rfl)
          simp [sl] at s4
          clear hp
          refine wpOp_of_list rfl rfl ?_
          go_wp2_with (first | (go_at_call 22; refine (toNode_any _ _ _).mono ?_; rintro e w8 ⟨rfl, hb8⟩) | (go_at_call 14; refine (toSheet_any _ _ _).mono ?_; rintro e w8 ⟨rfl, hb8⟩) | (go_at_call 23; refine (IsClear_any W H l _ _ a0 a1 p0 p1 _ h' (Rds.ext HO5.out (by repeat (first | exact Ext.refl _ | apply Ext.alloc | apply Ext.drewN | apply Ext.drew | apply Ext.set0 | apply Ext.set1 | apply Ext.set2 | apply Ext.set3 | (refine Ext.setk ?_ (by omega) _) | (apply Ext.snoc; assumption))))).mono ?_; rintro e w8 ⟨rfl, hb8⟩))
          exact ⟨_, rfl, rfl, (by repeat (first | exact Ext.refl _ | apply Ext.alloc | apply Ext.drewN | apply Ext.drew | apply Ext.set0 | apply Ext.set1 | apply Ext.set2 | apply Ext.set3 | (refine Ext.setk ?_ (by omega) _) | (apply Ext.snoc; assumption)))⟩
        · intro hp
          have s26 := hp 1 (by rfl)
          change a.tmps.getD 26 undef = _ at s26
          simp at s26
          clear hp
          refine wpOp_of_list rfl rfl ?_
          go_wp2_with (first | (go_at_call 22; refine (toNode_any _ _ _).mono ?_; rintro e w8 ⟨rfl, hb8⟩) | (go_at_call 14; refine (toSheet_any _ _ _).mono ?_; rintro e w8 ⟨rfl, hb8⟩) | (go_at_call 23; refine (IsClear_any W H l _ _ a0 a1 p0 p1 _ h' (Rds.ext HO5.out (by repeat (first | exact Ext.refl _ | apply Ext.alloc | apply Ext.drewN | apply Ext.drew | apply Ext.set0 | apply Ext.set1 | apply Ext.set2 | apply Ext.set3 | (refine Ext.setk ?_ (by omega) _) | (apply Ext.snoc; assumption))))).mono ?_; rintro e w8 ⟨rfl, hb8⟩))
          exact ⟨_, rfl, rfl, (by repeat (first | exact Ext.refl _ | apply Ext.alloc | apply Ext.drewN | apply Ext.drew | apply Ext.set0 | apply Ext.set1 | apply Ext.set2 | apply Ext.set3 | (refine Ext.setk ?_ (by omega) _) | (apply Ext.snoc; assumption)))⟩
        · intro hp
          have s5 := hA 5 (by rfl)
          simp [sl] at s5
          clear hp
          refine wpOp_of_list rfl rfl ?_
          go_wp2_with (first | (go_at_call 22; refine (toNode_any _ _ _).mono ?_; rintro e w8 ⟨rfl, hb8⟩) | (go_at_call 14; refine (toSheet_any _ _ _).mono ?_; rintro e w8 ⟨rfl, hb8⟩) | (go_at_call 23; refine (IsClear_any W H l _ _ a0 a1 p0 p1 _ h' (Rds.ext HO5.out (by repeat (first | exact Ext.refl _ | apply Ext.alloc | apply Ext.drewN | apply Ext.drew | apply Ext.set0 | apply Ext.set1 | apply Ext.set2 | apply Ext.set3 | (refine Ext.setk ?_ (by omega) _) | (apply Ext.snoc; assumption))))).mono ?_; rintro e w8 ⟨rfl, hb8⟩))
          exact ⟨_, rfl, rfl, (by repeat (first | exact Ext.refl _ | apply Ext.alloc | apply Ext.drewN | apply Ext.drew | apply Ext.set0 | apply Ext.set1 | apply Ext.set2 | apply Ext.set3 | (refine Ext.setk ?_ (by omega) _) | (apply Ext.snoc; assumption)))⟩
        · intro hp
          have s28 := hp 3 (by rfl)
          change a.tmps.getD 28 undef = _ at s28
          simp at s28
          clear hp
          refine wpOp_of_list rfl rfl ?_
          go_wp2_with (first | (go_at_call 22; refine (toNode_any _ _ _).mono ?_; rintro e w8 ⟨rfl, hb8⟩) | (go_at_call 14; refine (toSheet_any _ _ _).mono ?_; rintro e w8 ⟨rfl, hb8⟩) | (go_at_call 23; refine (IsClear_any W H l _ _ a0 a1 p0 p1 _ h' (Rds.ext HO5.out (by repeat (first | exact Ext.refl _ | apply Ext.alloc | apply Ext.drewN | apply Ext.drew | apply Ext.set0 | apply Ext.set1 | apply Ext.set2 | apply Ext.set3 | (refine Ext.setk ?_ (by omega) _) | (apply Ext.snoc; assumption))))).mono ?_; rintro e w8 ⟨rfl, hb8⟩))
          exact ⟨_, rfl, rfl, (by repeat (first | exact Ext.refl _ | apply Ext.alloc | apply Ext.drewN | apply Ext.drew | apply Ext.set0 | apply Ext.set1 | apply Ext.set2 | apply Ext.set3 | (refine Ext.setk ?_ (by omega) _) | (apply Ext.snoc; assumption)))⟩
        · intro hp
          have s25 := hp 0 (by rfl)
          change a.tmps.getD 25 undef = _ at s25
          simp at s25
          have s27 := hp 2 (by rfl)
          change a.tmps.getD 27 undef = _ at s27
          simp at s27
          have s29 := hp 4 (by rfl)
          change a.tmps.getD 29 undef = _ at s29
          simp at s29
          clear hp
          refine wpOp_of_list rfl rfl ?_
          go_wp2_with (first | (go_at_call 22; refine (toNode_any _ _ _).mono ?_; rintro e w8 ⟨rfl, hb8⟩) | (go_at_call 14; refine (toSheet_any _ _ _).mono ?_; rintro e w8 ⟨rfl, hb8⟩) | (go_at_call 23; refine (IsClear_any W H l _ _ a0 a1 p0 p1 _ h' (Rds.ext HO5.out (by repeat (first | exact Ext.refl _ | apply Ext.alloc | apply Ext.drewN | apply Ext.drew | apply Ext.set0 | apply Ext.set1 | apply Ext.set2 | apply Ext.set3 | (refine Ext.setk ?_ (by omega) _) | (apply Ext.snoc; assumption))))).mono ?_; rintro e w8 ⟨rfl, hb8⟩))
          exact ⟨_, rfl, rfl, (by repeat (first | exact Ext.refl _ | apply Ext.alloc | apply Ext.drewN | apply Ext.drew | apply Ext.set0 | apply Ext.set1 | apply Ext.set2 | apply Ext.set3 | (refine Ext.setk ?_ (by omega) _) | (apply Ext.snoc; assumption)))⟩
        · intro hp
          have s30 := hp 5 (by rfl)
          change a.tmps.getD 30 undef = _ at s30
          simp at s30
          clear hp
          refine wpOp_of_list rfl rfl ?_
          go_wp2_with (first | (go_at_call 22; refine (toNode_any _ _ _).mono ?_; rintro e w8 ⟨rfl, hb8⟩) | (go_at_call 14; refine (toSheet_any _ _ _).mono ?_; rintro e w8 ⟨rfl, hb8⟩) | (go_at_call 23; refine (IsClear_any W H l _ _ a0 a1 p0 p1 _ h' (Rds.ext HO5.out (by repeat (first | exact Ext.refl _ | apply Ext.alloc | apply Ext.drewN | apply Ext.drew | apply Ext.set0 | apply Ext.set1 | apply Ext.set2 | apply Ext.set3 | (refine Ext.setk ?_ (by omega) _) | (apply Ext.snoc; assumption))))).mono ?_; rintro e w8 ⟨rfl, hb8⟩))
          exact ⟨_, rfl, rfl, (by repeat (first | exact Ext.refl _ | apply Ext.alloc | apply Ext.drewN | apply Ext.drew | apply Ext.set0 | apply Ext.set1 | apply Ext.set2 | apply Ext.set3 | (refine Ext.setk ?_ (by omega) _) | (apply Ext.snoc; assumption)))⟩
      case R7fin =>
        intro X w6 hb6 hp
        obtain ⟨⟨⟨⟨⟨⟨⟨_, h0⟩, h1⟩, h2⟩, h3⟩, h4⟩, h5⟩, h6⟩ := hp
        change X 0 = _ at h0
        change X 1 = _ at h1
        change X 2 = _ at h2
        change X 3 = _ at h3
        change X 4 = _ at h4
        change X 5 = _ at h5
        change X 6 = _ at h6
        simp only [List.drop_succ_cons, List.drop_nil]
        refine wpList_nil ?_
        go_simp
        obtain ⟨hc6, hf6, _⟩ := hb6.facts; have hs6 := hb6.size; (try simp only [World.size_alloc] at hs6); have hz6_0 : w.heap.size < w6.heap.size := (by omega); have hz6_1 : w.heap.size + 1 < w6.heap.size := (by omega); have hz6_2 : w.heap.size + 1 + 1 < w6.heap.size := (by omega)
        have z6_4 : w4.heap.size < w6.heap.size := by omega
        have HO6 := hide (Rds.ext HO5.out hb6)
        go_wp2_with fail
        apply wp_region_RL 5 39 (by kernel_rfl) (by kernel_rfl) (by kernel_rfl) (by kernel_rfl) (by kernel_rfl) (by kernel_rfl) rfl [fun v _ => v = _, fun v _ => v = _, fun v w' => ∃ g, v = .agg #[.int .i64 W, .int .i64 H, .slice (some ⟨g, 0, none⟩) l.length l.length] ∧ R2 w' (some ⟨g, 0, none⟩) l, fun v _ => v = _, fun v _ => v = _] rfl ⟨stab_eq _, stab_eq _, stab_R2 (fun g => .agg #[.int .i64 W, .int .i64 H, .slice (some ⟨g, 0, none⟩) l.length l.length]) l, stab_eq _, stab_eq _, trivial⟩ ?R10hop ?R10fin
        case R10hop =>
          intro a w' hE hA
          have hc := hE.facts.1
          have hz := hE.facts.2.2
          refine ⟨⟨⟨⟨⟨trivial, ?_⟩, ?_⟩, ?_⟩, ?_⟩, ?_⟩
          · intro hp
            have s9 := hA 9 (by rfl)
            simp [sl] at s9
            clear hp
            refine wpOp_of_list rfl rfl ?_
            go_wp2_with (first | (go_at_call 18; refine (toFlawed_any W H l A c _ h' (Rds.ext HR.out (by repeat (first | exact Ext.refl _ | apply Ext.alloc | apply Ext.drewN | apply Ext.drew | apply Ext.set0 | apply Ext.set1 | apply Ext.set2 | apply Ext.set3 | (refine Ext.setk ?_ (by omega) _) | (apply Ext.snoc; assumption))))).mono ?_; rintro e w8 ⟨g8, rfl, hr8, hb8⟩) | (go_at_call 20; refine (eqFlawed_any W H l _ _ _ _ _ h' (Rds.ext HO6.out (by repeat (first | exact Ext.refl _ | apply Ext.alloc | apply Ext.drewN | apply Ext.drew | apply Ext.set0 | apply Ext.set1 | apply Ext.set2 | apply Ext.set3 | (refine Ext.setk ?_ (by omega) _) | (apply Ext.snoc; assumption)))) hg).mono ?_; rintro e w8 ⟨rfl, hb8⟩))
            exact ⟨_, rfl, rfl, (by repeat (first | exact Ext.refl _ | apply Ext.alloc | apply Ext.drewN | apply Ext.drew | apply Ext.set0 | apply Ext.set1 | apply Ext.set2 | apply Ext.set3 | (refine Ext.setk ?_ (by omega) _) | (apply Ext.snoc; assumption)))⟩
          · intro hp
            have s3 := hA 3 (by rfl)
            simp [sl] at s3
            clear hp
            refine wpOp_of_list rfl rfl ?_
            go_wp2_with (first | (go_at_call 18; refine (toFlawed_any W H l A c _ h' (Rds.ext HR.out (by repeat (first | exact Ext.refl _ | apply Ext.alloc | apply Ext.drewN | apply Ext.drew | apply Ext.set0 | apply Ext.set1 | apply Ext.set2 | apply Ext.set3 | (refine Ext.setk ?_ (by omega) _) | (apply Ext.snoc; assumption))))).mono ?_; rintro e w8 ⟨g8, rfl, hr8, hb8⟩) | (go_at_call 20; refine (eqFlawed_any W H l _ _ _ _ _ h' (Rds.ext HO6.out (by repeat (first | exact Ext.refl _ | apply Ext.alloc | apply Ext.drewN | apply Ext.drew | apply Ext.set0 | apply Ext.set1 | apply Ext.set2 | apply Ext.set3 | (refine Ext.setk ?_ (by omega) _) | (apply Ext.snoc; assumption)))) hg).mono ?_; rintro e w8 ⟨rfl, hb8⟩))
            exact ⟨_, rfl, rfl, (by repeat (first | exact Ext.refl _ | apply Ext.alloc | apply Ext.drewN | apply Ext.drew | apply Ext.set0 | apply Ext.set1 | apply Ext.set2 | apply Ext.set3 | (refine Ext.setk ?_ (by omega) _) | (apply Ext.snoc; assumption)))⟩
          · intro hp
            have s35 := hp 1 (by rfl)
            change a.tmps.getD 35 undef = _ at s35
            simp at s35
            clear hp
            refine wpOp_of_list rfl rfl ?_
            go_wp2_with (first | (go_at_call 18; refine (toFlawed_any W H l A c _ h' (Rds.ext HR.out (by repeat (first | exact Ext.refl _ | apply Ext.alloc | apply Ext.drewN | apply Ext.drew | apply Ext.set0 | apply Ext.set1 | apply Ext.set2 | apply Ext.set3 | (refine Ext.setk ?_ (by omega) _) | (apply Ext.snoc; assumption))))).mono ?_; rintro e w8 ⟨g8, rfl, hr8, hb8⟩) | (go_at_call 20; refine (eqFlawed_any W H l _ _ _ _ _ h' (Rds.ext HO6.out (by repeat (first | exact Ext.refl _ | apply Ext.alloc | apply Ext.drewN | apply Ext.drew | apply Ext.set0 | apply Ext.set1 | apply Ext.set2 | apply Ext.set3 | (refine Ext.setk ?_ (by omega) _) | (apply Ext.snoc; assumption)))) hg).mono ?_; rintro e w8 ⟨rfl, hb8⟩))
            exact ⟨_, rfl, ⟨g8, rfl, hr8⟩, (by repeat (first | exact Ext.refl _ | apply Ext.alloc | apply Ext.drewN | apply Ext.drew | apply Ext.set0 | apply Ext.set1 | apply Ext.set2 | apply Ext.set3 | (refine Ext.setk ?_ (by omega) _) | (apply Ext.snoc; assumption)))⟩
          · intro hp
            have s34 := hp 0 (by rfl)
            change a.tmps.getD 34 undef = _ at s34
            simp at s34
            have s36 := hp 2 (by rfl)
            obtain ⟨g, s36, hg⟩ := s36
            change a.tmps.getD 36 undef = _ at s36
            simp at s36
            clear hp
            refine wpOp_of_list rfl rfl ?_
            go_wp2_with (first | (go_at_call 18; refine (toFlawed_any W H l A c _ h' (Rds.ext HR.out (by repeat (first | exact Ext.refl _ | apply Ext.alloc | apply Ext.drewN | apply Ext.drew | apply Ext.set0 | apply Ext.set1 | apply Ext.set2 | apply Ext.set3 | (refine Ext.setk ?_ (by omega) _) | (apply Ext.snoc; assumption))))).mono ?_; rintro e w8 ⟨g8, rfl, hr8, hb8⟩) | (go_at_call 20; refine (eqFlawed_any W H l _ _ _ _ _ h' (Rds.ext HO6.out (by repeat (first | exact Ext.refl _ | apply Ext.alloc | apply Ext.drewN | apply Ext.drew | apply Ext.set0 | apply Ext.set1 | apply Ext.set2 | apply Ext.set3 | (refine Ext.setk ?_ (by omega) _) | (apply Ext.snoc; assumption)))) hg).mono ?_; rintro e w8 ⟨rfl, hb8⟩))
            exact ⟨_, rfl, rfl, (by repeat (first | exact Ext.refl _ | apply Ext.alloc | apply Ext.drewN | apply Ext.drew | apply Ext.set0 | apply Ext.set1 | apply Ext.set2 | apply Ext.set3 | (refine Ext.setk ?_ (by omega) _) | (apply Ext.snoc; assumption)))⟩
          · intro hp
            have s37 := hp 3 (by rfl)
            change a.tmps.getD 37 undef = _ at s37
            simp at s37
            clear hp
            refine wpOp_of_list rfl rfl ?_
            go_wp2_with (first | (go_at_call 18; refine (toFlawed_any W H l A c _ h' (Rds.ext HR.out (by repeat (first | exact Ext.refl _ | apply Ext.alloc | apply Ext.drewN | apply Ext.drew | apply Ext.set0 | apply Ext.set1 | apply Ext.set2 | apply Ext.set3 | (refine Ext.setk ?_ (by omega) _) | (apply Ext.snoc; assumption))))).mono ?_; rintro e w8 ⟨g8, rfl, hr8, hb8⟩) | (go_at_call 20; refine (eqFlawed_any W H l _ _ _ _ _ h' (Rds.ext HO6.out (by repeat (first | exact Ext.refl _ | apply Ext.alloc | apply Ext.drewN | apply Ext.drew | apply Ext.set0 | apply Ext.set1 | apply Ext.set2 | apply Ext.set3 | (refine Ext.setk ?_ (by omega) _) | (apply Ext.snoc; assumption)))) hg).mono ?_; rintro e w8 ⟨rfl, hb8⟩))
            exact ⟨_, rfl, rfl, (by repeat (first | exact Ext.refl _ | apply Ext.alloc | apply Ext.drewN | apply Ext.drew | apply Ext.set0 | apply Ext.set1 | apply Ext.set2 | apply Ext.set3 | (refine Ext.setk ?_ (by omega) _) | (apply Ext.snoc; assumption)))⟩
        case R10fin =>
          intro X w7 hb7 hp
          obtain ⟨⟨⟨⟨⟨_, h0⟩, h1⟩, h2⟩, h3⟩, h4⟩ := hp
          change X 0 = _ at h0
          change X 1 = _ at h1
          obtain ⟨g, h2, hg⟩ := h2
          change X 2 = _ at h2
          change X 3 = _ at h3
          change X 4 = _ at h4
          simp only [List.drop_succ_cons, List.drop_nil]
          refine wpList_nil ?_
          go_simp
          go_wp2_with fail
          go_ret
          exact ⟨rfl, by repeat (first | exact Ext.refl _ | apply Ext.alloc | apply Ext.drewN | apply Ext.drew | apply Ext.set0 | apply Ext.set1 | apply Ext.set2 | apply Ext.set3 | (refine Ext.setk ?_ (by omega) _) | (apply Ext.snoc; assumption))⟩

end Go.Proofs.Ytjibcmmnohjhkaa
