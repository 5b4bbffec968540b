/- The walk of the law on the largest clear rectangle. No condition. -/
import Derived.Test.YtjibcmmnohjhkaaFlawH
import Derived.Test.YtjibcmmnohjhkaaFlawW
namespace Go.Proofs.Ytjibcmmnohjhkaa
open Go.RowKit
set_option maxHeartbeats 2000000 in
theorem FnExactLargestClear_walk (W H : Int) (l : List P2) (A : Option Addr) (c : Nat) (w : World) (hl : l.length ≤ maxLen) (hr : R2 w A l) :
    Calls Try.prog 8 #[.agg #[.int .i64 W, .int .i64 H, .slice A l.length c]] w fun e w' => e = .returned (.bool true) ∧ Ext w w' := by
  have HR := hide hr
  clear hr
  by_cases h : (1048576 : Int) < l.length
  · have hs : szR l.length 1048576 = -1 := by unfold szR; rw [if_pos h]
    go_enter Try.func8, Try.ntmps8
    go_wp2_with fail
    refine (szFlawed_any W H l A c 1048576 _ hl (by omega) (by omega)).mono ?_; rintro e w1 ⟨rfl, hb1⟩; obtain ⟨hc1, hf1, _⟩ := hb1.facts; have hs1 := hb1.size; (try simp only [World.size_alloc] at hs1); have hz1_0 : w.heap.size < w1.heap.size := (by omega)
    rw [hs]
    go_wp2_with fail
    go_ret
    exact ⟨rfl, by repeat (first | exact kE | exact Ext.refl _ | apply Ext.alloc | apply Ext.drewN | apply Ext.drew | apply Ext.set0 | apply Ext.set1 | apply Ext.set2 | apply Ext.set3 | (refine Ext.setk ?_ (by omega) _) | (apply Ext.snoc; assumption))⟩
  · have hs : szR l.length 1048576 = 1048576 - l.length := by unfold szR; rw [if_neg h]
    have h' : l.length ≤ 1048576 := by omega
    obtain ⟨v, hv⟩ := LC.ex W H l
    have HV := hide hv
    clear hv
    
    go_enter Try.func8, Try.ntmps8
    go_wp2_with fail
    obtain ⟨w0, hw⟩ : ∃ w1, w1 = (w.alloc (Obj.cells #[Value.int IntKind.i64 W, Value.int IntKind.i64 H, Value.slice A l.length c] 30)) := ⟨_, rfl⟩; rw [← hw]; have kT : Tr [(w.heap.size, [.int .i64 W, .int .i64 H, .slice A l.length c])] w w0 := (by rw [hw]; exact ⟨by (first | (simp [Bx, CellsAt, go_sem, *]; done) | (simp [Bx, CellsAt, go_sem, *]; omega)), by (repeat (first | exact kE | exact Ext.refl _ | apply Ext.alloc | apply Ext.drewN | apply Ext.drew | apply Ext.set0 | apply Ext.set1 | apply Ext.set2 | apply Ext.set3 | (refine Ext.setk ?_ (by omega) _) | (apply Ext.snoc; assumption)))⟩); have HT := hide kT; clear hw kT; have kT := HT.out; simp only [Tr, Bx, CellsAt, Nat.reduceAdd, Nat.zero_add, and_true] at kT; obtain ⟨⟨kz0, kf0, kc0_0, kc0_1, kc0_2⟩, kE⟩ := kT
    refine (szFlawed_any W H l A c 1048576 _ hl (by omega) (by omega)).mono ?_; rintro e w1 ⟨rfl, hb⟩; have HT := hide (HT.out.ext hb); have Hw1 := hide hb; clear hb; clear kz0 kf0 kc0_0 kc0_1 kc0_2 kE; have kT := HT.out; simp only [Tr, Bx, CellsAt, Nat.reduceAdd, Nat.zero_add, and_true] at kT; obtain ⟨⟨kz0, kf0, kc0_0, kc0_1, kc0_2⟩, kE⟩ := kT
    rw [hs]
    clear hs
    go_wp2_with fail
    refine (toFlawed_any W H l A c _ h' (HR.out.ext kE)).mono ?_; rintro e w2 ⟨g2, rfl, hr2, hb⟩; have HT := hide (HT.out.ext hb); have Hw2 := hide hb; clear hb; clear kz0 kf0 kc0_0 kc0_1 kc0_2 kE; have kT := HT.out; simp only [Tr, Bx, CellsAt, Nat.reduceAdd, Nat.zero_add, and_true] at kT; obtain ⟨⟨kz0, kf0, kc0_0, kc0_1, kc0_2⟩, kE⟩ := kT
    have HO2 := hide hr2; clear hr2
    go_wp2_with fail
    refine (sLargestClear_any W H l _ _ v _ h' HO2.out HV.out).mono ?_; rintro e w3 ⟨rfl, hb⟩; have HT := hide (HT.out.ext hb); have Hw3 := hide hb; clear hb; clear kz0 kf0 kc0_0 kc0_1 kc0_2 kE; have kT := HT.out; simp only [Tr, Bx, CellsAt, Nat.reduceAdd, Nat.zero_add, and_true] at kT; obtain ⟨⟨kz0, kf0, kc0_0, kc0_1, kc0_2⟩, kE⟩ := kT
    go_wp2_with fail
    refine (toFlawed_any W H l A c _ h' (HR.out.ext kE)).mono ?_; rintro e w4 ⟨g4, rfl, hr4, hb⟩; have HT := hide (HT.out.ext hb); have Hw4 := hide hb; clear hb; clear kz0 kf0 kc0_0 kc0_1 kc0_2 kE; have kT := HT.out; simp only [Tr, Bx, CellsAt, Nat.reduceAdd, Nat.zero_add, and_true] at kT; obtain ⟨⟨kz0, kf0, kc0_0, kc0_1, kc0_2⟩, kE⟩ := kT
    have HO4 := hide hr4; clear hr4
    go_wp2_with fail
    obtain ⟨w5, hw⟩ : ∃ w1, w1 = w4.alloc (Obj.cells #[Value.int IntKind.i64 W, Value.int IntKind.i64 H, Value.slice (some { block := g4, off := 0 }) l.length l.length] 35) := ⟨_, rfl⟩; rw [← hw]; have Hw5 := hide (show Ext w4 w5 from (by (rw [hw]; (try clear kE); repeat (first | exact kE | exact Ext.refl _ | apply Ext.alloc | apply Ext.drewN | apply Ext.drew | apply Ext.set0 | apply Ext.set1 | apply Ext.set2 | apply Ext.set3 | (refine Ext.setk ?_ (by omega) _) | (apply Ext.snoc; assumption))))); have HT := hide (HT.out.more Hw5.out (w4.heap.size) [.int .i64 W, .int .i64 H, .slice (some ⟨g4, 0, none⟩) l.length l.length] (by (rw [hw]; first | (simp [CellsAt, go_sem, *]; done) | (simp [CellsAt, go_sem, *]; omega)))); clear hw kz0 kf0 kc0_0 kc0_1 kc0_2 kE; have kT := HT.out; simp only [Tr, Bx, CellsAt, Nat.reduceAdd, Nat.zero_add, and_true] at kT; obtain ⟨⟨⟨kz0, kf0, kc0_0, kc0_1, kc0_2⟩, ⟨kz1, kf1, kc1_0, kc1_1, kc1_2⟩⟩, kE⟩ := kT
    have HO5 := hide (Rds.ext HO4.out Hw5.out)
    refine (LargestClear_any W H l _ _ v _ h' HO5.out HV.out).mono ?_; rintro e w7 ⟨rfl, hb⟩; have HT := hide (HT.out.ext hb); have Hw7 := hide hb; clear hb; clear kz0 kf0 kc0_0 kc0_1 kc0_2 kz1 kf1 kc1_0 kc1_1 kc1_2 kE; have kT := HT.out; simp only [Tr, Bx, CellsAt, Nat.reduceAdd, Nat.zero_add, and_true] at kT; obtain ⟨⟨⟨kz0, kf0, kc0_0, kc0_1, kc0_2⟩, ⟨kz1, kf1, kc1_0, kc1_1, kc1_2⟩⟩, kE⟩ := kT
    have HO7 := hide (Rds.ext HO5.out Hw7.out)
    go_wp2_with fail
    apply wp_region_RL 5 27 (by kernel_rfl) (by kernel_rfl) (by kernel_rfl) (by kernel_rfl) (by kernel_rfl) (by kernel_rfl) rfl [fun v _ => v = _, fun v _ => v = _, fun v w' => ∃ g, v = .agg #[.int .i64 W, .int .i64 H, .slice (some ⟨g, 0, none⟩) l.length l.length] ∧ R2 w' (some ⟨g, 0, none⟩) l, fun v _ => v = _, fun v _ => v = _] rfl ⟨stab_eq _, stab_eq _, stab_R2 (fun g => .agg #[.int .i64 W, .int .i64 H, .slice (some ⟨g, 0, none⟩) l.length l.length]) l, stab_eq _, stab_eq _, trivial⟩ ?R10hop ?R10fin
    case R10hop =>
      intro a w' hE hA
      have hc := hE.facts.1
      have hz := hE.facts.2.2
      refine ⟨⟨⟨⟨⟨trivial, ?_⟩, ?_⟩, ?_⟩, ?_⟩, ?_⟩
      · intro hp
        have s5 := hA 5 (by rfl)
        simp [sl] at s5
        clear hp
        refine wpOp_of_list rfl rfl ?_
        go_wp2_with (first | (go_at_call 18; refine (toFlawed_any W H l A c _ h' (HR.out.ext (kE.trans (by repeat (first | exact kE | exact Ext.refl _ | apply Ext.alloc | apply Ext.drewN | apply Ext.drew | apply Ext.set0 | apply Ext.set1 | apply Ext.set2 | apply Ext.set3 | (refine Ext.setk ?_ (by omega) _) | (apply Ext.snoc; assumption)))))).mono ?_; rintro e w8 ⟨g8, rfl, hr8, hb8⟩) | (go_at_call 20; refine (eqFlawed_any W H l _ _ _ _ _ h' (Rds.ext HO7.out (by repeat (first | exact kE | exact Ext.refl _ | apply Ext.alloc | apply Ext.drewN | apply Ext.drew | apply Ext.set0 | apply Ext.set1 | apply Ext.set2 | apply Ext.set3 | (refine Ext.setk ?_ (by omega) _) | (apply Ext.snoc; assumption)))) hg).mono ?_; rintro e w8 ⟨rfl, hb8⟩))
        exact ⟨_, rfl, rfl, (by repeat (first | exact kE | exact Ext.refl _ | apply Ext.alloc | apply Ext.drewN | apply Ext.drew | apply Ext.set0 | apply Ext.set1 | apply Ext.set2 | apply Ext.set3 | (refine Ext.setk ?_ (by omega) _) | (apply Ext.snoc; assumption)))⟩
      · intro hp
        have s1 := hA 1 (by rfl)
        simp [sl] at s1
        clear hp
        refine wpOp_of_list rfl rfl ?_
        go_wp2_with (first | (go_at_call 18; refine (toFlawed_any W H l A c _ h' (HR.out.ext (kE.trans (by repeat (first | exact kE | exact Ext.refl _ | apply Ext.alloc | apply Ext.drewN | apply Ext.drew | apply Ext.set0 | apply Ext.set1 | apply Ext.set2 | apply Ext.set3 | (refine Ext.setk ?_ (by omega) _) | (apply Ext.snoc; assumption)))))).mono ?_; rintro e w8 ⟨g8, rfl, hr8, hb8⟩) | (go_at_call 20; refine (eqFlawed_any W H l _ _ _ _ _ h' (Rds.ext HO7.out (by repeat (first | exact kE | exact Ext.refl _ | apply Ext.alloc | apply Ext.drewN | apply Ext.drew | apply Ext.set0 | apply Ext.set1 | apply Ext.set2 | apply Ext.set3 | (refine Ext.setk ?_ (by omega) _) | (apply Ext.snoc; assumption)))) hg).mono ?_; rintro e w8 ⟨rfl, hb8⟩))
        exact ⟨_, rfl, rfl, (by repeat (first | exact kE | exact Ext.refl _ | apply Ext.alloc | apply Ext.drewN | apply Ext.drew | apply Ext.set0 | apply Ext.set1 | apply Ext.set2 | apply Ext.set3 | (refine Ext.setk ?_ (by omega) _) | (apply Ext.snoc; assumption)))⟩
      · intro hp
        have s23 := hp 1 (by rfl)
        change a.tmps.getD 23 undef = _ at s23
        simp at s23
        clear hp
        refine wpOp_of_list rfl rfl ?_
        go_wp2_with (first | (go_at_call 18; refine (toFlawed_any W H l A c _ h' (HR.out.ext (kE.trans (by repeat (first | exact kE | exact Ext.refl _ | apply Ext.alloc | apply Ext.drewN | apply Ext.drew | apply Ext.set0 | apply Ext.set1 | apply Ext.set2 | apply Ext.set3 | (refine Ext.setk ?_ (by omega) _) | (apply Ext.snoc; assumption)))))).mono ?_; rintro e w8 ⟨g8, rfl, hr8, hb8⟩) | (go_at_call 20; refine (eqFlawed_any W H l _ _ _ _ _ h' (Rds.ext HO7.out (by repeat (first | exact kE | exact Ext.refl _ | apply Ext.alloc | apply Ext.drewN | apply Ext.drew | apply Ext.set0 | apply Ext.set1 | apply Ext.set2 | apply Ext.set3 | (refine Ext.setk ?_ (by omega) _) | (apply Ext.snoc; assumption)))) hg).mono ?_; rintro e w8 ⟨rfl, hb8⟩))
        exact ⟨_, rfl, ⟨g8, rfl, hr8⟩, (by repeat (first | exact kE | exact Ext.refl _ | apply Ext.alloc | apply Ext.drewN | apply Ext.drew | apply Ext.set0 | apply Ext.set1 | apply Ext.set2 | apply Ext.set3 | (refine Ext.setk ?_ (by omega) _) | (apply Ext.snoc; assumption)))⟩
      · intro hp
        have s22 := hp 0 (by rfl)
        change a.tmps.getD 22 undef = _ at s22
        simp at s22
        have s24 := hp 2 (by rfl)
        obtain ⟨gs, s24, hg⟩ := s24
        change a.tmps.getD 24 undef = _ at s24
        simp at s24
        clear hp
        refine wpOp_of_list rfl rfl ?_
        go_wp2_with (first | (go_at_call 18; refine (toFlawed_any W H l A c _ h' (HR.out.ext (kE.trans (by repeat (first | exact kE | exact Ext.refl _ | apply Ext.alloc | apply Ext.drewN | apply Ext.drew | apply Ext.set0 | apply Ext.set1 | apply Ext.set2 | apply Ext.set3 | (refine Ext.setk ?_ (by omega) _) | (apply Ext.snoc; assumption)))))).mono ?_; rintro e w8 ⟨g8, rfl, hr8, hb8⟩) | (go_at_call 20; refine (eqFlawed_any W H l _ _ _ _ _ h' (Rds.ext HO7.out (by repeat (first | exact kE | exact Ext.refl _ | apply Ext.alloc | apply Ext.drewN | apply Ext.drew | apply Ext.set0 | apply Ext.set1 | apply Ext.set2 | apply Ext.set3 | (refine Ext.setk ?_ (by omega) _) | (apply Ext.snoc; assumption)))) hg).mono ?_; rintro e w8 ⟨rfl, hb8⟩))
        exact ⟨_, rfl, rfl, (by repeat (first | exact kE | exact Ext.refl _ | apply Ext.alloc | apply Ext.drewN | apply Ext.drew | apply Ext.set0 | apply Ext.set1 | apply Ext.set2 | apply Ext.set3 | (refine Ext.setk ?_ (by omega) _) | (apply Ext.snoc; assumption)))⟩
      · intro hp
        have s25 := hp 3 (by rfl)
        change a.tmps.getD 25 undef = _ at s25
        simp at s25
        clear hp
        refine wpOp_of_list rfl rfl ?_
        go_wp2_with (first | (go_at_call 18; refine (toFlawed_any W H l A c _ h' (HR.out.ext (kE.trans (by repeat (first | exact kE | exact Ext.refl _ | apply Ext.alloc | apply Ext.drewN | apply Ext.drew | apply Ext.set0 | apply Ext.set1 | apply Ext.set2 | apply Ext.set3 | (refine Ext.setk ?_ (by omega) _) | (apply Ext.snoc; assumption)))))).mono ?_; rintro e w8 ⟨g8, rfl, hr8, hb8⟩) | (go_at_call 20; refine (eqFlawed_any W H l _ _ _ _ _ h' (Rds.ext HO7.out (by repeat (first | exact kE | exact Ext.refl _ | apply Ext.alloc | apply Ext.drewN | apply Ext.drew | apply Ext.set0 | apply Ext.set1 | apply Ext.set2 | apply Ext.set3 | (refine Ext.setk ?_ (by omega) _) | (apply Ext.snoc; assumption)))) hg).mono ?_; rintro e w8 ⟨rfl, hb8⟩))
        exact ⟨_, rfl, rfl, (by repeat (first | exact kE | exact Ext.refl _ | apply Ext.alloc | apply Ext.drewN | apply Ext.drew | apply Ext.set0 | apply Ext.set1 | apply Ext.set2 | apply Ext.set3 | (refine Ext.setk ?_ (by omega) _) | (apply Ext.snoc; assumption)))⟩
    case R10fin =>
      intro X w9 hE hp
      obtain ⟨⟨⟨⟨⟨_, h0⟩, h1⟩, h2⟩, h3⟩, h4⟩ := hp
      change X 0 = _ at h0
      change X 1 = _ at h1
      obtain ⟨gs, h2, hg⟩ := h2
      change X 2 = _ at h2
      change X 3 = _ at h3
      change X 4 = _ at h4
      simp only [List.drop_succ_cons, List.drop_nil]
      refine wpList_nil ?_
      go_simp
      go_wp2_with fail
      go_ret
      exact ⟨rfl, by repeat (first | exact kE | exact Ext.refl _ | apply Ext.alloc | apply Ext.drewN | apply Ext.drew | apply Ext.set0 | apply Ext.set1 | apply Ext.set2 | apply Ext.set3 | (refine Ext.setk ?_ (by omega) _) | (apply Ext.snoc; assumption))⟩
end Go.Proofs.Ytjibcmmnohjhkaa
