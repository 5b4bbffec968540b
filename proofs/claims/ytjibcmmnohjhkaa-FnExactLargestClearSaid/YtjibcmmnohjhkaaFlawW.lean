/- Walks of the laws on flaws. No condition. -/
import Derived.Test.YtjibcmmnohjhkaaFlawE
namespace Go.Proofs.Ytjibcmmnohjhkaa
open Go.RowKit

theorem stab_R2 (f : Nat → Value) (l : List P2) : Stab (fun v w => ∃ g, v = f g ∧ R2 w (some ⟨g, 0, none⟩) l) := by
  rintro v w w' ⟨g, h1, h2⟩ hE
  exact ⟨g, h1, h2.ext hE⟩
theorem eqSheet_any (a b : Int) (w : World) : Calls Try.prog 53 #[.agg #[.int .i64 a, .int .i64 b], .agg #[.int .i64 a, .int .i64 b]] w fun e w' => e = .returned (.bool true) ∧ Ext w w' := by
  go_enter Try.func53, Try.ntmps53
  go_wp2
  all_goals (go_ret; exact ⟨rfl, by repeat (first | exact kE | exact Ext.refl _ | apply Ext.alloc | apply Ext.drewN | apply Ext.drew | apply Ext.set0 | apply Ext.set1 | apply Ext.set2 | apply Ext.set3 | (refine Ext.setk ?_ (by omega) _) | (apply Ext.snoc; assumption))⟩)
theorem szFlawed_any (W H : Int) (l : List P2) (A : Option Addr) (c : Nat) (left : Int) (w : World) (hl : l.length ≤ maxLen) (h0 : 0 ≤ left) (h1 : left ≤ 1048576) :
    Calls Try.prog 16 #[.agg #[.int .i64 W, .int .i64 H, .slice A l.length c], .int .i64 left] w fun e w' => e = .returned (.int .i64 (szR l.length left)) ∧ Ext w w' := by
  by_cases h : left < l.length
  · have hs : szR l.length left = -1 := by simp [szR, h]
    go_enter Try.func16, Try.ntmps16
    go_wp2_with (go_at_call 48; refine (szNodeS_any l A c left _ hl h0 h1).mono ?_; rintro e wq ⟨rfl, rfl⟩; rw [hs])
    go_ret
    exact ⟨ret_int (by rw [hs]), by repeat (first | exact kE | exact Ext.refl _ | apply Ext.alloc | apply Ext.drewN | apply Ext.drew | apply Ext.set0 | apply Ext.set1 | apply Ext.set2 | apply Ext.set3 | (refine Ext.setk ?_ (by omega) _) | (apply Ext.snoc; assumption))⟩
  · have hs : szR l.length left = left - l.length := by unfold szR; rw [if_neg (by omega)]
    go_enter Try.func16, Try.ntmps16
    go_wp2_with (go_at_call 48; refine (szNodeS_any l A c left _ hl h0 h1).mono ?_; rintro e wq ⟨rfl, rfl⟩; rw [hs])
    go_ret
    exact ⟨ret_int (by rw [hs]), by repeat (first | exact kE | exact Ext.refl _ | apply Ext.alloc | apply Ext.drewN | apply Ext.drew | apply Ext.set0 | apply Ext.set1 | apply Ext.set2 | apply Ext.set3 | (refine Ext.setk ?_ (by omega) _) | (apply Ext.snoc; assumption))⟩
theorem eqFlawed_any (W H : Int) (l : List P2) (A B : Option Addr) (c d : Nat) (w : World) (hl : l.length ≤ 1048576) (hr : R2 w A l) (hr' : R2 w B l) :
    Calls Try.prog 20 #[.agg #[.int .i64 W, .int .i64 H, .slice A l.length c], .agg #[.int .i64 W, .int .i64 H, .slice B l.length d]] w fun e w' => e = .returned (.bool true) ∧ Ext w w' := by
  have HR := hide hr
  have HR' := hide hr'
  clear hr hr'
  go_enter Try.func20, Try.ntmps20
  go_wp2_with (first | (go_at_call 53; refine (eqSheet_any _ _ _).mono ?_; rintro e w1 ⟨rfl, hb1⟩; obtain ⟨hc1, hf1, _⟩ := hb1.facts; have hs1 := hb1.size; (try simp only [World.size_alloc] at hs1); have hz1_0 : w.heap.size < w1.heap.size := (by omega); have hz1_1 : w.heap.size + 1 < w1.heap.size := (by omega)))
  refine (eqNodeS_any l l A B c d _ hl hl (Rds.ext HR.out (by repeat (first | exact kE | exact Ext.refl _ | apply Ext.alloc | apply Ext.drewN | apply Ext.drew | apply Ext.set0 | apply Ext.set1 | apply Ext.set2 | apply Ext.set3 | (refine Ext.setk ?_ (by omega) _) | (apply Ext.snoc; assumption)))) (Rds.ext HR'.out (by repeat (first | exact kE | exact Ext.refl _ | apply Ext.alloc | apply Ext.drewN | apply Ext.drew | apply Ext.set0 | apply Ext.set1 | apply Ext.set2 | apply Ext.set3 | (refine Ext.setk ?_ (by omega) _) | (apply Ext.snoc; assumption))))).mono ?_
  rintro e w2 ⟨rfl, hb2⟩
  simp only [decide_true]
  go_wp2_with fail
  go_ret
  exact ⟨rfl, by repeat (first | exact kE | exact Ext.refl _ | apply Ext.alloc | apply Ext.drewN | apply Ext.drew | apply Ext.set0 | apply Ext.set1 | apply Ext.set2 | apply Ext.set3 | (refine Ext.setk ?_ (by omega) _) | (apply Ext.snoc; assumption))⟩
theorem FnExactFlawedOk_walk (W H : Int) (l : List P2) (A : Option Addr) (c : Nat) (w : World) (hl : l.length ≤ maxLen) (hr : R2 w A l) :
    Calls Try.prog 4 #[.agg #[.int .i64 W, .int .i64 H, .slice A l.length c]] w fun e w' => e = .returned (.bool true) ∧ Ext w w' := by
  have HR := hide hr
  clear hr
  by_cases h : (1048576 : Int) < l.length
  · have hs : szR l.length 1048576 = -1 := by unfold szR; rw [if_pos h]
    go_enter Try.func4, Try.ntmps4
    go_wp2_with fail
    refine (szFlawed_any W H l A c 1048576 _ hl (by omega) (by omega)).mono ?_; rintro e w1 ⟨rfl, hb1⟩; obtain ⟨hc1, hf1, _⟩ := hb1.facts; have hs1 := hb1.size; (try simp only [World.size_alloc] at hs1); have hz1_0 : w.heap.size < w1.heap.size := (by omega)
    rw [hs]
    go_wp2_with fail
    go_ret
    exact ⟨rfl, by repeat (first | exact kE | exact Ext.refl _ | apply Ext.alloc | apply Ext.drewN | apply Ext.drew | apply Ext.set0 | apply Ext.set1 | apply Ext.set2 | apply Ext.set3 | (refine Ext.setk ?_ (by omega) _) | (apply Ext.snoc; assumption))⟩
  · have hs : szR l.length 1048576 = 1048576 - l.length := by unfold szR; rw [if_neg h]
    have h' : l.length ≤ 1048576 := by omega
    go_enter Try.func4, Try.ntmps4
    go_wp2_with fail
    refine (szFlawed_any W H l A c 1048576 _ hl (by omega) (by omega)).mono ?_; rintro e w1 ⟨rfl, hb1⟩; obtain ⟨hc1, hf1, _⟩ := hb1.facts; have hs1 := hb1.size; (try simp only [World.size_alloc] at hs1); have hz1_0 : w.heap.size < w1.heap.size := (by omega)
    rw [hs]
    go_wp2_with fail
    refine (toFlawed_any W H l A c _ h' (Rds.ext HR.out (by repeat (first | exact kE | exact Ext.refl _ | apply Ext.alloc | apply Ext.drewN | apply Ext.drew | apply Ext.set0 | apply Ext.set1 | apply Ext.set2 | apply Ext.set3 | (refine Ext.setk ?_ (by omega) _) | (apply Ext.snoc; assumption))))).mono ?_; rintro e w2 ⟨g2, rfl, hr2, hb2⟩; obtain ⟨hc2, hf2, _⟩ := hb2.facts; have hs2 := hb2.size; (try simp only [World.size_alloc] at hs2); have hz2_0 : w.heap.size < w2.heap.size := (by omega)
    go_wp2_with fail
    refine (sFlawedOk_any W H l _ _ _ h' hr2).mono ?_; rintro e w3 ⟨rfl, hb3⟩; obtain ⟨hc3, hf3, _⟩ := hb3.facts; have hs3 := hb3.size; (try simp only [World.size_alloc] at hs3); have hz3_0 : w.heap.size < w3.heap.size := (by omega)
    go_wp2_with fail
    clear hr2
    refine (toFlawed_any W H l A c _ h' (Rds.ext HR.out (by repeat (first | exact kE | exact Ext.refl _ | apply Ext.alloc | apply Ext.drewN | apply Ext.drew | apply Ext.set0 | apply Ext.set1 | apply Ext.set2 | apply Ext.set3 | (refine Ext.setk ?_ (by omega) _) | (apply Ext.snoc; assumption))))).mono ?_; rintro e w4 ⟨g4, rfl, hr4, hb4⟩; obtain ⟨hc4, hf4, _⟩ := hb4.facts; have hs4 := hb4.size; (try simp only [World.size_alloc] at hs4); have hz4_0 : w.heap.size < w4.heap.size := (by omega)
    have HO4 := hide hr4; clear hr4
    go_wp2_with fail
    refine (FlawedOk_any W H l _ _ _ h' (Rds.ext HO4.out (by repeat (first | exact kE | exact Ext.refl _ | apply Ext.alloc | apply Ext.drewN | apply Ext.drew | apply Ext.set0 | apply Ext.set1 | apply Ext.set2 | apply Ext.set3 | (refine Ext.setk ?_ (by omega) _) | (apply Ext.snoc; assumption))))).mono ?_; rintro e w5 ⟨rfl, hb5⟩; obtain ⟨hc5, hf5, _⟩ := hb5.facts; have hs5 := hb5.size; (try simp only [World.size_alloc] at hs5); have hz5_0 : w.heap.size < w5.heap.size := (by omega)
    have hz5_4 : w4.heap.size < w5.heap.size := by omega
    have HO5 := hide (Rds.ext HO4.out (show Ext w4 w5 by repeat (first | exact kE | exact Ext.refl _ | apply Ext.alloc | apply Ext.drewN | apply Ext.drew | apply Ext.set0 | apply Ext.set1 | apply Ext.set2 | apply Ext.set3 | (refine Ext.setk ?_ (by omega) _) | (apply Ext.snoc; assumption))))
    go_wp2_with fail
    apply wp_region_RL 5 27 (by kernel_rfl) (by kernel_rfl) (by kernel_rfl) (by kernel_rfl) (by kernel_rfl) (by kernel_rfl) rfl [fun v _ => v = _, fun v _ => v = _, fun v w' => ∃ g, v = .agg #[.int .i64 W, .int .i64 H, .slice (some ⟨g, 0, none⟩) l.length l.length] ∧ R2 w' (some ⟨g, 0, none⟩) l, fun v _ => v = _, fun v _ => v = _] rfl ⟨stab_eq _, stab_eq _, stab_R2 (fun g => .agg #[.int .i64 W, .int .i64 H, .slice (some ⟨g, 0, none⟩) l.length l.length]) l, stab_eq _, stab_eq _, trivial⟩ ?Xhop ?Xfin
    case Xhop =>
      intro a w' hE hA
      have hc := hE.facts.1
      have hz := hE.facts.2.2
      refine ⟨⟨⟨⟨⟨trivial, ?_⟩, ?_⟩, ?_⟩, ?_⟩, ?_⟩
      · intro hp
        have s5 := hA 5 (by rfl)
        simp [sl] at s5
        clear hp
        refine wpOp_of_list rfl rfl ?_
        go_wp2_with (first | (go_at_call 18; refine (toFlawed_any W H l A c _ h' (Rds.ext HR.out (by repeat (first | exact kE | exact Ext.refl _ | apply Ext.alloc | apply Ext.drewN | apply Ext.drew | apply Ext.set0 | apply Ext.set1 | apply Ext.set2 | apply Ext.set3 | (refine Ext.setk ?_ (by omega) _) | (apply Ext.snoc; assumption))))).mono ?_; rintro e w8 ⟨g8, rfl, hr8, hb8⟩) | (go_at_call 20; refine (eqFlawed_any W H l _ _ _ _ _ h' (Rds.ext HO5.out (by repeat (first | exact kE | exact Ext.refl _ | apply Ext.alloc | apply Ext.drewN | apply Ext.drew | apply Ext.set0 | apply Ext.set1 | apply Ext.set2 | apply Ext.set3 | (refine Ext.setk ?_ (by omega) _) | (apply Ext.snoc; assumption)))) hg).mono ?_; rintro e w8 ⟨rfl, hb8⟩))
        exact ⟨_, rfl, rfl, (by repeat (first | exact kE | exact Ext.refl _ | apply Ext.alloc | apply Ext.drewN | apply Ext.drew | apply Ext.set0 | apply Ext.set1 | apply Ext.set2 | apply Ext.set3 | (refine Ext.setk ?_ (by omega) _) | (apply Ext.snoc; assumption)))⟩
      · intro hp
        have s1 := hA 1 (by rfl)
        simp [sl] at s1
        clear hp
        refine wpOp_of_list rfl rfl ?_
        go_wp2_with (first | (go_at_call 18; refine (toFlawed_any W H l A c _ h' (Rds.ext HR.out (by repeat (first | exact kE | exact Ext.refl _ | apply Ext.alloc | apply Ext.drewN | apply Ext.drew | apply Ext.set0 | apply Ext.set1 | apply Ext.set2 | apply Ext.set3 | (refine Ext.setk ?_ (by omega) _) | (apply Ext.snoc; assumption))))).mono ?_; rintro e w8 ⟨g8, rfl, hr8, hb8⟩) | (go_at_call 20; refine (eqFlawed_any W H l _ _ _ _ _ h' (Rds.ext HO5.out (by repeat (first | exact kE | exact Ext.refl _ | apply Ext.alloc | apply Ext.drewN | apply Ext.drew | apply Ext.set0 | apply Ext.set1 | apply Ext.set2 | apply Ext.set3 | (refine Ext.setk ?_ (by omega) _) | (apply Ext.snoc; assumption)))) hg).mono ?_; rintro e w8 ⟨rfl, hb8⟩))
        exact ⟨_, rfl, rfl, (by repeat (first | exact kE | exact Ext.refl _ | apply Ext.alloc | apply Ext.drewN | apply Ext.drew | apply Ext.set0 | apply Ext.set1 | apply Ext.set2 | apply Ext.set3 | (refine Ext.setk ?_ (by omega) _) | (apply Ext.snoc; assumption)))⟩
      · intro hp
        have s23 := hp 1 (by rfl)
        change a.tmps.getD 23 undef = _ at s23
        simp at s23
        clear hp
        refine wpOp_of_list rfl rfl ?_
        go_wp2_with (first | (go_at_call 18; refine (toFlawed_any W H l A c _ h' (Rds.ext HR.out (by repeat (first | exact kE | exact Ext.refl _ | apply Ext.alloc | apply Ext.drewN | apply Ext.drew | apply Ext.set0 | apply Ext.set1 | apply Ext.set2 | apply Ext.set3 | (refine Ext.setk ?_ (by omega) _) | (apply Ext.snoc; assumption))))).mono ?_; rintro e w8 ⟨g8, rfl, hr8, hb8⟩) | (go_at_call 20; refine (eqFlawed_any W H l _ _ _ _ _ h' (Rds.ext HO5.out (by repeat (first | exact kE | exact Ext.refl _ | apply Ext.alloc | apply Ext.drewN | apply Ext.drew | apply Ext.set0 | apply Ext.set1 | apply Ext.set2 | apply Ext.set3 | (refine Ext.setk ?_ (by omega) _) | (apply Ext.snoc; assumption)))) hg).mono ?_; rintro e w8 ⟨rfl, hb8⟩))
        exact ⟨_, rfl, ⟨g8, rfl, hr8⟩, (by repeat (first | exact kE | exact Ext.refl _ | apply Ext.alloc | apply Ext.drewN | apply Ext.drew | apply Ext.set0 | apply Ext.set1 | apply Ext.set2 | apply Ext.set3 | (refine Ext.setk ?_ (by omega) _) | (apply Ext.snoc; assumption)))⟩
      · intro hp
        have s22 := hp 0 (by rfl)
        change a.tmps.getD 22 undef = _ at s22
        simp at s22
        have s24 := hp 2 (by rfl)
        obtain ⟨g, s24, hg⟩ := s24
        change a.tmps.getD 24 undef = _ at s24
        simp at s24
        clear hp
        refine wpOp_of_list rfl rfl ?_
        go_wp2_with (first | (go_at_call 18; refine (toFlawed_any W H l A c _ h' (Rds.ext HR.out (by repeat (first | exact kE | exact Ext.refl _ | apply Ext.alloc | apply Ext.drewN | apply Ext.drew | apply Ext.set0 | apply Ext.set1 | apply Ext.set2 | apply Ext.set3 | (refine Ext.setk ?_ (by omega) _) | (apply Ext.snoc; assumption))))).mono ?_; rintro e w8 ⟨g8, rfl, hr8, hb8⟩) | (go_at_call 20; refine (eqFlawed_any W H l _ _ _ _ _ h' (Rds.ext HO5.out (by repeat (first | exact kE | exact Ext.refl _ | apply Ext.alloc | apply Ext.drewN | apply Ext.drew | apply Ext.set0 | apply Ext.set1 | apply Ext.set2 | apply Ext.set3 | (refine Ext.setk ?_ (by omega) _) | (apply Ext.snoc; assumption)))) hg).mono ?_; rintro e w8 ⟨rfl, hb8⟩))
        exact ⟨_, rfl, rfl, (by repeat (first | exact kE | exact Ext.refl _ | apply Ext.alloc | apply Ext.drewN | apply Ext.drew | apply Ext.set0 | apply Ext.set1 | apply Ext.set2 | apply Ext.set3 | (refine Ext.setk ?_ (by omega) _) | (apply Ext.snoc; assumption)))⟩
      · intro hp
        have s25 := hp 3 (by rfl)
        change a.tmps.getD 25 undef = _ at s25
        simp at s25
        clear hp
        refine wpOp_of_list rfl rfl ?_
        go_wp2_with (first | (go_at_call 18; refine (toFlawed_any W H l A c _ h' (Rds.ext HR.out (by repeat (first | exact kE | exact Ext.refl _ | apply Ext.alloc | apply Ext.drewN | apply Ext.drew | apply Ext.set0 | apply Ext.set1 | apply Ext.set2 | apply Ext.set3 | (refine Ext.setk ?_ (by omega) _) | (apply Ext.snoc; assumption))))).mono ?_; rintro e w8 ⟨g8, rfl, hr8, hb8⟩) | (go_at_call 20; refine (eqFlawed_any W H l _ _ _ _ _ h' (Rds.ext HO5.out (by repeat (first | exact kE | exact Ext.refl _ | apply Ext.alloc | apply Ext.drewN | apply Ext.drew | apply Ext.set0 | apply Ext.set1 | apply Ext.set2 | apply Ext.set3 | (refine Ext.setk ?_ (by omega) _) | (apply Ext.snoc; assumption)))) hg).mono ?_; rintro e w8 ⟨rfl, hb8⟩))
        exact ⟨_, rfl, rfl, (by repeat (first | exact kE | exact Ext.refl _ | apply Ext.alloc | apply Ext.drewN | apply Ext.drew | apply Ext.set0 | apply Ext.set1 | apply Ext.set2 | apply Ext.set3 | (refine Ext.setk ?_ (by omega) _) | (apply Ext.snoc; assumption)))⟩
    case Xfin =>
      intro X w' hE hp
      obtain ⟨⟨⟨⟨⟨_, h0⟩, h1⟩, h2⟩, h3⟩, h4⟩ := hp
      change X 0 = _ at h0
      change X 1 = _ at h1
      obtain ⟨g, h2, hg⟩ := h2
      change X 2 = _ at h2
      change X 3 = _ at h3
      change X 4 = _ at h4
      simp only [List.drop_succ_cons, List.drop_nil]
      refine wpList_nil ?_
      go_simp
      go_wp2_with fail
      go_ret
      exact ⟨rfl, by repeat (first | exact kE | exact Ext.refl _ | apply Ext.alloc | apply Ext.drewN | apply Ext.drew | apply Ext.set0 | apply Ext.set1 | apply Ext.set2 | apply Ext.set3 | (refine Ext.setk ?_ (by omega) _) | (apply Ext.snoc; assumption))⟩
end Go.Proofs.Ytjibcmmnohjhkaa
