/- Walks of the laws on stains. No condition. -/
import Derived.Test.YtdoikenjdaeeiaaStain
import Derived.Test.YtdoikenjdaeeiaaReg
namespace Go.Proofs.Ytdoikenjdaeeiaa
open Go.RowKit
set_option maxHeartbeats 1000000 in
theorem FnExactLayStains_walk (x0 x1 x2 x3 x4 x5 : Int) (w : World) : Calls Try.prog 13 #[.agg #[.int .i64 x0, .int .i64 x1, .int .i64 x2], .agg #[.int .i64 x3, .int .i64 x4, .int .i64 x5]] w fun e w' => e = .returned (.bool true) ∧ Ext w w' := by
  go_enter Try.func13, Try.ntmps13
  go_wp2_with fail
  obtain ⟨w0, hw0⟩ : ∃ w0, w0 = ((w.alloc (Obj.cells #[Value.int IntKind.i64 x0, Value.int IntKind.i64 x1, Value.int IntKind.i64 x2] 41)).alloc (Obj.cells #[Value.int IntKind.i64 x3, Value.int IntKind.i64 x4, Value.int IntKind.i64 x5] 41)) := ⟨_, rfl⟩
  rw [← hw0]
  have hE0 : Ext w w0 := by rw [hw0]; repeat (first | exact Ext.refl _ | apply Ext.alloc | apply Ext.drewN | apply Ext.drew | apply Ext.set0 | apply Ext.set1 | apply Ext.set2 | apply Ext.set3 | (refine Ext.setk ?_ (by omega) _) | (apply Ext.snoc; assumption))
  have cc : w0.cell? ⟨w.heap.size, 0, none⟩ = some (.int .i64 x0) ∧ w0.cell? ⟨w.heap.size, 1, none⟩ = some (.int .i64 x1) ∧ w0.cell? ⟨w.heap.size, 2, none⟩ = some (.int .i64 x2) ∧ w0.cell? ⟨w.heap.size + 1, 0, none⟩ = some (.int .i64 x3) ∧ w0.cell? ⟨w.heap.size + 1, 1, none⟩ = some (.int .i64 x4) ∧ w0.cell? ⟨w.heap.size + 1, 2, none⟩ = some (.int .i64 x5) := by rw [hw0]; simp [go_sem]
  obtain ⟨c0, c1, c2, c3, c4, c5⟩ := cc
  have zz : w.heap.size + 1 + 1 ≤ w0.heap.size := by rw [hw0]; simp
  clear hw0
  have z0 : w.heap.size < w0.heap.size := by omega
  have z1 : w.heap.size + 1 < w0.heap.size := by omega
  refine wp_region_VL [fun v _ => v = .agg #[.int .i64 x0, .int .i64 x1, .int .i64 x2], fun v _ => v = .agg #[.int .i64 x0, .int .i64 x1, .int .i64 x2], fun v _ => v = .agg #[.int .i64 x3, .int .i64 x4, .int .i64 x5], fun v _ => v = .agg #[.int .i64 x3, .int .i64 x4, .int .i64 x5], fun v _ => v = .agg #[.int .i64 (layS x0 x1 x2 x3 x4 x5).1, .int .i64 (layS x0 x1 x2 x3 x4 x5).2.1, .int .i64 (layS x0 x1 x2 x3 x4 x5).2.2], fun v w' => ∃ g, v = .pointer (some ⟨g, 0, none⟩) ∧ w0.heap.size ≤ g ∧ g < w'.heap.size ∧ w'.heap[g]? = some (.cells #[.int .i64 0, .int .i64 0, .int .i64 0] 43 (0, 0))]
    (by kernel_rfl) (by kernel_rfl) (by kernel_rfl) (by kernel_rfl) (by kernel_rfl) ⟨stab_eq _, stab_eq _, stab_eq _, stab_eq _, stab_eq _, stab_new _ _ _, trivial⟩ ?_ ?_
  · intro X w' hE
    have hc := hE.facts.1
    refine ⟨⟨⟨⟨⟨⟨trivial, ?_⟩, ?_⟩, ?_⟩, ?_⟩, ?_⟩, ?_⟩
    · intro hp
      refine wpOp_of_list rfl rfl ?_
      go_wp2_with fail
      (try go_simp)
      exact regpost rfl rfl (by simp only [List.setIfInBounds_toArray, List.set_cons_zero, List.set_cons_succ]) (Ext.refl _)
    · intro hp
      have h0 := hp 0 (by kernel_rfl)
      change X 0 = _ at h0
      refine wpOp_of_list rfl rfl ?_
      go_wp2_with (go_at_call 25; refine (toStain_any _ _ _ _).mono ?_; rintro e w1 ⟨rfl, hb1⟩; obtain ⟨hc1, hf1, _⟩ := hb1.facts; have hs1 := hb1.size; (try simp only [World.size_alloc] at hs1))
      (try go_simp)
      exact regpost rfl rfl (by simp only [List.setIfInBounds_toArray, List.set_cons_zero, List.set_cons_succ]) hb1
    · intro hp
      refine wpOp_of_list rfl rfl ?_
      go_wp2_with fail
      (try go_simp)
      exact regpost rfl rfl (by simp only [List.setIfInBounds_toArray, List.set_cons_zero, List.set_cons_succ]) (Ext.refl _)
    · intro hp
      have h2 := hp 2 (by kernel_rfl)
      change X 2 = _ at h2
      refine wpOp_of_list rfl rfl ?_
      go_wp2_with (go_at_call 25; refine (toStain_any _ _ _ _).mono ?_; rintro e w1 ⟨rfl, hb1⟩; obtain ⟨hc1, hf1, _⟩ := hb1.facts; have hs1 := hb1.size; (try simp only [World.size_alloc] at hs1))
      (try go_simp)
      exact regpost rfl rfl (by simp only [List.setIfInBounds_toArray, List.set_cons_zero, List.set_cons_succ]) hb1
    · intro hp
      have h1 := hp 1 (by kernel_rfl)
      change X 1 = _ at h1
      have h3 := hp 3 (by kernel_rfl)
      change X 3 = _ at h3
      refine wpOp_of_list rfl rfl ?_
      go_wp2_with (go_at_call 42; refine (sLayStains_any _ _ _ _ _ _ _).mono ?_; rintro e w1 ⟨rfl, hb1⟩; obtain ⟨hc1, hf1, _⟩ := hb1.facts; have hs1 := hb1.size; (try simp only [World.size_alloc] at hs1))
      (try go_simp)
      exact regpost rfl rfl (by simp only [List.setIfInBounds_toArray, List.set_cons_zero, List.set_cons_succ]) hb1
    · intro hp
      refine wpOp_of_list rfl rfl ?_
      go_wp2_with fail
      (try go_simp)
      exact regpost rfl (new_block _ _ _ _ hE.size) (by simp only [List.setIfInBounds_toArray, List.set_cons_zero, List.set_cons_succ]) ((Ext.refl _).alloc _)
  · intro X w' hE hp
    obtain ⟨⟨⟨⟨⟨⟨_, h0⟩, h1⟩, h2⟩, h3⟩, h4⟩, h5⟩ := hp
    change X 0 = _ at h0
    change X 1 = _ at h1
    change X 2 = _ at h2
    change X 3 = _ at h3
    change X 4 = _ at h4
    obtain ⟨g, h5, hg1, hg2, hg3⟩ := h5
    change X 5 = _ at h5
    simp only [List.length_cons, List.length_nil, Nat.reduceAdd, List.drop_succ_cons, List.drop_zero]
    obtain ⟨hgc, hgf⟩ := block_cell hg3
    go_wp2_with fail
    obtain ⟨w1, hw1, hEw1, hBw1, hsw1⟩ := set3 hg3 hE hg1 (.int .i64 (layS x0 x1 x2 x3 x4 x5).1) (.int .i64 (layS x0 x1 x2 x3 x4 x5).2.1) (.int .i64 (layS x0 x1 x2 x3 x4 x5).2.2)
    rw [← hw1]
    clear hw1 hgc hgf
    have f1 := hEw1.facts
    have d0 : w1.cell? ⟨w.heap.size, 0, none⟩ = some (.int .i64 x0) := (f1.1 _ _ z0).trans c0
    have d1 : w1.cell? ⟨w.heap.size, 1, none⟩ = some (.int .i64 x1) := (f1.1 _ _ z0).trans c1
    have d2 : w1.cell? ⟨w.heap.size, 2, none⟩ = some (.int .i64 x2) := (f1.1 _ _ z0).trans c2
    have d3 : w1.cell? ⟨w.heap.size + 1, 0, none⟩ = some (.int .i64 x3) := (f1.1 _ _ z1).trans c3
    have d4 : w1.cell? ⟨w.heap.size + 1, 1, none⟩ = some (.int .i64 x4) := (f1.1 _ _ z1).trans c4
    have d5 : w1.cell? ⟨w.heap.size + 1, 2, none⟩ = some (.int .i64 x5) := (f1.1 _ _ z1).trans c5
    have y0 : w.heap.size < w1.heap.size := f1.2.2 _ z0
    have y1 : w.heap.size + 1 < w1.heap.size := f1.2.2 _ z1
    have hlw1 : g < w1.heap.size := by omega
    clear hsw1
    clear f1 hg3 h0 h1 h2 h3 h4 h5 c0 c1 c2 c3 c4 c5
    refine wp_region_VL [fun v _ => v = .agg #[.int .i64 x0, .int .i64 x1, .int .i64 x2], fun v _ => v = .agg #[.int .i64 x0, .int .i64 x1, .int .i64 x2], fun v _ => v = .agg #[.int .i64 x3, .int .i64 x4, .int .i64 x5], fun v _ => v = .agg #[.int .i64 x3, .int .i64 x4, .int .i64 x5], fun v _ => v = .agg #[.int .i64 (layS x0 x1 x2 x3 x4 x5).1, .int .i64 (layS x0 x1 x2 x3 x4 x5).2.1, .int .i64 (layS x0 x1 x2 x3 x4 x5).2.2], fun v w' => ∃ g, v = .pointer (some ⟨g, 0, none⟩) ∧ w1.heap.size ≤ g ∧ g < w'.heap.size ∧ w'.heap[g]? = some (.cells #[.int .i64 0, .int .i64 0, .int .i64 0] 43 (0, 0))]
      (by kernel_rfl) (by kernel_rfl) (by kernel_rfl) (by kernel_rfl) (by kernel_rfl) ⟨stab_eq _, stab_eq _, stab_eq _, stab_eq _, stab_eq _, stab_new _ _ _, trivial⟩ ?_ ?_
    · intro X w' hE
      have hc := hE.facts.1
      refine ⟨⟨⟨⟨⟨⟨trivial, ?_⟩, ?_⟩, ?_⟩, ?_⟩, ?_⟩, ?_⟩
      · intro hp
        refine wpOp_of_list rfl rfl ?_
        go_wp2_with fail
        (try go_simp)
        exact regpost rfl rfl (by simp only [List.setIfInBounds_toArray, List.set_cons_zero, List.set_cons_succ]) (Ext.refl _)
      · intro hp
        have h0 := hp 0 (by kernel_rfl)
        change X 0 = _ at h0
        refine wpOp_of_list rfl rfl ?_
        go_wp2_with (go_at_call 25; refine (toStain_any _ _ _ _).mono ?_; rintro e w1 ⟨rfl, hb1⟩; obtain ⟨hc1, hf1, _⟩ := hb1.facts; have hs1 := hb1.size; (try simp only [World.size_alloc] at hs1))
        (try go_simp)
        exact regpost rfl rfl (by simp only [List.setIfInBounds_toArray, List.set_cons_zero, List.set_cons_succ]) hb1
      · intro hp
        refine wpOp_of_list rfl rfl ?_
        go_wp2_with fail
        (try go_simp)
        exact regpost rfl rfl (by simp only [List.setIfInBounds_toArray, List.set_cons_zero, List.set_cons_succ]) (Ext.refl _)
      · intro hp
        have h2 := hp 2 (by kernel_rfl)
        change X 2 = _ at h2
        refine wpOp_of_list rfl rfl ?_
        go_wp2_with (go_at_call 25; refine (toStain_any _ _ _ _).mono ?_; rintro e w1 ⟨rfl, hb1⟩; obtain ⟨hc1, hf1, _⟩ := hb1.facts; have hs1 := hb1.size; (try simp only [World.size_alloc] at hs1))
        (try go_simp)
        exact regpost rfl rfl (by simp only [List.setIfInBounds_toArray, List.set_cons_zero, List.set_cons_succ]) hb1
      · intro hp
        have h1 := hp 1 (by kernel_rfl)
        change X 1 = _ at h1
        have h3 := hp 3 (by kernel_rfl)
        change X 3 = _ at h3
        refine wpOp_of_list rfl rfl ?_
        go_wp2_with (go_at_call 43; refine (LayStains_any _ _ _ _ _ _ _).mono ?_; rintro e w1 ⟨rfl, hb1⟩; obtain ⟨hc1, hf1, _⟩ := hb1.facts; have hs1 := hb1.size; (try simp only [World.size_alloc] at hs1))
        (try go_simp)
        exact regpost rfl rfl (by simp only [List.setIfInBounds_toArray, List.set_cons_zero, List.set_cons_succ]) hb1
      · intro hp
        refine wpOp_of_list rfl rfl ?_
        go_wp2_with fail
        (try go_simp)
        exact regpost rfl (new_block _ _ _ _ hE.size) (by simp only [List.setIfInBounds_toArray, List.set_cons_zero, List.set_cons_succ]) ((Ext.refl _).alloc _)
    · intro X w' hE hp
      obtain ⟨⟨⟨⟨⟨⟨_, h0⟩, h1⟩, h2⟩, h3⟩, h4⟩, h5⟩ := hp
      change X 0 = _ at h0
      change X 1 = _ at h1
      change X 2 = _ at h2
      change X 3 = _ at h3
      change X 4 = _ at h4
      obtain ⟨k, h5, hg1, hg2, hg3⟩ := h5
      change X 5 = _ at h5
      simp only [List.length_cons, List.length_nil, Nat.reduceAdd, List.drop_succ_cons, List.drop_zero]
      obtain ⟨hgc, hgf⟩ := block_cell hg3
      obtain ⟨q1, _⟩ := block_cell ((hE.block g hlw1).trans hBw1)
      have n0 : w.heap.size ≤ k := by have := hE0.size; have := hEw1.size; omega
      have n1 : g ≠ k := by omega
      have n2 : k ≠ g := by omega
      go_wp2_with (first | (go_at_call 44; refine (eqStain_any _ _ _ _ _ _ _).mono ?_; rintro e w3 ⟨rfl, hb3⟩; obtain ⟨hc3, hf3, _⟩ := hb3.facts; have hs3 := hb3.size; (try simp only [World.size_alloc] at hs3)))
      go_ret
      exact ⟨rfl, by repeat (first | exact Ext.refl _ | apply Ext.alloc | apply Ext.drewN | apply Ext.drew | apply Ext.set0 | apply Ext.set1 | apply Ext.set2 | apply Ext.set3 | (refine Ext.setk ?_ (by omega) _) | (apply Ext.snoc; assumption))⟩
end Go.Proofs.Ytdoikenjdaeeiaa
