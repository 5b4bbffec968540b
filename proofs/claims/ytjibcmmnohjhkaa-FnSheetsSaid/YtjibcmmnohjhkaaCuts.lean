/- Walks of the law on the fewest cuts. No condition. -/
import Derived.Test.YtjibcmmnohjhkaaSheet
set_option linter.unusedSimpArgs false
set_option linter.unusedVariables false
namespace Go.Proofs.Ytjibcmmnohjhkaa
open Go.RowKit
def cut1 (a c : Int) : Int := if c = a then 0 else 1
theorem cut1_sym (a c : Int) : cut1 a c = if a = c then 0 else 1 := by
  unfold cut1
  by_cases h : a = c
  · simp [h]
  · rw [if_neg h, if_neg (fun e => h e.symm)]
def cuts (a b c d : Int) : Int := if fits a b c d true then cut1 a c + cut1 b d else -1
theorem FewestCuts_any (a b c d : Int) (w : World) : Calls Try.prog 15 #[.agg #[.int .i64 a, .int .i64 b], .agg #[.int .i64 c, .int .i64 d]] w fun e w' => e = .returned (.int .i64 (cuts a b c d)) ∧ Ext w w' := by
  by_cases hf : fits a b c d true = true
  · go_enter Try.func15, Try.ntmps15
    go_wp2_with (first | (go_at_call 45; refine (FitsSheet_any _ _ _ _ _ _).mono ?_; rintro e w1 ⟨rfl, hb1⟩; obtain ⟨hc1, hf1, _⟩ := hb1.facts; have hs1 := hb1.size; (try simp only [World.size_alloc] at hs1); have hz1_0 : w.heap.size < w1.heap.size := (by omega); have hz1_1 : w.heap.size + 1 < w1.heap.size := (by omega)))
    all_goals
      go_ret
      exact ⟨ret_int (by clear hc1 hf1 hb1; simp_all [cuts, cut1]), by repeat (first | exact kE | exact Ext.refl _ | apply Ext.alloc | apply Ext.drewN | apply Ext.drew | apply Ext.set0 | apply Ext.set1 | apply Ext.set2 | apply Ext.set3 | (refine Ext.setk ?_ (by omega) _) | (apply Ext.snoc; assumption))⟩
  · have hf : fits a b c d true = false := by simpa using hf
    go_enter Try.func15, Try.ntmps15
    go_wp2_with (first | (go_at_call 45; refine (FitsSheet_any _ _ _ _ _ _).mono ?_; rintro e w1 ⟨rfl, hb1⟩; obtain ⟨hc1, hf1, _⟩ := hb1.facts; have hs1 := hb1.size; (try simp only [World.size_alloc] at hs1); have hz1_0 : w.heap.size < w1.heap.size := (by omega); have hz1_1 : w.heap.size + 1 < w1.heap.size := (by omega)))
    go_ret
    exact ⟨ret_int (by simp [cuts, hf]), by repeat (first | exact kE | exact Ext.refl _ | apply Ext.alloc | apply Ext.drewN | apply Ext.drew | apply Ext.set0 | apply Ext.set1 | apply Ext.set2 | apply Ext.set3 | (refine Ext.setk ?_ (by omega) _) | (apply Ext.snoc; assumption))⟩
theorem sFewestCuts_any (a b c d : Int) (w : World) : Calls Try.prog 13 #[.agg #[.int .i64 a, .int .i64 b], .agg #[.int .i64 c, .int .i64 d]] w fun e w' => e = .returned (.int .i64 (cuts a b c d)) ∧ Ext w w' := by
  by_cases hf : fits a b c d true = true
  · go_enter Try.func13, Try.ntmps13
    go_wp2_with (first | (go_at_call 47; refine (sFitsSheet_any _ _ _ _ _ _).mono ?_; rintro e w1 ⟨rfl, hb1⟩; obtain ⟨hc1, hf1, _⟩ := hb1.facts; have hs1 := hb1.size; (try simp only [World.size_alloc] at hs1); have hz1_0 : w.heap.size < w1.heap.size := (by omega); have hz1_1 : w.heap.size + 1 < w1.heap.size := (by omega)))
    all_goals
      go_ret
      exact ⟨ret_int (by clear hc1 hf1 hb1; simp_all [cuts, cut1_sym]), by repeat (first | exact kE | exact Ext.refl _ | apply Ext.alloc | apply Ext.drewN | apply Ext.drew | apply Ext.set0 | apply Ext.set1 | apply Ext.set2 | apply Ext.set3 | (refine Ext.setk ?_ (by omega) _) | (apply Ext.snoc; assumption))⟩
  · have hf : fits a b c d true = false := by simpa using hf
    go_enter Try.func13, Try.ntmps13
    go_wp2_with (first | (go_at_call 47; refine (sFitsSheet_any _ _ _ _ _ _).mono ?_; rintro e w1 ⟨rfl, hb1⟩; obtain ⟨hc1, hf1, _⟩ := hb1.facts; have hs1 := hb1.size; (try simp only [World.size_alloc] at hs1); have hz1_0 : w.heap.size < w1.heap.size := (by omega); have hz1_1 : w.heap.size + 1 < w1.heap.size := (by omega)))
    go_ret
    exact ⟨ret_int (by simp [cuts, hf]), by repeat (first | exact kE | exact Ext.refl _ | apply Ext.alloc | apply Ext.drewN | apply Ext.drew | apply Ext.set0 | apply Ext.set1 | apply Ext.set2 | apply Ext.set3 | (refine Ext.setk ?_ (by omega) _) | (apply Ext.snoc; assumption))⟩
theorem FnExactFewestCuts_walk (x0 : Int) (x1 : Int) (x2 : Int) (x3 : Int) (w : World) : Calls Try.prog 3 #[.agg #[.int .i64 x0, .int .i64 x1], .agg #[.int .i64 x2, .int .i64 x3]] w fun e w' => e = .returned (.bool true) ∧ Ext w w' := by
  go_enter Try.func3, Try.ntmps3
  go_wp2_with fail
  obtain ⟨w0, hw0⟩ : ∃ w0, w0 = ((w.alloc (Obj.cells #[Value.int IntKind.i64 x0, Value.int IntKind.i64 x1] 23)).alloc (Obj.cells #[Value.int IntKind.i64 x2, Value.int IntKind.i64 x3] 23)) := ⟨_, rfl⟩
  rw [← hw0]
  have hE0 : Ext w w0 := by rw [hw0]; repeat (first | exact kE | exact Ext.refl _ | apply Ext.alloc | apply Ext.drewN | apply Ext.drew | apply Ext.set0 | apply Ext.set1 | apply Ext.set2 | apply Ext.set3 | (refine Ext.setk ?_ (by omega) _) | (apply Ext.snoc; assumption))
  have c : w0.cell? ⟨w.heap.size, 0, none⟩ = some (.int .i64 x0) ∧ w0.cell? ⟨w.heap.size, 1, none⟩ = some (.int .i64 x1) ∧ w0.cell? ⟨w.heap.size + 1, 0, none⟩ = some (.int .i64 x2) ∧ w0.cell? ⟨w.heap.size + 1, 1, none⟩ = some (.int .i64 x3) := by rw [hw0]; simp [go_sem]
  obtain ⟨c0, c1, c2, c3⟩ := c
  have z : w.heap.size + 1 + 1 ≤ w0.heap.size := by rw [hw0]; simp
  clear hw0
  have z0 : w.heap.size < w0.heap.size := by omega
  have z1 : w.heap.size + 1 < w0.heap.size := by omega
  go_region_held3 (fun w' => (∀ (q o : Nat), q < w0.heap.size → w'.cell? ⟨q, o, none⟩ = w0.cell? ⟨q, o, none⟩) ∧ Ext w0 w') ((apply ExtS; repeat (first | exact kE | exact Ext.refl _ | apply Ext.alloc | apply Ext.drewN | apply Ext.drew | apply Ext.set0 | apply Ext.set1 | apply Ext.set2 | apply Ext.set3 | (refine Ext.setk ?_ (by omega) _) | (apply Ext.snoc; assumption)))) ((first | (go_at_call 14; refine (toSheet_any _ _ _).mono ?_; rintro e w1 ⟨rfl, hb1⟩)  |  (go_at_call 13; refine (sFewestCuts_any _ _ _ _ _).mono ?_; rintro e w2 ⟨rfl, hb2⟩)))
  have hE2 : Ext w0 w2 := by repeat (first | exact kE | exact Ext.refl _ | apply Ext.alloc | apply Ext.drewN | apply Ext.drew | apply Ext.set0 | apply Ext.set1 | apply Ext.set2 | apply Ext.set3 | (refine Ext.setk ?_ (by omega) _) | (apply Ext.snoc; assumption))
  have f2 := hE2.facts
  have y0 : w.heap.size < w2.heap.size := f2.2.2 _ z0
  have y1 : w.heap.size + 1 < w2.heap.size := f2.2.2 _ z1
  have hc2 := f2.1
  clear f2
  go_wp2_with fail
  go_region_held3 (fun w' => (∀ (q o : Nat), q < w2.heap.size → w'.cell? ⟨q, o, none⟩ = w2.cell? ⟨q, o, none⟩) ∧ Ext w2 w') ((apply ExtS; repeat (first | exact kE | exact Ext.refl _ | apply Ext.alloc | apply Ext.drewN | apply Ext.drew | apply Ext.set0 | apply Ext.set1 | apply Ext.set2 | apply Ext.set3 | (refine Ext.setk ?_ (by omega) _) | (apply Ext.snoc; assumption)))) ((first | (go_at_call 14; refine (toSheet_any _ _ _).mono ?_; rintro e w1 ⟨rfl, hb1⟩)  |  (go_at_call 15; refine (FewestCuts_any _ _ _ _ _).mono ?_; rintro e w3 ⟨rfl, hb3⟩)))
  go_wp2_with fail
  go_ret
  exact ⟨rfl, by repeat (first | exact kE | exact Ext.refl _ | apply Ext.alloc | apply Ext.drewN | apply Ext.drew | apply Ext.set0 | apply Ext.set1 | apply Ext.set2 | apply Ext.set3 | (refine Ext.setk ?_ (by omega) _) | (apply Ext.snoc; assumption))⟩

end Go.Proofs.Ytjibcmmnohjhkaa
