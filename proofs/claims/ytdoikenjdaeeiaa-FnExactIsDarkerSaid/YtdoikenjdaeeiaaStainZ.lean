/- The walk of the law on comparing stains. No condition. -/
import Derived.Test.YtdoikenjdaeeiaaStain
namespace Go.Proofs.Ytdoikenjdaeeiaa
open Go.RowKit
theorem FnExactIsDarker_walk (x0 : Int) (x1 : Int) (x2 : Int) (x3 : Int) (x4 : Int) (x5 : Int) (w : World) : Calls Try.prog 10 #[.agg #[.int .i64 x0, .int .i64 x1, .int .i64 x2], .agg #[.int .i64 x3, .int .i64 x4, .int .i64 x5]] w fun e w' => e = .returned (.bool true) ∧ Ext w w' := by
  go_enter Try.func10, Try.ntmps10
  go_wp2_with fail
  obtain ⟨w0, hw0⟩ : ∃ w0, w0 = ((w.alloc (Obj.cells #[Value.int IntKind.i64 x0, Value.int IntKind.i64 x1, Value.int IntKind.i64 x2] 41)).alloc (Obj.cells #[Value.int IntKind.i64 x3, Value.int IntKind.i64 x4, Value.int IntKind.i64 x5] 41)) := ⟨_, rfl⟩
  rw [← hw0]
  have hE0 : Ext w w0 := by rw [hw0]; repeat (first | exact Ext.refl _ | apply Ext.alloc | apply Ext.drewN | apply Ext.drew | apply Ext.set0 | apply Ext.set1 | apply Ext.set2 | apply Ext.set3 | (refine Ext.setk ?_ (by omega) _) | (apply Ext.snoc; assumption))
  have c : w0.cell? ⟨w.heap.size, 0, none⟩ = some (.int .i64 x0) ∧ w0.cell? ⟨w.heap.size, 1, none⟩ = some (.int .i64 x1) ∧ w0.cell? ⟨w.heap.size, 2, none⟩ = some (.int .i64 x2) ∧ w0.cell? ⟨w.heap.size + 1, 0, none⟩ = some (.int .i64 x3) ∧ w0.cell? ⟨w.heap.size + 1, 1, none⟩ = some (.int .i64 x4) ∧ w0.cell? ⟨w.heap.size + 1, 2, none⟩ = some (.int .i64 x5) := by rw [hw0]; simp [go_sem]
  obtain ⟨c0, c1, c2, c3, c4, c5⟩ := c
  have z : w.heap.size + 1 + 1 ≤ w0.heap.size := by rw [hw0]; simp
  clear hw0
  have z0 : w.heap.size < w0.heap.size := by omega
  have z1 : w.heap.size + 1 < w0.heap.size := by omega
  go_region_held3 (fun w' => (∀ (q o : Nat), q < w0.heap.size → w'.cell? ⟨q, o, none⟩ = w0.cell? ⟨q, o, none⟩) ∧ Ext w0 w') ((apply ExtS; repeat (first | exact Ext.refl _ | apply Ext.alloc | apply Ext.drewN | apply Ext.drew | apply Ext.set0 | apply Ext.set1 | apply Ext.set2 | apply Ext.set3 | (refine Ext.setk ?_ (by omega) _) | (apply Ext.snoc; assumption)))) ((first | (go_at_call 25; refine (toStain_any _ _ _ _).mono ?_; rintro e w1 ⟨rfl, hb1⟩)  |  (go_at_call 33; refine (sIsDarker_any _ _ _ _ _ _ _).mono ?_; rintro e w2 ⟨rfl, hb2⟩)))
  have hE2 : Ext w0 w2 := by repeat (first | exact Ext.refl _ | apply Ext.alloc | apply Ext.drewN | apply Ext.drew | apply Ext.set0 | apply Ext.set1 | apply Ext.set2 | apply Ext.set3 | (refine Ext.setk ?_ (by omega) _) | (apply Ext.snoc; assumption))
  have f2 := hE2.facts
  have y0 : w.heap.size < w2.heap.size := f2.2.2 _ z0
  have y1 : w.heap.size + 1 < w2.heap.size := f2.2.2 _ z1
  have hc2 := f2.1
  clear f2
  go_wp2_with fail
  go_region_held3 (fun w' => (∀ (q o : Nat), q < w2.heap.size → w'.cell? ⟨q, o, none⟩ = w2.cell? ⟨q, o, none⟩) ∧ Ext w2 w') ((apply ExtS; repeat (first | exact Ext.refl _ | apply Ext.alloc | apply Ext.drewN | apply Ext.drew | apply Ext.set0 | apply Ext.set1 | apply Ext.set2 | apply Ext.set3 | (refine Ext.setk ?_ (by omega) _) | (apply Ext.snoc; assumption)))) ((first | (go_at_call 25; refine (toStain_any _ _ _ _).mono ?_; rintro e w1 ⟨rfl, hb1⟩)  |  (go_at_call 34; refine (IsDarker_any _ _ _ _ _ _ _).mono ?_; rintro e w3 ⟨rfl, hb3⟩)))
  go_wp2_with fail
  go_ret
  exact ⟨rfl, by repeat (first | exact Ext.refl _ | apply Ext.alloc | apply Ext.drewN | apply Ext.drew | apply Ext.set0 | apply Ext.set1 | apply Ext.set2 | apply Ext.set3 | (refine Ext.setk ?_ (by omega) _) | (apply Ext.snoc; assumption))⟩
end Go.Proofs.Ytdoikenjdaeeiaa
