/- Walks of the chapter on sheets: what each function returns, for all arguments. No condition. -/
import Derived.Test.YtdoikenjdaeeiaaBase
namespace Go.Proofs.Ytdoikenjdaeeiaa
open Go.RowKit

def sheetOk (a b : Int) : Bool := inR a 1 40 && inR b 1 40
theorem sheetOk_true {a b : Int} (h : sheetOk a b = true) : 1 ≤ a ∧ a ≤ 40 ∧ 1 ≤ b ∧ b ≤ 40 := by simp [sheetOk, inR] at h; omega
theorem SheetOk_any (a b : Int) (w : World) : Calls Try.prog 17 #[.agg #[.int .i64 a, .int .i64 b]] w fun e w' => e = .returned (.bool (sheetOk a b)) ∧ Ext w w' := by
  go_enter Try.func17, Try.ntmps17
  go_wp2_with (first | (go_at_call 48; refine (within_any _ _ _ _).mono ?_; rintro e w' ⟨rfl, rfl⟩))
  all_goals (go_ret; exact ⟨by simp [sheetOk, *], (Ext.refl _).alloc _⟩)
theorem sSheetOk_any (a b : Int) (w : World) : Calls Try.prog 15 #[.agg #[.int .i64 a, .int .i64 b]] w fun e w' => e = .returned (.bool (sheetOk a b)) ∧ Ext w w' := by
  go_enter Try.func15, Try.ntmps15
  go_wp2_with (first | (go_at_call 47; refine (l01In_any _ _ _ _).mono ?_; rintro e w' ⟨rfl, rfl⟩))
  all_goals (go_ret; exact ⟨by simp [sheetOk, *], (Ext.refl _).alloc _⟩)
theorem toSheet_any (a b : Int) (w : World) : Calls Try.prog 16 #[.agg #[.int .i64 a, .int .i64 b]] w fun e w' => e = .returned (.agg #[.int .i64 a, .int .i64 b]) ∧ Ext w w' := by
  go_enter Try.func16, Try.ntmps16
  go_wp2
  go_returns
  exact ⟨rfl, by repeat (first | exact Ext.refl _ | apply Ext.alloc | apply Ext.drewN | apply Ext.drew | apply Ext.set0 | apply Ext.set1 | apply Ext.set2 | apply Ext.set3 | (apply Ext.snoc; assumption))⟩
theorem FnExactSheetOk_walk (a b : Int) (w : World) : Calls Try.prog 3 #[.agg #[.int .i64 a, .int .i64 b]] w fun e w' => e = .returned (.bool true) ∧ Ext w w' := by
  go_enter Try.func3, Try.ntmps3
  go_wp2_with (first | (go_at_call 16; refine (toSheet_any _ _ _).mono ?_; rintro e w1 ⟨rfl, hb1⟩; obtain ⟨hc1, hf1, _⟩ := hb1.facts; have hs1 := hb1.size; (try simp only [World.size_alloc] at hs1); have hz1_0 : w.heap.size < w1.heap.size := (by omega)) | (go_at_call 15; refine (sSheetOk_any _ _ _).mono ?_; rintro e w2 ⟨rfl, hb2⟩; obtain ⟨hc2, hf2, _⟩ := hb2.facts; have hs2 := hb2.size; (try simp only [World.size_alloc] at hs2); have hz2_0 : w.heap.size < w2.heap.size := (by omega)) | (go_at_call 17; refine (SheetOk_any _ _ _).mono ?_; rintro e w3 ⟨rfl, hb3⟩; obtain ⟨hc3, hf3, _⟩ := hb3.facts; have hs3 := hb3.size; (try simp only [World.size_alloc] at hs3); have hz3_0 : w.heap.size < w3.heap.size := (by omega)))
  go_ret
  exact ⟨rfl, by repeat (first | exact Ext.refl _ | apply Ext.alloc | apply Ext.drewN | apply Ext.drew | apply Ext.set0 | apply Ext.set1 | apply Ext.set2 | apply Ext.set3 | (apply Ext.snoc; assumption))⟩
def fits (a b c d : Int) (g : Bool) : Bool := sheetOk a b && sheetOk c d && (decide (c ≤ a ∧ d ≤ b) || (!g && decide (d ≤ a ∧ c ≤ b)))
theorem FitsSheet_any (a b c d : Int) (g : Bool) (w : World) : Calls Try.prog 30 #[.agg #[.int .i64 a, .int .i64 b], .agg #[.int .i64 c, .int .i64 d], .bool g] w fun e w' => e = .returned (.bool (fits a b c d g)) ∧ Ext w w' := by
  go_enter Try.func30, Try.ntmps30
  go_wp2_with (first | (go_at_call 17; refine (SheetOk_any _ _ _).mono ?_; rintro e w1 ⟨rfl, hb1⟩; obtain ⟨hc1, hf1, _⟩ := hb1.facts; have hs1 := hb1.size; (try simp only [World.size_alloc] at hs1); have hz1_0 : w.heap.size < w1.heap.size := (by omega); have hz1_1 : w.heap.size + 1 < w1.heap.size := (by omega)))
  all_goals (go_ret; exact ⟨(ret_bool (by (try simp only [Bool.not_eq_true', Bool.not_eq_false', Bool.not_eq_true] at *); first | (simp [fits, *]; done) | (simp [fits, *]; omega))), by repeat (first | exact Ext.refl _ | apply Ext.alloc | apply Ext.drewN | apply Ext.drew | apply Ext.set0 | apply Ext.set1 | apply Ext.set2 | apply Ext.set3 | (apply Ext.snoc; assumption))⟩)
theorem sFitsSheet_any (a b c d : Int) (g : Bool) (w : World) : Calls Try.prog 29 #[.agg #[.int .i64 a, .int .i64 b], .agg #[.int .i64 c, .int .i64 d], .bool g] w fun e w' => e = .returned (.bool (fits a b c d g)) ∧ Ext w w' := by
  go_enter Try.func29, Try.ntmps29
  go_wp2_with (first | (go_at_call 15; refine (sSheetOk_any _ _ _).mono ?_; rintro e w1 ⟨rfl, hb1⟩; obtain ⟨hc1, hf1, _⟩ := hb1.facts; have hs1 := hb1.size; (try simp only [World.size_alloc] at hs1); have hz1_0 : w.heap.size < w1.heap.size := (by omega); have hz1_1 : w.heap.size + 1 < w1.heap.size := (by omega)))
  all_goals (go_ret; exact ⟨(ret_bool (by (try simp only [Bool.not_eq_true', Bool.not_eq_false', Bool.not_eq_true] at *); first | (simp [fits, *]; done) | (simp [fits, *]; omega))), by repeat (first | exact Ext.refl _ | apply Ext.alloc | apply Ext.drewN | apply Ext.drew | apply Ext.set0 | apply Ext.set1 | apply Ext.set2 | apply Ext.set3 | (apply Ext.snoc; assumption))⟩)
def most (a b c d : Int) : Int := if sheetOk a b && sheetOk c d then (a / c) * (b / d) else 0
theorem most_bound {a c : Int} (h1 : 0 ≤ a) (h2 : a ≤ 40) (h3 : 1 ≤ c) : 0 ≤ a / c ∧ a / c ≤ 40 :=
  ⟨Int.ediv_nonneg h1 (by omega), Int.le_trans (Int.ediv_le_self _ h1) h2⟩
theorem MostPieces_any (a b c d : Int) (w : World) : Calls Try.prog 32 #[.agg #[.int .i64 a, .int .i64 b], .agg #[.int .i64 c, .int .i64 d]] w fun e w' => e = .returned (.int .i64 (most a b c d)) ∧ Ext w w' := by
  by_cases h1 : sheetOk a b = true
  · by_cases h2 : sheetOk c d = true
    · have B1 := sheetOk_true h1
      have B2 := sheetOk_true h2
      have e1 := most_bound (a := a) (c := c) (by omega) (by omega) (by omega)
      have e2 := most_bound (a := b) (c := d) (by omega) (by omega) (by omega)
      have e3 : 0 ≤ (a / c) * (b / d) := Int.mul_nonneg e1.1 e2.1
      have e4 : (a / c) * (b / d) ≤ 1600 := Int.le_trans (Int.mul_le_mul e1.2 e2.2 e2.1 (by omega)) (by omega)
      have hc0 : (c == 0) = false := by rw [beq_eq_false_iff_ne]; omega
      have hd0 : (d == 0) = false := by rw [beq_eq_false_iff_ne]; omega
      go_enter Try.func32, Try.ntmps32
      go_wp2_with (first | (go_at_call 17; refine (SheetOk_any _ _ _).mono ?_; rintro e w1 ⟨rfl, hb1⟩; obtain ⟨hc1, hf1, _⟩ := hb1.facts; have hs1 := hb1.size; (try simp only [World.size_alloc] at hs1); have hz1_0 : w.heap.size < w1.heap.size := (by omega); have hz1_1 : w.heap.size + 1 < w1.heap.size := (by omega)))
      go_quiet (fail)
      go_wp2
      go_ret
      exact ⟨ret_int (by simp [most, h1, h2]), by repeat (first | exact Ext.refl _ | apply Ext.alloc | apply Ext.drewN | apply Ext.drew | apply Ext.set0 | apply Ext.set1 | apply Ext.set2 | apply Ext.set3 | (apply Ext.snoc; assumption))⟩
    · go_enter Try.func32, Try.ntmps32
      go_wp2_with (first | (go_at_call 17; refine (SheetOk_any _ _ _).mono ?_; rintro e w1 ⟨rfl, hb1⟩; obtain ⟨hc1, hf1, _⟩ := hb1.facts; have hs1 := hb1.size; (try simp only [World.size_alloc] at hs1); have hz1_0 : w.heap.size < w1.heap.size := (by omega); have hz1_1 : w.heap.size + 1 < w1.heap.size := (by omega)))
      go_ret
      exact ⟨ret_int (by simp [most, h2]), by repeat (first | exact Ext.refl _ | apply Ext.alloc | apply Ext.drewN | apply Ext.drew | apply Ext.set0 | apply Ext.set1 | apply Ext.set2 | apply Ext.set3 | (apply Ext.snoc; assumption))⟩
  · go_enter Try.func32, Try.ntmps32
    go_wp2_with (first | (go_at_call 17; refine (SheetOk_any _ _ _).mono ?_; rintro e w1 ⟨rfl, hb1⟩; obtain ⟨hc1, hf1, _⟩ := hb1.facts; have hs1 := hb1.size; (try simp only [World.size_alloc] at hs1); have hz1_0 : w.heap.size < w1.heap.size := (by omega); have hz1_1 : w.heap.size + 1 < w1.heap.size := (by omega)))
    go_ret
    exact ⟨ret_int (by simp [most, h1]), by repeat (first | exact Ext.refl _ | apply Ext.alloc | apply Ext.drewN | apply Ext.drew | apply Ext.set0 | apply Ext.set1 | apply Ext.set2 | apply Ext.set3 | (apply Ext.snoc; assumption))⟩
theorem sMostPieces_any (a b c d : Int) (w : World) : Calls Try.prog 31 #[.agg #[.int .i64 a, .int .i64 b], .agg #[.int .i64 c, .int .i64 d]] w fun e w' => e = .returned (.int .i64 (most a b c d)) ∧ Ext w w' := by
  by_cases h1 : sheetOk a b = true
  · by_cases h2 : sheetOk c d = true
    · have B1 := sheetOk_true h1
      have B2 := sheetOk_true h2
      have e1 := most_bound (a := a) (c := c) (by omega) (by omega) (by omega)
      have e2 := most_bound (a := b) (c := d) (by omega) (by omega) (by omega)
      have e3 : 0 ≤ (a / c) * (b / d) := Int.mul_nonneg e1.1 e2.1
      have e4 : (a / c) * (b / d) ≤ 1600 := Int.le_trans (Int.mul_le_mul e1.2 e2.2 e2.1 (by omega)) (by omega)
      have hc0 : (c == 0) = false := by rw [beq_eq_false_iff_ne]; omega
      have hd0 : (d == 0) = false := by rw [beq_eq_false_iff_ne]; omega
      go_enter Try.func31, Try.ntmps31
      go_wp2_with (first | (go_at_call 15; refine (sSheetOk_any _ _ _).mono ?_; rintro e w1 ⟨rfl, hb1⟩; obtain ⟨hc1, hf1, _⟩ := hb1.facts; have hs1 := hb1.size; (try simp only [World.size_alloc] at hs1); have hz1_0 : w.heap.size < w1.heap.size := (by omega); have hz1_1 : w.heap.size + 1 < w1.heap.size := (by omega)))
      go_quiet (fail)
      go_wp2
      go_ret
      exact ⟨ret_int (by simp [most, h1, h2]), by repeat (first | exact Ext.refl _ | apply Ext.alloc | apply Ext.drewN | apply Ext.drew | apply Ext.set0 | apply Ext.set1 | apply Ext.set2 | apply Ext.set3 | (apply Ext.snoc; assumption))⟩
    · go_enter Try.func31, Try.ntmps31
      go_wp2_with (first | (go_at_call 15; refine (sSheetOk_any _ _ _).mono ?_; rintro e w1 ⟨rfl, hb1⟩; obtain ⟨hc1, hf1, _⟩ := hb1.facts; have hs1 := hb1.size; (try simp only [World.size_alloc] at hs1); have hz1_0 : w.heap.size < w1.heap.size := (by omega); have hz1_1 : w.heap.size + 1 < w1.heap.size := (by omega)))
      go_ret
      exact ⟨ret_int (by simp [most, h2]), by repeat (first | exact Ext.refl _ | apply Ext.alloc | apply Ext.drewN | apply Ext.drew | apply Ext.set0 | apply Ext.set1 | apply Ext.set2 | apply Ext.set3 | (apply Ext.snoc; assumption))⟩
  · go_enter Try.func31, Try.ntmps31
    go_wp2_with (first | (go_at_call 15; refine (sSheetOk_any _ _ _).mono ?_; rintro e w1 ⟨rfl, hb1⟩; obtain ⟨hc1, hf1, _⟩ := hb1.facts; have hs1 := hb1.size; (try simp only [World.size_alloc] at hs1); have hz1_0 : w.heap.size < w1.heap.size := (by omega); have hz1_1 : w.heap.size + 1 < w1.heap.size := (by omega)))
    go_ret
    exact ⟨ret_int (by simp [most, h1]), by repeat (first | exact Ext.refl _ | apply Ext.alloc | apply Ext.drewN | apply Ext.drew | apply Ext.set0 | apply Ext.set1 | apply Ext.set2 | apply Ext.set3 | (apply Ext.snoc; assumption))⟩
theorem FnExactFitsSheet_walk (x0 : Int) (x1 : Int) (x2 : Int) (x3 : Int) (x4 : Bool) (w : World) : Calls Try.prog 8 #[.agg #[.int .i64 x0, .int .i64 x1], .agg #[.int .i64 x2, .int .i64 x3], .bool x4] w fun e w' => e = .returned (.bool true) ∧ Ext w w' := by
  go_enter Try.func8, Try.ntmps8
  go_wp2_with fail
  obtain ⟨w0, hw0⟩ : ∃ w0, w0 = ((w.alloc (Obj.cells #[Value.int IntKind.i64 x0, Value.int IntKind.i64 x1] 23)).alloc (Obj.cells #[Value.int IntKind.i64 x2, Value.int IntKind.i64 x3] 23)) := ⟨_, rfl⟩
  rw [← hw0]
  have hE0 : Ext w w0 := by rw [hw0]; repeat (first | exact Ext.refl _ | apply Ext.alloc | apply Ext.drewN | apply Ext.drew | apply Ext.set0 | apply Ext.set1 | apply Ext.set2 | apply Ext.set3 | (apply Ext.snoc; assumption))
  have c : w0.cell? ⟨w.heap.size, 0, none⟩ = some (.int .i64 x0) ∧ w0.cell? ⟨w.heap.size, 1, none⟩ = some (.int .i64 x1) ∧ w0.cell? ⟨w.heap.size + 1, 0, none⟩ = some (.int .i64 x2) ∧ w0.cell? ⟨w.heap.size + 1, 1, none⟩ = some (.int .i64 x3) := by rw [hw0]; simp [go_sem]
  obtain ⟨c0, c1, c2, c3⟩ := c
  have z : w.heap.size + 1 + 1 ≤ w0.heap.size := by rw [hw0]; simp
  clear hw0
  have z0 : w.heap.size < w0.heap.size := by omega
  have z1 : w.heap.size + 1 < w0.heap.size := by omega
  go_region_held3 (fun w' => (∀ (q o : Nat), q < w0.heap.size → w'.cell? ⟨q, o, none⟩ = w0.cell? ⟨q, o, none⟩) ∧ Ext w0 w') ((apply ExtS; repeat (first | exact Ext.refl _ | apply Ext.alloc | apply Ext.drewN | apply Ext.drew | apply Ext.set0 | apply Ext.set1 | apply Ext.set2 | apply Ext.set3 | (apply Ext.snoc; assumption)))) ((first | (go_at_call 16; refine (toSheet_any _ _ _).mono ?_; rintro e w1 ⟨rfl, hb1⟩)  |  (go_at_call 29; refine (sFitsSheet_any _ _ _ _ _ _).mono ?_; rintro e w2 ⟨rfl, hb2⟩)))
  have hE2 : Ext w0 w2 := by repeat (first | exact Ext.refl _ | apply Ext.alloc | apply Ext.drewN | apply Ext.drew | apply Ext.set0 | apply Ext.set1 | apply Ext.set2 | apply Ext.set3 | (apply Ext.snoc; assumption))
  have f2 := hE2.facts
  have y0 : w.heap.size < w2.heap.size := f2.2.2 _ z0
  have y1 : w.heap.size + 1 < w2.heap.size := f2.2.2 _ z1
  have hc2 := f2.1
  clear f2
  go_wp2_with fail
  go_region_held3 (fun w' => (∀ (q o : Nat), q < w2.heap.size → w'.cell? ⟨q, o, none⟩ = w2.cell? ⟨q, o, none⟩) ∧ Ext w2 w') ((apply ExtS; repeat (first | exact Ext.refl _ | apply Ext.alloc | apply Ext.drewN | apply Ext.drew | apply Ext.set0 | apply Ext.set1 | apply Ext.set2 | apply Ext.set3 | (apply Ext.snoc; assumption)))) ((first | (go_at_call 16; refine (toSheet_any _ _ _).mono ?_; rintro e w1 ⟨rfl, hb1⟩)  |  (go_at_call 30; refine (FitsSheet_any _ _ _ _ _ _).mono ?_; rintro e w3 ⟨rfl, hb3⟩)))
  go_wp2_with fail
  go_ret
  exact ⟨rfl, by repeat (first | exact Ext.refl _ | apply Ext.alloc | apply Ext.drewN | apply Ext.drew | apply Ext.set0 | apply Ext.set1 | apply Ext.set2 | apply Ext.set3 | (apply Ext.snoc; assumption))⟩
theorem FnExactMostPieces_walk (x0 : Int) (x1 : Int) (x2 : Int) (x3 : Int) (w : World) : Calls Try.prog 9 #[.agg #[.int .i64 x0, .int .i64 x1], .agg #[.int .i64 x2, .int .i64 x3]] w fun e w' => e = .returned (.bool true) ∧ Ext w w' := by
  go_enter Try.func9, Try.ntmps9
  go_wp2_with fail
  obtain ⟨w0, hw0⟩ : ∃ w0, w0 = ((w.alloc (Obj.cells #[Value.int IntKind.i64 x0, Value.int IntKind.i64 x1] 23)).alloc (Obj.cells #[Value.int IntKind.i64 x2, Value.int IntKind.i64 x3] 23)) := ⟨_, rfl⟩
  rw [← hw0]
  have hE0 : Ext w w0 := by rw [hw0]; repeat (first | exact Ext.refl _ | apply Ext.alloc | apply Ext.drewN | apply Ext.drew | apply Ext.set0 | apply Ext.set1 | apply Ext.set2 | apply Ext.set3 | (apply Ext.snoc; assumption))
  have c : w0.cell? ⟨w.heap.size, 0, none⟩ = some (.int .i64 x0) ∧ w0.cell? ⟨w.heap.size, 1, none⟩ = some (.int .i64 x1) ∧ w0.cell? ⟨w.heap.size + 1, 0, none⟩ = some (.int .i64 x2) ∧ w0.cell? ⟨w.heap.size + 1, 1, none⟩ = some (.int .i64 x3) := by rw [hw0]; simp [go_sem]
  obtain ⟨c0, c1, c2, c3⟩ := c
  have z : w.heap.size + 1 + 1 ≤ w0.heap.size := by rw [hw0]; simp
  clear hw0
  have z0 : w.heap.size < w0.heap.size := by omega
  have z1 : w.heap.size + 1 < w0.heap.size := by omega
  go_region_held3 (fun w' => (∀ (q o : Nat), q < w0.heap.size → w'.cell? ⟨q, o, none⟩ = w0.cell? ⟨q, o, none⟩) ∧ Ext w0 w') ((apply ExtS; repeat (first | exact Ext.refl _ | apply Ext.alloc | apply Ext.drewN | apply Ext.drew | apply Ext.set0 | apply Ext.set1 | apply Ext.set2 | apply Ext.set3 | (apply Ext.snoc; assumption)))) ((first | (go_at_call 16; refine (toSheet_any _ _ _).mono ?_; rintro e w1 ⟨rfl, hb1⟩)  |  (go_at_call 31; refine (sMostPieces_any _ _ _ _ _).mono ?_; rintro e w2 ⟨rfl, hb2⟩)))
  have hE2 : Ext w0 w2 := by repeat (first | exact Ext.refl _ | apply Ext.alloc | apply Ext.drewN | apply Ext.drew | apply Ext.set0 | apply Ext.set1 | apply Ext.set2 | apply Ext.set3 | (apply Ext.snoc; assumption))
  have f2 := hE2.facts
  have y0 : w.heap.size < w2.heap.size := f2.2.2 _ z0
  have y1 : w.heap.size + 1 < w2.heap.size := f2.2.2 _ z1
  have hc2 := f2.1
  clear f2
  go_wp2_with fail
  go_region_held3 (fun w' => (∀ (q o : Nat), q < w2.heap.size → w'.cell? ⟨q, o, none⟩ = w2.cell? ⟨q, o, none⟩) ∧ Ext w2 w') ((apply ExtS; repeat (first | exact Ext.refl _ | apply Ext.alloc | apply Ext.drewN | apply Ext.drew | apply Ext.set0 | apply Ext.set1 | apply Ext.set2 | apply Ext.set3 | (apply Ext.snoc; assumption)))) ((first | (go_at_call 16; refine (toSheet_any _ _ _).mono ?_; rintro e w1 ⟨rfl, hb1⟩)  |  (go_at_call 32; refine (MostPieces_any _ _ _ _ _).mono ?_; rintro e w3 ⟨rfl, hb3⟩)))
  go_wp2_with fail
  go_ret
  exact ⟨rfl, by repeat (first | exact Ext.refl _ | apply Ext.alloc | apply Ext.drewN | apply Ext.drew | apply Ext.set0 | apply Ext.set1 | apply Ext.set2 | apply Ext.set3 | (apply Ext.snoc; assumption))⟩

end Go.Proofs.Ytdoikenjdaeeiaa
