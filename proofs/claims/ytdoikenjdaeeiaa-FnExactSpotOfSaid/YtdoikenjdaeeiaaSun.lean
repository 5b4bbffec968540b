/- Walks of small functions on nodes, firings and the sun: what each returns, for all arguments. No condition. -/
import Derived.Test.YtdoikenjdaeeiaaBase
namespace Go.Proofs.Ytdoikenjdaeeiaa
open Go.RowKit

def firingOk (a b c : Int) : Bool := inR a 400 900 && inR b 1 24 && inR c 1 100
theorem firingOk_true {a b c : Int} (h : firingOk a b c = true) : 400 ≤ a ∧ a ≤ 900 ∧ 1 ≤ b ∧ b ≤ 24 ∧ 1 ≤ c ∧ c ≤ 100 := by simp [firingOk, inR] at h; omega
def sunOk (a b c : Int) : Bool := inR a (-1000) 1000 && inR b 1 1000 && inR c 1 100
theorem sunOk_true {a b c : Int} (h : sunOk a b c = true) : -1000 ≤ a ∧ a ≤ 1000 ∧ 1 ≤ b ∧ b ≤ 1000 ∧ 1 ≤ c ∧ c ≤ 100 := by simp [sunOk, inR] at h; omega
def nodeOk (a b : Int) : Bool := inR a 0 20 && inR b 0 20
theorem nodeOk_true {a b : Int} (h : nodeOk a b = true) : 0 ≤ a ∧ a ≤ 20 ∧ 0 ≤ b ∧ b ≤ 20 := by simp [nodeOk, inR] at h; omega
theorem NodeOk_any (a b : Int) (w : World) : Calls Try.prog 51 #[.agg #[.int .i64 a, .int .i64 b]] w fun e w' => e = .returned (.bool (nodeOk a b)) ∧ Ext w w' := by
  go_enter Try.func51, Try.ntmps51
  go_wp2_with (first | (go_at_call 48; refine (within_any _ _ _ _).mono ?_; rintro e w' ⟨rfl, rfl⟩))
  all_goals (go_ret; exact ⟨by simp [nodeOk, *], (Ext.refl _).alloc _⟩)
theorem sNodeOk_any (a b : Int) (w : World) : Calls Try.prog 50 #[.agg #[.int .i64 a, .int .i64 b]] w fun e w' => e = .returned (.bool (nodeOk a b)) ∧ Ext w w' := by
  go_enter Try.func50, Try.ntmps50
  go_wp2_with (first | (go_at_call 47; refine (l01In_any _ _ _ _).mono ?_; rintro e w' ⟨rfl, rfl⟩))
  all_goals (go_ret; exact ⟨by simp [nodeOk, *], (Ext.refl _).alloc _⟩)
theorem toNode_any (a b : Int) (w : World) : Calls Try.prog 40 #[.agg #[.int .i64 a, .int .i64 b]] w fun e w' => e = .returned (.agg #[.int .i64 a, .int .i64 b]) ∧ Ext w w' := by
  go_enter Try.func40, Try.ntmps40
  go_wp2
  go_returns
  exact ⟨rfl, by repeat (first | exact Ext.refl _ | apply Ext.alloc | apply Ext.drewN | apply Ext.drew | apply Ext.set0 | apply Ext.set1 | apply Ext.set2 | apply Ext.set3 | (apply Ext.snoc; assumption))⟩
theorem FiringOk_any (a b c : Int) (w : World) : Calls Try.prog 20 #[.agg #[.int .i64 a, .int .i64 b, .int .i64 c]] w fun e w' => e = .returned (.bool (firingOk a b c)) ∧ Ext w w' := by
  go_enter Try.func20, Try.ntmps20
  go_wp2_with (first | (go_at_call 48; refine (within_any _ _ _ _).mono ?_; rintro e w' ⟨rfl, rfl⟩))
  all_goals (go_ret; exact ⟨by simp [firingOk, *], (Ext.refl _).alloc _⟩)
theorem sFiringOk_any (a b c : Int) (w : World) : Calls Try.prog 18 #[.agg #[.int .i64 a, .int .i64 b, .int .i64 c]] w fun e w' => e = .returned (.bool (firingOk a b c)) ∧ Ext w w' := by
  go_enter Try.func18, Try.ntmps18
  go_wp2_with (first | (go_at_call 47; refine (l01In_any _ _ _ _).mono ?_; rintro e w' ⟨rfl, rfl⟩))
  all_goals (go_ret; exact ⟨by simp [firingOk, *], (Ext.refl _).alloc _⟩)
theorem toFiring_any (a b c : Int) (w : World) : Calls Try.prog 19 #[.agg #[.int .i64 a, .int .i64 b, .int .i64 c]] w fun e w' => e = .returned (.agg #[.int .i64 a, .int .i64 b, .int .i64 c]) ∧ Ext w w' := by
  go_enter Try.func19, Try.ntmps19
  go_wp2
  go_returns
  exact ⟨rfl, by repeat (first | exact Ext.refl _ | apply Ext.alloc | apply Ext.drewN | apply Ext.drew | apply Ext.set0 | apply Ext.set1 | apply Ext.set2 | apply Ext.set3 | (apply Ext.snoc; assumption))⟩
theorem FnExactFiringOk_walk (a b c : Int) (w : World) : Calls Try.prog 4 #[.agg #[.int .i64 a, .int .i64 b, .int .i64 c]] w fun e w' => e = .returned (.bool true) ∧ Ext w w' := by
  go_enter Try.func4, Try.ntmps4
  go_wp2_with (first | (go_at_call 19; refine (toFiring_any _ _ _ _).mono ?_; rintro e w1 ⟨rfl, hb1⟩; obtain ⟨hc1, hf1, _⟩ := hb1.facts; have hs1 := hb1.size; (try simp only [World.size_alloc] at hs1); have hz1_0 : w.heap.size < w1.heap.size := (by omega)) | (go_at_call 18; refine (sFiringOk_any _ _ _ _).mono ?_; rintro e w2 ⟨rfl, hb2⟩; obtain ⟨hc2, hf2, _⟩ := hb2.facts; have hs2 := hb2.size; (try simp only [World.size_alloc] at hs2); have hz2_0 : w.heap.size < w2.heap.size := (by omega)) | (go_at_call 20; refine (FiringOk_any _ _ _ _).mono ?_; rintro e w3 ⟨rfl, hb3⟩; obtain ⟨hc3, hf3, _⟩ := hb3.facts; have hs3 := hb3.size; (try simp only [World.size_alloc] at hs3); have hz3_0 : w.heap.size < w3.heap.size := (by omega)))
  go_ret
  exact ⟨rfl, by repeat (first | exact Ext.refl _ | apply Ext.alloc | apply Ext.drewN | apply Ext.drew | apply Ext.set0 | apply Ext.set1 | apply Ext.set2 | apply Ext.set3 | (apply Ext.snoc; assumption))⟩
theorem SunOk_any (a b c : Int) (w : World) : Calls Try.prog 23 #[.agg #[.int .i64 a, .int .i64 b, .int .i64 c]] w fun e w' => e = .returned (.bool (sunOk a b c)) ∧ Ext w w' := by
  go_enter Try.func23, Try.ntmps23
  go_wp2_with (first | (go_at_call 48; refine (within_any _ _ _ _).mono ?_; rintro e w' ⟨rfl, rfl⟩))
  all_goals (go_ret; exact ⟨by simp [sunOk, *], (Ext.refl _).alloc _⟩)
theorem sSunOk_any (a b c : Int) (w : World) : Calls Try.prog 21 #[.agg #[.int .i64 a, .int .i64 b, .int .i64 c]] w fun e w' => e = .returned (.bool (sunOk a b c)) ∧ Ext w w' := by
  go_enter Try.func21, Try.ntmps21
  go_wp2_with (first | (go_at_call 47; refine (l01In_any _ _ _ _).mono ?_; rintro e w' ⟨rfl, rfl⟩))
  all_goals (go_ret; exact ⟨by simp [sunOk, *], (Ext.refl _).alloc _⟩)
theorem toSun_any (a b c : Int) (w : World) : Calls Try.prog 22 #[.agg #[.int .i64 a, .int .i64 b, .int .i64 c]] w fun e w' => e = .returned (.agg #[.int .i64 a, .int .i64 b, .int .i64 c]) ∧ Ext w w' := by
  go_enter Try.func22, Try.ntmps22
  go_wp2
  go_returns
  exact ⟨rfl, by repeat (first | exact Ext.refl _ | apply Ext.alloc | apply Ext.drewN | apply Ext.drew | apply Ext.set0 | apply Ext.set1 | apply Ext.set2 | apply Ext.set3 | (apply Ext.snoc; assumption))⟩
theorem FnExactSunOk_walk (a b c : Int) (w : World) : Calls Try.prog 5 #[.agg #[.int .i64 a, .int .i64 b, .int .i64 c]] w fun e w' => e = .returned (.bool true) ∧ Ext w w' := by
  go_enter Try.func5, Try.ntmps5
  go_wp2_with (first | (go_at_call 22; refine (toSun_any _ _ _ _).mono ?_; rintro e w1 ⟨rfl, hb1⟩; obtain ⟨hc1, hf1, _⟩ := hb1.facts; have hs1 := hb1.size; (try simp only [World.size_alloc] at hs1); have hz1_0 : w.heap.size < w1.heap.size := (by omega)) | (go_at_call 21; refine (sSunOk_any _ _ _ _).mono ?_; rintro e w2 ⟨rfl, hb2⟩; obtain ⟨hc2, hf2, _⟩ := hb2.facts; have hs2 := hb2.size; (try simp only [World.size_alloc] at hs2); have hz2_0 : w.heap.size < w2.heap.size := (by omega)) | (go_at_call 23; refine (SunOk_any _ _ _ _).mono ?_; rintro e w3 ⟨rfl, hb3⟩; obtain ⟨hc3, hf3, _⟩ := hb3.facts; have hs3 := hb3.size; (try simp only [World.size_alloc] at hs3); have hz3_0 : w.heap.size < w3.heap.size := (by omega)))
  go_ret
  exact ⟨rfl, by repeat (first | exact Ext.refl _ | apply Ext.alloc | apply Ext.drewN | apply Ext.drew | apply Ext.set0 | apply Ext.set1 | apply Ext.set2 | apply Ext.set3 | (apply Ext.snoc; assumption))⟩
def canShare (a b c x y z : Int) : Bool := firingOk a b c && firingOk x y z && decide (a = x) && decide (b = y) && decide (c + z ≤ 100)
theorem CanShare_any (a b c x y z : Int) (w : World) : Calls Try.prog 28 #[.agg #[.int .i64 a, .int .i64 b, .int .i64 c], .agg #[.int .i64 x, .int .i64 y, .int .i64 z]] w fun e w' => e = .returned (.bool (canShare a b c x y z)) ∧ Ext w w' := by
  by_cases h1 : firingOk a b c = true
  · by_cases h2 : firingOk x y z = true
    · have B1 := firingOk_true h1
      have B2 := firingOk_true h2
      go_enter Try.func28, Try.ntmps28
      go_wp2_with (first | (go_at_call 20; refine (FiringOk_any _ _ _ _).mono ?_; rintro e w1 ⟨rfl, hb1⟩; obtain ⟨hc1, hf1, _⟩ := hb1.facts; have hs1 := hb1.size; (try simp only [World.size_alloc] at hs1); have hz1_0 : w.heap.size < w1.heap.size := (by omega); have hz1_1 : w.heap.size + 1 < w1.heap.size := (by omega)))
      all_goals (go_ret; exact ⟨(ret_bool (by (try simp only [Bool.not_eq_true', Bool.not_eq_false', Bool.not_eq_true] at *); first | (simp [canShare, *]; done) | (simp [canShare, *]; omega) | (subst_vars; simp [canShare, *]; done) | (subst_vars; simp [canShare, *]; omega))), by repeat (first | exact Ext.refl _ | apply Ext.alloc | apply Ext.drewN | apply Ext.drew | apply Ext.set0 | apply Ext.set1 | apply Ext.set2 | apply Ext.set3 | (apply Ext.snoc; assumption))⟩)
    · go_enter Try.func28, Try.ntmps28
      go_wp2_with (first | (go_at_call 20; refine (FiringOk_any _ _ _ _).mono ?_; rintro e w1 ⟨rfl, hb1⟩; obtain ⟨hc1, hf1, _⟩ := hb1.facts; have hs1 := hb1.size; (try simp only [World.size_alloc] at hs1); have hz1_0 : w.heap.size < w1.heap.size := (by omega); have hz1_1 : w.heap.size + 1 < w1.heap.size := (by omega)))
      all_goals (go_ret; exact ⟨(ret_bool (by (try simp only [Bool.not_eq_true', Bool.not_eq_false', Bool.not_eq_true] at *); first | (simp [canShare, *]; done) | (simp [canShare, *]; omega) | (subst_vars; simp [canShare, *]; done) | (subst_vars; simp [canShare, *]; omega))), by repeat (first | exact Ext.refl _ | apply Ext.alloc | apply Ext.drewN | apply Ext.drew | apply Ext.set0 | apply Ext.set1 | apply Ext.set2 | apply Ext.set3 | (apply Ext.snoc; assumption))⟩)
  · go_enter Try.func28, Try.ntmps28
    go_wp2_with (first | (go_at_call 20; refine (FiringOk_any _ _ _ _).mono ?_; rintro e w1 ⟨rfl, hb1⟩; obtain ⟨hc1, hf1, _⟩ := hb1.facts; have hs1 := hb1.size; (try simp only [World.size_alloc] at hs1); have hz1_0 : w.heap.size < w1.heap.size := (by omega); have hz1_1 : w.heap.size + 1 < w1.heap.size := (by omega)))
    all_goals (go_ret; exact ⟨(ret_bool (by (try simp only [Bool.not_eq_true', Bool.not_eq_false', Bool.not_eq_true] at *); first | (simp [canShare, *]; done) | (simp [canShare, *]; omega) | (subst_vars; simp [canShare, *]; done) | (subst_vars; simp [canShare, *]; omega))), by repeat (first | exact Ext.refl _ | apply Ext.alloc | apply Ext.drewN | apply Ext.drew | apply Ext.set0 | apply Ext.set1 | apply Ext.set2 | apply Ext.set3 | (apply Ext.snoc; assumption))⟩)
theorem sCanShare_any (a b c x y z : Int) (w : World) : Calls Try.prog 27 #[.agg #[.int .i64 a, .int .i64 b, .int .i64 c], .agg #[.int .i64 x, .int .i64 y, .int .i64 z]] w fun e w' => e = .returned (.bool (canShare a b c x y z)) ∧ Ext w w' := by
  by_cases h1 : firingOk a b c = true
  · by_cases h2 : firingOk x y z = true
    · have B1 := firingOk_true h1
      have B2 := firingOk_true h2
      go_enter Try.func27, Try.ntmps27
      go_wp2_with (first | (go_at_call 18; refine (sFiringOk_any _ _ _ _).mono ?_; rintro e w1 ⟨rfl, hb1⟩; obtain ⟨hc1, hf1, _⟩ := hb1.facts; have hs1 := hb1.size; (try simp only [World.size_alloc] at hs1); have hz1_0 : w.heap.size < w1.heap.size := (by omega); have hz1_1 : w.heap.size + 1 < w1.heap.size := (by omega)))
      all_goals (go_ret; exact ⟨(ret_bool (by (try simp only [Bool.not_eq_true', Bool.not_eq_false', Bool.not_eq_true] at *); first | (simp [canShare, *]; done) | (simp [canShare, *]; omega) | (subst_vars; simp [canShare, *]; done) | (subst_vars; simp [canShare, *]; omega))), by repeat (first | exact Ext.refl _ | apply Ext.alloc | apply Ext.drewN | apply Ext.drew | apply Ext.set0 | apply Ext.set1 | apply Ext.set2 | apply Ext.set3 | (apply Ext.snoc; assumption))⟩)
    · go_enter Try.func27, Try.ntmps27
      go_wp2_with (first | (go_at_call 18; refine (sFiringOk_any _ _ _ _).mono ?_; rintro e w1 ⟨rfl, hb1⟩; obtain ⟨hc1, hf1, _⟩ := hb1.facts; have hs1 := hb1.size; (try simp only [World.size_alloc] at hs1); have hz1_0 : w.heap.size < w1.heap.size := (by omega); have hz1_1 : w.heap.size + 1 < w1.heap.size := (by omega)))
      all_goals (go_ret; exact ⟨(ret_bool (by (try simp only [Bool.not_eq_true', Bool.not_eq_false', Bool.not_eq_true] at *); first | (simp [canShare, *]; done) | (simp [canShare, *]; omega) | (subst_vars; simp [canShare, *]; done) | (subst_vars; simp [canShare, *]; omega))), by repeat (first | exact Ext.refl _ | apply Ext.alloc | apply Ext.drewN | apply Ext.drew | apply Ext.set0 | apply Ext.set1 | apply Ext.set2 | apply Ext.set3 | (apply Ext.snoc; assumption))⟩)
  · go_enter Try.func27, Try.ntmps27
    go_wp2_with (first | (go_at_call 18; refine (sFiringOk_any _ _ _ _).mono ?_; rintro e w1 ⟨rfl, hb1⟩; obtain ⟨hc1, hf1, _⟩ := hb1.facts; have hs1 := hb1.size; (try simp only [World.size_alloc] at hs1); have hz1_0 : w.heap.size < w1.heap.size := (by omega); have hz1_1 : w.heap.size + 1 < w1.heap.size := (by omega)))
    all_goals (go_ret; exact ⟨(ret_bool (by (try simp only [Bool.not_eq_true', Bool.not_eq_false', Bool.not_eq_true] at *); first | (simp [canShare, *]; done) | (simp [canShare, *]; omega) | (subst_vars; simp [canShare, *]; done) | (subst_vars; simp [canShare, *]; omega))), by repeat (first | exact Ext.refl _ | apply Ext.alloc | apply Ext.drewN | apply Ext.drew | apply Ext.set0 | apply Ext.set1 | apply Ext.set2 | apply Ext.set3 | (apply Ext.snoc; assumption))⟩)
theorem FnExactCanShare_walk (x0 : Int) (x1 : Int) (x2 : Int) (x3 : Int) (x4 : Int) (x5 : Int) (w : World) : Calls Try.prog 7 #[.agg #[.int .i64 x0, .int .i64 x1, .int .i64 x2], .agg #[.int .i64 x3, .int .i64 x4, .int .i64 x5]] w fun e w' => e = .returned (.bool true) ∧ Ext w w' := by
  go_enter Try.func7, Try.ntmps7
  go_wp2_with fail
  obtain ⟨w0, hw0⟩ : ∃ w0, w0 = ((w.alloc (Obj.cells #[Value.int IntKind.i64 x0, Value.int IntKind.i64 x1, Value.int IntKind.i64 x2] 29)).alloc (Obj.cells #[Value.int IntKind.i64 x3, Value.int IntKind.i64 x4, Value.int IntKind.i64 x5] 29)) := ⟨_, rfl⟩
  rw [← hw0]
  have hE0 : Ext w w0 := by rw [hw0]; repeat (first | exact Ext.refl _ | apply Ext.alloc | apply Ext.drewN | apply Ext.drew | apply Ext.set0 | apply Ext.set1 | apply Ext.set2 | apply Ext.set3 | (apply Ext.snoc; assumption))
  have c : w0.cell? ⟨w.heap.size, 0, none⟩ = some (.int .i64 x0) ∧ w0.cell? ⟨w.heap.size, 1, none⟩ = some (.int .i64 x1) ∧ w0.cell? ⟨w.heap.size, 2, none⟩ = some (.int .i64 x2) ∧ w0.cell? ⟨w.heap.size + 1, 0, none⟩ = some (.int .i64 x3) ∧ w0.cell? ⟨w.heap.size + 1, 1, none⟩ = some (.int .i64 x4) ∧ w0.cell? ⟨w.heap.size + 1, 2, none⟩ = some (.int .i64 x5) := by rw [hw0]; simp [go_sem]
  obtain ⟨c0, c1, c2, c3, c4, c5⟩ := c
  have z : w.heap.size + 1 + 1 ≤ w0.heap.size := by rw [hw0]; simp
  clear hw0
  have z0 : w.heap.size < w0.heap.size := by omega
  have z1 : w.heap.size + 1 < w0.heap.size := by omega
  go_region_held3 (fun w' => (∀ (q o : Nat), q < w0.heap.size → w'.cell? ⟨q, o, none⟩ = w0.cell? ⟨q, o, none⟩) ∧ Ext w0 w') ((apply ExtS; repeat (first | exact Ext.refl _ | apply Ext.alloc | apply Ext.drewN | apply Ext.drew | apply Ext.set0 | apply Ext.set1 | apply Ext.set2 | apply Ext.set3 | (apply Ext.snoc; assumption)))) ((first | (go_at_call 19; refine (toFiring_any _ _ _ _).mono ?_; rintro e w1 ⟨rfl, hb1⟩)  |  (go_at_call 27; refine (sCanShare_any _ _ _ _ _ _ _).mono ?_; rintro e w2 ⟨rfl, hb2⟩)))
  have hE2 : Ext w0 w2 := by repeat (first | exact Ext.refl _ | apply Ext.alloc | apply Ext.drewN | apply Ext.drew | apply Ext.set0 | apply Ext.set1 | apply Ext.set2 | apply Ext.set3 | (apply Ext.snoc; assumption))
  have f2 := hE2.facts
  have y0 : w.heap.size < w2.heap.size := f2.2.2 _ z0
  have y1 : w.heap.size + 1 < w2.heap.size := f2.2.2 _ z1
  have hc2 := f2.1
  clear f2
  go_wp2_with fail
  go_region_held3 (fun w' => (∀ (q o : Nat), q < w2.heap.size → w'.cell? ⟨q, o, none⟩ = w2.cell? ⟨q, o, none⟩) ∧ Ext w2 w') ((apply ExtS; repeat (first | exact Ext.refl _ | apply Ext.alloc | apply Ext.drewN | apply Ext.drew | apply Ext.set0 | apply Ext.set1 | apply Ext.set2 | apply Ext.set3 | (apply Ext.snoc; assumption)))) ((first | (go_at_call 19; refine (toFiring_any _ _ _ _).mono ?_; rintro e w1 ⟨rfl, hb1⟩)  |  (go_at_call 28; refine (CanShare_any _ _ _ _ _ _ _).mono ?_; rintro e w3 ⟨rfl, hb3⟩)))
  go_wp2_with fail
  go_ret
  exact ⟨rfl, by repeat (first | exact Ext.refl _ | apply Ext.alloc | apply Ext.drewN | apply Ext.drew | apply Ext.set0 | apply Ext.set1 | apply Ext.set2 | apply Ext.set3 | (apply Ext.snoc; assumption))⟩
structure Spot4 where
  p : Int
  q : Int
  r : Int
  ok : Bool
def spotOf (x y sill a b c : Int) : Spot4 := if nodeOk x y && sunOk a b c && inR sill 0 1000 then ⟨x * b + (sill + y) * a, (sill + y) * c, b, true⟩ else ⟨0, 0, 0, false⟩
theorem mul_bound {u v : Int} {m n : Int} (h1 : -m ≤ u) (h2 : u ≤ m) (h3 : -n ≤ v) (h4 : v ≤ n) (hm : 0 ≤ m) (hn : 0 ≤ n) : -(m * n) ≤ u * v ∧ u * v ≤ m * n := by
  have a1 : (u.natAbs : Int) ≤ m := by omega
  have a2 : (v.natAbs : Int) ≤ n := by omega
  have h : ((u * v).natAbs : Int) ≤ m * n := by
    rw [Int.natAbs_mul, Int.natCast_mul]
    exact Int.mul_le_mul a1 a2 (by omega) hm
  omega
theorem SpotOf_any (x y sill a b c : Int) (w : World) : Calls Try.prog 41 #[.agg #[.int .i64 x, .int .i64 y], .int .i64 sill, .agg #[.int .i64 a, .int .i64 b, .int .i64 c]] w fun e w' =>
    e = .returned (.tuple #[.int .i64 (spotOf x y sill a b c).p, .int .i64 (spotOf x y sill a b c).q, .int .i64 (spotOf x y sill a b c).r, .bool (spotOf x y sill a b c).ok]) ∧ Ext w w' := by
  by_cases h1 : nodeOk x y = true
  · by_cases h2 : sunOk a b c = true
    · by_cases h3 : inR sill 0 1000 = true
      · have B1 := nodeOk_true h1
        have B2 := sunOk_true h2
        have B3 := inR_true h3
        have e1 := mul_bound (u := x) (v := b) (m := 20) (n := 1000) (by omega) (by omega) (by omega) (by omega) (by omega) (by omega)
        have e2 := mul_bound (u := sill + y) (v := a) (m := 1020) (n := 1000) (by omega) (by omega) (by omega) (by omega) (by omega) (by omega)
        have e3 := mul_bound (u := sill + y) (v := c) (m := 1020) (n := 100) (by omega) (by omega) (by omega) (by omega) (by omega) (by omega)
        go_enter Try.func41, Try.ntmps41
        go_wp2_with (first | (go_at_call 51; refine (NodeOk_any _ _ _).mono ?_; rintro e w1 ⟨rfl, hb1⟩; obtain ⟨hc1, hf1, _⟩ := hb1.facts; have hs1 := hb1.size; (try simp only [World.size_alloc] at hs1); have hz1_0 : w.heap.size < w1.heap.size := (by omega); have hz1_1 : w.heap.size + 1 < w1.heap.size := (by omega)) | (go_at_call 23; refine (SunOk_any _ _ _ _).mono ?_; rintro e w2 ⟨rfl, hb2⟩; obtain ⟨hc2, hf2, _⟩ := hb2.facts; have hs2 := hb2.size; (try simp only [World.size_alloc] at hs2); have hz2_0 : w.heap.size < w2.heap.size := (by omega); have hz2_1 : w.heap.size + 1 < w2.heap.size := (by omega)) | (go_at_call 48; refine (within_any _ _ _ _).mono ?_; rintro e w' ⟨rfl, rfl⟩))
        go_quiet (fail)
        go_wp2
        refine bodyPost_ret (results_tmp4 rfl _ _ _) rfl ?_
        exact ⟨by simp [spotOf, h1, h2, h3], by repeat (first | exact Ext.refl _ | apply Ext.alloc | apply Ext.drewN | apply Ext.drew | apply Ext.set0 | apply Ext.set1 | apply Ext.set2 | apply Ext.set3 | (apply Ext.snoc; assumption))⟩
      · go_enter Try.func41, Try.ntmps41
        go_wp2_with (first | (go_at_call 51; refine (NodeOk_any _ _ _).mono ?_; rintro e w1 ⟨rfl, hb1⟩; obtain ⟨hc1, hf1, _⟩ := hb1.facts; have hs1 := hb1.size; (try simp only [World.size_alloc] at hs1); have hz1_0 : w.heap.size < w1.heap.size := (by omega); have hz1_1 : w.heap.size + 1 < w1.heap.size := (by omega)) | (go_at_call 23; refine (SunOk_any _ _ _ _).mono ?_; rintro e w2 ⟨rfl, hb2⟩; obtain ⟨hc2, hf2, _⟩ := hb2.facts; have hs2 := hb2.size; (try simp only [World.size_alloc] at hs2); have hz2_0 : w.heap.size < w2.heap.size := (by omega); have hz2_1 : w.heap.size + 1 < w2.heap.size := (by omega)) | (go_at_call 48; refine (within_any _ _ _ _).mono ?_; rintro e w' ⟨rfl, rfl⟩))
        refine bodyPost_ret (results_tmp4 rfl _ _ _) rfl ?_
        exact ⟨by simp [spotOf, h3], by repeat (first | exact Ext.refl _ | apply Ext.alloc | apply Ext.drewN | apply Ext.drew | apply Ext.set0 | apply Ext.set1 | apply Ext.set2 | apply Ext.set3 | (apply Ext.snoc; assumption))⟩
    · go_enter Try.func41, Try.ntmps41
      go_wp2_with (first | (go_at_call 51; refine (NodeOk_any _ _ _).mono ?_; rintro e w1 ⟨rfl, hb1⟩; obtain ⟨hc1, hf1, _⟩ := hb1.facts; have hs1 := hb1.size; (try simp only [World.size_alloc] at hs1); have hz1_0 : w.heap.size < w1.heap.size := (by omega); have hz1_1 : w.heap.size + 1 < w1.heap.size := (by omega)) | (go_at_call 23; refine (SunOk_any _ _ _ _).mono ?_; rintro e w2 ⟨rfl, hb2⟩; obtain ⟨hc2, hf2, _⟩ := hb2.facts; have hs2 := hb2.size; (try simp only [World.size_alloc] at hs2); have hz2_0 : w.heap.size < w2.heap.size := (by omega); have hz2_1 : w.heap.size + 1 < w2.heap.size := (by omega)) | (go_at_call 48; refine (within_any _ _ _ _).mono ?_; rintro e w' ⟨rfl, rfl⟩))
      refine bodyPost_ret (results_tmp4 rfl _ _ _) rfl ?_
      exact ⟨by simp [spotOf, h2], by repeat (first | exact Ext.refl _ | apply Ext.alloc | apply Ext.drewN | apply Ext.drew | apply Ext.set0 | apply Ext.set1 | apply Ext.set2 | apply Ext.set3 | (apply Ext.snoc; assumption))⟩
  · go_enter Try.func41, Try.ntmps41
    go_wp2_with (first | (go_at_call 51; refine (NodeOk_any _ _ _).mono ?_; rintro e w1 ⟨rfl, hb1⟩; obtain ⟨hc1, hf1, _⟩ := hb1.facts; have hs1 := hb1.size; (try simp only [World.size_alloc] at hs1); have hz1_0 : w.heap.size < w1.heap.size := (by omega); have hz1_1 : w.heap.size + 1 < w1.heap.size := (by omega)) | (go_at_call 23; refine (SunOk_any _ _ _ _).mono ?_; rintro e w2 ⟨rfl, hb2⟩; obtain ⟨hc2, hf2, _⟩ := hb2.facts; have hs2 := hb2.size; (try simp only [World.size_alloc] at hs2); have hz2_0 : w.heap.size < w2.heap.size := (by omega); have hz2_1 : w.heap.size + 1 < w2.heap.size := (by omega)) | (go_at_call 48; refine (within_any _ _ _ _).mono ?_; rintro e w' ⟨rfl, rfl⟩))
    refine bodyPost_ret (results_tmp4 rfl _ _ _) rfl ?_
    exact ⟨by simp [spotOf, h1], by repeat (first | exact Ext.refl _ | apply Ext.alloc | apply Ext.drewN | apply Ext.drew | apply Ext.set0 | apply Ext.set1 | apply Ext.set2 | apply Ext.set3 | (apply Ext.snoc; assumption))⟩
theorem sSpotOf_any (x y sill a b c : Int) (w : World) : Calls Try.prog 39 #[.agg #[.int .i64 x, .int .i64 y], .int .i64 sill, .agg #[.int .i64 a, .int .i64 b, .int .i64 c]] w fun e w' =>
    e = .returned (.tuple #[.int .i64 (spotOf x y sill a b c).p, .int .i64 (spotOf x y sill a b c).q, .int .i64 (spotOf x y sill a b c).r, .bool (spotOf x y sill a b c).ok]) ∧ Ext w w' := by
  by_cases h1 : nodeOk x y = true
  · by_cases h2 : sunOk a b c = true
    · by_cases h3 : inR sill 0 1000 = true
      · have B1 := nodeOk_true h1
        have B2 := sunOk_true h2
        have B3 := inR_true h3
        have e1 := mul_bound (u := x) (v := b) (m := 20) (n := 1000) (by omega) (by omega) (by omega) (by omega) (by omega) (by omega)
        have e2 := mul_bound (u := sill + y) (v := a) (m := 1020) (n := 1000) (by omega) (by omega) (by omega) (by omega) (by omega) (by omega)
        have e3 := mul_bound (u := sill + y) (v := c) (m := 1020) (n := 100) (by omega) (by omega) (by omega) (by omega) (by omega) (by omega)
        go_enter Try.func39, Try.ntmps39
        go_wp2_with (first | (go_at_call 50; refine (sNodeOk_any _ _ _).mono ?_; rintro e w1 ⟨rfl, hb1⟩; obtain ⟨hc1, hf1, _⟩ := hb1.facts; have hs1 := hb1.size; (try simp only [World.size_alloc] at hs1); have hz1_0 : w.heap.size < w1.heap.size := (by omega); have hz1_1 : w.heap.size + 1 < w1.heap.size := (by omega)) | (go_at_call 21; refine (sSunOk_any _ _ _ _).mono ?_; rintro e w2 ⟨rfl, hb2⟩; obtain ⟨hc2, hf2, _⟩ := hb2.facts; have hs2 := hb2.size; (try simp only [World.size_alloc] at hs2); have hz2_0 : w.heap.size < w2.heap.size := (by omega); have hz2_1 : w.heap.size + 1 < w2.heap.size := (by omega)) | (go_at_call 47; refine (l01In_any _ _ _ _).mono ?_; rintro e w' ⟨rfl, rfl⟩))
        go_quiet (fail)
        go_wp2
        refine bodyPost_ret (results_tmp4 rfl _ _ _) rfl ?_
        exact ⟨by simp [spotOf, h1, h2, h3], by repeat (first | exact Ext.refl _ | apply Ext.alloc | apply Ext.drewN | apply Ext.drew | apply Ext.set0 | apply Ext.set1 | apply Ext.set2 | apply Ext.set3 | (apply Ext.snoc; assumption))⟩
      · go_enter Try.func39, Try.ntmps39
        go_wp2_with (first | (go_at_call 50; refine (sNodeOk_any _ _ _).mono ?_; rintro e w1 ⟨rfl, hb1⟩; obtain ⟨hc1, hf1, _⟩ := hb1.facts; have hs1 := hb1.size; (try simp only [World.size_alloc] at hs1); have hz1_0 : w.heap.size < w1.heap.size := (by omega); have hz1_1 : w.heap.size + 1 < w1.heap.size := (by omega)) | (go_at_call 21; refine (sSunOk_any _ _ _ _).mono ?_; rintro e w2 ⟨rfl, hb2⟩; obtain ⟨hc2, hf2, _⟩ := hb2.facts; have hs2 := hb2.size; (try simp only [World.size_alloc] at hs2); have hz2_0 : w.heap.size < w2.heap.size := (by omega); have hz2_1 : w.heap.size + 1 < w2.heap.size := (by omega)) | (go_at_call 47; refine (l01In_any _ _ _ _).mono ?_; rintro e w' ⟨rfl, rfl⟩))
        refine bodyPost_ret (results_tmp4 rfl _ _ _) rfl ?_
        exact ⟨by simp [spotOf, h3], by repeat (first | exact Ext.refl _ | apply Ext.alloc | apply Ext.drewN | apply Ext.drew | apply Ext.set0 | apply Ext.set1 | apply Ext.set2 | apply Ext.set3 | (apply Ext.snoc; assumption))⟩
    · go_enter Try.func39, Try.ntmps39
      go_wp2_with (first | (go_at_call 50; refine (sNodeOk_any _ _ _).mono ?_; rintro e w1 ⟨rfl, hb1⟩; obtain ⟨hc1, hf1, _⟩ := hb1.facts; have hs1 := hb1.size; (try simp only [World.size_alloc] at hs1); have hz1_0 : w.heap.size < w1.heap.size := (by omega); have hz1_1 : w.heap.size + 1 < w1.heap.size := (by omega)) | (go_at_call 21; refine (sSunOk_any _ _ _ _).mono ?_; rintro e w2 ⟨rfl, hb2⟩; obtain ⟨hc2, hf2, _⟩ := hb2.facts; have hs2 := hb2.size; (try simp only [World.size_alloc] at hs2); have hz2_0 : w.heap.size < w2.heap.size := (by omega); have hz2_1 : w.heap.size + 1 < w2.heap.size := (by omega)) | (go_at_call 47; refine (l01In_any _ _ _ _).mono ?_; rintro e w' ⟨rfl, rfl⟩))
      refine bodyPost_ret (results_tmp4 rfl _ _ _) rfl ?_
      exact ⟨by simp [spotOf, h2], by repeat (first | exact Ext.refl _ | apply Ext.alloc | apply Ext.drewN | apply Ext.drew | apply Ext.set0 | apply Ext.set1 | apply Ext.set2 | apply Ext.set3 | (apply Ext.snoc; assumption))⟩
  · go_enter Try.func39, Try.ntmps39
    go_wp2_with (first | (go_at_call 50; refine (sNodeOk_any _ _ _).mono ?_; rintro e w1 ⟨rfl, hb1⟩; obtain ⟨hc1, hf1, _⟩ := hb1.facts; have hs1 := hb1.size; (try simp only [World.size_alloc] at hs1); have hz1_0 : w.heap.size < w1.heap.size := (by omega); have hz1_1 : w.heap.size + 1 < w1.heap.size := (by omega)) | (go_at_call 21; refine (sSunOk_any _ _ _ _).mono ?_; rintro e w2 ⟨rfl, hb2⟩; obtain ⟨hc2, hf2, _⟩ := hb2.facts; have hs2 := hb2.size; (try simp only [World.size_alloc] at hs2); have hz2_0 : w.heap.size < w2.heap.size := (by omega); have hz2_1 : w.heap.size + 1 < w2.heap.size := (by omega)) | (go_at_call 47; refine (l01In_any _ _ _ _).mono ?_; rintro e w' ⟨rfl, rfl⟩))
    refine bodyPost_ret (results_tmp4 rfl _ _ _) rfl ?_
    exact ⟨by simp [spotOf, h1], by repeat (first | exact Ext.refl _ | apply Ext.alloc | apply Ext.drewN | apply Ext.drew | apply Ext.set0 | apply Ext.set1 | apply Ext.set2 | apply Ext.set3 | (apply Ext.snoc; assumption))⟩
theorem FnExactSpotOf_walk (x0 : Int) (x1 : Int) (x2 : Int) (x3 : Int) (x4 : Int) (x5 : Int) (w : World) : Calls Try.prog 12 #[.agg #[.int .i64 x0, .int .i64 x1], .int .i64 x2, .agg #[.int .i64 x3, .int .i64 x4, .int .i64 x5]] w fun e w' => e = .returned (.bool true) ∧ Ext w w' := by
  go_enter Try.func12, Try.ntmps12
  go_wp2_with fail
  obtain ⟨w0, hw0⟩ : ∃ w0, w0 = ((w.alloc (Obj.cells #[Value.int IntKind.i64 x0, Value.int IntKind.i64 x1] 60)).alloc (Obj.cells #[Value.int IntKind.i64 x3, Value.int IntKind.i64 x4, Value.int IntKind.i64 x5] 35)) := ⟨_, rfl⟩
  rw [← hw0]
  have hE0 : Ext w w0 := by rw [hw0]; repeat (first | exact Ext.refl _ | apply Ext.alloc | apply Ext.drewN | apply Ext.drew | apply Ext.set0 | apply Ext.set1 | apply Ext.set2 | apply Ext.set3 | (apply Ext.snoc; assumption))
  have c : w0.cell? ⟨w.heap.size, 0, none⟩ = some (.int .i64 x0) ∧ w0.cell? ⟨w.heap.size, 1, none⟩ = some (.int .i64 x1) ∧ w0.cell? ⟨w.heap.size + 1, 0, none⟩ = some (.int .i64 x3) ∧ w0.cell? ⟨w.heap.size + 1, 1, none⟩ = some (.int .i64 x4) ∧ w0.cell? ⟨w.heap.size + 1, 2, none⟩ = some (.int .i64 x5) := by rw [hw0]; simp [go_sem]
  obtain ⟨c0, c1, c2, c3, c4⟩ := c
  have z : w.heap.size + 1 + 1 ≤ w0.heap.size := by rw [hw0]; simp
  clear hw0
  have z0 : w.heap.size < w0.heap.size := by omega
  have z1 : w.heap.size + 1 < w0.heap.size := by omega
  go_region_held3 (fun w' => (∀ (q o : Nat), q < w0.heap.size → w'.cell? ⟨q, o, none⟩ = w0.cell? ⟨q, o, none⟩) ∧ Ext w0 w') ((apply ExtS; repeat (first | exact Ext.refl _ | apply Ext.alloc | apply Ext.drewN | apply Ext.drew | apply Ext.set0 | apply Ext.set1 | apply Ext.set2 | apply Ext.set3 | (apply Ext.snoc; assumption)))) ((first | (go_at_call 40; refine (toNode_any _ _ _).mono ?_; rintro e w1 ⟨rfl, hb1⟩)  |  (go_at_call 22; refine (toSun_any _ _ _ _).mono ?_; rintro e w1 ⟨rfl, hb1⟩)  |  (go_at_call 39; refine (sSpotOf_any _ _ _ _ _ _ _).mono ?_; rintro e w2 ⟨rfl, hb2⟩)))
  have hE2 : Ext w0 w2 := by repeat (first | exact Ext.refl _ | apply Ext.alloc | apply Ext.drewN | apply Ext.drew | apply Ext.set0 | apply Ext.set1 | apply Ext.set2 | apply Ext.set3 | (apply Ext.snoc; assumption))
  have f2 := hE2.facts
  have y0 : w.heap.size < w2.heap.size := f2.2.2 _ z0
  have y1 : w.heap.size + 1 < w2.heap.size := f2.2.2 _ z1
  have hc2 := f2.1
  clear f2
  go_wp2_with fail
  go_region_held3 (fun w' => (∀ (q o : Nat), q < w2.heap.size → w'.cell? ⟨q, o, none⟩ = w2.cell? ⟨q, o, none⟩) ∧ Ext w2 w') ((apply ExtS; repeat (first | exact Ext.refl _ | apply Ext.alloc | apply Ext.drewN | apply Ext.drew | apply Ext.set0 | apply Ext.set1 | apply Ext.set2 | apply Ext.set3 | (apply Ext.snoc; assumption)))) ((first | (go_at_call 40; refine (toNode_any _ _ _).mono ?_; rintro e w1 ⟨rfl, hb1⟩)  |  (go_at_call 22; refine (toSun_any _ _ _ _).mono ?_; rintro e w1 ⟨rfl, hb1⟩)  |  (go_at_call 41; refine (SpotOf_any _ _ _ _ _ _ _).mono ?_; rintro e w3 ⟨rfl, hb3⟩)))
  go_wp2_with fail
  go_ret
  exact ⟨rfl, by repeat (first | exact Ext.refl _ | apply Ext.alloc | apply Ext.drewN | apply Ext.drew | apply Ext.set0 | apply Ext.set1 | apply Ext.set2 | apply Ext.set3 | (apply Ext.snoc; assumption))⟩

end Go.Proofs.Ytdoikenjdaeeiaa
