/- More walks on stains. No condition. -/
import Derived.Test.YtlpononcpocmoaaDoorStain
import Derived.Test.YtlpononcpocmoaaDoorReg
set_option linter.unusedSimpArgs false
set_option linter.unusedVariables false
namespace Go.Proofs.YtlpononcpocmoaaDoor
open Go.RowKit
def mix1 (p a x : Int) : Int := (p * a + (100 - p) * x) / 100
def mixS (a b c x y z p : Int) : P3 := if stainOk a b c && stainOk x y z && inR p 0 100 then (mix1 p a x, mix1 p b y, mix1 p c z) else (0, 0, 0)
def mixOk (a b c x y z p : Int) : Bool := stainOk a b c && stainOk x y z && inR p 0 100
theorem mix_bound {p a x : Int} (h1 : 0 ≤ p) (h2 : p ≤ 100) (h3 : 0 ≤ a) (h4 : a ≤ 1000) (h5 : 0 ≤ x) (h6 : x ≤ 1000) : 0 ≤ p * a ∧ p * a ≤ 100000 ∧ 0 ≤ (100 - p) * x ∧ (100 - p) * x ≤ 100000 :=
  ⟨Int.mul_nonneg h1 h3, Int.le_trans (Int.mul_le_mul h2 h4 h3 (by omega)) (by omega), Int.mul_nonneg (by omega) h5, Int.le_trans (Int.mul_le_mul (show 100 - p ≤ 100 by omega) h6 h5 (by omega)) (by omega)⟩
theorem mix_clo (a x p : Int) (g : Nat) (w : World) (ha : 0 ≤ a ∧ a ≤ 1000) (hx : 0 ≤ x ∧ x ≤ 1000) (hp : 0 ≤ p ∧ p ≤ 100) (hc : w.cell? ⟨g, 0, none⟩ = some (.int .i64 p)) :
    Calls Tryd.prog 21 #[.int .i64 a, .int .i64 x, .pointer (some ⟨g, 0, none⟩)] w fun e w' => e = .returned (.int .i64 (mix1 p a x)) ∧ w = w' := by
  obtain ⟨h1, h2, h3, h4⟩ := mix_bound hp.1 hp.2 ha.1 ha.2 hx.1 hx.2
  obtain ⟨h5, h6⟩ := hp
  clear ha hx
  go_enter Tryd.func21, Tryd.ntmps21
  go_wp2
  go_ret
  exact ⟨ret_int (by unfold mix1; rfl), rfl⟩
set_option maxHeartbeats 1000000 in
theorem MixStains_any (a b c x y z p : Int) (w : World) : Calls Tryd.prog 11 #[.agg #[.int .i64 a, .int .i64 b, .int .i64 c], .agg #[.int .i64 x, .int .i64 y, .int .i64 z], .int .i64 p] w fun e w' =>
    e = .returned (.tuple #[.agg #[.int .i64 (mixS a b c x y z p).1, .int .i64 (mixS a b c x y z p).2.1, .int .i64 (mixS a b c x y z p).2.2], .bool (mixOk a b c x y z p)]) ∧ Ext w w' := by
  by_cases h1 : stainOk a b c = true
  · by_cases h2 : stainOk x y z = true
    · by_cases h3 : inR p 0 100 = true
      · have B1 := stainOk_true h1
        have B2 := stainOk_true h2
        have B3 := inR_true h3
        go_enter Tryd.func11, Tryd.ntmps11
        go_wp2_with (first | (go_at_call 13; refine (StainOk_any _ _ _ _).mono ?_; rintro e w1 ⟨rfl, hb1⟩; obtain ⟨hc1, hf1, _⟩ := hb1.facts; have hs1 := hb1.size; (try simp only [World.size_alloc] at hs1); have hz1_0 : w.heap.size < w1.heap.size := (by omega); have hz1_1 : w.heap.size + 1 < w1.heap.size := (by omega); have hz1_2 : w.heap.size + 1 + 1 < w1.heap.size := (by omega); have hz1_3 : w.heap.size + 1 + 1 + 1 < w1.heap.size := (by omega)) | (go_at_call 20; refine (within_any _ _ _ _).mono ?_; rintro e w' ⟨rfl, rfl⟩))
        have hc : w1.cell? ⟨w.heap.size, 0, none⟩ = some (.int .i64 a) ∧ w1.cell? ⟨w.heap.size, 1, none⟩ = some (.int .i64 b) ∧ w1.cell? ⟨w.heap.size, 2, none⟩ = some (.int .i64 c) ∧ w1.cell? ⟨w.heap.size + 1, 0, none⟩ = some (.int .i64 x) ∧ w1.cell? ⟨w.heap.size + 1, 1, none⟩ = some (.int .i64 y) ∧ w1.cell? ⟨w.heap.size + 1, 2, none⟩ = some (.int .i64 z) ∧ w1.cell? ⟨w.heap.size + 1 + 1, 0, none⟩ = some (.int .i64 p) ∧ Ext w w1 := by
          refine ⟨?_, ?_, ?_, ?_, ?_, ?_, ?_, by repeat (first | exact kE | exact Ext.refl _ | apply Ext.alloc | apply Ext.drewN | apply Ext.drew | apply Ext.set0 | apply Ext.set1 | apply Ext.set2 | apply Ext.set3 | (refine Ext.setk ?_ (by omega) _) | (apply Ext.snoc; assumption))⟩ <;> go_simp
        go_region_held3 (fun w' => w'.cell? ⟨w.heap.size, 0, none⟩ = some (.int .i64 a) ∧ w'.cell? ⟨w.heap.size, 1, none⟩ = some (.int .i64 b) ∧ w'.cell? ⟨w.heap.size, 2, none⟩ = some (.int .i64 c) ∧ w'.cell? ⟨w.heap.size + 1, 0, none⟩ = some (.int .i64 x) ∧ w'.cell? ⟨w.heap.size + 1, 1, none⟩ = some (.int .i64 y) ∧ w'.cell? ⟨w.heap.size + 1, 2, none⟩ = some (.int .i64 z) ∧ w'.cell? ⟨w.heap.size + 1 + 1, 0, none⟩ = some (.int .i64 p) ∧ Ext w w')
          ((refine ⟨?_, ?_, ?_, ?_, ?_, ?_, ?_, by repeat (first | exact kE | exact Ext.refl _ | apply Ext.alloc | apply Ext.drewN | apply Ext.drew | apply Ext.set0 | apply Ext.set1 | apply Ext.set2 | apply Ext.set3 | (refine Ext.setk ?_ (by omega) _) | (apply Ext.snoc; assumption))⟩ <;> go_simp))
          ((go_at_call 21; refine (mix_clo _ _ p _ _ (by omega) (by omega) (by omega) (by go_simp)).mono ?_; rintro e w' ⟨rfl, rfl⟩))
        go_wp2
        refine bodyPost_ret (v := .tuple #[.agg #[.int .i64 (mix1 p a x), .int .i64 (mix1 p b y), .int .i64 (mix1 p c z)], .bool true]) (by simp only [results, Tryd.results11]; go_simp) rfl ⟨?_, ?_⟩
        · simp [mixS, mixOk, h1, h2, h3]
        · repeat (first | exact kE | exact Ext.refl _ | apply Ext.alloc | apply Ext.drewN | apply Ext.drew | apply Ext.set0 | apply Ext.set1 | apply Ext.set2 | apply Ext.set3 | (refine Ext.setk ?_ (by omega) _) | (apply Ext.snoc; assumption))
      · go_enter Tryd.func11, Tryd.ntmps11
        go_wp2_with (first | (go_at_call 13; refine (StainOk_any _ _ _ _).mono ?_; rintro e w1 ⟨rfl, hb1⟩; obtain ⟨hc1, hf1, _⟩ := hb1.facts; have hs1 := hb1.size; (try simp only [World.size_alloc] at hs1); have hz1_0 : w.heap.size < w1.heap.size := (by omega); have hz1_1 : w.heap.size + 1 < w1.heap.size := (by omega); have hz1_2 : w.heap.size + 1 + 1 < w1.heap.size := (by omega); have hz1_3 : w.heap.size + 1 + 1 + 1 < w1.heap.size := (by omega)) | (go_at_call 20; refine (within_any _ _ _ _).mono ?_; rintro e w' ⟨rfl, rfl⟩))
        refine bodyPost_ret (v := .tuple #[.agg #[.int .i64 0, .int .i64 0, .int .i64 0], .bool false]) (by simp only [results, Tryd.results11]; go_simp) rfl ⟨?_, ?_⟩
        · simp [mixS, mixOk, h3]
        · repeat (first | exact kE | exact Ext.refl _ | apply Ext.alloc | apply Ext.drewN | apply Ext.drew | apply Ext.set0 | apply Ext.set1 | apply Ext.set2 | apply Ext.set3 | (refine Ext.setk ?_ (by omega) _) | (apply Ext.snoc; assumption))
    · go_enter Tryd.func11, Tryd.ntmps11
      go_wp2_with (first | (go_at_call 13; refine (StainOk_any _ _ _ _).mono ?_; rintro e w1 ⟨rfl, hb1⟩; obtain ⟨hc1, hf1, _⟩ := hb1.facts; have hs1 := hb1.size; (try simp only [World.size_alloc] at hs1); have hz1_0 : w.heap.size < w1.heap.size := (by omega); have hz1_1 : w.heap.size + 1 < w1.heap.size := (by omega); have hz1_2 : w.heap.size + 1 + 1 < w1.heap.size := (by omega); have hz1_3 : w.heap.size + 1 + 1 + 1 < w1.heap.size := (by omega)) | (go_at_call 20; refine (within_any _ _ _ _).mono ?_; rintro e w' ⟨rfl, rfl⟩))
      refine bodyPost_ret (v := .tuple #[.agg #[.int .i64 0, .int .i64 0, .int .i64 0], .bool false]) (by simp only [results, Tryd.results11]; go_simp) rfl ⟨?_, ?_⟩
      · simp [mixS, mixOk, h2]
      · repeat (first | exact kE | exact Ext.refl _ | apply Ext.alloc | apply Ext.drewN | apply Ext.drew | apply Ext.set0 | apply Ext.set1 | apply Ext.set2 | apply Ext.set3 | (refine Ext.setk ?_ (by omega) _) | (apply Ext.snoc; assumption))
  · go_enter Tryd.func11, Tryd.ntmps11
    go_wp2_with (first | (go_at_call 13; refine (StainOk_any _ _ _ _).mono ?_; rintro e w1 ⟨rfl, hb1⟩; obtain ⟨hc1, hf1, _⟩ := hb1.facts; have hs1 := hb1.size; (try simp only [World.size_alloc] at hs1); have hz1_0 : w.heap.size < w1.heap.size := (by omega); have hz1_1 : w.heap.size + 1 < w1.heap.size := (by omega); have hz1_2 : w.heap.size + 1 + 1 < w1.heap.size := (by omega); have hz1_3 : w.heap.size + 1 + 1 + 1 < w1.heap.size := (by omega)) | (go_at_call 20; refine (within_any _ _ _ _).mono ?_; rintro e w' ⟨rfl, rfl⟩))
    refine bodyPost_ret (v := .tuple #[.agg #[.int .i64 0, .int .i64 0, .int .i64 0], .bool false]) (by simp only [results, Tryd.results11]; go_simp) rfl ⟨?_, ?_⟩
    · simp [mixS, mixOk, h1]
    · repeat (first | exact kE | exact Ext.refl _ | apply Ext.alloc | apply Ext.drewN | apply Ext.drew | apply Ext.set0 | apply Ext.set1 | apply Ext.set2 | apply Ext.set3 | (refine Ext.setk ?_ (by omega) _) | (apply Ext.snoc; assumption))
end Go.Proofs.YtlpononcpocmoaaDoor
