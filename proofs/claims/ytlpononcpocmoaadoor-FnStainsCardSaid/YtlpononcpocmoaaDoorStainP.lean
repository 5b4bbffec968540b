/- Plain law on two stains. No condition. -/
import Derived.Test.YtlpononcpocmoaaDoorStain
import Derived.Test.YtlpononcpocmoaaDoorStainX
import Derived.Test.YtlpononcpocmoaaDoorLayAll
import Derived.Test.YtlpononcpocmoaaDoorStainT
set_option linter.unusedSimpArgs false
set_option linter.unusedVariables false
namespace Go.Proofs.YtlpononcpocmoaaDoor
open Go.RowKit

/-- The numbers of the law on stains. -/
structure Stains (a b c x y z : Int) (p p' q m o : P3) (m1 o1 d1 d2 d3 d4 : Bool) : Prop where
  p_ : p' = p
  q_ : q = p
  ok : stainOk p.1 p.2.1 p.2.2 = true
  l1 : p.1 ≤ a ∧ p.1 ≤ x
  l2 : p.2.1 ≤ b ∧ p.2.1 ≤ y
  l3 : p.2.2 ≤ c ∧ p.2.2 ≤ z
  m1_ : m1 = true
  o1_ : o1 = true
  o_ : o = (a, b, c)
  k1 : (a ≤ m.1 ∨ x ≤ m.1) ∧ (m.1 ≤ a ∨ m.1 ≤ x)
  k3 : (c ≤ m.2.2 ∨ z ≤ m.2.2) ∧ (m.2.2 ≤ c ∨ m.2.2 ≤ z)
  d1_ : d1 = false
  d23 : ¬ (d2 = true ∧ d3 = true)
  d4_ : (p.1 = a ∧ p.2.1 = b ∧ p.2.2 = c) ∨ d4 = true
theorem stainOk_in {a b c : Int} (h : 0 ≤ a ∧ a ≤ 1000 ∧ 0 ≤ b ∧ b ≤ 1000 ∧ 0 ≤ c ∧ c ≤ 1000) : stainOk a b c = true := by simp [stainOk, inR]; omega
theorem lay_in {a x : Int} (h0 : 0 ≤ a) (h1 : a ≤ 1000) (h2 : 0 ≤ x) (h3 : x ≤ 1000) : 0 ≤ lay a x ∧ lay a x ≤ a ∧ lay a x ≤ x := by
  unfold lay
  have p0 : 0 ≤ a * x := Int.mul_nonneg h0 h2
  have p1 : a * x ≤ a * 1000 := Int.mul_le_mul_of_nonneg_left h3 h0
  have p2 : a * x ≤ 1000 * x := Int.mul_le_mul_of_nonneg_right h1 h2
  omega
theorem lay_comm (a x : Int) : lay a x = lay x a := by unfold lay; rw [Int.mul_comm]
theorem lay_1000 {a : Int} : lay 1000 a = a := by unfold lay; omega
theorem mix_in {a x : Int} : (a ≤ mix1 50 a x ∨ x ≤ mix1 50 a x) ∧ (mix1 50 a x ≤ a ∨ mix1 50 a x ≤ x) := by unfold mix1; omega
theorem mix_all {a x : Int} : mix1 100 a x = a := by unfold mix1; omega
theorem stains_law {a b c x y z : Int} (hs : 0 ≤ a ∧ a ≤ 1000 ∧ 0 ≤ b ∧ b ≤ 1000 ∧ 0 ≤ c ∧ c ≤ 1000) (ht : 0 ≤ x ∧ x ≤ 1000 ∧ 0 ≤ y ∧ y ≤ 1000 ∧ 0 ≤ z ∧ z ≤ 1000) :
    Stains a b c x y z (layS a b c x y z) (layS x y z a b c) (layAllV [(a, b, c), (x, y, z)]) (mixS a b c x y z 50) (mixS a b c x y z 100) (mixOk a b c x y z 50) (mixOk a b c x y z 100) (darker a b c a b c) (darker a b c x y z) (darker x y z a b c) (darker (layS a b c x y z).1 (layS a b c x y z).2.1 (layS a b c x y z).2.2 a b c) := by
  have ks := stainOk_in hs
  have kt := stainOk_in ht
  have k1000 : stainOk 1000 1000 1000 = true := by decide
  have l1 := lay_in hs.1 hs.2.1 ht.1 ht.2.1
  have l2 := lay_in (a := b) (x := y) (by omega) (by omega) (by omega) (by omega)
  have l3 := lay_in (a := c) (x := z) (by omega) (by omega) (by omega) (by omega)
  have e1 : layS a b c x y z = (lay a x, lay b y, lay c z) := by simp [layS, ks, kt]
  have e2 : layS x y z a b c = (lay x a, lay y b, lay z c) := by simp [layS, ks, kt]
  have e3 : layAllV [(a, b, c), (x, y, z)] = (lay a x, lay b y, lay c z) := by
    unfold layAllV
    rw [if_pos (by simp [okS, ks, kt])]
    show layTo [(a, b, c), (x, y, z)] 2 = _
    have : layTo [(a, b, c), (x, y, z)] 1 = (a, b, c) := by
      show layS 1000 1000 1000 a b c = _
      simp [layS, ks, k1000, lay_1000]
    show layS (layTo [(a, b, c), (x, y, z)] 1).1 (layTo [(a, b, c), (x, y, z)] 1).2.1 (layTo [(a, b, c), (x, y, z)] 1).2.2 x y z = _
    rw [this]
    exact e1
  have i50 : inR 50 0 100 = true := by decide
  have i100 : inR 100 0 100 = true := by decide
  have kp : stainOk (lay a x) (lay b y) (lay c z) = true := stainOk_in ⟨by omega, by omega, by omega, by omega, by omega, by omega⟩
  rw [e1, e2, e3]
  refine ⟨?_, rfl, kp, ⟨l1.2.1, l1.2.2⟩, ⟨l2.2.1, l2.2.2⟩, ⟨l3.2.1, l3.2.2⟩, ?_, ?_, ?_, ?_, ?_, ?_, ?_, ?_⟩
  · rw [lay_comm x, lay_comm y, lay_comm z]
  · simp [mixOk, ks, kt, i50]
  · simp [mixOk, ks, kt, i100]
  · simp [mixS, ks, kt, i100, mix_all]
  · simp only [mixS, ks, kt, i50, Bool.and_self, if_true]
    exact mix_in
  · simp only [mixS, ks, kt, i50, Bool.and_self, if_true]
    exact mix_in
  · simp [darker]
  · rintro ⟨h1, h2⟩
    simp only [darker, Bool.and_eq_true, decide_eq_true_eq, Bool.not_eq_true', Bool.and_eq_false_iff, decide_eq_false_iff_not] at h1 h2
    omega
  · by_cases h : lay a x = a ∧ lay b y = b ∧ lay c z = c
    · exact .inl h
    · refine .inr ?_
      simp only [darker, ks, kp, Bool.true_and, Bool.and_eq_true, decide_eq_true_eq, Bool.not_eq_true', Bool.and_eq_false_iff, decide_eq_false_iff_not]
      omega
theorem text_fixed : textB 1 0 20 = ⟨#[49, 47, 48, 47, 50, 48]⟩ := by
  have h1 : dec 1 = ⟨#[49]⟩ := by
    unfold dec Lib.itoa
    rw [if_neg (by omega), show ((1 : Int).toNat) = 1 from rfl, Lib.decDigits_one (by omega)]
    rfl
  have h20 : dec 20 = ⟨#[50, 48]⟩ := by
    unfold dec Lib.itoa
    rw [if_neg (by omega), show ((20 : Int).toNat) = 20 from rfl, Lib.decDigits_two (by omega) (by omega)]
    rfl
  unfold textB
  rw [if_pos (by decide), h1, h20, dec_zero]
  rfl
end Go.Proofs.YtlpononcpocmoaaDoor
