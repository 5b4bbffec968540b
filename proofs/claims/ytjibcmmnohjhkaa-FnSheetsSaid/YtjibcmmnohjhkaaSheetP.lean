/- Plain law on sheets with one piece and with two. No condition. -/
import Derived.Test.YtjibcmmnohjhkaaBvOne
import Derived.Test.YtjibcmmnohjhkaaBestG
import Derived.Test.YtjibcmmnohjhkaaCuts
set_option linter.unusedSimpArgs false
set_option linter.unusedVariables false
namespace Go.Proofs.Ytjibcmmnohjhkaa
open Go.RowKit

/-- The numbers of the law on sheets. -/
structure Sheets (a b x y u v one n waste both mq less c : Int) (fit fit' fitT : Bool) : Prop where
  one_ : one = n
  waste_ : waste = a * b - n * x * y
  both_ : one ≤ both
  both' : mq ≤ both
  less_ : less ≤ waste
  less0 : 0 ≤ less
  n_ : decide (0 < n) = fit
  c_ : decide (0 ≤ c) = fit
  c2 : c ≤ 2
  c0 : c = 0 ↔ a = x ∧ b = y
  f_ : fit' = (fit || fitT)
  n0 : 0 ≤ n
  n1 : n ≤ 256
theorem sheetOk_in {a b : Int} (h : 1 ≤ a ∧ a ≤ 16 ∧ 1 ≤ b ∧ b ≤ 16) : sheetOk a b = true := by simp [sheetOk, inR]; omega
theorem best_two {a b : Int} {l : List P2} {vs : List Int} (ha : sheetOk a b = true) (hl : l.length ≤ 6) (hp : ∀ p ∈ l, sheetOk p.1 p.2 = true) (hv : vs.length = l.length) (hvs : ∀ v ∈ vs, 0 ≤ v ∧ v ≤ 1000) : bestVal a b l vs = bv l vs a.toNat b.toNat := by
  unfold bestVal sheetsOkB
  rw [if_pos]
  simp only [ha, hl, decide_true, Bool.true_and, Bool.and_eq_true, List.all_eq_true, decide_eq_true_eq, inR]
  exact ⟨⟨hp, hv⟩, fun v h => by have := hvs v h; first | omega | (simp; omega)⟩
theorem waste_two {a b : Int} {l : List P2} (ha : sheetOk a b = true) (hl : l.length ≤ 6) (hp : ∀ p ∈ l, sheetOk p.1 p.2 = true) : wasteVal a b l = a * b - bv l (areas l) a.toNat b.toNat := by
  unfold wasteVal sheetsOkB
  rw [if_pos]
  simp only [ha, hl, decide_true, Bool.true_and, List.all_eq_true]
  exact hp
theorem waste_ones {a b : Int} (h : 1 ≤ a ∧ a ≤ 16 ∧ 1 ≤ b ∧ b ≤ 16) : wasteVal a b [(1, 1)] = 0 := by
  rw [waste_two (sheetOk_in h) (by simp) (by simp [sheetOk, inR])]
  have h1 := bv_one (p := (1, 1)) (v := 1 * 1) (by simp) (by simp) (by simp) _ a.toNat b.toNat (Nat.le_refl _)
  have e1 : ((a.toNat : Nat) : Int) = a := by omega
  have e2 : ((b.toNat : Nat) : Int) = b := by omega
  rw [e1, e2] at h1
  show a * b - bv [(1, 1)] [1 * 1] a.toNat b.toNat = 0
  rw [h1]
  simp
theorem sheets_law {a b x y u v : Int} (hs : 1 ≤ a ∧ a ≤ 16 ∧ 1 ≤ b ∧ b ≤ 16) (hp : 1 ≤ x ∧ x ≤ 8 ∧ 1 ≤ y ∧ y ≤ 8) (hq : 1 ≤ u ∧ u ≤ 8 ∧ 1 ≤ v ∧ v ≤ 8) :
    Sheets a b x y u v (bestVal a b [(x, y)] [1]) (most a b x y) (wasteVal a b [(x, y)]) (bestVal a b [(x, y), (u, v)] [1, 1]) (most a b u v) (wasteVal a b [(x, y), (u, v)]) (cuts a b x y) (fits a b x y true) (fits a b x y false) (fits a b y x true) := by
  have ka := sheetOk_in hs
  have kp := sheetOk_in (a := x) (b := y) ⟨by omega, by omega, by omega, by omega⟩
  have kt := sheetOk_in (a := y) (b := x) ⟨by omega, by omega, by omega, by omega⟩
  have kq := sheetOk_in (a := u) (b := v) ⟨by omega, by omega, by omega, by omega⟩
  have ea : ((a.toNat : Nat) : Int) = a := by omega
  have eb : ((b.toNat : Nat) : Int) = b := by omega
  have o1 : bestVal a b [(x, y)] [1] = bv [(x, y)] [1] a.toNat b.toNat := best_two ka (by simp) (by simpa using kp) (by simp) (by simp)
  have two1 : bestVal a b [(x, y), (u, v)] [1, 1] = bv [(x, y), (u, v)] [1, 1] a.toNat b.toNat := best_two ka (by simp) (by simpa using ⟨kp, kq⟩) (by simp) (by simp)
  have w1 : wasteVal a b [(x, y)] = a * b - bv [(x, y)] [x * y] a.toNat b.toNat := waste_two ka (by simp) (by simpa using kp)
  have w2 : wasteVal a b [(x, y), (u, v)] = a * b - bv [(x, y), (u, v)] [x * y, u * v] a.toNat b.toNat := waste_two ka (by simp) (by simpa using ⟨kp, kq⟩)
  have m1 : most a b x y = a / x * (b / y) := by simp [most, ka, kp]
  have m2 : most a b u v = a / u * (b / v) := by simp [most, ka, kq]
  have b1 := bv_one (p := (x, y)) (v := 1) hp.1 hp.2.2.1 (by omega) _ a.toNat b.toNat (Nat.le_refl _)
  have b2 := bv_one (p := (u, v)) (v := 1) hq.1 hq.2.2.1 (by omega) _ a.toNat b.toNat (Nat.le_refl _)
  have b3 := bv_one (p := (x, y)) (v := x * y) hp.1 hp.2.2.1 (Int.mul_nonneg (by omega) (by omega)) _ a.toNat b.toNat (Nat.le_refl _)
  have b4 := bv_two_left (x, y) (u, v) 1 1 a.toNat b.toNat
  have b5 := bv_two_right (x, y) (u, v) 1 1 a.toNat b.toNat
  have b6 := bv_two_left (x, y) (u, v) (x * y) (u * v) a.toNat b.toNat
  have b7 := bv_area (l := [(x, y), (u, v)]) (vs := [x * y, u * v]) (by simp; omega) (fun k p v' h1 h2 => by
    match k with
    | 0 => simp at h1 h2; subst h1 h2; exact Int.le_refl _
    | 1 => simp at h1 h2; subst h1 h2; exact Int.le_refl _
    | k + 2 => simp at h1) _ a.toNat b.toNat (Nat.le_refl _)
  rw [ea, eb] at b1 b2 b3 b7
  dsimp only at b1 b2 b3
  have A0 : 0 ≤ a / x := Int.ediv_nonneg (by omega) (by omega)
  have B0 : 0 ≤ b / y := Int.ediv_nonneg (by omega) (by omega)
  have hA : 1 ≤ a / x ↔ x ≤ a := by rw [Int.le_ediv_iff_mul_le (by omega)]; omega
  have hB : 1 ≤ b / y ↔ y ≤ b := by rw [Int.le_ediv_iff_mul_le (by omega)]; omega
  have hf : fits a b x y true = decide (x ≤ a ∧ y ≤ b) := by simp [fits, ka, kp]
  have hpos : 0 < a / x * (b / y) ↔ x ≤ a ∧ y ≤ b := by
    rw [← hA, ← hB]
    constructor
    · intro h
      by_cases h1 : a / x = 0
      · rw [h1, Int.zero_mul] at h; omega
      · by_cases h2 : b / y = 0
        · rw [h2, Int.mul_zero] at h; omega
        · omega
    · rintro ⟨h1, h2⟩
      exact Int.mul_pos (by omega) (by omega)
  have c01 : ∀ p q : Int, 0 ≤ cut1 p q ∧ cut1 p q ≤ 1 ∧ (cut1 p q = 0 ↔ p = q) := by
    intro p q
    by_cases h : q = p
    · subst h; simp [cut1]
    · simp [cut1, h]; omega
  refine ⟨?_, ?_, ?_, ?_, ?_, ?_, ?_, ?_, ?_, ?_, ?_, ?_, ?_⟩
  · rw [o1, b1, m1, Int.one_mul]
  · rw [w1, b3, m1, Int.mul_comm (x * y), Int.mul_assoc (a / x * (b / y)) x y]
  · rw [o1, two1]; exact b4
  · rw [m2, two1]; omega
  · rw [w1, w2]; omega
  · rw [w2]; omega
  · rw [m1, hf]; exact decide_eq_decide.2 hpos
  · have h1 := c01 a x
    have h2 := c01 b y
    rw [hf]
    unfold cuts
    rw [hf]
    split
    · rename_i h
      rw [h]
      refine decide_eq_true ?_
      omega
    · rename_i h
      have : decide (x ≤ a ∧ y ≤ b) = false := by simpa using h
      rw [this]
      simp
  · unfold cuts
    have h1 := c01 a x
    have h2 := c01 b y
    split <;> omega
  · unfold cuts
    have h1 := c01 a x
    have h2 := c01 b y
    rw [hf]
    split
    · omega
    · rename_i h
      have : ¬ (x ≤ a ∧ y ≤ b) := by simpa using h
      omega
  · simp only [fits, ka, kp, kt, Bool.true_and, Bool.not_true, Bool.false_and, Bool.or_false, Bool.not_false]
  · rw [m1]; exact Int.mul_nonneg A0 B0
  · rw [m1]
    have h1 : a / x ≤ a := Int.ediv_le_self _ (by omega)
    have h2 : b / y ≤ b := Int.ediv_le_self _ (by omega)
    have h3 : a / x * (b / y) ≤ 16 * 16 := Int.mul_le_mul (by omega) (by omega) B0 (by omega)
    omega
end Go.Proofs.Ytjibcmmnohjhkaa
