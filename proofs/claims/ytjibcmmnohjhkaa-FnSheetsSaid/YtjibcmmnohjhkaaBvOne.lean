/- Plain law on best values: one piece alone, more pieces, areas. No condition. -/
import Derived.Test.YtjibcmmnohjhkaaBv
set_option linter.unusedSimpArgs false
set_option linter.unusedVariables false
namespace Go.Proofs.Ytjibcmmnohjhkaa

theorem ediv_add_le {a b p : Int} (hp : 1 ≤ p) : a / p + b / p ≤ (a + b) / p := by
  have h1 := Int.mul_ediv_add_emod a p
  have h2 := Int.mul_ediv_add_emod b p
  have h3 := Int.emod_nonneg a (show p ≠ 0 by omega)
  have h4 := Int.emod_nonneg b (show p ≠ 0 by omega)
  refine (Int.le_ediv_iff_mul_le (by omega)).2 ?_
  have e : (a / p + b / p) * p = p * (a / p) + p * (b / p) := by rw [Int.add_mul, Int.mul_comm, Int.mul_comm (b / p)]
  omega
theorem ediv_cut {a p : Int} (hp : 1 ≤ p) : p / p + (a - p) / p = a / p := by
  have h1 : p / p = 1 := Int.ediv_self (by omega)
  have h2 : (a - p) / p = a / p - 1 := by
    have := Int.sub_mul_ediv_right a 1 (show p ≠ 0 by omega)
    simpa using this
  omega
theorem piecesTo_one (p : Q2) (v : Int) (a b : Int) : pieceMax [p] [v] a b = if p.1 ≤ a ∧ p.2 ≤ b then max 0 v else 0 := by
  unfold pieceMax
  simp [piecesTo]
/-- One piece alone is cut in rows and columns. -/
theorem bv_one {p : Q2} {v : Int} (hp1 : 1 ≤ p.1) (hp2 : 1 ≤ p.2) (hv : 0 ≤ v) : ∀ (n a b : Nat), a + b ≤ n → bv [p] [v] a b = v * (((a : Int) / p.1) * ((b : Int) / p.2)) := by
  intro n
  induction n with
  | zero =>
    intro a b h
    obtain rfl : a = 0 := by omega
    obtain rfl : b = 0 := by omega
    rw [bv_zero (M := v) ⟨rfl, fun q hq => by simp at hq; subst hq; exact ⟨hp1, hp2⟩, fun x hx => by simp at hx; subst hx; exact ⟨hv, Int.le_refl _⟩⟩ hv (.inl rfl)]
    simp
  | succ n ih =>
    intro a b h
    have A : 0 ≤ (a : Int) / p.1 := Int.ediv_nonneg (by omega) (by omega)
    have B : 0 ≤ (b : Int) / p.2 := Int.ediv_nonneg (by omega) (by omega)
    have hAB := Int.mul_nonneg hv (Int.mul_nonneg A B)
    have up : bv [p] [v] a b ≤ v * (((a : Int) / p.1) * ((b : Int) / p.2)) := by
      rw [bv_eq]
      refine upMax_le (upMax_le ?_ (fun c h1 h2 => ?_)) (fun c h1 h2 => ?_)
      · rw [piecesTo_one]
        split
        · rename_i hf
          have a1 : 1 ≤ (a : Int) / p.1 := (Int.le_ediv_iff_mul_le (by omega)).2 (by omega)
          have b1 : 1 ≤ (b : Int) / p.2 := (Int.le_ediv_iff_mul_le (by omega)).2 (by omega)
          have h1 : 1 * 1 ≤ ((a : Int) / p.1) * ((b : Int) / p.2) := Int.mul_le_mul a1 b1 (by omega) (by omega)
          have h2 : v * 1 ≤ v * (((a : Int) / p.1) * ((b : Int) / p.2)) := Int.mul_le_mul_of_nonneg_left (by omega) hv
          omega
        · exact hAB
      · show bv [p] [v] c b + bv [p] [v] (a - c) b ≤ _
        rw [ih c b (by omega), ih (a - c) b (by omega), ← Int.mul_add, ← Int.add_mul]
        refine Int.mul_le_mul_of_nonneg_left (Int.mul_le_mul_of_nonneg_right ?_ B) hv
        have := ediv_add_le (a := (c : Int)) (b := ((a - c : Nat) : Int)) hp1
        rwa [show (c : Int) + ((a - c : Nat) : Int) = a by omega] at this
      · show bv [p] [v] a c + bv [p] [v] a (b - c) ≤ _
        rw [ih a c (by omega), ih a (b - c) (by omega), ← Int.mul_add, ← Int.mul_add]
        refine Int.mul_le_mul_of_nonneg_left (Int.mul_le_mul_of_nonneg_left ?_ A) hv
        have := ediv_add_le (a := (c : Int)) (b := ((b - c : Nat) : Int)) hp2
        rwa [show (c : Int) + ((b - c : Nat) : Int) = b by omega] at this
    have down : v * (((a : Int) / p.1) * ((b : Int) / p.2)) ≤ bv [p] [v] a b := by
      by_cases f1 : p.1 ≤ (a : Int)
      · by_cases f2 : p.2 ≤ (b : Int)
        · obtain ⟨p1, hp1e⟩ := Int.eq_ofNat_of_zero_le (show 0 ≤ p.1 by omega)
          obtain ⟨p2, hp2e⟩ := Int.eq_ofNat_of_zero_le (show 0 ≤ p.2 by omega)
          by_cases g1 : 2 * p1 ≤ a
          · have h1 : bv [p] [v] p1 b + bv [p] [v] (a - p1) b ≤ bv [p] [v] a b := by
              rw [bv_eq [p] [v] a b]
              refine Int.le_trans ?_ (le_upMax _)
              exact at_upMax (g := fun c => bv [p] [v] c b + bv [p] [v] (a - c) b) (c := p1) (by omega) (by omega)
            rw [ih p1 b (by omega), ih (a - p1) b (by omega), ← Int.mul_add, ← Int.add_mul] at h1
            have e := ediv_cut (a := (a : Int)) hp1
            rw [show ((a - p1 : Nat) : Int) = (a : Int) - p.1 by omega, ← hp1e, e] at h1
            exact h1
          · by_cases g2 : 2 * p2 ≤ b
            · have h1 : bv [p] [v] a p2 + bv [p] [v] a (b - p2) ≤ bv [p] [v] a b := by
                rw [bv_eq [p] [v] a b]
                exact at_upMax (g := fun c => bv [p] [v] a c + bv [p] [v] a (b - c)) (c := p2) (by omega) (by omega)
              rw [ih a p2 (by omega), ih a (b - p2) (by omega), ← Int.mul_add, ← Int.mul_add] at h1
              have e := ediv_cut (a := (b : Int)) hp2
              rw [show ((b - p2 : Nat) : Int) = (b : Int) - p.2 by omega, ← hp2e, e] at h1
              exact h1
            · have a1 : (a : Int) / p.1 = 1 := by
                refine Int.le_antisymm ?_ ((Int.le_ediv_iff_mul_le (by omega)).2 (by omega))
                have : (a : Int) / p.1 < 2 := Int.ediv_lt_of_lt_mul (by omega) (by omega)
                omega
              have b1 : (b : Int) / p.2 = 1 := by
                refine Int.le_antisymm ?_ ((Int.le_ediv_iff_mul_le (by omega)).2 (by omega))
                have : (b : Int) / p.2 < 2 := Int.ediv_lt_of_lt_mul (by omega) (by omega)
                omega
              rw [a1, b1, bv_eq]
              refine Int.le_trans (Int.le_trans ?_ (le_upMax _)) (le_upMax _)
              rw [piecesTo_one, if_pos ⟨f1, f2⟩]
              omega
        · have b0 : (b : Int) / p.2 = 0 := Int.ediv_eq_zero_of_lt (by omega) (by omega)
          rw [b0]
          simpa using bv_nonneg _ _ _ _
      · have a0 : (a : Int) / p.1 = 0 := Int.ediv_eq_zero_of_lt (by omega) (by omega)
        rw [a0]
        simpa using bv_nonneg _ _ _ _
    omega
theorem bv_mono {l l' : List Q2} {vs vs' : List Int} (h : ∀ a b : Int, pieceMax l vs a b ≤ pieceMax l' vs' a b) : ∀ (n a b : Nat), a + b ≤ n → bv l vs a b ≤ bv l' vs' a b := by
  intro n
  induction n with
  | zero =>
    intro a b hn
    obtain rfl : a = 0 := by omega
    obtain rfl : b = 0 := by omega
    rw [bv_eq, bv_eq]
    exact h _ _
  | succ n ih =>
    intro a b hn
    rw [bv_eq, bv_eq]
    refine upMax_mono (upMax_mono (h _ _) (fun c h1 h2 => ?_)) (fun c h1 h2 => ?_)
    · have e1 := ih c b (by omega)
      have e2 := ih (a - c) b (by omega)
      show bv l vs c b + bv l vs (a - c) b ≤ bv l' vs' c b + bv l' vs' (a - c) b
      omega
    · have e1 := ih a c (by omega)
      have e2 := ih a (b - c) (by omega)
      show bv l vs a c + bv l vs a (b - c) ≤ bv l' vs' a c + bv l' vs' a (b - c)
      omega
theorem pieceMax_two (p q : Q2) (x y a b : Int) : pieceMax [p, q] [x, y] a b = (let n := if p.1 ≤ a ∧ p.2 ≤ b then max 0 x else 0; if q.1 ≤ a ∧ q.2 ≤ b then max n y else n) := by
  unfold pieceMax
  simp [piecesTo]
theorem bv_two_left (p q : Q2) (x y : Int) (a b : Nat) : bv [p] [x] a b ≤ bv [p, q] [x, y] a b :=
  bv_mono (fun a b => by rw [piecesTo_one, pieceMax_two]; simp only []; split <;> split <;> omega) (a + b) a b (Nat.le_refl _)
theorem bv_two_right (p q : Q2) (x y : Int) (a b : Nat) : bv [q] [y] a b ≤ bv [p, q] [x, y] a b :=
  bv_mono (fun a b => by rw [piecesTo_one, pieceMax_two]; simp only []; split <;> split <;> omega) (a + b) a b (Nat.le_refl _)
/-- Where no piece is worth more than its area, no rectangle is. -/
theorem bv_area {l : List Q2} {vs : List Int} (hp : ∀ p ∈ l, 1 ≤ p.1 ∧ 1 ≤ p.2) (h : ∀ (k : Nat) (p : Q2) (v : Int), l[k]? = some p → vs[k]? = some v → v ≤ p.1 * p.2) : ∀ (n a b : Nat), a + b ≤ n → bv l vs a b ≤ (a : Int) * b := by
  have pc : ∀ (a b : Nat) (k : Nat), piecesTo l vs a b k ≤ (a : Int) * b := by
    intro a b k
    induction k with
    | zero => exact Int.mul_nonneg (by omega) (by omega)
    | succ k ih =>
      simp only [piecesTo]
      split
      · rename_i p v e1 e2
        have h1 := h k p v e1 e2
        have h2 := hp p (List.mem_of_getElem? e1)
        split
        · rename_i hf
          have h3 : p.1 * p.2 ≤ (a : Int) * b := Int.mul_le_mul hf.1 hf.2 (by omega) (by omega)
          omega
        · exact ih
      · exact ih
  intro n
  induction n with
  | zero =>
    intro a b hn
    obtain rfl : a = 0 := by omega
    obtain rfl : b = 0 := by omega
    rw [bv_eq]
    exact pc 0 0 _
  | succ n ih =>
    intro a b hn
    rw [bv_eq]
    refine upMax_le (upMax_le (pc a b _) (fun c h1 h2 => ?_)) (fun c h1 h2 => ?_)
    · have e1 := ih c b (by omega)
      have e2 := ih (a - c) b (by omega)
      have e3 : (c : Int) * b + ((a - c : Nat) : Int) * b = (a : Int) * b := by
        rw [← Int.add_mul]
        congr 1
        omega
      show bv l vs c b + bv l vs (a - c) b ≤ _
      omega
    · have e1 := ih a c (by omega)
      have e2 := ih a (b - c) (by omega)
      have e3 : (a : Int) * c + (a : Int) * ((b - c : Nat) : Int) = (a : Int) * b := by
        rw [← Int.mul_add]
        congr 1
        omega
      show bv l vs a c + bv l vs a (b - c) ≤ _
      omega
end Go.Proofs.Ytjibcmmnohjhkaa
