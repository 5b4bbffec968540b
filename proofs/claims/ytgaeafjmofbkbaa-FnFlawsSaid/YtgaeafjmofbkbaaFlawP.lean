/- Plain law on flaws: bounds, one spot more, no spots. No condition. -/
import Derived.Test.YtgaeafjmofbkbaaFlawH
set_option linter.unusedSimpArgs false
set_option linter.unusedVariables false
namespace Go.Proofs.Ytgaeafjmofbkbaa

structure FlawIn (W H : Int) (l : List P2) : Prop where
  w : 1 ≤ W ∧ W ≤ 8
  h : 1 ≤ H ∧ H ≤ 8
  n : l.length ≤ 6
  all : ∀ s ∈ l, 0 ≤ s.1 ∧ s.1 < W ∧ 0 ≤ s.2 ∧ s.2 < H
theorem FlawIn.sheet {W H : Int} {l : List P2} (h : FlawIn W H l) : sheetOk W H = true := by
  have := h.w
  have := h.h
  simp only [sheetOk, inR, Bool.and_eq_true, decide_eq_true_eq]
  omega
theorem FlawIn.ok {W H : Int} {l : List P2} (h : FlawIn W H l) : flawedOk W H l = true := by
  have h1 := h.sheet
  have h2 := h.n
  simp only [flawedOk, Bool.and_eq_true, decide_eq_true_eq, List.all_eq_true]
  refine ⟨⟨h1, by omega⟩, fun s hs => ?_⟩
  have := h.all s hs
  simp only [spotIn, inR, Bool.and_eq_true, decide_eq_true_eq]
  omega
theorem clear_iff {W H : Int} {l : List P2} {a p : P2} : clearB W H l a p = true ↔ flawedOk W H l = true ∧ sheetOk p.1 p.2 = true ∧ (0 ≤ a.1 ∧ a.1 ≤ W - p.1) ∧ (0 ≤ a.2 ∧ a.2 ≤ H - p.2) ∧ ∀ s ∈ l, lies s a p = false := by
  simp only [clearB, inR, Bool.and_eq_true, decide_eq_true_eq, List.all_eq_true, Bool.not_eq_true']
  constructor
  · rintro ⟨⟨⟨⟨h1, h2⟩, h3⟩, h4⟩, h5⟩; exact ⟨h1, h2, h3, h4, h5⟩
  · rintro ⟨h1, h2, h3, h4, h5⟩; exact ⟨⟨⟨⟨h1, h2⟩, h3⟩, h4⟩, h5⟩
theorem spots_iff {W H : Int} {l : List P2} (h : FlawIn W H l) {a p : P2} (ha : 0 ≤ a.1 ∧ a.1 ≤ 40 ∧ 0 ≤ a.2 ∧ a.2 ≤ 40) : (spots W H l a p = 0 ↔ ∀ s ∈ l, lies s a p = false) ∧ 0 ≤ spots W H l a p ∧ spots W H l a p ≤ l.length := by
  have h1 : countOk W H l a = true := by
    simp only [countOk, inR, Bool.and_eq_true, decide_eq_true_eq]
    exact ⟨⟨h.ok, by omega⟩, by omega⟩
  have h2 := countTo_le l a p l.length
  have h3 := countTo_zero l a p
  unfold spots
  rw [if_pos h1]
  simp only [List.all_eq_true, Bool.not_eq_true'] at h3
  refine ⟨?_, by omega, by omega⟩
  rw [← h3]
  omega
theorem clear_spots {W H : Int} {l : List P2} (h : FlawIn W H l) {a p : P2} (hp : 1 ≤ p.1 ∧ p.1 ≤ 8 ∧ 1 ≤ p.2 ∧ p.2 ≤ 8) (ha : 0 ≤ a.1 ∧ a.1 ≤ W - p.1 ∧ 0 ≤ a.2 ∧ a.2 ≤ H - p.2) : clearB W H l a p = true ↔ spots W H l a p = 0 := by
  have h1 := h.w
  have h2 := h.h
  rw [(spots_iff h (a := a) (p := p) (by omega)).1, clear_iff]
  refine ⟨fun e => e.2.2.2.2, fun e => ⟨h.ok, ?_, by omega, by omega, e⟩⟩
  simp only [sheetOk, inR, Bool.and_eq_true, decide_eq_true_eq]
  omega
theorem clear_less {W H : Int} {l : List P2} {q a p : P2} (h : FlawIn W H l) (hc : clearB W H (l ++ [q]) a p = true) : clearB W H l a p = true := by
  obtain ⟨_, h2, h3, h4, h5⟩ := clear_iff.1 hc
  exact clear_iff.2 ⟨h.ok, h2, h3, h4, fun s hs => h5 s (List.mem_append_left _ hs)⟩
theorem flaws_law {W H : Int} {l : List P2} (h : FlawIn W H l) {p0 p1 : Int} (hp : 1 ≤ p0 ∧ p0 ≤ 4 ∧ 1 ≤ p1 ∧ p1 ≤ 4) {a b : Int} {ok : Bool} (hv : FC W H l (p0, p1) a b ok) {v : Int} (hb : LC W H l v) {q : P2} {v2 : Int} (hb2 : LC W H (l ++ [q]) v2) :
    v ≤ W * H ∧ v2 ≤ v ∧ (v = W * H ↔ (l.length : Int) = 0) ∧ (ok = true → p0 * p1 ≤ v) ∧ spots W H l (0, 0) (W, H) ≤ l.length ∧ (spots W H l (0, 0) (W, H) = 0 ↔ (l.length : Int) = 0) := by
  have hw := h.w
  have hh := h.h
  have hpos : 0 < W * H := Int.mul_pos (by omega) (by omega)
  have hempty : (∀ s ∈ l, lies s (0, 0) (W, H) = false) ↔ (l.length : Int) = 0 := by
    constructor
    · intro e
      cases l with
      | nil => rfl
      | cons s t =>
        have h1 := e s (by simp)
        have h2 := h.all s (by simp)
        simp [lies] at h1
        omega
    · intro e s hs
      have : l = [] := List.length_eq_zero_iff.1 (by omega)
      rw [this] at hs
      simp at hs
  have hsp := spots_iff h (a := (0, 0)) (p := (W, H)) (by simp)
  have hle : ∀ x y : Int, 1 ≤ x → x ≤ W → 1 ≤ y → y ≤ H → x * y ≤ W * H := fun x y h1 h2 h3 h4 => Int.mul_le_mul h2 h4 (by omega) (by omega)
  obtain ⟨b0, b1, b2⟩ := hb
  obtain ⟨d0, d1, d2⟩ := hb2
  refine ⟨?_, ?_, ⟨fun e => ?_, fun e => ?_⟩, fun e => ?_, hsp.2.2, hsp.1.trans hempty⟩
  · rcases b1 with e | ⟨x, y, ⟨h1, h2, h3, h4⟩, _, e⟩
    · omega
    · rw [e]; exact hle x y h1 h2 h3 h4
  · rcases d1 with e | ⟨x, y, hD, ⟨u, t, hc⟩, e⟩
    · omega
    · rw [e]; exact b2 x y hD ⟨u, t, clear_less h hc⟩
  · rcases b1 with e' | ⟨x, y, ⟨h1, h2, h3, h4⟩, ⟨u, t, hc⟩, e'⟩
    · omega
    · have hx : x = W := by
        rcases Int.lt_or_le x W with hlt | hge
        · have h5 : x * y ≤ x * H := Int.mul_le_mul_of_nonneg_left h4 (by omega)
          have h6 : x * H < W * H := Int.mul_lt_mul_of_pos_right hlt (by omega)
          omega
        · omega
      have hy : y = H := by
        rcases Int.lt_or_le y H with hlt | hge
        · have h6 : x * y < x * H := Int.mul_lt_mul_of_pos_left hlt (by omega)
          rw [hx] at h6 e'
          omega
        · omega
      subst hx hy
      obtain ⟨_, _, h5, h6, h7⟩ := clear_iff.1 hc
      dsimp only at h5 h6
      obtain rfl : u = 0 := by omega
      obtain rfl : t = 0 := by omega
      exact hempty.1 h7
  · have h5 : clearB W H l (0, 0) (W, H) = true := clear_iff.2 ⟨h.ok, h.sheet, by simp, by simp, hempty.2 e⟩
    have h6 := b2 W H ⟨by omega, by omega, by omega, by omega⟩ ⟨0, 0, h5⟩
    have h7 : v ≤ W * H := by
      rcases b1 with e | ⟨x, y, ⟨h1, h2, h3, h4⟩, _, e⟩
      · omega
      · rw [e]; exact hle x y h1 h2 h3 h4
    omega
  · rcases hv with ⟨_, h1, _⟩ | ⟨e', _⟩
    · obtain ⟨_, _, h3, h4, _⟩ := clear_iff.1 h1
      dsimp only at h3 h4
      exact b2 p0 p1 ⟨by omega, by omega, by omega, by omega⟩ ⟨a, b, h1⟩
    · rw [e] at e'; cases e'
/-- Ahead of the first clear place none is clear. -/
theorem before_law {W H : Int} {l : List P2} (h : FlawIn W H l) {p0 p1 : Int} (hp : 1 ≤ p0 ∧ p0 ≤ 4 ∧ 1 ≤ p1 ∧ p1 ≤ 4) {a b : Int} {ok : Bool} (hv : FC W H l (p0, p1) a b ok) {u t : Int} (hu : 0 ≤ u ∧ u ≤ W - p0) (ht : 0 ≤ t ∧ t ≤ H - p1)
    (hb : ok = false ∨ t < b ∨ (t = b ∧ u < a)) : clearB W H l (u, t) (p0, p1) = false ∧ spots W H l (u, t) (p0, p1) ≠ 0 := by
  have h1 : clearB W H l (u, t) (p0, p1) = false := by
    rcases hv with ⟨rfl, _, h2⟩ | ⟨_, _, _, h2⟩
    · exact h2 u t (by simpa using hb)
    · exact h2 u t
  refine ⟨h1, fun e => ?_⟩
  have := (clear_spots h (a := (u, t)) (p := (p0, p1)) (by dsimp only; omega) (by dsimp only; omega)).2 e
  rw [h1] at this
  cases this
theorem first_law {W H : Int} {l : List P2} (h : FlawIn W H l) {p0 p1 : Int} (hp : 1 ≤ p0 ∧ p0 ≤ 4 ∧ 1 ≤ p1 ∧ p1 ≤ 4) {a b : Int} (hv : FC W H l (p0, p1) a b true) : clearB W H l (a, b) (p0, p1) = true ∧ spots W H l (a, b) (p0, p1) = 0 := by
  rcases hv with ⟨_, h1, _⟩ | ⟨e, _⟩
  · obtain ⟨_, _, h3, h4, _⟩ := clear_iff.1 h1
    dsimp only at h3 h4
    exact ⟨h1, (clear_spots h (a := (a, b)) (p := (p0, p1)) (by dsimp only; omega) (by dsimp only; omega)).1 h1⟩
  · cases e
end Go.Proofs.Ytgaeafjmofbkbaa
