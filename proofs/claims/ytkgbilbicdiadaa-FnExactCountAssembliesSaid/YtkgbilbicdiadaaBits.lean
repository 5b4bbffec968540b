/- Plain law on sets of numbers kept as bits of an int. No condition but that they are small. -/
import Derived.Laws.BitsLemmas
set_option linter.unusedSimpArgs false
set_option linter.unusedVariables false

namespace Go.Proofs.Ytkgbilbicdiadaa

theorem wraps_i64 (n : Int) (h₀ : 0 ≤ n) (h₁ : n < 2 ^ 62) : IntKind.i64.wrap n = n := by rw [IntKind.wrap_i64]; omega
theorem i64_and (a b : Nat) (ha : a < 2 ^ 62) (hb : b < 2 ^ 62) : bits .and .i64 (a : Int) (b : Int) = ((a &&& b : Nat) : Int) := (bits_nat .i64 62 (by decide) wraps_i64 a b ha hb).1
theorem i64_or (a b : Nat) (ha : a < 2 ^ 62) (hb : b < 2 ^ 62) : bits .or .i64 (a : Int) (b : Int) = ((a ||| b : Nat) : Int) := (bits_nat .i64 62 (by decide) wraps_i64 a b ha hb).2
theorem i64_andNot (a b : Nat) (ha : a < 2 ^ 62) (hb : b < 2 ^ 62) : bits .andNot .i64 (a : Int) (b : Int) = ((a ^^^ (a &&& b) : Nat) : Int) := by
  have ha' : a % 2 ^ 64 = a := Nat.mod_eq_of_lt (by omega)
  have hb' : b % 2 ^ 64 = b := Nat.mod_eq_of_lt (by omega)
  have e : (BitVec.ofInt 64 (a : Int) &&& ~~~(BitVec.ofInt 64 (b : Int))).toNat = a ^^^ (a &&& b) := by
    refine Nat.eq_of_testBit_eq fun i => ?_
    rw [BitVec.testBit_toNat, BitVec.getLsbD_and, BitVec.getLsbD_not, Nat.testBit_xor, Nat.testBit_and]
    simp only [BitVec.ofInt_natCast, BitVec.getLsbD_ofNat]
    by_cases hi : i < 64
    · simp only [hi, decide_true, Bool.true_and]
      cases a.testBit i <;> cases b.testBit i <;> rfl
    · have h1 : a.testBit i = false := Nat.testBit_lt_two_pow (Nat.lt_of_lt_of_le ha (Nat.pow_le_pow_right (by decide) (by omega)))
      simp [hi, h1]
  show IntKind.i64.wrap ((BitVec.ofInt 64 (a : Int) &&& ~~~(BitVec.ofInt 64 (b : Int))).toNat : Nat) = _
  rw [e]
  refine wraps_i64 _ (Int.natCast_nonneg _) ?_
  have := Nat.xor_lt_two_pow ha (Nat.and_lt_two_pow a hb)
  omega
theorem bit_at (s i : Nat) (hs : s < 2 ^ 62) : bits .and .i64 ((s : Int) / 2 ^ i) 1 = if s.testBit i then 1 else 0 := by
  have e : (s : Int) / 2 ^ i = ((s / 2 ^ i : Nat) : Int) := by simp
  have h2 : s / 2 ^ i < 2 ^ 62 := Nat.lt_of_le_of_lt (Nat.div_le_self _ _) hs
  have := i64_and (s / 2 ^ i) 1 h2 (by decide)
  rw [e]
  refine this.trans ?_
  rw [Nat.and_one_is_mod]
  have h := Nat.testBit_eq_decide_div_mod_eq (x := s) (i := i)
  by_cases hb : s / 2 ^ i % 2 = 1
  · rw [h, hb]; simp
  · have : s / 2 ^ i % 2 = 0 := by omega
    rw [h, this]; simp
/-- The greatest part of a set below another one. -/
theorem sub_next : ∀ {s p q : Nat}, p &&& s = p → q &&& s = q → q < p → q ≤ (p - 1) &&& s
  | s, p, q, hp, hq, h => by
    by_cases hp0 : p = 0
    · omega
    have half : ∀ {x y : Nat}, x &&& y = x → (x / 2) &&& (y / 2) = x / 2 := fun {x y} h => by
      refine Nat.eq_of_testBit_eq fun i => ?_
      have := congrArg (fun z => Nat.testBit z (i + 1)) h
      simp only [Nat.testBit_and] at this
      rw [Nat.testBit_succ, Nat.testBit_succ] at this
      rw [Nat.testBit_and]
      exact this
    have odd : ∀ {x y : Nat}, x &&& y = x → x % 2 = 1 → y % 2 = 1 := fun {x y} h e => by
      have := congrArg (fun z => Nat.testBit z 0) h
      simp only [Nat.testBit_zero, e] at this
      simp at this
      exact this.2
    have mk : ∀ x y : Nat, x &&& y = 2 * ((x / 2) &&& (y / 2)) + (if x % 2 = 1 ∧ y % 2 = 1 then 1 else 0) := fun x y => by
      have h1 := Nat.and_div_two (a := x) (b := y)
      have h2 : (x &&& y) % 2 = if x % 2 = 1 ∧ y % 2 = 1 then 1 else 0 := by
        have := @Nat.and_mod_two_eq_one x y
        split <;> omega
      omega
    have hp2 := half hp
    have hq2 := half hq
    by_cases hb : p % 2 = 1
    · have e : (p - 1) / 2 = p / 2 := by omega
      have e2 : (p - 1) % 2 = 0 := by omega
      rw [mk (p - 1) s, e, hp2, e2]
      simp
      omega
    · have e : (p - 1) / 2 = p / 2 - 1 := by omega
      have e2 : (p - 1) % 2 = 1 := by omega
      rw [mk (p - 1) s, e, e2]
      by_cases hlt : q / 2 < p / 2
      · have ih := sub_next (s := s / 2) hp2 hq2 hlt
        by_cases hs : s % 2 = 1
        · rw [if_pos ⟨rfl, hs⟩]
          omega
        · have : q % 2 ≠ 1 := fun h => hs (odd hq h)
          rw [if_neg (by omega)]
          omega
      · omega
termination_by _ p => p
theorem sub_le {s p : Nat} (h : p &&& s = p) : p ≤ s := by rw [← h]; exact Nat.and_le_right
theorem sub_prev (s p : Nat) : ((p - 1) &&& s) &&& s = (p - 1) &&& s := by rw [Nat.and_assoc, Nat.and_self]
theorem xor_sub : ∀ {s p : Nat}, p &&& s = p → s ^^^ p = s - p
  | s, p, h => by
    by_cases hs : s = 0
    · subst hs
      have : p = 0 := by simpa using h.symm
      subst this
      rfl
    have h2 : p / 2 &&& s / 2 = p / 2 := by
      have := congrArg (· / 2) h
      simpa [Nat.and_div_two] using this
    have ih := xor_sub (s := s / 2) h2
    have e1 := @Nat.xor_mod_two_eq_one s p
    have e2 := Nat.xor_div_two (a := s) (b := p)
    have e3 := sub_le h2
    have e4 : p % 2 = 1 → s % 2 = 1 := fun e => by
      have := @Nat.and_mod_two_eq_one p s
      rw [h] at this
      exact (this.1 e).2
    omega
termination_by s _ => s
theorem bit_sub {s k : Nat} (hb : s.testBit k = true) : 2 ^ k &&& s = 2 ^ k := by
  refine Nat.eq_of_testBit_eq fun i => ?_
  rw [Nat.testBit_and]
  by_cases e : k = i
  · subst e; rw [hb, Bool.and_true]
  · rw [Nat.testBit_two_pow_of_ne e]; rfl
/-- One element less, in numbers. -/
theorem bit_less {s k : Nat} (hb : s.testBit k = true) : ∃ P t : Nat, 2 ^ k = P ∧ 1 ≤ P ∧ t + P = s ∧ s ^^^ 2 ^ k = t := by
  have hp := bit_sub hb
  have hle := sub_le hp
  exact ⟨2 ^ k, s - 2 ^ k, rfl, Nat.two_pow_pos _, Nat.sub_add_cancel hle, xor_sub hp⟩
theorem pow_cast {k P : Nat} (h : 2 ^ k = P) : ((2 : Int) ^ k) = (P : Int) := by rw [← h]; push_cast; rfl
end Go.Proofs.Ytkgbilbicdiadaa
