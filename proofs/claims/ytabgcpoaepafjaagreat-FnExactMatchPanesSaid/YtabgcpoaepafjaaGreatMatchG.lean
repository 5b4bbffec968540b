/- Plain law for the search of matched: the number of places not yet asked for. No condition. -/
import Derived.Test.YtabgcpoaepafjaaGreatMatch
set_option linter.unusedSimpArgs false
set_option linter.unusedVariables false
namespace Go.Proofs.YtabgcpoaepafjaaGreat

/-- The places below 40 that have not been asked for. -/
def una (a : Nat) : Nat := ((List.range 40).filter fun f => !a.testBit f).length
theorem filter_lt {α : Type} {p q : α → Bool} (hpq : ∀ x, q x = true → p x = true) : ∀ {l : List α} {f : α}, f ∈ l → p f = true → q f = false → (l.filter q).length + 1 ≤ (l.filter p).length
  | [], _, h, _, _ => by cases h
  | x :: l, f, h, hp, hq => by
    have mono : ∀ l : List α, (l.filter q).length ≤ (l.filter p).length := fun l => by
      induction l with
      | nil => simp
      | cons y l ih =>
        by_cases h1 : q y = true
        · simp [h1, hpq y h1, ih]
        · by_cases h2 : p y = true
          · simp [h1, h2]; omega
          · simp [h1, h2, ih]
    by_cases e : x = f
    · subst e
      have := mono l
      simp [hp, hq]
      omega
    · have h3 := filter_lt hpq (l := l) (f := f) ((List.mem_cons.1 h).resolve_left fun q => e q.symm) hp hq
      by_cases h1 : q x = true
      · simp [h1, hpq x h1]; omega
      · by_cases h2 : p x = true
        · simp [h1, h2]; omega
        · simp [h1, h2]; omega
theorem una_step {a f : Nat} (hf : f < 40) (ha : a.testBit f = false) : una (a ||| 2 ^ f) + 1 ≤ una a := by
  unfold una
  refine filter_lt (fun x hx => ?_) (List.mem_range.2 hf) (by simp [ha]) (by simp)
  simp at hx ⊢
  exact hx.1
theorem una_le (a : Nat) : una a ≤ 40 := by
  have h := List.length_filter_le (fun f => !a.testBit f) (List.range 40)
  rwa [List.length_range] at h
theorem asked_lt {a f : Nat} (ha : a < 2 ^ 40) (hf : f < 40) : a ||| 2 ^ f < 2 ^ 40 := Nat.or_lt_two_pow ha (Nat.pow_lt_pow_right (by decide) hf)
end Go.Proofs.YtabgcpoaepafjaaGreat
