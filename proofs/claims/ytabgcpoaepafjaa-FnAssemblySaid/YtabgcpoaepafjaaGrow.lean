/- Plain law on the first assembly: pane after pane, the least one beside those that stand (no program in sight). No condition. -/
import Derived.Test.YtabgcpoaepafjaaIsAsm
set_option linter.unusedSimpArgs false
set_option linter.unusedVariables false
namespace Go.Proofs.Ytabgcpoaepafjaa

/-- The set of a list. -/
def maskL (l : List Nat) : Nat := l.foldl (fun s x => s ||| 2 ^ x) 0
theorem maskL_snoc (l : List Nat) (f : Nat) : maskL (l ++ [f]) = maskL l ||| 2 ^ f := by simp [maskL]
theorem maskL_one (f : Nat) : maskL [f] = 2 ^ f := by simp [maskL]
theorem mask_fold : ∀ (l : List Nat) (s i : Nat), (l.foldl (fun s x => s ||| 2 ^ x) s).testBit i = true ↔ s.testBit i = true ∨ i ∈ l
  | [], s, i => by simp
  | x :: l, s, i => by
    simp only [List.foldl_cons]
    rw [mask_fold l, or_bit, List.mem_cons, or_assoc]
    constructor
    · rintro (h | h | h)
      · exact .inl h
      · exact .inr (.inl h.symm)
      · exact .inr (.inr h)
    · rintro (h | h | h)
      · exact .inl h
      · exact .inr (.inl h.symm)
      · exact .inr (.inr h)
theorem maskL_bit {l : List Nat} {i : Nat} : (maskL l).testBit i = true ↔ i ∈ l := by
  unfold maskL
  rw [mask_fold, Nat.zero_testBit]
  simp
theorem mask_fold_lt {n : Nat} : ∀ (l : List Nat) (s : Nat), s < 2 ^ n → (∀ x, x ∈ l → x < n) → l.foldl (fun s x => s ||| 2 ^ x) s < 2 ^ n
  | [], s, hs, _ => hs
  | x :: l, s, hs, h => mask_fold_lt l _ (Nat.or_lt_two_pow hs (Nat.pow_lt_pow_right (by decide) (h x (by simp)))) fun y hy => h y (by simp [hy])
theorem maskL_lt {n : Nat} {l : List Nat} (h : ∀ x, x ∈ l → x < n) : maskL l < 2 ^ n := mask_fold_lt l 0 (Nat.two_pow_pos n) h
/-- Pane f can be set where those of l stand. -/
def canG (b : Nat → Nat → Bool) (o : Nat) (l : List Nat) (f : Nat) : Bool := decide (f ≠ o) && (!l.contains f && l.any fun i => b i f)
/-- The least pane below j that can be set. -/
def nextTo (b : Nat → Nat → Bool) (o : Nat) (l : List Nat) : Nat → Option Nat
  | 0 => none
  | j + 1 => match nextTo b o l j with
    | some f => some f
    | none => if canG b o l j = true then some j else none
theorem nextTo_none {b : Nat → Nat → Bool} {o : Nat} {l : List Nat} : ∀ n, nextTo b o l n = none ↔ ∀ f, f < n → canG b o l f = false
  | 0 => by simp [nextTo]
  | n + 1 => by
    simp only [nextTo]
    have ih := nextTo_none (b := b) (o := o) (l := l) n
    cases h : nextTo b o l n with
    | some f =>
      simp only [h] at ih ⊢
      constructor
      · intro e; cases e
      · intro e
        exact absurd (ih.2 fun f hf => e f (by omega)) (by simp)
    | none =>
      have h0 := ih.1 h
      cases hc : canG b o l n with
      | true =>
        simp only [if_pos]
        constructor
        · intro e; cases e
        · intro e
          have := e n (by omega)
          rw [hc] at this
          cases this
      | false =>
        simp only [Bool.false_eq_true, if_false]
        refine ⟨fun _ f hf => ?_, fun _ => by first | rfl | trivial⟩
        by_cases e : f = n
        · rw [e]; exact hc
        · exact h0 f (by omega)
theorem nextTo_some {b : Nat → Nat → Bool} {o : Nat} {l : List Nat} : ∀ {n f : Nat}, nextTo b o l n = some f → f < n ∧ canG b o l f = true ∧ nextTo b o l f = none
  | 0, _, h => by cases h
  | n + 1, f, h => by
    simp only [nextTo] at h
    cases h1 : nextTo b o l n with
    | some g =>
      rw [h1] at h
      injection h with h
      subst h
      obtain ⟨a1, a2, a3⟩ := nextTo_some h1
      exact ⟨by omega, a2, a3⟩
    | none =>
      rw [h1] at h
      simp only at h
      split at h
      · rename_i hc
        injection h with h
        subst h
        exact ⟨by omega, hc, h1⟩
      · cases h
theorem nextTo_hit {b : Nat → Nat → Bool} {o : Nat} {l : List Nat} {j : Nat} (h0 : nextTo b o l j = none) (hc : canG b o l j = true) : ∀ n, j < n → nextTo b o l n = some j
  | 0, h => by omega
  | n + 1, h => by
    simp only [nextTo]
    by_cases e : j = n
    · subst e
      rw [h0]
      simp [hc]
    · rw [nextTo_hit h0 hc n (by omega)]
theorem nextTo_miss {b : Nat → Nat → Bool} {o : Nat} {l : List Nat} {j : Nat} (h0 : nextTo b o l j = none) (hc : canG b o l j = false) : nextTo b o l (j + 1) = none := by
  simp only [nextTo, h0, hc]
  rfl
/-- The reference's search, from the greatest pane down. -/
def bestDn (b : Nat → Nat → Bool) (o : Nat) (l : List Nat) (n : Nat) : Nat → Int
  | 0 => -1
  | d + 1 => if canG b o l (n - 1 - d) = true then ((n - 1 - d : Nat) : Int) else bestDn b o l n d
theorem bestDn_is {b : Nat → Nat → Bool} {o : Nat} {l : List Nat} {n : Nat} : ∀ d, d ≤ n → (bestDn b o l n d = -1 ∧ ∀ f, n - d ≤ f → f < n → canG b o l f = false) ∨ ∃ f : Nat, bestDn b o l n d = f ∧ n - d ≤ f ∧ f < n ∧ canG b o l f = true ∧ ∀ g, n - d ≤ g → g < f → canG b o l g = false
  | 0, _ => .inl ⟨rfl, fun f h1 h2 => by omega⟩
  | d + 1, hd => by
    simp only [bestDn]
    cases hc : canG b o l (n - 1 - d) with
    | true =>
      rw [if_pos rfl]
      exact .inr ⟨n - 1 - d, rfl, by omega, by omega, hc, fun g h1 h2 => by omega⟩
    | false =>
      rw [if_neg (by simp)]
      rcases bestDn_is (b := b) (o := o) (l := l) (n := n) d (by omega) with ⟨h1, h2⟩ | ⟨f, h1, h2, h3, h4, h5⟩
      · refine .inl ⟨h1, fun f q1 q2 => ?_⟩
        by_cases e : f = n - 1 - d
        · rw [e]; exact hc
        · exact h2 f (by omega) q2
      · refine .inr ⟨f, h1, by omega, h3, h4, fun g q1 q2 => ?_⟩
        by_cases e : g = n - 1 - d
        · rw [e]; exact hc
        · exact h5 g (by omega) q2
theorem bestDn_next {b : Nat → Nat → Bool} {o : Nat} {l : List Nat} {n : Nat} : bestDn b o l n n = match nextTo b o l n with | some f => (f : Int) | none => -1 := by
  rcases bestDn_is (b := b) (o := o) (l := l) (n := n) n (Nat.le_refl _) with ⟨h1, h2⟩ | ⟨f, h1, h2, h3, h4, h5⟩
  · rw [h1, (nextTo_none n).2 fun f hf => h2 f (by omega) hf]
  · rw [h1, nextTo_hit ((nextTo_none f).2 fun g hg => h5 g (by omega) hg) h4 n h3]
/-- Pane after pane. -/
def growL (b : Nat → Nat → Bool) (n o : Nat) : Nat → List Nat → List Nat
  | 0, l => l
  | k + 1, l => match nextTo b o l n with
    | none => l
    | some f => growL b n o k (l ++ [f])
theorem growL_none {b : Nat → Nat → Bool} {n o : Nat} {l : List Nat} (h : nextTo b o l n = none) : ∀ k, growL b n o k l = l
  | 0 => rfl
  | k + 1 => by simp only [growL, h]
theorem growL_some {b : Nat → Nat → Bool} {n o : Nat} {l : List Nat} {f k : Nat} (h : nextTo b o l n = some f) : growL b n o (k + 1) l = growL b n o k (l ++ [f]) := by simp only [growL, h]
/-- The list on its way: R is what comes of it. -/
structure OnWay (b : Nat → Nat → Bool) (n o : Nat) (R l : List Nat) : Prop where
  nd : l.Nodup
  lt : ∀ x, x ∈ l → x < n
  go : growL b n o (n + 1 - l.length) l = R
theorem nodup_lt {n : Nat} {l : List Nat} (h : l.Nodup) (hl : ∀ x, x ∈ l → x < n) : l.length ≤ n := nodup_len n l h hl
theorem OnWay.start {b : Nat → Nat → Bool} {n o f : Nat} (hf : f < n) : OnWay b n o (growL b n o n [f]) [f] where
  nd := by simp
  lt x hx := by simp at hx; omega
  go := rfl
theorem OnWay.len {b : Nat → Nat → Bool} {n o : Nat} {R l : List Nat} (h : OnWay b n o R l) : l.length ≤ n := nodup_lt h.nd h.lt
theorem OnWay.next {b : Nat → Nat → Bool} {n o : Nat} {R l : List Nat} {f : Nat} (h : OnWay b n o R l) (hf : nextTo b o l n = some f) : OnWay b n o R (l ++ [f]) := by
  obtain ⟨h1, h2, _⟩ := nextTo_some hf
  have hnot : f ∉ l := fun q => by
    unfold canG at h2
    simp at h2
    exact h2.2.1 q
  have hlen := h.len
  refine ⟨?_, fun x hx => ?_, ?_⟩
  · rw [List.nodup_append]
    exact ⟨h.nd, by simp, fun a ha c hc => by simp at hc; subst hc; intro e; exact hnot (e ▸ ha)⟩
  · rcases List.mem_append.1 hx with hx | hx
    · exact h.lt x hx
    · simp at hx; omega
  · have hg := h.go
    rw [show n + 1 - l.length = (n - l.length) + 1 by omega, growL_some hf] at hg
    rw [← hg]
    congr 1
    simp
theorem OnWay.done {b : Nat → Nat → Bool} {n o : Nat} {R l : List Nat} (h : OnWay b n o R l) (hf : nextTo b o l n = none) : l = R := by
  rw [← h.go, growL_none hf]
theorem OnWay.room {b : Nat → Nat → Bool} {n o : Nat} {R l : List Nat} {f : Nat} (h : OnWay b n o R l) (hf : nextTo b o l n = some f) : l.length + 1 ≤ n := by
  have := (h.next hf).len
  simpa using this
/-- How the program asks whether a pane can be set. -/
theorem canG_near {b : Nat → Nat → Bool} {nf : Nat → Nat} {o f : Nat} {l : List Nat} (hb : ∀ a c, b a c = b c a) (hn : ∀ f g, (nf f).testBit g = b f g) : canG b o l f = (decide (f ≠ o) && (!(maskL l).testBit f && decide (nf f &&& maskL l ≠ 0))) := by
  unfold canG
  have e1 : l.contains f = (maskL l).testBit f := by
    rw [Bool.eq_iff_iff, maskL_bit]
    simp
  have e2 : (l.any fun i => b i f) = decide (nf f &&& maskL l ≠ 0) := by
    rw [Bool.eq_iff_iff, List.any_eq_true, decide_eq_true_eq, and_ne]
    constructor
    · rintro ⟨i, h1, h2⟩
      exact ⟨i, by rw [hn, hb]; exact h2, maskL_bit.2 h1⟩
    · rintro ⟨i, h1, h2⟩
      exact ⟨i, maskL_bit.1 h2, by rw [hb, ← hn]; exact h1⟩
  rw [e1, e2]
/-- The result: the list, if it is an assembly. -/
noncomputable def firstL (N E : List P2) (f : Nat) : List Int := (growL (besTo (sd N E) E.length) (fcs N E).length (oN N E) (fcs N E).length [f]).map fun x : Nat => (x : Int)
noncomputable def firstOk (N E : List P2) (first : Int) : Bool := wholeB N E && (inR first 0 (((fcs N E).length : Int) - 1) && asmB N E (firstL N E first.toNat))
noncomputable def firstV (N E : List P2) (first : Int) : List Int := if firstOk N E first = true then firstL N E first.toNat else []
end Go.Proofs.Ytabgcpoaepafjaa
