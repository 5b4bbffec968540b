/- Words for a table of bools in memory: a row of headers and a block for each row, all the call's own; and for the headers while they grow. No condition. -/
import Derived.Test.YtkgbilbicdiadaaMat
import Derived.Test.YtkgbilbicdiadaaOwn
set_option linter.unusedSimpArgs false
set_option linter.unusedVariables false
namespace Go.Proofs.Ytkgbilbicdiadaa
open Go.RowKit

/-- The table f with one place changed. -/
def updB (f : Nat → Nat → Bool) (i j : Nat) (v : Bool) : Nat → Nat → Bool := fun a b => if a = i ∧ b = j then v else f a b
theorem updB_same (f : Nat → Nat → Bool) (i j : Nat) (v : Bool) : updB f i j v i j = v := by simp [updB]
theorem updB_ne (f : Nat → Nat → Bool) (i j : Nat) (v : Bool) {a b : Nat} (h : a ≠ i ∨ b ≠ j) : updB f i j v a b = f a b := by
  unfold updB
  rw [if_neg (by omega)]
/-- A row of bools. -/
def rowB (n : Nat) (f : Nat → Bool) : List Value := (List.range n).map fun j => Value.bool (f j)
theorem rowB_get {n j : Nat} (f : Nat → Bool) (h : j < n) : (rowB n f)[j]? = some (.bool (f j)) := by simp [rowB, h]
theorem rowB_length (n : Nat) (f : Nat → Bool) : (rowB n f).length = n := by simp [rowB]
theorem rowB_set {n j : Nat} (f : Nat → Bool) (v : Bool) (h : j < n) : (rowB n f).set j (.bool v) = rowB n (fun k => if k = j then v else f k) := by
  apply List.ext_getElem?
  intro k
  by_cases hk : k = j
  · subst hk
    rw [List.getElem?_set_self (by rw [rowB_length]; exact h), rowB_get _ h]
    simp
  · rw [List.getElem?_set_ne (fun e => hk e.symm)]
    by_cases hkn : k < n
    · rw [rowB_get _ hkn, rowB_get _ hkn]
      simp [hk]
    · rw [List.getElem?_eq_none (by rw [rowB_length]; omega), List.getElem?_eq_none (by rw [rowB_length]; omega)]
theorem rowB_zero (n : Nat) : List.replicate n (Value.bool false) = rowB n (fun _ => false) := by
  apply List.ext_getElem?
  intro k
  by_cases hkn : k < n
  · rw [rowB_get _ hkn]
    simp [hkn]
  · rw [List.getElem?_eq_none (by simp; omega), List.getElem?_eq_none (by rw [rowB_length]; omega)]
/-- Block hd holds n headers at least; the first n rows, of n bools each, read as f; all blocks lie below U. -/
def MatB (w : World) (B U hd n : Nat) (Th Te : TypeId) (f : Nat → Nat → Bool) : Prop :=
  ∃ (G : Nat → Nat) (hs : List Value), B ≤ hd ∧ hd < U ∧ Blk w hd Th hs ∧ n ≤ hs.length ∧ (∀ i, i < n → hs[i]? = some (.slice (some ⟨G i, 0, none⟩) n n) ∧ B ≤ G i ∧ G i < U ∧ G i ≠ hd ∧ Blk w (G i) Te (rowB n (f i))) ∧ (∀ i j, i < n → j < n → G i = G j → i = j)
section
variable {w w' : World} {B U hd n : Nat} {Th Te : TypeId} {f f' : Nat → Nat → Bool}
theorem MatB.ext (h : MatB w B U hd n Th Te f) (hE : Ext w w') : MatB w' B U hd n Th Te f := by
  obtain ⟨G, hs, h1, h0, h2, h3, h5, h6⟩ := h
  exact ⟨G, hs, h1, h0, h2.ext hE, h3, fun i hi => ⟨(h5 i hi).1, (h5 i hi).2.1, (h5 i hi).2.2.1, (h5 i hi).2.2.2.1, (h5 i hi).2.2.2.2.ext hE⟩, h6⟩
theorem MatB.mono {B' U' : Nat} (h : MatB w B U hd n Th Te f) (hB : B' ≤ B) (hU : U ≤ U') : MatB w B' U' hd n Th Te f := by
  obtain ⟨G, hs, h1, h0, h2, h3, h5, h6⟩ := h
  exact ⟨G, hs, by omega, by omega, h2, h3, fun i hi => ⟨(h5 i hi).1, Nat.le_trans hB (h5 i hi).2.1, Nat.lt_of_lt_of_le (h5 i hi).2.2.1 hU, (h5 i hi).2.2.2⟩, h6⟩
theorem MatB.lt (h : MatB w B U hd n Th Te f) : B ≤ hd ∧ hd < U ∧ hd < w.heap.size := by
  obtain ⟨G, hs, h1, h0, h2, _⟩ := h
  exact ⟨h1, h0, h2.lt⟩
/-- A place of the table: its header, its cell, and what a store there leaves. -/
theorem MatB.at_ (h : MatB w B U hd n Th Te f) {i j : Nat} (hi : i < n) (hj : j < n) : ∃ g, w.cell? ⟨hd, i, none⟩ = some (.slice (some ⟨g, 0, none⟩) n n) ∧ w.cell? ⟨g, j, none⟩ = some (.bool (f i j)) ∧ w.frozen? ⟨g, j, none⟩ = false ∧
    B ≤ g ∧ g < U ∧ g < w.heap.size ∧ ∀ v, MatB (w.setCell ⟨g, j, none⟩ (.bool v)) B U hd n Th Te (updB f i j v) := by
  obtain ⟨G, hs, h1, h0, h2, h3, h5, h6⟩ := h
  obtain ⟨e1, e2, e0, e3, e4⟩ := h5 i hi
  refine ⟨G i, by rw [h2.cell, e1], by rw [e4.cell, rowB_get _ hj], e4.free _, e2, e0, e4.lt, fun v => ?_⟩
  refine ⟨G, hs, h1, h0, h2.other (fun e => e3 e.symm) _, h3, fun k hk => ⟨(h5 k hk).1, (h5 k hk).2.1, (h5 k hk).2.2.1, (h5 k hk).2.2.2.1, ?_⟩, h6⟩
  by_cases hki : k = i
  · subst hki
    have := e4.set j (.bool v)
    rw [rowB_set _ _ hj] at this
    have e : (fun b => if b = j then v else f k b) = updB f k j v k := by
      funext b
      simp [updB]
    rw [← e]
    exact this
  · have e : f k = updB f i j v k := by
      funext b
      rw [updB_ne _ _ _ _ (.inl hki)]
    rw [← e]
    exact (h5 k hk).2.2.2.2.other (fun e => hki (h6 k i hk hi e)) _
end
/-- A row of k headers that grows, each header's row of n zeros in a block of its own. -/
def HdrB (w : World) (B : Nat) (v : Value) (k n : Nat) (Th Te : TypeId) : Prop :=
  ∃ G : Nat → Nat, w.ownsRow B Th 1 v k ((List.range k).map fun i => Value.slice (some ⟨G i, 0, none⟩) n n) ∧ (∀ i, i < k → B ≤ G i ∧ v.ownBlock ≠ some (G i) ∧ Blk w (G i) Te (List.replicate n (Value.bool false))) ∧ ∀ i j, i < k → j < k → G i = G j → i = j
theorem HdrB.step {w w2 w4 : World} {B k n g : Nat} {v v' : Value} {Th Te : TypeId} {G : Nat → Nat} (h1 : w.ownsRow B Th 1 v k ((List.range k).map fun i => Value.slice (some ⟨G i, 0, none⟩) n n)) (h2 : ∀ i, i < k → B ≤ G i ∧ v.ownBlock ≠ some (G i) ∧ Blk w (G i) Te (List.replicate n (Value.bool false))) (h3 : ∀ i j, i < k → j < k → G i = G j → i = j) (hE : Ext w w2) (hg : g = w.heap.size) (hB : B ≤ w.heap.size) (hb : Blk w2 g Te (List.replicate n (Value.bool false)))
    (hgr : (w2.alloc (.cells #[Value.slice (some ⟨g, 0, none⟩) n n] Th)).grownBy w4 v.ownBlock) (hv : v'.ownBlock = v.ownBlock ∨ v'.ownBlock = some (w2.alloc (.cells #[Value.slice (some ⟨g, 0, none⟩) n n] Th)).heap.size)
    (how : w4.ownsRow B Th 1 v' (k + 1) ((List.range k).map (fun i => Value.slice (some ⟨G i, 0, none⟩) n n) ++ [Value.slice (some ⟨g, 0, none⟩) n n])) : HdrB w4 B v' (k + 1) n Th Te := by
  have hlt : ∀ i, i < k → G i < w.heap.size := fun i hi => (h2 i hi).2.2.lt
  have hgl := hb.lt
  have hsz := hE.size
  have hne : ∀ x, x < w2.heap.size → v.ownBlock ≠ some x → v'.ownBlock ≠ some x := by
    intro x hx hn e
    rcases hv with e' | e'
    · rw [e'] at e
      exact hn e
    · rw [e'] at e
      injection e with e
      simp at e
      omega
  have hvg : v.ownBlock ≠ some g := by
    intro e
    have := (h1.lt g e).2
    omega
  refine ⟨fun i => if i = k then g else G i, ?_, fun i hi => ?_, fun i j hi hj e => ?_⟩
  · have := how
    have e : (List.range (k + 1)).map (fun i => Value.slice (some ⟨if i = k then g else G i, 0, none⟩) n n) = (List.range k).map (fun i => Value.slice (some ⟨G i, 0, none⟩) n n) ++ [Value.slice (some ⟨g, 0, none⟩) n n] := by
      rw [List.range_succ, List.map_append]
      congr 1
      · apply List.map_congr_left
        intro i hi
        have := List.mem_range.1 hi
        rw [if_neg (by omega)]
      · simp
    rw [e]
    exact this
  · by_cases hik : i = k
    · subst hik
      simp only [if_true]
      exact ⟨by omega, hne g hgl hvg, (hb.ext ((Ext.refl _).alloc _)).grown hgr hvg⟩
    · simp only [hik, if_false]
      obtain ⟨e1, e2, e3⟩ := h2 i (by omega)
      exact ⟨e1, hne _ (Nat.lt_of_lt_of_le e3.lt hsz) e2, ((e3.ext hE).ext ((Ext.refl _).alloc _)).grown hgr e2⟩
  · have a1 := hlt i
    have a2 := hlt j
    have a3 := h3 i j
    by_cases hik : i = k <;> by_cases hjk : j = k <;> simp [hik, hjk] at e <;> omega
theorem HdrB.mat {w : World} {B k : Nat} {v : Value} {Th Te : TypeId} (h : HdrB w B v k k Th Te) (hk : 0 < k) : ∃ hd c, v = .slice (some ⟨hd, 0, none⟩) k c ∧ k ≤ c ∧ MatB w B w.heap.size hd k Th Te (fun _ _ => false) := by
  obtain ⟨G, h1, h2, h3⟩ := h
  obtain ⟨A, c, rfl, hc, h4, h5⟩ := own_slice h1
  cases A with
  | none => exact absurd (h4 rfl) (by omega)
  | some a =>
    obtain ⟨g, rfl, h6, h7, h8⟩ := h5 a rfl
    obtain ⟨cs, b1, b2, b3, b4⟩ := Blk.of_own h1
    refine ⟨g, c, rfl, hc, G, cs, h6, h7, b1, by omega, fun i hi => ?_, h3⟩
    obtain ⟨e1, e2, e3⟩ := h2 i hi
    refine ⟨?_, e1, e3.lt, fun e => e2 (by rw [h8, e]), ?_⟩
    · have : (cs.take (k * 1))[i]? = some (Value.slice (some ⟨G i, 0, none⟩) k k) := by rw [b2]; simp [hi]
      rw [List.getElem?_take_of_lt (by omega)] at this
      exact this
    · rw [← rowB_zero]
      exact e3
end Go.Proofs.Ytkgbilbicdiadaa
