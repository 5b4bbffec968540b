/- Words for a row of rows of zeros that grows. No condition. -/
import Derived.Test.YtabgcpoaepafjaaGreatMem
set_option linter.unusedSimpArgs false
set_option linter.unusedVariables false
namespace Go.Proofs.YtabgcpoaepafjaaGreat
open Go.RowKit

/-- A row of k headers that grows, each header's row of n zeros in a block of its own. -/
def Hdr (w : World) (B : Nat) (v : Value) (k n : Nat) (Th Te : TypeId) : Prop :=
  ∃ G : Nat → Nat, w.ownsRow B Th 1 v k ((List.range k).map fun i => Value.slice (some ⟨G i, 0, none⟩) n n) ∧ (∀ i, i < k → B ≤ G i ∧ v.ownBlock ≠ some (G i) ∧ Blk w (G i) Te (List.replicate n (Value.int .i64 0))) ∧ ∀ i j, i < k → j < k → G i = G j → i = j
theorem Hdr.step {w w2 w4 : World} {B k n g : Nat} {v v' : Value} {Th Te : TypeId} {G : Nat → Nat} (h1 : w.ownsRow B Th 1 v k ((List.range k).map fun i => Value.slice (some ⟨G i, 0, none⟩) n n)) (h2 : ∀ i, i < k → B ≤ G i ∧ v.ownBlock ≠ some (G i) ∧ Blk w (G i) Te (List.replicate n (Value.int .i64 0))) (h3 : ∀ i j, i < k → j < k → G i = G j → i = j) (hE : Ext w w2) (hg : g = w.heap.size) (hB : B ≤ w.heap.size) (hb : Blk w2 g Te (List.replicate n (Value.int .i64 0)))
    (hgr : (w2.alloc (.cells #[Value.slice (some ⟨g, 0, none⟩) n n] Th)).grownBy w4 v.ownBlock) (hv : v'.ownBlock = v.ownBlock ∨ v'.ownBlock = some (w2.alloc (.cells #[Value.slice (some ⟨g, 0, none⟩) n n] Th)).heap.size)
    (how : w4.ownsRow B Th 1 v' (k + 1) ((List.range k).map (fun i => Value.slice (some ⟨G i, 0, none⟩) n n) ++ [Value.slice (some ⟨g, 0, none⟩) n n])) : Hdr w4 B v' (k + 1) n Th Te := by
  have hlt : ∀ i, i < k → G i < w.heap.size := fun i hi => (h2 i hi).2.2.lt
  have hgl := hb.lt
  have hsz := hE.size
  have hne : ∀ x, x < w2.heap.size → v.ownBlock ≠ some x → v'.ownBlock ≠ some x := by
    intro x hx hn e
    rcases hv with e' | e'
    · rw [e'] at e
      exact hn e
    · rw [e'] at e
      injection e with e
      simp at e
      omega
  have hvg : v.ownBlock ≠ some g := by
    intro e
    have := (h1.lt g e).2
    omega
  refine ⟨fun i => if i = k then g else G i, ?_, fun i hi => ?_, fun i j hi hj e => ?_⟩
  · have := how
    have e : (List.range (k + 1)).map (fun i => Value.slice (some ⟨if i = k then g else G i, 0, none⟩) n n) = (List.range k).map (fun i => Value.slice (some ⟨G i, 0, none⟩) n n) ++ [Value.slice (some ⟨g, 0, none⟩) n n] := by
      rw [List.range_succ, List.map_append]
      congr 1
      · apply List.map_congr_left
        intro i hi
        have := List.mem_range.1 hi
        rw [if_neg (by omega)]
      · simp
    rw [e]
    exact this
  · by_cases hik : i = k
    · subst hik
      simp only [if_true]
      exact ⟨by omega, hne g hgl hvg, (hb.ext ((Ext.refl _).alloc _)).grown hgr hvg⟩
    · simp only [hik, if_false]
      obtain ⟨e1, e2, e3⟩ := h2 i (by omega)
      exact ⟨e1, hne _ (Nat.lt_of_lt_of_le e3.lt hsz) e2, ((e3.ext hE).ext ((Ext.refl _).alloc _)).grown hgr e2⟩
  · have a1 := hlt i
    have a2 := hlt j
    have a3 := h3 i j
    by_cases hik : i = k <;> by_cases hjk : j = k <;> simp [hik, hjk] at e <;> omega
theorem Hdr.mat {w : World} {B k n : Nat} {v : Value} {Th Te : TypeId} (h : Hdr w B v k n Th Te) (hk : 0 < k) : ∃ hd c, v = .slice (some ⟨hd, 0, none⟩) k c ∧ k ≤ c ∧ Mat w B hd k k n Th Te (fun _ _ => 0) := by
  obtain ⟨G, h1, h2, h3⟩ := h
  obtain ⟨A, c, rfl, hc, h4, h5⟩ := own_slice h1
  cases A with
  | none => exact absurd (h4 rfl) (by omega)
  | some a =>
    obtain ⟨g, rfl, h6, h7, h8⟩ := h5 a rfl
    obtain ⟨cs, b1, b2, b3, b4⟩ := Blk.of_own h1
    refine ⟨g, c, rfl, hc, G, cs, h6, b1, by omega, Nat.le_refl _, fun i hi => ?_, h3⟩
    obtain ⟨e1, e2, e3⟩ := h2 i hi
    refine ⟨?_, e1, fun e => e2 (by rw [h8, e]), ?_⟩
    · have : (cs.take (k * 1))[i]? = some (Value.slice (some ⟨G i, 0, none⟩) n n) := by rw [b2]; simp [hi]
      rw [List.getElem?_take_of_lt (by omega)] at this
      exact this
    · rw [← rowOf_zero]
      exact e3
theorem Hdr.ext {w w' : World} {B k n : Nat} {v : Value} {Th Te : TypeId} (h : Hdr w B v k n Th Te) (hE : Ext w w') (how : ∀ xs, w.ownsRow B Th 1 v k xs → w'.ownsRow B Th 1 v k xs) : Hdr w' B v k n Th Te := by
  obtain ⟨G, h1, h2, h3⟩ := h
  exact ⟨G, how _ h1, fun i hi => ⟨(h2 i hi).1, (h2 i hi).2.1, (h2 i hi).2.2.ext hE⟩, h3⟩
/-- A row does not lie in the headers' block. -/
theorem Mat.ne {w : World} {B hd M m n i g : Nat} {Th Te : TypeId} {f : Nat → Nat → Int} (h : Mat w B hd M m n Th Te f) (hi : i < m) (hc : w.cell? ⟨hd, i, none⟩ = some (.slice (some ⟨g, 0, none⟩) n n)) : ¬ hd = g := by
  obtain ⟨G, hs, h1, h2, h3, h4, h5, h6⟩ := h
  obtain ⟨e1, e2, e3, e4⟩ := h5 i hi
  rw [h2.cell, e1] at hc
  injection hc with hc
  injection hc with hc
  injection hc with hc
  injection hc with hc
  intro e
  exact e3 (by rw [hc, e])
/-- The value of a cell, by name. -/
def cellV (w : World) (p : Addr) : Value := (w.cell? p).getD undef
theorem cellV_some {w : World} {p : Addr} {v : Value} (h : w.cell? p = some v) : w.cell? p = some (cellV w p) := by
  unfold cellV
  rw [h]
  rfl
/-- What holds of every world of a region that stores into a cell last. -/
theorem GrS {a b : World} {g o' : Nat} {u : Value} (hu : a.cell? ⟨g, o', none⟩ = some u) (hg : g < a.heap.size) (h : Ext a b) : (∀ (q o : Nat), q < a.heap.size → ¬ q = g → b.cell? ⟨q, o, none⟩ = a.cell? ⟨q, o, none⟩) ∧ b.cell? ⟨g, o', none⟩ = some (cellV b ⟨g, o', none⟩) ∧ (∀ (q o : Nat), q < a.heap.size → b.frozen? ⟨q, o, none⟩ = a.frozen? ⟨q, o, none⟩) ∧ a.grownBy b (some g) :=
  ⟨fun q o hq _ => h.facts.1 q o hq, cellV_some ((h.facts.1 g o' hg).trans hu), fun q o hq => h.facts.2.1 q o hq, ⟨h.os, h.tape, h.output, h.size, fun k hk _ => h.block k hk⟩⟩
theorem GrSet {a b : World} {g o' : Nat} {u : Value} (v : Value) (hu : a.cell? ⟨g, o', none⟩ = some u) (hg : g < a.heap.size) (h : Ext a b) : (∀ (q o : Nat), q < a.heap.size → ¬ q = g → (b.setCell ⟨g, o', none⟩ v).cell? ⟨q, o, none⟩ = a.cell? ⟨q, o, none⟩) ∧ (b.setCell ⟨g, o', none⟩ v).cell? ⟨g, o', none⟩ = some (cellV (b.setCell ⟨g, o', none⟩ v) ⟨g, o', none⟩) ∧ (∀ (q o : Nat), q < a.heap.size → (b.setCell ⟨g, o', none⟩ v).frozen? ⟨q, o, none⟩ = a.frozen? ⟨q, o, none⟩) ∧ a.grownBy (b.setCell ⟨g, o', none⟩ v) (some g) := by
  have hb : ∀ q, ¬ q = g → (b.setCell ⟨g, o', none⟩ v).heap[q]? = b.heap[q]? := fun q hq => Below.heap_setCell _ _ _ _ (show q ≠ g from hq)
  refine ⟨fun q o hq hne => (World.cell?_of_block (hb q hne)).trans (h.facts.1 q o hq), cellV_some (World.cell?_setCell_same _ _ _ ((h.facts.1 g o' hg).trans hu)), fun q o hq => ?_, ⟨h.os, h.tape, h.output, by simpa using h.size, fun k hk hne => (hb k (fun e => hne (by rw [e]))).trans (h.block k hk)⟩⟩
  rw [World.frozen?_setCell]
  exact h.facts.2.1 q o hq
end Go.Proofs.YtabgcpoaepafjaaGreat
