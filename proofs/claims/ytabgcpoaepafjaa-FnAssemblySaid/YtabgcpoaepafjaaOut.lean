/- Words for a list that a call lays empty at its start and appends to later: what stands beside it. No condition. -/
import Derived.Test.YtabgcpoaepafjaaJoined
set_option linter.unusedSimpArgs false
set_option linter.unusedVariables false
namespace Go.Proofs.Ytabgcpoaepafjaa
open Go.RowKit

theorem grow_carry {a b c : World} {g0 : Nat} {row : Option Nat} (h : a.grownBy b (some g0)) (k : b.grownBy c row) (hr : ∀ g, row = some g → g = g0 ∨ a.heap.size ≤ g) : a.grownBy c (some g0) where
  os := k.os.trans h.os
  tape := k.tape.trans h.tape
  output := k.output.trans h.output
  size := Nat.le_trans h.size k.size
  block i hi hne := by
    have hib : i < b.heap.size := Nat.lt_of_lt_of_le hi h.size
    rw [k.block i hib fun e => ?_, h.block i hi hne]
    rcases hr i e.symm with q | q
    · exact hne (by rw [q])
    · omega
/-- The list of a call: it lies in its first block g0 or in a block that is new since a; nothing else has turned since a. -/
def OutR (a w : World) (g0 : Nat) (T : TypeId) (sz : Nat) (v : Value) (n : Nat) (xs : List Value) : Prop :=
  w.ownsRow g0 T sz v n xs ∧ a.grownBy w (some g0) ∧ ∀ k, v.ownBlock = some k → k = g0 ∨ a.heap.size ≤ k
section
variable {a w w' : World} {g0 : Nat} {T : TypeId} {sz : Nat} {v v' : Value} {n m : Nat} {xs ys : List Value}
theorem OutR.start (h : a.ownsRow g0 T sz v n xs) (hk : ∀ k, v.ownBlock = some k → k = g0) : OutR a a g0 T sz v n xs := ⟨h, World.grownBy.refl _ _, fun k e => .inl (hk k e)⟩
theorem OutR.ext (h : OutR a w g0 T sz v n xs) (hE : Ext w w') : OutR a w' g0 T sz v n xs :=
  ⟨own_ext h.1 hE, grow_carry h.2.1 (row := none) ⟨hE.os, hE.tape, hE.output, hE.size, fun k hk _ => hE.block k hk⟩ (fun _ e => by cases e), h.2.2⟩
theorem OutR.app (h : OutR a w g0 T sz v n xs) {o : Obj} (hown : w'.ownsRow g0 T sz v' m ys) (hg : (w.alloc o).grownBy w' v.ownBlock) (hl : v'.ownBlock = v.ownBlock ∨ v'.ownBlock = some (w.alloc o).heap.size) : OutR a w' g0 T sz v' m ys := by
  have h1 : a.grownBy (w.alloc o) (some g0) := (h.ext ((Ext.refl w).alloc o)).2.1
  refine ⟨hown, grow_carry h1 hg h.2.2, fun k e => ?_⟩
  rcases hl with q | q
  · exact h.2.2 k (by rw [← q]; exact e)
  · rw [q] at e
    injection e with e
    exact .inr (by rw [← e]; exact h1.size)
theorem OutR.app2 (h : OutR a w g0 T sz v n xs) {w1 : World} (hE : Ext w w1) {g c H : Nat} (hown : w'.ownsRow g0 T sz (.slice (some ⟨g, 0, none⟩) m c) m ys) (hg : w1.grownBy w' v.ownBlock) (hl : v.ownBlock = some g ∨ g = H) (hH : w.heap.size ≤ H) : OutR a w' g0 T sz (.slice (some ⟨g, 0, none⟩) m c) m ys := by
  refine ⟨hown, grow_carry (h.ext hE).2.1 hg h.2.2, fun k e => ?_⟩
  have e : some g = some k := e
  injection e with e
  subst e
  rcases hl with q | q
  · exact h.2.2 g q
  · exact .inr (by rw [q]; exact Nat.le_trans h.2.1.size hH)
theorem OutR.ext0 {w0 : World} (h : OutR a w g0 T sz v n xs) (hE : Ext w0 a) (hg : w0.heap.size ≤ g0) : Ext w0 w := hE.grown h.2.1 fun k e => by injection e with e; omega
theorem OutR.cell (h : OutR a w g0 T sz v n xs) {b o : Nat} {x : Value} (hb : b < a.heap.size) (hne : b ≠ g0) (hc : a.cell? ⟨b, o, none⟩ = some x) : w.cell? ⟨b, o, none⟩ = some x := by
  rw [← hc]
  exact World.cell?_of_block (h.2.1.block b hb fun e => hne (by injection e))
theorem OutR.frozen (h : OutR a w g0 T sz v n xs) {b o : Nat} (hb : b < a.heap.size) (hne : b ≠ g0) : w.frozen? ⟨b, o, none⟩ = a.frozen? ⟨b, o, none⟩ := World.frozen?_of_block (h.2.1.block b hb fun e => hne (by injection e))
theorem OutR.mat {B U hd k : Nat} {Th Te : TypeId} {f : Nat → Nat → Bool} (h : OutR a w g0 T sz v n xs) (hM : MatB a B U hd k Th Te f) (hB : g0 < B) : MatB w B U hd k Th Te f := by
  obtain ⟨G, hs, h1, h0, h2, h3, h5, h6⟩ := hM
  exact ⟨G, hs, h1, h0, h2.grown h.2.1 (by intro e; injection e; omega), h3, fun i hi => ⟨(h5 i hi).1, (h5 i hi).2.1, (h5 i hi).2.2.1, (h5 i hi).2.2.2.1, (h5 i hi).2.2.2.2.grown h.2.1 (by have := (h5 i hi).2.1; intro e; injection e; omega)⟩, h6⟩
theorem OutR.rds {A : Option Addr} {k s : Nat} {zs : List Value} (h : OutR a w g0 T sz v n xs) (hr : Rds a s A k zs) (hne : ∀ b off, A = some ⟨b, off, none⟩ → b ≠ g0) : Rds w s A k zs := hr.grown h.2.1 fun b off e q => hne b off e (by injection q with q; exact q.symm)
end
/-- What can be read does not lie in an empty block. -/
theorem ne_empty {w : World} {base g0 b i sz : Nat} {T : TypeId} {v : Value} (h : w.ownsRow base T sz (.slice (some ⟨g0, 0, none⟩) 0 0) 0 []) (hc : w.cell? ⟨b, i, none⟩ = some v) : b ≠ g0 := by
  rintro rfl
  rcases h.2 with ⟨h1, _⟩ | ⟨g, cap, cur, h1, _, h2, _, _, h3, _⟩
  · cases h1
  · injection h1 with h1 _ h4
    injection h1 with h1
    injection h1 with h1
    subst h1 h4
    rw [Nat.zero_mul] at h3
    simp only [World.cell?, h2] at hc
    rw [Array.getElem?_eq_none (by omega)] at hc
    cases hc
theorem ne_empty_rds {w : World} {base g0 n sz s : Nat} {T : TypeId} {A : Option Addr} {xs : List Value} (h : w.ownsRow base T sz (.slice (some ⟨g0, 0, none⟩) 0 0) 0 []) (hr : Rds w s A n xs) (hn : 0 < n) (hs : 0 < s) : ∀ b off, A = some ⟨b, off, none⟩ → b ≠ g0 := by
  intro b off e
  obtain ⟨b', off', e', _, hc⟩ := hr.2 hn
  rw [e] at e'
  injection e' with e'
  injection e' with e1 e2 _
  subst e1 e2
  have hl := hr.1
  have : 0 < xs.length := by rw [hl]; exact Nat.mul_pos hn hs
  exact ne_empty h (hc 0 xs[0] (by simp [this]))
theorem lit_own (w : World) (e : TypeId) (sz : Nat) : (w.alloc (.cells #[] e)).ownsRow w.heap.size e sz (.slice (some ⟨w.heap.size, 0, none⟩) 0 0) 0 [] := World.ownsRow_lit (base := w.heap.size) (e := e) (size := sz) w #[] 0 (Nat.le_refl _) (Nat.zero_le _) (by simp)
end Go.Proofs.Ytabgcpoaepafjaa
