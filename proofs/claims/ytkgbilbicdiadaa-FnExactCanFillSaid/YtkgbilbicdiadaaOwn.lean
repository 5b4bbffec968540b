/- Words for rows of the call's own: where they lie, what a later world leaves of them. No condition. -/
import Derived.Test.YtkgbilbicdiadaaMem
import Derived.Maps.AppendAt
set_option linter.unusedSimpArgs false
set_option linter.unusedVariables false
namespace Go.Proofs.Ytkgbilbicdiadaa
open Go.RowKit

theorem Ext.grown {a w w' : World} {row : Option Nat} (h : Ext a w) (hg : w.grownBy w' row) (hr : ∀ k, row = some k → a.heap.size ≤ k) : Ext a w' := Below.grown h hg h.size hr
theorem own_base {a w : World} {base n sz : Nat} {e : TypeId} {v : Value} {xs : List Value} (h : w.ownsRow base e sz v n xs) (hb : a.heap.size ≤ base) : ∀ k, v.ownBlock = some k → a.heap.size ≤ k := fun k hk => Nat.le_trans hb (h.lt k hk).1
theorem own_other {w1 w2 : World} {b1 b2 n1 n2 s1 s2 : Nat} {e1 e2 : TypeId} {v1 v2 : Value} {x1 x2 : List Value} (h1 : w1.ownsRow b1 e1 s1 v1 n1 x1) (h2 : w2.ownsRow b2 e2 s2 v2 n2 x2) (hb : w1.heap.size ≤ b2) : v2.ownBlock = none ∨ v2.ownBlock ≠ v1.ownBlock := by
  rcases hv : v2.ownBlock with _ | g
  · exact .inl rfl
  · refine .inr (fun e => ?_)
    have a1 := (h2.lt g hv).1
    have a2 := (h1.lt g e.symm).2
    omega
theorem own_other2 {w1 w2 : World} {b1 b2 n1 n2 s1 s2 : Nat} {e1 e2 : TypeId} {v1 v2 : Value} {x1 x2 : List Value} (h1 : w1.ownsRow b1 e1 s1 v1 n1 x1) (h2 : w2.ownsRow b2 e2 s2 v2 n2 x2) (hb : w1.heap.size ≤ b2) : v1.ownBlock = none ∨ v1.ownBlock ≠ v2.ownBlock := by
  rcases hv : v1.ownBlock with _ | g
  · exact .inl rfl
  · refine .inr (fun e => ?_)
    have a1 := (h1.lt g hv).2
    have a2 := (h2.lt g e.symm).1
    omega
theorem own_slice {w : World} {base n sz : Nat} {e : TypeId} {v : Value} {xs : List Value} (h : w.ownsRow base e sz v n xs) : ∃ A c, v = .slice A n c ∧ n ≤ c ∧ (A = none → n = 0) ∧ ∀ a, A = some a → ∃ g, a = ⟨g, 0, none⟩ ∧ base ≤ g ∧ g < w.heap.size ∧ v.ownBlock = some g := by
  rcases h.2 with ⟨rfl, rfl⟩ | ⟨g, cap, cur, rfl, hb, hh, hnc, _, _, _⟩
  · exact ⟨none, 0, rfl, Nat.le_refl _, fun _ => rfl, fun a e => by cases e⟩
  · refine ⟨some ⟨g, 0, none⟩, cap, rfl, hnc, fun e => by (cases e), fun a e => ?_⟩
    injection e with e
    subst e
    refine ⟨g, rfl, hb, ?_, rfl⟩
    rcases Nat.lt_or_ge g w.heap.size with hlt | hge
    · exact hlt
    · rw [Array.getElem?_eq_none hge] at hh; cases hh
theorem own_max {w : World} {base n sz : Nat} {e : TypeId} {v : Value} {xs : List Value} (h : w.ownsRow base e sz v n xs) : v.ownBlock = none → n = 0 := by
  obtain ⟨A, c, rfl, _, h1, h2⟩ := own_slice h
  intro hn
  cases A with
  | none => exact h1 rfl
  | some a =>
    obtain ⟨g, _, _, _, e⟩ := h2 a rfl
    rw [e] at hn
    cases hn
theorem own_mono {w : World} {base base' n sz : Nat} {e : TypeId} {v : Value} {xs : List Value} (h : w.ownsRow base e sz v n xs) (hb : base' ≤ base) : w.ownsRow base' e sz v n xs := by
  refine ⟨h.1, ?_⟩
  rcases h.2 with h1 | ⟨g, cap, cur, h1, h2, h3⟩
  · exact .inl h1
  · exact .inr ⟨g, cap, cur, h1, Nat.le_trans hb h2, h3⟩
/-- The cells of a block that was just made. -/
theorem news_new (w : World) (xs : Array Value) (T : TypeId) : ∀ j u, xs.toList[j]? = some u → (w.alloc (.cells xs T)).cell? (Addr.add ⟨w.heap.size, 0, none⟩ j) = some u := by
  intro j u hu
  have hb : (w.alloc (.cells xs T)).heap[w.heap.size]? = some (.cells xs T) := heap_alloc_new w _
  have ha : Addr.add ⟨w.heap.size, 0, none⟩ j = ⟨w.heap.size, j, none⟩ := by
    unfold Addr.add
    split <;> simp_all
  rw [ha]
  simp only [World.cell?]
  rw [hb]
  simpa using hu
end Go.Proofs.Ytkgbilbicdiadaa
