/- Words for a map from numbers to numbers that a call holds: it reads as a table of holders. No condition. -/
import Derived.Test.YtabgcpoaepafjaaGreatMatchS
import Derived.Maps.OwnSet
set_option linter.unusedSimpArgs false
set_option linter.unusedVariables false
namespace Go.Proofs.YtabgcpoaepafjaaGreat
open Go.RowKit Go.Maps

/-- The map of block b, written at most n times, reads as H. -/
def MapH (w : World) (b n : Nat) (H : Nat → Option Nat) : Prop :=
  ∃ D : DataW Unit, w.ownsMap Tryz.prog 3 (plainElem Tryz.prog 3) b n D ∧ ∀ f : Nat, f < 64 → has D (.int .i64 (f : Int)) = (H f).isSome ∧ ∀ i, H f = some i → D.atKey (.int .i64 (f : Int)) (.lit (.int .i64 0)) = .lit (.int .i64 (i : Int))
section
variable {w w' : World} {b n : Nat} {H : Nat → Option Nat}
theorem MapH.made (w : World) : MapH (w.alloc (.map #[] 0)) w.heap.size 0 (fun _ => none) :=
  ⟨.map [], World.ownsMap_made w Tryz.prog 3 (plainElem Tryz.prog 3), fun f _ => ⟨rfl, fun i h => by cases h⟩⟩
theorem MapH.kept (h : MapH w b n H) {row : Option Nat} (hg : w.grownBy w' row) (hne : some b ≠ row) : MapH w' b n H := by
  obtain ⟨D, h1, h2⟩ := h
  exact ⟨D, h1.kept hg hne, h2⟩
theorem MapH.setCell (h : MapH w b n H) {a : Addr} (ha : b ≠ a.block) (u : Value) : MapH (w.setCell a u) b n H := by
  obtain ⟨D, h1, h2⟩ := h
  exact ⟨D, h1.setCell ha u, h2⟩
theorem MapH.mono (h : MapH w b n H) {m : Nat} (hn : n ≤ m) : MapH w b m H := by
  obtain ⟨D, h1, h2⟩ := h
  exact ⟨D, h1.mono hn, h2⟩
theorem MapH.put {D : DataW Unit} {f i : Nat} (hm : IsMap D) (h : ∀ f : Nat, f < 64 → has D (.int .i64 (f : Int)) = (H f).isSome ∧ ∀ i, H f = some i → D.atKey (.int .i64 (f : Int)) (.lit (.int .i64 0)) = .lit (.int .i64 (i : Int)))
    (hw : w'.ownsMap Tryz.prog 3 (plainElem Tryz.prog 3) b n (D.put (.int .i64 (f : Int)) (.lit (.int .i64 (i : Int))))) (hk : WideAt.IsKeyLit (.int .i64 (f : Int))) : MapH w' b n (put H f i) := by
  refine ⟨_, hw, fun g hg => ?_⟩
  by_cases e : g = f
  · subst e
    rw [put_same]
    exact ⟨has_put_same hm hk _, fun j hj => by injection hj with hj; rw [atKey_put_same hm hk, hj]⟩
  · have hne : (Lit.int .i64 (g : Int)) ≠ .int .i64 (f : Int) := by intro q; injection q with _ q; omega
    rw [put_ne e]
    exact ⟨(has_put_other hne _).trans (h g hg).1, fun j hj => (atKey_put_other hne _ _).trans ((h g hg).2 j hj)⟩
end
end Go.Proofs.YtabgcpoaepafjaaGreat
