/- Small words for every walk of this seat: what a call leaves of memory ('Ext'), and closed facts on the loaded program. No condition. -/
import Derived.WalkKit
import Derived.WalkSpells
import Derived.WalkLawsBesides
import Derived.Handy
import Derived.Deep.QuietTactic
import Derived.BigQuiet
import Derived.Deep.RegionHeld3
import Derived.Outline
import Derived.Test.YtkgbilbicdiadaaProg
set_option linter.unusedSimpArgs false
set_option linter.unusedVariables false
namespace Go.Proofs.Ytkgbilbicdiadaa
open Go.RowKit

/-- Nothing that was there has turned. -/
def Ext (w w' : World) : Prop := Below w.heap.size w w'
section
variable {a b c w w' : World}
theorem Ext.refl (w : World) : Ext w w := Below.refl _ _
theorem Ext.trans (h : Ext a b) (k : Ext b c) : Ext a c := Below.trans h (Below.mono k h.size)
theorem Ext.snoc (k : Ext b c) (h : Ext a b) : Ext a c := h.trans k
theorem Ext.alloc (h : Ext a b) (o : Obj) : Ext a (b.alloc o) := Below.alloc h h.size o
theorem Ext.drew (h : Ext a b) : Ext a b.drew := Below.drew h
theorem Ext.drewN (h : Ext a b) (n : Nat) : Ext a (b.drewN n) := h.trans ⟨rfl, rfl, rfl, Nat.le_refl _, fun _ _ => rfl⟩
theorem Ext.set (h : Ext a b) {p : Addr} (hp : a.heap.size ≤ p.block) (u : Value) : Ext a (b.setCell p u) := Below.setCell h hp u
theorem Ext.setk {k o : Nat} {s : Option Nat} (h : Ext a b) (hp : a.heap.size ≤ k) (u : Value) : Ext a (b.setCell ⟨k, o, s⟩ u) := Below.setCell h hp u
theorem Ext.set0 {g : World} {o : Nat} {s : Option Nat} (h : Ext a b) (k : Ext a g) (u : Value) : Ext a (b.setCell ⟨g.heap.size, o, s⟩ u) := Below.setCell h (Below.size k) u
theorem Ext.set1 {g : World} {o : Nat} {s : Option Nat} (h : Ext a b) (k : Ext a g) (u : Value) : Ext a (b.setCell ⟨g.heap.size + 1, o, s⟩ u) := Below.setCell h (Nat.le_succ_of_le (Below.size k)) u
theorem Ext.set2 {g : World} {o : Nat} {s : Option Nat} (h : Ext a b) (k : Ext a g) (u : Value) : Ext a (b.setCell ⟨g.heap.size + 1 + 1, o, s⟩ u) := Below.setCell h (Nat.le_succ_of_le (Nat.le_succ_of_le (Below.size k))) u
theorem Ext.set3 {g : World} {o : Nat} {s : Option Nat} (h : Ext a b) (k : Ext a g) (u : Value) : Ext a (b.setCell ⟨g.heap.size + 1 + 1 + 1, o, s⟩ u) := Below.setCell h (Nat.le_succ_of_le (Nat.le_succ_of_le (Nat.le_succ_of_le (Below.size k)))) u
theorem Ext.size (h : Ext a b) : a.heap.size ≤ b.heap.size := Below.size h
theorem Ext.below (h : Ext a b) : Below a.heap.size a b := h
theorem Ext.facts (h : Ext w w') : (∀ b o, b < w.heap.size → w'.cell? ⟨b, o, none⟩ = w.cell? ⟨b, o, none⟩) ∧ (∀ b o, b < w.heap.size → w'.frozen? ⟨b, o, none⟩ = w.frozen? ⟨b, o, none⟩) ∧
    (∀ b, b < w.heap.size → b < w'.heap.size) :=
  ⟨fun b o hb => Below.cell h (p := ⟨b, o, none⟩) hb, fun b o hb => Below.frozen h (p := ⟨b, o, none⟩) hb, fun _ hb => Nat.lt_of_lt_of_le hb h.size⟩
end

theorem ret_bool {a b : Bool} (h : a = b) : Ending.returned (.bool a) = .returned (.bool b) := by rw [h]
theorem ret_int {k : IntKind} {a b : Int} (h : a = b) : Ending.returned (.int k a) = .returned (.int k b) := by rw [h]
theorem results_tmp4 {fn : Func} {t u v x : Tmp} (h : fn.results = #[.tmp t, .tmp u, .tmp v, .tmp x]) (tmps : Array Value) (P : Program) (w : World) :
    (results fn tmps).run P w = .ok (.tuple #[tmps.getD t undef, tmps.getD u undef, tmps.getD v undef, tmps.getD x undef]) w := by simp [results, h]
theorem quiet_left {P : Program} {f : FuncId} {args : Array Value} {w : World} {n : Nat} {v : Value}
    (h : Calls P f args (w.drewN n) fun e w' => e = .returned v ∧ w.drewN n = w') : Calls P f args (w.drewN n) fun e w' => e = .returned v ∧ ∃ m, w' = w.drewN m :=
  h.mono fun _ _ ⟨he, hm⟩ => ⟨he, n, hm.symm⟩
theorem quiet_add_left {P : Program} {f : FuncId} {args : Array Value} {w : World} {a n : Nat} {v : Value}
    (h : Calls P f args (w.drewN (a + n)) fun e w' => e = .returned v ∧ w.drewN (a + n) = w') : Calls P f args (w.drewN (a + n)) fun e w'' => e = .returned v ∧ ∃ m, w'' = w.drewN (a + m) :=
  h.mono fun _ _ ⟨he, hm⟩ => ⟨he, n, hm.symm⟩
/-- A fact kept from the walk. -/
theorem hide {p : Prop} (h : p) : Hid p := h
/-- What holds of every world of a region: the cells that stood at its start read as they did. -/
theorem ExtS {a b : World} (h : Ext a b) : (∀ (q o : Nat), q < a.heap.size → b.cell? ⟨q, o, none⟩ = a.cell? ⟨q, o, none⟩) ∧ Ext a b := ⟨h.facts.1, h⟩
theorem own : ownKnob Try.prog.godebug = none := by kernel_rfl
theorem laidOut : laidOutB Try.prog = true := by kernel_rfl

/-- Whether a number lies in a range, both ends included. -/
def inR (n l h : Int) : Bool := decide (l ≤ n) && decide (n ≤ h)
theorem inR_def (n l h : Int) : inR n l h = (decide (l ≤ n) && decide (n ≤ h)) := rfl
theorem inR_true {n l h : Int} (e : inR n l h = true) : l ≤ n ∧ n ≤ h := by simpa [inR] using e
theorem inR_false {n l h : Int} (e : ¬ inR n l h = true) : n < l ∨ h < n := by simp [inR] at e; omega

theorem within_any (n l h : Int) (w : World) : Calls Try.prog 101 #[.int .i64 n, .int .i64 l, .int .i64 h] w fun e w' => e = .returned (.bool (inR n l h)) ∧ w = w' := by
  go_enter Try.func101, Try.ntmps101
  go_wp2
  all_goals (go_ret; simp [inR, *]; try omega)
theorem l01In_any (n l h : Int) (w : World) : Calls Try.prog 95 #[.int .i64 n, .int .i64 l, .int .i64 h] w fun e w' => e = .returned (.bool (inR n l h)) ∧ w = w' := by
  go_enter Try.func95, Try.ntmps95
  go_wp2
  all_goals (go_ret; simp [inR, *]; try omega)
end Go.Proofs.Ytkgbilbicdiadaa
