/- A region whose operations only read, and whose callees make memory and turn nothing that was there: one walk, in the order of the text. No condition. -/
import Derived.Test.YtkgbilbicdiadaaBase
import Derived.Deep.QuietTactic
set_option linter.unusedSimpArgs false
set_option linter.unusedVariables false
namespace Go.Proofs.Ytkgbilbicdiadaa
open Go.RowKit
/-- A world behind W in which nothing old has turned. -/
structure ExtBy (W : World) where
  w : World
  h : Ext W w
instance (W : World) : Inhabited (ExtBy W) := ⟨⟨W, Ext.refl W⟩⟩
/-- The walk in the order of the text, shut: no tactic lays open what is still to come. -/
structure WQ (P : Program) (ops : Array Oper) (C : World → Prop) (Q : Act → Prop) (l : List Oper) (a : Act) : Prop where
  out : wpQuiet P ops C Q l a
theorem WQ.step {P : Program} {ops : Array Oper} {C : World → Prop} {Q : Act → Prop} {a : Act} {o : Oper} {rest : List Oper}
    (h : ∀ K : Act → Prop, (∀ a, WQ P ops C Q rest a → K a) → if Region.wanted o (yielded ops a.tmps) then o.quiet P a C K else K (a.put o.dst undef)) : WQ P ops C Q (o :: rest) a :=
  ⟨wpQuiet_step fun K hK => h K fun a w => hK a w.out⟩
theorem WQ.done {P : Program} {ops : Array Oper} {C : World → Prop} {Q : Act → Prop} {a : Act} (h : Q a) : WQ P ops C Q [] a := ⟨wpQuiet_nil h⟩
theorem wp_region_quietE {P : Program} {id : Nat} {Q : Exit → Act → World → Prop} {a : Act} {w : World} {l : List Oper} (hm : P.follows .mixedOrders = true) (hB : Region.lexB .any l.toArray = true)
    (h : WQ P l.toArray (fun w' => ∃ p : ExtBy w, w' = p.w) (fun a' => ∀ w', (∃ p : ExtBy w, w' = p.w) → Q .normal a' w') l a) : (Code.region id l.toArray true).wp P Q a w :=
  wp_region_quiet (C := fun w' => ∃ p : ExtBy w, w' = p.w) hm hB ⟨⟨w.drew, (Ext.refl w).drew⟩, rfl⟩ (by simpa using h.out)
theorem extby_of {P : Program} {f : FuncId} {args : Array Value} {W : World} {p : ExtBy W} {v : Value}
    (h : Calls P f args p.w fun e w' => e = .returned v ∧ Ext p.w w') : Calls P f args p.w fun e w'' => e = .returned v ∧ ∃ q : ExtBy W, w'' = q.w :=
  h.mono fun _ w'' ⟨he, hE⟩ => ⟨he, ⟨w'', p.h.trans hE⟩, rfl⟩
theorem extby_same {P : Program} {f : FuncId} {args : Array Value} {W : World} {p : ExtBy W} {v : Value}
    (h : Calls P f args p.w fun e w' => e = .returned v ∧ p.w = w') : Calls P f args p.w fun e w'' => e = .returned v ∧ ∃ q : ExtBy W, w'' = q.w :=
  h.mono fun _ w'' ⟨he, hE⟩ => ⟨he, p, hE.symm⟩
theorem ExtBy.cell {W : World} {b o : Nat} {v : Value} (hb : b < W.heap.size) (h : W.cell? ⟨b, o, none⟩ = some v) (p : ExtBy W) : p.w.cell? ⟨b, o, none⟩ = some v := (p.h.facts.1 b o hb).trans h
end Go.Proofs.Ytkgbilbicdiadaa
