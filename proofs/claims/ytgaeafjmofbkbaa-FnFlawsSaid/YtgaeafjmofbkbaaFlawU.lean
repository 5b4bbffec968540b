/- Steps of the region of the law on flaws that makes the sheet with one spot more: the two appends, wherever the box was made. No condition. -/
import Derived.Test.YtgaeafjmofbkbaaDrawF
import Derived.Test.YtgaeafjmofbkbaaFlawR
set_option linter.unusedSimpArgs false
set_option linter.unusedVariables false
namespace Go.Proofs.Ytgaeafjmofbkbaa
open Go.RowKit

theorem size1 (w : World) (o : Obj) : w.heap.size + 1 = (w.alloc o).heap.size := by simp
theorem Blk.newAt {w : World} {vs : List Value} {T : TypeId} {g : Nat} (hg : g = w.heap.size) : Blk (w.alloc (Obj.cells vs.toArray T)) g T vs := by
  subst hg
  exact Blk.new w _ _
theorem own_lit0 {w : World} {base sz g : Nat} {e : TypeId} (hb : base ≤ w.heap.size) (hg : g = w.heap.size) : (w.alloc (.cells #[] e)).ownsRow base e sz (.slice (some ⟨g, 0, none⟩) 0 0) 0 [] := by
  subst hg
  exact World.ownsRow_lit w #[] 0 hb (Nat.zero_le _) (by simp)
theorem own_nils {w : World} {base sz n c : Nat} {e : TypeId} {A : Option Addr} {xs : List Value} (h : w.ownsRow base e sz (.slice A n c) n xs) : A = none → n = 0 ∧ c = 0 := by
  intro e
  subst e
  rcases h.2 with ⟨h, _⟩ | ⟨g, _, _, h, _⟩
  · injection h with _ h1 h2
    exact ⟨h1, h2⟩
  · injection h with h _ _
    cases h
theorem own_blk {w : World} {base n sz g : Nat} {e T : TypeId} {v : Value} {xs vs : List Value} (h : w.ownsRow base e sz v n xs) (hb : Blk w g T vs) (hne : e ≠ T) : v.ownBlock ≠ some g := by
  intro hg
  rcases h.2 with ⟨rfl, _⟩ | ⟨k, cap, cur, rfl, _, hh, _⟩
  · simp [Value.ownBlock] at hg
  · simp [Value.ownBlock] at hg
    subst hg
    have hb' : w.heap[k]? = some (.cells vs.toArray T (0, 0)) := hb
    rw [hb'] at hh
    injection hh with hh
    injection hh with _ h2 _
    exact hne h2.symm
theorem own_put3 {w : World} {base n sz g : Nat} {e T : TypeId} {v : Value} {xs vs : List Value} (h : w.ownsRow base e sz v n xs) (hb : Blk w g T vs) (hne : e ≠ T) (a b c : Value) :
    (((w.setCell ⟨g, 0, none⟩ a).setCell ⟨g, 1, none⟩ b).setCell ⟨g, 2, none⟩ c).ownsRow base e sz v n xs :=
  h.kept (grown_set (grown_set (grown_set ⟨rfl, rfl, rfl, Nat.le_refl _, fun _ _ _ => rfl⟩ 0 a) 1 b) 2 c) (.inr (own_blk h hb hne))

/-- The box of a fresh sheet. -/
abbrev BoxO : Obj := Obj.cells #[Value.int IntKind.i64 0, Value.int IntKind.i64 0, Value.slice none 0 0] 28
abbrev BoxL : List Value := [Value.int IntKind.i64 0, Value.int IntKind.i64 0, Value.slice none 0 0]
section
variable {ops : Array Oper} {o : Oper} {a : Act} {K : Act → World → Prop} {Q : Exit → Act → World → Prop} {E : Prop} {y w1 : World} {Ax : Option Addr} {cx : Nat} {L : List P2}
theorem app1_core {u : World} {g : Nat} (hgd : o.guard = none) (s x : Operand) (ho : o.op = .call { callee := .builtin .append, args := #[s, x], argTypes := #[26, 26] }) (hs : a.eval s = .slice (some ⟨g, 0, none⟩) 0 0) (hx : a.eval x = .slice Ax L.length cx)
    (HL : R2 y Ax L) (hnil : Ax = none → L.length = 0 ∧ cx = 0) (hl : L.length ≤ 1048576) (hE : Ext y u) (hown : u.ownsRow y.heap.size 32 2 (.slice (some ⟨g, 0, none⟩) 0 0) 0 []) (hg : y.heap.size ≤ g)
    (h : ∀ v' w', w'.ownsRow y.heap.size 32 2 v' L.length (enc2 L) → Ext y w' → u.grownBy w' (some g) → K (a.put o.dst v') w') :
    if Region.wanted o (yielded ops a.tmps) = true then Oper.wp Try.prog o a u K Q else E := by
  obtain ⟨i0, hi, hz0, hz1, hz2⟩ := info_parts node_facts
  refine step_append_all hgd s x _ ho y.heap.size 32 i0 (.agg #[.int .i64 0, .int .i64 0]) 2 16 Try.underlying26 hi hz0 hz1 hz2 rfl (by omega) _ 0 [] hs hown Ax L.length cx (enc2 L) hx (Rds.ext HL hE) hnil (enc2_one L) (by unfold maxLen; omega) (by omega) hE.size ?_
  intro v' w' h1 h2
  refine h v' w' (by simpa using h1) (Ext.grown hE h2 (fun k e => ?_)) h2
  have e' : g = k := by injection e
  omega
theorem app1_0 (hgd : o.guard = none) (s x : Operand) (ho : o.op = .call { callee := .builtin .append, args := #[s, x], argTypes := #[26, 26] }) (hs : a.eval s = .slice (some ⟨y.heap.size, 0, none⟩) 0 0) (hx : a.eval x = .slice Ax L.length cx)
    (HL : R2 y Ax L) (hnil : Ax = none → L.length = 0 ∧ cx = 0) (hl : L.length ≤ 1048576)
    (h : ∀ v' w', w'.ownsRow y.heap.size 32 2 v' L.length (enc2 L) → Ext y w' → K (a.put o.dst v') w') :
    if Region.wanted o (yielded ops a.tmps) = true then Oper.wp Try.prog o a (y.alloc (Obj.cells #[] 32)).drew K Q else E :=
  app1_core hgd s x ho hs hx HL hnil hl (((Ext.refl _).alloc _).drew) (show (y.alloc _).ownsRow _ _ _ _ _ _ from own_lit0 (Nat.le_refl _) rfl) (Nat.le_refl _) (fun v' w' h1 h2 _ => h v' w' h1 h2)
theorem app1_1 (hgd : o.guard = none) (s x : Operand) (ho : o.op = .call { callee := .builtin .append, args := #[s, x], argTypes := #[26, 26] }) (hs : a.eval s = .slice (some ⟨y.heap.size, 0, none⟩) 0 0) (hx : a.eval x = .slice Ax L.length cx)
    (HL : R2 y Ax L) (hnil : Ax = none → L.length = 0 ∧ cx = 0) (hl : L.length ≤ 1048576)
    (h : ∀ v' w', w'.ownsRow y.heap.size 32 2 v' L.length (enc2 L) → Ext y w' → Blk w' (y.heap.size + 1) 28 BoxL → K (a.put o.dst v') w') :
    if Region.wanted o (yielded ops a.tmps) = true then Oper.wp Try.prog o a ((y.alloc (Obj.cells #[] 32)).alloc BoxO).drew K Q else E :=
  app1_core hgd s x ho hs hx HL hnil hl ((((Ext.refl _).alloc _).alloc _).drew) (show ((y.alloc _).alloc _).ownsRow _ _ _ _ _ _ from (own_lit0 (Nat.le_refl _) rfl).alloc _) (Nat.le_refl _)
    (fun v' w' h1 h2 h3 => h v' w' h1 h2 (Blk.grown (show Blk ((y.alloc _).alloc (Obj.cells BoxL.toArray _)).drew _ _ BoxL from Blk.newAt (size1 _ _)) h3 (by simp)))
theorem app1_2 (hgd : o.guard = none) (s x : Operand) (ho : o.op = .call { callee := .builtin .append, args := #[s, x], argTypes := #[26, 26] }) (hs : a.eval s = .slice (some ⟨y.heap.size + 1, 0, none⟩) 0 0) (hx : a.eval x = .slice Ax L.length cx)
    (HL : R2 y Ax L) (hnil : Ax = none → L.length = 0 ∧ cx = 0) (hl : L.length ≤ 1048576)
    (h : ∀ v' w', w'.ownsRow y.heap.size 32 2 v' L.length (enc2 L) → Ext y w' → Blk w' y.heap.size 28 BoxL → K (a.put o.dst v') w') :
    if Region.wanted o (yielded ops a.tmps) = true then Oper.wp Try.prog o a ((y.alloc BoxO).alloc (Obj.cells #[] 32)).drew K Q else E :=
  app1_core hgd s x ho hs hx HL hnil hl ((((Ext.refl _).alloc _).alloc _).drew) (show ((y.alloc _).alloc _).ownsRow _ _ _ _ _ _ from own_lit0 (by simp) (size1 _ _)) (by omega)
    (fun v' w' h1 h2 h3 => h v' w' h1 h2 (Blk.grown (show Blk ((y.alloc (Obj.cells BoxL.toArray _)).alloc _).drew _ _ BoxL from Blk.ext (Blk.newAt rfl) (((Ext.refl _).alloc _).drew)) h3 (by simp)))
theorem app2_core {v1 : Value} {u : World} {g : Nat} {p q : Int} (hgd : o.guard = none) (s x : Operand) (ho : o.op = .call { callee := .builtin .append, args := #[s, x], argTypes := #[26, 26] }) (hs : a.eval s = v1) (hx : a.eval x = .slice (some ⟨g, 0, none⟩) 1 1)
    (hown : w1.ownsRow y.heap.size 32 2 v1 L.length (enc2 L)) (hE : Ext y w1) (hl : L.length ≤ 1048576) (hu : Ext w1 u) (hr : Rds u 2 (some ⟨g, 0, none⟩) 1 [.int .i64 p, .int .i64 q])
    (h : ∀ (A : Option Addr) (c : Nat) (X : List P2) (w' : World), Hid (X = L ++ [(p, q)]) → w'.ownsRow y.heap.size 32 2 (.slice A X.length c) X.length (enc2 X) → Ext y w' → (∀ g vs, Blk u g 28 vs → Blk w' g 28 vs) → K (a.put o.dst (.slice A X.length c)) w') :
    if Region.wanted o (yielded ops a.tmps) = true then Oper.wp Try.prog o a u K Q else E := by
  obtain ⟨i0, hi, hz0, hz1, hz2⟩ := info_parts node_facts
  have ho2 := own_ext hown hu
  refine step_append_all hgd s x _ ho y.heap.size 32 i0 (.agg #[.int .i64 0, .int .i64 0]) 2 16 Try.underlying26 hi hz0 hz1 hz2 rfl (by omega) v1 L.length (enc2 L) hs ho2 (some ⟨g, 0, none⟩) 1 1 [.int .i64 p, .int .i64 q] hx hr (by intro h; cases h) (two_cells _ _) (by unfold maxLen; omega) (by omega) (Nat.le_trans hE.size hu.size) ?_
  intro v' w' h1 h2
  have h1' : w'.ownsRow y.heap.size 32 2 v' (L ++ [(p, q)]).length (enc2 (L ++ [(p, q)])) := by rw [enc2_append, List.length_append]; simpa [enc2] using h1
  obtain ⟨A2, c2, hv2, _, _, _⟩ := own_slice h1'
  subst hv2
  exact h A2 c2 _ w' (hide rfl) h1' (Ext.grown (hE.trans hu) h2 (own_base ho2 (Nat.le_refl _))) (fun g vs hb => Blk.grown hb h2 (own_blk ho2 hb (by decide)))
theorem app2_0 {v1 : Value} {p q : Int} (hgd : o.guard = none) (s x : Operand) (ho : o.op = .call { callee := .builtin .append, args := #[s, x], argTypes := #[26, 26] }) (hs : a.eval s = v1) (hx : a.eval x = .slice (some ⟨w1.heap.size, 0, none⟩) 1 1)
    (hown : w1.ownsRow y.heap.size 32 2 v1 L.length (enc2 L)) (hE : Ext y w1) (hl : L.length ≤ 1048576)
    (h : ∀ (A : Option Addr) (c : Nat) (X : List P2) (w' : World), Hid (X = L ++ [(p, q)]) → w'.ownsRow y.heap.size 32 2 (.slice A X.length c) X.length (enc2 X) → Ext y w' → (∀ g vs, Blk w1 g 28 vs → Blk w' g 28 vs) → K (a.put o.dst (.slice A X.length c)) w') :
    if Region.wanted o (yielded ops a.tmps) = true then Oper.wp Try.prog o a (w1.alloc (Obj.cells #[Value.int IntKind.i64 p, Value.int IntKind.i64 q] 32)) K Q else E :=
  app2_core hgd s x ho hs hx hown hE hl ((Ext.refl _).alloc _) (Rds_new _ [_, _] 1 2 _ _ rfl rfl) (fun A c X w' h1 h2 h3 h4 => h A c X w' h1 h2 h3 (fun g vs hb => h4 g vs (hb.ext ((Ext.refl _).alloc _))))
theorem app2_1 {v1 : Value} {p q : Int} (hgd : o.guard = none) (s x : Operand) (ho : o.op = .call { callee := .builtin .append, args := #[s, x], argTypes := #[26, 26] }) (hs : a.eval s = v1) (hx : a.eval x = .slice (some ⟨w1.heap.size, 0, none⟩) 1 1)
    (hown : w1.ownsRow y.heap.size 32 2 v1 L.length (enc2 L)) (hE : Ext y w1) (hl : L.length ≤ 1048576)
    (h : ∀ (A : Option Addr) (c : Nat) (X : List P2) (w' : World), Hid (X = L ++ [(p, q)]) → w'.ownsRow y.heap.size 32 2 (.slice A X.length c) X.length (enc2 X) → Ext y w' → Blk w' (w1.heap.size + 1) 28 BoxL → K (a.put o.dst (.slice A X.length c)) w') :
    if Region.wanted o (yielded ops a.tmps) = true then Oper.wp Try.prog o a ((w1.alloc (Obj.cells #[Value.int IntKind.i64 p, Value.int IntKind.i64 q] 32)).alloc BoxO) K Q else E :=
  app2_core hgd s x ho hs hx hown hE hl (((Ext.refl _).alloc _).alloc _) ((Rds_new _ [_, _] 1 2 _ _ rfl rfl).alloc _) (fun A c X w' h1 h2 h3 h4 => h A c X w' h1 h2 h3 (h4 _ _ (show Blk ((w1.alloc _).alloc (Obj.cells BoxL.toArray _)) _ _ BoxL from Blk.newAt (size1 _ _))))
theorem app2_2 {v1 : Value} {p q : Int} (hgd : o.guard = none) (s x : Operand) (ho : o.op = .call { callee := .builtin .append, args := #[s, x], argTypes := #[26, 26] }) (hs : a.eval s = v1) (hx : a.eval x = .slice (some ⟨w1.heap.size + 1, 0, none⟩) 1 1)
    (hown : w1.ownsRow y.heap.size 32 2 v1 L.length (enc2 L)) (hE : Ext y w1) (hl : L.length ≤ 1048576)
    (h : ∀ (A : Option Addr) (c : Nat) (X : List P2) (w' : World), Hid (X = L ++ [(p, q)]) → w'.ownsRow y.heap.size 32 2 (.slice A X.length c) X.length (enc2 X) → Ext y w' → Blk w' w1.heap.size 28 BoxL → K (a.put o.dst (.slice A X.length c)) w') :
    if Region.wanted o (yielded ops a.tmps) = true then Oper.wp Try.prog o a ((w1.alloc BoxO).alloc (Obj.cells #[Value.int IntKind.i64 p, Value.int IntKind.i64 q] 32)) K Q else E :=
  app2_core hgd s x ho hs hx hown hE hl (((Ext.refl _).alloc _).alloc _) (Rds_new _ [_, _] 1 2 _ _ rfl (size1 _ _)) (fun A c X w' h1 h2 h3 h4 => h A c X w' h1 h2 h3 (h4 _ _ (show Blk ((w1.alloc (Obj.cells BoxL.toArray _)).alloc _) _ _ BoxL from Blk.ext (Blk.newAt rfl) ((Ext.refl _).alloc _))))
end
end Go.Proofs.Ytgaeafjmofbkbaa
