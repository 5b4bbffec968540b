/- Words for draws: the cursor's block alone turns; windows in rows of their own beside it. No condition. -/
import Derived.Test.YtabgcpoaepafjaaGreatWinE
import Derived.Test.YtabgcpoaepafjaaGreatRegK
set_option linter.unusedSimpArgs false
set_option linter.unusedVariables false
namespace Go.Proofs.YtabgcpoaepafjaaGreat
open Go.RowKit

/-- Behind a draw: of old memory the cursor's block alone has turned, and it is a cursor. -/
structure Gx (g : Nat) (l : List Int) (w w' : World) : Prop where
  gr : w.grownBy w' (some g)
  cur : Cur w' g l
section
variable {g : Nat} {l : List Int} {a b c w w' : World}
theorem Gx.trans (h : Gx g l a b) (k : Gx g l b c) : Gx g l a c := ⟨h.gr.trans k.gr, k.cur⟩
theorem Gx.refl (h : Cur w g l) : Gx g l w w := ⟨World.grownBy.refl _ _, h⟩
theorem Gx.ext (h : Cur w g l) (hE : Ext w w') : Gx g l w w' := ⟨ext_grown hE _, h.ext hE⟩
theorem Gx.drew (h : Cur w g l) : Gx g l w w.drew := Gx.ext h (Ext.refl w).drew
theorem Gx.cell (h : Gx g l w w') {q o : Nat} {v : Value} (hq : q < w.heap.size) (hn : q ≠ g) (hc : w.cell? ⟨q, o, none⟩ = some v) : w'.cell? ⟨q, o, none⟩ = some v := (grown_cells h.gr q o hq hn).trans hc
theorem Gx.frz (h : Gx g l w w') {q : Nat} {b : Bool} (hq : q < w.heap.size) (hn : q ≠ g) (hc : ∀ o, w.frozen? ⟨q, o, none⟩ = b) (o : Nat) : w'.frozen? ⟨q, o, none⟩ = b := (grown_frz h.gr q o hq hn).trans (hc o)
theorem Gx.size (h : Gx g l w w') : w.heap.size ≤ w'.heap.size := h.gr.size
theorem Gx.bx (h : Gx g l w w') {bs : List (Nat × List Value)} (ha : Ap (some g) bs) (hb : Bx bs w) : Bx bs w' := Bx.grownA h.gr ha hb
theorem Gx.tr (h : Gx g l w w') {bs : List (Nat × List Value)} (ha : Ap (some g) bs) {w0 : World} (hb : Tr bs w0 w) : Tr bs w' w' := ⟨Bx.grownA h.gr ha hb.1, Ext.refl _⟩
end
/-- A window with rows of its own in blocks from base on, block b left out. -/
structure WD (w : World) (base b : Nat) (N E : List P2) (A B : Option Addr) (c c' : Nat) : Prop where
  nodes : w.ownsRow base 84 2 (.slice A N.length c) N.length (enc2 N)
  leads : w.ownsRow base 110 2 (.slice B E.length c') E.length (enc2 E)
  an : ∀ k, (Value.slice A N.length c).ownBlock = some k → k ≠ b
  al : ∀ k, (Value.slice B E.length c').ownBlock = some k → k ≠ b
section
variable {g base b : Nat} {l : List Int} {w w' : World} {N E : List P2} {A B : Option Addr} {c c' : Nat}
theorem WD.ext (h : WD w base b N E A B c c') (hE : Ext w w') : WD w' base b N E A B c c' := ⟨own_ext h.nodes hE, own_ext h.leads hE, h.an, h.al⟩
theorem WD.gx (h : WD w base b N E A B c c') (hg : Gx g l w w') (hb : g < base) : WD w' base b N E A B c c' :=
  ⟨h.nodes.kept hg.gr (.inr fun e => by have := (h.nodes.lt g e).1; omega), h.leads.kept hg.gr (.inr fun e => by have := (h.leads.lt g e).1; omega), h.an, h.al⟩
theorem WD.set (h : WD w base b N E A B c c') (o : Nat) (v : Value) : WD (w.setCell ⟨b, o, none⟩ v) base b N E A B c c' := ⟨own_setn h.nodes h.an v, own_setn h.leads h.al v, h.an, h.al⟩
theorem WD.low (h : WD w base b N E A B c c') {k : Nat} (hk : k < base) (o : Nat) (v : Value) : WD (w.setCell ⟨k, o, none⟩ v) base b N E A B c c' := ⟨own_setk h.nodes hk v, own_setk h.leads hk v, h.an, h.al⟩
theorem WD.wr (h : WD w base b N E A B c c') (hN : N.length ≤ 1048576) (hE : E.length ≤ 1048576) : WR w N E A B c c' := by
  obtain ⟨_, _, e1, h1, _⟩ := own_slice h.nodes
  obtain ⟨_, _, e2, h2, _⟩ := own_slice h.leads
  injection e1 with _ _ e1
  injection e2 with _ _ e2
  exact ⟨hN, hE, by omega, by omega, Rds.of_own h.nodes, Rds.of_own h.leads⟩
theorem WD.wn (h : WD w base b N E A B c c') : WN w base N E A B c c' := ⟨h.nodes, h.leads⟩
theorem WN.wd {base' : Nat} (h : WN w base' N E A B c c') (hb : base ≤ base') (hbb : b < base') : WD w base b N E A B c c' :=
  ⟨own_mono h.nodes hb, own_mono h.leads hb, fun k e => by have := (h.nodes.lt k e).1; omega, fun k e => by have := (h.leads.lt k e).1; omega⟩
theorem WN.mono {base' : Nat} (h : WN w base' N E A B c c') (hb : base ≤ base') : WN w base N E A B c c' := ⟨own_mono h.nodes hb, own_mono h.leads hb⟩
theorem WN.ext (h : WN w base N E A B c c') (hE : Ext w w') : WN w' base N E A B c c' := ⟨own_ext h.nodes hE, own_ext h.leads hE⟩
theorem WN.gx (h : WN w base N E A B c c') (hg : Gx g l w w') (hb : g < base) : WN w' base N E A B c c' :=
  ⟨h.nodes.kept hg.gr (.inr fun e => by have := (h.nodes.lt g e).1; omega), h.leads.kept hg.gr (.inr fun e => by have := (h.leads.lt g e).1; omega)⟩
theorem WN.low (h : WN w base N E A B c c') {k : Nat} (hk : k < base) (o : Nat) (v : Value) : WN (w.setCell ⟨k, o, none⟩ v) base N E A B c c' := ⟨own_setk h.nodes hk v, own_setk h.leads hk v⟩
theorem WN.wr (h : WN w base N E A B c c') (hN : N.length ≤ 1048576) (hE : E.length ≤ 1048576) : WR w N E A B c c' := by
  obtain ⟨_, _, e1, h1, _⟩ := own_slice h.nodes
  obtain ⟨_, _, e2, h2, _⟩ := own_slice h.leads
  injection e1 with _ _ e1
  injection e2 with _ _ e2
  exact ⟨hN, hE, by omega, by omega, Rds.of_own h.nodes, Rds.of_own h.leads⟩
end
theorem Bx.set2 {w : World} {b : Nat} {u v x y : Value} {bs : List (Nat × List Value)} (h : Bx ((b, [u, v]) :: bs) w) (ha : Ap (some b) bs) : Bx ((b, [x, y]) :: bs) ((w.setCell ⟨b, 0, none⟩ x).setCell ⟨b, 1, none⟩ y) := by
  obtain ⟨⟨h1, h2, h3, h4, _⟩, h5⟩ := h
  have h4 : w.cell? ⟨b, 1, none⟩ = some v := by simpa using h4
  refine ⟨⟨by simpa using h1, fun i => by simp [World.frozen?_setCell, h2], ?_, ?_, trivial⟩, Bx.grownA (row := some b) (grown_set (grown_set (World.grownBy.refl w (some b)) 0 x) 1 y) ha h5⟩
  · simp [go_sem, h3]
  · simp [go_sem, h4]
/-- A window's box behind a store: the world told by the store alone. -/
theorem Tr.set2 {w a W : World} {b : Nat} {u v x y : Value} {bs : List (Nat × List Value)} (h : Tr ((b, [u, v]) :: bs) a w) (ha : Ap (some b) bs) (hW : W = (w.setCell ⟨b, 0, none⟩ x).setCell ⟨b, 1, none⟩ y) : Tr ((b, [x, y]) :: bs) W W := by
  subst hW
  exact ⟨h.1.set2 ha, Ext.refl _⟩
theorem WD.set2 {base b : Nat} {w W : World} {N E : List P2} {A B : Option Addr} {c c' : Nat} {x y : Value} (h : WD w base b N E A B c c') (hW : W = (w.setCell ⟨b, 0, none⟩ x).setCell ⟨b, 1, none⟩ y) : WD W base b N E A B c c' := by
  subst hW
  exact (h.set 0 x).set 1 y
theorem Gx.set2 {g b : Nat} {l : List Int} {w w' W : World} {x y : Value} (h : Gx g l w w') (hb : w.heap.size ≤ b) (hg : g < b) (hW : W = (w'.setCell ⟨b, 0, none⟩ x).setCell ⟨b, 1, none⟩ y) : Gx g l w W := by
  subst hW
  exact ⟨grown_new (grown_new h.gr hb 0 x) hb 1 y, (h.cur.setk hg 0 x).setk hg 1 y⟩
theorem WO.wd {w : World} {base b' b : Nat} {N E : List P2} {A B : Option Addr} {c c' : Nat} (h : WO w b' N E A B c c') (hb : base ≤ b') (hs : w.heap.size ≤ b) : WD w base b N E A B c c' :=
  ⟨own_mono h.nodes hb, own_mono h.leads hb, fun k e => by have := (h.nodes.lt k e).2; omega, fun k e => by have := (h.leads.lt k e).2; omega⟩
theorem own_same {w w' : World} {base n sz : Nat} {T : TypeId} {v : Value} {xs : List Value} (ho : w.ownsRow base T sz v n xs) (hs : ∀ k, v.ownBlock = some k → w'.heap[k]? = w.heap[k]?) : w'.ownsRow base T sz v n xs := by
  rcases ho.2 with ⟨rfl, h0⟩ | ⟨g, c, cur, rfl, h1, h2, h3⟩
  · exact ⟨ho.1, .inl ⟨rfl, h0⟩⟩
  · exact ⟨ho.1, .inr ⟨g, c, cur, rfl, h1, (hs g rfl).trans h2, h3⟩⟩
theorem own_prefix {w : World} {base n m cap sz g : Nat} {T : TypeId} {xs ys : List Value} (h : w.ownsRow base T sz (.slice (some ⟨g, 0, none⟩) (n + m) cap) (n + m) (xs ++ ys)) (hx : xs.length = n * sz) : w.ownsRow base T sz (.slice (some ⟨g, 0, none⟩) n cap) n xs := by
  rcases h.2 with ⟨q, _⟩ | ⟨g', c, cur, q, h1, h2, h3, h4, h5, h6⟩
  · cases q
  · injection q with q1 _ q3
    injection q1 with q1
    injection q1 with q1
    subst q1 q3
    refine ⟨hx, .inr ⟨g, cap, cur, rfl, h1, h2, by omega, h4, h5, ?_⟩⟩
    have e := congrArg (List.take (n * sz)) h6
    rw [List.take_take, List.take_left' hx, Nat.min_eq_left (Nat.mul_le_mul_right _ (by omega))] at e
    exact e
theorem CellsAt.same {w w' : World} {b : Nat} (hblk : w'.heap[b]? = w.heap[b]?) : ∀ {vs : List Value} {i : Nat}, CellsAt w b i vs → CellsAt w' b i vs
  | [], _, _ => trivial
  | _ :: _, _, h => ⟨by rw [← h.1]; exact World.cell?_of_block hblk, CellsAt.same hblk h.2⟩
theorem Bx.same {w w' : World} (hz : w.heap.size ≤ w'.heap.size) : ∀ {bs : List (Nat × List Value)}, (∀ p ∈ bs, w'.heap[p.1]? = w.heap[p.1]?) → Bx bs w → Bx bs w'
  | [], _, _ => trivial
  | (b, vs) :: bs, hb, h => by
    have hblk := hb (b, vs) (by simp)
    refine ⟨⟨Nat.lt_of_lt_of_le h.1.1 hz, fun i => ?_, ?_⟩, Bx.same hz (fun q hq => hb q (by simp [hq])) h.2⟩
    · rw [← h.1.2.1 i]
      exact World.frozen?_of_block hblk
    · exact CellsAt.same hblk h.1.2.2
theorem Cur.grown {w w' : World} {g r : Nat} {l : List Int} (h : Cur w g l) (hg : w.grownBy w' (some r)) (hr : g < r) : Cur w' g l := by
  obtain ⟨A, c, i, h', h1, h2, h3, h4⟩ := h
  exact ⟨A, c, i, h', h1, h2.grown hg (fun e => by injection e; omega), h3.grown (fun h b off e => Nat.lt_trans (h4 h b off e) hr) hg, h4⟩
/-- Worlds of a region with a cursor g and an append to the row of N in block r (capacity d). -/
structure KA (g r base d : Nat) (l : List Int) (N : List P2) (w w' : World) : Prop where
  os : w'.os = w.os
  tape : w'.tape = w.tape
  output : w'.output = w.output
  size : w.heap.size ≤ w'.heap.size
  block : ∀ k, k < w.heap.size → k ≠ g → k ≠ r → w'.heap[k]? = w.heap[k]?
  cur : Cur w' g l
  row : w'.heap[r]? = w.heap[r]? ∨ ∃ x y, w'.ownsRow base 84 2 (.slice (some ⟨r, 0, none⟩) (N.length + 1) d) (N.length + 1) (enc2 (N ++ [(x, y)]))
section
variable {g r base d : Nat} {l : List Int} {N : List P2} {a b c w w' : World}
theorem KA.trans (h : KA g r base d l N a b) (k : KA g r base d l N b c) : KA g r base d l N a c :=
  ⟨k.os.trans h.os, k.tape.trans h.tape, k.output.trans h.output, Nat.le_trans h.size k.size, fun i hi h1 h2 => (k.block i (Nat.lt_of_lt_of_le hi h.size) h1 h2).trans (h.block i hi h1 h2), k.cur, by
    rcases k.row with q | q
    · rcases h.row with p | ⟨x, y, p⟩
      · exact .inl (q.trans p)
      · exact .inr ⟨x, y, own_same p fun i e => by have e : some r = some i := e; injection e with e; subst e; exact q⟩
    · exact .inr q⟩
theorem KA.of_gx (h : Gx g l w w') (hr : r < w.heap.size) (hne : r ≠ g) : KA g r base d l N w w' :=
  ⟨h.gr.os, h.gr.tape, h.gr.output, h.gr.size, fun k hk h1 _ => h.gr.block k hk (fun e => h1 (by injection e)), h.cur, .inl (h.gr.block r hr (fun e => hne (by injection e)))⟩
theorem KA.old (h : KA g r base d l N w w') (ho : w.ownsRow base 84 2 (.slice (some ⟨r, 0, none⟩) N.length d) N.length (enc2 N)) : w'.ownsRow base 84 2 (.slice (some ⟨r, 0, none⟩) N.length d) N.length (enc2 N) := by
  rcases h.row with q | ⟨x, y, q⟩
  · exact own_same ho fun i e => by have e : some r = some i := e; injection e with e; subst e; exact q
  · rw [enc2_append] at q
    exact own_prefix q (enc2_length _)
theorem KA.own (h : KA g r base d l N w w') {b0 n sz : Nat} {T : TypeId} {v : Value} {xs : List Value} (ho : w.ownsRow b0 T sz v n xs) (hs : ∀ k, v.ownBlock = some k → k ≠ g ∧ k ≠ r) : w'.ownsRow b0 T sz v n xs :=
  own_same ho fun k e => h.block k (ho.lt k e).2 (hs k e).1 (hs k e).2
theorem KA.fits (hc : Cur w g l) (hg : w.grownBy w' (some r)) (hr : g < r) {x y : Int} (ho : w'.ownsRow base 84 2 (.slice (some ⟨r, 0, none⟩) (N.length + 1) d) (N.length + 1) (enc2 (N ++ [(x, y)]))) : KA g r base d l N w w' :=
  ⟨hg.os, hg.tape, hg.output, hg.size, fun k hk _ h2 => hg.block k hk (fun e => h2 (by injection e)), hc.grown hg hr, .inr ⟨x, y, ho⟩⟩
theorem KA.bx (h : KA g r base d l N w w') {bs : List (Nat × List Value)} (hb : Bx bs w) (ha : Ap (some g) bs) (hr : Ap (some r) bs) : Bx bs w' := by
  refine Bx.same h.size (fun p hp => ?_) hb
  have : p.1 < w.heap.size ∧ p.1 ≠ g ∧ p.1 ≠ r := by
    clear h
    induction bs with
    | nil => cases hp
    | cons q bs ih =>
      rcases List.mem_cons.1 hp with e | e
      · subst e
        exact ⟨hb.1.1, fun e => ha.1 (by rw [e]), fun e => hr.1 (by rw [e])⟩
      · exact ih hb.2 ha.2 hr.2 e
  exact h.block _ this.1 this.2.1 this.2.2
end
/-- The list appended to, as a value. -/
def AppV (r base d lo g : Nat) (N : List P2) (v : Value) (w : World) : Prop :=
  ∃ (x y : Int) (A : Option Addr) (c : Nat), v = .slice A (N.length + 1) c ∧ w.ownsRow base 84 2 (.slice A (N.length + 1) c) (N.length + 1) (enc2 (N ++ [(x, y)])) ∧ ((A = some ⟨r, 0, none⟩ ∧ c = d) ∨ ∀ k, (Value.slice A (N.length + 1) c).ownBlock = some k → lo ≤ k ∧ k ≠ g ∧ k ≠ r)
theorem AppV.stab {g r base d lo : Nat} {l : List Int} {N : List P2} (hne : r ≠ g) : StabK (KA g r base d l N) (AppV r base d lo g N) := by
  rintro v w w' ⟨x, y, A, c, h1, h2, h3⟩ hK
  rcases h3 with ⟨rfl, rfl⟩ | h3
  · rcases hK.row with q | ⟨x', y', q⟩
    · exact ⟨x, y, _, _, h1, own_same h2 fun i e => by have e : some r = some i := e; injection e with e; subst e; exact q, .inl ⟨rfl, rfl⟩⟩
    · exact ⟨x', y', _, _, h1, q, .inl ⟨rfl, rfl⟩⟩
  · exact ⟨x, y, A, c, h1, hK.own h2 fun k e => (h3 k e).2, .inr h3⟩
end Go.Proofs.YtabgcpoaepafjaaGreat
